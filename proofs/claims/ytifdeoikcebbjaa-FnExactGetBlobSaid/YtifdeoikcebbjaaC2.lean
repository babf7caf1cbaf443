/- The walk of what the law reaches: contracts of functions. -/
import Derived.Test.YtifdeoikcebbjaaC1
set_option linter.unusedVariables false
set_option linter.unusedSimpArgs false
set_option maxRecDepth 20000
set_option maxHeartbeats 400000
namespace Go.Proofs.Ytifdeoikcebbjaa
open Go
theorem c_spec_l08Absorb (w0 : World) (p0 : GCipher) (p1 : (Vector UInt8 32)) (p2 : (Vector UInt8 16)) (r : (Vector UInt8 32)) (hF : XN p0 p1 p2 = some r) :
  Calls Try.prog 85 [(Value.agg (Flat.enc p0).toArray), (Value.agg (Flat.enc p1).toArray), (Value.agg (Flat.enc p2).toArray)].toArray w0 (fun en w' => ∃ v, en = .returned v ∧ (v = (Value.agg (Flat.enc r).toArray) ∧ Kept (Old w0) w0 w')) := by
 refine ZC (n := 59) Try.func85 rfl rfl (Nat.le_of_ble_eq_true rfl) rfl ?_
 intro a hE
 have hM := M.start w0
 unfold XN at hF
 refine Zc (Z5 (cs := cat [[(vI p0.Field)], Flat.enc p0.Box, Flat.enc p0.Mix, Flat.enc p0.Places, [(vI p0.Rounds)]]) hE hM Za (dl rfl) rfl rfl ?_); intro b1 w a hM hE
 refine Z5 (cs := Flat.enc p1) hE hM Za (dl rfl) rfl rfl ?_; intro b3 w a hM hE
 refine Z5 (cs := Flat.enc p2) hE hM Za (dl rfl) rfl rfl ?_; intro b5 w a hM hE
 refine ZO hE hM Za (dl rfl) Yi ?_; intro b7 w a hM hE
 refine Zf (Zc (Zp (cs := Flat.enc p1) hE Za (dl rfl) rfl Yi rfl (hM.rawAt (pre := [_, _])) (Flat.len _) ?_)); intro a hE
 obtain ⟨r9, e10, hF⟩ := bind_some hF
 refine Zw (vs := [(Value.agg (Flat.enc p1).toArray)]) hE Za (dl rfl) rfl cb100 (c_spec_l08Halves _ p1 r9 e10) ?_
 rintro v w a ⟨rfl, hK⟩ hE
 have hM := hM.keep hK
 refine Zd hE Za (dl rfl) rfl ?_; intro a hE
 refine XC hE Za (dl rfl) rfl rfl ?_; intro a hE
 refine XC hE Za (dl rfl) rfl rfl ?_; intro a hE
 refine ZO hE hM Za (dl rfl) ZP ?_; intro b11 w a hM hE
 refine ZO hE hM Za (dl rfl) ZP ?_; intro b13 w a hM hE
 have hM := hM.pull (pre := [_])
 refine Zs (seg := Flat.enc r9.1) (cs' := Flat.enc r9.1) hE hM Za rfl rfl rfl ZP (Flat.len _) (zle flq) (Flat.cell _) (Zq flq) ?_; intro w a hM hE
 have hM := hM.pull (pre := [_])
 refine Zs (seg := Flat.enc r9.2) (cs' := Flat.enc r9.2) hE hM Za rfl rfl rfl ZP (Flat.len _) (zle flq) (Flat.cell _) (Zq flq) ?_; intro w a hM hE
 refine Zf (wp_seq ?_)
 obtain ⟨r16, e17, hF⟩ := bind_some hF
 obtain ⟨r18, e19, hF⟩ := bind_some hF
 refine Wz (n := 59) (hd := [_, _, _, _, _, _, _, _]) (tl := [_, _]) YB rfl rfl [20, 21, 22, 23, 24, 25, 9, 10] (by decide) (fun D u w => M (Old w0) w0 w ([raw b13 (Flat.enc r9.2), raw b11 (Flat.enc r9.1), raw b7 (Flat.enc (Vector.replicate 32 (0 : UInt8))), raw b5 (Flat.enc p2), raw b3 (Flat.enc p1), raw b1 (cat [[(vI p0.Field)], Flat.enc p0.Box, Flat.enc p0.Mix, Flat.enc p0.Places, [(vI p0.Rounds)]])] ++ qL ([mkO 6 (fun v => rawP v (Flat.enc (Vector.replicate 16 (0 : UInt8)))), mkO 7 (fun v => rawP v (Flat.enc (Vector.replicate 16 (0 : UInt8))))] : Mk) D u) ∧ GOk ([([], fun us v => v = (Value.agg (Flat.enc r9.1).toArray)), ([], fun us v => v = (Value.agg (Flat.enc p2).toArray)), ([], fun us v => v = (Value.agg (Flat.enc r16).toArray)), ([], fun us v => v = (Value.agg (Flat.enc r9.2).toArray)), ([], fun us v => v = (Value.agg (Flat.enc p2).toArray)), ([], fun us v => v = (Value.agg (Flat.enc r18).toArray)), ([], fun us v => True), ([], fun us v => True)] : Gs) D u) hE (fun u => ⟨M.qE (M.qE (M.q0 hM.drew u) emO) emO, gok0⟩) (ZH (Zb ?_ (Zb ?_ (Zb ?_ (Zb ?_ (Zb ?_ (Zb ?_ (Zb ?_ (Zb ?_ ZD))))))))) ?_
 ·intro a w ux15 D hE hI hD hdc hp
  have hM0 := hI.1
  have hM := hI.1
  refine Zp (cs := Flat.enc r9.1) hE Za (dl rfl) rfl ZP rfl (hM.rawAt (pre := [_])) (Flat.len _) ?_; intro a hE
  exact ⟨_, _, rfl, hE, M.qKeep hM0 rfl, hI.2.put hD rfl ZF rfl⟩
 ·intro a w ux15 D hE hI hD hdc hp
  have hM0 := hI.1
  have hM := hI.1
  refine Zp (cs := Flat.enc p2) hE Za (dl rfl) rfl ZP rfl (hM.rawAt (pre := [_, _, _])) (Flat.len _) ?_; intro a hE
  exact ⟨_, _, rfl, hE, M.qKeep hM0 rfl, hI.2.put hD rfl ZF rfl⟩
 ·intro a w ux15 D hE hI hD hdc hp
  have d0 : D 0 = true := hp 0 _ rfl rfl
  have g0 := hI.2 0 d0 _ rfl
  have f0 : ux15 0 = (Value.agg (Flat.enc r9.1).toArray) := g0.2
  have d1 : D 1 = true := hp 1 _ rfl rfl
  have g1 := hI.2 1 d1 _ rfl
  have f1 : ux15 1 = (Value.agg (Flat.enc p2).toArray) := g1.2
  have hM0 := hI.1
  refine Zw (vs := [(Value.agg (Flat.enc r9.1).toArray), (Value.agg (Flat.enc p2).toArray)]) hE Za (dl rfl) (Z0 (ZZ (lk rfl f0) (ZZ (lk rfl f1) Xh))) cb101 (Vl _ r9.1 p2 r16 e17) ?_
  rintro v w a ⟨rfl, hK⟩ hE
  exact ⟨_, _, rfl, hE, M.qKeep (hM0.keep hK) rfl, hI.2.put hD rfl ZF rfl⟩
 ·intro a w ux15 D hE hI hD hdc hp
  have hM0 := hI.1
  have hM := hI.1
  refine Zp (cs := Flat.enc r9.2) hE Za (dl rfl) rfl ZP rfl (hM.rawAt (pre := [])) (Flat.len _) ?_; intro a hE
  exact ⟨_, _, rfl, hE, M.qKeep hM0 rfl, hI.2.put hD rfl ZF rfl⟩
 ·intro a w ux15 D hE hI hD hdc hp
  have hM0 := hI.1
  have hM := hI.1
  refine Zp (cs := Flat.enc p2) hE Za (dl rfl) rfl ZP rfl (hM.rawAt (pre := [_, _, _])) (Flat.len _) ?_; intro a hE
  exact ⟨_, _, rfl, hE, M.qKeep hM0 rfl, hI.2.put hD rfl ZF rfl⟩
 ·intro a w ux15 D hE hI hD hdc hp
  have d3 : D 3 = true := hp 0 _ rfl rfl
  have g3 := hI.2 3 d3 _ rfl
  have f3 : ux15 3 = (Value.agg (Flat.enc r9.2).toArray) := g3.2
  have d4 : D 4 = true := hp 1 _ rfl rfl
  have g4 := hI.2 4 d4 _ rfl
  have f4 : ux15 4 = (Value.agg (Flat.enc p2).toArray) := g4.2
  have hM0 := hI.1
  refine Zw (vs := [(Value.agg (Flat.enc r9.2).toArray), (Value.agg (Flat.enc p2).toArray)]) hE Za (dl rfl) (Z0 (ZZ (lk rfl f3) (ZZ (lk rfl f4) Xh))) cb101 (Vl _ r9.2 p2 r18 e19) ?_
  rintro v w a ⟨rfl, hK⟩ hE
  exact ⟨_, _, rfl, hE, M.qKeep (hM0.keep hK) rfl, hI.2.put hD rfl ZF rfl⟩
 ·intro a w ux15 D hE hI hD hdc hp
  have hM0 := hI.1
  have hM := hI.1
  refine ZO hE hM Za (dl rfl) ZP ?_; intro b20 w a hM hE
  have hM := hM.pack1 (it := rawP _ (Flat.enc (Vector.replicate 16 (0 : UInt8)))) (fun w w' fp ⟨b', e, k⟩ hb => ⟨b', e, WC w w' fp k hb⟩) (fun fp k => ⟨_, rfl, k⟩)
  exact ⟨_, _, rfl, hE, M.qFill (mk1 := []) (mk2 := [_]) (f := fun v => rawP v (Flat.enc (Vector.replicate 16 (0 : UInt8)))) hM rfl hD, hI.2.put hD rfl ZF trivial⟩
 ·intro a w ux15 D hE hI hD hdc hp
  have hM0 := hI.1
  have hM := hI.1
  refine ZO hE hM Za (dl rfl) ZP ?_; intro b22 w a hM hE
  have hM := hM.pack1 (it := rawP _ (Flat.enc (Vector.replicate 16 (0 : UInt8)))) (fun w w' fp ⟨b', e, k⟩ hb => ⟨b', e, WC w w' fp k hb⟩) (fun fp k => ⟨_, rfl, k⟩)
  exact ⟨_, _, rfl, hE, M.qFill (mk1 := [_]) (mk2 := []) (f := fun v => rawP v (Flat.enc (Vector.replicate 16 (0 : UInt8)))) hM rfl hD, hI.2.put hD rfl ZF trivial⟩
 ·intro a w ux15 D hE hI hall
  have hM := hI.1
  have d0 : D 0 = true := hall 0 (by decide)
  have d1 : D 1 = true := hall 1 (by decide)
  have d2 : D 2 = true := hall 2 (by decide)
  have d3 : D 3 = true := hall 3 (by decide)
  have d4 : D 4 = true := hall 4 (by decide)
  have d5 : D 5 = true := hall 5 (by decide)
  have d6 : D 6 = true := hall 6 (by decide)
  have d7 : D 7 = true := hall 7 (by decide)
  have f0 : ux15 0 = (Value.agg (Flat.enc r9.1).toArray) := (hI.2 0 d0 _ rfl).2
  have f1 : ux15 1 = (Value.agg (Flat.enc p2).toArray) := (hI.2 1 d1 _ rfl).2
  have f2 : ux15 2 = (Value.agg (Flat.enc r16).toArray) := (hI.2 2 d2 _ rfl).2
  have f3 : ux15 3 = (Value.agg (Flat.enc r9.2).toArray) := (hI.2 3 d3 _ rfl).2
  have f4 : ux15 4 = (Value.agg (Flat.enc p2).toArray) := (hI.2 4 d4 _ rfl).2
  have f5 : ux15 5 = (Value.agg (Flat.enc r18).toArray) := (hI.2 5 d5 _ rfl).2
  have hM := (hM.sure (pre := [_, _, _, _, _, _]) d6).pull
  obtain ⟨_, ⟨b24, f25, _⟩, _⟩ := hM.head
  have hM := hM.pack1 WC (it := raw b24 (Flat.enc (Vector.replicate 16 (0 : UInt8)))) (fun fp ⟨b2, e2, k2⟩ => by rw [f25] at e2; simp [ptr] at e2; subst e2; exact k2)
  have hM := (hM.sure (pre := [_, _, _, _, _, _, _]) d7).pull
  obtain ⟨_, ⟨b26, f27, _⟩, _⟩ := hM.head
  have hM := hM.pack1 WC (it := raw b26 (Flat.enc (Vector.replicate 16 (0 : UInt8)))) (fun fp ⟨b2, e2, k2⟩ => by rw [f27] at e2; simp [ptr] at e2; subst e2; exact k2)
  have hE := hE.sub (e' := [(20, (Value.agg (Flat.enc r9.1).toArray)), (21, (Value.agg (Flat.enc p2).toArray)), (22, (Value.agg (Flat.enc r16).toArray)), (23, (Value.agg (Flat.enc r9.2).toArray)), (24, (Value.agg (Flat.enc p2).toArray)), (25, (Value.agg (Flat.enc r18).toArray)), (9, (ptr b24 0)), (10, (ptr b26 0)), (0, (Value.agg (Flat.enc p0).toArray)), (1, (Value.agg (Flat.enc p1).toArray)), (2, (Value.agg (Flat.enc p2).toArray)), (3, (ptr b1 0)), (4, (ptr b3 0)), (5, (ptr b5 0)), (6, (ptr b7 0)), (7, (ptr b11 0)), (8, (ptr b13 0)), (15, (Value.tuple [(Value.agg (Flat.enc r9.1).toArray), (Value.agg (Flat.enc r9.2).toArray)].toArray)), (16, (Value.agg (Flat.enc p1).toArray)), (17, (Value.tuple [(Value.agg (Flat.enc r9.1).toArray), (Value.agg (Flat.enc r9.2).toArray)].toArray)), (18, (Value.agg (Flat.enc r9.1).toArray)), (19, (Value.agg (Flat.enc r9.2).toArray))]) ⟨lk rfl f0, lk rfl f1, lk rfl f2, lk rfl f3, lk rfl f4, lk rfl f5, lk rfl f25, lk rfl f27, rfl, rfl, rfl, rfl, rfl, rfl, rfl, rfl, rfl, rfl, rfl, rfl, rfl, rfl, trivial⟩
  have hM := hM.pull (pre := [_])
  refine Zs (seg := Flat.enc r16) (cs' := Flat.enc r16) hE hM Za rfl rfl rfl ZP (Flat.len _) (zle flq) (Flat.cell _) (Zq flq) ?_; intro w a hM hE
  have hM := hM.pull (pre := [_])
  refine Zs (seg := Flat.enc r18) (cs' := Flat.enc r18) hE hM Za rfl rfl rfl ZP (Flat.len _) (zle flq) (Flat.cell _) (Zq flq) ?_; intro w a hM hE
  refine Zj (Zx (wp_seq ?_))
  obtain ⟨r29, e30, hF⟩ := bind_some hF
  obtain ⟨r31, e32, hF⟩ := bind_some hF
  refine Wz (n := 59) (hd := [_, _, _, _, _, _, _, _, _]) (tl := [_]) YB rfl rfl [26, 27, 28, 29, 30, 31, 32, 33, 11] (by decide) (fun D u w => M (Old w0) w0 w ([raw b26 (Flat.enc r18), raw b24 (Flat.enc r16), raw b13 (Flat.enc r9.2), raw b11 (Flat.enc r9.1), raw b7 (Flat.enc (Vector.replicate 32 (0 : UInt8))), raw b5 (Flat.enc p2), raw b3 (Flat.enc p1), raw b1 (cat [[(vI p0.Field)], Flat.enc p0.Box, Flat.enc p0.Mix, Flat.enc p0.Places, [(vI p0.Rounds)]])] ++ qL ([mkO 8 (fun v => rawP v (Flat.enc (Vector.replicate 16 (0 : UInt8))))] : Mk) D u) ∧ GOk ([([], fun us v => v = (Value.agg (Flat.enc p0).toArray)), ([], fun us v => v = (Value.agg (Flat.enc r9.2).toArray)), ([], fun us v => v = (Value.agg (Flat.enc r16).toArray)), ([], fun us v => v = (ptr b1 (0 + 289))), ([], fun us v => v = (vI p0.Rounds)), ([], fun us v => v = (Value.agg (Flat.enc r29).toArray)), ([], fun us v => v = (Value.agg (Flat.enc r16).toArray)), ([], fun us v => v = (Value.agg (Flat.enc r31).toArray)), ([], fun us v => True)] : Gs) D u) hE (fun u => ⟨M.qE (M.q0 hM.drew u) emO, gok0⟩) (ZH (Zb ?_ (Zb ?_ (Zb ?_ (Zb ?_ (Zb ?_ (Zb ?_ (Zb ?_ (Zb ?_ (Zb ?_ ZD)))))))))) ?_
  ·intro a w ux28 D hE hI hD hdc hp
   have hM0 := hI.1
   have hM := hI.1
   refine Zp (cs := Flat.enc p0) hE Za (dl rfl) rfl VQ rfl (hM.rawAt (pre := [_, _, _, _, _, _, _])) (ZR (cl1 (n := 1) (m := 289) rfl (cl1 (n := 256) (m := 33) (Flat.len _) (cl1 (n := 16) (m := 17) (Flat.len _) (cl1 (n := 16) (m := 1) (Flat.len _) (cl1 (n := 1) (m := 0) rfl cl0)))))) ?_; intro a hE
   exact ⟨_, _, rfl, hE, M.qKeep hM0 rfl, hI.2.put hD rfl ZF rfl⟩
  ·intro a w ux28 D hE hI hD hdc hp
   have hM0 := hI.1
   have hM := hI.1
   refine Zp (cs := Flat.enc r9.2) hE Za (dl rfl) rfl ZP rfl (hM.rawAt (pre := [_, _])) (Flat.len _) ?_; intro a hE
   exact ⟨_, _, rfl, hE, M.qKeep hM0 rfl, hI.2.put hD rfl ZF rfl⟩
  ·intro a w ux28 D hE hI hD hdc hp
   have hM0 := hI.1
   have hM := hI.1
   refine Zp (cs := Flat.enc r16) hE Za (dl rfl) rfl ZP rfl (hM.rawAt (pre := [_])) (Flat.len _) ?_; intro a hE
   exact ⟨_, _, rfl, hE, M.qKeep hM0 rfl, hI.2.put hD rfl ZF rfl⟩
  ·intro a w ux28 D hE hI hD hdc hp
   have hM0 := hI.1
   refine Zo hE Za (dl rfl) rfl (fd103_4) ?_; intro a hE
   exact ⟨_, _, rfl, hE, M.qKeep hM0 rfl, hI.2.put hD rfl ZF rfl⟩
  ·intro a w ux28 D hE hI hD hdc hp
   have d3 : D 3 = true := hp 0 _ rfl rfl
   have g3 := hI.2 3 d3 _ rfl
   have f3 : ux28 3 = (ptr b1 (0 + 289)) := g3.2
   have hM0 := hI.1
   have hM := hI.1
   refine Zv (v := (vI p0.Rounds)) hE Za (dl rfl) (lk rfl f3) ty2 rfl (At.cat (pre := [[(vI p0.Field)], Flat.enc p0.Box, Flat.enc p0.Mix, Flat.enc p0.Places]) (hM.rawAt (pre := [_, _, _, _, _, _, _])) (cl1 (n := 1) (m := 288) rfl (cl1 (n := 256) (m := 32) (Flat.len _) (cl1 (n := 16) (m := 16) (Flat.len _) (cl1 (n := 16) (m := 0) (Flat.len _) cl0))))) ?_; intro a hE
   exact ⟨_, _, rfl, hE, M.qKeep hM0 rfl, hI.2.put hD rfl ZF rfl⟩
  ·intro a w ux28 D hE hI hD hdc hp
   have d0 : D 0 = true := hp 0 _ rfl rfl
   have g0 := hI.2 0 d0 _ rfl
   have f0 : ux28 0 = (Value.agg (Flat.enc p0).toArray) := g0.2
   have d1 : D 1 = true := hp 1 _ rfl rfl
   have g1 := hI.2 1 d1 _ rfl
   have f1 : ux28 1 = (Value.agg (Flat.enc r9.2).toArray) := g1.2
   have d2 : D 2 = true := hp 2 _ rfl rfl
   have g2 := hI.2 2 d2 _ rfl
   have f2 : ux28 2 = (Value.agg (Flat.enc r16).toArray) := g2.2
   have d4 : D 4 = true := hp 3 _ rfl rfl
   have g4 := hI.2 4 d4 _ rfl
   have f4 : ux28 4 = (vI p0.Rounds) := g4.2
   have hM0 := hI.1
   refine Zw (vs := [(Value.agg (Flat.enc p0).toArray), (Value.agg (Flat.enc r9.2).toArray), (Value.agg (Flat.enc r16).toArray), (vI p0.Rounds)]) hE Za (dl rfl) (Z0 (ZZ (lk rfl f0) (ZZ (lk rfl f1) (ZZ (lk rfl f2) (ZZ (lk rfl f4) Xh))))) cb102 (c_spec_l04Encipher _ p0 r9.2 r16 p0.Rounds r29 e30) ?_
   rintro v w a ⟨rfl, hK⟩ hE
   exact ⟨_, _, rfl, hE, M.qKeep (hM0.keep hK) rfl, hI.2.put hD rfl ZF rfl⟩
  ·intro a w ux28 D hE hI hD hdc hp
   have hM0 := hI.1
   have hM := hI.1
   refine Zp (cs := Flat.enc r16) hE Za (dl rfl) rfl ZP rfl (hM.rawAt (pre := [_])) (Flat.len _) ?_; intro a hE
   exact ⟨_, _, rfl, hE, M.qKeep hM0 rfl, hI.2.put hD rfl ZF rfl⟩
  ·intro a w ux28 D hE hI hD hdc hp
   have d5 : D 5 = true := hp 0 _ rfl rfl
   have g5 := hI.2 5 d5 _ rfl
   have f5 : ux28 5 = (Value.agg (Flat.enc r29).toArray) := g5.2
   have d6 : D 6 = true := hp 1 _ rfl rfl
   have g6 := hI.2 6 d6 _ rfl
   have f6 : ux28 6 = (Value.agg (Flat.enc r16).toArray) := g6.2
   have hM0 := hI.1
   refine Zw (vs := [(Value.agg (Flat.enc r29).toArray), (Value.agg (Flat.enc r16).toArray)]) hE Za (dl rfl) (Z0 (ZZ (lk rfl f5) (ZZ (lk rfl f6) Xh))) cb101 (Vl _ r29 r16 r31 e32) ?_
   rintro v w a ⟨rfl, hK⟩ hE
   exact ⟨_, _, rfl, hE, M.qKeep (hM0.keep hK) rfl, hI.2.put hD rfl ZF rfl⟩
  ·intro a w ux28 D hE hI hD hdc hp
   have hM0 := hI.1
   have hM := hI.1
   refine ZO hE hM Za (dl rfl) ZP ?_; intro b33 w a hM hE
   have hM := hM.pack1 (it := rawP _ (Flat.enc (Vector.replicate 16 (0 : UInt8)))) (fun w w' fp ⟨b', e, k⟩ hb => ⟨b', e, WC w w' fp k hb⟩) (fun fp k => ⟨_, rfl, k⟩)
   exact ⟨_, _, rfl, hE, M.qFill (mk1 := []) (mk2 := []) (f := fun v => rawP v (Flat.enc (Vector.replicate 16 (0 : UInt8)))) hM rfl hD, hI.2.put hD rfl ZF trivial⟩
  ·intro a w ux28 D hE hI hall
   have hM := hI.1
   have d0 : D 0 = true := hall 0 (by decide)
   have d1 : D 1 = true := hall 1 (by decide)
   have d2 : D 2 = true := hall 2 (by decide)
   have d3 : D 3 = true := hall 3 (by decide)
   have d4 : D 4 = true := hall 4 (by decide)
   have d5 : D 5 = true := hall 5 (by decide)
   have d6 : D 6 = true := hall 6 (by decide)
   have d7 : D 7 = true := hall 7 (by decide)
   have d8 : D 8 = true := hall 8 (by decide)
   have f0 : ux28 0 = (Value.agg (Flat.enc p0).toArray) := (hI.2 0 d0 _ rfl).2
   have f1 : ux28 1 = (Value.agg (Flat.enc r9.2).toArray) := (hI.2 1 d1 _ rfl).2
   have f2 : ux28 2 = (Value.agg (Flat.enc r16).toArray) := (hI.2 2 d2 _ rfl).2
   have f3 : ux28 3 = (ptr b1 (0 + 289)) := (hI.2 3 d3 _ rfl).2
   have f4 : ux28 4 = (vI p0.Rounds) := (hI.2 4 d4 _ rfl).2
   have f5 : ux28 5 = (Value.agg (Flat.enc r29).toArray) := (hI.2 5 d5 _ rfl).2
   have f6 : ux28 6 = (Value.agg (Flat.enc r16).toArray) := (hI.2 6 d6 _ rfl).2
   have f7 : ux28 7 = (Value.agg (Flat.enc r31).toArray) := (hI.2 7 d7 _ rfl).2
   have hM := (hM.sure (pre := [_, _, _, _, _, _, _, _]) d8).pull
   obtain ⟨_, ⟨b35, f36, _⟩, _⟩ := hM.head
   have hM := hM.pack1 WC (it := raw b35 (Flat.enc (Vector.replicate 16 (0 : UInt8)))) (fun fp ⟨b2, e2, k2⟩ => by rw [f36] at e2; simp [ptr] at e2; subst e2; exact k2)
   have hE := hE.sub (e' := [(26, (Value.agg (Flat.enc p0).toArray)), (27, (Value.agg (Flat.enc r9.2).toArray)), (28, (Value.agg (Flat.enc r16).toArray)), (29, (ptr b1 (0 + 289))), (30, (vI p0.Rounds)), (31, (Value.agg (Flat.enc r29).toArray)), (32, (Value.agg (Flat.enc r16).toArray)), (33, (Value.agg (Flat.enc r31).toArray)), (11, (ptr b35 0)), (0, (Value.agg (Flat.enc p0).toArray)), (1, (Value.agg (Flat.enc p1).toArray)), (2, (Value.agg (Flat.enc p2).toArray)), (3, (ptr b1 0)), (4, (ptr b3 0)), (5, (ptr b5 0)), (6, (ptr b7 0)), (7, (ptr b11 0)), (8, (ptr b13 0)), (9, (ptr b24 0)), (10, (ptr b26 0)), (15, (Value.tuple [(Value.agg (Flat.enc r9.1).toArray), (Value.agg (Flat.enc r9.2).toArray)].toArray)), (16, (Value.agg (Flat.enc p1).toArray)), (17, (Value.tuple [(Value.agg (Flat.enc r9.1).toArray), (Value.agg (Flat.enc r9.2).toArray)].toArray)), (18, (Value.agg (Flat.enc r9.1).toArray)), (19, (Value.agg (Flat.enc r9.2).toArray)), (20, (Value.agg (Flat.enc r9.1).toArray)), (21, (Value.agg (Flat.enc p2).toArray)), (22, (Value.agg (Flat.enc r16).toArray)), (23, (Value.agg (Flat.enc r9.2).toArray)), (24, (Value.agg (Flat.enc p2).toArray)), (25, (Value.agg (Flat.enc r18).toArray))]) ⟨lk rfl f0, lk rfl f1, lk rfl f2, lk rfl f3, lk rfl f4, lk rfl f5, lk rfl f6, lk rfl f7, lk rfl f36, rfl, rfl, rfl, rfl, rfl, rfl, rfl, rfl, rfl, rfl, rfl, rfl, rfl, rfl, rfl, rfl, rfl, rfl, rfl, rfl, rfl, rfl, trivial⟩
   refine Zs (seg := Flat.enc r31) (cs' := Flat.enc r31) hE hM Za rfl rfl rfl ZP (Flat.len _) (zle flq) (Flat.cell _) (Zq flq) ?_; intro w a hM hE
   refine Zj (Zx (wp_seq ?_))
   obtain ⟨r38, e39, hF⟩ := bind_some hF
   obtain ⟨r40, e41, hF⟩ := bind_some hF
   refine Wz (n := 59) (hd := [_, _, _, _, _, _, _, _, _]) (tl := [_]) YB rfl rfl [34, 35, 36, 37, 38, 39, 40, 41, 12] (by decide) (fun D u w => M (Old w0) w0 w ([raw b35 (Flat.enc r31), raw b26 (Flat.enc r18), raw b24 (Flat.enc r16), raw b13 (Flat.enc r9.2), raw b11 (Flat.enc r9.1), raw b7 (Flat.enc (Vector.replicate 32 (0 : UInt8))), raw b5 (Flat.enc p2), raw b3 (Flat.enc p1), raw b1 (cat [[(vI p0.Field)], Flat.enc p0.Box, Flat.enc p0.Mix, Flat.enc p0.Places, [(vI p0.Rounds)]])] ++ qL ([mkO 8 (fun v => rawP v (Flat.enc (Vector.replicate 16 (0 : UInt8))))] : Mk) D u) ∧ GOk ([([], fun us v => v = (Value.agg (Flat.enc p0).toArray)), ([], fun us v => v = (Value.agg (Flat.enc r31).toArray)), ([], fun us v => v = (Value.agg (Flat.enc r18).toArray)), ([], fun us v => v = (ptr b1 (0 + 289))), ([], fun us v => v = (vI p0.Rounds)), ([], fun us v => v = (Value.agg (Flat.enc r38).toArray)), ([], fun us v => v = (Value.agg (Flat.enc r18).toArray)), ([], fun us v => v = (Value.agg (Flat.enc r40).toArray)), ([], fun us v => True)] : Gs) D u) hE (fun u => ⟨M.qE (M.q0 hM.drew u) emO, gok0⟩) (ZH (Zb ?_ (Zb ?_ (Zb ?_ (Zb ?_ (Zb ?_ (Zb ?_ (Zb ?_ (Zb ?_ (Zb ?_ ZD)))))))))) ?_
   ·intro a w ux37 D hE hI hD hdc hp
    have hM0 := hI.1
    have hM := hI.1
    refine Zp (cs := Flat.enc p0) hE Za (dl rfl) rfl VQ rfl (hM.rawAt (pre := [_, _, _, _, _, _, _, _])) (ZR (cl1 (n := 1) (m := 289) rfl (cl1 (n := 256) (m := 33) (Flat.len _) (cl1 (n := 16) (m := 17) (Flat.len _) (cl1 (n := 16) (m := 1) (Flat.len _) (cl1 (n := 1) (m := 0) rfl cl0)))))) ?_; intro a hE
    exact ⟨_, _, rfl, hE, M.qKeep hM0 rfl, hI.2.put hD rfl ZF rfl⟩
   ·intro a w ux37 D hE hI hD hdc hp
    have hM0 := hI.1
    have hM := hI.1
    refine Zp (cs := Flat.enc r31) hE Za (dl rfl) rfl ZP rfl (hM.rawAt (pre := [])) (Flat.len _) ?_; intro a hE
    exact ⟨_, _, rfl, hE, M.qKeep hM0 rfl, hI.2.put hD rfl ZF rfl⟩
   ·intro a w ux37 D hE hI hD hdc hp
    have hM0 := hI.1
    have hM := hI.1
    refine Zp (cs := Flat.enc r18) hE Za (dl rfl) rfl ZP rfl (hM.rawAt (pre := [_])) (Flat.len _) ?_; intro a hE
    exact ⟨_, _, rfl, hE, M.qKeep hM0 rfl, hI.2.put hD rfl ZF rfl⟩
   ·intro a w ux37 D hE hI hD hdc hp
    have hM0 := hI.1
    refine Zo hE Za (dl rfl) rfl (fd103_4) ?_; intro a hE
    exact ⟨_, _, rfl, hE, M.qKeep hM0 rfl, hI.2.put hD rfl ZF rfl⟩
   ·intro a w ux37 D hE hI hD hdc hp
    have d3 : D 3 = true := hp 0 _ rfl rfl
    have g3 := hI.2 3 d3 _ rfl
    have f3 : ux37 3 = (ptr b1 (0 + 289)) := g3.2
    have hM0 := hI.1
    have hM := hI.1
    refine Zv (v := (vI p0.Rounds)) hE Za (dl rfl) (lk rfl f3) ty2 rfl (At.cat (pre := [[(vI p0.Field)], Flat.enc p0.Box, Flat.enc p0.Mix, Flat.enc p0.Places]) (hM.rawAt (pre := [_, _, _, _, _, _, _, _])) (cl1 (n := 1) (m := 288) rfl (cl1 (n := 256) (m := 32) (Flat.len _) (cl1 (n := 16) (m := 16) (Flat.len _) (cl1 (n := 16) (m := 0) (Flat.len _) cl0))))) ?_; intro a hE
    exact ⟨_, _, rfl, hE, M.qKeep hM0 rfl, hI.2.put hD rfl ZF rfl⟩
   ·intro a w ux37 D hE hI hD hdc hp
    have d0 : D 0 = true := hp 0 _ rfl rfl
    have g0 := hI.2 0 d0 _ rfl
    have f0 : ux37 0 = (Value.agg (Flat.enc p0).toArray) := g0.2
    have d1 : D 1 = true := hp 1 _ rfl rfl
    have g1 := hI.2 1 d1 _ rfl
    have f1 : ux37 1 = (Value.agg (Flat.enc r31).toArray) := g1.2
    have d2 : D 2 = true := hp 2 _ rfl rfl
    have g2 := hI.2 2 d2 _ rfl
    have f2 : ux37 2 = (Value.agg (Flat.enc r18).toArray) := g2.2
    have d4 : D 4 = true := hp 3 _ rfl rfl
    have g4 := hI.2 4 d4 _ rfl
    have f4 : ux37 4 = (vI p0.Rounds) := g4.2
    have hM0 := hI.1
    refine Zw (vs := [(Value.agg (Flat.enc p0).toArray), (Value.agg (Flat.enc r31).toArray), (Value.agg (Flat.enc r18).toArray), (vI p0.Rounds)]) hE Za (dl rfl) (Z0 (ZZ (lk rfl f0) (ZZ (lk rfl f1) (ZZ (lk rfl f2) (ZZ (lk rfl f4) Xh))))) cb102 (c_spec_l04Encipher _ p0 r31 r18 p0.Rounds r38 e39) ?_
    rintro v w a ⟨rfl, hK⟩ hE
    exact ⟨_, _, rfl, hE, M.qKeep (hM0.keep hK) rfl, hI.2.put hD rfl ZF rfl⟩
   ·intro a w ux37 D hE hI hD hdc hp
    have hM0 := hI.1
    have hM := hI.1
    refine Zp (cs := Flat.enc r18) hE Za (dl rfl) rfl ZP rfl (hM.rawAt (pre := [_])) (Flat.len _) ?_; intro a hE
    exact ⟨_, _, rfl, hE, M.qKeep hM0 rfl, hI.2.put hD rfl ZF rfl⟩
   ·intro a w ux37 D hE hI hD hdc hp
    have d5 : D 5 = true := hp 0 _ rfl rfl
    have g5 := hI.2 5 d5 _ rfl
    have f5 : ux37 5 = (Value.agg (Flat.enc r38).toArray) := g5.2
    have d6 : D 6 = true := hp 1 _ rfl rfl
    have g6 := hI.2 6 d6 _ rfl
    have f6 : ux37 6 = (Value.agg (Flat.enc r18).toArray) := g6.2
    have hM0 := hI.1
    refine Zw (vs := [(Value.agg (Flat.enc r38).toArray), (Value.agg (Flat.enc r18).toArray)]) hE Za (dl rfl) (Z0 (ZZ (lk rfl f5) (ZZ (lk rfl f6) Xh))) cb101 (Vl _ r38 r18 r40 e41) ?_
    rintro v w a ⟨rfl, hK⟩ hE
    exact ⟨_, _, rfl, hE, M.qKeep (hM0.keep hK) rfl, hI.2.put hD rfl ZF rfl⟩
   ·intro a w ux37 D hE hI hD hdc hp
    have hM0 := hI.1
    have hM := hI.1
    refine ZO hE hM Za (dl rfl) ZP ?_; intro b42 w a hM hE
    have hM := hM.pack1 (it := rawP _ (Flat.enc (Vector.replicate 16 (0 : UInt8)))) (fun w w' fp ⟨b', e, k⟩ hb => ⟨b', e, WC w w' fp k hb⟩) (fun fp k => ⟨_, rfl, k⟩)
    exact ⟨_, _, rfl, hE, M.qFill (mk1 := []) (mk2 := []) (f := fun v => rawP v (Flat.enc (Vector.replicate 16 (0 : UInt8)))) hM rfl hD, hI.2.put hD rfl ZF trivial⟩
   ·intro a w ux37 D hE hI hall
    have hM := hI.1
    have d0 : D 0 = true := hall 0 (by decide)
    have d1 : D 1 = true := hall 1 (by decide)
    have d2 : D 2 = true := hall 2 (by decide)
    have d3 : D 3 = true := hall 3 (by decide)
    have d4 : D 4 = true := hall 4 (by decide)
    have d5 : D 5 = true := hall 5 (by decide)
    have d6 : D 6 = true := hall 6 (by decide)
    have d7 : D 7 = true := hall 7 (by decide)
    have d8 : D 8 = true := hall 8 (by decide)
    have f0 : ux37 0 = (Value.agg (Flat.enc p0).toArray) := (hI.2 0 d0 _ rfl).2
    have f1 : ux37 1 = (Value.agg (Flat.enc r31).toArray) := (hI.2 1 d1 _ rfl).2
    have f2 : ux37 2 = (Value.agg (Flat.enc r18).toArray) := (hI.2 2 d2 _ rfl).2
    have f3 : ux37 3 = (ptr b1 (0 + 289)) := (hI.2 3 d3 _ rfl).2
    have f4 : ux37 4 = (vI p0.Rounds) := (hI.2 4 d4 _ rfl).2
    have f5 : ux37 5 = (Value.agg (Flat.enc r38).toArray) := (hI.2 5 d5 _ rfl).2
    have f6 : ux37 6 = (Value.agg (Flat.enc r18).toArray) := (hI.2 6 d6 _ rfl).2
    have f7 : ux37 7 = (Value.agg (Flat.enc r40).toArray) := (hI.2 7 d7 _ rfl).2
    have hM := (hM.sure (pre := [_, _, _, _, _, _, _, _, _]) d8).pull
    obtain ⟨_, ⟨b44, f45, _⟩, _⟩ := hM.head
    have hM := hM.pack1 WC (it := raw b44 (Flat.enc (Vector.replicate 16 (0 : UInt8)))) (fun fp ⟨b2, e2, k2⟩ => by rw [f45] at e2; simp [ptr] at e2; subst e2; exact k2)
    have hE := hE.sub (e' := [(34, (Value.agg (Flat.enc p0).toArray)), (35, (Value.agg (Flat.enc r31).toArray)), (36, (Value.agg (Flat.enc r18).toArray)), (37, (ptr b1 (0 + 289))), (38, (vI p0.Rounds)), (39, (Value.agg (Flat.enc r38).toArray)), (40, (Value.agg (Flat.enc r18).toArray)), (41, (Value.agg (Flat.enc r40).toArray)), (12, (ptr b44 0)), (0, (Value.agg (Flat.enc p0).toArray)), (1, (Value.agg (Flat.enc p1).toArray)), (2, (Value.agg (Flat.enc p2).toArray)), (3, (ptr b1 0)), (4, (ptr b3 0)), (5, (ptr b5 0)), (6, (ptr b7 0)), (7, (ptr b11 0)), (8, (ptr b13 0)), (9, (ptr b24 0)), (10, (ptr b26 0)), (11, (ptr b35 0)), (15, (Value.tuple [(Value.agg (Flat.enc r9.1).toArray), (Value.agg (Flat.enc r9.2).toArray)].toArray)), (16, (Value.agg (Flat.enc p1).toArray)), (17, (Value.tuple [(Value.agg (Flat.enc r9.1).toArray), (Value.agg (Flat.enc r9.2).toArray)].toArray)), (18, (Value.agg (Flat.enc r9.1).toArray)), (19, (Value.agg (Flat.enc r9.2).toArray)), (20, (Value.agg (Flat.enc r9.1).toArray)), (21, (Value.agg (Flat.enc p2).toArray)), (22, (Value.agg (Flat.enc r16).toArray)), (23, (Value.agg (Flat.enc r9.2).toArray)), (24, (Value.agg (Flat.enc p2).toArray)), (25, (Value.agg (Flat.enc r18).toArray)), (26, (Value.agg (Flat.enc p0).toArray)), (27, (Value.agg (Flat.enc r9.2).toArray)), (28, (Value.agg (Flat.enc r16).toArray)), (29, (ptr b1 (0 + 289))), (30, (vI p0.Rounds)), (31, (Value.agg (Flat.enc r29).toArray)), (32, (Value.agg (Flat.enc r16).toArray)), (33, (Value.agg (Flat.enc r31).toArray))]) ⟨lk rfl f0, lk rfl f1, lk rfl f2, lk rfl f3, lk rfl f4, lk rfl f5, lk rfl f6, lk rfl f7, lk rfl f45, rfl, rfl, rfl, rfl, rfl, rfl, rfl, rfl, rfl, rfl, rfl, rfl, rfl, rfl, rfl, rfl, rfl, rfl, rfl, rfl, rfl, rfl, rfl, rfl, rfl, rfl, rfl, rfl, rfl, rfl, rfl, trivial⟩
    refine Zs (seg := Flat.enc r40) (cs' := Flat.enc r40) hE hM Za rfl rfl rfl ZP (Flat.len _) (zle flq) (Flat.cell _) (Zq flq) ?_; intro w a hM hE
    refine Zj (Zx (Zc (Xm (parts := []) (vs := []) (cs := Flat.enc (Vector.replicate 32 (0 : UInt8))) hE Za (dl rfl) rfl rfl Yi rfl ty5 YO ?_))); intro a hE
    refine ZO hE hM Za (dl rfl) Yi ?_; intro b46 w a hM hE
    refine Zs (seg := Flat.enc (Vector.replicate 32 (0 : UInt8))) (cs' := Flat.enc (Vector.replicate 32 (0 : UInt8))) hE hM Za rfl rfl rfl Yi (Flat.len _) (zle flq) (Flat.cell _) (Zq flq) ?_; intro w a hM hE
    refine Zf (wp_seq (Zc (Ze hE Za (dl rfl) rfl ?_))); intro a hE
    refine Zf ?_
    obtain ⟨j48, hl49, hF50⟩ := bind_some hF
    refine ZW (fun a w => Env 59 a [(6, (ptr b7 0)), (13, (ptr b46 0))] ∧ M (Old w0) w0 w [raw b46 (Flat.enc j48), raw b7 (Flat.enc (Vector.replicate 32 (0 : UInt8)))]) ?_ ?_
    ·skip
     refine wp_block ?_
     have hM := hM.pull (pre := [_, _, _, _, _, _, _])
     have hM := hM.pull (pre := [_, _, _])
     have hM := hM.pull (pre := [_, _, _])
     have hM := hM.pull (pre := [_, _, _])
     have hM := M.fst (l := [_, _, _, _]) hM
     refine ZM (fun (s51 : (Vector UInt8 32) × Int) a w => Env 59 a [(6, (ptr b7 0)), (11, (ptr b35 0)), (12, (ptr b44 0)), (13, (ptr b46 0)), (14, (vI s51.2))] ∧ M (Old w0) w0 w [raw b46 (Flat.enc s51.1), raw b44 (Flat.enc r40), raw b35 (Flat.enc r31), raw b7 (Flat.enc (Vector.replicate 32 (0 : UInt8)))]) hl49 ⟨hE.sub ⟨rfl, rfl, rfl, rfl, rfl, trivial⟩, hM⟩ ?_
     rintro s51 a w ⟨hE, hM⟩ o54 hs52 hx53
     unfold Xy at hs52
     refine wp_seq (Zc (Zd hE Za (dl rfl) rfl ?_)); intro a hE
     refine Zh hE Za (dl rfl) rfl rfl rfl ?_; intro a hE
     refine Zf ?_
     refine Zt hE rfl ?_ ?_
     ·intro hb55
      have hs52 := Zz hs52 hb55
      refine wp_skip (Zx (wp_seq (wp_block (Zc (Zd hE Za (dl rfl) rfl ?_))))); intro a hE
      refine Zd hE Za (dl rfl) rfl ?_; intro a hE
      obtain ⟨x57, e58, hs52⟩ := bind_some hs52
      have hi56 := Zi e58
      refine Zm hE Za (dl rfl) rfl rfl Try.underlying39 ty5 hi56.1 ?_; intro a hE
      refine Zv (v := (vB x57)) hE Za (dl rfl) rfl ty5 rfl (At.vec (hM.rawAt (pre := [_, _])) hi56.2) ?_; intro a hE
      obtain ⟨x60, e61, hs52⟩ := bind_some hs52
      have hi59 := Zi e61
      refine Zm hE Za (dl rfl) rfl rfl Try.underlying25 ty5 hi59.1 ?_; intro a hE
      refine Zs (seg := [(vB x57)]) (cs' := Flat.enc (s51.1.setIfInBounds (s51.2).toNat x57)) hE hM Za rfl rfl rfl ty5 rfl (ZT (v := s51.1) (x := x57) hi59.1) (Flat.cell (x57 : UInt8)) (ZI (v := s51.1) (x := x57) hi59.1) ?_; intro w a hM hE
      refine Zf (wp_region_lit (Zd hE Za (dl rfl) rfl ?_)); intro a hE
      refine Zh hE Za (dl rfl) rfl rfl rfl ?_; intro a hE
      refine Zd hE Za (dl rfl) rfl ?_; intro a hE
      obtain ⟨x63, e64, hs52⟩ := bind_some hs52
      have hi62 := Zi e64
      refine Zm hE Za (dl rfl) rfl rfl Try.underlying39 ty5 hi62.1 ?_; intro a hE
      refine Zv (v := (vB x63)) hE Za (dl rfl) rfl ty5 rfl (At.vec (hM.rawAt (pre := [_])) hi62.2) ?_; intro a hE
      obtain ⟨x66, e67, hs52⟩ := bind_some hs52
      have hi65 := Zi e67
      refine Zm hE Za (dl rfl) rfl rfl Try.underlying25 ty5 hi65.1 ?_; intro a hE
      refine Zs (seg := [(vB x63)]) (cs' := Flat.enc ((s51.1.setIfInBounds (s51.2).toNat x57).setIfInBounds ((wr (16 + s51.2))).toNat x63)) hE hM Za rfl rfl rfl ty5 rfl (ZT (v := (s51.1.setIfInBounds (s51.2).toNat x57)) (x := x63) hi65.1) (Flat.cell (x63 : UInt8)) (ZI (v := (s51.1.setIfInBounds (s51.2).toNat x57)) (x := x63) hi65.1) ?_; intro w a hM hE
      refine Zj (Yj (Zx (wp_region_lit (Zd hE Za (dl rfl) rfl ?_)))); intro a hE
      refine Zh hE Za (dl rfl) rfl rfl rfl ?_; intro a hE
      refine Ze hE Za (dl rfl) rfl ?_; intro a hE
      refine Zj (Zl ?_)
      exact ⟨_, (Option.some.inj hs52).symm, hE.sub ⟨rfl, rfl, rfl, rfl, rfl, trivial⟩, hM⟩
     ·intro hb55
      have hs52 := ZA hs52 hb55
      refine wp_exit (Zr (Zr (Yk ?_)))
      have ht68 := hx53 _ (Option.some.inj hs52).symm
      subst ht68
      refine Zl ?_
      have hM := hM.pull (pre := [_, _, _])
      have hM := hM.pull (pre := [_])
      have hM := M.fst (l := [_, _]) hM
      exact ⟨hE.sub ⟨rfl, rfl, trivial⟩, hM⟩
    ·skip
     rintro a w ⟨hE, hM⟩
     refine Zx (Zc (Zp (cs := Flat.enc j48) hE Za (dl rfl) rfl Yi rfl (hM.rawAt (pre := [])) (Flat.len _) ?_)); intro a hE
     have hM := hM.pull (pre := [_])
     refine Zs (seg := Flat.enc j48) (cs' := Flat.enc j48) hE hM Za rfl rfl rfl Yi (Flat.len _) (zle flq) (Flat.cell _) (Zq flq) ?_; intro w a hM hE
     refine Zf ?_
     have hr := Option.some.inj hF50
     subst hr
     have hq69 : YR Try.prog _ _ (.cell 6 25) _ := Z7 hE rfl Yi rfl (hM.rawAt (pre := [])) (Flat.len _) rfl
     have hM := M.fst (l := []) hM
     exact wp_ret (Zy hE rfl hq69 ⟨_, rfl, rfl, hM.kept⟩)
noncomputable def Vm (p0 : GCipher) (r8 : (List (Vector UInt8 16))) (s18 : (Vector UInt8 32) × Int) : Option (Fl ((Vector UInt8 32) × Int) (Vector UInt8 32)) :=
 if (decide (s18.2 < (r8.length : Int))) = true then ((idx r8 s18.2).bind fun x24 => (XN p0 s18.1 x24).bind fun r27 => some (Fl.nx (r27, wr (s18.2 + 1)))) else (some (Fl.ex s18.1))
noncomputable def Uw (p0 : GCipher) (p1 : (List UInt8)) : Option ((Vector UInt8 32)) :=
 (Ua p1).bind fun r5 => (WF r5).bind fun r8 => (Vc).bind fun r11 => (ZG (Vm p0 r8) (r11, 0) : Option ((Vector UInt8 32))).bind fun j15 => some j15
theorem c_spec_l08Of (w0 : World) (p0 : GCipher) (p1 : (List UInt8)) (v1_1 : Value) (hv1_1 : Ro w0 p1 [v1_1]) (r : (Vector UInt8 32)) (hF : Uw p0 p1 = some r) :
  Calls Try.prog 63 [(Value.agg (Flat.enc p0).toArray), v1_1].toArray w0 (fun en w' => ∃ v, en = .returned v ∧ (v = (Value.agg (Flat.enc r).toArray) ∧ Kept (Old w0) w0 w')) := by
 refine ZC (n := 26) Try.func63 rfl rfl (Nat.le_of_ble_eq_true rfl) rfl ?_
 intro a hE
 have hM := M.start w0
 unfold Uw at hF
 refine Zc (Z5 (cs := cat [[(vI p0.Field)], Flat.enc p0.Box, Flat.enc p0.Mix, Flat.enc p0.Places, [(vI p0.Rounds)]]) hE hM Za (dl rfl) rfl rfl ?_); intro b1 w a hM hE
 refine ZO hE hM Za (dl rfl) Yi ?_; intro b3 w a hM hE
 refine Zf (Zc (Zd hE Za (dl rfl) rfl ?_)); intro a hE
 obtain ⟨r5, e6, hF⟩ := bind_some hF
 refine Zw (vs := [v1_1]) hE Za (dl rfl) rfl cb83 (c_spec_l08Pad _ p1 v1_1 (hM.rdo hv1_1) r5 e6) ?_
 rintro u7 w a ⟨_, rfl, hFr, hK⟩ hE
 have hM := hM.add hK hFr
 obtain ⟨r8, e9, hF⟩ := bind_some hF
 refine Zw (vs := [u7]) hE Za (dl rfl) rfl cb82 (c_spec_l01Blocks _ r5 u7 (hM.sl (pre := []) noB) r8 e9) ?_
 rintro u10 w a ⟨_, rfl, hFr, hK⟩ hE
 have hM := hM.add hK hFr
 obtain ⟨r11, e12, hF⟩ := bind_some hF
 refine Zw (vs := []) hE Za (dl rfl) rfl cb84 (c_spec_l08Start _  r11 e12) ?_
 rintro v w a ⟨rfl, hK⟩ hE
 have hM := hM.keep hK
 refine ZO hE hM Za (dl rfl) Yi ?_; intro b13 w a hM hE
 refine Ze hE Za (dl rfl) rfl ?_; intro a hE
 refine Zs (seg := Flat.enc r11) (cs' := Flat.enc r11) hE hM Za rfl rfl rfl Yi (Flat.len _) (zle flq) (Flat.cell _) (Zq flq) ?_; intro w a hM hE
 refine Zf (wp_seq (Zc (Ze hE Za (dl rfl) rfl ?_))); intro a hE
 refine Zf ?_
 obtain ⟨j15, hl16, hF17⟩ := bind_some hF
 refine ZW (fun a w => Env 26 a [(4, (ptr b3 0)), (6, (ptr b13 0))] ∧ M (Old w0) w0 w [raw b13 (Flat.enc j15), raw b3 (Flat.enc (Vector.replicate 32 (0 : UInt8)))]) ?_ ?_
 ·skip
  refine wp_block ?_
  have hM := hM.pull (pre := [_, _, _, _])
  have hM := hM.pull (pre := [_, _, _, _])
  have hM := hM.pull (pre := [_, _, _])
  have hM := hM.pull (pre := [_, _, _])
  have hM := M.fst (l := [_, _, _, _]) hM
  refine ZM (fun (s18 : (Vector UInt8 32) × Int) a w => Env 26 a [(2, (ptr b1 0)), (4, (ptr b3 0)), (5, u10), (6, (ptr b13 0)), (7, (vI s18.2))] ∧ M (Old w0) w0 w [raw b13 (Flat.enc s18.1), osl NoB (r8 : List (Vector UInt8 16)) u10, raw b3 (Flat.enc (Vector.replicate 32 (0 : UInt8))), raw b1 (cat [[(vI p0.Field)], Flat.enc p0.Box, Flat.enc p0.Mix, Flat.enc p0.Places, [(vI p0.Rounds)]])]) hl16 ⟨hE.sub ⟨rfl, rfl, rfl, rfl, rfl, trivial⟩, hM⟩ ?_
  rintro s18 a w ⟨hE, hM⟩ o21 hs19 hx20
  unfold Vm at hs19
  refine wp_seq (Zc (Zd hE Za (dl rfl) rfl ?_)); intro a hE
  refine Zd hE Za (dl rfl) rfl ?_; intro a hE
  refine Z8 hE Za (dl rfl) rfl Try.underlying34 (hM.sl (pre := [_]) noB) ?_; intro a hE
  refine Zh hE Za (dl rfl) rfl rfl rfl ?_; intro a hE
  refine Zf ?_
  refine Zt hE rfl ?_ ?_
  ·intro hb22
   have hs19 := Zz hs19 hb22
   refine wp_skip (Zx (wp_seq (wp_block ?_)))
   obtain ⟨x24, e25, hs19⟩ := bind_some hs19
   have hi26 := ZQ e25
   obtain ⟨r27, e28, hs19⟩ := bind_some hs19
   refine Ye (n := 26) (hd := [_, _, _, _, _, _, _]) (tl := [_]) YB rfl rfl [18, 19, 20, 21, 22, 23, 24] (by decide) (fun w => M (Old w0) w0 w [raw b13 (Flat.enc s18.1), osl NoB (r8 : List (Vector UInt8 16)) u10, raw b3 (Flat.enc (Vector.replicate 32 (0 : UInt8))), raw b1 (cat [[(vI p0.Field)], Flat.enc p0.Box, Flat.enc p0.Mix, Flat.enc p0.Places, [(vI p0.Rounds)]])]) (fun j => ([fun v _ => v = (Value.agg (Flat.enc p0).toArray), fun v _ => v = (Value.agg (Flat.enc s18.1).toArray), fun v _ => v = u10, fun v _ => v = (vI s18.2), fun v _ => v = (ptr (sb u10) (so u10 + (s18.2).toNat * 16)), fun v _ => v = (Value.agg (Flat.enc x24).toArray), fun v _ => v = (Value.agg (Flat.enc r27).toArray)] : List (Value → World → Prop)).getD j (fun _ _ => True)) (fun _ _ h hk => h.keep hk) (gup (Zg (Zg (Zg (Zg (Zg (Zg (Zg Ww)))))))) hE hM.drew (ZH (Zb ?_ (Zb ?_ (Zb ?_ (Zb ?_ (Zb ?_ (Zb ?_ (Zb ?_ ZD)))))))) ?_
   ·intro a w ux23 hE hM hp
    refine Zp (cs := Flat.enc p0) hE Za (dl rfl) rfl VQ rfl (hM.rawAt (pre := [_, _, _])) (ZR (cl1 (n := 1) (m := 289) rfl (cl1 (n := 256) (m := 33) (Flat.len _) (cl1 (n := 16) (m := 17) (Flat.len _) (cl1 (n := 16) (m := 1) (Flat.len _) (cl1 (n := 1) (m := 0) rfl cl0)))))) ?_; intro a hE
    exact ⟨Kept.refl _ _, _, _, rfl, hE, rfl⟩
   ·intro a w ux23 hE hM hp
    refine Zp (cs := Flat.enc s18.1) hE Za (dl rfl) rfl Yi rfl (hM.rawAt (pre := [])) (Flat.len _) ?_; intro a hE
    exact ⟨Kept.refl _ _, _, _, rfl, hE, rfl⟩
   ·intro a w ux23 hE hM hp
    refine Zd hE Za (dl rfl) rfl ?_; intro a hE
    exact ⟨Kept.refl _ _, _, _, rfl, hE, rfl⟩
   ·intro a w ux23 hE hM hp
    refine Zd hE Za (dl rfl) rfl ?_; intro a hE
    exact ⟨Kept.refl _ _, _, _, rfl, hE, rfl⟩
   ·intro a w ux23 hE hM hp
    have f2 : ux23 2 = u10 := hp 0 _ rfl rfl
    have f3 : ux23 3 = (vI s18.2) := hp 1 _ rfl rfl
    refine ZK hE Za (dl rfl) (lk rfl f2) (lk rfl f3) Try.underlying34 ZP (hM.sl (pre := [_]) noB) hi26.1 ?_; intro a hE
    exact ⟨Kept.refl _ _, _, _, rfl, hE, rfl⟩
   ·intro a w ux23 hE hM hp
    have f4 : ux23 4 = (ptr (sb u10) (so u10 + (s18.2).toNat * 16)) := hp 0 _ rfl rfl
    refine Zp (cs := Flat.enc x24) hE Za (dl rfl) (lk rfl f4) ZP rfl (Yr (hM.sl (pre := [_]) noB) hi26.2) (Flat.len _) ?_; intro a hE
    exact ⟨Kept.refl _ _, _, _, rfl, hE, rfl⟩
   ·intro a w ux23 hE hM hp
    have f0 : ux23 0 = (Value.agg (Flat.enc p0).toArray) := hp 0 _ rfl rfl
    have f1 : ux23 1 = (Value.agg (Flat.enc s18.1).toArray) := hp 1 _ rfl rfl
    have f5 : ux23 5 = (Value.agg (Flat.enc x24).toArray) := hp 2 _ rfl rfl
    refine Zw (vs := [(Value.agg (Flat.enc p0).toArray), (Value.agg (Flat.enc s18.1).toArray), (Value.agg (Flat.enc x24).toArray)]) hE Za (dl rfl) (Z0 (ZZ (lk rfl f0) (ZZ (lk rfl f1) (ZZ (lk rfl f5) Xh)))) cb85 (c_spec_l08Absorb _ p0 s18.1 x24 r27 e28) ?_
    rintro v w a ⟨rfl, hK⟩ hE
    exact ⟨hK, _, _, rfl, hE, rfl⟩
   ·intro a w ux23 hE hM hg
    have f0 : ux23 0 = (Value.agg (Flat.enc p0).toArray) := hg 0 (by decide)
    have f1 : ux23 1 = (Value.agg (Flat.enc s18.1).toArray) := hg 1 (by decide)
    have f2 : ux23 2 = u10 := hg 2 (by decide)
    have f3 : ux23 3 = (vI s18.2) := hg 3 (by decide)
    have f4 : ux23 4 = (ptr (sb u10) (so u10 + (s18.2).toNat * 16)) := hg 4 (by decide)
    have f5 : ux23 5 = (Value.agg (Flat.enc x24).toArray) := hg 5 (by decide)
    have f6 : ux23 6 = (Value.agg (Flat.enc r27).toArray) := hg 6 (by decide)
    have hE := hE.sub (e' := [(18, (Value.agg (Flat.enc p0).toArray)), (19, (Value.agg (Flat.enc s18.1).toArray)), (20, u10), (21, (vI s18.2)), (22, (ptr (sb u10) (so u10 + (s18.2).toNat * 16))), (23, (Value.agg (Flat.enc x24).toArray)), (24, (Value.agg (Flat.enc r27).toArray)), (2, (ptr b1 0)), (4, (ptr b3 0)), (5, u10), (6, (ptr b13 0)), (7, (vI s18.2)), (12, (vI s18.2)), (13, u10), (14, (vI (r8.length : Int))), (15, (vT (decide (s18.2 < (r8.length : Int)))))]) ⟨lk rfl f0, lk rfl f1, lk rfl f2, lk rfl f3, lk rfl f4, lk rfl f5, lk rfl f6, rfl, rfl, rfl, rfl, rfl, rfl, rfl, rfl, rfl, trivial⟩
    refine Zs (seg := Flat.enc r27) (cs' := Flat.enc r27) hE hM Za rfl rfl rfl Yi (Flat.len _) (zle flq) (Flat.cell _) (Zq flq) ?_; intro w a hM hE
    refine Zj (Yj (Zx (wp_region_lit (Zd hE Za (dl rfl) rfl ?_)))); intro a hE
    refine Zh hE Za (dl rfl) rfl rfl rfl ?_; intro a hE
    refine Ze hE Za (dl rfl) rfl ?_; intro a hE
    refine Zj (Zl ?_)
    exact ⟨_, (Option.some.inj hs19).symm, hE.sub ⟨rfl, rfl, rfl, rfl, rfl, trivial⟩, hM⟩
  ·intro hb22
   have hs19 := ZA hs19 hb22
   refine wp_exit (Zr (Zr (Yk ?_)))
   have ht29 := hx20 _ (Option.some.inj hs19).symm
   subst ht29
   refine Zl ?_
   have hM := hM.pull (pre := [_, _])
   have hM := hM.pull (pre := [_])
   have hM := M.fst (l := [_, _]) hM
   exact ⟨hE.sub ⟨rfl, rfl, trivial⟩, hM⟩
 ·skip
  rintro a w ⟨hE, hM⟩
  refine Zx (Zc (Zp (cs := Flat.enc j15) hE Za (dl rfl) rfl Yi rfl (hM.rawAt (pre := [])) (Flat.len _) ?_)); intro a hE
  have hM := hM.pull (pre := [_])
  refine Zs (seg := Flat.enc j15) (cs' := Flat.enc j15) hE hM Za rfl rfl rfl Yi (Flat.len _) (zle flq) (Flat.cell _) (Zq flq) ?_; intro w a hM hE
  refine Zf ?_
  have hr := Option.some.inj hF17
  subst hr
  have hq30 : YR Try.prog _ _ (.cell 4 25) _ := Z7 hE rfl Yi rfl (hM.rawAt (pre := [])) (Flat.len _) rfl
  have hM := M.fst (l := []) hM
  exact wp_ret (Zy hE rfl hq30 ⟨_, rfl, rfl, hM.kept⟩)
noncomputable def WH (p0 : (List UInt8)) : Option ((Vector UInt8 32)) :=
 (Vj 8).bind fun r3 => (Uw r3 p0).bind fun r5 => some r5
theorem c_spec_l08Digest (w0 : World) (p0 : (List UInt8)) (v0_1 : Value) (hv0_1 : Ro w0 p0 [v0_1]) (r : (Vector UInt8 32)) (hF : WH p0 = some r) :
  Calls Try.prog 76 [v0_1].toArray w0 (fun en w' => ∃ v, en = .returned v ∧ (v = (Value.agg (Flat.enc r).toArray) ∧ Kept (Old w0) w0 w')) := by
 refine ZC (n := 6) Try.func76 rfl rfl (Nat.le_of_ble_eq_true rfl) rfl ?_
 intro a hE
 have hM := M.start w0
 unfold WH at hF
 refine Zc (ZO hE hM Za (dl rfl) Yi ?_); intro b1 w a hM hE
 refine Zf (Zc ?_)
 obtain ⟨r3, e4, hF⟩ := bind_some hF
 refine Zw (vs := [(vI 8)]) hE Za (dl rfl) rfl cb86 (c_spec_l04House _ 8 r3 e4) ?_
 rintro v w a ⟨rfl, hK⟩ hE
 have hM := hM.keep hK
 refine Zd hE Za (dl rfl) rfl ?_; intro a hE
 obtain ⟨r5, e6, hF⟩ := bind_some hF
 refine Zw (vs := [(Value.agg (Flat.enc r3).toArray), v0_1]) hE Za (dl rfl) rfl cb63 (c_spec_l08Of _ r3 p0 v0_1 (hM.rdo hv0_1) r5 e6) ?_
 rintro v w a ⟨rfl, hK⟩ hE
 have hM := hM.keep hK
 refine Zs (seg := Flat.enc r5) (cs' := Flat.enc r5) hE hM Za rfl rfl rfl Yi (Flat.len _) (zle flq) (Flat.cell _) (Zq flq) ?_; intro w a hM hE
 refine Zf ?_
 have hr := Option.some.inj hF
 subst hr
 have hq7 : YR Try.prog _ _ (.cell 2 25) _ := Z7 hE rfl Yi rfl (hM.rawAt (pre := [])) (Flat.len _) rfl
 have hM := M.fst (l := []) hM
 exact wp_ret (Zy hE rfl hq7 ⟨_, rfl, rfl, hM.kept⟩)
noncomputable def Vk (p0 : GBlobs) (s20 : Int) : Option (Fl Int (Fl Unit Bool)) :=
 if (decide (s20 < (p0.Keys.length : Int))) = true then (((idx p0.Data s20).bind fun x29 => if (decide ((x29.length : Int) > 2000)) = true then (some true) else ((idx p0.Counts s20).bind fun x39 => if (decide (x39 < 1)) = true then (some true) else ((idx p0.Counts s20).bind fun x44 => if (decide (x44 > 1000000)) = true then (some true) else ((idx p0.Data s20).bind fun x49 => (WH x49).bind fun r57 => (idx p0.Keys s20).bind fun x59 => some (!decide (r57 = x59))))) : Option (Bool)).bind fun j25 => if j25 = true then (some (Fl.ex (Fl.ex false))) else (some (Fl.nx (wr (s20 + 1))))) else (some (Fl.ex (Fl.nx ())))
noncomputable def UD (p0 : GBlobs) : Option (Bool) :=
 (if (decide ((p0.Keys.length : Int) > 32)) = true then (some true) else (if ((p0.Data.length : Int) != (p0.Keys.length : Int)) = true then (some true) else (if ((p0.Counts.length : Int) != (p0.Keys.length : Int)) = true then (some true) else ((XJ p0.Keys).bind fun r12 => some (!r12)))) : Option (Bool)).bind fun j3 => if j3 = true then (some false) else ((ZG (Vk p0) 0 : Option (Fl Unit Bool)).bind fun j16 => j16.el (fun s19 => some true) (fun r => some r))
theorem c_spec_l09Is (w0 : World) (p0 : GBlobs) (v0_1 : Value) (hv0_1 : Ro w0 p0.Keys [v0_1]) (v0_2 : Value) (hv0_2 : Ro w0 p0.Data [v0_2]) (v0_3 : Value) (hv0_3 : Ro w0 p0.Counts [v0_3]) (r : Bool) (hF : UD p0 = some r) :
  Calls Try.prog 48 [(Value.agg (cat [[v0_1], [v0_2], [v0_3]]).toArray)].toArray w0 (fun en w' => ∃ v, en = .returned v ∧ (v = (vT r) ∧ Kept (Old w0) w0 w')) := by
 refine ZC (n := 72) Try.func48 rfl rfl (Nat.le_of_ble_eq_true rfl) rfl ?_
 intro a hE
 have hM := M.start w0
 unfold UD at hF
 refine Zc (Z5 (cs := cat [[v0_1], [v0_2], [v0_3]]) hE hM Za (dl rfl) rfl rfl ?_); intro b1 w a hM hE
 refine Ze hE Za (dl rfl) rfl ?_; intro a hE
 refine Zf (Zc (Zo hE Za (dl rfl) rfl (VH) ?_)); intro a hE
 refine Zv (v := v0_1) hE Za (dl rfl) rfl ty53 rfl (At.cat (pre := []) (hM.rawAt (pre := [])) cl0) ?_; intro a hE
 refine Z8 hE Za (dl rfl) rfl Try.underlying53 (hM.rd hv0_1) ?_; intro a hE
 refine Ze hE Za (dl rfl) rfl ?_; intro a hE
 refine Zf (wp_seq ?_)
 obtain ⟨j3, hl4, hF5⟩ := bind_some hF
 refine ZS (fun a w => Env 72 a [(1, (ptr b1 0)), (3, (vI (p0.Keys.length : Int))), (29, (vT j3))] ∧ M (Old w0) w0 w [raw b1 (cat [[v0_1], [v0_2], [v0_3]])]) ?_ ?_
 ·skip
  refine wp_region_lit (Zd hE Za (dl rfl) rfl ?_); intro a hE
  refine Zh hE Za (dl rfl) rfl rfl rfl ?_; intro a hE
  refine Zd hE Za (dl rfl) rfl ?_; intro a hE
  refine WV (decide ((p0.Keys.length : Int) > 32)) (fun hb6 => ?_) (fun hb6 => ?_)
  ·have hl4 := Zz hl4 hb6
   refine Zn hE rfl (lkb rfl hb6) rfl (by decide) ?_; intro a hE
   refine Zn hE rfl (lkb rfl hb6) rfl (by decide) ?_; intro a hE
   refine Zn hE rfl (lkb rfl hb6) rfl (by decide) ?_; intro a hE
   refine Zn hE rfl (lkb rfl hb6) rfl (by decide) ?_; intro a hE
   refine Zn hE rfl (lkb rfl hb6) rfl (by decide) ?_; intro a hE
   refine Yn hE Za (dl rfl) (lkb rfl hb6) rfl ?_; intro a hE
   refine Zd hE Za (dl rfl) rfl ?_; intro a hE
   refine Zn hE rfl rfl rfl (by decide) ?_; intro a hE
   refine Zn hE rfl rfl rfl (by decide) ?_; intro a hE
   refine Zn hE rfl rfl rfl (by decide) ?_; intro a hE
   refine Zn hE rfl rfl rfl (by decide) ?_; intro a hE
   refine Zn hE rfl rfl rfl (by decide) ?_; intro a hE
   refine Yn hE Za (dl rfl) rfl rfl ?_; intro a hE
   refine Zd hE Za (dl rfl) rfl ?_; intro a hE
   refine Zn hE rfl rfl rfl (by decide) ?_; intro a hE
   refine Zn hE rfl rfl rfl (by decide) ?_; intro a hE
   refine Zn hE rfl rfl rfl (by decide) ?_; intro a hE
   refine Zn hE rfl rfl rfl (by decide) ?_; intro a hE
   refine Yn hE Za (dl rfl) rfl rfl ?_; intro a hE
   refine Zj ?_
   have ht7 := Option.some.inj hl4
   subst ht7
   refine Zl ?_
   exact ⟨hE.sub ⟨rfl, rfl, rfl, trivial⟩, hM⟩
  ·have hl4 := ZA hl4 hb6
   refine Zo hE (Zk hE rfl (lkb rfl hb6)) (by decide) rfl (UE) ?_; intro a hE
   refine Zv (v := v0_2) hE (Zk hE rfl (lkb rfl hb6)) (by decide) rfl ty45 rfl (At.cat (pre := [[v0_1]]) (hM.rawAt (pre := [])) (cl1 (n := 1) (m := 0) rfl cl0)) ?_; intro a hE
   refine Z8 hE (Zk hE rfl (lkb rfl hb6)) (by decide) rfl Try.underlying45 (hM.rd hv0_2) ?_; intro a hE
   refine Zd hE (Zk hE rfl (lkb rfl hb6)) (by decide) rfl ?_; intro a hE
   refine Zh hE (Zk hE rfl (lkb rfl hb6)) (by decide) rfl rfl rfl ?_; intro a hE
   refine YQ hE Za (dl rfl) (lkb rfl hb6) rfl ?_; intro a hE
   refine Zd hE Za (dl rfl) rfl ?_; intro a hE
   refine WV ((p0.Data.length : Int) != (p0.Keys.length : Int)) (fun hb8 => ?_) (fun hb8 => ?_)
   ·have hl4 := Zz hl4 hb8
    refine Zn hE rfl (lkb rfl hb8) rfl (by decide) ?_; intro a hE
    refine Zn hE rfl (lkb rfl hb8) rfl (by decide) ?_; intro a hE
    refine Zn hE rfl (lkb rfl hb8) rfl (by decide) ?_; intro a hE
    refine Zn hE rfl (lkb rfl hb8) rfl (by decide) ?_; intro a hE
    refine Zn hE rfl (lkb rfl hb8) rfl (by decide) ?_; intro a hE
    refine Yn hE Za (dl rfl) (lkb rfl hb8) rfl ?_; intro a hE
    refine Zd hE Za (dl rfl) rfl ?_; intro a hE
    refine Zn hE rfl rfl rfl (by decide) ?_; intro a hE
    refine Zn hE rfl rfl rfl (by decide) ?_; intro a hE
    refine Zn hE rfl rfl rfl (by decide) ?_; intro a hE
    refine Zn hE rfl rfl rfl (by decide) ?_; intro a hE
    refine Yn hE Za (dl rfl) rfl rfl ?_; intro a hE
    refine Zj ?_
    have ht9 := Option.some.inj hl4
    subst ht9
    refine Zl ?_
    exact ⟨hE.sub ⟨rfl, rfl, rfl, trivial⟩, hM⟩
   ·have hl4 := ZA hl4 hb8
    refine Zo hE (Zk hE rfl (lkb rfl hb8)) (by decide) rfl (fd55_2) ?_; intro a hE
    refine Zv (v := v0_3) hE (Zk hE rfl (lkb rfl hb8)) (by decide) rfl ty46 rfl (At.cat (pre := [[v0_1], [v0_2]]) (hM.rawAt (pre := [])) (cl1 (n := 1) (m := 1) rfl (cl1 (n := 1) (m := 0) rfl cl0))) ?_; intro a hE
    refine Z8 hE (Zk hE rfl (lkb rfl hb8)) (by decide) rfl Try.underlying46 (hM.rd hv0_3) ?_; intro a hE
    refine Zd hE (Zk hE rfl (lkb rfl hb8)) (by decide) rfl ?_; intro a hE
    refine Zh hE (Zk hE rfl (lkb rfl hb8)) (by decide) rfl rfl rfl ?_; intro a hE
    refine YQ hE Za (dl rfl) (lkb rfl hb8) rfl ?_; intro a hE
    refine Zd hE Za (dl rfl) rfl ?_; intro a hE
    refine WV ((p0.Counts.length : Int) != (p0.Keys.length : Int)) (fun hb10 => ?_) (fun hb10 => ?_)
    ·have hl4 := Zz hl4 hb10
     refine Zn hE rfl (lkb rfl hb10) rfl (by decide) ?_; intro a hE
     refine Zn hE rfl (lkb rfl hb10) rfl (by decide) ?_; intro a hE
     refine Zn hE rfl (lkb rfl hb10) rfl (by decide) ?_; intro a hE
     refine Zn hE rfl (lkb rfl hb10) rfl (by decide) ?_; intro a hE
     refine Yn hE Za (dl rfl) (lkb rfl hb10) rfl ?_; intro a hE
     refine Zj ?_
     have ht11 := Option.some.inj hl4
     subst ht11
     refine Zl ?_
     exact ⟨hE.sub ⟨rfl, rfl, rfl, trivial⟩, hM⟩
    ·have hl4 := ZA hl4 hb10
     refine Zo hE (Zk hE rfl (lkb rfl hb10)) (by decide) rfl (VH) ?_; intro a hE
     refine Zv (v := v0_1) hE (Zk hE rfl (lkb rfl hb10)) (by decide) rfl ty53 rfl (At.cat (pre := []) (hM.rawAt (pre := [])) cl0) ?_; intro a hE
     obtain ⟨r12, e13, hl4⟩ := bind_some hl4
     refine Zw (vs := [v0_1]) hE (Zk hE rfl (lkb rfl hb10)) (by decide) rfl cb75 (c_spec_l09Ascending _ p0.Keys v0_1 (hM.rdo hv0_1) r12 e13) ?_
     rintro v w a ⟨rfl, hK⟩ hE
     have hM := hM.keep hK
     refine Un hE (Zk hE rfl (lkb rfl hb10)) (by decide) rfl ?_; intro a hE
     refine YQ hE Za (dl rfl) (lkb rfl hb10) rfl ?_; intro a hE
     refine Zj ?_
     have ht14 := Option.some.inj hl4
     subst ht14
     refine Zl ?_
     exact ⟨hE.sub ⟨rfl, rfl, rfl, trivial⟩, hM⟩
 ·skip
  rintro a w ⟨hE, hM⟩
  refine Zt hE rfl ?_ ?_
  ·intro hb15
   have hF5 := Zz hF5 hb15
   refine Zc (Ze hE Za (dl rfl) rfl ?_); intro a hE
   refine Zf ?_
   have hr := Option.some.inj hF5
   subst hr
   have hM := M.fst (l := []) hM
   exact wp_ret (ZL (Zy hE rfl (Zu hE rfl) ⟨_, rfl, rfl, hM.kept⟩))
  ·intro hb15
   have hF5 := ZA hF5 hb15
   refine wp_skip (Zx (wp_seq (Zc (Ze hE Za (dl rfl) rfl ?_)))); intro a hE
   refine Zf ?_
   obtain ⟨j16, hl17, hF18⟩ := bind_some hF5
   refine ZW (fun a w => ∃ s19 : Unit, j16 = Fl.nx s19 ∧ Env 72 a [] ∧ M (Old w0) w0 w []) ?_ ?_
   ·skip
    refine wp_block ?_
    refine ZM (fun (s20 : Int) a w => Env 72 a [(1, (ptr b1 0)), (3, (vI (p0.Keys.length : Int))), (4, (vI s20))] ∧ M (Old w0) w0 w [raw b1 (cat [[v0_1], [v0_2], [v0_3]])]) hl17 ⟨hE.sub ⟨rfl, rfl, rfl, trivial⟩, hM⟩ ?_
    rintro s20 a w ⟨hE, hM⟩ o23 hs21 hx22
    unfold Vk at hs21
    refine wp_seq (Zc (Zd hE Za (dl rfl) rfl ?_)); intro a hE
    refine Zd hE Za (dl rfl) rfl ?_; intro a hE
    refine Zh hE Za (dl rfl) rfl rfl rfl ?_; intro a hE
    refine Zf ?_
    refine Zt hE rfl ?_ ?_
    ·intro hb24
     have hs21 := Zz hs21 hb24
     refine wp_skip (Zx (wp_seq (wp_block ?_)))
     obtain ⟨j25, hl26, hF27⟩ := bind_some hs21
     refine ZS (fun a w => Env 72 a [(1, (ptr b1 0)), (3, (vI (p0.Keys.length : Int))), (4, (vI s20)), (71, (vT j25))] ∧ M (Old w0) w0 w [raw b1 (cat [[v0_1], [v0_2], [v0_3]])]) ?_ ?_
     ·skip
      obtain ⟨x29, e30, hl26⟩ := bind_some hl26
      have hi31 := ZQ e30
      obtain ⟨cs32, hs33, hA34⟩ := Uz hv0_2 hi31.2 -- ^
      obtain ⟨u35, rfl⟩ := Vo hs33 -- ^
      have h36 := hs33 -- ^
      refine WV (decide ((x29.length : Int) > 2000)) (fun hb37 => ?_) (fun hb37 => ?_)
      ·have hl26 := Zz hl26 hb37
       refine Ye (n := 72) (hd := [_, _, _, _, _, _, _, _, _, _, _, _, _, _, _, _, _, _, _, _, _, _, _, _, _, _, _, _, _, _, _, _, _, _, _, _, _]) (tl := []) YB rfl rfl [35, 36, 37, 38, 39, 40, 41, 42, 43, 44, 45, 46, 47, 48, 49, 50, 51, 52, 53, 54, 55, 56, 57, 58, 59, 60, 61, 62, 63, 64, 65, 66, 67, 68, 69, 70, 71] (by decide) (fun w => M (Old w0) w0 w [raw b1 (cat [[v0_1], [v0_2], [v0_3]])]) (fun j => ([fun v _ => v = (ptr b1 (0 + 1)), fun v _ => v = v0_2, fun v _ => v = (vI s20), fun v _ => v = (ptr (sb v0_2) (so v0_2 + (s20).toNat * 1)), fun v _ => v = u35, fun v _ => v = (vI (x29.length : Int)), fun v _ => v = (vT (decide ((x29.length : Int) > 2000))), fun v _ => v = (vT (decide ((x29.length : Int) > 2000))), fun v _ => v = undef, fun v _ => v = undef, fun v _ => v = undef, fun v _ => v = undef, fun v _ => v = undef, fun v _ => v = undef, fun v _ => v = (vT true), fun v _ => v = (vT true), fun v _ => v = undef, fun v _ => v = undef, fun v _ => v = undef, fun v _ => v = undef, fun v _ => v = undef, fun v _ => v = undef, fun v _ => v = (vT true), fun v _ => v = (vT true), fun v _ => v = undef, fun v _ => v = undef, fun v _ => v = undef, fun v _ => v = undef, fun v _ => v = undef, fun v _ => v = undef, fun v _ => v = undef, fun v _ => v = undef, fun v _ => v = undef, fun v _ => v = undef, fun v _ => v = undef, fun v _ => v = undef, fun v _ => v = (vT true)] : List (Value → World → Prop)).getD j (fun _ _ => True)) (fun _ _ h hk => h.keep hk) (gup (Zg (Zg (Zg (Zg (Zg (Zg (Zg (Zg (Zg (Zg (Zg (Zg (Zg (Zg (Zg (Zg (Zg (Zg (Zg (Zg (Zg (Zg (Zg (Zg (Zg (Zg (Zg (Zg (Zg (Zg (Zg (Zg (Zg (Zg (Zg (Zg (Zg Ww)))))))))))))))))))))))))))))))))))))) hE hM.drew (ZH (Zb ?_ (Zb ?_ (Zb ?_ (Zb ?_ (Zb ?_ (Zb ?_ (Zb ?_ (Zb ?_ (Zb ?_ (Zb ?_ (Zb ?_ (Zb ?_ (Zb ?_ (Zb ?_ (Zb ?_ (Zb ?_ (Zb ?_ (Zb ?_ (Zb ?_ (Zb ?_ (Zb ?_ (Zb ?_ (Zb ?_ (Zb ?_ (Zb ?_ (Zb ?_ (Zb ?_ (Zb ?_ (Zb ?_ (Zb ?_ (Zb ?_ (Zb ?_ (Zb ?_ (Zb ?_ (Zb ?_ (Zb ?_ (Zb ?_ ZD)))))))))))))))))))))))))))))))))))))) ?_
       ·intro a w ux28 hE hM hp
        refine Zo hE Za (dl rfl) rfl (UE) ?_; intro a hE
        exact ⟨Kept.refl _ _, _, _, rfl, hE, rfl⟩
       ·intro a w ux28 hE hM hp
        have f0 : ux28 0 = (ptr b1 (0 + 1)) := hp 0 _ rfl rfl
        refine Zv (v := v0_2) hE Za (dl rfl) (lk rfl f0) ty45 rfl (At.cat (pre := [[v0_1]]) (hM.rawAt (pre := [])) (cl1 (n := 1) (m := 0) rfl cl0)) ?_; intro a hE
        exact ⟨Kept.refl _ _, _, _, rfl, hE, rfl⟩
       ·intro a w ux28 hE hM hp
        refine Zd hE Za (dl rfl) rfl ?_; intro a hE
        exact ⟨Kept.refl _ _, _, _, rfl, hE, rfl⟩
       ·intro a w ux28 hE hM hp
        have f1 : ux28 1 = v0_2 := hp 0 _ rfl rfl
        have f2 : ux28 2 = (vI s20) := hp 1 _ rfl rfl
        refine ZK hE Za (dl rfl) (lk rfl f1) (lk rfl f2) Try.underlying45 Vz (hM.rd hv0_2) hi31.1 ?_; intro a hE
        exact ⟨Kept.refl _ _, _, _, rfl, hE, rfl⟩
       ·intro a w ux28 hE hM hp
        have f3 : ux28 3 = (ptr (sb v0_2) (so v0_2 + (s20).toNat * 1)) := hp 0 _ rfl rfl
        refine Zv (v := u35) hE Za (dl rfl) (lk rfl f3) Vz rfl (hM.atk hA34 (Ux hv0_2 hi31.2)) ?_; intro a hE
        exact ⟨Kept.refl _ _, _, _, rfl, hE, rfl⟩
       ·intro a w ux28 hE hM hp
        have f4 : ux28 4 = u35 := hp 0 _ rfl rfl
        refine Z8 hE Za (dl rfl) (lk rfl f4) Try.underlying50 (hM.rd h36) ?_; intro a hE
        exact ⟨Kept.refl _ _, _, _, rfl, hE, rfl⟩
       ·intro a w ux28 hE hM hp
        have f5 : ux28 5 = (vI (x29.length : Int)) := hp 0 _ rfl rfl
        refine Zh hE Za (dl rfl) (lk rfl f5) rfl rfl ?_; intro a hE
        exact ⟨Kept.refl _ _, _, _, rfl, hE, rfl⟩
       ·intro a w ux28 hE hM hp
        have f6 : ux28 6 = (vT (decide ((x29.length : Int) > 2000))) := hp 0 _ rfl rfl
        refine Zd hE Za (dl rfl) (lk rfl f6) ?_; intro a hE
        exact ⟨Kept.refl _ _, _, _, rfl, hE, rfl⟩
       ·intro a w ux28 hE hM hp
        have f7 : ux28 7 = (vT (decide ((x29.length : Int) > 2000))) := hp 0 _ rfl rfl
        refine Zn hE rfl (lkb (lk rfl f7) hb37) rfl (by decide) ?_; intro a hE
        exact ⟨Kept.refl _ _, _, _, rfl, hE, rfl⟩
       ·intro a w ux28 hE hM hp
        have f7 : ux28 7 = (vT (decide ((x29.length : Int) > 2000))) := hp 1 _ rfl rfl
        have f8 : ux28 8 = undef := hp 0 _ rfl rfl
        refine Zn hE rfl (lkb (lk rfl f7) hb37) rfl (by decide) ?_; intro a hE
        exact ⟨Kept.refl _ _, _, _, rfl, hE, rfl⟩
       ·intro a w ux28 hE hM hp
        have f7 : ux28 7 = (vT (decide ((x29.length : Int) > 2000))) := hp 0 _ rfl rfl
        refine Zn hE rfl (lkb (lk rfl f7) hb37) rfl (by decide) ?_; intro a hE
        exact ⟨Kept.refl _ _, _, _, rfl, hE, rfl⟩
       ·intro a w ux28 hE hM hp
        have f7 : ux28 7 = (vT (decide ((x29.length : Int) > 2000))) := hp 2 _ rfl rfl
        have f9 : ux28 9 = undef := hp 0 _ rfl rfl
        have f10 : ux28 10 = undef := hp 1 _ rfl rfl
        refine Zn hE rfl (lkb (lk rfl f7) hb37) rfl (by decide) ?_; intro a hE
        exact ⟨Kept.refl _ _, _, _, rfl, hE, rfl⟩
       ·intro a w ux28 hE hM hp
        have f7 : ux28 7 = (vT (decide ((x29.length : Int) > 2000))) := hp 1 _ rfl rfl
        have f11 : ux28 11 = undef := hp 0 _ rfl rfl
        refine Zn hE rfl (lkb (lk rfl f7) hb37) rfl (by decide) ?_; intro a hE
        exact ⟨Kept.refl _ _, _, _, rfl, hE, rfl⟩
       ·intro a w ux28 hE hM hp
        have f7 : ux28 7 = (vT (decide ((x29.length : Int) > 2000))) := hp 1 _ rfl rfl
        have f12 : ux28 12 = undef := hp 0 _ rfl rfl
        refine Zn hE rfl (lkb (lk rfl f7) hb37) rfl (by decide) ?_; intro a hE
        exact ⟨Kept.refl _ _, _, _, rfl, hE, rfl⟩
       ·intro a w ux28 hE hM hp
        have f7 : ux28 7 = (vT (decide ((x29.length : Int) > 2000))) := hp 0 _ rfl rfl
        have f13 : ux28 13 = undef := hp 1 _ rfl rfl
        refine Yn hE Za (dl rfl) (lkb (lk rfl f7) hb37) rfl ?_; intro a hE
        exact ⟨Kept.refl _ _, _, _, rfl, hE, rfl⟩
       ·intro a w ux28 hE hM hp
        have f14 : ux28 14 = (vT true) := hp 0 _ rfl rfl
        refine Zd hE Za (dl rfl) (lk rfl f14) ?_; intro a hE
        exact ⟨Kept.refl _ _, _, _, rfl, hE, rfl⟩
       ·intro a w ux28 hE hM hp
        have f15 : ux28 15 = (vT true) := hp 0 _ rfl rfl
        refine Zn hE rfl (lk rfl f15) rfl (by decide) ?_; intro a hE
        exact ⟨Kept.refl _ _, _, _, rfl, hE, rfl⟩
       ·intro a w ux28 hE hM hp
        have f15 : ux28 15 = (vT true) := hp 1 _ rfl rfl
        have f16 : ux28 16 = undef := hp 0 _ rfl rfl
        refine Zn hE rfl (lk rfl f15) rfl (by decide) ?_; intro a hE
        exact ⟨Kept.refl _ _, _, _, rfl, hE, rfl⟩
       ·intro a w ux28 hE hM hp
        have f15 : ux28 15 = (vT true) := hp 0 _ rfl rfl
        refine Zn hE rfl (lk rfl f15) rfl (by decide) ?_; intro a hE
        exact ⟨Kept.refl _ _, _, _, rfl, hE, rfl⟩
       ·intro a w ux28 hE hM hp
        have f15 : ux28 15 = (vT true) := hp 2 _ rfl rfl
        have f17 : ux28 17 = undef := hp 0 _ rfl rfl
        have f18 : ux28 18 = undef := hp 1 _ rfl rfl
        refine Zn hE rfl (lk rfl f15) rfl (by decide) ?_; intro a hE
        exact ⟨Kept.refl _ _, _, _, rfl, hE, rfl⟩
       ·intro a w ux28 hE hM hp
        have f15 : ux28 15 = (vT true) := hp 1 _ rfl rfl
        have f19 : ux28 19 = undef := hp 0 _ rfl rfl
        refine Zn hE rfl (lk rfl f15) rfl (by decide) ?_; intro a hE
        exact ⟨Kept.refl _ _, _, _, rfl, hE, rfl⟩
       ·intro a w ux28 hE hM hp
        have f15 : ux28 15 = (vT true) := hp 1 _ rfl rfl
        have f20 : ux28 20 = undef := hp 0 _ rfl rfl
        refine Zn hE rfl (lk rfl f15) rfl (by decide) ?_; intro a hE
        exact ⟨Kept.refl _ _, _, _, rfl, hE, rfl⟩
       ·intro a w ux28 hE hM hp
        have f15 : ux28 15 = (vT true) := hp 0 _ rfl rfl
        have f21 : ux28 21 = undef := hp 1 _ rfl rfl
        refine Yn hE Za (dl rfl) (lk rfl f15) rfl ?_; intro a hE
        exact ⟨Kept.refl _ _, _, _, rfl, hE, rfl⟩
       ·intro a w ux28 hE hM hp
        have f22 : ux28 22 = (vT true) := hp 0 _ rfl rfl
        refine Zd hE Za (dl rfl) (lk rfl f22) ?_; intro a hE
        exact ⟨Kept.refl _ _, _, _, rfl, hE, rfl⟩
       ·intro a w ux28 hE hM hp
        have f23 : ux28 23 = (vT true) := hp 0 _ rfl rfl
        refine Zn hE rfl (lk rfl f23) rfl (by decide) ?_; intro a hE
        exact ⟨Kept.refl _ _, _, _, rfl, hE, rfl⟩
       ·intro a w ux28 hE hM hp
        have f23 : ux28 23 = (vT true) := hp 1 _ rfl rfl
        have f24 : ux28 24 = undef := hp 0 _ rfl rfl
        refine Zn hE rfl (lk rfl f23) rfl (by decide) ?_; intro a hE
        exact ⟨Kept.refl _ _, _, _, rfl, hE, rfl⟩
       ·intro a w ux28 hE hM hp
        have f23 : ux28 23 = (vT true) := hp 0 _ rfl rfl
        refine Zn hE rfl (lk rfl f23) rfl (by decide) ?_; intro a hE
        exact ⟨Kept.refl _ _, _, _, rfl, hE, rfl⟩
       ·intro a w ux28 hE hM hp
        have f23 : ux28 23 = (vT true) := hp 2 _ rfl rfl
        have f25 : ux28 25 = undef := hp 0 _ rfl rfl
        have f26 : ux28 26 = undef := hp 1 _ rfl rfl
        refine Zn hE rfl (lk rfl f23) rfl (by decide) ?_; intro a hE
        exact ⟨Kept.refl _ _, _, _, rfl, hE, rfl⟩
       ·intro a w ux28 hE hM hp
        have f23 : ux28 23 = (vT true) := hp 1 _ rfl rfl
        have f27 : ux28 27 = undef := hp 0 _ rfl rfl
        refine Zn hE rfl (lk rfl f23) rfl (by decide) ?_; intro a hE
        exact ⟨Kept.refl _ _, _, _, rfl, hE, rfl⟩
       ·intro a w ux28 hE hM hp
        have f23 : ux28 23 = (vT true) := hp 1 _ rfl rfl
        have f28 : ux28 28 = undef := hp 0 _ rfl rfl
        refine Zn hE rfl (lk rfl f23) rfl (by decide) ?_; intro a hE
        exact ⟨Kept.refl _ _, _, _, rfl, hE, rfl⟩
       ·intro a w ux28 hE hM hp
        have f23 : ux28 23 = (vT true) := hp 0 _ rfl rfl
        refine Zn hE rfl (lk rfl f23) rfl (by decide) ?_; intro a hE
        exact ⟨Kept.refl _ _, _, _, rfl, hE, rfl⟩
       ·intro a w ux28 hE hM hp
        have f23 : ux28 23 = (vT true) := hp 1 _ rfl rfl
        have f30 : ux28 30 = undef := hp 0 _ rfl rfl
        refine Zn hE rfl (lk rfl f23) rfl (by decide) ?_; intro a hE
        exact ⟨Kept.refl _ _, _, _, rfl, hE, rfl⟩
       ·intro a w ux28 hE hM hp
        have f23 : ux28 23 = (vT true) := hp 0 _ rfl rfl
        refine Zn hE rfl (lk rfl f23) rfl (by decide) ?_; intro a hE
        exact ⟨Kept.refl _ _, _, _, rfl, hE, rfl⟩
       ·intro a w ux28 hE hM hp
        have f23 : ux28 23 = (vT true) := hp 2 _ rfl rfl
        have f31 : ux28 31 = undef := hp 0 _ rfl rfl
        have f32 : ux28 32 = undef := hp 1 _ rfl rfl
        refine Zn hE rfl (lk rfl f23) rfl (by decide) ?_; intro a hE
        exact ⟨Kept.refl _ _, _, _, rfl, hE, rfl⟩
       ·intro a w ux28 hE hM hp
        have f23 : ux28 23 = (vT true) := hp 1 _ rfl rfl
        have f33 : ux28 33 = undef := hp 0 _ rfl rfl
        refine Zn hE rfl (lk rfl f23) rfl (by decide) ?_; intro a hE
        exact ⟨Kept.refl _ _, _, _, rfl, hE, rfl⟩
       ·intro a w ux28 hE hM hp
        have f23 : ux28 23 = (vT true) := hp 2 _ rfl rfl
        have f29 : ux28 29 = undef := hp 0 _ rfl rfl
        have f34 : ux28 34 = undef := hp 1 _ rfl rfl
        refine Zn hE rfl (lk rfl f23) rfl (by decide) ?_; intro a hE
        exact ⟨Kept.refl _ _, _, _, rfl, hE, rfl⟩
       ·intro a w ux28 hE hM hp
        have f23 : ux28 23 = (vT true) := hp 0 _ rfl rfl
        have f35 : ux28 35 = undef := hp 1 _ rfl rfl
        refine Yn hE Za (dl rfl) (lk rfl f23) rfl ?_; intro a hE
        exact ⟨Kept.refl _ _, _, _, rfl, hE, rfl⟩
       ·intro a w ux28 hE hM hg
        have f0 : ux28 0 = (ptr b1 (0 + 1)) := hg 0 (by decide)
        have f1 : ux28 1 = v0_2 := hg 1 (by decide)
        have f2 : ux28 2 = (vI s20) := hg 2 (by decide)
        have f3 : ux28 3 = (ptr (sb v0_2) (so v0_2 + (s20).toNat * 1)) := hg 3 (by decide)
        have f4 : ux28 4 = u35 := hg 4 (by decide)
        have f5 : ux28 5 = (vI (x29.length : Int)) := hg 5 (by decide)
        have f6 : ux28 6 = (vT (decide ((x29.length : Int) > 2000))) := hg 6 (by decide)
        have f7 : ux28 7 = (vT (decide ((x29.length : Int) > 2000))) := hg 7 (by decide)
        have f8 : ux28 8 = undef := hg 8 (by decide)
        have f9 : ux28 9 = undef := hg 9 (by decide)
        have f10 : ux28 10 = undef := hg 10 (by decide)
        have f11 : ux28 11 = undef := hg 11 (by decide)
        have f12 : ux28 12 = undef := hg 12 (by decide)
        have f13 : ux28 13 = undef := hg 13 (by decide)
        have f14 : ux28 14 = (vT true) := hg 14 (by decide)
        have f15 : ux28 15 = (vT true) := hg 15 (by decide)
        have f16 : ux28 16 = undef := hg 16 (by decide)
        have f17 : ux28 17 = undef := hg 17 (by decide)
        have f18 : ux28 18 = undef := hg 18 (by decide)
        have f19 : ux28 19 = undef := hg 19 (by decide)
        have f20 : ux28 20 = undef := hg 20 (by decide)
        have f21 : ux28 21 = undef := hg 21 (by decide)
        have f22 : ux28 22 = (vT true) := hg 22 (by decide)
        have f23 : ux28 23 = (vT true) := hg 23 (by decide)
        have f24 : ux28 24 = undef := hg 24 (by decide)
        have f25 : ux28 25 = undef := hg 25 (by decide)
        have f26 : ux28 26 = undef := hg 26 (by decide)
        have f27 : ux28 27 = undef := hg 27 (by decide)
        have f28 : ux28 28 = undef := hg 28 (by decide)
        have f29 : ux28 29 = undef := hg 29 (by decide)
        have f30 : ux28 30 = undef := hg 30 (by decide)
        have f31 : ux28 31 = undef := hg 31 (by decide)
        have f32 : ux28 32 = undef := hg 32 (by decide)
        have f33 : ux28 33 = undef := hg 33 (by decide)
        have f34 : ux28 34 = undef := hg 34 (by decide)
        have f35 : ux28 35 = undef := hg 35 (by decide)
        have f36 : ux28 36 = (vT true) := hg 36 (by decide)
        have hE := hE.sub (e' := [(35, (ptr b1 (0 + 1))), (36, v0_2), (37, (vI s20)), (38, (ptr (sb v0_2) (so v0_2 + (s20).toNat * 1))), (39, u35), (40, (vI (x29.length : Int))), (41, (vT (decide ((x29.length : Int) > 2000)))), (42, (vT (decide ((x29.length : Int) > 2000)))), (43, undef), (44, undef), (45, undef), (46, undef), (47, undef), (48, undef), (49, (vT true)), (50, (vT true)), (51, undef), (52, undef), (53, undef), (54, undef), (55, undef), (56, undef), (57, (vT true)), (58, (vT true)), (59, undef), (60, undef), (61, undef), (62, undef), (63, undef), (64, undef), (65, undef), (66, undef), (67, undef), (68, undef), (69, undef), (70, undef), (71, (vT true)), (1, (ptr b1 0)), (3, (vI (p0.Keys.length : Int))), (4, (vI s20)), (30, (vI s20)), (31, (vI (p0.Keys.length : Int))), (32, (vT (decide (s20 < (p0.Keys.length : Int)))))]) ⟨lk rfl f0, lk rfl f1, lk rfl f2, lk rfl f3, lk rfl f4, lk rfl f5, lk rfl f6, lk rfl f7, lk rfl f8, lk rfl f9, lk rfl f10, lk rfl f11, lk rfl f12, lk rfl f13, lk rfl f14, lk rfl f15, lk rfl f16, lk rfl f17, lk rfl f18, lk rfl f19, lk rfl f20, lk rfl f21, lk rfl f22, lk rfl f23, lk rfl f24, lk rfl f25, lk rfl f26, lk rfl f27, lk rfl f28, lk rfl f29, lk rfl f30, lk rfl f31, lk rfl f32, lk rfl f33, lk rfl f34, lk rfl f35, lk rfl f36, rfl, rfl, rfl, rfl, rfl, rfl, trivial⟩
        refine Zj ?_
        have ht38 := Option.some.inj hl26
        subst ht38
        refine Zl ?_
        exact ⟨hE.sub ⟨rfl, rfl, rfl, rfl, trivial⟩, hM⟩
      ·have hl26 := ZA hl26 hb37
       obtain ⟨x39, e40, hl26⟩ := bind_some hl26
       have hi41 := ZQ e40
       refine WV (decide (x39 < 1)) (fun hb42 => ?_) (fun hb42 => ?_)
       ·have hl26 := Zz hl26 hb42
        refine Ye (n := 72) (hd := [_, _, _, _, _, _, _, _, _, _, _, _, _, _, _, _, _, _, _, _, _, _, _, _, _, _, _, _, _, _, _, _, _, _, _, _, _]) (tl := []) YB rfl rfl [35, 36, 37, 38, 39, 40, 41, 42, 43, 44, 45, 46, 47, 48, 49, 50, 51, 52, 53, 54, 55, 56, 57, 58, 59, 60, 61, 62, 63, 64, 65, 66, 67, 68, 69, 70, 71] (by decide) (fun w => M (Old w0) w0 w [raw b1 (cat [[v0_1], [v0_2], [v0_3]])]) (fun j => ([fun v _ => v = (ptr b1 (0 + 1)), fun v _ => v = v0_2, fun v _ => v = (vI s20), fun v _ => v = (ptr (sb v0_2) (so v0_2 + (s20).toNat * 1)), fun v _ => v = u35, fun v _ => v = (vI (x29.length : Int)), fun v _ => v = (vT (decide ((x29.length : Int) > 2000))), fun v _ => v = (vT (decide ((x29.length : Int) > 2000))), fun v _ => v = (ptr b1 (0 + 2)), fun v _ => v = v0_3, fun v _ => v = (vI s20), fun v _ => v = (ptr (sb v0_3) (so v0_3 + (s20).toNat * 1)), fun v _ => v = (vI x39), fun v _ => v = (vT (decide (x39 < 1))), fun v _ => v = (vT (decide (x39 < 1))), fun v _ => v = (vT (decide (x39 < 1))), fun v _ => v = undef, fun v _ => v = undef, fun v _ => v = undef, fun v _ => v = undef, fun v _ => v = undef, fun v _ => v = undef, fun v _ => v = (vT true), fun v _ => v = (vT true), fun v _ => v = undef, fun v _ => v = undef, fun v _ => v = undef, fun v _ => v = undef, fun v _ => v = undef, fun v _ => v = undef, fun v _ => v = undef, fun v _ => v = undef, fun v _ => v = undef, fun v _ => v = undef, fun v _ => v = undef, fun v _ => v = undef, fun v _ => v = (vT true)] : List (Value → World → Prop)).getD j (fun _ _ => True)) (fun _ _ h hk => h.keep hk) (gup (Zg (Zg (Zg (Zg (Zg (Zg (Zg (Zg (Zg (Zg (Zg (Zg (Zg (Zg (Zg (Zg (Zg (Zg (Zg (Zg (Zg (Zg (Zg (Zg (Zg (Zg (Zg (Zg (Zg (Zg (Zg (Zg (Zg (Zg (Zg (Zg (Zg Ww)))))))))))))))))))))))))))))))))))))) hE hM.drew (ZH (Zb ?_ (Zb ?_ (Zb ?_ (Zb ?_ (Zb ?_ (Zb ?_ (Zb ?_ (Zb ?_ (Zb ?_ (Zb ?_ (Zb ?_ (Zb ?_ (Zb ?_ (Zb ?_ (Zb ?_ (Zb ?_ (Zb ?_ (Zb ?_ (Zb ?_ (Zb ?_ (Zb ?_ (Zb ?_ (Zb ?_ (Zb ?_ (Zb ?_ (Zb ?_ (Zb ?_ (Zb ?_ (Zb ?_ (Zb ?_ (Zb ?_ (Zb ?_ (Zb ?_ (Zb ?_ (Zb ?_ (Zb ?_ (Zb ?_ ZD)))))))))))))))))))))))))))))))))))))) ?_
        ·intro a w ux28 hE hM hp
         refine Zo hE Za (dl rfl) rfl (UE) ?_; intro a hE
         exact ⟨Kept.refl _ _, _, _, rfl, hE, rfl⟩
        ·intro a w ux28 hE hM hp
         have f0 : ux28 0 = (ptr b1 (0 + 1)) := hp 0 _ rfl rfl
         refine Zv (v := v0_2) hE Za (dl rfl) (lk rfl f0) ty45 rfl (At.cat (pre := [[v0_1]]) (hM.rawAt (pre := [])) (cl1 (n := 1) (m := 0) rfl cl0)) ?_; intro a hE
         exact ⟨Kept.refl _ _, _, _, rfl, hE, rfl⟩
        ·intro a w ux28 hE hM hp
         refine Zd hE Za (dl rfl) rfl ?_; intro a hE
         exact ⟨Kept.refl _ _, _, _, rfl, hE, rfl⟩
        ·intro a w ux28 hE hM hp
         have f1 : ux28 1 = v0_2 := hp 0 _ rfl rfl
         have f2 : ux28 2 = (vI s20) := hp 1 _ rfl rfl
         refine ZK hE Za (dl rfl) (lk rfl f1) (lk rfl f2) Try.underlying45 Vz (hM.rd hv0_2) hi31.1 ?_; intro a hE
         exact ⟨Kept.refl _ _, _, _, rfl, hE, rfl⟩
        ·intro a w ux28 hE hM hp
         have f3 : ux28 3 = (ptr (sb v0_2) (so v0_2 + (s20).toNat * 1)) := hp 0 _ rfl rfl
         refine Zv (v := u35) hE Za (dl rfl) (lk rfl f3) Vz rfl (hM.atk hA34 (Ux hv0_2 hi31.2)) ?_; intro a hE
         exact ⟨Kept.refl _ _, _, _, rfl, hE, rfl⟩
        ·intro a w ux28 hE hM hp
         have f4 : ux28 4 = u35 := hp 0 _ rfl rfl
         refine Z8 hE Za (dl rfl) (lk rfl f4) Try.underlying50 (hM.rd h36) ?_; intro a hE
         exact ⟨Kept.refl _ _, _, _, rfl, hE, rfl⟩
        ·intro a w ux28 hE hM hp
         have f5 : ux28 5 = (vI (x29.length : Int)) := hp 0 _ rfl rfl
         refine Zh hE Za (dl rfl) (lk rfl f5) rfl rfl ?_; intro a hE
         exact ⟨Kept.refl _ _, _, _, rfl, hE, rfl⟩
        ·intro a w ux28 hE hM hp
         have f6 : ux28 6 = (vT (decide ((x29.length : Int) > 2000))) := hp 0 _ rfl rfl
         refine Zd hE Za (dl rfl) (lk rfl f6) ?_; intro a hE
         exact ⟨Kept.refl _ _, _, _, rfl, hE, rfl⟩
        ·intro a w ux28 hE hM hp
         have f7 : ux28 7 = (vT (decide ((x29.length : Int) > 2000))) := hp 0 _ rfl rfl
         refine Zo hE (Zk hE rfl (lkb (lk rfl f7) hb37)) (by decide) rfl (fd55_2) ?_; intro a hE
         exact ⟨Kept.refl _ _, _, _, rfl, hE, rfl⟩
        ·intro a w ux28 hE hM hp
         have f7 : ux28 7 = (vT (decide ((x29.length : Int) > 2000))) := hp 1 _ rfl rfl
         have f8 : ux28 8 = (ptr b1 (0 + 2)) := hp 0 _ rfl rfl
         refine Zv (v := v0_3) hE (Zk hE rfl (lkb (lk rfl f7) hb37)) (by decide) (lk rfl f8) ty46 rfl (At.cat (pre := [[v0_1], [v0_2]]) (hM.rawAt (pre := [])) (cl1 (n := 1) (m := 1) rfl (cl1 (n := 1) (m := 0) rfl cl0))) ?_; intro a hE
         exact ⟨Kept.refl _ _, _, _, rfl, hE, rfl⟩
        ·intro a w ux28 hE hM hp
         have f7 : ux28 7 = (vT (decide ((x29.length : Int) > 2000))) := hp 0 _ rfl rfl
         refine Zd hE (Zk hE rfl (lkb (lk rfl f7) hb37)) (by decide) rfl ?_; intro a hE
         exact ⟨Kept.refl _ _, _, _, rfl, hE, rfl⟩
        ·intro a w ux28 hE hM hp
         have f7 : ux28 7 = (vT (decide ((x29.length : Int) > 2000))) := hp 2 _ rfl rfl
         have f9 : ux28 9 = v0_3 := hp 0 _ rfl rfl
         have f10 : ux28 10 = (vI s20) := hp 1 _ rfl rfl
         refine ZK hE (Zk hE rfl (lkb (lk rfl f7) hb37)) (by decide) (lk rfl f9) (lk rfl f10) Try.underlying46 ty2 (hM.rd hv0_3) hi41.1 ?_; intro a hE
         exact ⟨Kept.refl _ _, _, _, rfl, hE, rfl⟩
        ·intro a w ux28 hE hM hp
         have f7 : ux28 7 = (vT (decide ((x29.length : Int) > 2000))) := hp 1 _ rfl rfl
         have f11 : ux28 11 = (ptr (sb v0_3) (so v0_3 + (s20).toNat * 1)) := hp 0 _ rfl rfl
         refine Zv (v := (vI x39)) hE (Zk hE rfl (lkb (lk rfl f7) hb37)) (by decide) (lk rfl f11) ty2 rfl (Yr (hM.rd hv0_3) hi41.2) ?_; intro a hE
         exact ⟨Kept.refl _ _, _, _, rfl, hE, rfl⟩
        ·intro a w ux28 hE hM hp
         have f7 : ux28 7 = (vT (decide ((x29.length : Int) > 2000))) := hp 1 _ rfl rfl
         have f12 : ux28 12 = (vI x39) := hp 0 _ rfl rfl
         refine Zh hE (Zk hE rfl (lkb (lk rfl f7) hb37)) (by decide) (lk rfl f12) rfl rfl ?_; intro a hE
         exact ⟨Kept.refl _ _, _, _, rfl, hE, rfl⟩
        ·intro a w ux28 hE hM hp
         have f7 : ux28 7 = (vT (decide ((x29.length : Int) > 2000))) := hp 0 _ rfl rfl
         have f13 : ux28 13 = (vT (decide (x39 < 1))) := hp 1 _ rfl rfl
         refine YQ hE Za (dl rfl) (lkb (lk rfl f7) hb37) (lk rfl f13) ?_; intro a hE
         exact ⟨Kept.refl _ _, _, _, rfl, hE, rfl⟩
        ·intro a w ux28 hE hM hp
         have f14 : ux28 14 = (vT (decide (x39 < 1))) := hp 0 _ rfl rfl
         refine Zd hE Za (dl rfl) (lk rfl f14) ?_; intro a hE
         exact ⟨Kept.refl _ _, _, _, rfl, hE, rfl⟩
        ·intro a w ux28 hE hM hp
         have f15 : ux28 15 = (vT (decide (x39 < 1))) := hp 0 _ rfl rfl
         refine Zn hE rfl (lkb (lk rfl f15) hb42) rfl (by decide) ?_; intro a hE
         exact ⟨Kept.refl _ _, _, _, rfl, hE, rfl⟩
        ·intro a w ux28 hE hM hp
         have f15 : ux28 15 = (vT (decide (x39 < 1))) := hp 1 _ rfl rfl
         have f16 : ux28 16 = undef := hp 0 _ rfl rfl
         refine Zn hE rfl (lkb (lk rfl f15) hb42) rfl (by decide) ?_; intro a hE
         exact ⟨Kept.refl _ _, _, _, rfl, hE, rfl⟩
        ·intro a w ux28 hE hM hp
         have f15 : ux28 15 = (vT (decide (x39 < 1))) := hp 0 _ rfl rfl
         refine Zn hE rfl (lkb (lk rfl f15) hb42) rfl (by decide) ?_; intro a hE
         exact ⟨Kept.refl _ _, _, _, rfl, hE, rfl⟩
        ·intro a w ux28 hE hM hp
         have f15 : ux28 15 = (vT (decide (x39 < 1))) := hp 2 _ rfl rfl
         have f17 : ux28 17 = undef := hp 0 _ rfl rfl
         have f18 : ux28 18 = undef := hp 1 _ rfl rfl
         refine Zn hE rfl (lkb (lk rfl f15) hb42) rfl (by decide) ?_; intro a hE
         exact ⟨Kept.refl _ _, _, _, rfl, hE, rfl⟩
        ·intro a w ux28 hE hM hp
         have f15 : ux28 15 = (vT (decide (x39 < 1))) := hp 1 _ rfl rfl
         have f19 : ux28 19 = undef := hp 0 _ rfl rfl
         refine Zn hE rfl (lkb (lk rfl f15) hb42) rfl (by decide) ?_; intro a hE
         exact ⟨Kept.refl _ _, _, _, rfl, hE, rfl⟩
        ·intro a w ux28 hE hM hp
         have f15 : ux28 15 = (vT (decide (x39 < 1))) := hp 1 _ rfl rfl
         have f20 : ux28 20 = undef := hp 0 _ rfl rfl
         refine Zn hE rfl (lkb (lk rfl f15) hb42) rfl (by decide) ?_; intro a hE
         exact ⟨Kept.refl _ _, _, _, rfl, hE, rfl⟩
        ·intro a w ux28 hE hM hp
         have f15 : ux28 15 = (vT (decide (x39 < 1))) := hp 0 _ rfl rfl
         have f21 : ux28 21 = undef := hp 1 _ rfl rfl
         refine Yn hE Za (dl rfl) (lkb (lk rfl f15) hb42) rfl ?_; intro a hE
         exact ⟨Kept.refl _ _, _, _, rfl, hE, rfl⟩
        ·intro a w ux28 hE hM hp
         have f22 : ux28 22 = (vT true) := hp 0 _ rfl rfl
         refine Zd hE Za (dl rfl) (lk rfl f22) ?_; intro a hE
         exact ⟨Kept.refl _ _, _, _, rfl, hE, rfl⟩
        ·intro a w ux28 hE hM hp
         have f23 : ux28 23 = (vT true) := hp 0 _ rfl rfl
         refine Zn hE rfl (lk rfl f23) rfl (by decide) ?_; intro a hE
         exact ⟨Kept.refl _ _, _, _, rfl, hE, rfl⟩
        ·intro a w ux28 hE hM hp
         have f23 : ux28 23 = (vT true) := hp 1 _ rfl rfl
         have f24 : ux28 24 = undef := hp 0 _ rfl rfl
         refine Zn hE rfl (lk rfl f23) rfl (by decide) ?_; intro a hE
         exact ⟨Kept.refl _ _, _, _, rfl, hE, rfl⟩
        ·intro a w ux28 hE hM hp
         have f23 : ux28 23 = (vT true) := hp 0 _ rfl rfl
         refine Zn hE rfl (lk rfl f23) rfl (by decide) ?_; intro a hE
         exact ⟨Kept.refl _ _, _, _, rfl, hE, rfl⟩
        ·intro a w ux28 hE hM hp
         have f23 : ux28 23 = (vT true) := hp 2 _ rfl rfl
         have f25 : ux28 25 = undef := hp 0 _ rfl rfl
         have f26 : ux28 26 = undef := hp 1 _ rfl rfl
         refine Zn hE rfl (lk rfl f23) rfl (by decide) ?_; intro a hE
         exact ⟨Kept.refl _ _, _, _, rfl, hE, rfl⟩
        ·intro a w ux28 hE hM hp
         have f23 : ux28 23 = (vT true) := hp 1 _ rfl rfl
         have f27 : ux28 27 = undef := hp 0 _ rfl rfl
         refine Zn hE rfl (lk rfl f23) rfl (by decide) ?_; intro a hE
         exact ⟨Kept.refl _ _, _, _, rfl, hE, rfl⟩
        ·intro a w ux28 hE hM hp
         have f23 : ux28 23 = (vT true) := hp 1 _ rfl rfl
         have f28 : ux28 28 = undef := hp 0 _ rfl rfl
         refine Zn hE rfl (lk rfl f23) rfl (by decide) ?_; intro a hE
         exact ⟨Kept.refl _ _, _, _, rfl, hE, rfl⟩
        ·intro a w ux28 hE hM hp
         have f23 : ux28 23 = (vT true) := hp 0 _ rfl rfl
         refine Zn hE rfl (lk rfl f23) rfl (by decide) ?_; intro a hE
         exact ⟨Kept.refl _ _, _, _, rfl, hE, rfl⟩
        ·intro a w ux28 hE hM hp
         have f23 : ux28 23 = (vT true) := hp 1 _ rfl rfl
         have f30 : ux28 30 = undef := hp 0 _ rfl rfl
         refine Zn hE rfl (lk rfl f23) rfl (by decide) ?_; intro a hE
         exact ⟨Kept.refl _ _, _, _, rfl, hE, rfl⟩
        ·intro a w ux28 hE hM hp
         have f23 : ux28 23 = (vT true) := hp 0 _ rfl rfl
         refine Zn hE rfl (lk rfl f23) rfl (by decide) ?_; intro a hE
         exact ⟨Kept.refl _ _, _, _, rfl, hE, rfl⟩
        ·intro a w ux28 hE hM hp
         have f23 : ux28 23 = (vT true) := hp 2 _ rfl rfl
         have f31 : ux28 31 = undef := hp 0 _ rfl rfl
         have f32 : ux28 32 = undef := hp 1 _ rfl rfl
         refine Zn hE rfl (lk rfl f23) rfl (by decide) ?_; intro a hE
         exact ⟨Kept.refl _ _, _, _, rfl, hE, rfl⟩
        ·intro a w ux28 hE hM hp
         have f23 : ux28 23 = (vT true) := hp 1 _ rfl rfl
         have f33 : ux28 33 = undef := hp 0 _ rfl rfl
         refine Zn hE rfl (lk rfl f23) rfl (by decide) ?_; intro a hE
         exact ⟨Kept.refl _ _, _, _, rfl, hE, rfl⟩
        ·intro a w ux28 hE hM hp
         have f23 : ux28 23 = (vT true) := hp 2 _ rfl rfl
         have f29 : ux28 29 = undef := hp 0 _ rfl rfl
         have f34 : ux28 34 = undef := hp 1 _ rfl rfl
         refine Zn hE rfl (lk rfl f23) rfl (by decide) ?_; intro a hE
         exact ⟨Kept.refl _ _, _, _, rfl, hE, rfl⟩
        ·intro a w ux28 hE hM hp
         have f23 : ux28 23 = (vT true) := hp 0 _ rfl rfl
         have f35 : ux28 35 = undef := hp 1 _ rfl rfl
         refine Yn hE Za (dl rfl) (lk rfl f23) rfl ?_; intro a hE
         exact ⟨Kept.refl _ _, _, _, rfl, hE, rfl⟩
        ·intro a w ux28 hE hM hg
         have f0 : ux28 0 = (ptr b1 (0 + 1)) := hg 0 (by decide)
         have f1 : ux28 1 = v0_2 := hg 1 (by decide)
         have f2 : ux28 2 = (vI s20) := hg 2 (by decide)
         have f3 : ux28 3 = (ptr (sb v0_2) (so v0_2 + (s20).toNat * 1)) := hg 3 (by decide)
         have f4 : ux28 4 = u35 := hg 4 (by decide)
         have f5 : ux28 5 = (vI (x29.length : Int)) := hg 5 (by decide)
         have f6 : ux28 6 = (vT (decide ((x29.length : Int) > 2000))) := hg 6 (by decide)
         have f7 : ux28 7 = (vT (decide ((x29.length : Int) > 2000))) := hg 7 (by decide)
         have f8 : ux28 8 = (ptr b1 (0 + 2)) := hg 8 (by decide)
         have f9 : ux28 9 = v0_3 := hg 9 (by decide)
         have f10 : ux28 10 = (vI s20) := hg 10 (by decide)
         have f11 : ux28 11 = (ptr (sb v0_3) (so v0_3 + (s20).toNat * 1)) := hg 11 (by decide)
         have f12 : ux28 12 = (vI x39) := hg 12 (by decide)
         have f13 : ux28 13 = (vT (decide (x39 < 1))) := hg 13 (by decide)
         have f14 : ux28 14 = (vT (decide (x39 < 1))) := hg 14 (by decide)
         have f15 : ux28 15 = (vT (decide (x39 < 1))) := hg 15 (by decide)
         have f16 : ux28 16 = undef := hg 16 (by decide)
         have f17 : ux28 17 = undef := hg 17 (by decide)
         have f18 : ux28 18 = undef := hg 18 (by decide)
         have f19 : ux28 19 = undef := hg 19 (by decide)
         have f20 : ux28 20 = undef := hg 20 (by decide)
         have f21 : ux28 21 = undef := hg 21 (by decide)
         have f22 : ux28 22 = (vT true) := hg 22 (by decide)
         have f23 : ux28 23 = (vT true) := hg 23 (by decide)
         have f24 : ux28 24 = undef := hg 24 (by decide)
         have f25 : ux28 25 = undef := hg 25 (by decide)
         have f26 : ux28 26 = undef := hg 26 (by decide)
         have f27 : ux28 27 = undef := hg 27 (by decide)
         have f28 : ux28 28 = undef := hg 28 (by decide)
         have f29 : ux28 29 = undef := hg 29 (by decide)
         have f30 : ux28 30 = undef := hg 30 (by decide)
         have f31 : ux28 31 = undef := hg 31 (by decide)
         have f32 : ux28 32 = undef := hg 32 (by decide)
         have f33 : ux28 33 = undef := hg 33 (by decide)
         have f34 : ux28 34 = undef := hg 34 (by decide)
         have f35 : ux28 35 = undef := hg 35 (by decide)
         have f36 : ux28 36 = (vT true) := hg 36 (by decide)
         have hE := hE.sub (e' := [(35, (ptr b1 (0 + 1))), (36, v0_2), (37, (vI s20)), (38, (ptr (sb v0_2) (so v0_2 + (s20).toNat * 1))), (39, u35), (40, (vI (x29.length : Int))), (41, (vT (decide ((x29.length : Int) > 2000)))), (42, (vT (decide ((x29.length : Int) > 2000)))), (43, (ptr b1 (0 + 2))), (44, v0_3), (45, (vI s20)), (46, (ptr (sb v0_3) (so v0_3 + (s20).toNat * 1))), (47, (vI x39)), (48, (vT (decide (x39 < 1)))), (49, (vT (decide (x39 < 1)))), (50, (vT (decide (x39 < 1)))), (51, undef), (52, undef), (53, undef), (54, undef), (55, undef), (56, undef), (57, (vT true)), (58, (vT true)), (59, undef), (60, undef), (61, undef), (62, undef), (63, undef), (64, undef), (65, undef), (66, undef), (67, undef), (68, undef), (69, undef), (70, undef), (71, (vT true)), (1, (ptr b1 0)), (3, (vI (p0.Keys.length : Int))), (4, (vI s20)), (30, (vI s20)), (31, (vI (p0.Keys.length : Int))), (32, (vT (decide (s20 < (p0.Keys.length : Int)))))]) ⟨lk rfl f0, lk rfl f1, lk rfl f2, lk rfl f3, lk rfl f4, lk rfl f5, lk rfl f6, lk rfl f7, lk rfl f8, lk rfl f9, lk rfl f10, lk rfl f11, lk rfl f12, lk rfl f13, lk rfl f14, lk rfl f15, lk rfl f16, lk rfl f17, lk rfl f18, lk rfl f19, lk rfl f20, lk rfl f21, lk rfl f22, lk rfl f23, lk rfl f24, lk rfl f25, lk rfl f26, lk rfl f27, lk rfl f28, lk rfl f29, lk rfl f30, lk rfl f31, lk rfl f32, lk rfl f33, lk rfl f34, lk rfl f35, lk rfl f36, rfl, rfl, rfl, rfl, rfl, rfl, trivial⟩
         refine Zj ?_
         have ht43 := Option.some.inj hl26
         subst ht43
         refine Zl ?_
         exact ⟨hE.sub ⟨rfl, rfl, rfl, rfl, trivial⟩, hM⟩
       ·have hl26 := ZA hl26 hb42
        obtain ⟨x44, e45, hl26⟩ := bind_some hl26
        have hi46 := ZQ e45
        refine WV (decide (x44 > 1000000)) (fun hb47 => ?_) (fun hb47 => ?_)
        ·have hl26 := Zz hl26 hb47
         refine Ye (n := 72) (hd := [_, _, _, _, _, _, _, _, _, _, _, _, _, _, _, _, _, _, _, _, _, _, _, _, _, _, _, _, _, _, _, _, _, _, _, _, _]) (tl := []) YB rfl rfl [35, 36, 37, 38, 39, 40, 41, 42, 43, 44, 45, 46, 47, 48, 49, 50, 51, 52, 53, 54, 55, 56, 57, 58, 59, 60, 61, 62, 63, 64, 65, 66, 67, 68, 69, 70, 71] (by decide) (fun w => M (Old w0) w0 w [raw b1 (cat [[v0_1], [v0_2], [v0_3]])]) (fun j => ([fun v _ => v = (ptr b1 (0 + 1)), fun v _ => v = v0_2, fun v _ => v = (vI s20), fun v _ => v = (ptr (sb v0_2) (so v0_2 + (s20).toNat * 1)), fun v _ => v = u35, fun v _ => v = (vI (x29.length : Int)), fun v _ => v = (vT (decide ((x29.length : Int) > 2000))), fun v _ => v = (vT (decide ((x29.length : Int) > 2000))), fun v _ => v = (ptr b1 (0 + 2)), fun v _ => v = v0_3, fun v _ => v = (vI s20), fun v _ => v = (ptr (sb v0_3) (so v0_3 + (s20).toNat * 1)), fun v _ => v = (vI x39), fun v _ => v = (vT (decide (x39 < 1))), fun v _ => v = (vT (decide (x39 < 1))), fun v _ => v = (vT (decide (x39 < 1))), fun v _ => v = (ptr b1 (0 + 2)), fun v _ => v = v0_3, fun v _ => v = (vI s20), fun v _ => v = (ptr (sb v0_3) (so v0_3 + (s20).toNat * 1)), fun v _ => v = (vI x44), fun v _ => v = (vT (decide (x44 > 1000000))), fun v _ => v = (vT (decide (x44 > 1000000))), fun v _ => v = (vT (decide (x44 > 1000000))), fun v _ => v = undef, fun v _ => v = undef, fun v _ => v = undef, fun v _ => v = undef, fun v _ => v = undef, fun v _ => v = undef, fun v _ => v = undef, fun v _ => v = undef, fun v _ => v = undef, fun v _ => v = undef, fun v _ => v = undef, fun v _ => v = undef, fun v _ => v = (vT true)] : List (Value → World → Prop)).getD j (fun _ _ => True)) (fun _ _ h hk => h.keep hk) (gup (Zg (Zg (Zg (Zg (Zg (Zg (Zg (Zg (Zg (Zg (Zg (Zg (Zg (Zg (Zg (Zg (Zg (Zg (Zg (Zg (Zg (Zg (Zg (Zg (Zg (Zg (Zg (Zg (Zg (Zg (Zg (Zg (Zg (Zg (Zg (Zg (Zg Ww)))))))))))))))))))))))))))))))))))))) hE hM.drew (ZH (Zb ?_ (Zb ?_ (Zb ?_ (Zb ?_ (Zb ?_ (Zb ?_ (Zb ?_ (Zb ?_ (Zb ?_ (Zb ?_ (Zb ?_ (Zb ?_ (Zb ?_ (Zb ?_ (Zb ?_ (Zb ?_ (Zb ?_ (Zb ?_ (Zb ?_ (Zb ?_ (Zb ?_ (Zb ?_ (Zb ?_ (Zb ?_ (Zb ?_ (Zb ?_ (Zb ?_ (Zb ?_ (Zb ?_ (Zb ?_ (Zb ?_ (Zb ?_ (Zb ?_ (Zb ?_ (Zb ?_ (Zb ?_ (Zb ?_ ZD)))))))))))))))))))))))))))))))))))))) ?_
         ·intro a w ux28 hE hM hp
          refine Zo hE Za (dl rfl) rfl (UE) ?_; intro a hE
          exact ⟨Kept.refl _ _, _, _, rfl, hE, rfl⟩
         ·intro a w ux28 hE hM hp
          have f0 : ux28 0 = (ptr b1 (0 + 1)) := hp 0 _ rfl rfl
          refine Zv (v := v0_2) hE Za (dl rfl) (lk rfl f0) ty45 rfl (At.cat (pre := [[v0_1]]) (hM.rawAt (pre := [])) (cl1 (n := 1) (m := 0) rfl cl0)) ?_; intro a hE
          exact ⟨Kept.refl _ _, _, _, rfl, hE, rfl⟩
         ·intro a w ux28 hE hM hp
          refine Zd hE Za (dl rfl) rfl ?_; intro a hE
          exact ⟨Kept.refl _ _, _, _, rfl, hE, rfl⟩
         ·intro a w ux28 hE hM hp
          have f1 : ux28 1 = v0_2 := hp 0 _ rfl rfl
          have f2 : ux28 2 = (vI s20) := hp 1 _ rfl rfl
          refine ZK hE Za (dl rfl) (lk rfl f1) (lk rfl f2) Try.underlying45 Vz (hM.rd hv0_2) hi31.1 ?_; intro a hE
          exact ⟨Kept.refl _ _, _, _, rfl, hE, rfl⟩
         ·intro a w ux28 hE hM hp
          have f3 : ux28 3 = (ptr (sb v0_2) (so v0_2 + (s20).toNat * 1)) := hp 0 _ rfl rfl
          refine Zv (v := u35) hE Za (dl rfl) (lk rfl f3) Vz rfl (hM.atk hA34 (Ux hv0_2 hi31.2)) ?_; intro a hE
          exact ⟨Kept.refl _ _, _, _, rfl, hE, rfl⟩
         ·intro a w ux28 hE hM hp
          have f4 : ux28 4 = u35 := hp 0 _ rfl rfl
          refine Z8 hE Za (dl rfl) (lk rfl f4) Try.underlying50 (hM.rd h36) ?_; intro a hE
          exact ⟨Kept.refl _ _, _, _, rfl, hE, rfl⟩
         ·intro a w ux28 hE hM hp
          have f5 : ux28 5 = (vI (x29.length : Int)) := hp 0 _ rfl rfl
          refine Zh hE Za (dl rfl) (lk rfl f5) rfl rfl ?_; intro a hE
          exact ⟨Kept.refl _ _, _, _, rfl, hE, rfl⟩
         ·intro a w ux28 hE hM hp
          have f6 : ux28 6 = (vT (decide ((x29.length : Int) > 2000))) := hp 0 _ rfl rfl
          refine Zd hE Za (dl rfl) (lk rfl f6) ?_; intro a hE
          exact ⟨Kept.refl _ _, _, _, rfl, hE, rfl⟩
         ·intro a w ux28 hE hM hp
          have f7 : ux28 7 = (vT (decide ((x29.length : Int) > 2000))) := hp 0 _ rfl rfl
          refine Zo hE (Zk hE rfl (lkb (lk rfl f7) hb37)) (by decide) rfl (fd55_2) ?_; intro a hE
          exact ⟨Kept.refl _ _, _, _, rfl, hE, rfl⟩
         ·intro a w ux28 hE hM hp
          have f7 : ux28 7 = (vT (decide ((x29.length : Int) > 2000))) := hp 1 _ rfl rfl
          have f8 : ux28 8 = (ptr b1 (0 + 2)) := hp 0 _ rfl rfl
          refine Zv (v := v0_3) hE (Zk hE rfl (lkb (lk rfl f7) hb37)) (by decide) (lk rfl f8) ty46 rfl (At.cat (pre := [[v0_1], [v0_2]]) (hM.rawAt (pre := [])) (cl1 (n := 1) (m := 1) rfl (cl1 (n := 1) (m := 0) rfl cl0))) ?_; intro a hE
          exact ⟨Kept.refl _ _, _, _, rfl, hE, rfl⟩
         ·intro a w ux28 hE hM hp
          have f7 : ux28 7 = (vT (decide ((x29.length : Int) > 2000))) := hp 0 _ rfl rfl
          refine Zd hE (Zk hE rfl (lkb (lk rfl f7) hb37)) (by decide) rfl ?_; intro a hE
          exact ⟨Kept.refl _ _, _, _, rfl, hE, rfl⟩
         ·intro a w ux28 hE hM hp
          have f7 : ux28 7 = (vT (decide ((x29.length : Int) > 2000))) := hp 2 _ rfl rfl
          have f9 : ux28 9 = v0_3 := hp 0 _ rfl rfl
          have f10 : ux28 10 = (vI s20) := hp 1 _ rfl rfl
          refine ZK hE (Zk hE rfl (lkb (lk rfl f7) hb37)) (by decide) (lk rfl f9) (lk rfl f10) Try.underlying46 ty2 (hM.rd hv0_3) hi41.1 ?_; intro a hE
          exact ⟨Kept.refl _ _, _, _, rfl, hE, rfl⟩
         ·intro a w ux28 hE hM hp
          have f7 : ux28 7 = (vT (decide ((x29.length : Int) > 2000))) := hp 1 _ rfl rfl
          have f11 : ux28 11 = (ptr (sb v0_3) (so v0_3 + (s20).toNat * 1)) := hp 0 _ rfl rfl
          refine Zv (v := (vI x39)) hE (Zk hE rfl (lkb (lk rfl f7) hb37)) (by decide) (lk rfl f11) ty2 rfl (Yr (hM.rd hv0_3) hi41.2) ?_; intro a hE
          exact ⟨Kept.refl _ _, _, _, rfl, hE, rfl⟩
         ·intro a w ux28 hE hM hp
          have f7 : ux28 7 = (vT (decide ((x29.length : Int) > 2000))) := hp 1 _ rfl rfl
          have f12 : ux28 12 = (vI x39) := hp 0 _ rfl rfl
          refine Zh hE (Zk hE rfl (lkb (lk rfl f7) hb37)) (by decide) (lk rfl f12) rfl rfl ?_; intro a hE
          exact ⟨Kept.refl _ _, _, _, rfl, hE, rfl⟩
         ·intro a w ux28 hE hM hp
          have f7 : ux28 7 = (vT (decide ((x29.length : Int) > 2000))) := hp 0 _ rfl rfl
          have f13 : ux28 13 = (vT (decide (x39 < 1))) := hp 1 _ rfl rfl
          refine YQ hE Za (dl rfl) (lkb (lk rfl f7) hb37) (lk rfl f13) ?_; intro a hE
          exact ⟨Kept.refl _ _, _, _, rfl, hE, rfl⟩
         ·intro a w ux28 hE hM hp
          have f14 : ux28 14 = (vT (decide (x39 < 1))) := hp 0 _ rfl rfl
          refine Zd hE Za (dl rfl) (lk rfl f14) ?_; intro a hE
          exact ⟨Kept.refl _ _, _, _, rfl, hE, rfl⟩
         ·intro a w ux28 hE hM hp
          have f15 : ux28 15 = (vT (decide (x39 < 1))) := hp 0 _ rfl rfl
          refine Zo hE (Zk hE rfl (lkb (lk rfl f15) hb42)) (by decide) rfl (fd55_2) ?_; intro a hE
          exact ⟨Kept.refl _ _, _, _, rfl, hE, rfl⟩
         ·intro a w ux28 hE hM hp
          have f15 : ux28 15 = (vT (decide (x39 < 1))) := hp 1 _ rfl rfl
          have f16 : ux28 16 = (ptr b1 (0 + 2)) := hp 0 _ rfl rfl
          refine Zv (v := v0_3) hE (Zk hE rfl (lkb (lk rfl f15) hb42)) (by decide) (lk rfl f16) ty46 rfl (At.cat (pre := [[v0_1], [v0_2]]) (hM.rawAt (pre := [])) (cl1 (n := 1) (m := 1) rfl (cl1 (n := 1) (m := 0) rfl cl0))) ?_; intro a hE
          exact ⟨Kept.refl _ _, _, _, rfl, hE, rfl⟩
         ·intro a w ux28 hE hM hp
          have f15 : ux28 15 = (vT (decide (x39 < 1))) := hp 0 _ rfl rfl
          refine Zd hE (Zk hE rfl (lkb (lk rfl f15) hb42)) (by decide) rfl ?_; intro a hE
          exact ⟨Kept.refl _ _, _, _, rfl, hE, rfl⟩
         ·intro a w ux28 hE hM hp
          have f15 : ux28 15 = (vT (decide (x39 < 1))) := hp 2 _ rfl rfl
          have f17 : ux28 17 = v0_3 := hp 0 _ rfl rfl
          have f18 : ux28 18 = (vI s20) := hp 1 _ rfl rfl
          refine ZK hE (Zk hE rfl (lkb (lk rfl f15) hb42)) (by decide) (lk rfl f17) (lk rfl f18) Try.underlying46 ty2 (hM.rd hv0_3) hi46.1 ?_; intro a hE
          exact ⟨Kept.refl _ _, _, _, rfl, hE, rfl⟩
         ·intro a w ux28 hE hM hp
          have f15 : ux28 15 = (vT (decide (x39 < 1))) := hp 1 _ rfl rfl
          have f19 : ux28 19 = (ptr (sb v0_3) (so v0_3 + (s20).toNat * 1)) := hp 0 _ rfl rfl
          refine Zv (v := (vI x44)) hE (Zk hE rfl (lkb (lk rfl f15) hb42)) (by decide) (lk rfl f19) ty2 rfl (Yr (hM.rd hv0_3) hi46.2) ?_; intro a hE
          exact ⟨Kept.refl _ _, _, _, rfl, hE, rfl⟩
         ·intro a w ux28 hE hM hp
          have f15 : ux28 15 = (vT (decide (x39 < 1))) := hp 1 _ rfl rfl
          have f20 : ux28 20 = (vI x44) := hp 0 _ rfl rfl
          refine Zh hE (Zk hE rfl (lkb (lk rfl f15) hb42)) (by decide) (lk rfl f20) rfl rfl ?_; intro a hE
          exact ⟨Kept.refl _ _, _, _, rfl, hE, rfl⟩
         ·intro a w ux28 hE hM hp
          have f15 : ux28 15 = (vT (decide (x39 < 1))) := hp 0 _ rfl rfl
          have f21 : ux28 21 = (vT (decide (x44 > 1000000))) := hp 1 _ rfl rfl
          refine YQ hE Za (dl rfl) (lkb (lk rfl f15) hb42) (lk rfl f21) ?_; intro a hE
          exact ⟨Kept.refl _ _, _, _, rfl, hE, rfl⟩
         ·intro a w ux28 hE hM hp
          have f22 : ux28 22 = (vT (decide (x44 > 1000000))) := hp 0 _ rfl rfl
          refine Zd hE Za (dl rfl) (lk rfl f22) ?_; intro a hE
          exact ⟨Kept.refl _ _, _, _, rfl, hE, rfl⟩
         ·intro a w ux28 hE hM hp
          have f23 : ux28 23 = (vT (decide (x44 > 1000000))) := hp 0 _ rfl rfl
          refine Zn hE rfl (lkb (lk rfl f23) hb47) rfl (by decide) ?_; intro a hE
          exact ⟨Kept.refl _ _, _, _, rfl, hE, rfl⟩
         ·intro a w ux28 hE hM hp
          have f23 : ux28 23 = (vT (decide (x44 > 1000000))) := hp 1 _ rfl rfl
          have f24 : ux28 24 = undef := hp 0 _ rfl rfl
          refine Zn hE rfl (lkb (lk rfl f23) hb47) rfl (by decide) ?_; intro a hE
          exact ⟨Kept.refl _ _, _, _, rfl, hE, rfl⟩
         ·intro a w ux28 hE hM hp
          have f23 : ux28 23 = (vT (decide (x44 > 1000000))) := hp 0 _ rfl rfl
          refine Zn hE rfl (lkb (lk rfl f23) hb47) rfl (by decide) ?_; intro a hE
          exact ⟨Kept.refl _ _, _, _, rfl, hE, rfl⟩
         ·intro a w ux28 hE hM hp
          have f23 : ux28 23 = (vT (decide (x44 > 1000000))) := hp 2 _ rfl rfl
          have f25 : ux28 25 = undef := hp 0 _ rfl rfl
          have f26 : ux28 26 = undef := hp 1 _ rfl rfl
          refine Zn hE rfl (lkb (lk rfl f23) hb47) rfl (by decide) ?_; intro a hE
          exact ⟨Kept.refl _ _, _, _, rfl, hE, rfl⟩
         ·intro a w ux28 hE hM hp
          have f23 : ux28 23 = (vT (decide (x44 > 1000000))) := hp 1 _ rfl rfl
          have f27 : ux28 27 = undef := hp 0 _ rfl rfl
          refine Zn hE rfl (lkb (lk rfl f23) hb47) rfl (by decide) ?_; intro a hE
          exact ⟨Kept.refl _ _, _, _, rfl, hE, rfl⟩
         ·intro a w ux28 hE hM hp
          have f23 : ux28 23 = (vT (decide (x44 > 1000000))) := hp 1 _ rfl rfl
          have f28 : ux28 28 = undef := hp 0 _ rfl rfl
          refine Zn hE rfl (lkb (lk rfl f23) hb47) rfl (by decide) ?_; intro a hE
          exact ⟨Kept.refl _ _, _, _, rfl, hE, rfl⟩
         ·intro a w ux28 hE hM hp
          have f23 : ux28 23 = (vT (decide (x44 > 1000000))) := hp 0 _ rfl rfl
          refine Zn hE rfl (lkb (lk rfl f23) hb47) rfl (by decide) ?_; intro a hE
          exact ⟨Kept.refl _ _, _, _, rfl, hE, rfl⟩
         ·intro a w ux28 hE hM hp
          have f23 : ux28 23 = (vT (decide (x44 > 1000000))) := hp 1 _ rfl rfl
          have f30 : ux28 30 = undef := hp 0 _ rfl rfl
          refine Zn hE rfl (lkb (lk rfl f23) hb47) rfl (by decide) ?_; intro a hE
          exact ⟨Kept.refl _ _, _, _, rfl, hE, rfl⟩
         ·intro a w ux28 hE hM hp
          have f23 : ux28 23 = (vT (decide (x44 > 1000000))) := hp 0 _ rfl rfl
          refine Zn hE rfl (lkb (lk rfl f23) hb47) rfl (by decide) ?_; intro a hE
          exact ⟨Kept.refl _ _, _, _, rfl, hE, rfl⟩
         ·intro a w ux28 hE hM hp
          have f23 : ux28 23 = (vT (decide (x44 > 1000000))) := hp 2 _ rfl rfl
          have f31 : ux28 31 = undef := hp 0 _ rfl rfl
          have f32 : ux28 32 = undef := hp 1 _ rfl rfl
          refine Zn hE rfl (lkb (lk rfl f23) hb47) rfl (by decide) ?_; intro a hE
          exact ⟨Kept.refl _ _, _, _, rfl, hE, rfl⟩
         ·intro a w ux28 hE hM hp
          have f23 : ux28 23 = (vT (decide (x44 > 1000000))) := hp 1 _ rfl rfl
          have f33 : ux28 33 = undef := hp 0 _ rfl rfl
          refine Zn hE rfl (lkb (lk rfl f23) hb47) rfl (by decide) ?_; intro a hE
          exact ⟨Kept.refl _ _, _, _, rfl, hE, rfl⟩
         ·intro a w ux28 hE hM hp
          have f23 : ux28 23 = (vT (decide (x44 > 1000000))) := hp 2 _ rfl rfl
          have f29 : ux28 29 = undef := hp 0 _ rfl rfl
          have f34 : ux28 34 = undef := hp 1 _ rfl rfl
          refine Zn hE rfl (lkb (lk rfl f23) hb47) rfl (by decide) ?_; intro a hE
          exact ⟨Kept.refl _ _, _, _, rfl, hE, rfl⟩
         ·intro a w ux28 hE hM hp
          have f23 : ux28 23 = (vT (decide (x44 > 1000000))) := hp 0 _ rfl rfl
          have f35 : ux28 35 = undef := hp 1 _ rfl rfl
          refine Yn hE Za (dl rfl) (lkb (lk rfl f23) hb47) rfl ?_; intro a hE
          exact ⟨Kept.refl _ _, _, _, rfl, hE, rfl⟩
         ·intro a w ux28 hE hM hg
          have f0 : ux28 0 = (ptr b1 (0 + 1)) := hg 0 (by decide)
          have f1 : ux28 1 = v0_2 := hg 1 (by decide)
          have f2 : ux28 2 = (vI s20) := hg 2 (by decide)
          have f3 : ux28 3 = (ptr (sb v0_2) (so v0_2 + (s20).toNat * 1)) := hg 3 (by decide)
          have f4 : ux28 4 = u35 := hg 4 (by decide)
          have f5 : ux28 5 = (vI (x29.length : Int)) := hg 5 (by decide)
          have f6 : ux28 6 = (vT (decide ((x29.length : Int) > 2000))) := hg 6 (by decide)
          have f7 : ux28 7 = (vT (decide ((x29.length : Int) > 2000))) := hg 7 (by decide)
          have f8 : ux28 8 = (ptr b1 (0 + 2)) := hg 8 (by decide)
          have f9 : ux28 9 = v0_3 := hg 9 (by decide)
          have f10 : ux28 10 = (vI s20) := hg 10 (by decide)
          have f11 : ux28 11 = (ptr (sb v0_3) (so v0_3 + (s20).toNat * 1)) := hg 11 (by decide)
          have f12 : ux28 12 = (vI x39) := hg 12 (by decide)
          have f13 : ux28 13 = (vT (decide (x39 < 1))) := hg 13 (by decide)
          have f14 : ux28 14 = (vT (decide (x39 < 1))) := hg 14 (by decide)
          have f15 : ux28 15 = (vT (decide (x39 < 1))) := hg 15 (by decide)
          have f16 : ux28 16 = (ptr b1 (0 + 2)) := hg 16 (by decide)
          have f17 : ux28 17 = v0_3 := hg 17 (by decide)
          have f18 : ux28 18 = (vI s20) := hg 18 (by decide)
          have f19 : ux28 19 = (ptr (sb v0_3) (so v0_3 + (s20).toNat * 1)) := hg 19 (by decide)
          have f20 : ux28 20 = (vI x44) := hg 20 (by decide)
          have f21 : ux28 21 = (vT (decide (x44 > 1000000))) := hg 21 (by decide)
          have f22 : ux28 22 = (vT (decide (x44 > 1000000))) := hg 22 (by decide)
          have f23 : ux28 23 = (vT (decide (x44 > 1000000))) := hg 23 (by decide)
          have f24 : ux28 24 = undef := hg 24 (by decide)
          have f25 : ux28 25 = undef := hg 25 (by decide)
          have f26 : ux28 26 = undef := hg 26 (by decide)
          have f27 : ux28 27 = undef := hg 27 (by decide)
          have f28 : ux28 28 = undef := hg 28 (by decide)
          have f29 : ux28 29 = undef := hg 29 (by decide)
          have f30 : ux28 30 = undef := hg 30 (by decide)
          have f31 : ux28 31 = undef := hg 31 (by decide)
          have f32 : ux28 32 = undef := hg 32 (by decide)
          have f33 : ux28 33 = undef := hg 33 (by decide)
          have f34 : ux28 34 = undef := hg 34 (by decide)
          have f35 : ux28 35 = undef := hg 35 (by decide)
          have f36 : ux28 36 = (vT true) := hg 36 (by decide)
          have hE := hE.sub (e' := [(35, (ptr b1 (0 + 1))), (36, v0_2), (37, (vI s20)), (38, (ptr (sb v0_2) (so v0_2 + (s20).toNat * 1))), (39, u35), (40, (vI (x29.length : Int))), (41, (vT (decide ((x29.length : Int) > 2000)))), (42, (vT (decide ((x29.length : Int) > 2000)))), (43, (ptr b1 (0 + 2))), (44, v0_3), (45, (vI s20)), (46, (ptr (sb v0_3) (so v0_3 + (s20).toNat * 1))), (47, (vI x39)), (48, (vT (decide (x39 < 1)))), (49, (vT (decide (x39 < 1)))), (50, (vT (decide (x39 < 1)))), (51, (ptr b1 (0 + 2))), (52, v0_3), (53, (vI s20)), (54, (ptr (sb v0_3) (so v0_3 + (s20).toNat * 1))), (55, (vI x44)), (56, (vT (decide (x44 > 1000000)))), (57, (vT (decide (x44 > 1000000)))), (58, (vT (decide (x44 > 1000000)))), (59, undef), (60, undef), (61, undef), (62, undef), (63, undef), (64, undef), (65, undef), (66, undef), (67, undef), (68, undef), (69, undef), (70, undef), (71, (vT true)), (1, (ptr b1 0)), (3, (vI (p0.Keys.length : Int))), (4, (vI s20)), (30, (vI s20)), (31, (vI (p0.Keys.length : Int))), (32, (vT (decide (s20 < (p0.Keys.length : Int)))))]) ⟨lk rfl f0, lk rfl f1, lk rfl f2, lk rfl f3, lk rfl f4, lk rfl f5, lk rfl f6, lk rfl f7, lk rfl f8, lk rfl f9, lk rfl f10, lk rfl f11, lk rfl f12, lk rfl f13, lk rfl f14, lk rfl f15, lk rfl f16, lk rfl f17, lk rfl f18, lk rfl f19, lk rfl f20, lk rfl f21, lk rfl f22, lk rfl f23, lk rfl f24, lk rfl f25, lk rfl f26, lk rfl f27, lk rfl f28, lk rfl f29, lk rfl f30, lk rfl f31, lk rfl f32, lk rfl f33, lk rfl f34, lk rfl f35, lk rfl f36, rfl, rfl, rfl, rfl, rfl, rfl, trivial⟩
          refine Zj ?_
          have ht48 := Option.some.inj hl26
          subst ht48
          refine Zl ?_
          exact ⟨hE.sub ⟨rfl, rfl, rfl, rfl, trivial⟩, hM⟩
        ·have hl26 := ZA hl26 hb47
         obtain ⟨x49, e50, hl26⟩ := bind_some hl26
         have hi51 := ZQ e50
         obtain ⟨cs52, hs53, hA54⟩ := Uz hv0_2 hi51.2 -- ^
         obtain ⟨u55, rfl⟩ := Vo hs53 -- ^
         have h56 := hs53 -- ^
         obtain ⟨r57, e58, hl26⟩ := bind_some hl26
         obtain ⟨x59, e60, hl26⟩ := bind_some hl26
         have hi61 := ZQ e60
         refine Ye (n := 72) (hd := [_, _, _, _, _, _, _, _, _, _, _, _, _, _, _, _, _, _, _, _, _, _, _, _, _, _, _, _, _, _, _, _, _, _, _, _, _]) (tl := []) YB rfl rfl [35, 36, 37, 38, 39, 40, 41, 42, 43, 44, 45, 46, 47, 48, 49, 50, 51, 52, 53, 54, 55, 56, 57, 58, 59, 60, 61, 62, 63, 64, 65, 66, 67, 68, 69, 70, 71] (by decide) (fun w => M (Old w0) w0 w [raw b1 (cat [[v0_1], [v0_2], [v0_3]])]) (fun j => ([fun v _ => v = (ptr b1 (0 + 1)), fun v _ => v = v0_2, fun v _ => v = (vI s20), fun v _ => v = (ptr (sb v0_2) (so v0_2 + (s20).toNat * 1)), fun v _ => v = u35, fun v _ => v = (vI (x29.length : Int)), fun v _ => v = (vT (decide ((x29.length : Int) > 2000))), fun v _ => v = (vT (decide ((x29.length : Int) > 2000))), fun v _ => v = (ptr b1 (0 + 2)), fun v _ => v = v0_3, fun v _ => v = (vI s20), fun v _ => v = (ptr (sb v0_3) (so v0_3 + (s20).toNat * 1)), fun v _ => v = (vI x39), fun v _ => v = (vT (decide (x39 < 1))), fun v _ => v = (vT (decide (x39 < 1))), fun v _ => v = (vT (decide (x39 < 1))), fun v _ => v = (ptr b1 (0 + 2)), fun v _ => v = v0_3, fun v _ => v = (vI s20), fun v _ => v = (ptr (sb v0_3) (so v0_3 + (s20).toNat * 1)), fun v _ => v = (vI x44), fun v _ => v = (vT (decide (x44 > 1000000))), fun v _ => v = (vT (decide (x44 > 1000000))), fun v _ => v = (vT (decide (x44 > 1000000))), fun v _ => v = (ptr b1 (0 + 1)), fun v _ => v = v0_2, fun v _ => v = (vI s20), fun v _ => v = (ptr (sb v0_2) (so v0_2 + (s20).toNat * 1)), fun v _ => v = u55, fun v _ => v = (Value.agg (Flat.enc r57).toArray), fun v _ => v = (ptr b1 (0 + 0)), fun v _ => v = v0_1, fun v _ => v = (vI s20), fun v _ => v = (ptr (sb v0_1) (so v0_1 + (s20).toNat * 32)), fun v _ => v = (Value.agg (Flat.enc x59).toArray), fun v _ => v = (vT (!decide (r57 = x59))), fun v _ => v = (vT (!decide (r57 = x59)))] : List (Value → World → Prop)).getD j (fun _ _ => True)) (fun _ _ h hk => h.keep hk) (gup (Zg (Zg (Zg (Zg (Zg (Zg (Zg (Zg (Zg (Zg (Zg (Zg (Zg (Zg (Zg (Zg (Zg (Zg (Zg (Zg (Zg (Zg (Zg (Zg (Zg (Zg (Zg (Zg (Zg (Zg (Zg (Zg (Zg (Zg (Zg (Zg (Zg Ww)))))))))))))))))))))))))))))))))))))) hE hM.drew (ZH (Zb ?_ (Zb ?_ (Zb ?_ (Zb ?_ (Zb ?_ (Zb ?_ (Zb ?_ (Zb ?_ (Zb ?_ (Zb ?_ (Zb ?_ (Zb ?_ (Zb ?_ (Zb ?_ (Zb ?_ (Zb ?_ (Zb ?_ (Zb ?_ (Zb ?_ (Zb ?_ (Zb ?_ (Zb ?_ (Zb ?_ (Zb ?_ (Zb ?_ (Zb ?_ (Zb ?_ (Zb ?_ (Zb ?_ (Zb ?_ (Zb ?_ (Zb ?_ (Zb ?_ (Zb ?_ (Zb ?_ (Zb ?_ (Zb ?_ ZD)))))))))))))))))))))))))))))))))))))) ?_
         ·intro a w ux28 hE hM hp
          refine Zo hE Za (dl rfl) rfl (UE) ?_; intro a hE
          exact ⟨Kept.refl _ _, _, _, rfl, hE, rfl⟩
         ·intro a w ux28 hE hM hp
          have f0 : ux28 0 = (ptr b1 (0 + 1)) := hp 0 _ rfl rfl
          refine Zv (v := v0_2) hE Za (dl rfl) (lk rfl f0) ty45 rfl (At.cat (pre := [[v0_1]]) (hM.rawAt (pre := [])) (cl1 (n := 1) (m := 0) rfl cl0)) ?_; intro a hE
          exact ⟨Kept.refl _ _, _, _, rfl, hE, rfl⟩
         ·intro a w ux28 hE hM hp
          refine Zd hE Za (dl rfl) rfl ?_; intro a hE
          exact ⟨Kept.refl _ _, _, _, rfl, hE, rfl⟩
         ·intro a w ux28 hE hM hp
          have f1 : ux28 1 = v0_2 := hp 0 _ rfl rfl
          have f2 : ux28 2 = (vI s20) := hp 1 _ rfl rfl
          refine ZK hE Za (dl rfl) (lk rfl f1) (lk rfl f2) Try.underlying45 Vz (hM.rd hv0_2) hi31.1 ?_; intro a hE
          exact ⟨Kept.refl _ _, _, _, rfl, hE, rfl⟩
         ·intro a w ux28 hE hM hp
          have f3 : ux28 3 = (ptr (sb v0_2) (so v0_2 + (s20).toNat * 1)) := hp 0 _ rfl rfl
          refine Zv (v := u35) hE Za (dl rfl) (lk rfl f3) Vz rfl (hM.atk hA34 (Ux hv0_2 hi31.2)) ?_; intro a hE
          exact ⟨Kept.refl _ _, _, _, rfl, hE, rfl⟩
         ·intro a w ux28 hE hM hp
          have f4 : ux28 4 = u35 := hp 0 _ rfl rfl
          refine Z8 hE Za (dl rfl) (lk rfl f4) Try.underlying50 (hM.rd h36) ?_; intro a hE
          exact ⟨Kept.refl _ _, _, _, rfl, hE, rfl⟩
         ·intro a w ux28 hE hM hp
          have f5 : ux28 5 = (vI (x29.length : Int)) := hp 0 _ rfl rfl
          refine Zh hE Za (dl rfl) (lk rfl f5) rfl rfl ?_; intro a hE
          exact ⟨Kept.refl _ _, _, _, rfl, hE, rfl⟩
         ·intro a w ux28 hE hM hp
          have f6 : ux28 6 = (vT (decide ((x29.length : Int) > 2000))) := hp 0 _ rfl rfl
          refine Zd hE Za (dl rfl) (lk rfl f6) ?_; intro a hE
          exact ⟨Kept.refl _ _, _, _, rfl, hE, rfl⟩
         ·intro a w ux28 hE hM hp
          have f7 : ux28 7 = (vT (decide ((x29.length : Int) > 2000))) := hp 0 _ rfl rfl
          refine Zo hE (Zk hE rfl (lkb (lk rfl f7) hb37)) (by decide) rfl (fd55_2) ?_; intro a hE
          exact ⟨Kept.refl _ _, _, _, rfl, hE, rfl⟩
         ·intro a w ux28 hE hM hp
          have f7 : ux28 7 = (vT (decide ((x29.length : Int) > 2000))) := hp 1 _ rfl rfl
          have f8 : ux28 8 = (ptr b1 (0 + 2)) := hp 0 _ rfl rfl
          refine Zv (v := v0_3) hE (Zk hE rfl (lkb (lk rfl f7) hb37)) (by decide) (lk rfl f8) ty46 rfl (At.cat (pre := [[v0_1], [v0_2]]) (hM.rawAt (pre := [])) (cl1 (n := 1) (m := 1) rfl (cl1 (n := 1) (m := 0) rfl cl0))) ?_; intro a hE
          exact ⟨Kept.refl _ _, _, _, rfl, hE, rfl⟩
         ·intro a w ux28 hE hM hp
          have f7 : ux28 7 = (vT (decide ((x29.length : Int) > 2000))) := hp 0 _ rfl rfl
          refine Zd hE (Zk hE rfl (lkb (lk rfl f7) hb37)) (by decide) rfl ?_; intro a hE
          exact ⟨Kept.refl _ _, _, _, rfl, hE, rfl⟩
         ·intro a w ux28 hE hM hp
          have f7 : ux28 7 = (vT (decide ((x29.length : Int) > 2000))) := hp 2 _ rfl rfl
          have f9 : ux28 9 = v0_3 := hp 0 _ rfl rfl
          have f10 : ux28 10 = (vI s20) := hp 1 _ rfl rfl
          refine ZK hE (Zk hE rfl (lkb (lk rfl f7) hb37)) (by decide) (lk rfl f9) (lk rfl f10) Try.underlying46 ty2 (hM.rd hv0_3) hi41.1 ?_; intro a hE
          exact ⟨Kept.refl _ _, _, _, rfl, hE, rfl⟩
         ·intro a w ux28 hE hM hp
          have f7 : ux28 7 = (vT (decide ((x29.length : Int) > 2000))) := hp 1 _ rfl rfl
          have f11 : ux28 11 = (ptr (sb v0_3) (so v0_3 + (s20).toNat * 1)) := hp 0 _ rfl rfl
          refine Zv (v := (vI x39)) hE (Zk hE rfl (lkb (lk rfl f7) hb37)) (by decide) (lk rfl f11) ty2 rfl (Yr (hM.rd hv0_3) hi41.2) ?_; intro a hE
          exact ⟨Kept.refl _ _, _, _, rfl, hE, rfl⟩
         ·intro a w ux28 hE hM hp
          have f7 : ux28 7 = (vT (decide ((x29.length : Int) > 2000))) := hp 1 _ rfl rfl
          have f12 : ux28 12 = (vI x39) := hp 0 _ rfl rfl
          refine Zh hE (Zk hE rfl (lkb (lk rfl f7) hb37)) (by decide) (lk rfl f12) rfl rfl ?_; intro a hE
          exact ⟨Kept.refl _ _, _, _, rfl, hE, rfl⟩
         ·intro a w ux28 hE hM hp
          have f7 : ux28 7 = (vT (decide ((x29.length : Int) > 2000))) := hp 0 _ rfl rfl
          have f13 : ux28 13 = (vT (decide (x39 < 1))) := hp 1 _ rfl rfl
          refine YQ hE Za (dl rfl) (lkb (lk rfl f7) hb37) (lk rfl f13) ?_; intro a hE
          exact ⟨Kept.refl _ _, _, _, rfl, hE, rfl⟩
         ·intro a w ux28 hE hM hp
          have f14 : ux28 14 = (vT (decide (x39 < 1))) := hp 0 _ rfl rfl
          refine Zd hE Za (dl rfl) (lk rfl f14) ?_; intro a hE
          exact ⟨Kept.refl _ _, _, _, rfl, hE, rfl⟩
         ·intro a w ux28 hE hM hp
          have f15 : ux28 15 = (vT (decide (x39 < 1))) := hp 0 _ rfl rfl
          refine Zo hE (Zk hE rfl (lkb (lk rfl f15) hb42)) (by decide) rfl (fd55_2) ?_; intro a hE
          exact ⟨Kept.refl _ _, _, _, rfl, hE, rfl⟩
         ·intro a w ux28 hE hM hp
          have f15 : ux28 15 = (vT (decide (x39 < 1))) := hp 1 _ rfl rfl
          have f16 : ux28 16 = (ptr b1 (0 + 2)) := hp 0 _ rfl rfl
          refine Zv (v := v0_3) hE (Zk hE rfl (lkb (lk rfl f15) hb42)) (by decide) (lk rfl f16) ty46 rfl (At.cat (pre := [[v0_1], [v0_2]]) (hM.rawAt (pre := [])) (cl1 (n := 1) (m := 1) rfl (cl1 (n := 1) (m := 0) rfl cl0))) ?_; intro a hE
          exact ⟨Kept.refl _ _, _, _, rfl, hE, rfl⟩
         ·intro a w ux28 hE hM hp
          have f15 : ux28 15 = (vT (decide (x39 < 1))) := hp 0 _ rfl rfl
          refine Zd hE (Zk hE rfl (lkb (lk rfl f15) hb42)) (by decide) rfl ?_; intro a hE
          exact ⟨Kept.refl _ _, _, _, rfl, hE, rfl⟩
         ·intro a w ux28 hE hM hp
          have f15 : ux28 15 = (vT (decide (x39 < 1))) := hp 2 _ rfl rfl
          have f17 : ux28 17 = v0_3 := hp 0 _ rfl rfl
          have f18 : ux28 18 = (vI s20) := hp 1 _ rfl rfl
          refine ZK hE (Zk hE rfl (lkb (lk rfl f15) hb42)) (by decide) (lk rfl f17) (lk rfl f18) Try.underlying46 ty2 (hM.rd hv0_3) hi46.1 ?_; intro a hE
          exact ⟨Kept.refl _ _, _, _, rfl, hE, rfl⟩
         ·intro a w ux28 hE hM hp
          have f15 : ux28 15 = (vT (decide (x39 < 1))) := hp 1 _ rfl rfl
          have f19 : ux28 19 = (ptr (sb v0_3) (so v0_3 + (s20).toNat * 1)) := hp 0 _ rfl rfl
          refine Zv (v := (vI x44)) hE (Zk hE rfl (lkb (lk rfl f15) hb42)) (by decide) (lk rfl f19) ty2 rfl (Yr (hM.rd hv0_3) hi46.2) ?_; intro a hE
          exact ⟨Kept.refl _ _, _, _, rfl, hE, rfl⟩
         ·intro a w ux28 hE hM hp
          have f15 : ux28 15 = (vT (decide (x39 < 1))) := hp 1 _ rfl rfl
          have f20 : ux28 20 = (vI x44) := hp 0 _ rfl rfl
          refine Zh hE (Zk hE rfl (lkb (lk rfl f15) hb42)) (by decide) (lk rfl f20) rfl rfl ?_; intro a hE
          exact ⟨Kept.refl _ _, _, _, rfl, hE, rfl⟩
         ·intro a w ux28 hE hM hp
          have f15 : ux28 15 = (vT (decide (x39 < 1))) := hp 0 _ rfl rfl
          have f21 : ux28 21 = (vT (decide (x44 > 1000000))) := hp 1 _ rfl rfl
          refine YQ hE Za (dl rfl) (lkb (lk rfl f15) hb42) (lk rfl f21) ?_; intro a hE
          exact ⟨Kept.refl _ _, _, _, rfl, hE, rfl⟩
         ·intro a w ux28 hE hM hp
          have f22 : ux28 22 = (vT (decide (x44 > 1000000))) := hp 0 _ rfl rfl
          refine Zd hE Za (dl rfl) (lk rfl f22) ?_; intro a hE
          exact ⟨Kept.refl _ _, _, _, rfl, hE, rfl⟩
         ·intro a w ux28 hE hM hp
          have f23 : ux28 23 = (vT (decide (x44 > 1000000))) := hp 0 _ rfl rfl
          refine Zo hE (Zk hE rfl (lkb (lk rfl f23) hb47)) (by decide) rfl (UE) ?_; intro a hE
          exact ⟨Kept.refl _ _, _, _, rfl, hE, rfl⟩
         ·intro a w ux28 hE hM hp
          have f23 : ux28 23 = (vT (decide (x44 > 1000000))) := hp 1 _ rfl rfl
          have f24 : ux28 24 = (ptr b1 (0 + 1)) := hp 0 _ rfl rfl
          refine Zv (v := v0_2) hE (Zk hE rfl (lkb (lk rfl f23) hb47)) (by decide) (lk rfl f24) ty45 rfl (At.cat (pre := [[v0_1]]) (hM.rawAt (pre := [])) (cl1 (n := 1) (m := 0) rfl cl0)) ?_; intro a hE
          exact ⟨Kept.refl _ _, _, _, rfl, hE, rfl⟩
         ·intro a w ux28 hE hM hp
          have f23 : ux28 23 = (vT (decide (x44 > 1000000))) := hp 0 _ rfl rfl
          refine Zd hE (Zk hE rfl (lkb (lk rfl f23) hb47)) (by decide) rfl ?_; intro a hE
          exact ⟨Kept.refl _ _, _, _, rfl, hE, rfl⟩
         ·intro a w ux28 hE hM hp
          have f23 : ux28 23 = (vT (decide (x44 > 1000000))) := hp 2 _ rfl rfl
          have f25 : ux28 25 = v0_2 := hp 0 _ rfl rfl
          have f26 : ux28 26 = (vI s20) := hp 1 _ rfl rfl
          refine ZK hE (Zk hE rfl (lkb (lk rfl f23) hb47)) (by decide) (lk rfl f25) (lk rfl f26) Try.underlying45 Vz (hM.rd hv0_2) hi51.1 ?_; intro a hE
          exact ⟨Kept.refl _ _, _, _, rfl, hE, rfl⟩
         ·intro a w ux28 hE hM hp
          have f23 : ux28 23 = (vT (decide (x44 > 1000000))) := hp 1 _ rfl rfl
          have f27 : ux28 27 = (ptr (sb v0_2) (so v0_2 + (s20).toNat * 1)) := hp 0 _ rfl rfl
          refine Zv (v := u55) hE (Zk hE rfl (lkb (lk rfl f23) hb47)) (by decide) (lk rfl f27) Vz rfl (hM.atk hA54 (Ux hv0_2 hi51.2)) ?_; intro a hE
          exact ⟨Kept.refl _ _, _, _, rfl, hE, rfl⟩
         ·intro a w ux28 hE hM hp
          have f23 : ux28 23 = (vT (decide (x44 > 1000000))) := hp 1 _ rfl rfl
          have f28 : ux28 28 = u55 := hp 0 _ rfl rfl
          refine Zw (vs := [u55]) hE (Zk hE rfl (lkb (lk rfl f23) hb47)) (by decide) (Z0 (ZZ (lk rfl f28) Xh)) cb76 (c_spec_l08Digest _ x49 u55 (hM.rdo h56) r57 e58) ?_
          rintro v w a ⟨rfl, hK⟩ hE
          exact ⟨hK, _, _, rfl, hE, rfl⟩
         ·intro a w ux28 hE hM hp
          have f23 : ux28 23 = (vT (decide (x44 > 1000000))) := hp 0 _ rfl rfl
          refine Zo hE (Zk hE rfl (lkb (lk rfl f23) hb47)) (by decide) rfl (VH) ?_; intro a hE
          exact ⟨Kept.refl _ _, _, _, rfl, hE, rfl⟩
         ·intro a w ux28 hE hM hp
          have f23 : ux28 23 = (vT (decide (x44 > 1000000))) := hp 1 _ rfl rfl
          have f30 : ux28 30 = (ptr b1 (0 + 0)) := hp 0 _ rfl rfl
          refine Zv (v := v0_1) hE (Zk hE rfl (lkb (lk rfl f23) hb47)) (by decide) (lk rfl f30) ty53 rfl (At.cat (pre := []) (hM.rawAt (pre := [])) cl0) ?_; intro a hE
          exact ⟨Kept.refl _ _, _, _, rfl, hE, rfl⟩
         ·intro a w ux28 hE hM hp
          have f23 : ux28 23 = (vT (decide (x44 > 1000000))) := hp 0 _ rfl rfl
          refine Zd hE (Zk hE rfl (lkb (lk rfl f23) hb47)) (by decide) rfl ?_; intro a hE
          exact ⟨Kept.refl _ _, _, _, rfl, hE, rfl⟩
         ·intro a w ux28 hE hM hp
          have f23 : ux28 23 = (vT (decide (x44 > 1000000))) := hp 2 _ rfl rfl
          have f31 : ux28 31 = v0_1 := hp 0 _ rfl rfl
          have f32 : ux28 32 = (vI s20) := hp 1 _ rfl rfl
          refine ZK hE (Zk hE rfl (lkb (lk rfl f23) hb47)) (by decide) (lk rfl f31) (lk rfl f32) Try.underlying53 Yi (hM.rd hv0_1) hi61.1 ?_; intro a hE
          exact ⟨Kept.refl _ _, _, _, rfl, hE, rfl⟩
         ·intro a w ux28 hE hM hp
          have f23 : ux28 23 = (vT (decide (x44 > 1000000))) := hp 1 _ rfl rfl
          have f33 : ux28 33 = (ptr (sb v0_1) (so v0_1 + (s20).toNat * 32)) := hp 0 _ rfl rfl
          refine Zp (cs := Flat.enc x59) hE (Zk hE rfl (lkb (lk rfl f23) hb47)) (by decide) (lk rfl f33) Yi rfl (Yr (hM.rd hv0_1) hi61.2) (Flat.len _) ?_; intro a hE
          exact ⟨Kept.refl _ _, _, _, rfl, hE, rfl⟩
         ·intro a w ux28 hE hM hp
          have f23 : ux28 23 = (vT (decide (x44 > 1000000))) := hp 2 _ rfl rfl
          have f29 : ux28 29 = (Value.agg (Flat.enc r57).toArray) := hp 0 _ rfl rfl
          have f34 : ux28 34 = (Value.agg (Flat.enc x59).toArray) := hp 1 _ rfl rfl
          refine s_neA hE (Zk hE rfl (lkb (lk rfl f23) hb47)) (by decide) (lk rfl f29) (lk rfl f34) (eqok_arr Try.underlying25 ty5 rfl false rfl (by decide) (eqok_byte Try.underlying5)) (by decide) (by kernel_rfl) ?_; intro a hE
          exact ⟨Kept.refl _ _, _, _, rfl, hE, rfl⟩
         ·intro a w ux28 hE hM hp
          have f23 : ux28 23 = (vT (decide (x44 > 1000000))) := hp 0 _ rfl rfl
          have f35 : ux28 35 = (vT (!decide (r57 = x59))) := hp 1 _ rfl rfl
          refine YQ hE Za (dl rfl) (lkb (lk rfl f23) hb47) (lk rfl f35) ?_; intro a hE
          exact ⟨Kept.refl _ _, _, _, rfl, hE, rfl⟩
         ·intro a w ux28 hE hM hg
          have f0 : ux28 0 = (ptr b1 (0 + 1)) := hg 0 (by decide)
          have f1 : ux28 1 = v0_2 := hg 1 (by decide)
          have f2 : ux28 2 = (vI s20) := hg 2 (by decide)
          have f3 : ux28 3 = (ptr (sb v0_2) (so v0_2 + (s20).toNat * 1)) := hg 3 (by decide)
          have f4 : ux28 4 = u35 := hg 4 (by decide)
          have f5 : ux28 5 = (vI (x29.length : Int)) := hg 5 (by decide)
          have f6 : ux28 6 = (vT (decide ((x29.length : Int) > 2000))) := hg 6 (by decide)
          have f7 : ux28 7 = (vT (decide ((x29.length : Int) > 2000))) := hg 7 (by decide)
          have f8 : ux28 8 = (ptr b1 (0 + 2)) := hg 8 (by decide)
          have f9 : ux28 9 = v0_3 := hg 9 (by decide)
          have f10 : ux28 10 = (vI s20) := hg 10 (by decide)
          have f11 : ux28 11 = (ptr (sb v0_3) (so v0_3 + (s20).toNat * 1)) := hg 11 (by decide)
          have f12 : ux28 12 = (vI x39) := hg 12 (by decide)
          have f13 : ux28 13 = (vT (decide (x39 < 1))) := hg 13 (by decide)
          have f14 : ux28 14 = (vT (decide (x39 < 1))) := hg 14 (by decide)
          have f15 : ux28 15 = (vT (decide (x39 < 1))) := hg 15 (by decide)
          have f16 : ux28 16 = (ptr b1 (0 + 2)) := hg 16 (by decide)
          have f17 : ux28 17 = v0_3 := hg 17 (by decide)
          have f18 : ux28 18 = (vI s20) := hg 18 (by decide)
          have f19 : ux28 19 = (ptr (sb v0_3) (so v0_3 + (s20).toNat * 1)) := hg 19 (by decide)
          have f20 : ux28 20 = (vI x44) := hg 20 (by decide)
          have f21 : ux28 21 = (vT (decide (x44 > 1000000))) := hg 21 (by decide)
          have f22 : ux28 22 = (vT (decide (x44 > 1000000))) := hg 22 (by decide)
          have f23 : ux28 23 = (vT (decide (x44 > 1000000))) := hg 23 (by decide)
          have f24 : ux28 24 = (ptr b1 (0 + 1)) := hg 24 (by decide)
          have f25 : ux28 25 = v0_2 := hg 25 (by decide)
          have f26 : ux28 26 = (vI s20) := hg 26 (by decide)
          have f27 : ux28 27 = (ptr (sb v0_2) (so v0_2 + (s20).toNat * 1)) := hg 27 (by decide)
          have f28 : ux28 28 = u55 := hg 28 (by decide)
          have f29 : ux28 29 = (Value.agg (Flat.enc r57).toArray) := hg 29 (by decide)
          have f30 : ux28 30 = (ptr b1 (0 + 0)) := hg 30 (by decide)
          have f31 : ux28 31 = v0_1 := hg 31 (by decide)
          have f32 : ux28 32 = (vI s20) := hg 32 (by decide)
          have f33 : ux28 33 = (ptr (sb v0_1) (so v0_1 + (s20).toNat * 32)) := hg 33 (by decide)
          have f34 : ux28 34 = (Value.agg (Flat.enc x59).toArray) := hg 34 (by decide)
          have f35 : ux28 35 = (vT (!decide (r57 = x59))) := hg 35 (by decide)
          have f36 : ux28 36 = (vT (!decide (r57 = x59))) := hg 36 (by decide)
          have hE := hE.sub (e' := [(35, (ptr b1 (0 + 1))), (36, v0_2), (37, (vI s20)), (38, (ptr (sb v0_2) (so v0_2 + (s20).toNat * 1))), (39, u35), (40, (vI (x29.length : Int))), (41, (vT (decide ((x29.length : Int) > 2000)))), (42, (vT (decide ((x29.length : Int) > 2000)))), (43, (ptr b1 (0 + 2))), (44, v0_3), (45, (vI s20)), (46, (ptr (sb v0_3) (so v0_3 + (s20).toNat * 1))), (47, (vI x39)), (48, (vT (decide (x39 < 1)))), (49, (vT (decide (x39 < 1)))), (50, (vT (decide (x39 < 1)))), (51, (ptr b1 (0 + 2))), (52, v0_3), (53, (vI s20)), (54, (ptr (sb v0_3) (so v0_3 + (s20).toNat * 1))), (55, (vI x44)), (56, (vT (decide (x44 > 1000000)))), (57, (vT (decide (x44 > 1000000)))), (58, (vT (decide (x44 > 1000000)))), (59, (ptr b1 (0 + 1))), (60, v0_2), (61, (vI s20)), (62, (ptr (sb v0_2) (so v0_2 + (s20).toNat * 1))), (63, u55), (64, (Value.agg (Flat.enc r57).toArray)), (65, (ptr b1 (0 + 0))), (66, v0_1), (67, (vI s20)), (68, (ptr (sb v0_1) (so v0_1 + (s20).toNat * 32))), (69, (Value.agg (Flat.enc x59).toArray)), (70, (vT (!decide (r57 = x59)))), (71, (vT (!decide (r57 = x59)))), (1, (ptr b1 0)), (3, (vI (p0.Keys.length : Int))), (4, (vI s20)), (30, (vI s20)), (31, (vI (p0.Keys.length : Int))), (32, (vT (decide (s20 < (p0.Keys.length : Int)))))]) ⟨lk rfl f0, lk rfl f1, lk rfl f2, lk rfl f3, lk rfl f4, lk rfl f5, lk rfl f6, lk rfl f7, lk rfl f8, lk rfl f9, lk rfl f10, lk rfl f11, lk rfl f12, lk rfl f13, lk rfl f14, lk rfl f15, lk rfl f16, lk rfl f17, lk rfl f18, lk rfl f19, lk rfl f20, lk rfl f21, lk rfl f22, lk rfl f23, lk rfl f24, lk rfl f25, lk rfl f26, lk rfl f27, lk rfl f28, lk rfl f29, lk rfl f30, lk rfl f31, lk rfl f32, lk rfl f33, lk rfl f34, lk rfl f35, lk rfl f36, rfl, rfl, rfl, rfl, rfl, rfl, trivial⟩
          refine Zj ?_
          have ht62 := Option.some.inj hl26
          subst ht62
          refine Zl ?_
          exact ⟨hE.sub ⟨rfl, rfl, rfl, rfl, trivial⟩, hM⟩
     ·skip
      rintro a w ⟨hE, hM⟩
      refine Zt hE rfl ?_ ?_
      ·intro hb63
       have hF27 := Zz hF27 hb63
       refine Zc (Ze hE Za (dl rfl) rfl ?_); intro a hE
       refine Zf ?_
       have ht64 := hx22 _ (Option.some.inj hF27).symm
       subst ht64
       have hr := Option.some.inj hF18
       subst hr
       have hM := M.fst (l := []) hM
       exact wp_ret (WZ (ZL (ZL (WZ (ZL (ZL (Zy hE rfl (Zu hE rfl) ⟨_, rfl, rfl, hM.kept⟩)))))))
      ·intro hb63
       have hF27 := ZA hF27 hb63
       refine wp_skip (Yj (Zx (wp_region_lit (Zd hE Za (dl rfl) rfl ?_)))); intro a hE
       refine Zh hE Za (dl rfl) rfl rfl rfl ?_; intro a hE
       refine Ze hE Za (dl rfl) rfl ?_; intro a hE
       refine Zj (Zl ?_)
       exact ⟨_, (Option.some.inj hF27).symm, hE.sub ⟨rfl, rfl, rfl, trivial⟩, hM⟩
    ·intro hb24
     have hs21 := ZA hs21 hb24
     refine wp_exit (Zr (Zr (Yk ?_)))
     have ht65 := hx22 _ (Option.some.inj hs21).symm
     subst ht65
     refine Zl ?_
     have hM := M.fst (l := []) hM
     exact ⟨(), rfl, hE.sub trivial, hM⟩
   ·skip
    rintro a w ⟨s19, ht, hE, hM⟩
    subst ht
    have hF18 := el_nx hF18
    refine Zx (Zc (Ze hE Za (dl rfl) rfl ?_)); intro a hE
    refine Zf ?_
    have hr := Option.some.inj hF18
    subst hr
    exact wp_ret (Zy hE rfl (Zu hE rfl) ⟨_, rfl, rfl, hM.kept⟩)
noncomputable def XR (p0 : (List (Vector UInt8 32))) (p1 : (Vector UInt8 32)) (s6 : Int × Int) : Option (Fl (Int × Int) Int) :=
 if (decide (s6.2 < (p0.length : Int))) = true then ((((idx p0 s6.2).bind fun x18 => (X7 x18 p1).bind fun r21 => some r21 : Option (Bool)).bind fun j14 => (if j14 = true then (some (wr (s6.1 + 1))) else (some s6.1) : Option (Int)).bind fun j24 => some j24 : Option (Int)).bind fun j11 => some (Fl.nx (j11, wr (s6.2 + 1)))) else (some (Fl.ex s6.1))
noncomputable def Vf (p0 : (List (Vector UInt8 32))) (p1 : (Vector UInt8 32)) : Option (Int) :=
 (ZG (XR p0 p1) (0, 0) : Option (Int)).bind fun j3 => some j3
theorem c_spec_l09Place (w0 : World) (p0 : (List (Vector UInt8 32))) (v0_1 : Value) (hv0_1 : Ro w0 p0 [v0_1]) (p1 : (Vector UInt8 32)) (r : Int) (hF : Vf p0 p1 = some r) :
  Calls Try.prog 77 [v0_1, (Value.agg (Flat.enc p1).toArray)].toArray w0 (fun en w' => ∃ v, en = .returned v ∧ (v = (vI r) ∧ Kept (Old w0) w0 w')) := by
 refine ZC (n := 22) Try.func77 rfl rfl (Nat.le_of_ble_eq_true rfl) rfl ?_
 intro a hE
 have hM := M.start w0
 unfold Vf at hF
 refine Zc (Z5 (cs := Flat.enc p1) hE hM Za (dl rfl) rfl rfl ?_); intro b1 w a hM hE
 refine Ze hE Za (dl rfl) rfl ?_; intro a hE
 refine Zf (Zc (Ze hE Za (dl rfl) rfl ?_)); intro a hE
 refine Zf (wp_seq (Zc (Ze hE Za (dl rfl) rfl ?_))); intro a hE
 refine Zf ?_
 obtain ⟨j3, hl4, hF5⟩ := bind_some hF
 refine ZW (fun a w => Env 22 a [(5, (vI j3))] ∧ M (Old w0) w0 w []) ?_ ?_
 ·skip
  refine wp_block ?_
  refine ZM (fun (s6 : Int × Int) a w => Env 22 a [(0, v0_1), (3, (ptr b1 0)), (5, (vI s6.1)), (6, (vI s6.2))] ∧ M (Old w0) w0 w [raw b1 (Flat.enc p1)]) hl4 ⟨hE.sub ⟨rfl, rfl, rfl, rfl, trivial⟩, hM⟩ ?_
  rintro s6 a w ⟨hE, hM⟩ o9 hs7 hx8
  unfold XR at hs7
  refine wp_seq (Zc (Zd hE Za (dl rfl) rfl ?_)); intro a hE
  refine Zd hE Za (dl rfl) rfl ?_; intro a hE
  refine Z8 hE Za (dl rfl) rfl Try.underlying53 (hM.rd hv0_1) ?_; intro a hE
  refine Zh hE Za (dl rfl) rfl rfl rfl ?_; intro a hE
  refine Zf ?_
  refine Zt hE rfl ?_ ?_
  ·intro hb10
   have hs7 := Zz hs7 hb10
   refine wp_skip (Zx ?_)
   obtain ⟨j11, hl12, hF13⟩ := bind_some hs7
   refine ZS (fun a w => Env 22 a [(0, v0_1), (3, (ptr b1 0)), (5, (vI j11)), (6, (vI s6.2))] ∧ M (Old w0) w0 w [raw b1 (Flat.enc p1)]) ?_ ?_
   ·skip
    refine wp_block ?_
    obtain ⟨j14, hl15, hF16⟩ := bind_some hl12
    refine ZS (fun a w => Env 22 a [(0, v0_1), (3, (ptr b1 0)), (5, (vI s6.1)), (6, (vI s6.2)), (18, (vT j14))] ∧ M (Old w0) w0 w [raw b1 (Flat.enc p1)]) ?_ ?_
    ·skip
     obtain ⟨x18, e19, hl15⟩ := bind_some hl15
     have hi20 := ZQ e19
     obtain ⟨r21, e22, hl15⟩ := bind_some hl15
     refine Ye (n := 22) (hd := [_, _, _, _, _, _]) (tl := []) YB rfl rfl [13, 14, 15, 16, 17, 18] (by decide) (fun w => M (Old w0) w0 w [raw b1 (Flat.enc p1)]) (fun j => ([fun v _ => v = v0_1, fun v _ => v = (vI s6.2), fun v _ => v = (ptr (sb v0_1) (so v0_1 + (s6.2).toNat * 32)), fun v _ => v = (Value.agg (Flat.enc x18).toArray), fun v _ => v = (Value.agg (Flat.enc p1).toArray), fun v _ => v = (vT r21)] : List (Value → World → Prop)).getD j (fun _ _ => True)) (fun _ _ h hk => h.keep hk) (gup (Zg (Zg (Zg (Zg (Zg (Zg Ww))))))) hE hM.drew (ZH (Zb ?_ (Zb ?_ (Zb ?_ (Zb ?_ (Zb ?_ (Zb ?_ ZD))))))) ?_
     ·intro a w ux17 hE hM hp
      refine Zd hE Za (dl rfl) rfl ?_; intro a hE
      exact ⟨Kept.refl _ _, _, _, rfl, hE, rfl⟩
     ·intro a w ux17 hE hM hp
      refine Zd hE Za (dl rfl) rfl ?_; intro a hE
      exact ⟨Kept.refl _ _, _, _, rfl, hE, rfl⟩
     ·intro a w ux17 hE hM hp
      have f0 : ux17 0 = v0_1 := hp 0 _ rfl rfl
      have f1 : ux17 1 = (vI s6.2) := hp 1 _ rfl rfl
      refine ZK hE Za (dl rfl) (lk rfl f0) (lk rfl f1) Try.underlying53 Yi (hM.rd hv0_1) hi20.1 ?_; intro a hE
      exact ⟨Kept.refl _ _, _, _, rfl, hE, rfl⟩
     ·intro a w ux17 hE hM hp
      have f2 : ux17 2 = (ptr (sb v0_1) (so v0_1 + (s6.2).toNat * 32)) := hp 0 _ rfl rfl
      refine Zp (cs := Flat.enc x18) hE Za (dl rfl) (lk rfl f2) Yi rfl (Yr (hM.rd hv0_1) hi20.2) (Flat.len _) ?_; intro a hE
      exact ⟨Kept.refl _ _, _, _, rfl, hE, rfl⟩
     ·intro a w ux17 hE hM hp
      refine Zp (cs := Flat.enc p1) hE Za (dl rfl) rfl Yi rfl (hM.rawAt (pre := [])) (Flat.len _) ?_; intro a hE
      exact ⟨Kept.refl _ _, _, _, rfl, hE, rfl⟩
     ·intro a w ux17 hE hM hp
      have f3 : ux17 3 = (Value.agg (Flat.enc x18).toArray) := hp 0 _ rfl rfl
      have f4 : ux17 4 = (Value.agg (Flat.enc p1).toArray) := hp 1 _ rfl rfl
      refine Zw (vs := [(Value.agg (Flat.enc x18).toArray), (Value.agg (Flat.enc p1).toArray)]) hE Za (dl rfl) (Z0 (ZZ (lk rfl f3) (ZZ (lk rfl f4) Xh))) cb96 (c_spec_l09Less _ x18 p1 r21 e22) ?_
      rintro v w a ⟨rfl, hK⟩ hE
      exact ⟨hK, _, _, rfl, hE, rfl⟩
     ·intro a w ux17 hE hM hg
      have f0 : ux17 0 = v0_1 := hg 0 (by decide)
      have f1 : ux17 1 = (vI s6.2) := hg 1 (by decide)
      have f2 : ux17 2 = (ptr (sb v0_1) (so v0_1 + (s6.2).toNat * 32)) := hg 2 (by decide)
      have f3 : ux17 3 = (Value.agg (Flat.enc x18).toArray) := hg 3 (by decide)
      have f4 : ux17 4 = (Value.agg (Flat.enc p1).toArray) := hg 4 (by decide)
      have f5 : ux17 5 = (vT r21) := hg 5 (by decide)
      have hE := hE.sub (e' := [(13, v0_1), (14, (vI s6.2)), (15, (ptr (sb v0_1) (so v0_1 + (s6.2).toNat * 32))), (16, (Value.agg (Flat.enc x18).toArray)), (17, (Value.agg (Flat.enc p1).toArray)), (18, (vT r21)), (0, v0_1), (3, (ptr b1 0)), (5, (vI s6.1)), (6, (vI s6.2)), (7, (vI s6.2)), (8, v0_1), (9, (vI (p0.length : Int))), (10, (vT (decide (s6.2 < (p0.length : Int)))))]) ⟨lk rfl f0, lk rfl f1, lk rfl f2, lk rfl f3, lk rfl f4, lk rfl f5, rfl, rfl, rfl, rfl, rfl, rfl, rfl, rfl, trivial⟩
      refine Zj ?_
      have ht23 := Option.some.inj hl15
      subst ht23
      refine Zl ?_
      exact ⟨hE.sub ⟨rfl, rfl, rfl, rfl, rfl, trivial⟩, hM⟩
    ·skip
     rintro a w ⟨hE, hM⟩
     obtain ⟨j24, hl25, hF26⟩ := bind_some hF16
     refine ZW (fun a w => Env 22 a [(0, v0_1), (3, (ptr b1 0)), (5, (vI j24)), (6, (vI s6.2))] ∧ M (Old w0) w0 w [raw b1 (Flat.enc p1)]) ?_ ?_
     ·skip
      refine Zt hE rfl ?_ ?_
      ·intro hb27
       have hl25 := Zz hl25 hb27
       refine wp_region_lit (Zd hE Za (dl rfl) rfl ?_); intro a hE
       refine Zh hE Za (dl rfl) rfl rfl rfl ?_; intro a hE
       refine Ze hE Za (dl rfl) rfl ?_; intro a hE
       refine Zj ?_
       have ht28 := Option.some.inj hl25
       subst ht28
       refine Zl ?_
       exact ⟨hE.sub ⟨rfl, rfl, rfl, rfl, trivial⟩, hM⟩
      ·intro hb27
       have hl25 := ZA hl25 hb27
       refine wp_skip ?_
       have ht29 := Option.some.inj hl25
       subst ht29
       refine Zl ?_
       exact ⟨hE.sub ⟨rfl, rfl, rfl, rfl, trivial⟩, hM⟩
     ·skip
      rintro a w ⟨hE, hM⟩
      refine Yj ?_
      have ht30 := Option.some.inj hF26
      subst ht30
      refine Zl ?_
      exact ⟨hE.sub ⟨rfl, rfl, rfl, rfl, trivial⟩, hM⟩
   ·skip
    rintro a w ⟨hE, hM⟩
    refine wp_region_lit (Zd hE Za (dl rfl) rfl ?_); intro a hE
    refine Zh hE Za (dl rfl) rfl rfl rfl ?_; intro a hE
    refine Ze hE Za (dl rfl) rfl ?_; intro a hE
    refine Zj (Zl ?_)
    exact ⟨_, (Option.some.inj hF13).symm, hE.sub ⟨rfl, rfl, rfl, rfl, trivial⟩, hM⟩
  ·intro hb10
   have hs7 := ZA hs7 hb10
   refine wp_exit (Zr (Zr (Yk ?_)))
   have ht31 := hx8 _ (Option.some.inj hs7).symm
   subst ht31
   refine Zl ?_
   have hM := M.fst (l := []) hM
   exact ⟨hE.sub ⟨rfl, trivial⟩, hM⟩
 ·skip
  rintro a w ⟨hE, hM⟩
  refine Zx (Zc (Zd hE Za (dl rfl) rfl ?_)); intro a hE
  refine Ze hE Za (dl rfl) rfl ?_; intro a hE
  refine Zf ?_
  have hr := Option.some.inj hF5
  subst hr
  exact wp_ret (Zy hE rfl (Zu hE rfl) ⟨_, rfl, rfl, hM.kept⟩)
noncomputable def VE (p0 : GBlobs) (p1 : (Vector UInt8 32)) : Option (Int) :=
 (Vf p0.Keys p1).bind fun r5 => (if (decide (r5 < (p0.Keys.length : Int))) = true then ((idx p0.Keys r5).bind fun x12 => some (decide (x12 = p1))) else (some false) : Option (Bool)).bind fun j7 => if j7 = true then (some r5) else (some (-1))
theorem c_spec_l09Find (w0 : World) (p0 : GBlobs) (v0_1 : Value) (hv0_1 : Ro w0 p0.Keys [v0_1]) (v0_2 : Value) (hv0_2 : Ro w0 p0.Data [v0_2]) (v0_3 : Value) (hv0_3 : Ro w0 p0.Counts [v0_3]) (p1 : (Vector UInt8 32)) (r : Int) (hF : VE p0 p1 = some r) :
  Calls Try.prog 49 [(Value.agg (cat [[v0_1], [v0_2], [v0_3]]).toArray), (Value.agg (Flat.enc p1).toArray)].toArray w0 (fun en w' => ∃ v, en = .returned v ∧ (v = (vI r) ∧ Kept (Old w0) w0 w')) := by
 refine ZC (n := 25) Try.func49 rfl rfl (Nat.le_of_ble_eq_true rfl) rfl ?_
 intro a hE
 have hM := M.start w0
 unfold VE at hF
 refine Zc (Z5 (cs := cat [[v0_1], [v0_2], [v0_3]]) hE hM Za (dl rfl) rfl rfl ?_); intro b1 w a hM hE
 refine Z5 (cs := Flat.enc p1) hE hM Za (dl rfl) rfl rfl ?_; intro b3 w a hM hE
 refine Ze hE Za (dl rfl) rfl ?_; intro a hE
 refine Zf (Zc (Zo hE Za (dl rfl) rfl (VH) ?_)); intro a hE
 refine Zv (v := v0_1) hE Za (dl rfl) rfl ty53 rfl (At.cat (pre := []) (hM.rawAt (pre := [_])) cl0) ?_; intro a hE
 refine Zp (cs := Flat.enc p1) hE Za (dl rfl) rfl Yi rfl (hM.rawAt (pre := [])) (Flat.len _) ?_; intro a hE
 obtain ⟨r5, e6, hF⟩ := bind_some hF
 refine Zw (vs := [v0_1, (Value.agg (Flat.enc p1).toArray)]) hE Za (dl rfl) rfl cb77 (c_spec_l09Place _ p0.Keys v0_1 (hM.rdo hv0_1) p1 r5 e6) ?_
 rintro v w a ⟨rfl, hK⟩ hE
 have hM := hM.keep hK
 refine Ze hE Za (dl rfl) rfl ?_; intro a hE
 refine Zf (wp_seq ?_)
 obtain ⟨j7, hl8, hF9⟩ := bind_some hF
 refine ZS (fun a w => Env 25 a [(5, (vI r5)), (23, (vT j7))] ∧ M (Old w0) w0 w []) ?_ ?_
 ·skip
  refine WV (decide (r5 < (p0.Keys.length : Int))) (fun hb11 => ?_) (fun hb11 => ?_)
  ·have hl8 := Zz hl8 hb11
   obtain ⟨x12, e13, hl8⟩ := bind_some hl8
   have hi14 := ZQ e13
   refine Ye (n := 25) (hd := [_, _, _, _, _, _, _, _, _, _, _, _, _, _]) (tl := []) YB rfl rfl [10, 11, 12, 13, 14, 15, 16, 17, 18, 19, 20, 21, 22, 23] (by decide) (fun w => M (Old w0) w0 w [raw b3 (Flat.enc p1), raw b1 (cat [[v0_1], [v0_2], [v0_3]])]) (fun j => ([fun v _ => v = (vI r5), fun v _ => v = (ptr b1 (0 + 0)), fun v _ => v = v0_1, fun v _ => v = (vI (p0.Keys.length : Int)), fun v _ => v = (vT (decide (r5 < (p0.Keys.length : Int)))), fun v _ => v = (vT (decide (r5 < (p0.Keys.length : Int)))), fun v _ => v = (ptr b1 (0 + 0)), fun v _ => v = v0_1, fun v _ => v = (vI r5), fun v _ => v = (ptr (sb v0_1) (so v0_1 + (r5).toNat * 32)), fun v _ => v = (Value.agg (Flat.enc x12).toArray), fun v _ => v = (Value.agg (Flat.enc p1).toArray), fun v _ => v = (vT (decide (x12 = p1))), fun v _ => v = (vT (decide (x12 = p1)))] : List (Value → World → Prop)).getD j (fun _ _ => True)) (fun _ _ h hk => h.keep hk) (gup (Zg (Zg (Zg (Zg (Zg (Zg (Zg (Zg (Zg (Zg (Zg (Zg (Zg (Zg Ww))))))))))))))) hE hM.drew (ZH (Zb ?_ (Zb ?_ (Zb ?_ (Zb ?_ (Zb ?_ (Zb ?_ (Zb ?_ (Zb ?_ (Zb ?_ (Zb ?_ (Zb ?_ (Zb ?_ (Zb ?_ (Zb ?_ ZD))))))))))))))) ?_
   ·intro a w ux10 hE hM hp
    refine Zd hE Za (dl rfl) rfl ?_; intro a hE
    exact ⟨Kept.refl _ _, _, _, rfl, hE, rfl⟩
   ·intro a w ux10 hE hM hp
    refine Zo hE Za (dl rfl) rfl (VH) ?_; intro a hE
    exact ⟨Kept.refl _ _, _, _, rfl, hE, rfl⟩
   ·intro a w ux10 hE hM hp
    have f1 : ux10 1 = (ptr b1 (0 + 0)) := hp 0 _ rfl rfl
    refine Zv (v := v0_1) hE Za (dl rfl) (lk rfl f1) ty53 rfl (At.cat (pre := []) (hM.rawAt (pre := [_])) cl0) ?_; intro a hE
    exact ⟨Kept.refl _ _, _, _, rfl, hE, rfl⟩
   ·intro a w ux10 hE hM hp
    have f2 : ux10 2 = v0_1 := hp 0 _ rfl rfl
    refine Z8 hE Za (dl rfl) (lk rfl f2) Try.underlying53 (hM.rd hv0_1) ?_; intro a hE
    exact ⟨Kept.refl _ _, _, _, rfl, hE, rfl⟩
   ·intro a w ux10 hE hM hp
    have f0 : ux10 0 = (vI r5) := hp 0 _ rfl rfl
    have f3 : ux10 3 = (vI (p0.Keys.length : Int)) := hp 1 _ rfl rfl
    refine Zh hE Za (dl rfl) (lk rfl f0) (lk rfl f3) rfl ?_; intro a hE
    exact ⟨Kept.refl _ _, _, _, rfl, hE, rfl⟩
   ·intro a w ux10 hE hM hp
    have f4 : ux10 4 = (vT (decide (r5 < (p0.Keys.length : Int)))) := hp 0 _ rfl rfl
    refine Zd hE Za (dl rfl) (lk rfl f4) ?_; intro a hE
    exact ⟨Kept.refl _ _, _, _, rfl, hE, rfl⟩
   ·intro a w ux10 hE hM hp
    have f5 : ux10 5 = (vT (decide (r5 < (p0.Keys.length : Int)))) := hp 0 _ rfl rfl
    refine Zo hE (Zk hE rfl (lkb (lk rfl f5) hb11)) (by decide) rfl (VH) ?_; intro a hE
    exact ⟨Kept.refl _ _, _, _, rfl, hE, rfl⟩
   ·intro a w ux10 hE hM hp
    have f5 : ux10 5 = (vT (decide (r5 < (p0.Keys.length : Int)))) := hp 1 _ rfl rfl
    have f6 : ux10 6 = (ptr b1 (0 + 0)) := hp 0 _ rfl rfl
    refine Zv (v := v0_1) hE (Zk hE rfl (lkb (lk rfl f5) hb11)) (by decide) (lk rfl f6) ty53 rfl (At.cat (pre := []) (hM.rawAt (pre := [_])) cl0) ?_; intro a hE
    exact ⟨Kept.refl _ _, _, _, rfl, hE, rfl⟩
   ·intro a w ux10 hE hM hp
    have f5 : ux10 5 = (vT (decide (r5 < (p0.Keys.length : Int)))) := hp 0 _ rfl rfl
    refine Zd hE (Zk hE rfl (lkb (lk rfl f5) hb11)) (by decide) rfl ?_; intro a hE
    exact ⟨Kept.refl _ _, _, _, rfl, hE, rfl⟩
   ·intro a w ux10 hE hM hp
    have f5 : ux10 5 = (vT (decide (r5 < (p0.Keys.length : Int)))) := hp 2 _ rfl rfl
    have f7 : ux10 7 = v0_1 := hp 0 _ rfl rfl
    have f8 : ux10 8 = (vI r5) := hp 1 _ rfl rfl
    refine ZK hE (Zk hE rfl (lkb (lk rfl f5) hb11)) (by decide) (lk rfl f7) (lk rfl f8) Try.underlying53 Yi (hM.rd hv0_1) hi14.1 ?_; intro a hE
    exact ⟨Kept.refl _ _, _, _, rfl, hE, rfl⟩
   ·intro a w ux10 hE hM hp
    have f5 : ux10 5 = (vT (decide (r5 < (p0.Keys.length : Int)))) := hp 1 _ rfl rfl
    have f9 : ux10 9 = (ptr (sb v0_1) (so v0_1 + (r5).toNat * 32)) := hp 0 _ rfl rfl
    refine Zp (cs := Flat.enc x12) hE (Zk hE rfl (lkb (lk rfl f5) hb11)) (by decide) (lk rfl f9) Yi rfl (Yr (hM.rd hv0_1) hi14.2) (Flat.len _) ?_; intro a hE
    exact ⟨Kept.refl _ _, _, _, rfl, hE, rfl⟩
   ·intro a w ux10 hE hM hp
    have f5 : ux10 5 = (vT (decide (r5 < (p0.Keys.length : Int)))) := hp 0 _ rfl rfl
    refine Zp (cs := Flat.enc p1) hE (Zk hE rfl (lkb (lk rfl f5) hb11)) (by decide) rfl Yi rfl (hM.rawAt (pre := [])) (Flat.len _) ?_; intro a hE
    exact ⟨Kept.refl _ _, _, _, rfl, hE, rfl⟩
   ·intro a w ux10 hE hM hp
    have f5 : ux10 5 = (vT (decide (r5 < (p0.Keys.length : Int)))) := hp 2 _ rfl rfl
    have f10 : ux10 10 = (Value.agg (Flat.enc x12).toArray) := hp 0 _ rfl rfl
    have f11 : ux10 11 = (Value.agg (Flat.enc p1).toArray) := hp 1 _ rfl rfl
    refine s_eqA hE (Zk hE rfl (lkb (lk rfl f5) hb11)) (by decide) (lk rfl f10) (lk rfl f11) (eqok_arr Try.underlying25 ty5 rfl false rfl (by decide) (eqok_byte Try.underlying5)) (by decide) (by kernel_rfl) ?_; intro a hE
    exact ⟨Kept.refl _ _, _, _, rfl, hE, rfl⟩
   ·intro a w ux10 hE hM hp
    have f5 : ux10 5 = (vT (decide (r5 < (p0.Keys.length : Int)))) := hp 0 _ rfl rfl
    have f12 : ux10 12 = (vT (decide (x12 = p1))) := hp 1 _ rfl rfl
    refine Yn hE Za (dl rfl) (lkb (lk rfl f5) hb11) (lk rfl f12) ?_; intro a hE
    exact ⟨Kept.refl _ _, _, _, rfl, hE, rfl⟩
   ·intro a w ux10 hE hM hg
    have f0 : ux10 0 = (vI r5) := hg 0 (by decide)
    have f1 : ux10 1 = (ptr b1 (0 + 0)) := hg 1 (by decide)
    have f2 : ux10 2 = v0_1 := hg 2 (by decide)
    have f3 : ux10 3 = (vI (p0.Keys.length : Int)) := hg 3 (by decide)
    have f4 : ux10 4 = (vT (decide (r5 < (p0.Keys.length : Int)))) := hg 4 (by decide)
    have f5 : ux10 5 = (vT (decide (r5 < (p0.Keys.length : Int)))) := hg 5 (by decide)
    have f6 : ux10 6 = (ptr b1 (0 + 0)) := hg 6 (by decide)
    have f7 : ux10 7 = v0_1 := hg 7 (by decide)
    have f8 : ux10 8 = (vI r5) := hg 8 (by decide)
    have f9 : ux10 9 = (ptr (sb v0_1) (so v0_1 + (r5).toNat * 32)) := hg 9 (by decide)
    have f10 : ux10 10 = (Value.agg (Flat.enc x12).toArray) := hg 10 (by decide)
    have f11 : ux10 11 = (Value.agg (Flat.enc p1).toArray) := hg 11 (by decide)
    have f12 : ux10 12 = (vT (decide (x12 = p1))) := hg 12 (by decide)
    have f13 : ux10 13 = (vT (decide (x12 = p1))) := hg 13 (by decide)
    have hE := hE.sub (e' := [(10, (vI r5)), (11, (ptr b1 (0 + 0))), (12, v0_1), (13, (vI (p0.Keys.length : Int))), (14, (vT (decide (r5 < (p0.Keys.length : Int))))), (15, (vT (decide (r5 < (p0.Keys.length : Int))))), (16, (ptr b1 (0 + 0))), (17, v0_1), (18, (vI r5)), (19, (ptr (sb v0_1) (so v0_1 + (r5).toNat * 32))), (20, (Value.agg (Flat.enc x12).toArray)), (21, (Value.agg (Flat.enc p1).toArray)), (22, (vT (decide (x12 = p1)))), (23, (vT (decide (x12 = p1)))), (0, (Value.agg (cat [[v0_1], [v0_2], [v0_3]]).toArray)), (1, (Value.agg (Flat.enc p1).toArray)), (2, (ptr b1 0)), (3, (ptr b3 0)), (4, (vI 0)), (5, (vI r5)), (6, (ptr b1 (0 + 0))), (7, v0_1), (8, (Value.agg (Flat.enc p1).toArray)), (9, (vI r5))]) ⟨lk rfl f0, lk rfl f1, lk rfl f2, lk rfl f3, lk rfl f4, lk rfl f5, lk rfl f6, lk rfl f7, lk rfl f8, lk rfl f9, lk rfl f10, lk rfl f11, lk rfl f12, lk rfl f13, rfl, rfl, rfl, rfl, rfl, rfl, rfl, rfl, rfl, rfl, trivial⟩
    refine Zj ?_
    have ht15 := Option.some.inj hl8
    subst ht15
    refine Zl ?_
    have hM := M.fst (l := []) hM
    exact ⟨hE.sub ⟨rfl, rfl, trivial⟩, hM⟩
  ·have hl8 := ZA hl8 hb11
   refine Ye (n := 25) (hd := [_, _, _, _, _, _, _, _, _, _, _, _, _, _]) (tl := []) YB rfl rfl [10, 11, 12, 13, 14, 15, 16, 17, 18, 19, 20, 21, 22, 23] (by decide) (fun w => M (Old w0) w0 w [raw b3 (Flat.enc p1), raw b1 (cat [[v0_1], [v0_2], [v0_3]])]) (fun j => ([fun v _ => v = (vI r5), fun v _ => v = (ptr b1 (0 + 0)), fun v _ => v = v0_1, fun v _ => v = (vI (p0.Keys.length : Int)), fun v _ => v = (vT (decide (r5 < (p0.Keys.length : Int)))), fun v _ => v = (vT (decide (r5 < (p0.Keys.length : Int)))), fun v _ => v = undef, fun v _ => v = undef, fun v _ => v = undef, fun v _ => v = undef, fun v _ => v = undef, fun v _ => v = undef, fun v _ => v = undef, fun v _ => v = (vT false)] : List (Value → World → Prop)).getD j (fun _ _ => True)) (fun _ _ h hk => h.keep hk) (gup (Zg (Zg (Zg (Zg (Zg (Zg (Zg (Zg (Zg (Zg (Zg (Zg (Zg (Zg Ww))))))))))))))) hE hM.drew (ZH (Zb ?_ (Zb ?_ (Zb ?_ (Zb ?_ (Zb ?_ (Zb ?_ (Zb ?_ (Zb ?_ (Zb ?_ (Zb ?_ (Zb ?_ (Zb ?_ (Zb ?_ (Zb ?_ ZD))))))))))))))) ?_
   ·intro a w ux10 hE hM hp
    refine Zd hE Za (dl rfl) rfl ?_; intro a hE
    exact ⟨Kept.refl _ _, _, _, rfl, hE, rfl⟩
   ·intro a w ux10 hE hM hp
    refine Zo hE Za (dl rfl) rfl (VH) ?_; intro a hE
    exact ⟨Kept.refl _ _, _, _, rfl, hE, rfl⟩
   ·intro a w ux10 hE hM hp
    have f1 : ux10 1 = (ptr b1 (0 + 0)) := hp 0 _ rfl rfl
    refine Zv (v := v0_1) hE Za (dl rfl) (lk rfl f1) ty53 rfl (At.cat (pre := []) (hM.rawAt (pre := [_])) cl0) ?_; intro a hE
    exact ⟨Kept.refl _ _, _, _, rfl, hE, rfl⟩
   ·intro a w ux10 hE hM hp
    have f2 : ux10 2 = v0_1 := hp 0 _ rfl rfl
    refine Z8 hE Za (dl rfl) (lk rfl f2) Try.underlying53 (hM.rd hv0_1) ?_; intro a hE
    exact ⟨Kept.refl _ _, _, _, rfl, hE, rfl⟩
   ·intro a w ux10 hE hM hp
    have f0 : ux10 0 = (vI r5) := hp 0 _ rfl rfl
    have f3 : ux10 3 = (vI (p0.Keys.length : Int)) := hp 1 _ rfl rfl
    refine Zh hE Za (dl rfl) (lk rfl f0) (lk rfl f3) rfl ?_; intro a hE
    exact ⟨Kept.refl _ _, _, _, rfl, hE, rfl⟩
   ·intro a w ux10 hE hM hp
    have f4 : ux10 4 = (vT (decide (r5 < (p0.Keys.length : Int)))) := hp 0 _ rfl rfl
    refine Zd hE Za (dl rfl) (lk rfl f4) ?_; intro a hE
    exact ⟨Kept.refl _ _, _, _, rfl, hE, rfl⟩
   ·intro a w ux10 hE hM hp
    have f5 : ux10 5 = (vT (decide (r5 < (p0.Keys.length : Int)))) := hp 0 _ rfl rfl
    refine Zn hE rfl (lkb (lk rfl f5) hb11) rfl (by decide) ?_; intro a hE
    exact ⟨Kept.refl _ _, _, _, rfl, hE, rfl⟩
   ·intro a w ux10 hE hM hp
    have f5 : ux10 5 = (vT (decide (r5 < (p0.Keys.length : Int)))) := hp 1 _ rfl rfl
    have f6 : ux10 6 = undef := hp 0 _ rfl rfl
    refine Zn hE rfl (lkb (lk rfl f5) hb11) rfl (by decide) ?_; intro a hE
    exact ⟨Kept.refl _ _, _, _, rfl, hE, rfl⟩
   ·intro a w ux10 hE hM hp
    have f5 : ux10 5 = (vT (decide (r5 < (p0.Keys.length : Int)))) := hp 0 _ rfl rfl
    refine Zn hE rfl (lkb (lk rfl f5) hb11) rfl (by decide) ?_; intro a hE
    exact ⟨Kept.refl _ _, _, _, rfl, hE, rfl⟩
   ·intro a w ux10 hE hM hp
    have f5 : ux10 5 = (vT (decide (r5 < (p0.Keys.length : Int)))) := hp 2 _ rfl rfl
    have f7 : ux10 7 = undef := hp 0 _ rfl rfl
    have f8 : ux10 8 = undef := hp 1 _ rfl rfl
    refine Zn hE rfl (lkb (lk rfl f5) hb11) rfl (by decide) ?_; intro a hE
    exact ⟨Kept.refl _ _, _, _, rfl, hE, rfl⟩
   ·intro a w ux10 hE hM hp
    have f5 : ux10 5 = (vT (decide (r5 < (p0.Keys.length : Int)))) := hp 1 _ rfl rfl
    have f9 : ux10 9 = undef := hp 0 _ rfl rfl
    refine Zn hE rfl (lkb (lk rfl f5) hb11) rfl (by decide) ?_; intro a hE
    exact ⟨Kept.refl _ _, _, _, rfl, hE, rfl⟩
   ·intro a w ux10 hE hM hp
    have f5 : ux10 5 = (vT (decide (r5 < (p0.Keys.length : Int)))) := hp 0 _ rfl rfl
    refine Zn hE rfl (lkb (lk rfl f5) hb11) rfl (by decide) ?_; intro a hE
    exact ⟨Kept.refl _ _, _, _, rfl, hE, rfl⟩
   ·intro a w ux10 hE hM hp
    have f5 : ux10 5 = (vT (decide (r5 < (p0.Keys.length : Int)))) := hp 2 _ rfl rfl
    have f10 : ux10 10 = undef := hp 0 _ rfl rfl
    have f11 : ux10 11 = undef := hp 1 _ rfl rfl
    refine Zn hE rfl (lkb (lk rfl f5) hb11) rfl (by decide) ?_; intro a hE
    exact ⟨Kept.refl _ _, _, _, rfl, hE, rfl⟩
   ·intro a w ux10 hE hM hp
    have f5 : ux10 5 = (vT (decide (r5 < (p0.Keys.length : Int)))) := hp 0 _ rfl rfl
    have f12 : ux10 12 = undef := hp 1 _ rfl rfl
    refine YQ hE Za (dl rfl) (lkb (lk rfl f5) hb11) rfl ?_; intro a hE
    exact ⟨Kept.refl _ _, _, _, rfl, hE, rfl⟩
   ·intro a w ux10 hE hM hg
    have f0 : ux10 0 = (vI r5) := hg 0 (by decide)
    have f1 : ux10 1 = (ptr b1 (0 + 0)) := hg 1 (by decide)
    have f2 : ux10 2 = v0_1 := hg 2 (by decide)
    have f3 : ux10 3 = (vI (p0.Keys.length : Int)) := hg 3 (by decide)
    have f4 : ux10 4 = (vT (decide (r5 < (p0.Keys.length : Int)))) := hg 4 (by decide)
    have f5 : ux10 5 = (vT (decide (r5 < (p0.Keys.length : Int)))) := hg 5 (by decide)
    have f6 : ux10 6 = undef := hg 6 (by decide)
    have f7 : ux10 7 = undef := hg 7 (by decide)
    have f8 : ux10 8 = undef := hg 8 (by decide)
    have f9 : ux10 9 = undef := hg 9 (by decide)
    have f10 : ux10 10 = undef := hg 10 (by decide)
    have f11 : ux10 11 = undef := hg 11 (by decide)
    have f12 : ux10 12 = undef := hg 12 (by decide)
    have f13 : ux10 13 = (vT false) := hg 13 (by decide)
    have hE := hE.sub (e' := [(10, (vI r5)), (11, (ptr b1 (0 + 0))), (12, v0_1), (13, (vI (p0.Keys.length : Int))), (14, (vT (decide (r5 < (p0.Keys.length : Int))))), (15, (vT (decide (r5 < (p0.Keys.length : Int))))), (16, undef), (17, undef), (18, undef), (19, undef), (20, undef), (21, undef), (22, undef), (23, (vT false)), (0, (Value.agg (cat [[v0_1], [v0_2], [v0_3]]).toArray)), (1, (Value.agg (Flat.enc p1).toArray)), (2, (ptr b1 0)), (3, (ptr b3 0)), (4, (vI 0)), (5, (vI r5)), (6, (ptr b1 (0 + 0))), (7, v0_1), (8, (Value.agg (Flat.enc p1).toArray)), (9, (vI r5))]) ⟨lk rfl f0, lk rfl f1, lk rfl f2, lk rfl f3, lk rfl f4, lk rfl f5, lk rfl f6, lk rfl f7, lk rfl f8, lk rfl f9, lk rfl f10, lk rfl f11, lk rfl f12, lk rfl f13, rfl, rfl, rfl, rfl, rfl, rfl, rfl, rfl, rfl, rfl, trivial⟩
    refine Zj ?_
    have ht16 := Option.some.inj hl8
    subst ht16
    refine Zl ?_
    have hM := M.fst (l := []) hM
    exact ⟨hE.sub ⟨rfl, rfl, trivial⟩, hM⟩
 ·skip
  rintro a w ⟨hE, hM⟩
  refine Zt hE rfl ?_ ?_
  ·intro hb17
   have hF9 := Zz hF9 hb17
   refine Zc (Zd hE Za (dl rfl) rfl ?_); intro a hE
   refine Ze hE Za (dl rfl) rfl ?_; intro a hE
   refine Zf ?_
   have hr := Option.some.inj hF9
   subst hr
   exact wp_ret (ZL (Zy hE rfl (Zu hE rfl) ⟨_, rfl, rfl, hM.kept⟩))
  ·intro hb17
   have hF9 := ZA hF9 hb17
   refine wp_skip (Zx (Zc (Ze hE Za (dl rfl) rfl ?_))); intro a hE
   refine Zf ?_
   have hr := Option.some.inj hF9
   subst hr
   exact wp_ret (Zy hE rfl (Zu hE rfl) ⟨_, rfl, rfl, hM.kept⟩)
noncomputable def VG (p0 : GBlobs) (p1 : (Vector UInt8 32)) : Option ((List UInt8) × Int) :=
 (UD p0).bind fun r5 => if (!r5) = true then (some ([], 1)) else ((VE p0 p1).bind fun r9 => if (decide (r9 < 0)) = true then (some ([], 4)) else ((idx p0.Data r9).bind fun x13 => (WI x13).bind fun r21 => some (r21, 0)))
theorem c_spec_GetBlob (w0 : World) (p0 : GBlobs) (v0_1 : Value) (hv0_1 : Ro w0 p0.Keys [v0_1]) (v0_2 : Value) (hv0_2 : Ro w0 p0.Data [v0_2]) (v0_3 : Value) (hv0_3 : Ro w0 p0.Counts [v0_3]) (p1 : (Vector UInt8 32)) (r : (List UInt8) × Int) (hF : VG p0 p1 = some r) :
  Calls Try.prog 19 [(Value.agg (cat [[v0_1], [v0_2], [v0_3]]).toArray), (Value.agg (Flat.enc p1).toArray)].toArray w0 (fun en w' => ∃ v, en = .returned v ∧ (∃ (y1 : Value), v = (Value.tuple [y1, (vI r.2)].toArray) ∧ Fr w0 w' [osl NoB (r.1 : List UInt8) y1] ∧ Kept (Old w0) w0 w')) := by
 refine ZC (n := 21) Try.func19 rfl rfl (Nat.le_of_ble_eq_true rfl) rfl ?_
 intro a hE
 have hM := M.start w0
 unfold VG at hF
 refine Zc (Z5 (cs := cat [[v0_1], [v0_2], [v0_3]]) hE hM Za (dl rfl) rfl rfl ?_); intro b1 w a hM hE
 refine Z5 (cs := Flat.enc p1) hE hM Za (dl rfl) rfl rfl ?_; intro b3 w a hM hE
 refine Ze hE Za (dl rfl) rfl ?_; intro a hE
 refine Ze hE Za (dl rfl) rfl ?_; intro a hE
 refine Zf (wp_seq (Zc (Zp (cs := cat [[v0_1], [v0_2], [v0_3]]) hE Za (dl rfl) rfl ty55 rfl (hM.rawAt (pre := [_])) (ZR (cl1 (n := 1) (m := 2) rfl (cl1 (n := 1) (m := 1) rfl (cl1 (n := 1) (m := 0) rfl cl0)))) ?_))); intro a hE
 obtain ⟨r5, e6, hF⟩ := bind_some hF
 refine Zw (vs := [(Value.agg (cat [[v0_1], [v0_2], [v0_3]]).toArray)]) hE Za (dl rfl) rfl cb48 (c_spec_l09Is _ p0 v0_1 (hM.rdo hv0_1) v0_2 (hM.rdo hv0_2) v0_3 (hM.rdo hv0_3) r5 e6) ?_
 rintro v w a ⟨rfl, hK⟩ hE
 have hM := hM.keep hK
 refine Un hE Za (dl rfl) rfl ?_; intro a hE
 refine Zf ?_
 refine Zt hE rfl ?_ ?_
 ·intro hb7
  have hF := Zz hF hb7
  refine Zc (Ze hE Za (dl rfl) rfl ?_); intro a hE
  refine Ze hE Za (dl rfl) rfl ?_; intro a hE
  refine Zf ?_
  have hM := M.nilS (α := UInt8) NoB noB hM
  have hr := Option.some.inj hF
  subst hr
  have hM := M.fst (l := [_]) hM
  exact wp_ret (ZL (k_ret2 hE rfl (Zu hE rfl) (Zu hE rfl) ⟨_, rfl, (Value.slice none 0 0), rfl, hM.outF (Vr W0), hM.kept⟩))
 ·intro hb7
  have hF := ZA hF hb7
  refine wp_skip (Zx (Zc (Zp (cs := cat [[v0_1], [v0_2], [v0_3]]) hE Za (dl rfl) rfl ty55 rfl (hM.rawAt (pre := [_])) (ZR (cl1 (n := 1) (m := 2) rfl (cl1 (n := 1) (m := 1) rfl (cl1 (n := 1) (m := 0) rfl cl0)))) ?_))); intro a hE
  refine Zp (cs := Flat.enc p1) hE Za (dl rfl) rfl Yi rfl (hM.rawAt (pre := [])) (Flat.len _) ?_; intro a hE
  obtain ⟨r9, e10, hF⟩ := bind_some hF
  refine Zw (vs := [(Value.agg (cat [[v0_1], [v0_2], [v0_3]]).toArray), (Value.agg (Flat.enc p1).toArray)]) hE Za (dl rfl) rfl cb49 (c_spec_l09Find _ p0 v0_1 (hM.rdo hv0_1) v0_2 (hM.rdo hv0_2) v0_3 (hM.rdo hv0_3) p1 r9 e10) ?_
  rintro v w a ⟨rfl, hK⟩ hE
  have hM := hM.keep hK
  refine Ze hE Za (dl rfl) rfl ?_; intro a hE
  refine Zf (wp_seq (Zc (Zd hE Za (dl rfl) rfl ?_))); intro a hE
  refine Zh hE Za (dl rfl) rfl rfl rfl ?_; intro a hE
  refine Zf ?_
  refine Zt hE rfl ?_ ?_
  ·intro hb11
   have hF := Zz hF hb11
   refine Zc (Ze hE Za (dl rfl) rfl ?_); intro a hE
   refine Ze hE Za (dl rfl) rfl ?_; intro a hE
   refine Zf ?_
   have hM := M.nilS (α := UInt8) NoB noB hM
   have hr := Option.some.inj hF
   subst hr
   have hM := M.fst (l := [_]) hM
   exact wp_ret (ZL (k_ret2 hE rfl (Zu hE rfl) (Zu hE rfl) ⟨_, rfl, (Value.slice none 0 0), rfl, hM.outF (Vr W0), hM.kept⟩))
  ·intro hb11
   have hF := ZA hF hb11
   refine wp_skip (Zx (Zc (Zo hE Za (dl rfl) rfl (UE) ?_))); intro a hE
   refine Zv (v := v0_2) hE Za (dl rfl) rfl ty45 rfl (At.cat (pre := [[v0_1]]) (hM.rawAt (pre := [_])) (cl1 (n := 1) (m := 0) rfl cl0)) ?_; intro a hE
   refine Zd hE Za (dl rfl) rfl ?_; intro a hE
   obtain ⟨x13, e14, hF⟩ := bind_some hF
   have hi15 := ZQ e14
   refine ZK hE Za (dl rfl) rfl rfl Try.underlying45 Vz (hM.rd hv0_2) hi15.1 ?_; intro a hE
   obtain ⟨cs16, hs17, hA18⟩ := Uz hv0_2 hi15.2 -- ^
   obtain ⟨u19, rfl⟩ := Vo hs17 -- ^
   have h20 := hs17 -- ^
   refine Zv (v := u19) hE Za (dl rfl) rfl Vz rfl (hM.atk hA18 (Ux hv0_2 hi15.2)) ?_; intro a hE
   obtain ⟨r21, e22, hF⟩ := bind_some hF
   refine Zw (vs := [u19]) hE Za (dl rfl) rfl cb50 (c_spec_l01Copy _ x13 u19 (hM.rdo h20) r21 e22) ?_
   rintro u23 w a ⟨_, rfl, hFr, hK⟩ hE
   have hM := hM.add hK hFr
   refine Ze hE Za (dl rfl) rfl ?_; intro a hE
   refine Ze hE Za (dl rfl) rfl ?_; intro a hE
   refine Zf ?_
   have hr := Option.some.inj hF
   subst hr
   have hM := M.fst (l := [_]) hM
   exact wp_ret (k_ret2 hE rfl (Zu hE rfl) (Zu hE rfl) ⟨_, rfl, u23, rfl, hM.outF (Vr W0), hM.kept⟩)
noncomputable def V3 (p1 : Int) (p2 : Int) (s4 : Int × Int) : Option (Fl (Int × Int) Int) :=
 if (decide (s4.2 ≥ p2)) = true then (((Xj s4.2).bind fun _ => (if ((andI (Vv s4.1 s4.2) 1) == 1) = true then ((Xj (wr (s4.2 - p2))).bind fun _ => some (UF s4.1 (shlI p1 (wr (s4.2 - p2))))) else (some s4.1) : Option (Int)).bind fun j13 => some j13 : Option (Int)).bind fun j9 => some (Fl.nx (j9, wr (s4.2 - 1)))) else (some (Fl.ex s4.1))
noncomputable def Up (p0 : Int) (p1 : Int) (p2 : Int) : Option (Int) :=
 (ZG (V3 p1 p2) (p0, 15) : Option (Int)).bind fun j1 => some j1
theorem c_impl_rest (w0 : World) (p0 : Int) (p1 : Int) (p2 : Int) (r : Int) (hF : Up p0 p1 p2 = some r) :
  Calls Try.prog 132 [(vI p0), (vI p1), (vI p2)].toArray w0 (fun en w' => ∃ v, en = .returned v ∧ (v = (vI r) ∧ Kept (Old w0) w0 w')) := by
 refine ZC (n := 26) Try.func132 rfl rfl (Nat.le_of_ble_eq_true rfl) rfl ?_
 intro a hE
 have hM := M.start w0
 unfold Up at hF
 refine Zc (Ze hE Za (dl rfl) rfl ?_); intro a hE
 refine Zf (wp_seq (Zc (Ze hE Za (dl rfl) rfl ?_))); intro a hE
 refine Zf ?_
 obtain ⟨j1, hl2, hF3⟩ := bind_some hF
 refine ZW (fun a w => Env 26 a [(0, (vI j1))] ∧ M (Old w0) w0 w []) ?_ ?_
 ·skip
  refine wp_block ?_
  refine ZM (fun (s4 : Int × Int) a w => Env 26 a [(0, (vI s4.1)), (1, (vI p1)), (2, (vI p2)), (7, (vI s4.2))] ∧ M (Old w0) w0 w []) hl2 ⟨hE.sub ⟨rfl, rfl, rfl, rfl, trivial⟩, hM⟩ ?_
  rintro s4 a w ⟨hE, hM⟩ o7 hs5 hx6
  unfold V3 at hs5
  refine wp_seq (Zc (Zd hE Za (dl rfl) rfl ?_)); intro a hE
  refine Zd hE Za (dl rfl) rfl ?_; intro a hE
  refine Zh hE Za (dl rfl) rfl rfl rfl ?_; intro a hE
  refine Zf ?_
  refine Zt hE rfl ?_ ?_
  ·intro hb8
   have hs5 := Zz hs5 hb8
   refine wp_skip (Zx ?_)
   obtain ⟨j9, hl10, hF11⟩ := bind_some hs5
   refine ZS (fun a w => Env 26 a [(0, (vI j9)), (1, (vI p1)), (2, (vI p2)), (7, (vI s4.2))] ∧ M (Old w0) w0 w []) ?_ ?_
   ·skip
    refine wp_block (Zc (Zd hE Za (dl rfl) rfl ?_)); intro a hE
    refine Zd hE Za (dl rfl) rfl ?_; intro a hE
    obtain ⟨_, e12, hl10⟩ := bind_some hl10
    have e12 := Ws e12
    refine s_sh hE Za (dl rfl) rfl rfl (bI_shr _ _ e12) ?_; intro a hE
    refine Zh hE Za (dl rfl) rfl rfl rfl ?_; intro a hE
    refine Zh hE Za (dl rfl) rfl rfl rfl ?_; intro a hE
    refine Zf ?_
    obtain ⟨j13, hl14, hF15⟩ := bind_some hl10
    refine ZW (fun a w => Env 26 a [(0, (vI j13)), (1, (vI p1)), (2, (vI p2)), (7, (vI s4.2))] ∧ M (Old w0) w0 w []) ?_ ?_
    ·skip
     refine Zt hE rfl ?_ ?_
     ·intro hb16
      have hl14 := Zz hl14 hb16
      refine wp_region_lit (Zd hE Za (dl rfl) rfl ?_); intro a hE
      refine Zd hE Za (dl rfl) rfl ?_; intro a hE
      refine Zd hE Za (dl rfl) rfl ?_; intro a hE
      refine Zd hE Za (dl rfl) rfl ?_; intro a hE
      refine Zh hE Za (dl rfl) rfl rfl rfl ?_; intro a hE
      obtain ⟨_, e17, hl14⟩ := bind_some hl14
      have e17 := Ws e17
      refine s_sh hE Za (dl rfl) rfl rfl (bI_shl _ _ e17) ?_; intro a hE
      refine Zh hE Za (dl rfl) rfl rfl rfl ?_; intro a hE
      refine Ze hE Za (dl rfl) rfl ?_; intro a hE
      refine Zj ?_
      have ht18 := Option.some.inj hl14
      subst ht18
      refine Zl ?_
      exact ⟨hE.sub ⟨rfl, rfl, rfl, rfl, trivial⟩, hM⟩
     ·intro hb16
      have hl14 := ZA hl14 hb16
      refine wp_skip ?_
      have ht19 := Option.some.inj hl14
      subst ht19
      refine Zl ?_
      exact ⟨hE.sub ⟨rfl, rfl, rfl, rfl, trivial⟩, hM⟩
    ·skip
     rintro a w ⟨hE, hM⟩
     refine Yj ?_
     have ht20 := Option.some.inj hF15
     subst ht20
     refine Zl ?_
     exact ⟨hE.sub ⟨rfl, rfl, rfl, rfl, trivial⟩, hM⟩
   ·skip
    rintro a w ⟨hE, hM⟩
    refine wp_region_lit (Zd hE Za (dl rfl) rfl ?_); intro a hE
    refine Zh hE Za (dl rfl) rfl rfl rfl ?_; intro a hE
    refine Ze hE Za (dl rfl) rfl ?_; intro a hE
    refine Zj (Zl ?_)
    exact ⟨_, (Option.some.inj hF11).symm, hE.sub ⟨rfl, rfl, rfl, rfl, trivial⟩, hM⟩
  ·intro hb8
   have hs5 := ZA hs5 hb8
   refine wp_exit (Zr (Zr (Yk ?_)))
   have ht21 := hx6 _ (Option.some.inj hs5).symm
   subst ht21
   refine Zl ?_
   exact ⟨hE.sub ⟨rfl, trivial⟩, hM⟩
 ·skip
  rintro a w ⟨hE, hM⟩
  refine Zx (Zc (Zd hE Za (dl rfl) rfl ?_)); intro a hE
  refine Ze hE Za (dl rfl) rfl ?_; intro a hE
  refine Zf ?_
  have hr := Option.some.inj hF3
  subst hr
  exact wp_ret (Zy hE rfl (Zu hE rfl) ⟨_, rfl, rfl, hM.kept⟩)
noncomputable def Y3 (p1 : UInt8) (p2 : UInt8) (s4 : Int × Int) : Option (Fl (Int × Int) Int) :=
 if (decide (s4.2 < 8)) = true then (((Xj s4.2).bind fun _ => (if (((shrB p2 s4.2) &&& 1) == 1) = true then ((Xj s4.2).bind fun _ => some (UF s4.1 (shlI (bI p1) s4.2))) else (some s4.1) : Option (Int)).bind fun j13 => some j13 : Option (Int)).bind fun j9 => some (Fl.nx (j9, wr (s4.2 + 1)))) else (some (Fl.ex s4.1))
noncomputable def Z3 (p0 : Int) (p1 : UInt8) (p2 : UInt8) : Option (UInt8) :=
 (ZG (Y3 p1 p2) (0, 0) : Option (Int)).bind fun j1 => (Up j1 p0 8).bind fun r22 => some (ZE r22)
theorem Yq (w0 : World) (p0 : Int) (p1 : UInt8) (p2 : UInt8) (r : UInt8) (hF : Z3 p0 p1 p2 = some r) :
  Calls Try.prog 127 [(vI p0), (vB p1), (vB p2)].toArray w0 (fun en w' => ∃ v, en = .returned v ∧ (v = (vB r) ∧ Kept (Old w0) w0 w')) := by
 refine ZC (n := 28) Try.func127 rfl rfl (Nat.le_of_ble_eq_true rfl) rfl ?_
 intro a hE
 have hM := M.start w0
 unfold Z3 at hF
 refine Zc (Ze hE Za (dl rfl) rfl ?_); intro a hE
 refine Zf (Zc (Ze hE Za (dl rfl) rfl ?_)); intro a hE
 refine Zf (wp_seq (Zc (Zd hE Za (dl rfl) rfl ?_))); intro a hE
 refine Zf ?_
 obtain ⟨j1, hl2, hF3⟩ := bind_some hF
 refine ZW (fun a w => Env 28 a [(0, (vI p0)), (7, (vI j1))] ∧ M (Old w0) w0 w []) ?_ ?_
 ·skip
  refine wp_block ?_
  refine ZM (fun (s4 : Int × Int) a w => Env 28 a [(0, (vI p0)), (1, (vB p1)), (2, (vB p2)), (7, (vI s4.1)), (9, (vI s4.2))] ∧ M (Old w0) w0 w []) hl2 ⟨hE.sub ⟨rfl, rfl, rfl, rfl, rfl, trivial⟩, hM⟩ ?_
  rintro s4 a w ⟨hE, hM⟩ o7 hs5 hx6
  unfold Y3 at hs5
  refine Zc (Zh hE Za (dl rfl) rfl rfl rfl ?_); intro a hE
  refine Zf (wp_seq ?_)
  refine Zt hE rfl ?_ ?_
  ·intro hb8
   have hs5 := Zz hs5 hb8
   refine wp_skip (Zx ?_)
   obtain ⟨j9, hl10, hF11⟩ := bind_some hs5
   refine ZS (fun a w => Env 28 a [(0, (vI p0)), (1, (vB p1)), (2, (vB p2)), (7, (vI j9)), (9, (vI s4.2))] ∧ M (Old w0) w0 w []) ?_ ?_
   ·skip
    refine wp_block (Zc (Zd hE Za (dl rfl) rfl ?_)); intro a hE
    refine Ze hE Za (dl rfl) rfl ?_; intro a hE
    refine Zf (Zc (Zd hE Za (dl rfl) rfl ?_)); intro a hE
    refine Zd hE Za (dl rfl) rfl ?_; intro a hE
    obtain ⟨_, e12, hl10⟩ := bind_some hl10
    have e12 := Ws e12
    refine s_sh hE Za (dl rfl) rfl rfl (bB_shr _ _ e12) ?_; intro a hE
    refine Zh hE Za (dl rfl) rfl rfl (bB_and (shrB p2 s4.2) 1) ?_; intro a hE
    refine Zh hE Za (dl rfl) rfl rfl (bB_eql ((shrB p2 s4.2) &&& 1) 1) ?_; intro a hE
    refine Zf ?_
    obtain ⟨j13, hl14, hF15⟩ := bind_some hl10
    refine ZW (fun a w => Env 28 a [(0, (vI p0)), (1, (vB p1)), (2, (vB p2)), (7, (vI j13)), (9, (vI s4.2))] ∧ M (Old w0) w0 w []) ?_ ?_
    ·skip
     refine Zt hE rfl ?_ ?_
     ·intro hb16
      have hl14 := Zz hl14 hb16
      refine wp_region_lit (Zd hE Za (dl rfl) rfl ?_); intro a hE
      refine Zd hE Za (dl rfl) rfl ?_; intro a hE
      refine YI hE Za (dl rfl) rfl Try.underlying5 Try.underlying2 ?_; intro a hE
      rw [byte_wide] at hE
      refine Zd hE Za (dl rfl) rfl ?_; intro a hE
      obtain ⟨_, e17, hl14⟩ := bind_some hl14
      have e17 := Ws e17
      refine s_sh hE Za (dl rfl) rfl rfl (bI_shl _ _ e17) ?_; intro a hE
      refine Zh hE Za (dl rfl) rfl rfl rfl ?_; intro a hE
      refine Ze hE Za (dl rfl) rfl ?_; intro a hE
      refine Zj ?_
      have ht18 := Option.some.inj hl14
      subst ht18
      refine Zl ?_
      exact ⟨hE.sub ⟨rfl, rfl, rfl, rfl, rfl, trivial⟩, hM⟩
     ·intro hb16
      have hl14 := ZA hl14 hb16
      refine wp_skip ?_
      have ht19 := Option.some.inj hl14
      subst ht19
      refine Zl ?_
      exact ⟨hE.sub ⟨rfl, rfl, rfl, rfl, rfl, trivial⟩, hM⟩
    ·skip
     rintro a w ⟨hE, hM⟩
     refine Yj ?_
     have ht20 := Option.some.inj hF15
     subst ht20
     refine Zl ?_
     exact ⟨hE.sub ⟨rfl, rfl, rfl, rfl, rfl, trivial⟩, hM⟩
   ·skip
    rintro a w ⟨hE, hM⟩
    refine wp_region_lit (Zh hE Za (dl rfl) rfl rfl rfl ?_); intro a hE
    refine Zd hE Za (dl rfl) rfl ?_; intro a hE
    refine Zj (Zl ?_)
    exact ⟨_, (Option.some.inj hF11).symm, hE.sub ⟨rfl, rfl, rfl, rfl, rfl, trivial⟩, hM⟩
  ·intro hb8
   have hs5 := ZA hs5 hb8
   refine wp_exit (Zr (Zr (Yk ?_)))
   have ht21 := hx6 _ (Option.some.inj hs5).symm
   subst ht21
   refine Zl ?_
   exact ⟨hE.sub ⟨rfl, rfl, trivial⟩, hM⟩
 ·skip
  rintro a w ⟨hE, hM⟩
  refine Zx (Zc (Zd hE Za (dl rfl) rfl ?_)); intro a hE
  refine Zd hE Za (dl rfl) rfl ?_; intro a hE
  obtain ⟨r22, e23, hF3⟩ := bind_some hF3
  refine Zw (vs := [(vI j1), (vI p0), (vI 8)]) hE Za (dl rfl) rfl cb132 (c_impl_rest _ j1 p0 8 r22 e23) ?_
  rintro v w a ⟨rfl, hK⟩ hE
  have hM := hM.keep hK
  refine YI hE Za (dl rfl) rfl Try.underlying2 Try.underlying5 ?_; intro a hE
  rw [Yh] at hE
  refine Ze hE Za (dl rfl) rfl ?_; intro a hE
  refine Zf ?_
  have hr := Option.some.inj hF3
  subst hr
  exact wp_ret (Zy hE rfl (Zu hE rfl) ⟨_, rfl, rfl, hM.kept⟩)
noncomputable def WB (p0 : Int) (s4 : UInt8 × Int × UInt8) : Option (Fl (UInt8 × Int × UInt8) UInt8) :=
 if (decide (s4.2.1 > 0)) = true then (((if ((Int.tmod s4.2.1 2) == 1) = true then ((Z3 p0 s4.2.2 s4.1).bind fun r16 => some r16) else (some s4.2.2) : Option (UInt8)).bind fun j12 => (Z3 p0 s4.1 s4.1).bind fun r20 => some (r20, j12) : Option (UInt8 × UInt8)).bind fun j9 => some (Fl.nx (j9.1, wr (Int.tdiv s4.2.1 2), j9.2))) else (some (Fl.ex s4.2.2))
noncomputable def Xc (p0 : Int) (p1 : UInt8) (p2 : Int) : Option (UInt8) :=
 (ZG (WB p0) (p1, p2, 1) : Option (UInt8)).bind fun j1 => some j1
theorem c_impl_field_power (w0 : World) (p0 : Int) (p1 : UInt8) (p2 : Int) (r : UInt8) (hF : Xc p0 p1 p2 = some r) :
  Calls Try.prog 128 [(vI p0), (vB p1), (vI p2)].toArray w0 (fun en w' => ∃ v, en = .returned v ∧ (v = (vB r) ∧ Kept (Old w0) w0 w')) := by
 refine ZC (n := 24) Try.func128 rfl rfl (Nat.le_of_ble_eq_true rfl) rfl ?_
 intro a hE
 have hM := M.start w0
 unfold Xc at hF
 refine Zc (Ze hE Za (dl rfl) rfl ?_); intro a hE
 refine Zf (Zc (Ze hE Za (dl rfl) rfl ?_)); intro a hE
 refine Zf ?_
 obtain ⟨j1, hl2, hF3⟩ := bind_some hF
 refine ZS (fun a w => Env 24 a [(7, (vB j1))] ∧ M (Old w0) w0 w []) ?_ ?_
 ·skip
  refine wp_block ?_
  refine ZM (fun (s4 : UInt8 × Int × UInt8) a w => Env 24 a [(0, (vI p0)), (1, (vB s4.1)), (2, (vI s4.2.1)), (7, (vB s4.2.2))] ∧ M (Old w0) w0 w []) hl2 ⟨hE.sub ⟨rfl, rfl, rfl, rfl, trivial⟩, hM⟩ ?_
  rintro s4 a w ⟨hE, hM⟩ o7 hs5 hx6
  unfold WB at hs5
  refine wp_seq (Zc (Zd hE Za (dl rfl) rfl ?_)); intro a hE
  refine Zh hE Za (dl rfl) rfl rfl rfl ?_; intro a hE
  refine Zf ?_
  refine Zt hE rfl ?_ ?_
  ·intro hb8
   have hs5 := Zz hs5 hb8
   refine wp_skip (Zx ?_)
   obtain ⟨j9, hl10, hF11⟩ := bind_some hs5
   refine ZS (fun a w => Env 24 a [(0, (vI p0)), (1, (vB j9.1)), (2, (vI s4.2.1)), (7, (vB j9.2))] ∧ M (Old w0) w0 w []) ?_ ?_
   ·skip
    refine wp_block ?_
    obtain ⟨j12, hl13, hF14⟩ := bind_some hl10
    refine ZS (fun a w => Env 24 a [(0, (vI p0)), (1, (vB s4.1)), (2, (vI s4.2.1)), (7, (vB j12))] ∧ M (Old w0) w0 w []) ?_ ?_
    ·skip
     refine Zc (Zd hE Za (dl rfl) rfl ?_); intro a hE
     refine Zh hE Za (dl rfl) rfl rfl (bI_rem _ _ (by decide)) ?_; intro a hE
     refine Zh hE Za (dl rfl) rfl rfl rfl ?_; intro a hE
     refine Zf ?_
     refine Zt hE rfl ?_ ?_
     ·intro hb15
      have hl13 := Zz hl13 hb15
      refine wp_region_lit (Zd hE Za (dl rfl) rfl ?_); intro a hE
      refine Zd hE Za (dl rfl) rfl ?_; intro a hE
      refine Zd hE Za (dl rfl) rfl ?_; intro a hE
      obtain ⟨r16, e17, hl13⟩ := bind_some hl13
      refine Zw (vs := [(vI p0), (vB s4.2.2), (vB s4.1)]) hE Za (dl rfl) rfl cb127 (Yq _ p0 s4.2.2 s4.1 r16 e17) ?_
      rintro v w a ⟨rfl, hK⟩ hE
      have hM := hM.keep hK
      refine Ze hE Za (dl rfl) rfl ?_; intro a hE
      refine Zj ?_
      have ht18 := Option.some.inj hl13
      subst ht18
      refine Zl ?_
      exact ⟨hE.sub ⟨rfl, rfl, rfl, rfl, trivial⟩, hM⟩
     ·intro hb15
      have hl13 := ZA hl13 hb15
      refine wp_skip ?_
      have ht19 := Option.some.inj hl13
      subst ht19
      refine Zl ?_
      exact ⟨hE.sub ⟨rfl, rfl, rfl, rfl, trivial⟩, hM⟩
    ·skip
     rintro a w ⟨hE, hM⟩
     refine wp_region_lit (Zd hE Za (dl rfl) rfl ?_); intro a hE
     refine Zd hE Za (dl rfl) rfl ?_; intro a hE
     refine Zd hE Za (dl rfl) rfl ?_; intro a hE
     obtain ⟨r20, e21, hF14⟩ := bind_some hF14
     refine Zw (vs := [(vI p0), (vB s4.1), (vB s4.1)]) hE Za (dl rfl) rfl cb127 (Yq _ p0 s4.1 s4.1 r20 e21) ?_
     rintro v w a ⟨rfl, hK⟩ hE
     have hM := hM.keep hK
     refine Ze hE Za (dl rfl) rfl ?_; intro a hE
     refine Zj (Yj ?_)
     have ht22 := Option.some.inj hF14
     subst ht22
     refine Zl ?_
     exact ⟨hE.sub ⟨rfl, rfl, rfl, rfl, trivial⟩, hM⟩
   ·skip
    rintro a w ⟨hE, hM⟩
    refine wp_region_lit (Zd hE Za (dl rfl) rfl ?_); intro a hE
    refine Zh hE Za (dl rfl) rfl rfl (bI_quo _ _ (by decide)) ?_; intro a hE
    refine Ze hE Za (dl rfl) rfl ?_; intro a hE
    refine Zj (Zl ?_)
    exact ⟨_, (Option.some.inj hF11).symm, hE.sub ⟨rfl, rfl, rfl, rfl, trivial⟩, hM⟩
  ·intro hb8
   have hs5 := ZA hs5 hb8
   refine wp_exit (Zr (Zr (Yk ?_)))
   have ht23 := hx6 _ (Option.some.inj hs5).symm
   subst ht23
   refine Zl ?_
   exact ⟨hE.sub ⟨rfl, trivial⟩, hM⟩
 ·skip
  rintro a w ⟨hE, hM⟩
  refine Zc (Zd hE Za (dl rfl) rfl ?_); intro a hE
  refine Ze hE Za (dl rfl) rfl ?_; intro a hE
  refine Zf ?_
  have hr := Option.some.inj hF3
  subst hr
  exact wp_ret (Zy hE rfl (Zu hE rfl) ⟨_, rfl, rfl, hM.kept⟩)
noncomputable def Yc (p0 : Int) (p1 : UInt8) : Option (UInt8) :=
 (Xc p0 p1 254).bind fun r1 => some r1
theorem VC (w0 : World) (p0 : Int) (p1 : UInt8) (r : UInt8) (hF : Yc p0 p1 = some r) :
  Calls Try.prog 111 [(vI p0), (vB p1)].toArray w0 (fun en w' => ∃ v, en = .returned v ∧ (v = (vB r) ∧ Kept (Old w0) w0 w')) := by
 refine ZC (n := 8) Try.func111 rfl rfl (Nat.le_of_ble_eq_true rfl) rfl ?_
 intro a hE
 have hM := M.start w0
 unfold Yc at hF
 refine Zc (Ze hE Za (dl rfl) rfl ?_); intro a hE
 refine Zf (Zc (Zd hE Za (dl rfl) rfl ?_)); intro a hE
 refine Zd hE Za (dl rfl) rfl ?_; intro a hE
 obtain ⟨r1, e2, hF⟩ := bind_some hF
 refine Zw (vs := [(vI p0), (vB p1), (vI 254)]) hE Za (dl rfl) rfl cb128 (c_impl_field_power _ p0 p1 254 r1 e2) ?_
 rintro v w a ⟨rfl, hK⟩ hE
 have hM := hM.keep hK
 refine Ze hE Za (dl rfl) rfl ?_; intro a hE
 refine Zf ?_
 have hr := Option.some.inj hF
 subst hr
 exact wp_ret (Zy hE rfl (Zu hE rfl) ⟨_, rfl, rfl, hM.kept⟩)
noncomputable def Yb (p0 : UInt8) (p1 : Int) : Option (UInt8) :=
 (Xj (wru (BitVec.ofInt 64 (IntKind.u64.wrap p1) &&& BitVec.ofInt 64 7).toNat)).bind fun _ => (Xj (IntKind.u64.wrap (8 - (wru (BitVec.ofInt 64 (IntKind.u64.wrap p1) &&& BitVec.ofInt 64 7).toNat)))).bind fun _ => some ((shlB p0 (wru (BitVec.ofInt 64 (IntKind.u64.wrap p1) &&& BitVec.ofInt 64 7).toNat)) ||| (shrB p0 (IntKind.u64.wrap (8 - (wru (BitVec.ofInt 64 (IntKind.u64.wrap p1) &&& BitVec.ofInt 64 7).toNat)))))
theorem Uo (w0 : World) (p0 : UInt8) (p1 : Int) (r : UInt8) (hF : Yb p0 p1 = some r) :
  Calls Try.prog 112 [(vB p0), (vI p1)].toArray w0 (fun en w' => ∃ v, en = .returned v ∧ (v = (vB r) ∧ Kept (Old w0) w0 w')) := by
 refine ZC (n := 17) Try.func112 rfl rfl (Nat.le_of_ble_eq_true rfl) rfl ?_
 intro a hE
 have hM := M.start w0
 unfold Yb at hF
 refine Zc (Ze hE Za (dl rfl) rfl ?_); intro a hE
 refine Zf (Zc (Zd hE Za (dl rfl) rfl ?_)); intro a hE
 refine YI hE Za (dl rfl) rfl Try.underlying3 Try.underlying134 ?_; intro a hE
 refine Zh hE Za (dl rfl) rfl rfl rfl ?_; intro a hE
 refine Ze hE Za (dl rfl) rfl ?_; intro a hE
 refine Zf (Zc (Zd hE Za (dl rfl) rfl ?_)); intro a hE
 refine Zd hE Za (dl rfl) rfl ?_; intro a hE
 obtain ⟨_, e1, hF⟩ := bind_some hF
 have e1 := Ws e1
 refine s_sh hE Za (dl rfl) rfl rfl (bB_shl _ _ e1) ?_; intro a hE
 refine Zd hE Za (dl rfl) rfl ?_; intro a hE
 refine Zd hE Za (dl rfl) rfl ?_; intro a hE
 refine Zh hE Za (dl rfl) rfl rfl rfl ?_; intro a hE
 obtain ⟨_, e2, hF⟩ := bind_some hF
 have e2 := Ws e2
 refine s_sh hE Za (dl rfl) rfl rfl (bB_shr _ _ e2) ?_; intro a hE
 refine Zh hE Za (dl rfl) rfl rfl (bB_or (shlB p0 (wru (BitVec.ofInt 64 (IntKind.u64.wrap p1) &&& BitVec.ofInt 64 7).toNat)) (shrB p0 (IntKind.u64.wrap (8 - (wru (BitVec.ofInt 64 (IntKind.u64.wrap p1) &&& BitVec.ofInt 64 7).toNat))))) ?_; intro a hE
 refine Ze hE Za (dl rfl) rfl ?_; intro a hE
 refine Zf ?_
 have hr := Option.some.inj hF
 subst hr
 exact wp_ret (Zy hE rfl (Zu hE rfl) ⟨_, rfl, rfl, hM.kept⟩)
noncomputable def XL (s8 : (Vector UInt8 256) × Int) : Option (Fl ((Vector UInt8 256) × Int) (Vector UInt8 256)) :=
 if (decide (s8.2 < 256)) = true then ((Yc 285 (ZE s8.2)).bind fun r13 => (Yb r13 1).bind fun r15 => (Yb r13 4).bind fun r17 => (ZN s8.1 s8.2).bind fun x20 => some (Fl.nx ((s8.1.setIfInBounds (s8.2).toNat (((r13 ^^^ r15) ^^^ r17) ^^^ 90)), wr (s8.2 + 1)))) else (some (Fl.ex s8.1))
noncomputable def WD (s26 : (Vector (Vector UInt8 4) 4) × Int) (s34 : (Vector (Vector UInt8 4) 4) × Int) : Option (Fl ((Vector (Vector UInt8 4) 4) × Int) (Vector (Vector UInt8 4) 4)) :=
 if (decide (s34.2 < 4)) = true then ((Yc 285 (ZE (UF s26.2 (wr (4 + s34.2))))).bind fun r40 => (ZN s34.1 s26.2).bind fun x43 => (ZN x43 s34.2).bind fun x46 => some (Fl.nx ((s34.1.setIfInBounds (s26.2).toNat (x43.setIfInBounds (s34.2).toNat r40)), wr (s34.2 + 1)))) else (some (Fl.ex s34.1))
noncomputable def WA (s26 : (Vector (Vector UInt8 4) 4) × Int) : Option (Fl ((Vector (Vector UInt8 4) 4) × Int) (Vector (Vector UInt8 4) 4)) :=
 if (decide (s26.2 < 4)) = true then ((ZG (WD s26) (s26.1, 0) : Option ((Vector (Vector UInt8 4) 4))).bind fun j31 => some (Fl.nx (j31, wr (s26.2 + 1)))) else (some (Fl.ex s26.1))
noncomputable def Wx (s53 : (Vector UInt8 16) × Int) : Option (Fl ((Vector UInt8 16) × Int) (Vector UInt8 16)) :=
 if (decide (s53.2 < 16)) = true then ((ZN s53.1 s53.2).bind fun x59 => some (Fl.nx ((s53.1.setIfInBounds (s53.2).toNat (ZE (Int.tmod (wr ((wr (13 * s53.2)) + 4)) 16))), wr (s53.2 + 1)))) else (some (Fl.ex s53.1))
noncomputable def X5 (p0 : Int) : Option (GCipher) :=
 (ZG (XL) ((Vector.replicate 256 (0 : UInt8)), 0) : Option ((Vector UInt8 256))).bind fun j5 => (ZG (WA) ((Vector.replicate 4 (Vector.replicate 4 (0 : UInt8))), 0) : Option ((Vector (Vector UInt8 4) 4))).bind fun j23 => (ZG (Wx) ((Vector.replicate 16 (0 : UInt8)), 0) : Option ((Vector UInt8 16))).bind fun j50 => some (⟨285, j5, j23, j50, p0⟩ : GCipher)
theorem c_impl_houseCipher (w0 : World) (p0 : Int) (r : GCipher) (hF : X5 p0 = some r) :
  Calls Try.prog 90 [(vI p0)].toArray w0 (fun en w' => ∃ v, en = .returned v ∧ (v = (Value.agg (Flat.enc r).toArray) ∧ Kept (Old w0) w0 w')) := by
 refine ZC (n := 61) Try.func90 rfl rfl (Nat.le_of_ble_eq_true rfl) rfl ?_
 intro a hE
 have hM := M.start w0
 unfold X5 at hF
 refine Zc (ZO hE hM Za (dl rfl) VQ ?_); intro b1 w a hM hE
 refine Zf (Zc (Zd hE Za (dl rfl) rfl ?_)); intro a hE
 refine s_buildStr (parts := [(0, .const (vI 285)), (4, .tmp 9)]) (vs := [(0, (vI 285)), (4, (vI p0))]) (cs := cat [[(vI 285)], Flat.enc (Vector.replicate 256 (0 : UInt8)), Flat.enc (Vector.replicate 4 (Vector.replicate 4 (0 : UInt8))), Flat.enc (Vector.replicate 16 (0 : UInt8)), [(vI p0)]]) hE Za (dl rfl) rfl rfl VQ pl103 (Wi (pre := []) (seg := [(vI 0)]) (seg' := [(vI 285)]) (post := [Flat.enc (Vector.replicate 256 (0 : UInt8)), Flat.enc (Vector.replicate 4 (Vector.replicate 4 (0 : UInt8))), Flat.enc (Vector.replicate 16 (0 : UInt8)), [(vI 0)]]) rfl cl0 rfl rfl rfl (Wi (pre := [[(vI 285)], Flat.enc (Vector.replicate 256 (0 : UInt8)), Flat.enc (Vector.replicate 4 (Vector.replicate 4 (0 : UInt8))), Flat.enc (Vector.replicate 16 (0 : UInt8))]) (seg := [(vI 0)]) (seg' := [(vI p0)]) (post := []) rfl (cl1 (n := 1) (m := 288) rfl (cl1 (n := 256) (m := 32) (Flat.len _) (cl1 (n := 16) (m := 16) (Flat.len _) (cl1 (n := 16) (m := 0) (Flat.len _) cl0)))) rfl rfl rfl fill_nil)) ?_; intro a hE
 refine ZO hE hM Za (dl rfl) VQ ?_; intro b3 w a hM hE
 refine Zs (seg := cat [[(vI 285)], Flat.enc (Vector.replicate 256 (0 : UInt8)), Flat.enc (Vector.replicate 4 (Vector.replicate 4 (0 : UInt8))), Flat.enc (Vector.replicate 16 (0 : UInt8)), [(vI p0)]]) (cs' := cat [[(vI 285)], Flat.enc (Vector.replicate 256 (0 : UInt8)), Flat.enc (Vector.replicate 4 (Vector.replicate 4 (0 : UInt8))), Flat.enc (Vector.replicate 16 (0 : UInt8)), [(vI p0)]]) hE hM Za rfl rfl rfl VQ (ZR (cl1 (n := 1) (m := 289) rfl (cl1 (n := 256) (m := 33) (Flat.len _) (cl1 (n := 16) (m := 17) (Flat.len _) (cl1 (n := 16) (m := 1) (Flat.len _) (cl1 (n := 1) (m := 0) rfl cl0)))))) (Nat.le_of_eq ((Nat.zero_add _).trans (Eq.trans (ZR (cl1 (n := 1) (m := 289) rfl (cl1 (n := 256) (m := 33) (Flat.len _) (cl1 (n := 16) (m := 17) (Flat.len _) (cl1 (n := 16) (m := 1) (Flat.len _) (cl1 (n := 1) (m := 0) rfl cl0)))))) (Eq.symm (ZR (cl1 (n := 1) (m := 289) rfl (cl1 (n := 256) (m := 33) (Flat.len _) (cl1 (n := 16) (m := 17) (Flat.len _) (cl1 (n := 16) (m := 1) (Flat.len _) (cl1 (n := 1) (m := 0) rfl cl0)))))))))) (cat_cell (cc1 (Flat.cell (285 : Int)) (cc1 (Flat.cell _) (cc1 (Flat.cell _) (cc1 (Flat.cell _) (cc1 (Flat.cell (p0 : Int)) cc0)))))) (Zq (Eq.trans (ZR (cl1 (n := 1) (m := 289) rfl (cl1 (n := 256) (m := 33) (Flat.len _) (cl1 (n := 16) (m := 17) (Flat.len _) (cl1 (n := 16) (m := 1) (Flat.len _) (cl1 (n := 1) (m := 0) rfl cl0)))))) (Eq.symm (ZR (cl1 (n := 1) (m := 289) rfl (cl1 (n := 256) (m := 33) (Flat.len _) (cl1 (n := 16) (m := 17) (Flat.len _) (cl1 (n := 16) (m := 1) (Flat.len _) (cl1 (n := 1) (m := 0) rfl cl0))))))))) ?_; intro w a hM hE
 refine Zf (wp_seq (Zc (Zd hE Za (dl rfl) rfl ?_))); intro a hE
 refine Zf ?_
 obtain ⟨j5, hl6, hF7⟩ := bind_some hF
 refine ZW (fun a w => Env 61 a [(2, (ptr b1 0)), (3, (ptr b3 0))] ∧ M (Old w0) w0 w [raw b3 (cat [[(vI 285)], Flat.enc j5, Flat.enc (Vector.replicate 4 (Vector.replicate 4 (0 : UInt8))), Flat.enc (Vector.replicate 16 (0 : UInt8)), [(vI p0)]]), raw b1 (cat [[(vI 0)], Flat.enc (Vector.replicate 256 (0 : UInt8)), Flat.enc (Vector.replicate 4 (Vector.replicate 4 (0 : UInt8))), Flat.enc (Vector.replicate 16 (0 : UInt8)), [(vI 0)]])]) ?_ ?_
 ·skip
  refine wp_block ?_
  refine ZM (fun (s8 : (Vector UInt8 256) × Int) a w => Env 61 a [(2, (ptr b1 0)), (3, (ptr b3 0)), (11, (vI s8.2))] ∧ M (Old w0) w0 w [raw b3 (cat [[(vI 285)], Flat.enc s8.1, Flat.enc (Vector.replicate 4 (Vector.replicate 4 (0 : UInt8))), Flat.enc (Vector.replicate 16 (0 : UInt8)), [(vI p0)]]), raw b1 (cat [[(vI 0)], Flat.enc (Vector.replicate 256 (0 : UInt8)), Flat.enc (Vector.replicate 4 (Vector.replicate 4 (0 : UInt8))), Flat.enc (Vector.replicate 16 (0 : UInt8)), [(vI 0)]])]) hl6 ⟨hE.sub ⟨rfl, rfl, rfl, trivial⟩, hM⟩ ?_
  rintro s8 a w ⟨hE, hM⟩ o11 hs9 hx10
  unfold XL at hs9
  refine Zc (Zh hE Za (dl rfl) rfl rfl rfl ?_); intro a hE
  refine Zf (wp_seq ?_)
  refine Zt hE rfl ?_ ?_
  ·intro hb12
   have hs9 := Zz hs9 hb12
   refine wp_skip (Zx (wp_seq (wp_block (Zc (Zd hE Za (dl rfl) rfl ?_))))); intro a hE
   refine Ze hE Za (dl rfl) rfl ?_; intro a hE
   refine Zf (Zc (Zd hE Za (dl rfl) rfl ?_)); intro a hE
   refine YI hE Za (dl rfl) rfl Try.underlying3 Try.underlying5 ?_; intro a hE
   rw [Yh] at hE
   obtain ⟨r13, e14, hs9⟩ := bind_some hs9
   refine Zw (vs := [(vI 285), (vB (ZE s8.2))]) hE Za (dl rfl) rfl cb111 (VC _ 285 (ZE s8.2) r13 e14) ?_
   rintro v w a ⟨rfl, hK⟩ hE
   have hM := hM.keep hK
   refine Ze hE Za (dl rfl) rfl ?_; intro a hE
   refine Zf (wp_region_lit (Zd hE Za (dl rfl) rfl ?_)); intro a hE
   refine Zd hE Za (dl rfl) rfl ?_; intro a hE
   refine Zd hE Za (dl rfl) rfl ?_; intro a hE
   obtain ⟨r15, e16, hs9⟩ := bind_some hs9
   refine Zw (vs := [(vB r13), (vI 1)]) hE Za (dl rfl) rfl cb112 (Uo _ r13 1 r15 e16) ?_
   rintro v w a ⟨rfl, hK⟩ hE
   have hM := hM.keep hK
   refine Zh hE Za (dl rfl) rfl rfl (Vn r13 r15) ?_; intro a hE
   refine Zd hE Za (dl rfl) rfl ?_; intro a hE
   obtain ⟨r17, e18, hs9⟩ := bind_some hs9
   refine Zw (vs := [(vB r13), (vI 4)]) hE Za (dl rfl) rfl cb112 (Uo _ r13 4 r17 e18) ?_
   rintro v w a ⟨rfl, hK⟩ hE
   have hM := hM.keep hK
   refine Zh hE Za (dl rfl) rfl rfl (Vn (r13 ^^^ r15) r17) ?_; intro a hE
   refine Zh hE Za (dl rfl) rfl rfl (Vn ((r13 ^^^ r15) ^^^ r17) 90) ?_; intro a hE
   refine Zo hE Za (dl rfl) rfl (fd103_1) ?_; intro a hE
   obtain ⟨x20, e21, hs9⟩ := bind_some hs9
   have hi19 := Zi e21
   refine Zm hE Za (dl rfl) rfl rfl Try.underlying97 ty5 hi19.1 ?_; intro a hE
   refine Zs (seg := [(vB (((r13 ^^^ r15) ^^^ r17) ^^^ 90))]) (cs' := cat [[(vI 285)], Flat.enc (s8.1.setIfInBounds (s8.2).toNat (((r13 ^^^ r15) ^^^ r17) ^^^ 90)), Flat.enc (Vector.replicate 4 (Vector.replicate 4 (0 : UInt8))), Flat.enc (Vector.replicate 16 (0 : UInt8)), [(vI p0)]]) hE hM Za rfl rfl rfl ty5 rfl (fit_catI (o' := 0 + (s8.2).toNat * 1) (pre := [[(vI 285)]]) (seg := Flat.enc s8.1) (post := [Flat.enc (Vector.replicate 4 (Vector.replicate 4 (0 : UInt8))), Flat.enc (Vector.replicate 16 (0 : UInt8)), [(vI p0)]]) (cl1 (n := 1) (m := 0) rfl cl0) (ZT (v := s8.1) (x := ((r13 ^^^ r15) ^^^ r17) ^^^ 90) hi19.1) (by first | omega | (simp only [Flat.n] <;> omega))) (Flat.cell (((r13 ^^^ r15) ^^^ r17) ^^^ 90 : UInt8)) (splice_catI (o' := 0 + (s8.2).toNat * 1) (pre := [[(vI 285)]]) (seg := Flat.enc s8.1) (post := [Flat.enc (Vector.replicate 4 (Vector.replicate 4 (0 : UInt8))), Flat.enc (Vector.replicate 16 (0 : UInt8)), [(vI p0)]]) (cl1 (n := 1) (m := 0) rfl cl0) (ZT (v := s8.1) (x := ((r13 ^^^ r15) ^^^ r17) ^^^ 90) hi19.1) (ZI (v := s8.1) (x := ((r13 ^^^ r15) ^^^ r17) ^^^ 90) hi19.1) (by first | omega | (simp only [Flat.n] <;> omega))) ?_; intro w a hM hE
   refine Zj (Yj (Zx (wp_region_lit (Zh hE Za (dl rfl) rfl rfl rfl ?_)))); intro a hE
   refine Zd hE Za (dl rfl) rfl ?_; intro a hE
   refine Zj (Zl ?_)
   exact ⟨_, (Option.some.inj hs9).symm, hE.sub ⟨rfl, rfl, rfl, trivial⟩, hM⟩
  ·intro hb12
   have hs9 := ZA hs9 hb12
   refine wp_exit (Zr (Zr (Yk ?_)))
   have ht22 := hx10 _ (Option.some.inj hs9).symm
   subst ht22
   refine Zl ?_
   exact ⟨hE.sub ⟨rfl, rfl, trivial⟩, hM⟩
 ·skip
  rintro a w ⟨hE, hM⟩
  refine Zx (wp_seq (Zc (Zd hE Za (dl rfl) rfl ?_))); intro a hE
  refine Zf ?_
  obtain ⟨j23, hl24, hF25⟩ := bind_some hF7
  refine ZW (fun a w => Env 61 a [(2, (ptr b1 0)), (3, (ptr b3 0))] ∧ M (Old w0) w0 w [raw b3 (cat [[(vI 285)], Flat.enc j5, Flat.enc j23, Flat.enc (Vector.replicate 16 (0 : UInt8)), [(vI p0)]]), raw b1 (cat [[(vI 0)], Flat.enc (Vector.replicate 256 (0 : UInt8)), Flat.enc (Vector.replicate 4 (Vector.replicate 4 (0 : UInt8))), Flat.enc (Vector.replicate 16 (0 : UInt8)), [(vI 0)]])]) ?_ ?_
  ·skip
   refine wp_block ?_
   refine ZM (fun (s26 : (Vector (Vector UInt8 4) 4) × Int) a w => Env 61 a [(2, (ptr b1 0)), (3, (ptr b3 0)), (29, (vI s26.2))] ∧ M (Old w0) w0 w [raw b3 (cat [[(vI 285)], Flat.enc j5, Flat.enc s26.1, Flat.enc (Vector.replicate 16 (0 : UInt8)), [(vI p0)]]), raw b1 (cat [[(vI 0)], Flat.enc (Vector.replicate 256 (0 : UInt8)), Flat.enc (Vector.replicate 4 (Vector.replicate 4 (0 : UInt8))), Flat.enc (Vector.replicate 16 (0 : UInt8)), [(vI 0)]])]) hl24 ⟨hE.sub ⟨rfl, rfl, rfl, trivial⟩, hM⟩ ?_
   rintro s26 a w ⟨hE, hM⟩ o29 hs27 hx28
   unfold WA at hs27
   refine Zc (Zh hE Za (dl rfl) rfl rfl rfl ?_); intro a hE
   refine Zf (wp_seq ?_)
   refine Zt hE rfl ?_ ?_
   ·intro hb30
    have hs27 := Zz hs27 hb30
    refine wp_skip (Zx (wp_seq (wp_block (Zc (Zd hE Za (dl rfl) rfl ?_))))); intro a hE
    refine Ze hE Za (dl rfl) rfl ?_; intro a hE
    refine Zf (Zc (Zd hE Za (dl rfl) rfl ?_)); intro a hE
    refine Zf ?_
    obtain ⟨j31, hl32, hF33⟩ := bind_some hs27
    refine ZW (fun a w => Env 61 a [(2, (ptr b1 0)), (3, (ptr b3 0)), (29, (vI s26.2))] ∧ M (Old w0) w0 w [raw b3 (cat [[(vI 285)], Flat.enc j5, Flat.enc j31, Flat.enc (Vector.replicate 16 (0 : UInt8)), [(vI p0)]]), raw b1 (cat [[(vI 0)], Flat.enc (Vector.replicate 256 (0 : UInt8)), Flat.enc (Vector.replicate 4 (Vector.replicate 4 (0 : UInt8))), Flat.enc (Vector.replicate 16 (0 : UInt8)), [(vI 0)]])]) ?_ ?_
    ·skip
     refine wp_block ?_
     refine ZM (fun (s34 : (Vector (Vector UInt8 4) 4) × Int) a w => Env 61 a [(2, (ptr b1 0)), (3, (ptr b3 0)), (6, (vI s26.2)), (29, (vI s26.2)), (32, (vI s34.2))] ∧ M (Old w0) w0 w [raw b3 (cat [[(vI 285)], Flat.enc j5, Flat.enc s34.1, Flat.enc (Vector.replicate 16 (0 : UInt8)), [(vI p0)]]), raw b1 (cat [[(vI 0)], Flat.enc (Vector.replicate 256 (0 : UInt8)), Flat.enc (Vector.replicate 4 (Vector.replicate 4 (0 : UInt8))), Flat.enc (Vector.replicate 16 (0 : UInt8)), [(vI 0)]])]) hl32 ⟨hE.sub ⟨rfl, rfl, rfl, rfl, rfl, trivial⟩, hM⟩ ?_
     rintro s34 a w ⟨hE, hM⟩ o37 hs35 hx36
     unfold WD at hs35
     refine Zc (Zh hE Za (dl rfl) rfl rfl rfl ?_); intro a hE
     refine Zf (wp_seq ?_)
     refine Zt hE rfl ?_ ?_
     ·intro hb38
      have hs35 := Zz hs35 hb38
      refine wp_skip (Zx (wp_seq (wp_block (Zc (Zd hE Za (dl rfl) rfl ?_))))); intro a hE
      refine Ze hE Za (dl rfl) rfl ?_; intro a hE
      refine Zf ?_
      obtain ⟨r40, e41, hs35⟩ := bind_some hs35
      obtain ⟨x43, e44, hs35⟩ := bind_some hs35
      have hi42 := Zi e44
      obtain ⟨x46, e47, hs35⟩ := bind_some hs35
      have hi45 := Zi e47
      refine Ye (n := 61) (hd := [_, _, _, _, _, _, _, _, _, _, _]) (tl := [_]) YB rfl rfl [35, 36, 37, 38, 39, 40, 41, 42, 43, 44, 45] (by decide) (fun w => M (Old w0) w0 w [raw b3 (cat [[(vI 285)], Flat.enc j5, Flat.enc s34.1, Flat.enc (Vector.replicate 16 (0 : UInt8)), [(vI p0)]]), raw b1 (cat [[(vI 0)], Flat.enc (Vector.replicate 256 (0 : UInt8)), Flat.enc (Vector.replicate 4 (Vector.replicate 4 (0 : UInt8))), Flat.enc (Vector.replicate 16 (0 : UInt8)), [(vI 0)]])]) (fun j => ([fun v _ => v = (vI s26.2), fun v _ => v = (vI s34.2), fun v _ => v = (vI s26.2), fun v _ => v = (vI s34.2), fun v _ => v = (vI (wr (4 + s34.2))), fun v _ => v = (vI (UF s26.2 (wr (4 + s34.2)))), fun v _ => v = (vB (ZE (UF s26.2 (wr (4 + s34.2))))), fun v _ => v = (vB r40), fun v _ => v = (ptr b3 (0 + 257)), fun v _ => v = (ptr b3 (0 + 257 + (s26.2).toNat * 4)), fun v _ => v = (ptr b3 (0 + 257 + (s26.2).toNat * 4 + (s34.2).toNat * 1))] : List (Value → World → Prop)).getD j (fun _ _ => True)) (fun _ _ h hk => h.keep hk) (gup (Zg (Zg (Zg (Zg (Zg (Zg (Zg (Zg (Zg (Zg (Zg Ww)))))))))))) hE hM.drew (ZH (Zb ?_ (Zb ?_ (Zb ?_ (Zb ?_ (Zb ?_ (Zb ?_ (Zb ?_ (Zb ?_ (Zb ?_ (Zb ?_ (Zb ?_ ZD)))))))))))) ?_
      ·intro a w ux39 hE hM hp
       refine Zd hE Za (dl rfl) rfl ?_; intro a hE
       exact ⟨Kept.refl _ _, _, _, rfl, hE, rfl⟩
      ·intro a w ux39 hE hM hp
       refine Zd hE Za (dl rfl) rfl ?_; intro a hE
       exact ⟨Kept.refl _ _, _, _, rfl, hE, rfl⟩
      ·intro a w ux39 hE hM hp
       refine Zd hE Za (dl rfl) rfl ?_; intro a hE
       exact ⟨Kept.refl _ _, _, _, rfl, hE, rfl⟩
      ·intro a w ux39 hE hM hp
       refine Zd hE Za (dl rfl) rfl ?_; intro a hE
       exact ⟨Kept.refl _ _, _, _, rfl, hE, rfl⟩
      ·intro a w ux39 hE hM hp
       have f3 : ux39 3 = (vI s34.2) := hp 0 _ rfl rfl
       refine Zh hE Za (dl rfl) rfl (lk rfl f3) rfl ?_; intro a hE
       exact ⟨Kept.refl _ _, _, _, rfl, hE, rfl⟩
      ·intro a w ux39 hE hM hp
       have f2 : ux39 2 = (vI s26.2) := hp 0 _ rfl rfl
       have f4 : ux39 4 = (vI (wr (4 + s34.2))) := hp 1 _ rfl rfl
       refine Zh hE Za (dl rfl) (lk rfl f2) (lk rfl f4) rfl ?_; intro a hE
       exact ⟨Kept.refl _ _, _, _, rfl, hE, rfl⟩
      ·intro a w ux39 hE hM hp
       have f5 : ux39 5 = (vI (UF s26.2 (wr (4 + s34.2)))) := hp 0 _ rfl rfl
       refine YI hE Za (dl rfl) (lk rfl f5) Try.underlying3 Try.underlying5 ?_; intro a hE
       rw [Yh] at hE
       exact ⟨Kept.refl _ _, _, _, rfl, hE, rfl⟩
      ·intro a w ux39 hE hM hp
       have f6 : ux39 6 = (vB (ZE (UF s26.2 (wr (4 + s34.2))))) := hp 0 _ rfl rfl
       refine Zw (vs := [(vI 285), (vB (ZE (UF s26.2 (wr (4 + s34.2)))))]) hE Za (dl rfl) (Z0 (ZZ rfl (ZZ (lk rfl f6) Xh))) cb111 (VC _ 285 (ZE (UF s26.2 (wr (4 + s34.2)))) r40 e41) ?_
       rintro v w a ⟨rfl, hK⟩ hE
       exact ⟨hK, _, _, rfl, hE, rfl⟩
      ·intro a w ux39 hE hM hp
       refine Zo hE Za (dl rfl) rfl (fd103_2) ?_; intro a hE
       exact ⟨Kept.refl _ _, _, _, rfl, hE, rfl⟩
      ·intro a w ux39 hE hM hp
       have f0 : ux39 0 = (vI s26.2) := hp 1 _ rfl rfl
       have f8 : ux39 8 = (ptr b3 (0 + 257)) := hp 0 _ rfl rfl
       refine Zm hE Za (dl rfl) (lk rfl f8) (lk rfl f0) Try.underlying100 Ve hi42.1 ?_; intro a hE
       exact ⟨Kept.refl _ _, _, _, rfl, hE, rfl⟩
      ·intro a w ux39 hE hM hp
       have f1 : ux39 1 = (vI s34.2) := hp 1 _ rfl rfl
       have f9 : ux39 9 = (ptr b3 (0 + 257 + (s26.2).toNat * 4)) := hp 0 _ rfl rfl
       refine Zm hE Za (dl rfl) (lk rfl f9) (lk rfl f1) Try.underlying98 ty5 hi45.1 ?_; intro a hE
       exact ⟨Kept.refl _ _, _, _, rfl, hE, rfl⟩
      ·intro a w ux39 hE hM hg
       have f0 : ux39 0 = (vI s26.2) := hg 0 (by decide)
       have f1 : ux39 1 = (vI s34.2) := hg 1 (by decide)
       have f2 : ux39 2 = (vI s26.2) := hg 2 (by decide)
       have f3 : ux39 3 = (vI s34.2) := hg 3 (by decide)
       have f4 : ux39 4 = (vI (wr (4 + s34.2))) := hg 4 (by decide)
       have f5 : ux39 5 = (vI (UF s26.2 (wr (4 + s34.2)))) := hg 5 (by decide)
       have f6 : ux39 6 = (vB (ZE (UF s26.2 (wr (4 + s34.2))))) := hg 6 (by decide)
       have f7 : ux39 7 = (vB r40) := hg 7 (by decide)
       have f8 : ux39 8 = (ptr b3 (0 + 257)) := hg 8 (by decide)
       have f9 : ux39 9 = (ptr b3 (0 + 257 + (s26.2).toNat * 4)) := hg 9 (by decide)
       have f10 : ux39 10 = (ptr b3 (0 + 257 + (s26.2).toNat * 4 + (s34.2).toNat * 1)) := hg 10 (by decide)
       have hE := hE.sub (e' := [(35, (vI s26.2)), (36, (vI s34.2)), (37, (vI s26.2)), (38, (vI s34.2)), (39, (vI (wr (4 + s34.2)))), (40, (vI (UF s26.2 (wr (4 + s34.2))))), (41, (vB (ZE (UF s26.2 (wr (4 + s34.2)))))), (42, (vB r40)), (43, (ptr b3 (0 + 257))), (44, (ptr b3 (0 + 257 + (s26.2).toNat * 4))), (45, (ptr b3 (0 + 257 + (s26.2).toNat * 4 + (s34.2).toNat * 1))), (2, (ptr b1 0)), (3, (ptr b3 0)), (6, (vI s26.2)), (7, (vI s34.2)), (29, (vI s26.2)), (32, (vI s34.2)), (33, (vT (decide (s34.2 < 4)))), (34, (vI s34.2))]) ⟨lk rfl f0, lk rfl f1, lk rfl f2, lk rfl f3, lk rfl f4, lk rfl f5, lk rfl f6, lk rfl f7, lk rfl f8, lk rfl f9, lk rfl f10, rfl, rfl, rfl, rfl, rfl, rfl, rfl, rfl, trivial⟩
       refine Zs (seg := [(vB r40)]) (cs' := cat [[(vI 285)], Flat.enc j5, Flat.enc (s34.1.setIfInBounds (s26.2).toNat (x43.setIfInBounds (s34.2).toNat r40)), Flat.enc (Vector.replicate 16 (0 : UInt8)), [(vI p0)]]) hE hM Za rfl rfl rfl ty5 rfl (fit_catI (o' := (s26.2).toNat * 4 + (0 + (s34.2).toNat * 1)) (pre := [[(vI 285)], Flat.enc j5]) (seg := Flat.enc s34.1) (post := [Flat.enc (Vector.replicate 16 (0 : UInt8)), [(vI p0)]]) (cl1 (n := 1) (m := 256) rfl (cl1 (n := 256) (m := 0) (Flat.len _) cl0)) (W9 (o' := 0 + (s34.2).toNat * 1) hi42 (ZT (v := x43) (x := r40) hi45.1) (by first | omega | (simp only [Flat.n] <;> omega))) (by first | omega | (simp only [Flat.n] <;> omega))) (Flat.cell (r40 : UInt8)) (splice_catI (o' := (s26.2).toNat * 4 + (0 + (s34.2).toNat * 1)) (pre := [[(vI 285)], Flat.enc j5]) (seg := Flat.enc s34.1) (post := [Flat.enc (Vector.replicate 16 (0 : UInt8)), [(vI p0)]]) (cl1 (n := 1) (m := 256) rfl (cl1 (n := 256) (m := 0) (Flat.len _) cl0)) (W9 (o' := 0 + (s34.2).toNat * 1) hi42 (ZT (v := x43) (x := r40) hi45.1) (by first | omega | (simp only [Flat.n] <;> omega))) (Wl (o' := 0 + (s34.2).toNat * 1) hi42 (ZT (v := x43) (x := r40) hi45.1) (ZI (v := x43) (x := r40) hi45.1) (by first | omega | (simp only [Flat.n] <;> omega))) (by first | omega | (simp only [Flat.n] <;> omega))) ?_; intro w a hM hE
       refine Zj (Yj (Zx (wp_region_lit (Zh hE Za (dl rfl) rfl rfl rfl ?_)))); intro a hE
       refine Zd hE Za (dl rfl) rfl ?_; intro a hE
       refine Zj (Zl ?_)
       exact ⟨_, (Option.some.inj hs35).symm, hE.sub ⟨rfl, rfl, rfl, rfl, rfl, trivial⟩, hM⟩
     ·intro hb38
      have hs35 := ZA hs35 hb38
      refine wp_exit (Zr (Zr (Yk ?_)))
      have ht48 := hx36 _ (Option.some.inj hs35).symm
      subst ht48
      refine Zl ?_
      exact ⟨hE.sub ⟨rfl, rfl, rfl, trivial⟩, hM⟩
    ·skip
     rintro a w ⟨hE, hM⟩
     refine Yj (Zx (wp_region_lit (Zh hE Za (dl rfl) rfl rfl rfl ?_))); intro a hE
     refine Zd hE Za (dl rfl) rfl ?_; intro a hE
     refine Zj (Zl ?_)
     exact ⟨_, (Option.some.inj hF33).symm, hE.sub ⟨rfl, rfl, rfl, trivial⟩, hM⟩
   ·intro hb30
    have hs27 := ZA hs27 hb30
    refine wp_exit (Zr (Zr (Yk ?_)))
    have ht49 := hx28 _ (Option.some.inj hs27).symm
    subst ht49
    refine Zl ?_
    exact ⟨hE.sub ⟨rfl, rfl, trivial⟩, hM⟩
  ·skip
   rintro a w ⟨hE, hM⟩
   refine Zx (wp_seq (Zc (Zd hE Za (dl rfl) rfl ?_))); intro a hE
   refine Zf ?_
   obtain ⟨j50, hl51, hF52⟩ := bind_some hF25
   refine ZW (fun a w => Env 61 a [(2, (ptr b1 0)), (3, (ptr b3 0))] ∧ M (Old w0) w0 w [raw b3 (cat [[(vI 285)], Flat.enc j5, Flat.enc j23, Flat.enc j50, [(vI p0)]]), raw b1 (cat [[(vI 0)], Flat.enc (Vector.replicate 256 (0 : UInt8)), Flat.enc (Vector.replicate 4 (Vector.replicate 4 (0 : UInt8))), Flat.enc (Vector.replicate 16 (0 : UInt8)), [(vI 0)]])]) ?_ ?_
   ·skip
    refine wp_block ?_
    refine ZM (fun (s53 : (Vector UInt8 16) × Int) a w => Env 61 a [(2, (ptr b1 0)), (3, (ptr b3 0)), (48, (vI s53.2))] ∧ M (Old w0) w0 w [raw b3 (cat [[(vI 285)], Flat.enc j5, Flat.enc j23, Flat.enc s53.1, [(vI p0)]]), raw b1 (cat [[(vI 0)], Flat.enc (Vector.replicate 256 (0 : UInt8)), Flat.enc (Vector.replicate 4 (Vector.replicate 4 (0 : UInt8))), Flat.enc (Vector.replicate 16 (0 : UInt8)), [(vI 0)]])]) hl51 ⟨hE.sub ⟨rfl, rfl, rfl, trivial⟩, hM⟩ ?_
    rintro s53 a w ⟨hE, hM⟩ o56 hs54 hx55
    unfold Wx at hs54
    refine Zc (Zh hE Za (dl rfl) rfl rfl rfl ?_); intro a hE
    refine Zf (wp_seq ?_)
    refine Zt hE rfl ?_ ?_
    ·intro hb57
     have hs54 := Zz hs54 hb57
     refine wp_skip (Zx (wp_seq (wp_block (Zc (Zd hE Za (dl rfl) rfl ?_))))); intro a hE
     refine Ze hE Za (dl rfl) rfl ?_; intro a hE
     refine Zf (wp_region_lit (Zd hE Za (dl rfl) rfl ?_)); intro a hE
     refine Zd hE Za (dl rfl) rfl ?_; intro a hE
     refine Zh hE Za (dl rfl) rfl rfl rfl ?_; intro a hE
     refine Zh hE Za (dl rfl) rfl rfl rfl ?_; intro a hE
     refine Zh hE Za (dl rfl) rfl rfl (bI_rem _ _ (by decide)) ?_; intro a hE
     refine YI hE Za (dl rfl) rfl Try.underlying3 Try.underlying5 ?_; intro a hE
     rw [Yh] at hE
     refine Zo hE Za (dl rfl) rfl (fd103_3) ?_; intro a hE
     obtain ⟨x59, e60, hs54⟩ := bind_some hs54
     have hi58 := Zi e60
     refine Zm hE Za (dl rfl) rfl rfl Try.underlying101 ty5 hi58.1 ?_; intro a hE
     refine Zs (seg := [(vB (ZE (Int.tmod (wr ((wr (13 * s53.2)) + 4)) 16)))]) (cs' := cat [[(vI 285)], Flat.enc j5, Flat.enc j23, Flat.enc (s53.1.setIfInBounds (s53.2).toNat (ZE (Int.tmod (wr ((wr (13 * s53.2)) + 4)) 16))), [(vI p0)]]) hE hM Za rfl rfl rfl ty5 rfl (fit_catI (o' := 0 + (s53.2).toNat * 1) (pre := [[(vI 285)], Flat.enc j5, Flat.enc j23]) (seg := Flat.enc s53.1) (post := [[(vI p0)]]) (cl1 (n := 1) (m := 272) rfl (cl1 (n := 256) (m := 16) (Flat.len _) (cl1 (n := 16) (m := 0) (Flat.len _) cl0))) (ZT (v := s53.1) (x := ZE (Int.tmod (wr ((wr (13 * s53.2)) + 4)) 16)) hi58.1) (by first | omega | (simp only [Flat.n] <;> omega))) (Flat.cell (ZE (Int.tmod (wr ((wr (13 * s53.2)) + 4)) 16) : UInt8)) (splice_catI (o' := 0 + (s53.2).toNat * 1) (pre := [[(vI 285)], Flat.enc j5, Flat.enc j23]) (seg := Flat.enc s53.1) (post := [[(vI p0)]]) (cl1 (n := 1) (m := 272) rfl (cl1 (n := 256) (m := 16) (Flat.len _) (cl1 (n := 16) (m := 0) (Flat.len _) cl0))) (ZT (v := s53.1) (x := ZE (Int.tmod (wr ((wr (13 * s53.2)) + 4)) 16)) hi58.1) (ZI (v := s53.1) (x := ZE (Int.tmod (wr ((wr (13 * s53.2)) + 4)) 16)) hi58.1) (by first | omega | (simp only [Flat.n] <;> omega))) ?_; intro w a hM hE
     refine Zj (Yj (Zx (wp_region_lit (Zh hE Za (dl rfl) rfl rfl rfl ?_)))); intro a hE
     refine Zd hE Za (dl rfl) rfl ?_; intro a hE
     refine Zj (Zl ?_)
     exact ⟨_, (Option.some.inj hs54).symm, hE.sub ⟨rfl, rfl, rfl, trivial⟩, hM⟩
    ·intro hb57
     have hs54 := ZA hs54 hb57
     refine wp_exit (Zr (Zr (Yk ?_)))
     have ht61 := hx55 _ (Option.some.inj hs54).symm
     subst ht61
     refine Zl ?_
     exact ⟨hE.sub ⟨rfl, rfl, trivial⟩, hM⟩
   ·skip
    rintro a w ⟨hE, hM⟩
    refine Zx (Zc (Zp (cs := Flat.enc (⟨285, j5, j23, j50, p0⟩ : GCipher)) hE Za (dl rfl) rfl VQ rfl (hM.rawAt (pre := [])) (ZR (cl1 (n := 1) (m := 289) rfl (cl1 (n := 256) (m := 33) (Flat.len _) (cl1 (n := 16) (m := 17) (Flat.len _) (cl1 (n := 16) (m := 1) (Flat.len _) (cl1 (n := 1) (m := 0) rfl cl0)))))) ?_)); intro a hE
    have hM := hM.pull (pre := [_])
    refine Zs (seg := cat [[(vI ((⟨285, j5, j23, j50, p0⟩ : GCipher).Field))], Flat.enc ((⟨285, j5, j23, j50, p0⟩ : GCipher).Box), Flat.enc ((⟨285, j5, j23, j50, p0⟩ : GCipher).Mix), Flat.enc ((⟨285, j5, j23, j50, p0⟩ : GCipher).Places), [(vI ((⟨285, j5, j23, j50, p0⟩ : GCipher).Rounds))]]) (cs' := cat [[(vI ((⟨285, j5, j23, j50, p0⟩ : GCipher).Field))], Flat.enc ((⟨285, j5, j23, j50, p0⟩ : GCipher).Box), Flat.enc ((⟨285, j5, j23, j50, p0⟩ : GCipher).Mix), Flat.enc ((⟨285, j5, j23, j50, p0⟩ : GCipher).Places), [(vI ((⟨285, j5, j23, j50, p0⟩ : GCipher).Rounds))]]) hE hM Za rfl rfl rfl VQ (ZR (cl1 (n := 1) (m := 289) rfl (cl1 (n := 256) (m := 33) (Flat.len _) (cl1 (n := 16) (m := 17) (Flat.len _) (cl1 (n := 16) (m := 1) (Flat.len _) (cl1 (n := 1) (m := 0) rfl cl0)))))) (Nat.le_of_eq ((Nat.zero_add _).trans (Eq.trans (ZR (cl1 (n := 1) (m := 289) rfl (cl1 (n := 256) (m := 33) (Flat.len _) (cl1 (n := 16) (m := 17) (Flat.len _) (cl1 (n := 16) (m := 1) (Flat.len _) (cl1 (n := 1) (m := 0) rfl cl0)))))) (Eq.symm (ZR (cl1 (n := 1) (m := 289) rfl (cl1 (n := 256) (m := 33) (Flat.len _) (cl1 (n := 16) (m := 17) (Flat.len _) (cl1 (n := 16) (m := 1) (Flat.len _) (cl1 (n := 1) (m := 0) rfl cl0)))))))))) (cat_cell (cc1 (Flat.cell ((⟨285, j5, j23, j50, p0⟩ : GCipher).Field : Int)) (cc1 (Flat.cell _) (cc1 (Flat.cell _) (cc1 (Flat.cell _) (cc1 (Flat.cell ((⟨285, j5, j23, j50, p0⟩ : GCipher).Rounds : Int)) cc0)))))) (Zq (Eq.trans (ZR (cl1 (n := 1) (m := 289) rfl (cl1 (n := 256) (m := 33) (Flat.len _) (cl1 (n := 16) (m := 17) (Flat.len _) (cl1 (n := 16) (m := 1) (Flat.len _) (cl1 (n := 1) (m := 0) rfl cl0)))))) (Eq.symm (ZR (cl1 (n := 1) (m := 289) rfl (cl1 (n := 256) (m := 33) (Flat.len _) (cl1 (n := 16) (m := 17) (Flat.len _) (cl1 (n := 16) (m := 1) (Flat.len _) (cl1 (n := 1) (m := 0) rfl cl0))))))))) ?_; intro w a hM hE
    refine Zf ?_
    have hr := Option.some.inj hF52
    subst hr
    have hq62 : YR Try.prog _ _ (.cell 2 103) _ := Z7 hE rfl VQ rfl (hM.rawAt (pre := [])) (ZR (cl1 (n := 1) (m := 289) rfl (cl1 (n := 256) (m := 33) (Flat.len _) (cl1 (n := 16) (m := 17) (Flat.len _) (cl1 (n := 16) (m := 1) (Flat.len _) (cl1 (n := 1) (m := 0) rfl cl0)))))) rfl
    have hM := M.fst (l := []) hM
    exact wp_ret (Zy hE rfl hq62 ⟨_, rfl, rfl, hM.kept⟩)
noncomputable def Um (s8 : (Vector (Vector UInt8 4) 4) × Int) : Option (Fl ((Vector (Vector UInt8 4) 4) × Int) (Vector (Vector UInt8 4) 4)) :=
 if (decide (s8.2 < 4)) = true then ((ZN s8.1 s8.2).bind fun x14 => (ZN x14 s8.2).bind fun x17 => some (Fl.nx ((s8.1.setIfInBounds (s8.2).toNat (x14.setIfInBounds (s8.2).toNat 1)), wr (s8.2 + 1)))) else (some (Fl.ex s8.1))
noncomputable def Wp : Option ((Vector (Vector UInt8 4) 4)) :=
 (ZG (Um) ((Vector.replicate 4 (Vector.replicate 4 (0 : UInt8))), 0) : Option ((Vector (Vector UInt8 4) 4))).bind fun j5 => some j5
theorem c_impl_UnitMatrix (w0 : World)  (r : (Vector (Vector UInt8 4) 4)) (hF : Wp  = some r) :
  Calls Try.prog 126 [].toArray w0 (fun en w' => ∃ v, en = .returned v ∧ (v = (Value.agg (Flat.enc r).toArray) ∧ Kept (Old w0) w0 w')) := by
 refine ZC (n := 13) Try.func126 rfl rfl (Nat.le_of_ble_eq_true rfl) rfl ?_
 intro a hE
 have hM := M.start w0
 unfold Wp at hF
 refine Zc (ZO hE hM Za (dl rfl) Vx ?_); intro b1 w a hM hE
 refine Zf (Zc (Xm (parts := []) (vs := []) (cs := Flat.enc (Vector.replicate 4 (Vector.replicate 4 (0 : UInt8)))) hE Za (dl rfl) rfl rfl Vx rfl Ve YO ?_)); intro a hE
 refine ZO hE hM Za (dl rfl) Vx ?_; intro b3 w a hM hE
 refine Zs (seg := Flat.enc (Vector.replicate 4 (Vector.replicate 4 (0 : UInt8)))) (cs' := Flat.enc (Vector.replicate 4 (Vector.replicate 4 (0 : UInt8)))) hE hM Za rfl rfl rfl Vx (Flat.len _) (zle flq) (Flat.cell _) (Zq flq) ?_; intro w a hM hE
 refine Zf (wp_seq (Zc (Zd hE Za (dl rfl) rfl ?_))); intro a hE
 refine Zf ?_
 obtain ⟨j5, hl6, hF7⟩ := bind_some hF
 refine ZW (fun a w => Env 13 a [(0, (ptr b1 0)), (1, (ptr b3 0))] ∧ M (Old w0) w0 w [raw b3 (Flat.enc j5), raw b1 (Flat.enc (Vector.replicate 4 (Vector.replicate 4 (0 : UInt8))))]) ?_ ?_
 ·skip
  refine wp_block ?_
  refine ZM (fun (s8 : (Vector (Vector UInt8 4) 4) × Int) a w => Env 13 a [(0, (ptr b1 0)), (1, (ptr b3 0)), (4, (vI s8.2))] ∧ M (Old w0) w0 w [raw b3 (Flat.enc s8.1), raw b1 (Flat.enc (Vector.replicate 4 (Vector.replicate 4 (0 : UInt8))))]) hl6 ⟨hE.sub ⟨rfl, rfl, rfl, trivial⟩, hM⟩ ?_
  rintro s8 a w ⟨hE, hM⟩ o11 hs9 hx10
  unfold Um at hs9
  refine Zc (Zh hE Za (dl rfl) rfl rfl rfl ?_); intro a hE
  refine Zf (wp_seq ?_)
  refine Zt hE rfl ?_ ?_
  ·intro hb12
   have hs9 := Zz hs9 hb12
   refine wp_skip (Zx (wp_seq (wp_block (Zc (Zd hE Za (dl rfl) rfl ?_))))); intro a hE
   refine Ze hE Za (dl rfl) rfl ?_; intro a hE
   refine Zf (wp_region_lit (Zd hE Za (dl rfl) rfl ?_)); intro a hE
   refine Zd hE Za (dl rfl) rfl ?_; intro a hE
   obtain ⟨x14, e15, hs9⟩ := bind_some hs9
   have hi13 := Zi e15
   refine Zm hE Za (dl rfl) rfl rfl Try.underlying100 Ve hi13.1 ?_; intro a hE
   obtain ⟨x17, e18, hs9⟩ := bind_some hs9
   have hi16 := Zi e18
   refine Zm hE Za (dl rfl) rfl rfl Try.underlying98 ty5 hi16.1 ?_; intro a hE
   refine Zs (seg := [(vB 1)]) (cs' := Flat.enc (s8.1.setIfInBounds (s8.2).toNat (x14.setIfInBounds (s8.2).toNat 1))) hE hM Za rfl rfl rfl ty5 rfl (W9 (o' := 0 + (s8.2).toNat * 1) hi13 (ZT (v := x14) (x := 1) hi16.1) (by first | omega | (simp only [Flat.n] <;> omega))) (Flat.cell (1 : UInt8)) (Wl (o' := 0 + (s8.2).toNat * 1) hi13 (ZT (v := x14) (x := 1) hi16.1) (ZI (v := x14) (x := 1) hi16.1) (by first | omega | (simp only [Flat.n] <;> omega))) ?_; intro w a hM hE
   refine Zj (Yj (Zx (wp_region_lit (Zh hE Za (dl rfl) rfl rfl rfl ?_)))); intro a hE
   refine Zd hE Za (dl rfl) rfl ?_; intro a hE
   refine Zj (Zl ?_)
   exact ⟨_, (Option.some.inj hs9).symm, hE.sub ⟨rfl, rfl, rfl, trivial⟩, hM⟩
  ·intro hb12
   have hs9 := ZA hs9 hb12
   refine wp_exit (Zr (Zr (Yk ?_)))
   have ht19 := hx10 _ (Option.some.inj hs9).symm
   subst ht19
   refine Zl ?_
   exact ⟨hE.sub ⟨rfl, rfl, trivial⟩, hM⟩
 ·skip
  rintro a w ⟨hE, hM⟩
  refine Zx (Zc (Zp (cs := Flat.enc j5) hE Za (dl rfl) rfl Vx rfl (hM.rawAt (pre := [])) (Flat.len _) ?_)); intro a hE
  have hM := hM.pull (pre := [_])
  refine Zs (seg := Flat.enc j5) (cs' := Flat.enc j5) hE hM Za rfl rfl rfl Vx (Flat.len _) (zle flq) (Flat.cell _) (Zq flq) ?_; intro w a hM hE
  refine Zf ?_
  have hr := Option.some.inj hF7
  subst hr
  have hq20 : YR Try.prog _ _ (.cell 0 100) _ := Z7 hE rfl Vx rfl (hM.rawAt (pre := [])) (Flat.len _) rfl
  have hM := M.fst (l := []) hM
  exact wp_ret (Zy hE rfl hq20 ⟨_, rfl, rfl, hM.kept⟩)
noncomputable def VO (s13 : (Vector (Vector UInt8 4) 4) × (Vector (Vector UInt8 4) 4) × Int × UInt8) (s21 : Int) : Option (Fl Int Int) :=
 (if (decide (s21 < 4)) = true then ((ZN s13.1 s21).bind fun x30 => (ZN x30 s13.2.2.1).bind fun x33 => some (x33 == 0)) else (some false) : Option (Bool)).bind fun j25 => if j25 = true then (some (Fl.nx (wr (s21 + 1)))) else (some (Fl.ex s21))
noncomputable def Xs (p0 : Int) (s13 : (Vector (Vector UInt8 4) 4) × (Vector (Vector UInt8 4) 4) × Int × UInt8) (r90 : UInt8) (s95 : (Vector (Vector UInt8 4) 4) × (Vector (Vector UInt8 4) 4) × Int) : Option (Fl ((Vector (Vector UInt8 4) 4) × (Vector (Vector UInt8 4) 4) × Int) ((Vector (Vector UInt8 4) 4) × (Vector (Vector UInt8 4) 4))) :=
 if (decide (s95.2.2 < 4)) = true then ((ZN s95.1 s13.2.2.1).bind fun x102 => (ZN x102 s95.2.2).bind fun x105 => (Z3 p0 x105 r90).bind fun r107 => (ZN s95.2.1 s13.2.2.1).bind fun x110 => (ZN x110 s95.2.2).bind fun x113 => (Z3 p0 x113 r90).bind fun r115 => (ZN s95.1 s13.2.2.1).bind fun x118 => (ZN x118 s95.2.2).bind fun x121 => (ZN s95.2.1 s13.2.2.1).bind fun x124 => (ZN x124 s95.2.2).bind fun x127 => some (Fl.nx ((s95.1.setIfInBounds (s13.2.2.1).toNat (x118.setIfInBounds (s95.2.2).toNat r107)), (s95.2.1.setIfInBounds (s13.2.2.1).toNat (x124.setIfInBounds (s95.2.2).toNat r115)), wr (s95.2.2 + 1)))) else (some (Fl.ex (s95.1, s95.2.1)))
noncomputable def Xn (p0 : Int) (s13 : (Vector (Vector UInt8 4) 4) × (Vector (Vector UInt8 4) 4) × Int × UInt8) (s133 : (Vector (Vector UInt8 4) 4) × (Vector (Vector UInt8 4) 4) × Int) (x145 : UInt8) (s160 : (Vector (Vector UInt8 4) 4) × (Vector (Vector UInt8 4) 4) × Int) : Option (Fl ((Vector (Vector UInt8 4) 4) × (Vector (Vector UInt8 4) 4) × Int) ((Vector (Vector UInt8 4) 4) × (Vector (Vector UInt8 4) 4))) :=
 if (decide (s160.2.2 < 4)) = true then (((ZN s160.1 s133.2.2).bind fun x170 => (ZN x170 s160.2.2).bind fun x173 => (ZN s160.1 s13.2.2.1).bind fun x176 => (ZN x176 s160.2.2).bind fun x179 => (Z3 p0 x145 x179).bind fun r181 => (ZN s160.1 s133.2.2).bind fun x184 => (ZN x184 s160.2.2).bind fun x187 => some (s160.1.setIfInBounds (s133.2.2).toNat (x184.setIfInBounds (s160.2.2).toNat (x173 ^^^ r181))) : Option ((Vector (Vector UInt8 4) 4))).bind fun j165 => (ZN s160.2.1 s133.2.2).bind fun x192 => (ZN x192 s160.2.2).bind fun x195 => (ZN s160.2.1 s13.2.2.1).bind fun x198 => (ZN x198 s160.2.2).bind fun x201 => (Z3 p0 x145 x201).bind fun r203 => (ZN s160.2.1 s133.2.2).bind fun x206 => (ZN x206 s160.2.2).bind fun x209 => some (Fl.nx (j165, (s160.2.1.setIfInBounds (s133.2.2).toNat (x206.setIfInBounds (s160.2.2).toNat (x195 ^^^ r203))), wr (s160.2.2 + 1)))) else (some (Fl.ex (s160.1, s160.2.1)))
noncomputable def Xp (p0 : Int) (s13 : (Vector (Vector UInt8 4) 4) × (Vector (Vector UInt8 4) 4) × Int × UInt8) (s133 : (Vector (Vector UInt8 4) 4) × (Vector (Vector UInt8 4) 4) × Int) : Option (Fl ((Vector (Vector UInt8 4) 4) × (Vector (Vector UInt8 4) 4) × Int) ((Vector (Vector UInt8 4) 4) × (Vector (Vector UInt8 4) 4))) :=
 if (decide (s133.2.2 < 4)) = true then (((ZN s133.1 s133.2.2).bind fun x142 => (ZN x142 s13.2.2.1).bind fun x145 => (if (s133.2.2 != s13.2.2.1) = true then (some (x145 != 0)) else (some false) : Option (Bool)).bind fun j147 => (if j147 = true then ((ZG (Xn p0 s13 s133 x145) (s133.1, s133.2.1, 0) : Option ((Vector (Vector UInt8 4) 4) × (Vector (Vector UInt8 4) 4))).bind fun j157 => some (j157.1, j157.2)) else (some (s133.1, s133.2.1)) : Option ((Vector (Vector UInt8 4) 4) × (Vector (Vector UInt8 4) 4))).bind fun j153 => some (j153.1, j153.2) : Option ((Vector (Vector UInt8 4) 4) × (Vector (Vector UInt8 4) 4))).bind fun j138 => some (Fl.nx (j138.1, j138.2, wr (s133.2.2 + 1)))) else (some (Fl.ex (s133.1, s133.2.1)))
noncomputable def Yt (p0 : Int) (s13 : (Vector (Vector UInt8 4) 4) × (Vector (Vector UInt8 4) 4) × Int × UInt8) : Option (Fl ((Vector (Vector UInt8 4) 4) × (Vector (Vector UInt8 4) 4) × Int × UInt8) (Fl ((Vector (Vector UInt8 4) 4) × UInt8) (UInt8 × (Vector (Vector UInt8 4) 4)))) :=
 if (decide (s13.2.2.1 < 4)) = true then ((ZG (VO s13) s13.2.2.1 : Option (Int)).bind fun j18 => if (j18 == 4) = true then (some (Fl.ex (Fl.ex (0, (Vector.replicate 4 (Vector.replicate 4 (0 : UInt8))))))) else (((ZN s13.1 s13.2.2.1).bind fun x47 => (ZN s13.1 j18).bind fun x50 => (ZN s13.1 j18).bind fun x53 => (ZN (s13.1.setIfInBounds (j18).toNat x47) s13.2.2.1).bind fun x56 => some ((s13.1.setIfInBounds (j18).toNat x47).setIfInBounds (s13.2.2.1).toNat x50) : Option ((Vector (Vector UInt8 4) 4))).bind fun j42 => ((ZN s13.2.1 s13.2.2.1).bind fun x64 => (ZN s13.2.1 j18).bind fun x67 => (ZN s13.2.1 j18).bind fun x70 => (ZN (s13.2.1.setIfInBounds (j18).toNat x64) s13.2.2.1).bind fun x73 => some ((s13.2.1.setIfInBounds (j18).toNat x64).setIfInBounds (s13.2.2.1).toNat x67) : Option ((Vector (Vector UInt8 4) 4))).bind fun j59 => (ZN j42 s13.2.2.1).bind fun x77 => (ZN x77 s13.2.2.1).bind fun x80 => (Z3 p0 s13.2.2.2 x80).bind fun r82 => (ZN j42 s13.2.2.1).bind fun x85 => (ZN x85 s13.2.2.1).bind fun x88 => (Yc p0 x88).bind fun r90 => (ZG (Xs p0 s13 r90) (j42, j59, 0) : Option ((Vector (Vector UInt8 4) 4) × (Vector (Vector UInt8 4) 4))).bind fun j92 => (ZG (Xp p0 s13) (j92.1, j92.2, 0) : Option ((Vector (Vector UInt8 4) 4) × (Vector (Vector UInt8 4) 4))).bind fun j130 => some (Fl.nx (j130.1, j130.2, wr (s13.2.2.1 + 1), r82)))) else (some (Fl.ex (Fl.nx (s13.2.1, s13.2.2.2))))
noncomputable def Y2 (p0 : Int) (p1 : (Vector (Vector UInt8 4) 4)) : Option (UInt8 × (Vector (Vector UInt8 4) 4)) :=
 (Wp).bind fun r5 => (ZG (Yt p0) (p1, r5, 0, 1) : Option (Fl ((Vector (Vector UInt8 4) 4) × UInt8) (UInt8 × (Vector (Vector UInt8 4) 4)))).bind fun j9 => j9.el (fun s12 => (some (s12.1, s12.2) : Option ((Vector (Vector UInt8 4) 4) × UInt8)).bind fun j217 => some (j217.2, j217.1)) (fun r => some r)
end Go.Proofs.Ytifdeoikcebbjaa
