/- The walk of what the law reaches: contracts of functions. -/
import Derived.Test.YtifdeoikcebbjaaC2
set_option linter.unusedVariables false
set_option linter.unusedSimpArgs false
set_option maxRecDepth 20000
set_option maxHeartbeats 400000
namespace Go.Proofs.Ytifdeoikcebbjaa
open Go
theorem c_impl_newEngine (w0 : World) (p0 : GCipher) (r : (Ref Gengine)) (hF : WR p0 = some r) :
  Calls Try.prog 89 [(Value.agg (Flat.enc p0).toArray)].toArray w0 (fun en w' => ∃ v, en = .returned v ∧ (∃ (y1 : Value), v = y1 ∧ Fr w0 w' [own NoB (r : (Ref Gengine)) [y1]] ∧ Kept (Old w0) w0 w')) := by
 refine ZC (n := 36) Try.func89 rfl rfl (Nat.le_of_ble_eq_true rfl) rfl ?_
 intro a hE
 have hM := M.start w0
 unfold WR at hF
 refine Zc (Z4 (cs := cat [[(vI p0.Field)], Flat.enc p0.Box, Flat.enc p0.Mix, Flat.enc p0.Places, [(vI p0.Rounds)]]) hE hM Za (dl rfl) rfl rfl ?_); intro b1 w a hM hE
 refine Ze hE Za (dl rfl) rfl ?_; intro a hE
 refine Zf (Zc (Zo hE Za (dl rfl) rfl (fd103_0) ?_)); intro a hE
 refine Zv (v := (vI p0.Field)) hE Za (dl rfl) rfl ty2 rfl (At.cat (pre := []) (hM.rawAt (pre := [])) cl0) ?_; intro a hE
 refine Zo hE Za (dl rfl) rfl (fd103_2) ?_; intro a hE
 refine Zp (cs := Flat.enc p0.Mix) hE Za (dl rfl) rfl VM rfl (At.cat (pre := [[(vI p0.Field)], Flat.enc p0.Box]) (hM.rawAt (pre := [])) (cl1 (n := 1) (m := 256) rfl (cl1 (n := 256) (m := 0) (Flat.len _) cl0))) (Flat.len _) ?_; intro a hE
 obtain ⟨r3, e4, hF⟩ := bind_some hF
 refine Zw (vs := [(vI p0.Field), (Value.agg (Flat.enc p0.Mix).toArray)]) hE Za (dl rfl) rfl cb107 (c_impl_field_invert _ p0.Field p0.Mix r3 e4) ?_
 rintro v w a ⟨rfl, hK⟩ hE
 have hM := hM.keep hK
 refine Zd hE Za (dl rfl) rfl ?_; intro a hE
 refine Xy hE Za (dl rfl) rfl rfl ?_; intro a hE
 refine Xy hE Za (dl rfl) rfl rfl ?_; intro a hE
 refine ZO hE hM Za (dl rfl) VM ?_; intro b5 w a hM hE
 refine Ze hE Za (dl rfl) rfl ?_; intro a hE
 refine Zs (seg := Flat.enc r3.2) (cs' := Flat.enc r3.2) hE hM Za rfl rfl rfl VM (Flat.len _) (zle flq) (Flat.cell _) (Zq flq) ?_; intro w a hM hE
 refine Zf (wp_seq ?_)
 obtain ⟨r8, e9, hF⟩ := bind_some hF
 obtain ⟨r10, e11, hF⟩ := bind_some hF
 obtain ⟨r12, e13, hF⟩ := bind_some hF
 obtain ⟨r15, e16, hF⟩ := bind_some hF
 refine c_draw2 (n := 36) (hd := [_, _, _, _, _, _, _, _, _, _, _, _, _, _, _, _, _, _, _, _, _]) (tl := [_, _, _]) (its := [raw b5 (Flat.enc r3.2), raw b1 (cat [[(vI p0.Field)], Flat.enc p0.Box, Flat.enc p0.Mix, Flat.enc p0.Places, [(vI p0.Rounds)]])]) YB rfl rfl [13, 14, 15, 16, 17, 18, 19, 20, 21, 22, 23, 24, 25, 26, 27, 28, 29, 30, 31, 32, 33] (by decide) [(14, fun v => own NoB (r12 : (Ref (Vector (Vector (Vector UInt8 256) 4) 4))) [v]), (18, fun v => own NoB (r15 : (Ref (Vector (Vector (Vector UInt8 256) 4) 4))) [v])] rfl (fun j => ([fun v => v = (ptr b1 (0 + 1)), fun v => v = (Value.agg (Flat.enc p0.Box).toArray), fun v => v = (ptr b1 (0 + 1)), fun v => v = (Value.agg (Flat.enc p0.Box).toArray), fun v => v = (Value.agg (Flat.enc r8).toArray), fun v => v = (ptr b1 (0 + 273)), fun v => v = (Value.agg (Flat.enc p0.Places).toArray), fun v => v = (ptr b1 (0 + 273)), fun v => v = (Value.agg (Flat.enc p0.Places).toArray), fun v => v = (Value.agg (Flat.enc r10).toArray), fun v => v = (ptr b1 (0 + 0)), fun v => v = (vI p0.Field), fun v => v = (ptr b1 (0 + 257)), fun v => v = (Value.agg (Flat.enc p0.Mix).toArray), fun v => True, fun v => v = (ptr b1 (0 + 0)), fun v => v = (vI p0.Field), fun v => v = (Value.agg (Flat.enc r3.2).toArray), fun v => True, fun v => v = (ptr b1 (0 + 289)), fun v => v = (vI p0.Rounds)] : List (Value → Prop)).getD j (fun _ => True)) hE hM.drew (ZH (Zb ?_ (Zb ?_ (Zb ?_ (Zb ?_ (Zb ?_ (Zb ?_ (Zb ?_ (Zb ?_ (Zb ?_ (Zb ?_ (Zb ?_ (Zb ?_ (Zb ?_ (Zb ?_ (Zb ?_ (Zb ?_ (Zb ?_ (Zb ?_ (Zb ?_ (Zb ?_ (Zb ?_ ZD)))))))))))))))))))))) ?_
 ·intro a w ux7 D hE hM hD hp
  have hM0 := hM
  exact Zo hE Za (dl rfl) rfl (fd103_1) fun a hE => ⟨_, _, rfl, hE, rfl, hM0.optKeep rfl⟩
 ·intro a w ux7 D hE hM hD hp
  have f0 : ux7 0 = (ptr b1 (0 + 1)) := (hp 0 _ rfl rfl).2
  have hM0 := hM
  have hM : M (Old w0) w0 w [raw b5 (Flat.enc r3.2), raw b1 (cat [[(vI p0.Field)], Flat.enc p0.Box, Flat.enc p0.Mix, Flat.enc p0.Places, [(vI p0.Rounds)]]), opt (D 14) (own NoB (r12 : (Ref (Vector (Vector (Vector UInt8 256) 4) 4))) [(ux7 14)]), opt (D 18) (own NoB (r15 : (Ref (Vector (Vector (Vector UInt8 256) 4) 4))) [(ux7 18)])] := hM
  exact Zp (cs := Flat.enc p0.Box) hE Za (dl rfl) (lk rfl f0) Vn rfl (At.cat (pre := [[(vI p0.Field)]]) (hM.rawAt (pre := [_])) (cl1 (n := 1) (m := 0) rfl cl0)) (Flat.len _) fun a hE => ⟨_, _, rfl, hE, rfl, hM0.optKeep rfl⟩
 ·intro a w ux7 D hE hM hD hp
  have hM0 := hM
  exact Zo hE Za (dl rfl) rfl (fd103_1) fun a hE => ⟨_, _, rfl, hE, rfl, hM0.optKeep rfl⟩
 ·intro a w ux7 D hE hM hD hp
  have f2 : ux7 2 = (ptr b1 (0 + 1)) := (hp 0 _ rfl rfl).2
  have hM0 := hM
  have hM : M (Old w0) w0 w [raw b5 (Flat.enc r3.2), raw b1 (cat [[(vI p0.Field)], Flat.enc p0.Box, Flat.enc p0.Mix, Flat.enc p0.Places, [(vI p0.Rounds)]]), opt (D 14) (own NoB (r12 : (Ref (Vector (Vector (Vector UInt8 256) 4) 4))) [(ux7 14)]), opt (D 18) (own NoB (r15 : (Ref (Vector (Vector (Vector UInt8 256) 4) 4))) [(ux7 18)])] := hM
  exact Zp (cs := Flat.enc p0.Box) hE Za (dl rfl) (lk rfl f2) Vn rfl (At.cat (pre := [[(vI p0.Field)]]) (hM.rawAt (pre := [_])) (cl1 (n := 1) (m := 0) rfl cl0)) (Flat.len _) fun a hE => ⟨_, _, rfl, hE, rfl, hM0.optKeep rfl⟩
 ·intro a w ux7 D hE hM hD hp
  have f3 : ux7 3 = (Value.agg (Flat.enc p0.Box).toArray) := (hp 0 _ rfl rfl).2
  have hM0 := hM
  refine Zw (vs := [(Value.agg (Flat.enc p0.Box).toArray)]) hE Za (dl rfl) (Z0 (ZY (lk rfl f3) Xf)) cb108 (c_impl_Box_inverse _ p0.Box r8 e9) ?_
  rintro v w a ⟨rfl, hK⟩ hE
  exact ⟨_, _, rfl, hE, rfl, (hM0.keep hK).optKeep rfl⟩
 ·intro a w ux7 D hE hM hD hp
  have hM0 := hM
  exact Zo hE Za (dl rfl) rfl (fd103_3) fun a hE => ⟨_, _, rfl, hE, rfl, hM0.optKeep rfl⟩
 ·intro a w ux7 D hE hM hD hp
  have f5 : ux7 5 = (ptr b1 (0 + 273)) := (hp 0 _ rfl rfl).2
  have hM0 := hM
  have hM : M (Old w0) w0 w [raw b5 (Flat.enc r3.2), raw b1 (cat [[(vI p0.Field)], Flat.enc p0.Box, Flat.enc p0.Mix, Flat.enc p0.Places, [(vI p0.Rounds)]]), opt (D 14) (own NoB (r12 : (Ref (Vector (Vector (Vector UInt8 256) 4) 4))) [(ux7 14)]), opt (D 18) (own NoB (r15 : (Ref (Vector (Vector (Vector UInt8 256) 4) 4))) [(ux7 18)])] := hM
  exact Zp (cs := Flat.enc p0.Places) hE Za (dl rfl) (lk rfl f5) ty101 rfl (At.cat (pre := [[(vI p0.Field)], Flat.enc p0.Box, Flat.enc p0.Mix]) (hM.rawAt (pre := [_])) (cl1 (n := 1) (m := 272) rfl (cl1 (n := 256) (m := 16) (Flat.len _) (cl1 (n := 16) (m := 0) (Flat.len _) cl0)))) (Flat.len _) fun a hE => ⟨_, _, rfl, hE, rfl, hM0.optKeep rfl⟩
 ·intro a w ux7 D hE hM hD hp
  have hM0 := hM
  exact Zo hE Za (dl rfl) rfl (fd103_3) fun a hE => ⟨_, _, rfl, hE, rfl, hM0.optKeep rfl⟩
 ·intro a w ux7 D hE hM hD hp
  have f7 : ux7 7 = (ptr b1 (0 + 273)) := (hp 0 _ rfl rfl).2
  have hM0 := hM
  have hM : M (Old w0) w0 w [raw b5 (Flat.enc r3.2), raw b1 (cat [[(vI p0.Field)], Flat.enc p0.Box, Flat.enc p0.Mix, Flat.enc p0.Places, [(vI p0.Rounds)]]), opt (D 14) (own NoB (r12 : (Ref (Vector (Vector (Vector UInt8 256) 4) 4))) [(ux7 14)]), opt (D 18) (own NoB (r15 : (Ref (Vector (Vector (Vector UInt8 256) 4) 4))) [(ux7 18)])] := hM
  exact Zp (cs := Flat.enc p0.Places) hE Za (dl rfl) (lk rfl f7) ty101 rfl (At.cat (pre := [[(vI p0.Field)], Flat.enc p0.Box, Flat.enc p0.Mix]) (hM.rawAt (pre := [_])) (cl1 (n := 1) (m := 272) rfl (cl1 (n := 256) (m := 16) (Flat.len _) (cl1 (n := 16) (m := 0) (Flat.len _) cl0)))) (Flat.len _) fun a hE => ⟨_, _, rfl, hE, rfl, hM0.optKeep rfl⟩
 ·intro a w ux7 D hE hM hD hp
  have f8 : ux7 8 = (Value.agg (Flat.enc p0.Places).toArray) := (hp 0 _ rfl rfl).2
  have hM0 := hM
  refine Zw (vs := [(Value.agg (Flat.enc p0.Places).toArray)]) hE Za (dl rfl) (Z0 (ZY (lk rfl f8) Xf)) cb109 (c_impl_Places_inverse _ p0.Places r10 e11) ?_
  rintro v w a ⟨rfl, hK⟩ hE
  exact ⟨_, _, rfl, hE, rfl, (hM0.keep hK).optKeep rfl⟩
 ·intro a w ux7 D hE hM hD hp
  have hM0 := hM
  exact Zo hE Za (dl rfl) rfl (fd103_0) fun a hE => ⟨_, _, rfl, hE, rfl, hM0.optKeep rfl⟩
 ·intro a w ux7 D hE hM hD hp
  have f10 : ux7 10 = (ptr b1 (0 + 0)) := (hp 0 _ rfl rfl).2
  have hM0 := hM
  have hM : M (Old w0) w0 w [raw b5 (Flat.enc r3.2), raw b1 (cat [[(vI p0.Field)], Flat.enc p0.Box, Flat.enc p0.Mix, Flat.enc p0.Places, [(vI p0.Rounds)]]), opt (D 14) (own NoB (r12 : (Ref (Vector (Vector (Vector UInt8 256) 4) 4))) [(ux7 14)]), opt (D 18) (own NoB (r15 : (Ref (Vector (Vector (Vector UInt8 256) 4) 4))) [(ux7 18)])] := hM
  exact Zv (v := (vI p0.Field)) hE Za (dl rfl) (lk rfl f10) ty2 rfl (At.cat (pre := []) (hM.rawAt (pre := [_])) cl0) fun a hE => ⟨_, _, rfl, hE, rfl, hM0.optKeep rfl⟩
 ·intro a w ux7 D hE hM hD hp
  have hM0 := hM
  exact Zo hE Za (dl rfl) rfl (fd103_2) fun a hE => ⟨_, _, rfl, hE, rfl, hM0.optKeep rfl⟩
 ·intro a w ux7 D hE hM hD hp
  have f12 : ux7 12 = (ptr b1 (0 + 257)) := (hp 0 _ rfl rfl).2
  have hM0 := hM
  have hM : M (Old w0) w0 w [raw b5 (Flat.enc r3.2), raw b1 (cat [[(vI p0.Field)], Flat.enc p0.Box, Flat.enc p0.Mix, Flat.enc p0.Places, [(vI p0.Rounds)]]), opt (D 14) (own NoB (r12 : (Ref (Vector (Vector (Vector UInt8 256) 4) 4))) [(ux7 14)]), opt (D 18) (own NoB (r15 : (Ref (Vector (Vector (Vector UInt8 256) 4) 4))) [(ux7 18)])] := hM
  exact Zp (cs := Flat.enc p0.Mix) hE Za (dl rfl) (lk rfl f12) VM rfl (At.cat (pre := [[(vI p0.Field)], Flat.enc p0.Box]) (hM.rawAt (pre := [_])) (cl1 (n := 1) (m := 256) rfl (cl1 (n := 256) (m := 0) (Flat.len _) cl0))) (Flat.len _) fun a hE => ⟨_, _, rfl, hE, rfl, hM0.optKeep rfl⟩
 ·intro a w ux7 D hE hM hD hp
  have f11 : ux7 11 = (vI p0.Field) := (hp 0 _ rfl rfl).2
  have f13 : ux7 13 = (Value.agg (Flat.enc p0.Mix).toArray) := (hp 1 _ rfl rfl).2
  have hM0 := hM
  have hM : M (Old w0) w0 w [raw b5 (Flat.enc r3.2), raw b1 (cat [[(vI p0.Field)], Flat.enc p0.Box, Flat.enc p0.Mix, Flat.enc p0.Places, [(vI p0.Rounds)]]), opt (D 14) (own NoB (r12 : (Ref (Vector (Vector (Vector UInt8 256) 4) 4))) [(ux7 14)]), opt (D 18) (own NoB (r15 : (Ref (Vector (Vector (Vector UInt8 256) 4) 4))) [(ux7 18)])] := hM
  refine Zw (vs := [(vI p0.Field), (Value.agg (Flat.enc p0.Mix).toArray)]) hE Za (dl rfl) (Z0 (ZY (lk rfl f11) (ZY (lk rfl f13) Xf))) cb110 (c_impl_newMixer _ p0.Field p0.Mix r12 e13) ?_
  rintro _ w a ⟨_, rfl, hFr, hK⟩ hE
  have hM := hM0.add hK hFr
  exact ⟨_, _, rfl, hE, trivial, M.optFill (mk1 := []) (mk2 := [_]) (f := (fun v => own NoB (r12 : (Ref (Vector (Vector (Vector UInt8 256) 4) 4))) [v])) hM rfl hD⟩
 ·intro a w ux7 D hE hM hD hp
  have hM0 := hM
  exact Zo hE Za (dl rfl) rfl (fd103_0) fun a hE => ⟨_, _, rfl, hE, rfl, hM0.optKeep rfl⟩
 ·intro a w ux7 D hE hM hD hp
  have f15 : ux7 15 = (ptr b1 (0 + 0)) := (hp 0 _ rfl rfl).2
  have hM0 := hM
  have hM : M (Old w0) w0 w [raw b5 (Flat.enc r3.2), raw b1 (cat [[(vI p0.Field)], Flat.enc p0.Box, Flat.enc p0.Mix, Flat.enc p0.Places, [(vI p0.Rounds)]]), opt (D 14) (own NoB (r12 : (Ref (Vector (Vector (Vector UInt8 256) 4) 4))) [(ux7 14)]), opt (D 18) (own NoB (r15 : (Ref (Vector (Vector (Vector UInt8 256) 4) 4))) [(ux7 18)])] := hM
  exact Zv (v := (vI p0.Field)) hE Za (dl rfl) (lk rfl f15) ty2 rfl (At.cat (pre := []) (hM.rawAt (pre := [_])) cl0) fun a hE => ⟨_, _, rfl, hE, rfl, hM0.optKeep rfl⟩
 ·intro a w ux7 D hE hM hD hp
  have hM0 := hM
  have hM : M (Old w0) w0 w [raw b5 (Flat.enc r3.2), raw b1 (cat [[(vI p0.Field)], Flat.enc p0.Box, Flat.enc p0.Mix, Flat.enc p0.Places, [(vI p0.Rounds)]]), opt (D 14) (own NoB (r12 : (Ref (Vector (Vector (Vector UInt8 256) 4) 4))) [(ux7 14)]), opt (D 18) (own NoB (r15 : (Ref (Vector (Vector (Vector UInt8 256) 4) 4))) [(ux7 18)])] := hM
  exact Zp (cs := Flat.enc r3.2) hE Za (dl rfl) rfl VM rfl (hM.rawAt (pre := [])) (Flat.len _) fun a hE => ⟨_, _, rfl, hE, rfl, hM0.optKeep rfl⟩
 ·intro a w ux7 D hE hM hD hp
  have f16 : ux7 16 = (vI p0.Field) := (hp 0 _ rfl rfl).2
  have f17 : ux7 17 = (Value.agg (Flat.enc r3.2).toArray) := (hp 1 _ rfl rfl).2
  have hM0 := hM
  have hM : M (Old w0) w0 w [raw b5 (Flat.enc r3.2), raw b1 (cat [[(vI p0.Field)], Flat.enc p0.Box, Flat.enc p0.Mix, Flat.enc p0.Places, [(vI p0.Rounds)]]), opt (D 14) (own NoB (r12 : (Ref (Vector (Vector (Vector UInt8 256) 4) 4))) [(ux7 14)]), opt (D 18) (own NoB (r15 : (Ref (Vector (Vector (Vector UInt8 256) 4) 4))) [(ux7 18)])] := hM
  refine Zw (vs := [(vI p0.Field), (Value.agg (Flat.enc r3.2).toArray)]) hE Za (dl rfl) (Z0 (ZY (lk rfl f16) (ZY (lk rfl f17) Xf))) cb110 (c_impl_newMixer _ p0.Field r3.2 r15 e16) ?_
  rintro _ w a ⟨_, rfl, hFr, hK⟩ hE
  have hM := hM0.add hK hFr
  exact ⟨_, _, rfl, hE, trivial, M.optFill (mk1 := [_]) (mk2 := []) (f := (fun v => own NoB (r15 : (Ref (Vector (Vector (Vector UInt8 256) 4) 4))) [v])) hM rfl hD⟩
 ·intro a w ux7 D hE hM hD hp
  have hM0 := hM
  exact Zo hE Za (dl rfl) rfl (fd103_4) fun a hE => ⟨_, _, rfl, hE, rfl, hM0.optKeep rfl⟩
 ·intro a w ux7 D hE hM hD hp
  have f19 : ux7 19 = (ptr b1 (0 + 289)) := (hp 0 _ rfl rfl).2
  have hM0 := hM
  have hM : M (Old w0) w0 w [raw b5 (Flat.enc r3.2), raw b1 (cat [[(vI p0.Field)], Flat.enc p0.Box, Flat.enc p0.Mix, Flat.enc p0.Places, [(vI p0.Rounds)]]), opt (D 14) (own NoB (r12 : (Ref (Vector (Vector (Vector UInt8 256) 4) 4))) [(ux7 14)]), opt (D 18) (own NoB (r15 : (Ref (Vector (Vector (Vector UInt8 256) 4) 4))) [(ux7 18)])] := hM
  exact Zv (v := (vI p0.Rounds)) hE Za (dl rfl) (lk rfl f19) ty2 rfl (At.cat (pre := [[(vI p0.Field)], Flat.enc p0.Box, Flat.enc p0.Mix, Flat.enc p0.Places]) (hM.rawAt (pre := [_])) (cl1 (n := 1) (m := 288) rfl (cl1 (n := 256) (m := 32) (Flat.len _) (cl1 (n := 16) (m := 16) (Flat.len _) (cl1 (n := 16) (m := 0) (Flat.len _) cl0))))) fun a hE => ⟨_, _, rfl, hE, rfl, hM0.optKeep rfl⟩
 ·intro a w ux7 hE hM hg
  have f1 : ux7 1 = (Value.agg (Flat.enc p0.Box).toArray) := hg 1 (by decide)
  have hM : M (Old w0) w0 w [raw b5 (Flat.enc r3.2), raw b1 (cat [[(vI p0.Field)], Flat.enc p0.Box, Flat.enc p0.Mix, Flat.enc p0.Places, [(vI p0.Rounds)]]), own NoB (r12 : (Ref (Vector (Vector (Vector UInt8 256) 4) 4))) [(ux7 14)], own NoB (r15 : (Ref (Vector (Vector (Vector UInt8 256) 4) 4))) [(ux7 18)]] := hM
  have hE := hE.sub (e' := [(14, (Value.agg (Flat.enc p0.Box).toArray)), (17, (Value.agg (Flat.enc r8).toArray)), (19, (Value.agg (Flat.enc p0.Places).toArray)), (22, (Value.agg (Flat.enc r10).toArray)), (27, (ux7 14)), (31, (ux7 18)), (33, (vI p0.Rounds)), (0, (Value.agg (Flat.enc p0).toArray)), (1, (ptr b1 0)), (2, (Value.pointer none)), (3, (vB r3.1)), (4, (ptr b5 0)), (5, (Value.tuple [(vB r3.1), (Value.agg (Flat.enc r3.2).toArray)].toArray)), (6, (ptr b1 (0 + 0))), (7, (vI p0.Field)), (8, (ptr b1 (0 + 257))), (9, (Value.agg (Flat.enc p0.Mix).toArray)), (10, (Value.tuple [(vB r3.1), (Value.agg (Flat.enc r3.2).toArray)].toArray)), (11, (vB r3.1)), (12, (Value.agg (Flat.enc r3.2).toArray))]) ⟨lk rfl f1, lk rfl (hg 4 (by decide)), lk rfl (hg 6 (by decide)), lk rfl (hg 9 (by decide)), rfl, rfl, lk rfl (hg 20 (by decide)), rfl, rfl, rfl, rfl, rfl, rfl, rfl, rfl, rfl, rfl, rfl, rfl, rfl, trivial⟩
  refine s_buildStr (parts := [(0, .tmp 14), (1, .tmp 17), (2, .tmp 19), (3, .tmp 22), (4, .tmp 27), (5, .tmp 31), (6, .tmp 33)]) (vs := [(0, (Value.agg (Flat.enc p0.Box).toArray)), (1, (Value.agg (Flat.enc r8).toArray)), (2, (Value.agg (Flat.enc p0.Places).toArray)), (3, (Value.agg (Flat.enc r10).toArray)), (4, (ux7 14)), (5, (ux7 18)), (6, (vI p0.Rounds))]) (cs := cat [Flat.enc p0.Box, Flat.enc r8, Flat.enc p0.Places, Flat.enc r10, [(ux7 14)], [(ux7 18)], [(vI p0.Rounds)]]) hE Za (dl rfl) rfl rfl ty152 pl152 (Wh (pre := []) (seg := Flat.enc (Vector.replicate 256 (0 : UInt8))) (seg' := Flat.enc p0.Box) (post := [Flat.enc (Vector.replicate 256 (0 : UInt8)), Flat.enc (Vector.replicate 16 (0 : UInt8)), Flat.enc (Vector.replicate 16 (0 : UInt8)), [(Value.pointer none)], [(Value.pointer none)], [(vI 0)]]) rfl cl0 (Flat.len _) (Flat.len _) rfl (Wh (pre := [Flat.enc p0.Box]) (seg := Flat.enc (Vector.replicate 256 (0 : UInt8))) (seg' := Flat.enc r8) (post := [Flat.enc (Vector.replicate 16 (0 : UInt8)), Flat.enc (Vector.replicate 16 (0 : UInt8)), [(Value.pointer none)], [(Value.pointer none)], [(vI 0)]]) rfl (cl1 (n := 256) (m := 0) (Flat.len _) cl0) (Flat.len _) (Flat.len _) rfl (Wh (pre := [Flat.enc p0.Box, Flat.enc r8]) (seg := Flat.enc (Vector.replicate 16 (0 : UInt8))) (seg' := Flat.enc p0.Places) (post := [Flat.enc (Vector.replicate 16 (0 : UInt8)), [(Value.pointer none)], [(Value.pointer none)], [(vI 0)]]) rfl (cl1 (n := 256) (m := 256) (Flat.len _) (cl1 (n := 256) (m := 0) (Flat.len _) cl0)) (Flat.len _) (Flat.len _) rfl (Wh (pre := [Flat.enc p0.Box, Flat.enc r8, Flat.enc p0.Places]) (seg := Flat.enc (Vector.replicate 16 (0 : UInt8))) (seg' := Flat.enc r10) (post := [[(Value.pointer none)], [(Value.pointer none)], [(vI 0)]]) rfl (cl1 (n := 256) (m := 272) (Flat.len _) (cl1 (n := 256) (m := 16) (Flat.len _) (cl1 (n := 16) (m := 0) (Flat.len _) cl0))) (Flat.len _) (Flat.len _) rfl (Wh (pre := [Flat.enc p0.Box, Flat.enc r8, Flat.enc p0.Places, Flat.enc r10]) (seg := [(Value.pointer none)]) (seg' := [(ux7 14)]) (post := [[(Value.pointer none)], [(vI 0)]]) rfl (cl1 (n := 256) (m := 288) (Flat.len _) (cl1 (n := 256) (m := 32) (Flat.len _) (cl1 (n := 16) (m := 16) (Flat.len _) (cl1 (n := 16) (m := 0) (Flat.len _) cl0)))) rfl rfl (ref_cells (hM.ro (pre := [_, _]) noB)) (Wh (pre := [Flat.enc p0.Box, Flat.enc r8, Flat.enc p0.Places, Flat.enc r10, [(ux7 14)]]) (seg := [(Value.pointer none)]) (seg' := [(ux7 18)]) (post := [[(vI 0)]]) rfl (cl1 (n := 256) (m := 289) (Flat.len _) (cl1 (n := 256) (m := 33) (Flat.len _) (cl1 (n := 16) (m := 17) (Flat.len _) (cl1 (n := 16) (m := 1) (Flat.len _) (cl1 (n := 1) (m := 0) rfl cl0))))) rfl rfl (ref_cells (hM.ro (pre := [_, _, _]) noB)) (Wh (pre := [Flat.enc p0.Box, Flat.enc r8, Flat.enc p0.Places, Flat.enc r10, [(ux7 14)], [(ux7 18)]]) (seg := [(vI 0)]) (seg' := [(vI p0.Rounds)]) (post := []) rfl (cl1 (n := 256) (m := 290) (Flat.len _) (cl1 (n := 256) (m := 34) (Flat.len _) (cl1 (n := 16) (m := 18) (Flat.len _) (cl1 (n := 16) (m := 2) (Flat.len _) (cl1 (n := 1) (m := 1) rfl (cl1 (n := 1) (m := 0) rfl cl0)))))) rfl rfl rfl fill_nil))))))) ?_; intro a hE
  refine Z4 (cs := cat [Flat.enc p0.Box, Flat.enc r8, Flat.enc p0.Places, Flat.enc r10, [(ux7 14)], [(ux7 18)], [(vI p0.Rounds)]]) hE hM Za (dl rfl) rfl rfl ?_; intro b18 w a hM hE
  refine Ze hE Za (dl rfl) rfl ?_; intro a hE
  refine Zj (Zx ?_)
  have hM := hM.pull (pre := [_, _, _, _])
  have hM := hM.pull (pre := [_, _, _, _])
  have hM := hM.pack2 (it := own NoB (⟨p0.Box, r8, p0.Places, r10, r12, r15, p0.Rounds⟩ : Gengine) (cat [Flat.enc p0.Box, Flat.enc r8, Flat.enc p0.Places, Flat.enc r10, [(ux7 14)], [(ux7 18)], [(vI p0.Rounds)]])) (Xg noB) (fun f0 f1 q0 q1 => (pk_Gengine q0 q1 (by simp)))
  have hM := hM.pull (pre := [_])
  have hM := hM.pull (pre := [_])
  have hM := hM.pull (pre := [_])
  have hM := M.toRef hM noB
  have hr := Option.some.inj hF
  subst hr
  have hM := M.fst (l := [_]) hM
  exact wp_ret (Zy hE rfl (Zu hE rfl) ⟨_, rfl, (ptr b18 0), rfl, hM.outF (locNO WY), hM.kept⟩)
noncomputable def UA (p0 : Int) : Option ((Ref Gengine)) :=
 (X8 p0).bind fun r1 => (WR r1).bind fun r3 => some r3
theorem c_impl_house (w0 : World) (p0 : Int) (r : (Ref Gengine)) (hF : UA p0 = some r) :
  Calls Try.prog 69 [(vI p0)].toArray w0 (fun en w' => ∃ v, en = .returned v ∧ (∃ (y1 : Value), v = y1 ∧ Fr w0 w' [own NoB (r : (Ref Gengine)) [y1]] ∧ Kept (Old w0) w0 w')) := by
 refine ZC (n := 6) Try.func69 rfl rfl (Nat.le_of_ble_eq_true rfl) rfl ?_
 intro a hE
 have hM := M.start w0
 unfold UA at hF
 refine Zc (Ze hE Za (dl rfl) rfl ?_); intro a hE
 refine Zf (Zc (Zd hE Za (dl rfl) rfl ?_)); intro a hE
 obtain ⟨r1, e2, hF⟩ := bind_some hF
 refine Zw (vs := [(vI p0)]) hE Za (dl rfl) rfl cb90 (c_impl_houseCipher _ p0 r1 e2) ?_
 rintro v w a ⟨rfl, hK⟩ hE
 have hM := hM.keep hK
 obtain ⟨r3, e4, hF⟩ := bind_some hF
 refine Zw (vs := [(Value.agg (Flat.enc r1).toArray)]) hE Za (dl rfl) rfl cb89 (c_impl_newEngine _ r1 r3 e4) ?_
 rintro u5 w a ⟨_, rfl, hFr, hK⟩ hE
 have hM := hM.add hK hFr
 refine Ze hE Za (dl rfl) rfl ?_; intro a hE
 refine Zf ?_
 have hr := Option.some.inj hF
 subst hr
 exact wp_ret (Zy hE rfl (Zu hE rfl) ⟨_, rfl, u5, rfl, hM.outF (locNO WY), hM.kept⟩)
noncomputable def VT : Option (Ghasher) :=
 (UA 8).bind fun r3 => some (⟨r3⟩ : Ghasher)
theorem c_impl_newHasher (w0 : World)  (r : Ghasher) (hF : VT  = some r) :
  Calls Try.prog 97 [].toArray w0 (fun en w' => ∃ v, en = .returned v ∧ (∃ (y1 : Value), v = (Value.agg (cat [[y1]]).toArray) ∧ Fr w0 w' [own NoB (r.engine : (Ref Gengine)) [y1]] ∧ Kept (Old w0) w0 w')) := by
 refine ZC (n := 3) Try.func97 rfl rfl (Nat.le_of_ble_eq_true rfl) rfl ?_
 intro a hE
 have hM := M.start w0
 unfold VT at hF
 refine Zc (ZO hE hM Za (dl rfl) ty132 ?_); intro b1 w a hM hE
 refine Zf (Zc ?_)
 obtain ⟨r3, e4, hF⟩ := bind_some hF
 refine Zw (vs := [(vI 8)]) hE Za (dl rfl) rfl cb69 (c_impl_house _ 8 r3 e4) ?_
 rintro u5 w a ⟨_, rfl, hFr, hK⟩ hE
 have hM := hM.add hK hFr
 refine s_buildStr (parts := [(0, .tmp 1)]) (vs := [(0, u5)]) (cs := cat [[u5]]) hE Za (dl rfl) rfl rfl ty132 pl132 (Wh (pre := []) (seg := [(Value.pointer none)]) (seg' := [u5]) (post := []) rfl cl0 rfl rfl (ref_cells (hM.ro (pre := []) noB)) fill_nil) ?_; intro a hE
 have hM := hM.pull (pre := [_])
 refine Zs (seg := cat [[u5]]) (cs' := cat [[u5]]) hE hM Za rfl rfl rfl ty132 (ZR (cl1 (n := 1) (m := 0) rfl cl0)) (Nat.le_of_eq ((Nat.zero_add _).trans (Eq.trans (ZR (cl1 (n := 1) (m := 0) rfl cl0)) (Eq.symm (ZR (cl1 (n := 1) (m := 0) rfl cl0)))))) (cat_cell (cc1 (Rep.cell (hM.ro (pre := [_]) noB)) cc0)) (Zq (Eq.trans (ZR (cl1 (n := 1) (m := 0) rfl cl0)) (Eq.symm (ZR (cl1 (n := 1) (m := 0) rfl cl0))))) ?_; intro w a hM hE
 refine Zf ?_
 have hr := Option.some.inj hF
 subst hr
 have hq6 : YR Try.prog _ _ (.cell 0 132) _ := Z6 hE rfl ty132 rfl (hM.rawAt (pre := [])) (ZR (cl1 (n := 1) (m := 0) rfl cl0)) rfl
 have hM := hM.pull (pre := [_])
 have hM := M.fst (l := [_]) hM
 exact wp_ret (Zy hE rfl hq6 ⟨_, rfl, u5, rfl, hM.outF (locNO WY), hM.kept⟩)
noncomputable def Uh (p0 : (List UInt8)) (p1 : (List UInt8)) : Option (Int) :=
 some (V6 p0 p1)
theorem c_bytes_Compare (w0 : World) (p0 : (List UInt8)) (v0_1 : Value) (hv0_1 : Ro w0 p0 [v0_1]) (p1 : (List UInt8)) (v1_1 : Value) (hv1_1 : Ro w0 p1 [v1_1]) (r : Int) (hF : Uh p0 p1 = some r) :
  Calls Try.prog 99 [v0_1, v1_1].toArray w0 (fun en w' => ∃ v, en = .returned v ∧ (v = (vI r) ∧ Kept (Old w0) w0 w')) := by
 refine ZC (n := 8) Try.func99 rfl rfl (Nat.le_of_ble_eq_true rfl) rfl ?_
 intro a hE
 have hM := M.start w0
 unfold Uh at hF
 refine Zc (Ze hE Za (dl rfl) rfl ?_); intro a hE
 refine Zf (Zc (Zd hE Za (dl rfl) rfl ?_)); intro a hE
 refine Zd hE Za (dl rfl) rfl ?_; intro a hE
 refine s_bytesCompare (xs := [.tmp 5, .tmp 6]) hE Za (dl rfl) rfl Try.func118 rfl (by decide) (by kernel_rfl) (by kernel_rfl) (hM.rd hv0_1) (hM.rd hv1_1) ?_; intro a hE
 refine Ze hE Za (dl rfl) rfl ?_; intro a hE
 refine Zf ?_
 have hr := Option.some.inj hF
 subst hr
 exact wp_ret (Zy hE rfl (Zu hE rfl) ⟨_, rfl, rfl, hM.kept⟩)
noncomputable def ZW (p0 : (Vector UInt8 32)) (p1 : (Vector UInt8 32)) : Option (Int) :=
 ((slc p0.toList (0 : Int) (32 : Int)).bind fun l9 => (slc p1.toList (0 : Int) (32 : Int)).bind fun l12 => (Uh l9 l12).bind fun r15 => some r15 : Option (Int)).bind fun j5 => some j5
theorem c_impl_Digest_compare (w0 : World) (p0 : (Vector UInt8 32)) (p1 : (Vector UInt8 32)) (r : Int) (hF : ZW p0 p1 = some r) :
  Calls Try.prog 81 [(Value.agg (Flat.enc p0).toArray), (Value.agg (Flat.enc p1).toArray)].toArray w0 (fun en w' => ∃ v, en = .returned v ∧ (v = (vI r) ∧ Kept (Old w0) w0 w')) := by
 refine ZC (n := 8) Try.func81 rfl rfl (Nat.le_of_ble_eq_true rfl) rfl ?_
 intro a hE
 have hM := M.start w0
 unfold ZW at hF
 refine Zc (Z4 (cs := Flat.enc p0) hE hM Za (dl rfl) rfl rfl ?_); intro b1 w a hM hE
 refine Z4 (cs := Flat.enc p1) hE hM Za (dl rfl) rfl rfl ?_; intro b3 w a hM hE
 refine Ze hE Za (dl rfl) rfl ?_; intro a hE
 refine Zf ?_
 obtain ⟨j5, hl6, hF7⟩ := bind_some hF
 refine ZS (fun a w => Env 8 a [(4, (vI j5))] ∧ M (Old w0) w0 w []) ?_ ?_
 ·skip
  obtain ⟨l9, e10, hl6⟩ := bind_some hl6
  have hb11 := slc_arr e10 -- ^
  obtain ⟨l12, e13, hl6⟩ := bind_some hl6
  have hb14 := slc_arr e13 -- ^
  obtain ⟨r15, e16, hl6⟩ := bind_some hl6
  refine Yd (n := 8) (hd := [_, _, _, _]) (tl := []) YB rfl rfl [5, 6, 7, 4] (by decide) (fun w => M (Old w0) w0 w [raw b3 (Flat.enc p1), raw b1 (Flat.enc p0)]) (fun j => ([fun v _ => v = (Z9 (.slice (some ⟨b1, 0, none⟩) 32 32) ((0 : Int)).toNat ((32 : Int)).toNat 1), fun v _ => v = (Z9 (.slice (some ⟨b3, 0, none⟩) 32 32) ((0 : Int)).toNat ((32 : Int)).toNat 1), fun v _ => v = (vI r15), fun v _ => v = (vI r15)] : List (Value → World → Prop)).getD j (fun _ _ => True)) (fun _ _ h hk => h.keep hk) (gup (Zg (Zg (Zg (Zg Wu))))) hE hM.drew (ZH (Zb ?_ (Zb ?_ (Zb ?_ (Zb ?_ ZD))))) ?_
  ·exact fun a w ux8 hE hM hp => Um (N := 32) hE Za (dl rfl) rfl rfl rfl rfl rfl Try.underlying25 ty5 hb11 fun a hE => ⟨Kept.refl _ _, _, _, rfl, hE, rfl⟩
  ·exact fun a w ux8 hE hM hp => Um (N := 32) hE Za (dl rfl) rfl rfl rfl rfl rfl Try.underlying25 ty5 hb14 fun a hE => ⟨Kept.refl _ _, _, _, rfl, hE, rfl⟩
  ·intro a w ux8 hE hM hp
   have f0 : ux8 0 = (Z9 (.slice (some ⟨b1, 0, none⟩) 32 32) ((0 : Int)).toNat ((32 : Int)).toNat 1) := hp 0 _ rfl rfl
   have f1 : ux8 1 = (Z9 (.slice (some ⟨b3, 0, none⟩) 32 32) ((0 : Int)).toNat ((32 : Int)).toNat 1) := hp 1 _ rfl rfl
   refine Zw (vs := [(Z9 (.slice (some ⟨b1, 0, none⟩) 32 32) ((0 : Int)).toNat ((32 : Int)).toNat 1), (Z9 (.slice (some ⟨b3, 0, none⟩) 32 32) ((0 : Int)).toNat ((32 : Int)).toNat 1)]) hE Za (dl rfl) (Z0 (ZY (lk rfl f0) (ZY (lk rfl f1) Xf))) cb99 (c_bytes_Compare _ l9 (Z9 (.slice (some ⟨b1, 0, none⟩) 32 32) ((0 : Int)).toNat ((32 : Int)).toNat 1) (VL (At.sat (hM.rawAt (pre := [_])) (by simp) (by decide)) e10) l12 (Z9 (.slice (some ⟨b3, 0, none⟩) 32 32) ((0 : Int)).toNat ((32 : Int)).toNat 1) (VL (At.sat (hM.rawAt (pre := [])) (by simp) (by decide)) e13) r15 e16) ?_
   rintro v w a ⟨rfl, hK⟩ hE
   exact ⟨hK, _, _, rfl, hE, rfl⟩
  ·intro a w ux8 hE hM hp
   have f2 : ux8 2 = (vI r15) := hp 0 _ rfl rfl
   exact Ze hE Za (dl rfl) (lk rfl f2) fun a hE => ⟨Kept.refl _ _, _, _, rfl, hE, rfl⟩
  ·intro a w ux8 hE hM hg
   have hE := hE.sub (e' := [(4, (vI r15)), (0, (Value.agg (Flat.enc p0).toArray)), (1, (Value.agg (Flat.enc p1).toArray)), (2, (ptr b1 0)), (3, (ptr b3 0))]) ⟨lk rfl (hg 3 (by decide)), rfl, rfl, rfl, rfl, trivial⟩
   refine Zj ?_
   have ht17 := Option.some.inj hl6
   subst ht17
   refine Zl ?_
   have hM := M.fst (l := []) hM
   exact ⟨hE.sub ⟨rfl, trivial⟩, hM⟩
 ·skip
  rintro a w ⟨hE, hM⟩
  have hr := Option.some.inj hF7
  subst hr
  exact wp_ret (Zy hE rfl (Zu hE rfl) ⟨_, rfl, rfl, hM.kept⟩)
noncomputable def L0_impl_ascends (p0 : (List (Vector UInt8 32))) (s5 : Int) : Option (Fl Int (Fl Unit Bool)) :=
 if (decide (s5 < (p0.length : Int))) = true then (((idx p0 (wr (s5 - 1))).bind fun x14 => (idx p0 s5).bind fun x17 => (ZW x14 x17).bind fun r20 => some (decide (r20 ≥ 0)) : Option (Bool)).bind fun j10 => if j10 = true then (some (Fl.ex (Fl.ex false))) else (some (Fl.nx (wr (s5 + 1))))) else (some (Fl.ex (Fl.nx ())))
noncomputable def VF (p0 : (List (Vector UInt8 32))) : Option (Bool) :=
 (ZF (L0_impl_ascends p0) 1 : Option (Fl Unit Bool)).bind fun j1 => j1.el (fun s4 => some true) (fun r => some r)
theorem c_impl_ascends (w0 : World) (p0 : (List (Vector UInt8 32))) (v0_1 : Value) (hv0_1 : Ro w0 p0 [v0_1]) (r : Bool) (hF : VF p0 = some r) :
  Calls Try.prog 116 [v0_1].toArray w0 (fun en w' => ∃ v, en = .returned v ∧ (v = (vT r) ∧ Kept (Old w0) w0 w')) := by
 refine ZC (n := 21) Try.func116 rfl rfl (Nat.le_of_ble_eq_true rfl) rfl ?_
 intro a hE
 have hM := M.start w0
 unfold VF at hF
 refine Zc (Ze hE Za (dl rfl) rfl ?_); intro a hE
 refine Zf (wp_seq (Zc (Ze hE Za (dl rfl) rfl ?_))); intro a hE
 refine Zf ?_
 obtain ⟨j1, hl2, hF3⟩ := bind_some hF
 refine ZV (fun a w => ∃ s4 : Unit, j1 = Fl.nx s4 ∧ Env 21 a [] ∧ M (Old w0) w0 w []) ?_ ?_
 ·skip
  refine wp_block ?_
  refine ZN (fun (s5 : Int) a w => Env 21 a [(0, v0_1), (3, (vI s5))] ∧ M (Old w0) w0 w []) hl2 ⟨hE.sub ⟨rfl, rfl, trivial⟩, hM⟩ ?_
  rintro s5 a w ⟨hE, hM⟩ o8 hs6 hx7
  unfold L0_impl_ascends at hs6
  refine wp_seq (Zc (Zd hE Za (dl rfl) rfl ?_)); intro a hE
  refine Zd hE Za (dl rfl) rfl ?_; intro a hE
  refine Z7 hE Za (dl rfl) rfl Try.underlying53 (hM.rd hv0_1) ?_; intro a hE
  refine Zh hE Za (dl rfl) rfl rfl rfl ?_; intro a hE
  refine Zf ?_
  refine Zt hE rfl ?_ ?_
  ·intro hb9
   have hs6 := ZA hs6 hb9
   refine wp_skip (Zx (wp_seq (wp_block ?_)))
   obtain ⟨j10, hl11, hF12⟩ := bind_some hs6
   refine ZS (fun a w => Env 21 a [(0, v0_1), (3, (vI s5)), (20, (vT j10))] ∧ M (Old w0) w0 w []) ?_ ?_
   ·skip
    obtain ⟨x14, e15, hl11⟩ := bind_some hl11
    have hi16 := ZQ e15
    obtain ⟨x17, e18, hl11⟩ := bind_some hl11
    have hi19 := ZQ e18
    obtain ⟨r20, e21, hl11⟩ := bind_some hl11
    refine Yd (n := 21) (hd := [_, _, _, _, _, _, _, _, _, _, _]) (tl := []) YB rfl rfl [10, 11, 12, 13, 14, 15, 16, 17, 18, 19, 20] (by decide) (fun w => M (Old w0) w0 w []) (fun j => ([fun v _ => v = v0_1, fun v _ => v = (vI s5), fun v _ => v = (vI (wr (s5 - 1))), fun v _ => v = (ptr (sb v0_1) (so v0_1 + ((wr (s5 - 1))).toNat * 32)), fun v _ => v = (Value.agg (Flat.enc x14).toArray), fun v _ => v = v0_1, fun v _ => v = (vI s5), fun v _ => v = (ptr (sb v0_1) (so v0_1 + (s5).toNat * 32)), fun v _ => v = (Value.agg (Flat.enc x17).toArray), fun v _ => v = (vI r20), fun v _ => v = (vT (decide (r20 ≥ 0)))] : List (Value → World → Prop)).getD j (fun _ _ => True)) (fun _ _ h hk => h.keep hk) (gup (Zg (Zg (Zg (Zg (Zg (Zg (Zg (Zg (Zg (Zg (Zg Wu)))))))))))) hE hM.drew (ZH (Zb ?_ (Zb ?_ (Zb ?_ (Zb ?_ (Zb ?_ (Zb ?_ (Zb ?_ (Zb ?_ (Zb ?_ (Zb ?_ (Zb ?_ ZD)))))))))))) ?_
    ·exact fun a w ux13 hE hM hp => Zd hE Za (dl rfl) rfl fun a hE => ⟨Kept.refl _ _, _, _, rfl, hE, rfl⟩
    ·exact fun a w ux13 hE hM hp => Zd hE Za (dl rfl) rfl fun a hE => ⟨Kept.refl _ _, _, _, rfl, hE, rfl⟩
    ·intro a w ux13 hE hM hp
     have f1 : ux13 1 = (vI s5) := hp 0 _ rfl rfl
     exact Zh hE Za (dl rfl) (lk rfl f1) rfl rfl fun a hE => ⟨Kept.refl _ _, _, _, rfl, hE, rfl⟩
    ·intro a w ux13 hE hM hp
     have f0 : ux13 0 = v0_1 := hp 0 _ rfl rfl
     have f2 : ux13 2 = (vI (wr (s5 - 1))) := hp 1 _ rfl rfl
     exact ZK hE Za (dl rfl) (lk rfl f0) (lk rfl f2) Try.underlying53 Yi (hM.rd hv0_1) hi16.1 fun a hE => ⟨Kept.refl _ _, _, _, rfl, hE, rfl⟩
    ·intro a w ux13 hE hM hp
     have f3 : ux13 3 = (ptr (sb v0_1) (so v0_1 + ((wr (s5 - 1))).toNat * 32)) := hp 0 _ rfl rfl
     exact Zp (cs := Flat.enc x14) hE Za (dl rfl) (lk rfl f3) Yi rfl (Yt (hM.rd hv0_1) hi16.2) (Flat.len _) fun a hE => ⟨Kept.refl _ _, _, _, rfl, hE, rfl⟩
    ·exact fun a w ux13 hE hM hp => Zd hE Za (dl rfl) rfl fun a hE => ⟨Kept.refl _ _, _, _, rfl, hE, rfl⟩
    ·exact fun a w ux13 hE hM hp => Zd hE Za (dl rfl) rfl fun a hE => ⟨Kept.refl _ _, _, _, rfl, hE, rfl⟩
    ·intro a w ux13 hE hM hp
     have f5 : ux13 5 = v0_1 := hp 0 _ rfl rfl
     have f6 : ux13 6 = (vI s5) := hp 1 _ rfl rfl
     exact ZK hE Za (dl rfl) (lk rfl f5) (lk rfl f6) Try.underlying53 Yi (hM.rd hv0_1) hi19.1 fun a hE => ⟨Kept.refl _ _, _, _, rfl, hE, rfl⟩
    ·intro a w ux13 hE hM hp
     have f7 : ux13 7 = (ptr (sb v0_1) (so v0_1 + (s5).toNat * 32)) := hp 0 _ rfl rfl
     exact Zp (cs := Flat.enc x17) hE Za (dl rfl) (lk rfl f7) Yi rfl (Yt (hM.rd hv0_1) hi19.2) (Flat.len _) fun a hE => ⟨Kept.refl _ _, _, _, rfl, hE, rfl⟩
    ·intro a w ux13 hE hM hp
     have f4 : ux13 4 = (Value.agg (Flat.enc x14).toArray) := hp 0 _ rfl rfl
     have f8 : ux13 8 = (Value.agg (Flat.enc x17).toArray) := hp 1 _ rfl rfl
     refine Zw (vs := [(Value.agg (Flat.enc x14).toArray), (Value.agg (Flat.enc x17).toArray)]) hE Za (dl rfl) (Z0 (ZY (lk rfl f4) (ZY (lk rfl f8) Xf))) cb81 (c_impl_Digest_compare _ x14 x17 r20 e21) ?_
     rintro v w a ⟨rfl, hK⟩ hE
     exact ⟨hK, _, _, rfl, hE, rfl⟩
    ·intro a w ux13 hE hM hp
     have f9 : ux13 9 = (vI r20) := hp 0 _ rfl rfl
     exact Zh hE Za (dl rfl) (lk rfl f9) rfl rfl fun a hE => ⟨Kept.refl _ _, _, _, rfl, hE, rfl⟩
    ·intro a w ux13 hE hM hg
     have hE := hE.sub (e' := [(20, (vT (decide (r20 ≥ 0)))), (0, v0_1), (3, (vI s5)), (4, (vI s5)), (5, v0_1), (6, (vI (p0.length : Int))), (7, (vT (decide (s5 < (p0.length : Int)))))]) ⟨lk rfl (hg 10 (by decide)), rfl, rfl, rfl, rfl, rfl, rfl, trivial⟩
     refine Zj ?_
     have ht22 := Option.some.inj hl11
     subst ht22
     refine Zl ?_
     exact ⟨hE.sub ⟨rfl, rfl, rfl, trivial⟩, hM⟩
   ·skip
    rintro a w ⟨hE, hM⟩
    refine Zt hE rfl ?_ ?_
    ·intro hb23
     have hF12 := ZA hF12 hb23
     refine Zc (Ze hE Za (dl rfl) rfl ?_); intro a hE
     refine Zf ?_
     have ht24 := hx7 _ (Option.some.inj hF12).symm
     subst ht24
     have hr := Option.some.inj hF3
     subst hr
     exact wp_ret (W0 (ZL (ZL (W0 (ZL (ZL (Zy hE rfl (Zu hE rfl) ⟨_, rfl, rfl, hM.kept⟩)))))))
    ·intro hb23
     have hF12 := Zz hF12 hb23
     refine wp_skip (Yk (Zx (wp_region_lit (Zd hE Za (dl rfl) rfl ?_)))); intro a hE
     refine Zh hE Za (dl rfl) rfl rfl rfl ?_; intro a hE
     refine Ze hE Za (dl rfl) rfl ?_; intro a hE
     refine Zj (Zl ?_)
     exact ⟨_, (Option.some.inj hF12).symm, hE.sub ⟨rfl, rfl, trivial⟩, hM⟩
  ·intro hb9
   have hs6 := Zz hs6 hb9
   refine wp_exit (Zr (Zr (Yj ?_)))
   have ht25 := hx7 _ (Option.some.inj hs6).symm
   subst ht25
   refine Zl ?_
   exact ⟨(), rfl, hE.sub trivial, hM⟩
 ·skip
  rintro a w ⟨s4, ht, hE, hM⟩
  subst ht
  have hF3 := el_nx hF3
  refine Zx (Zc (Ze hE Za (dl rfl) rfl ?_)); intro a hE
  refine Zf ?_
  have hr := Option.some.inj hF3
  subst hr
  exact wp_ret (Zy hE rfl (Zu hE rfl) ⟨_, rfl, rfl, hM.kept⟩)
noncomputable def F_impl_isData (p0 : (List UInt8)) : Option (Bool) :=
 some (decide ((p0.length : Int) ≤ 2000))
theorem c_impl_isData (w0 : World) (p0 : (List UInt8)) (v0_1 : Value) (hv0_1 : Ro w0 p0 [v0_1]) (r : Bool) (hF : F_impl_isData p0 = some r) :
  Calls Try.prog 117 [v0_1].toArray w0 (fun en w' => ∃ v, en = .returned v ∧ (v = (vT r) ∧ Kept (Old w0) w0 w')) := by
 refine ZC (n := 6) Try.func117 rfl rfl (Nat.le_of_ble_eq_true rfl) rfl ?_
 intro a hE
 have hM := M.start w0
 unfold F_impl_isData at hF
 refine Zc (Ze hE Za (dl rfl) rfl ?_); intro a hE
 refine Zf (Zc (Zd hE Za (dl rfl) rfl ?_)); intro a hE
 refine Z7 hE Za (dl rfl) rfl Try.underlying50 (hM.rd hv0_1) ?_; intro a hE
 refine Zh hE Za (dl rfl) rfl rfl rfl ?_; intro a hE
 refine Ze hE Za (dl rfl) rfl ?_; intro a hE
 refine Zf ?_
 have hr := Option.some.inj hF
 subst hr
 exact wp_ret (Zy hE rfl (Zu hE rfl) ⟨_, rfl, rfl, hM.kept⟩)
noncomputable def Vy (p0 : Int) (p1 : Int) (p2 : Int) : Option (Bool) :=
 (if (decide (p1 ≤ p0)) = true then (some (decide (p0 ≤ p2))) else (some false) : Option (Bool)).bind fun j1 => some j1
theorem c_impl_inRange (w0 : World) (p0 : Int) (p1 : Int) (p2 : Int) (r : Bool) (hF : Vy p0 p1 p2 = some r) :
  Calls Try.prog 67 [(vI p0), (vI p1), (vI p2)].toArray w0 (fun en w' => ∃ v, en = .returned v ∧ (v = (vT r) ∧ Kept (Old w0) w0 w')) := by
 refine ZC (n := 15) Try.func67 rfl rfl (Nat.le_of_ble_eq_true rfl) rfl ?_
 intro a hE
 have hM := M.start w0
 unfold Vy at hF
 refine Zc (Ze hE Za (dl rfl) rfl ?_); intro a hE
 refine Zf ?_
 obtain ⟨j1, hl2, hF3⟩ := bind_some hF
 refine ZS (fun a w => Env 15 a [(6, (vT j1))] ∧ M (Old w0) w0 w []) ?_ ?_
 ·skip
  refine wp_region_lit (Zd hE Za (dl rfl) rfl ?_); intro a hE
  refine Zd hE Za (dl rfl) rfl ?_; intro a hE
  refine Zh hE Za (dl rfl) rfl rfl rfl ?_; intro a hE
  refine Zd hE Za (dl rfl) rfl ?_; intro a hE
  refine WE (decide (p1 ≤ p0)) (fun hb4 => ?_) (fun hb4 => ?_)
  ·have hl2 := ZA hl2 hb4
   refine Zd hE (Zk hE rfl (lkb rfl hb4)) (by decide) rfl ?_; intro a hE
   refine Zd hE (Zk hE rfl (lkb rfl hb4)) (by decide) rfl ?_; intro a hE
   refine Zh hE (Zk hE rfl (lkb rfl hb4)) (by decide) rfl rfl rfl ?_; intro a hE
   refine Yn hE Za (dl rfl) (lkb rfl hb4) rfl ?_; intro a hE
   refine Ze hE Za (dl rfl) rfl ?_; intro a hE
   refine Zj ?_
   have ht5 := Option.some.inj hl2
   subst ht5
   refine Zl ?_
   exact ⟨hE.sub ⟨rfl, trivial⟩, hM⟩
  ·have hl2 := Zz hl2 hb4
   refine Zn hE rfl (lkb rfl hb4) rfl (by decide) ?_; intro a hE
   refine Zn hE rfl (lkb rfl hb4) rfl (by decide) ?_; intro a hE
   refine Zn hE rfl (lkb rfl hb4) rfl (by decide) ?_; intro a hE
   refine YP hE Za (dl rfl) (lkb rfl hb4) rfl ?_; intro a hE
   refine Ze hE Za (dl rfl) rfl ?_; intro a hE
   refine Zj ?_
   have ht6 := Option.some.inj hl2
   subst ht6
   refine Zl ?_
   exact ⟨hE.sub ⟨rfl, trivial⟩, hM⟩
 ·skip
  rintro a w ⟨hE, hM⟩
  have hr := Option.some.inj hF3
  subst hr
  exact wp_ret (Zy hE rfl (Zu hE rfl) ⟨_, rfl, rfl, hM.kept⟩)
noncomputable def YE (s8 : (Vector UInt8 32) × Int) : Option (Fl ((Vector UInt8 32) × Int) (Vector UInt8 32)) :=
 if (decide (s8.2 < 32)) = true then ((ZM s8.1 s8.2).bind fun x14 => some (Fl.nx ((s8.1.setIfInBounds (s8.2).toNat (ZG (wr (17 * s8.2)))), wr (s8.2 + 1)))) else (some (Fl.ex s8.1))
noncomputable def Xj : Option ((Vector UInt8 32)) :=
 (ZF (YE) ((Vector.replicate 32 (0 : UInt8)), 0) : Option ((Vector UInt8 32))).bind fun j5 => some j5
theorem c_impl_StartOfDigest (w0 : World)  (r : (Vector UInt8 32)) (hF : Xj  = some r) :
  Calls Try.prog 91 [].toArray w0 (fun en w' => ∃ v, en = .returned v ∧ (v = (Value.agg (Flat.enc r).toArray) ∧ Kept (Old w0) w0 w')) := by
 refine ZC (n := 14) Try.func91 rfl rfl (Nat.le_of_ble_eq_true rfl) rfl ?_
 intro a hE
 have hM := M.start w0
 unfold Xj at hF
 refine Zc (ZO hE hM Za (dl rfl) Yi ?_); intro b1 w a hM hE
 refine Zf (Zc (Xq (parts := []) (vs := []) (cs := Flat.enc (Vector.replicate 32 (0 : UInt8))) hE Za (dl rfl) rfl rfl Yi rfl ty5 YM ?_)); intro a hE
 refine ZO hE hM Za (dl rfl) Yi ?_; intro b3 w a hM hE
 refine Zs (seg := Flat.enc (Vector.replicate 32 (0 : UInt8))) (cs' := Flat.enc (Vector.replicate 32 (0 : UInt8))) hE hM Za rfl rfl rfl Yi (Flat.len _) (zle flq) (Flat.cell _) (Zq flq) ?_; intro w a hM hE
 refine Zf (wp_seq (Zc (Zd hE Za (dl rfl) rfl ?_))); intro a hE
 refine Zf ?_
 obtain ⟨j5, hl6, hF7⟩ := bind_some hF
 refine ZV (fun a w => Env 14 a [(0, (ptr b1 0)), (1, (ptr b3 0))] ∧ M (Old w0) w0 w [raw b3 (Flat.enc j5), raw b1 (Flat.enc (Vector.replicate 32 (0 : UInt8)))]) ?_ ?_
 ·skip
  refine wp_block ?_
  refine ZN (fun (s8 : (Vector UInt8 32) × Int) a w => Env 14 a [(0, (ptr b1 0)), (1, (ptr b3 0)), (4, (vI s8.2))] ∧ M (Old w0) w0 w [raw b3 (Flat.enc s8.1), raw b1 (Flat.enc (Vector.replicate 32 (0 : UInt8)))]) hl6 ⟨hE.sub ⟨rfl, rfl, rfl, trivial⟩, hM⟩ ?_
  rintro s8 a w ⟨hE, hM⟩ o11 hs9 hx10
  unfold YE at hs9
  refine Zc (Zh hE Za (dl rfl) rfl rfl rfl ?_); intro a hE
  refine Zf (wp_seq ?_)
  refine Zt hE rfl ?_ ?_
  ·intro hb12
   have hs9 := ZA hs9 hb12
   refine wp_skip (Zx (wp_seq (wp_block (Zc (Zd hE Za (dl rfl) rfl ?_))))); intro a hE
   refine Ze hE Za (dl rfl) rfl ?_; intro a hE
   refine Zf (wp_region_lit (Zd hE Za (dl rfl) rfl ?_)); intro a hE
   refine Zd hE Za (dl rfl) rfl ?_; intro a hE
   refine Zh hE Za (dl rfl) rfl rfl rfl ?_; intro a hE
   refine YK hE Za (dl rfl) rfl Try.underlying3 Try.underlying5 ?_; intro a hE
   rw [Yf] at hE
   obtain ⟨x14, e15, hs9⟩ := bind_some hs9
   have hi13 := Zi e15
   refine Zm hE Za (dl rfl) rfl rfl Try.underlying25 ty5 hi13.1 ?_; intro a hE
   refine Zs (seg := [(vB (ZG (wr (17 * s8.2))))]) (cs' := Flat.enc (s8.1.setIfInBounds (s8.2).toNat (ZG (wr (17 * s8.2))))) hE hM Za rfl rfl rfl ty5 rfl (ZT (v := s8.1) (x := ZG (wr (17 * s8.2))) hi13.1) (Flat.cell (ZG (wr (17 * s8.2)) : UInt8)) (ZI (v := s8.1) (x := ZG (wr (17 * s8.2))) hi13.1) ?_; intro w a hM hE
   refine Zj (Yk (Zx (wp_region_lit (Zh hE Za (dl rfl) rfl rfl rfl ?_)))); intro a hE
   refine Zd hE Za (dl rfl) rfl ?_; intro a hE
   refine Zj (Zl ?_)
   exact ⟨_, (Option.some.inj hs9).symm, hE.sub ⟨rfl, rfl, rfl, trivial⟩, hM⟩
  ·intro hb12
   have hs9 := Zz hs9 hb12
   refine wp_exit (Zr (Zr (Yj ?_)))
   have ht16 := hx10 _ (Option.some.inj hs9).symm
   subst ht16
   refine Zl ?_
   exact ⟨hE.sub ⟨rfl, rfl, trivial⟩, hM⟩
 ·skip
  rintro a w ⟨hE, hM⟩
  refine Zx (Zc (Zp (cs := Flat.enc j5) hE Za (dl rfl) rfl Yi rfl (hM.rawAt (pre := [])) (Flat.len _) ?_)); intro a hE
  have hM := hM.pull (pre := [_])
  refine Zs (seg := Flat.enc j5) (cs' := Flat.enc j5) hE hM Za rfl rfl rfl Yi (Flat.len _) (zle flq) (Flat.cell _) (Zq flq) ?_; intro w a hM hE
  refine Zf ?_
  have hr := Option.some.inj hF7
  subst hr
  have hq17 : YR Try.prog _ _ (.cell 0 25) _ := Z6 hE rfl Yi rfl (hM.rawAt (pre := [])) (Flat.len _) rfl
  have hM := M.fst (l := []) hM
  exact wp_ret (Zy hE rfl hq17 ⟨_, rfl, rfl, hM.kept⟩)
noncomputable def Yp (p1 : Int) : Option ((List UInt8)) :=
 (if (decide (p1 < 0)) = true then (none) else (some ()) : Option (Unit)).bind fun j1 => (if (decide ((wr (p1 - (wr (0 - 0)))) > 0)) = true then ((mkS 1 (0 : UInt8) (wr (p1 - (wr (0 - 0))))).bind fun l14 => (slc l14 (0 : Int) (0 : Int)).bind fun l16 => some l16) else (some ([])) : Option ((List UInt8))).bind fun j6 => some j6
theorem c_slices_Grow_byte_byte_nil (w0 : World) (p1 : Int) (r : (List UInt8)) (hF : Yp p1 = some r) :
  Calls Try.prog 113 [(Value.slice none 0 0), (vI p1)].toArray w0 (fun en w' => ∃ v, en = .returned v ∧ (∃ (y1 : Value), v = y1 ∧ Fr w0 w' [osl NoB (r : List UInt8) y1] ∧ Kept (Old w0) w0 w')) := by
 refine ZC (n := 27) Try.func113 rfl rfl (Nat.le_of_ble_eq_true rfl) rfl ?_
 intro a hE
 have hM := M.start w0
 unfold Yp at hF
 refine Zc (Ze hE Za (dl rfl) rfl ?_); intro a hE
 refine Zf ?_
 obtain ⟨j1, hl2, hF3⟩ := bind_some hF
 refine ZS (fun a w => Env 27 a [(0, (Value.slice none 0 0)), (1, (vI p1))] ∧ M (Old w0) w0 w []) ?_ ?_
 ·skip
  refine Zc (Zd hE Za (dl rfl) rfl ?_); intro a hE
  refine Zh hE Za (dl rfl) rfl rfl rfl ?_; intro a hE
  refine Zf ?_
  refine Zt hE rfl ?_ ?_
  ·intro hb4
   have hl2 := ZA hl2 hb4
   cases hl2
  ·intro hb4
   have hl2 := Zz hl2 hb4
   refine wp_skip ?_
   have ht5 := Option.some.inj hl2
   subst ht5
   refine Zl ?_
   exact ⟨hE.sub ⟨rfl, rfl, trivial⟩, hM⟩
 ·skip
  rintro a w ⟨hE, hM⟩
  obtain ⟨j6, hl7, hF8⟩ := bind_some hF3
  refine ZS (fun a w => ∃ (u9 : Value), Env 27 a [(0, u9)] ∧ M (Old w0) w0 w [osl NoB (j6 : List UInt8) u9]) ?_ ?_
  ·skip
   refine Zc (Zd hE Za (dl rfl) rfl ?_); intro a hE
   refine Zd hE Za (dl rfl) rfl ?_; intro a hE
   refine s_capNil hE Za (dl rfl) rfl Try.underlying50 ?_; intro a hE
   refine Zd hE Za (dl rfl) rfl ?_; intro a hE
   refine s_lenNil hE Za (dl rfl) rfl Try.underlying50 ?_; intro a hE
   refine Zh hE Za (dl rfl) rfl rfl rfl ?_; intro a hE
   refine Zh hE Za (dl rfl) rfl rfl rfl ?_; intro a hE
   refine Ze hE Za (dl rfl) rfl ?_; intro a hE
   refine Zf (Zc (Zd hE Za (dl rfl) rfl ?_)); intro a hE
   refine Zh hE Za (dl rfl) rfl rfl rfl ?_; intro a hE
   refine Zf ?_
   refine Zt hE rfl ?_ ?_
   ·intro hb11
    have hl7 := ZA hl7 hb11
    refine wp_region_lit (Zd hE Za (dl rfl) rfl ?_); intro a hE
    refine Zd hE Za (dl rfl) rfl ?_; intro a hE
    refine s_capNil hE Za (dl rfl) rfl Try.underlying50 ?_; intro a hE
    refine s_sliceNil hE Za (dl rfl) rfl rfl Try.underlying50 ty5 ?_; intro a hE
    refine Zd hE Za (dl rfl) rfl ?_; intro a hE
    obtain ⟨l14, e15, hl7⟩ := bind_some hl7
    refine s_appendZ hE hM Za (dl rfl) rfl rfl Try.underlying50 Try.underlying3 ty5 rfl (by decide) (by decide) (fun _ => sat_flat.2 ⟨rfl, rfl⟩) e15 ?_; intro u12 w a hM hE
    refine Zd hE Za (dl rfl) rfl ?_; intro a hE
    refine s_lenNil hE Za (dl rfl) rfl Try.underlying50 ?_; intro a hE
    obtain ⟨l16, e17, hl7⟩ := bind_some hl7
    refine s_slice hE Za (dl rfl) rfl rfl rfl rfl rfl Try.underlying50 ty5 (hM.sl (pre := []) noB) e17 ?_; intro a hE
    have hM := hM.cut noB e17
    refine Ze hE Za (dl rfl) rfl ?_; intro a hE
    refine Zj ?_
    have ht19 := Option.some.inj hl7
    subst ht19
    refine Zl ?_
    exact ⟨(Z9 u12 ((0 : Int)).toNat ((0 : Int)).toNat 1), hE.sub ⟨rfl, trivial⟩, hM⟩
   ·intro hb11
    have hl7 := Zz hl7 hb11
    refine wp_skip ?_
    have ht20 := Option.some.inj hl7
    subst ht20
    refine Zl ?_
    have hM := M.nilS (α := UInt8) NoB noB hM
    exact ⟨(Value.slice none 0 0), hE.sub ⟨rfl, trivial⟩, hM⟩
  ·skip
   rintro a w ⟨u9, hE, hM⟩
   refine Zc (Zd hE Za (dl rfl) rfl ?_); intro a hE
   refine Ze hE Za (dl rfl) rfl ?_; intro a hE
   refine Zf ?_
   have hr := Option.some.inj hF8
   subst hr
   exact wp_ret (Zy hE rfl (Zu hE rfl) ⟨_, rfl, u9, rfl, hM.outF (Vq WY), hM.kept⟩)
noncomputable def YW (p0 : (List (List UInt8))) (s4 : Int × Int) : Option (Fl (Int × Int) Int) :=
 if (decide (s4.1 < (p0.length : Int))) = true then (((idx p0 s4.1).bind fun x12 => (if (decide ((wr (s4.2 + (x12.length : Int))) < 0)) = true then (none) else (some ()) : Option (Unit)).bind fun j20 => some (wr (s4.2 + (x12.length : Int))) : Option (Int)).bind fun j9 => some (Fl.nx (wr (s4.1 + 1), j9))) else (some (Fl.ex s4.2))
noncomputable def YV (p0 : (List (List UInt8))) (s35 : Int × (List UInt8)) : Option (Fl (Int × (List UInt8)) (List UInt8)) :=
 if (decide (s35.1 < (p0.length : Int))) = true then ((idx p0 s35.1).bind fun x42 => (app 1 s35.2 x42).bind fun l50 => some (Fl.nx (wr (s35.1 + 1), (s35.2 ++ x42)))) else (some (Fl.ex s35.2))
noncomputable def Z5 (p0 : (List (List UInt8))) : Option ((List UInt8)) :=
 (ZF (YW p0) (0, 0) : Option (Int)).bind fun j1 => (Yp j1).bind fun r27 => (ZF (YV p0) (0, r27) : Option ((List UInt8))).bind fun j30 => some j30
theorem V5 (w0 : World) (p0 : (List (List UInt8))) (v0_1 : Value) (hv0_1 : Ro w0 p0 [v0_1]) (r : (List UInt8)) (hF : Z5 p0 = some r) :
  Calls Try.prog 94 [v0_1].toArray w0 (fun en w' => ∃ v, en = .returned v ∧ (∃ (y1 : Value), v = y1 ∧ Fr w0 w' [osl NoB (r : List UInt8) y1] ∧ Kept (Old w0) w0 w')) := by
 refine ZC (n := 36) Try.func94 rfl rfl (Nat.le_of_ble_eq_true rfl) rfl ?_
 intro a hE
 have hM := M.start w0
 unfold Z5 at hF
 refine Zc (Ze hE Za (dl rfl) rfl ?_); intro a hE
 refine Zf (Zc (Ze hE Za (dl rfl) rfl ?_)); intro a hE
 refine Zf (wp_seq (Zc (Zd hE Za (dl rfl) rfl ?_))); intro a hE
 refine Z7 hE Za (dl rfl) rfl Try.underlying45 (hM.rd hv0_1) ?_; intro a hE
 refine Zd hE Za (dl rfl) rfl ?_; intro a hE
 refine Zf ?_
 obtain ⟨j1, hl2, hF3⟩ := bind_some hF
 refine ZV (fun a w => Env 36 a [(0, v0_1), (3, (vI j1))] ∧ M (Old w0) w0 w []) ?_ ?_
 ·skip
  refine wp_block ?_
  refine ZN (fun (s4 : Int × Int) a w => Env 36 a [(0, v0_1), (3, (vI s4.2)), (9, v0_1), (10, (vI (p0.length : Int))), (11, (vI s4.1))] ∧ M (Old w0) w0 w []) hl2 ⟨hE.sub ⟨rfl, rfl, rfl, rfl, rfl, trivial⟩, hM⟩ ?_
  rintro s4 a w ⟨hE, hM⟩ o7 hs5 hx6
  unfold YW at hs5
  refine Zc (Zh hE Za (dl rfl) rfl rfl rfl ?_); intro a hE
  refine Zf (wp_seq ?_)
  refine Zt hE rfl ?_ ?_
  ·intro hb8
   have hs5 := ZA hs5 hb8
   refine wp_skip (Zx ?_)
   obtain ⟨j9, hl10, hF11⟩ := bind_some hs5
   refine ZS (fun a w => Env 36 a [(0, v0_1), (3, (vI j9)), (9, v0_1), (10, (vI (p0.length : Int))), (11, (vI s4.1))] ∧ M (Old w0) w0 w []) ?_ ?_
   ·skip
    refine wp_block (Zc ?_)
    obtain ⟨x12, e13, hl10⟩ := bind_some hl10
    have hi14 := ZQ e13
    refine ZK hE Za (dl rfl) rfl rfl Try.underlying45 VD (hM.rd hv0_1) hi14.1 ?_; intro a hE
    obtain ⟨cs15, hs16, hA17⟩ := Us hv0_1 hi14.2 -- ^
    obtain ⟨u18, rfl⟩ := Vp hs16 -- ^
    have h19 := hs16 -- ^
    refine Zv (v := u18) hE Za (dl rfl) rfl VD rfl (hM.atk hA17 (Uv hv0_1 hi14.2)) ?_; intro a hE
    refine Ze hE Za (dl rfl) rfl ?_; intro a hE
    refine Zf (Zc (Zd hE Za (dl rfl) rfl ?_)); intro a hE
    refine Zd hE Za (dl rfl) rfl ?_; intro a hE
    refine Z7 hE Za (dl rfl) rfl Try.underlying50 (hM.rd h19) ?_; intro a hE
    refine Zh hE Za (dl rfl) rfl rfl rfl ?_; intro a hE
    refine Ze hE Za (dl rfl) rfl ?_; intro a hE
    refine Zf (Zc (Zd hE Za (dl rfl) rfl ?_)); intro a hE
    refine Zh hE Za (dl rfl) rfl rfl rfl ?_; intro a hE
    refine Zf ?_
    obtain ⟨j20, hl21, hF22⟩ := bind_some hl10
    refine ZV (fun a w => Env 36 a [(0, v0_1), (3, (vI (wr (s4.2 + (x12.length : Int))))), (9, v0_1), (10, (vI (p0.length : Int))), (11, (vI s4.1))] ∧ M (Old w0) w0 w []) ?_ ?_
    ·skip
     refine Zt hE rfl ?_ ?_
     ·intro hb23
      have hl21 := ZA hl21 hb23
      cases hl21
     ·intro hb23
      have hl21 := Zz hl21 hb23
      refine wp_skip ?_
      have ht24 := Option.some.inj hl21
      subst ht24
      refine Zl ?_
      exact ⟨hE.sub ⟨rfl, rfl, rfl, rfl, rfl, trivial⟩, hM⟩
    ·skip
     rintro a w ⟨hE, hM⟩
     refine Yk ?_
     have ht25 := Option.some.inj hF22
     subst ht25
     refine Zl ?_
     exact ⟨hE.sub ⟨rfl, rfl, rfl, rfl, rfl, trivial⟩, hM⟩
   ·skip
    rintro a w ⟨hE, hM⟩
    refine wp_region_lit (Zh hE Za (dl rfl) rfl rfl rfl ?_); intro a hE
    refine Zd hE Za (dl rfl) rfl ?_; intro a hE
    refine Zj (Zl ?_)
    exact ⟨_, (Option.some.inj hF11).symm, hE.sub ⟨rfl, rfl, rfl, rfl, rfl, trivial⟩, hM⟩
  ·intro hb8
   have hs5 := Zz hs5 hb8
   refine wp_exit (Zr (Zr (Yj ?_)))
   have ht26 := hx6 _ (Option.some.inj hs5).symm
   subst ht26
   refine Zl ?_
   exact ⟨hE.sub ⟨rfl, rfl, trivial⟩, hM⟩
 ·skip
  rintro a w ⟨hE, hM⟩
  refine Zx (Zc (Zd hE Za (dl rfl) rfl ?_)); intro a hE
  obtain ⟨r27, e28, hF3⟩ := bind_some hF3
  refine Zw (vs := [(Value.slice none 0 0), (vI j1)]) hE Za (dl rfl) rfl cb113 (c_slices_Grow_byte_byte_nil _ j1 r27 e28) ?_
  rintro u29 w a ⟨_, rfl, hFr, hK⟩ hE
  have hM := hM.add hK hFr
  refine Ze hE Za (dl rfl) rfl ?_; intro a hE
  refine Zf (wp_seq (Zc (Zd hE Za (dl rfl) rfl ?_))); intro a hE
  refine Z7 hE Za (dl rfl) rfl Try.underlying45 (hM.rd hv0_1) ?_; intro a hE
  refine Zd hE Za (dl rfl) rfl ?_; intro a hE
  refine Zf ?_
  obtain ⟨j30, hl31, hF32⟩ := bind_some hF3
  refine ZV (fun a w => ∃ (u33 : Value), Env 36 a [(6, u33)] ∧ M (Old w0) w0 w [osl NoB (j30 : List UInt8) u33]) ?_ ?_
  ·skip
   refine wp_block ?_
   refine ZN (fun (s35 : Int × (List UInt8)) a w => ∃ (u36 : Value), Env 36 a [(6, u36), (25, v0_1), (26, (vI (p0.length : Int))), (27, (vI s35.1))] ∧ M (Old w0) w0 w [osl NoB (s35.2 : List UInt8) u36]) hl31 ⟨u29, hE.sub ⟨rfl, rfl, rfl, rfl, trivial⟩, hM⟩ ?_
   rintro s35 a w ⟨u36, hE, hM⟩ o40 hs38 hx39
   unfold YV at hs38
   refine Zc (Zh hE Za (dl rfl) rfl rfl rfl ?_); intro a hE
   refine Zf (wp_seq ?_)
   refine Zt hE rfl ?_ ?_
   ·intro hb41
    have hs38 := ZA hs38 hb41
    refine wp_skip (Zx (wp_seq (wp_block (Zc ?_))))
    obtain ⟨x42, e43, hs38⟩ := bind_some hs38
    have hi44 := ZQ e43
    refine ZK hE Za (dl rfl) rfl rfl Try.underlying45 VD (hM.rd hv0_1) hi44.1 ?_; intro a hE
    obtain ⟨cs45, hs46, hA47⟩ := Us hv0_1 hi44.2 -- ^
    obtain ⟨u48, rfl⟩ := Vp hs46 -- ^
    have h49 := hs46 -- ^
    refine Zv (v := u48) hE Za (dl rfl) rfl VD rfl (hM.atk hA47 (Uv hv0_1 hi44.2)) ?_; intro a hE
    refine Ze hE Za (dl rfl) rfl ?_; intro a hE
    refine Zf (wp_region_lit (Zd hE Za (dl rfl) rfl ?_)); intro a hE
    refine Zd hE Za (dl rfl) rfl ?_; intro a hE
    obtain ⟨l50, e51, hs38⟩ := bind_some hs38
    obtain ⟨e54, rfl⟩ := Wq e51
    refine XA hE hM Za (dl rfl) rfl rfl (hM.rd h49) Try.underlying50 ty5 rfl (by decide) e54 ?_; intro u52 w a hM hE
    refine Ze hE Za (dl rfl) rfl ?_; intro a hE
    refine Zj (Yk (Zx (wp_region_lit (Zh hE Za (dl rfl) rfl rfl rfl ?_)))); intro a hE
    refine Zd hE Za (dl rfl) rfl ?_; intro a hE
    refine Zj (Zl ?_)
    exact ⟨_, (Option.some.inj hs38).symm, u52, hE.sub ⟨rfl, rfl, rfl, rfl, trivial⟩, hM⟩
   ·intro hb41
    have hs38 := Zz hs38 hb41
    refine wp_exit (Zr (Zr (Yj ?_)))
    have ht55 := hx39 _ (Option.some.inj hs38).symm
    subst ht55
    refine Zl ?_
    exact ⟨u36, hE.sub ⟨rfl, trivial⟩, hM⟩
  ·skip
   rintro a w ⟨u33, hE, hM⟩
   refine Zx (Zc (Zd hE Za (dl rfl) rfl ?_)); intro a hE
   refine Ze hE Za (dl rfl) rfl ?_; intro a hE
   refine Zf ?_
   have hr := Option.some.inj hF32
   subst hr
   exact wp_ret (Zy hE rfl (Zu hE rfl) ⟨_, rfl, u33, rfl, hM.outF (Vq WY), hM.kept⟩)
noncomputable def Yo (p0 : (List UInt8)) : Option ((List UInt8)) :=
 (app 1 ([] : List UInt8) p0).bind fun l7 => some (([] : List UInt8) ++ p0)
theorem Ue (w0 : World) (p0 : (List UInt8)) (v0_1 : Value) (hv0_1 : Ro w0 p0 [v0_1]) (r : (List UInt8)) (hF : Yo p0 = some r) :
  Calls Try.prog 55 [v0_1].toArray w0 (fun en w' => ∃ v, en = .returned v ∧ (∃ (y1 : Value), v = y1 ∧ Fr w0 w' [osl NoB (r : List UInt8) y1] ∧ Kept (Old w0) w0 w')) := by
 refine ZC (n := 8) Try.func55 rfl rfl (Nat.le_of_ble_eq_true rfl) rfl ?_
 intro a hE
 have hM := M.start w0
 unfold Yo at hF
 refine Zc (Ze hE Za (dl rfl) rfl ?_); intro a hE
 refine Zf (wp_seq (Zc (Zd hE Za (dl rfl) rfl ?_))); intro a hE
 refine s_eqNil hE Za (dl rfl) rfl rfl Try.underlying50 (hM.rd hv0_1) ?_; intro bn1 a hn2 hE
 refine Zf ?_
 refine Zt hE rfl ?_ ?_
 ·intro hb3
  have h0 := hn2 hb3
  have hF : some ([]) = some r := by rw [h0] at hF; simpa [app] using hF
  refine Zc (Ze hE Za (dl rfl) rfl ?_); intro a hE
  refine Zf ?_
  have hM := M.nilS (α := UInt8) NoB noB hM
  have hr := Option.some.inj hF
  subst hr
  exact wp_ret (ZL (Zy hE rfl (Zu hE rfl) ⟨_, rfl, (Value.slice none 0 0), rfl, hM.outF (Vq WY), hM.kept⟩))
 ·intro hb3
  refine wp_skip (Zx (Zc (Y7 (xs := []) (l := ([] : List UInt8)) (vs := []) hE hM Za (dl rfl) rfl rfl Try.underlying50 ty5 rfl (by decide) rfl ?_))); intro u5 w a hM hE
  refine Zd hE Za (dl rfl) rfl ?_; intro a hE
  obtain ⟨l7, e8, hF⟩ := bind_some hF
  obtain ⟨e11, rfl⟩ := Wq e8
  refine XA hE hM Za (dl rfl) rfl rfl (hM.rd hv0_1) Try.underlying50 ty5 rfl (by decide) e11 ?_; intro u9 w a hM hE
  refine Ze hE Za (dl rfl) rfl ?_; intro a hE
  refine Zf ?_
  have hr := Option.some.inj hF
  subst hr
  exact wp_ret (Zy hE rfl (Zu hE rfl) ⟨_, rfl, u9, rfl, hM.outF (Vq WY), hM.kept⟩)
noncomputable def Ws (p0 : Int) (s8 : (List UInt8) × Int) : Option (Fl ((List UInt8) × Int) (List UInt8)) :=
 if (decide (s8.2 ≥ 0)) = true then ((Xk (wr (8 * s8.2))).bind fun _ => (app 1 s8.1 ([ZG (V9 p0 (wr (8 * s8.2)))] : List UInt8)).bind fun l18 => some (Fl.nx ((s8.1 ++ ([ZG (V9 p0 (wr (8 * s8.2)))] : List UInt8)), wr (s8.2 - 1)))) else (some (Fl.ex s8.1))
noncomputable def XR (p0 : Int) (p1 : Int) : Option ((List UInt8)) :=
 (ZF (Ws p0) (([] : List UInt8), wr (p1 - 1)) : Option ((List UInt8))).bind fun j3 => some j3
theorem c_impl_bigEndian (w0 : World) (p0 : Int) (p1 : Int) (r : (List UInt8)) (hF : XR p0 p1 = some r) :
  Calls Try.prog 71 [(vI p0), (vI p1)].toArray w0 (fun en w' => ∃ v, en = .returned v ∧ (∃ (y1 : Value), v = y1 ∧ Fr w0 w' [osl NoB (r : List UInt8) y1] ∧ Kept (Old w0) w0 w')) := by
 refine ZC (n := 23) Try.func71 rfl rfl (Nat.le_of_ble_eq_true rfl) rfl ?_
 intro a hE
 have hM := M.start w0
 unfold XR at hF
 refine Zc (Ze hE Za (dl rfl) rfl ?_); intro a hE
 refine Zf (Zc (Y7 (xs := []) (l := ([] : List UInt8)) (vs := []) hE hM Za (dl rfl) rfl rfl Try.underlying50 ty5 rfl (by decide) rfl ?_)); intro u1 w a hM hE
 refine Ze hE Za (dl rfl) rfl ?_; intro a hE
 refine Zf (wp_seq (Zc (Zd hE Za (dl rfl) rfl ?_))); intro a hE
 refine Zh hE Za (dl rfl) rfl rfl rfl ?_; intro a hE
 refine Ze hE Za (dl rfl) rfl ?_; intro a hE
 refine Zf ?_
 obtain ⟨j3, hl4, hF5⟩ := bind_some hF
 refine ZV (fun a w => ∃ (u6 : Value), Env 23 a [(5, u6)] ∧ M (Old w0) w0 w [osl NoB (j3 : List UInt8) u6]) ?_ ?_
 ·skip
  refine wp_block ?_
  refine ZN (fun (s8 : (List UInt8) × Int) a w => ∃ (u9 : Value), Env 23 a [(0, (vI p0)), (5, u9), (6, (vI s8.2))] ∧ M (Old w0) w0 w [osl NoB (s8.1 : List UInt8) u9]) hl4 ⟨u1, hE.sub ⟨rfl, rfl, rfl, trivial⟩, hM⟩ ?_
  rintro s8 a w ⟨u9, hE, hM⟩ o13 hs11 hx12
  unfold Ws at hs11
  refine wp_seq (Zc (Zd hE Za (dl rfl) rfl ?_)); intro a hE
  refine Zh hE Za (dl rfl) rfl rfl rfl ?_; intro a hE
  refine Zf ?_
  refine Zt hE rfl ?_ ?_
  ·intro hb14
   have hs11 := ZA hs11 hb14
   refine wp_skip (Zx (wp_seq (wp_block (wp_region_lit (Zd hE Za (dl rfl) rfl ?_))))); intro a hE
   refine Zd hE Za (dl rfl) rfl ?_; intro a hE
   refine Zd hE Za (dl rfl) rfl ?_; intro a hE
   refine Zh hE Za (dl rfl) rfl rfl rfl ?_; intro a hE
   obtain ⟨_, e15, hs11⟩ := bind_some hs11
   have e15 := Wk e15
   refine s_sh hE Za (dl rfl) rfl rfl (bI_shr _ _ e15) ?_; intro a hE
   refine YK hE Za (dl rfl) rfl Try.underlying2 Try.underlying5 ?_; intro a hE
   rw [Yf] at hE
   refine Y7 (xs := [.tmp 19]) (l := ([ZG (V9 p0 (wr (8 * s8.2)))] : List UInt8)) (vs := [(vB (ZG (V9 p0 (wr (8 * s8.2)))))]) hE hM Za (dl rfl) rfl rfl Try.underlying50 ty5 rfl (by decide) rfl ?_; intro u16 w a hM hE
   obtain ⟨l18, e19, hs11⟩ := bind_some hs11
   obtain ⟨e22, rfl⟩ := Wq e19
   have hM := hM.pull (pre := [_])
   refine XA hE hM Za (dl rfl) rfl rfl (hM.sl (pre := [_]) noB) Try.underlying50 ty5 rfl (by decide) e22 ?_; intro u20 w a hM hE
   refine Ze hE Za (dl rfl) rfl ?_; intro a hE
   refine Zj (Yk (Zx (wp_region_lit (Zd hE Za (dl rfl) rfl ?_)))); intro a hE
   refine Zh hE Za (dl rfl) rfl rfl rfl ?_; intro a hE
   refine Ze hE Za (dl rfl) rfl ?_; intro a hE
   refine Zj (Zl ?_)
   have hM := M.fst (l := [_]) hM
   exact ⟨_, (Option.some.inj hs11).symm, u20, hE.sub ⟨rfl, rfl, rfl, trivial⟩, hM⟩
  ·intro hb14
   have hs11 := Zz hs11 hb14
   refine wp_exit (Zr (Zr (Yj ?_)))
   have ht23 := hx12 _ (Option.some.inj hs11).symm
   subst ht23
   refine Zl ?_
   exact ⟨u9, hE.sub ⟨rfl, trivial⟩, hM⟩
 ·skip
  rintro a w ⟨u6, hE, hM⟩
  refine Zx (Zc (Zd hE Za (dl rfl) rfl ?_)); intro a hE
  refine Ze hE Za (dl rfl) rfl ?_; intro a hE
  refine Zf ?_
  have hr := Option.some.inj hF5
  subst hr
  exact wp_ret (Zy hE rfl (Zu hE rfl) ⟨_, rfl, u6, rfl, hM.outF (Vq WY), hM.kept⟩)
noncomputable def W3 (s16 : (List UInt8)) : Option (Fl (List UInt8) (List UInt8)) :=
 if ((Int.tmod (s16.length : Int) 16) != 8) = true then ((app 1 s16 ([0] : List UInt8)).bind fun l25 => some (Fl.nx (s16 ++ ([0] : List UInt8)))) else (some (Fl.ex s16))
noncomputable def Wl (p0 : (List UInt8)) : Option ((List UInt8)) :=
 (Yo p0).bind fun r1 => (app 1 r1 ([128] : List UInt8)).bind fun l6 => (ZF (W3) (r1 ++ ([128] : List UInt8)) : Option ((List UInt8))).bind fun j11 => (XR (p0.length : Int) 8).bind fun r31 => (app 1 j11 r31).bind fun l34 => some (j11 ++ r31)
theorem c_impl_padMessage (w0 : World) (p0 : (List UInt8)) (v0_1 : Value) (hv0_1 : Ro w0 p0 [v0_1]) (r : (List UInt8)) (hF : Wl p0 = some r) :
  Calls Try.prog 93 [v0_1].toArray w0 (fun en w' => ∃ v, en = .returned v ∧ (∃ (y1 : Value), v = y1 ∧ Fr w0 w' [osl NoB (r : List UInt8) y1] ∧ Kept (Old w0) w0 w')) := by
 refine ZC (n := 20) Try.func93 rfl rfl (Nat.le_of_ble_eq_true rfl) rfl ?_
 intro a hE
 have hM := M.start w0
 unfold Wl at hF
 refine Zc (Ze hE Za (dl rfl) rfl ?_); intro a hE
 refine Zf (Zc (Zd hE Za (dl rfl) rfl ?_)); intro a hE
 obtain ⟨r1, e2, hF⟩ := bind_some hF
 refine Zw (vs := [v0_1]) hE Za (dl rfl) rfl cb55 (Ue _ p0 v0_1 (hM.rdo hv0_1) r1 e2) ?_
 rintro u3 w a ⟨_, rfl, hFr, hK⟩ hE
 have hM := hM.add hK hFr
 refine Y7 (xs := [.const (vB 128)]) (l := ([128] : List UInt8)) (vs := [(vB 128)]) hE hM Za (dl rfl) rfl rfl Try.underlying50 ty5 rfl (by decide) rfl ?_; intro u4 w a hM hE
 obtain ⟨l6, e7, hF⟩ := bind_some hF
 obtain ⟨e10, rfl⟩ := Wq e7
 have hM := hM.pull (pre := [_])
 refine XA hE hM Za (dl rfl) rfl rfl (hM.sl (pre := [_]) noB) Try.underlying50 ty5 rfl (by decide) e10 ?_; intro u8 w a hM hE
 refine Ze hE Za (dl rfl) rfl ?_; intro a hE
 refine Zf ?_
 obtain ⟨j11, hl12, hF13⟩ := bind_some hF
 refine ZS (fun a w => ∃ (u14 : Value), Env 20 a [(0, v0_1), (3, u14)] ∧ M (Old w0) w0 w [osl NoB (j11 : List UInt8) u14]) ?_ ?_
 ·skip
  refine wp_block ?_
  have hM := M.fst (l := [_]) hM
  refine ZN (fun (s16 : (List UInt8)) a w => ∃ (u17 : Value), Env 20 a [(0, v0_1), (3, u17)] ∧ M (Old w0) w0 w [osl NoB (s16 : List UInt8) u17]) hl12 ⟨u8, hE.sub ⟨rfl, rfl, trivial⟩, hM⟩ ?_
  rintro s16 a w ⟨u17, hE, hM⟩ o21 hs19 hx20
  unfold W3 at hs19
  refine wp_seq (Zc (Zd hE Za (dl rfl) rfl ?_)); intro a hE
  refine Z7 hE Za (dl rfl) rfl Try.underlying50 (hM.sl (pre := []) noB) ?_; intro a hE
  refine Zh hE Za (dl rfl) rfl rfl (bI_rem _ _ (by decide)) ?_; intro a hE
  refine Zh hE Za (dl rfl) rfl rfl rfl ?_; intro a hE
  refine Zf ?_
  refine Zt hE rfl ?_ ?_
  ·intro hb22
   have hs19 := ZA hs19 hb22
   refine wp_skip (Zx (wp_block (wp_region_lit (Zd hE Za (dl rfl) rfl ?_)))); intro a hE
   refine Y7 (xs := [.const (vB 0)]) (l := ([0] : List UInt8)) (vs := [(vB 0)]) hE hM Za (dl rfl) rfl rfl Try.underlying50 ty5 rfl (by decide) rfl ?_; intro u23 w a hM hE
   obtain ⟨l25, e26, hs19⟩ := bind_some hs19
   obtain ⟨e29, rfl⟩ := Wq e26
   have hM := hM.pull (pre := [_])
   refine XA hE hM Za (dl rfl) rfl rfl (hM.sl (pre := [_]) noB) Try.underlying50 ty5 rfl (by decide) e29 ?_; intro u27 w a hM hE
   refine Ze hE Za (dl rfl) rfl ?_; intro a hE
   refine Zj (Yk (Zl ?_))
   have hM := M.fst (l := [_]) hM
   exact ⟨_, (Option.some.inj hs19).symm, u27, hE.sub ⟨rfl, rfl, trivial⟩, hM⟩
  ·intro hb22
   have hs19 := Zz hs19 hb22
   refine wp_exit (Zr (Zr (Yj ?_)))
   have ht30 := hx20 _ (Option.some.inj hs19).symm
   subst ht30
   refine Zl ?_
   exact ⟨u17, hE.sub ⟨rfl, rfl, trivial⟩, hM⟩
 ·skip
  rintro a w ⟨u14, hE, hM⟩
  refine Zc (Zd hE Za (dl rfl) rfl ?_); intro a hE
  refine Zd hE Za (dl rfl) rfl ?_; intro a hE
  refine Z7 hE Za (dl rfl) rfl Try.underlying50 (hM.rd hv0_1) ?_; intro a hE
  obtain ⟨r31, e32, hF13⟩ := bind_some hF13
  refine Zw (vs := [(vI (p0.length : Int)), (vI 8)]) hE Za (dl rfl) rfl cb71 (c_impl_bigEndian _ (p0.length : Int) 8 r31 e32) ?_
  rintro u33 w a ⟨_, rfl, hFr, hK⟩ hE
  have hM := hM.add hK hFr
  obtain ⟨l34, e35, hF13⟩ := bind_some hF13
  obtain ⟨e38, rfl⟩ := Wq e35
  have hM := hM.pull (pre := [_])
  refine XA hE hM Za (dl rfl) rfl rfl (hM.sl (pre := [_]) noB) Try.underlying50 ty5 rfl (by decide) e38 ?_; intro u36 w a hM hE
  refine Ze hE Za (dl rfl) rfl ?_; intro a hE
  refine Zf ?_
  have hr := Option.some.inj hF13
  subst hr
  have hM := M.fst (l := [_]) hM
  exact wp_ret (Zy hE rfl (Zu hE rfl) ⟨_, rfl, u36, rfl, hM.outF (Vq WY), hM.kept⟩)
noncomputable def XN (p0 : (List UInt8)) (s8 : (List (Vector UInt8 16)) × Int) : Option (Fl ((List (Vector UInt8 16)) × Int) (List (Vector UInt8 16))) :=
 if (decide (s8.2 < (p0.length : Int))) = true then ((slc p0 s8.2 (wr (s8.2 + 16))).bind fun l15 => (toArr 16 l15).bind fun x18 => (app 16 s8.1 ([x18] : List (Vector UInt8 16))).bind fun l22 => some (Fl.nx ((s8.1 ++ ([x18] : List (Vector UInt8 16))), wr (s8.2 + 16)))) else (some (Fl.ex s8.1))
noncomputable def Ve (p0 : (List UInt8)) : Option ((List (Vector UInt8 16))) :=
 (ZF (XN p0) (([] : List (Vector UInt8 16)), 0) : Option ((List (Vector UInt8 16)))).bind fun j3 => some j3
theorem c_impl_blocksOf (w0 : World) (p0 : (List UInt8)) (v0_1 : Value) (hv0_1 : Ro w0 p0 [v0_1]) (r : (List (Vector UInt8 16))) (hF : Ve p0 = some r) :
  Calls Try.prog 92 [v0_1].toArray w0 (fun en w' => ∃ v, en = .returned v ∧ (∃ (y1 : Value), v = y1 ∧ Fr w0 w' [osl NoB (r : List (Vector UInt8 16)) y1] ∧ Kept (Old w0) w0 w')) := by
 refine ZC (n := 23) Try.func92 rfl rfl (Nat.le_of_ble_eq_true rfl) rfl ?_
 intro a hE
 have hM := M.start w0
 unfold Ve at hF
 refine Zc (Ze hE Za (dl rfl) rfl ?_); intro a hE
 refine Zf (Zc (Y7 (xs := []) (l := ([] : List (Vector UInt8 16))) (vs := []) hE hM Za (dl rfl) rfl rfl Try.underlying34 ZP rfl (by decide) rfl ?_)); intro u1 w a hM hE
 refine Ze hE Za (dl rfl) rfl ?_; intro a hE
 refine Zf (wp_seq (Zc (Ze hE Za (dl rfl) rfl ?_))); intro a hE
 refine Zf ?_
 obtain ⟨j3, hl4, hF5⟩ := bind_some hF
 refine ZV (fun a w => ∃ (u6 : Value), Env 23 a [(3, u6)] ∧ M (Old w0) w0 w [osl NoB (j3 : List (Vector UInt8 16)) u6]) ?_ ?_
 ·skip
  refine wp_block ?_
  refine ZN (fun (s8 : (List (Vector UInt8 16)) × Int) a w => ∃ (u9 : Value), Env 23 a [(0, v0_1), (3, u9), (4, (vI s8.2))] ∧ M (Old w0) w0 w [osl NoB (s8.1 : List (Vector UInt8 16)) u9]) hl4 ⟨u1, hE.sub ⟨rfl, rfl, rfl, trivial⟩, hM⟩ ?_
  rintro s8 a w ⟨u9, hE, hM⟩ o13 hs11 hx12
  unfold XN at hs11
  refine wp_seq (Zc (Zd hE Za (dl rfl) rfl ?_)); intro a hE
  refine Zd hE Za (dl rfl) rfl ?_; intro a hE
  refine Z7 hE Za (dl rfl) rfl Try.underlying50 (hM.rd hv0_1) ?_; intro a hE
  refine Zh hE Za (dl rfl) rfl rfl rfl ?_; intro a hE
  refine Zf ?_
  refine Zt hE rfl ?_ ?_
  ·intro hb14
   have hs11 := ZA hs11 hb14
   refine wp_skip (Zx (wp_seq (wp_block (wp_region_lit (Zd hE Za (dl rfl) rfl ?_))))); intro a hE
   refine Zd hE Za (dl rfl) rfl ?_; intro a hE
   refine Zd hE Za (dl rfl) rfl ?_; intro a hE
   refine Zd hE Za (dl rfl) rfl ?_; intro a hE
   refine Zh hE Za (dl rfl) rfl rfl rfl ?_; intro a hE
   obtain ⟨l15, e16, hs11⟩ := bind_some hs11
   refine s_slice hE Za (dl rfl) rfl rfl rfl rfl rfl Try.underlying50 ty5 (hM.rd hv0_1) e16 ?_; intro a hE
   have h17 : Rep.sat (Old w0) w0 l15 [(Z9 v0_1 (s8.2).toNat ((wr (s8.2 + 16))).toNat 1)] [] := VL hv0_1 e16 -- ^
   obtain ⟨x18, e19, hs11⟩ := bind_some hs11
   refine s_toArr hE Za (dl rfl) rfl Try.underlying39 (hM.rd h17) (toArr_some e19).1 (by decide) ?_; intro a hE
   refine Zp (cs := Flat.enc x18) hE Za (dl rfl) rfl ZP rfl (sl_arr (hM.rd h17) e19 (by decide)) (Flat.len _) ?_; intro a hE
   refine Y7 (xs := [.tmp 19]) (l := ([x18] : List (Vector UInt8 16))) (vs := [(Value.agg (Flat.enc x18).toArray)]) hE hM Za (dl rfl) rfl rfl Try.underlying34 ZP rfl (by decide) rfl ?_; intro u20 w a hM hE
   obtain ⟨l22, e23, hs11⟩ := bind_some hs11
   obtain ⟨e26, rfl⟩ := Wq e23
   have hM := hM.pull (pre := [_])
   refine XA hE hM Za (dl rfl) rfl rfl (hM.sl (pre := [_]) noB) Try.underlying34 ZP rfl (by decide) e26 ?_; intro u24 w a hM hE
   refine Ze hE Za (dl rfl) rfl ?_; intro a hE
   refine Zj (Yk (Zx (wp_region_lit (Zd hE Za (dl rfl) rfl ?_)))); intro a hE
   refine Zh hE Za (dl rfl) rfl rfl rfl ?_; intro a hE
   refine Ze hE Za (dl rfl) rfl ?_; intro a hE
   refine Zj (Zl ?_)
   have hM := M.fst (l := [_]) hM
   exact ⟨_, (Option.some.inj hs11).symm, u24, hE.sub ⟨rfl, rfl, rfl, trivial⟩, hM⟩
  ·intro hb14
   have hs11 := Zz hs11 hb14
   refine wp_exit (Zr (Zr (Yj ?_)))
   have ht27 := hx12 _ (Option.some.inj hs11).symm
   subst ht27
   refine Zl ?_
   exact ⟨u9, hE.sub ⟨rfl, trivial⟩, hM⟩
 ·skip
  rintro a w ⟨u6, hE, hM⟩
  refine Zx (Zc (Zd hE Za (dl rfl) rfl ?_)); intro a hE
  refine Ze hE Za (dl rfl) rfl ?_; intro a hE
  refine Zf ?_
  have hr := Option.some.inj hF5
  subst hr
  exact wp_ret (Zy hE rfl (Zu hE rfl) ⟨_, rfl, u6, rfl, hM.outF (Vq WY), hM.kept⟩)
noncomputable def Xx (p1 : (Vector UInt8 16)) (s10 : (Vector UInt8 16) × Int) : Option (Fl ((Vector UInt8 16) × Int) (Vector UInt8 16)) :=
 if (decide (s10.2 < 16)) = true then ((ZM s10.1 s10.2).bind fun x17 => (ZM p1 s10.2).bind fun x20 => (ZM s10.1 s10.2).bind fun x23 => some (Fl.nx ((s10.1.setIfInBounds (s10.2).toNat (x17 ^^^ x20)), wr (s10.2 + 1)))) else (some (Fl.ex s10.1))
noncomputable def Yl (p0 : (Vector UInt8 16)) (p1 : (Vector UInt8 16)) : Option ((Vector UInt8 16)) :=
 (ZF (Xx p1) (p0, 0) : Option ((Vector UInt8 16))).bind fun j7 => some j7
theorem XS (w0 : World) (p0 : (Vector UInt8 16)) (p1 : (Vector UInt8 16)) (r : (Vector UInt8 16)) (hF : Yl p0 p1 = some r) :
  Calls Try.prog 114 [(Value.agg (Flat.enc p0).toArray), (Value.agg (Flat.enc p1).toArray)].toArray w0 (fun en w' => ∃ v, en = .returned v ∧ (v = (Value.agg (Flat.enc r).toArray) ∧ Kept (Old w0) w0 w')) := by
 refine ZC (n := 19) Try.func114 rfl rfl (Nat.le_of_ble_eq_true rfl) rfl ?_
 intro a hE
 have hM := M.start w0
 unfold Yl at hF
 refine Zc (Z4 (cs := Flat.enc p0) hE hM Za (dl rfl) rfl rfl ?_); intro b1 w a hM hE
 refine Z4 (cs := Flat.enc p1) hE hM Za (dl rfl) rfl rfl ?_; intro b3 w a hM hE
 refine ZO hE hM Za (dl rfl) ZP ?_; intro b5 w a hM hE
 refine Zf (wp_seq (Zc (Zd hE Za (dl rfl) rfl ?_))); intro a hE
 refine Zf ?_
 obtain ⟨j7, hl8, hF9⟩ := bind_some hF
 refine ZV (fun a w => Env 19 a [(2, (ptr b1 0)), (4, (ptr b5 0))] ∧ M (Old w0) w0 w [raw b5 (Flat.enc (Vector.replicate 16 (0 : UInt8))), raw b1 (Flat.enc j7)]) ?_ ?_
 ·skip
  refine wp_block ?_
  refine ZN (fun (s10 : (Vector UInt8 16) × Int) a w => Env 19 a [(2, (ptr b1 0)), (3, (ptr b3 0)), (4, (ptr b5 0)), (6, (vI s10.2))] ∧ M (Old w0) w0 w [raw b5 (Flat.enc (Vector.replicate 16 (0 : UInt8))), raw b3 (Flat.enc p1), raw b1 (Flat.enc s10.1)]) hl8 ⟨hE.sub ⟨rfl, rfl, rfl, rfl, trivial⟩, hM⟩ ?_
  rintro s10 a w ⟨hE, hM⟩ o13 hs11 hx12
  unfold Xx at hs11
  refine Zc (Zh hE Za (dl rfl) rfl rfl rfl ?_); intro a hE
  refine Zf (wp_seq ?_)
  refine Zt hE rfl ?_ ?_
  ·intro hb14
   have hs11 := ZA hs11 hb14
   refine wp_skip (Zx (wp_seq (wp_block (Zc (Zd hE Za (dl rfl) rfl ?_))))); intro a hE
   refine Ze hE Za (dl rfl) rfl ?_; intro a hE
   refine Zf ?_
   obtain ⟨x17, e18, hs11⟩ := bind_some hs11
   have hi16 := Zi e18
   obtain ⟨x20, e21, hs11⟩ := bind_some hs11
   have hi19 := Zi e21
   obtain ⟨x23, e24, hs11⟩ := bind_some hs11
   have hi22 := Zi e24
   refine Yd (n := 19) (hd := [_, _, _, _, _, _, _, _]) (tl := [_]) YB rfl rfl [9, 10, 11, 12, 13, 14, 15, 16] (by decide) (fun w => M (Old w0) w0 w [raw b5 (Flat.enc (Vector.replicate 16 (0 : UInt8))), raw b3 (Flat.enc p1), raw b1 (Flat.enc s10.1)]) (fun j => ([fun v _ => v = (vI s10.2), fun v _ => v = (ptr b1 (0 + (s10.2).toNat * 1)), fun v _ => v = (vB x17), fun v _ => v = (vI s10.2), fun v _ => v = (ptr b3 (0 + (s10.2).toNat * 1)), fun v _ => v = (vB x20), fun v _ => v = (vB (x17 ^^^ x20)), fun v _ => v = (ptr b1 (0 + (s10.2).toNat * 1))] : List (Value → World → Prop)).getD j (fun _ _ => True)) (fun _ _ h hk => h.keep hk) (gup (Zg (Zg (Zg (Zg (Zg (Zg (Zg (Zg Wu))))))))) hE hM.drew (ZH (Zb ?_ (Zb ?_ (Zb ?_ (Zb ?_ (Zb ?_ (Zb ?_ (Zb ?_ (Zb ?_ ZD))))))))) ?_
   ·exact fun a w ux15 hE hM hp => Zd hE Za (dl rfl) rfl fun a hE => ⟨Kept.refl _ _, _, _, rfl, hE, rfl⟩
   ·intro a w ux15 hE hM hp
    have f0 : ux15 0 = (vI s10.2) := hp 0 _ rfl rfl
    exact Zm hE Za (dl rfl) rfl (lk rfl f0) Try.underlying39 ty5 hi16.1 fun a hE => ⟨Kept.refl _ _, _, _, rfl, hE, rfl⟩
   ·intro a w ux15 hE hM hp
    have f1 : ux15 1 = (ptr b1 (0 + (s10.2).toNat * 1)) := hp 0 _ rfl rfl
    exact Zv (v := (vB x17)) hE Za (dl rfl) (lk rfl f1) ty5 rfl (At.vec (hM.rawAt (pre := [_, _])) hi16.2) fun a hE => ⟨Kept.refl _ _, _, _, rfl, hE, rfl⟩
   ·exact fun a w ux15 hE hM hp => Zd hE Za (dl rfl) rfl fun a hE => ⟨Kept.refl _ _, _, _, rfl, hE, rfl⟩
   ·intro a w ux15 hE hM hp
    have f3 : ux15 3 = (vI s10.2) := hp 0 _ rfl rfl
    exact Zm hE Za (dl rfl) rfl (lk rfl f3) Try.underlying39 ty5 hi19.1 fun a hE => ⟨Kept.refl _ _, _, _, rfl, hE, rfl⟩
   ·intro a w ux15 hE hM hp
    have f4 : ux15 4 = (ptr b3 (0 + (s10.2).toNat * 1)) := hp 0 _ rfl rfl
    exact Zv (v := (vB x20)) hE Za (dl rfl) (lk rfl f4) ty5 rfl (At.vec (hM.rawAt (pre := [_])) hi19.2) fun a hE => ⟨Kept.refl _ _, _, _, rfl, hE, rfl⟩
   ·intro a w ux15 hE hM hp
    have f2 : ux15 2 = (vB x17) := hp 0 _ rfl rfl
    have f5 : ux15 5 = (vB x20) := hp 1 _ rfl rfl
    exact Zh hE Za (dl rfl) (lk rfl f2) (lk rfl f5) (Vo x17 x20) fun a hE => ⟨Kept.refl _ _, _, _, rfl, hE, rfl⟩
   ·intro a w ux15 hE hM hp
    have f0 : ux15 0 = (vI s10.2) := hp 0 _ rfl rfl
    exact Zm hE Za (dl rfl) rfl (lk rfl f0) Try.underlying39 ty5 hi22.1 fun a hE => ⟨Kept.refl _ _, _, _, rfl, hE, rfl⟩
   ·intro a w ux15 hE hM hg
    have hE := hE.sub (e' := [(15, (vB (x17 ^^^ x20))), (16, (ptr b1 (0 + (s10.2).toNat * 1))), (2, (ptr b1 0)), (3, (ptr b3 0)), (4, (ptr b5 0)), (5, (vI s10.2)), (6, (vI s10.2)), (7, (vT (decide (s10.2 < 16)))), (8, (vI s10.2))]) ⟨lk rfl (hg 6 (by decide)), lk rfl (hg 7 (by decide)), rfl, rfl, rfl, rfl, rfl, rfl, rfl, trivial⟩
    have hM := hM.pull (pre := [_, _])
    refine Zs (seg := [(vB (x17 ^^^ x20))]) (cs' := Flat.enc (s10.1.setIfInBounds (s10.2).toNat (x17 ^^^ x20))) hE hM Za rfl rfl rfl ty5 rfl (ZT (v := s10.1) (x := x17 ^^^ x20) hi22.1) (Flat.cell (x17 ^^^ x20 : UInt8)) (ZI (v := s10.1) (x := x17 ^^^ x20) hi22.1) ?_; intro w a hM hE
    refine Zj (Yk (Zx (wp_region_lit (Zh hE Za (dl rfl) rfl rfl rfl ?_)))); intro a hE
    refine Zd hE Za (dl rfl) rfl ?_; intro a hE
    refine Zj (Zl ?_)
    have hM := hM.pull (pre := [_, _])
    have hM := hM.pull (pre := [_, _])
    exact ⟨_, (Option.some.inj hs11).symm, hE.sub ⟨rfl, rfl, rfl, rfl, trivial⟩, hM⟩
  ·intro hb14
   have hs11 := Zz hs11 hb14
   refine wp_exit (Zr (Zr (Yj ?_)))
   have ht25 := hx12 _ (Option.some.inj hs11).symm
   subst ht25
   refine Zl ?_
   have hM := hM.pull (pre := [_, _])
   have hM := hM.pull (pre := [_])
   have hM := M.fst (l := [_, _]) hM
   exact ⟨hE.sub ⟨rfl, rfl, trivial⟩, hM⟩
 ·skip
  rintro a w ⟨hE, hM⟩
  refine Zx (Zc (Zp (cs := Flat.enc j7) hE Za (dl rfl) rfl ZP rfl (hM.rawAt (pre := [_])) (Flat.len _) ?_)); intro a hE
  refine Zs (seg := Flat.enc j7) (cs' := Flat.enc j7) hE hM Za rfl rfl rfl ZP (Flat.len _) (zle flq) (Flat.cell _) (Zq flq) ?_; intro w a hM hE
  refine Zf ?_
  have hr := Option.some.inj hF9
  subst hr
  have hq26 : YR Try.prog _ _ (.cell 4 39) _ := Z6 hE rfl ZP rfl (hM.rawAt (pre := [])) (Flat.len _) rfl
  have hM := M.fst (l := []) hM
  exact wp_ret (Zy hE rfl hq26 ⟨_, rfl, rfl, hM.kept⟩)
noncomputable def Yz (p0 : (Ref Gengine)) (s35 : (Vector UInt8 16) × Int) : Option (Fl ((Vector UInt8 16) × Int) (Vector UInt8 16)) :=
 if (decide (s35.2 < 16)) = true then ((ZM s35.1 s35.2).bind fun x42 => (ZM s35.1 (wr (s35.2 - 1))).bind fun x45 => (ZM p0.v.box (bI x45)).bind fun x58 => (ZM s35.1 s35.2).bind fun x61 => some (Fl.nx ((s35.1.setIfInBounds (s35.2).toNat (x42 ^^^ x58)), wr (s35.2 + 1)))) else (some (Fl.ex s35.1))
noncomputable def Y9 (p0 : (Ref Gengine)) (p1 : (Vector UInt8 16)) (p2 : Int) : Option ((Vector UInt8 16)) :=
 ((ZM p1 (0 : Int)).bind fun x10 => (ZM p1 (15 : Int)).bind fun x13 => (ZM p0.v.box (bI (x13 ^^^ (ZG p2)))).bind fun x26 => (ZM p1 (0 : Int)).bind fun x29 => some (p1.setIfInBounds ((0 : Int)).toNat (x10 ^^^ x26)) : Option ((Vector UInt8 16))).bind fun j5 => (ZF (Yz p0) (j5, 1) : Option ((Vector UInt8 16))).bind fun j32 => some j32
theorem c_impl_engine_nextKey (w0 : World) (p0 : (Ref Gengine)) (v0_1 : Value) (hv0_1 : Ro w0 p0 [v0_1]) (p1 : (Vector UInt8 16)) (p2 : Int) (r : (Vector UInt8 16)) (hF : Y9 p0 p1 p2 = some r) :
  Calls Try.prog 135 [v0_1, (Value.agg (Flat.enc p1).toArray), (vI p2)].toArray w0 (fun en w' => ∃ v, en = .returned v ∧ (v = (Value.agg (Flat.enc r).toArray) ∧ Kept (Old w0) w0 w')) := by
 refine ZC (n := 41) Try.func135 rfl rfl (Nat.le_of_ble_eq_true rfl) rfl ?_
 intro a hE
 have hM := M.start w0
 unfold Y9 at hF
 refine Zc (Z4 (cs := Flat.enc p1) hE hM Za (dl rfl) rfl rfl ?_); intro b1 w a hM hE
 refine ZO hE hM Za (dl rfl) ZP ?_; intro b3 w a hM hE
 refine Zf ?_
 obtain ⟨j5, hl6, hF7⟩ := bind_some hF
 refine ZS (fun a w => Env 41 a [(0, v0_1), (4, (ptr b1 0)), (6, (ptr b3 0))] ∧ M (Old w0) w0 w [raw b3 (Flat.enc (Vector.replicate 16 (0 : UInt8))), raw b1 (Flat.enc j5)]) ?_ ?_
 ·skip
  obtain ⟨x10, e11, hl6⟩ := bind_some hl6
  have hi9 := Zi e11
  obtain ⟨x13, e14, hl6⟩ := bind_some hl6
  have hi12 := Zi e14
  obtain ⟨pb15, ds16, hv17, hx18, hA19, hB20⟩ := Ua hv0_1 -- ^
  obtain ⟨u21, u23, rfl, h22, h24⟩ := un_Gengine hx18 -- ^
  obtain ⟨x26, e27, hl6⟩ := bind_some hl6
  have hi25 := Zi e27
  obtain ⟨x29, e30, hl6⟩ := bind_some hl6
  have hi28 := Zi e30
  refine Yd (n := 41) (hd := [_, _, _, _, _, _, _, _, _, _, _, _, _, _]) (tl := [_]) YB rfl rfl [8, 9, 10, 11, 12, 13, 14, 15, 16, 17, 18, 19, 20, 21] (by decide) (fun w => M (Old w0) w0 w [raw b3 (Flat.enc (Vector.replicate 16 (0 : UInt8))), raw b1 (Flat.enc p1)]) (fun j => ([fun v _ => v = (ptr b1 (0 + ((0 : Int)).toNat * 1)), fun v _ => v = (vB x10), fun v _ => v = v0_1, fun v _ => v = (ptr b1 (0 + ((15 : Int)).toNat * 1)), fun v _ => v = (vB x13), fun v _ => v = (vI p2), fun v _ => v = (vB (ZG p2)), fun v _ => v = (vB (x13 ^^^ (ZG p2))), fun v _ => v = (ptr pb15 0), fun v _ => v = (ptr pb15 (0 + 0)), fun v _ => v = (ptr pb15 (0 + 0 + ((bI (x13 ^^^ (ZG p2)))).toNat * 1)), fun v _ => v = (vB x26), fun v _ => v = (vB (x10 ^^^ x26)), fun v _ => v = (ptr b1 (0 + ((0 : Int)).toNat * 1))] : List (Value → World → Prop)).getD j (fun _ _ => True)) (fun _ _ h hk => h.keep hk) (gup (Zg (Zg (Zg (Zg (Zg (Zg (Zg (Zg (Zg (Zg (Zg (Zg (Zg (Zg Wu))))))))))))))) hE hM.drew (ZH (Zb ?_ (Zb ?_ (Zb ?_ (Zb ?_ (Zb ?_ (Zb ?_ (Zb ?_ (Zb ?_ (Zb ?_ (Zb ?_ (Zb ?_ (Zb ?_ (Zb ?_ (Zb ?_ ZD))))))))))))))) ?_
  ·exact fun a w ux8 hE hM hp => Zm hE Za (dl rfl) rfl rfl Try.underlying39 ty5 hi9.1 fun a hE => ⟨Kept.refl _ _, _, _, rfl, hE, rfl⟩
  ·intro a w ux8 hE hM hp
   have f0 : ux8 0 = (ptr b1 (0 + ((0 : Int)).toNat * 1)) := hp 0 _ rfl rfl
   exact Zv (v := (vB x10)) hE Za (dl rfl) (lk rfl f0) ty5 rfl (At.vec (hM.rawAt (pre := [_])) hi9.2) fun a hE => ⟨Kept.refl _ _, _, _, rfl, hE, rfl⟩
  ·exact fun a w ux8 hE hM hp => Zd hE Za (dl rfl) rfl fun a hE => ⟨Kept.refl _ _, _, _, rfl, hE, rfl⟩
  ·exact fun a w ux8 hE hM hp => Zm hE Za (dl rfl) rfl rfl Try.underlying39 ty5 hi12.1 fun a hE => ⟨Kept.refl _ _, _, _, rfl, hE, rfl⟩
  ·intro a w ux8 hE hM hp
   have f3 : ux8 3 = (ptr b1 (0 + ((15 : Int)).toNat * 1)) := hp 0 _ rfl rfl
   exact Zv (v := (vB x13)) hE Za (dl rfl) (lk rfl f3) ty5 rfl (At.vec (hM.rawAt (pre := [_])) hi12.2) fun a hE => ⟨Kept.refl _ _, _, _, rfl, hE, rfl⟩
  ·exact fun a w ux8 hE hM hp => Zd hE Za (dl rfl) rfl fun a hE => ⟨Kept.refl _ _, _, _, rfl, hE, rfl⟩
  ·intro a w ux8 hE hM hp
   have f5 : ux8 5 = (vI p2) := hp 0 _ rfl rfl
   refine YK hE Za (dl rfl) (lk rfl f5) Try.underlying2 Try.underlying5 ?_; intro a hE
   rw [Yf] at hE
   exact ⟨Kept.refl _ _, _, _, rfl, hE, rfl⟩
  ·intro a w ux8 hE hM hp
   have f4 : ux8 4 = (vB x13) := hp 0 _ rfl rfl
   have f6 : ux8 6 = (vB (ZG p2)) := hp 1 _ rfl rfl
   exact Zh hE Za (dl rfl) (lk rfl f4) (lk rfl f6) (Vo x13 (ZG p2)) fun a hE => ⟨Kept.refl _ _, _, _, rfl, hE, rfl⟩
  ·intro a w ux8 hE hM hp
   have f2 : ux8 2 = v0_1 := hp 0 _ rfl rfl
   exact XG hE Za (dl rfl) (lk (lk rfl f2) hv17) fun a hE => ⟨Kept.refl _ _, _, _, rfl, hE, rfl⟩
  ·intro a w ux8 hE hM hp
   have f8 : ux8 8 = (ptr pb15 0) := hp 0 _ rfl rfl
   exact Zo hE Za (dl rfl) (lk rfl f8) (fd152_0) fun a hE => ⟨Kept.refl _ _, _, _, rfl, hE, rfl⟩
  ·intro a w ux8 hE hM hp
   have f7 : ux8 7 = (vB (x13 ^^^ (ZG p2))) := hp 1 _ rfl rfl
   have f9 : ux8 9 = (ptr pb15 (0 + 0)) := hp 0 _ rfl rfl
   exact Zm hE Za (dl rfl) (lk rfl f9) (lk rfl f7) Try.underlying97 ty5 hi25.1 fun a hE => ⟨Kept.refl _ _, _, _, rfl, hE, rfl⟩
  ·intro a w ux8 hE hM hp
   have f10 : ux8 10 = (ptr pb15 (0 + 0 + ((bI (x13 ^^^ (ZG p2)))).toNat * 1)) := hp 0 _ rfl rfl
   exact Zv (v := (vB x26)) hE Za (dl rfl) (lk rfl f10) ty5 rfl (At.vec (At.cat (pre := []) (hM.atk hA19 hB20) cl0) hi25.2) fun a hE => ⟨Kept.refl _ _, _, _, rfl, hE, rfl⟩
  ·intro a w ux8 hE hM hp
   have f1 : ux8 1 = (vB x10) := hp 0 _ rfl rfl
   have f11 : ux8 11 = (vB x26) := hp 1 _ rfl rfl
   exact Zh hE Za (dl rfl) (lk rfl f1) (lk rfl f11) (Vo x10 x26) fun a hE => ⟨Kept.refl _ _, _, _, rfl, hE, rfl⟩
  ·exact fun a w ux8 hE hM hp => Zm hE Za (dl rfl) rfl rfl Try.underlying39 ty5 hi28.1 fun a hE => ⟨Kept.refl _ _, _, _, rfl, hE, rfl⟩
  ·intro a w ux8 hE hM hg
   have hE := hE.sub (e' := [(20, (vB (x10 ^^^ x26))), (21, (ptr b1 (0 + ((0 : Int)).toNat * 1))), (0, v0_1), (1, (Value.agg (Flat.enc p1).toArray)), (2, (vI p2)), (4, (ptr b1 0)), (6, (ptr b3 0))]) ⟨lk rfl (hg 12 (by decide)), lk rfl (hg 13 (by decide)), rfl, rfl, rfl, rfl, rfl, trivial⟩
   have hM := hM.pull (pre := [_])
   refine Zs (seg := [(vB (x10 ^^^ x26))]) (cs' := Flat.enc (p1.setIfInBounds ((0 : Int)).toNat (x10 ^^^ x26))) hE hM Za rfl rfl rfl ty5 rfl (ZT (v := p1) (x := x10 ^^^ x26) hi28.1) (Flat.cell (x10 ^^^ x26 : UInt8)) (ZI (v := p1) (x := x10 ^^^ x26) hi28.1) ?_; intro w a hM hE
   refine Zj ?_
   have ht31 := Option.some.inj hl6
   subst ht31
   refine Zl ?_
   have hM := hM.pull (pre := [_])
   exact ⟨hE.sub ⟨rfl, rfl, rfl, trivial⟩, hM⟩
 ·skip
  rintro a w ⟨hE, hM⟩
  refine wp_seq (Zc (Ze hE Za (dl rfl) rfl ?_)); intro a hE
  refine Zf ?_
  obtain ⟨j32, hl33, hF34⟩ := bind_some hF7
  refine ZV (fun a w => Env 41 a [(4, (ptr b1 0)), (6, (ptr b3 0))] ∧ M (Old w0) w0 w [raw b3 (Flat.enc (Vector.replicate 16 (0 : UInt8))), raw b1 (Flat.enc j32)]) ?_ ?_
  ·skip
   refine wp_block ?_
   refine ZN (fun (s35 : (Vector UInt8 16) × Int) a w => Env 41 a [(0, v0_1), (4, (ptr b1 0)), (6, (ptr b3 0)), (7, (vI s35.2))] ∧ M (Old w0) w0 w [raw b3 (Flat.enc (Vector.replicate 16 (0 : UInt8))), raw b1 (Flat.enc s35.1)]) hl33 ⟨hE.sub ⟨rfl, rfl, rfl, rfl, trivial⟩, hM⟩ ?_
   rintro s35 a w ⟨hE, hM⟩ o38 hs36 hx37
   unfold Yz at hs36
   refine wp_seq (Zc (Zd hE Za (dl rfl) rfl ?_)); intro a hE
   refine Zh hE Za (dl rfl) rfl rfl rfl ?_; intro a hE
   refine Zf ?_
   refine Zt hE rfl ?_ ?_
   ·intro hb39
    have hs36 := ZA hs36 hb39
    refine wp_skip (Zx (wp_seq (wp_block ?_)))
    obtain ⟨x42, e43, hs36⟩ := bind_some hs36
    have hi41 := Zi e43
    obtain ⟨x45, e46, hs36⟩ := bind_some hs36
    have hi44 := Zi e46
    obtain ⟨pb47, ds48, hv49, hx50, hA51, hB52⟩ := Ua hv0_1 -- ^
    obtain ⟨u53, u55, rfl, h54, h56⟩ := un_Gengine hx50 -- ^
    obtain ⟨x58, e59, hs36⟩ := bind_some hs36
    have hi57 := Zi e59
    obtain ⟨x61, e62, hs36⟩ := bind_some hs36
    have hi60 := Zi e62
    refine Yd (n := 41) (hd := [_, _, _, _, _, _, _, _, _, _, _, _, _, _]) (tl := [_]) YB rfl rfl [26, 27, 28, 29, 30, 31, 32, 33, 34, 35, 36, 37, 38, 39] (by decide) (fun w => M (Old w0) w0 w [raw b3 (Flat.enc (Vector.replicate 16 (0 : UInt8))), raw b1 (Flat.enc s35.1)]) (fun j => ([fun v _ => v = (vI s35.2), fun v _ => v = (ptr b1 (0 + (s35.2).toNat * 1)), fun v _ => v = (vB x42), fun v _ => v = v0_1, fun v _ => v = (vI s35.2), fun v _ => v = (vI (wr (s35.2 - 1))), fun v _ => v = (ptr b1 (0 + ((wr (s35.2 - 1))).toNat * 1)), fun v _ => v = (vB x45), fun v _ => v = (ptr pb47 0), fun v _ => v = (ptr pb47 (0 + 0)), fun v _ => v = (ptr pb47 (0 + 0 + ((bI x45)).toNat * 1)), fun v _ => v = (vB x58), fun v _ => v = (vB (x42 ^^^ x58)), fun v _ => v = (ptr b1 (0 + (s35.2).toNat * 1))] : List (Value → World → Prop)).getD j (fun _ _ => True)) (fun _ _ h hk => h.keep hk) (gup (Zg (Zg (Zg (Zg (Zg (Zg (Zg (Zg (Zg (Zg (Zg (Zg (Zg (Zg Wu))))))))))))))) hE hM.drew (ZH (Zb ?_ (Zb ?_ (Zb ?_ (Zb ?_ (Zb ?_ (Zb ?_ (Zb ?_ (Zb ?_ (Zb ?_ (Zb ?_ (Zb ?_ (Zb ?_ (Zb ?_ (Zb ?_ ZD))))))))))))))) ?_
    ·exact fun a w ux40 hE hM hp => Zd hE Za (dl rfl) rfl fun a hE => ⟨Kept.refl _ _, _, _, rfl, hE, rfl⟩
    ·intro a w ux40 hE hM hp
     have f0 : ux40 0 = (vI s35.2) := hp 0 _ rfl rfl
     exact Zm hE Za (dl rfl) rfl (lk rfl f0) Try.underlying39 ty5 hi41.1 fun a hE => ⟨Kept.refl _ _, _, _, rfl, hE, rfl⟩
    ·intro a w ux40 hE hM hp
     have f1 : ux40 1 = (ptr b1 (0 + (s35.2).toNat * 1)) := hp 0 _ rfl rfl
     exact Zv (v := (vB x42)) hE Za (dl rfl) (lk rfl f1) ty5 rfl (At.vec (hM.rawAt (pre := [_])) hi41.2) fun a hE => ⟨Kept.refl _ _, _, _, rfl, hE, rfl⟩
    ·exact fun a w ux40 hE hM hp => Zd hE Za (dl rfl) rfl fun a hE => ⟨Kept.refl _ _, _, _, rfl, hE, rfl⟩
    ·exact fun a w ux40 hE hM hp => Zd hE Za (dl rfl) rfl fun a hE => ⟨Kept.refl _ _, _, _, rfl, hE, rfl⟩
    ·intro a w ux40 hE hM hp
     have f4 : ux40 4 = (vI s35.2) := hp 0 _ rfl rfl
     exact Zh hE Za (dl rfl) (lk rfl f4) rfl rfl fun a hE => ⟨Kept.refl _ _, _, _, rfl, hE, rfl⟩
    ·intro a w ux40 hE hM hp
     have f5 : ux40 5 = (vI (wr (s35.2 - 1))) := hp 0 _ rfl rfl
     exact Zm hE Za (dl rfl) rfl (lk rfl f5) Try.underlying39 ty5 hi44.1 fun a hE => ⟨Kept.refl _ _, _, _, rfl, hE, rfl⟩
    ·intro a w ux40 hE hM hp
     have f6 : ux40 6 = (ptr b1 (0 + ((wr (s35.2 - 1))).toNat * 1)) := hp 0 _ rfl rfl
     exact Zv (v := (vB x45)) hE Za (dl rfl) (lk rfl f6) ty5 rfl (At.vec (hM.rawAt (pre := [_])) hi44.2) fun a hE => ⟨Kept.refl _ _, _, _, rfl, hE, rfl⟩
    ·intro a w ux40 hE hM hp
     have f3 : ux40 3 = v0_1 := hp 0 _ rfl rfl
     exact XG hE Za (dl rfl) (lk (lk rfl f3) hv49) fun a hE => ⟨Kept.refl _ _, _, _, rfl, hE, rfl⟩
    ·intro a w ux40 hE hM hp
     have f8 : ux40 8 = (ptr pb47 0) := hp 0 _ rfl rfl
     exact Zo hE Za (dl rfl) (lk rfl f8) (fd152_0) fun a hE => ⟨Kept.refl _ _, _, _, rfl, hE, rfl⟩
    ·intro a w ux40 hE hM hp
     have f7 : ux40 7 = (vB x45) := hp 1 _ rfl rfl
     have f9 : ux40 9 = (ptr pb47 (0 + 0)) := hp 0 _ rfl rfl
     exact Zm hE Za (dl rfl) (lk rfl f9) (lk rfl f7) Try.underlying97 ty5 hi57.1 fun a hE => ⟨Kept.refl _ _, _, _, rfl, hE, rfl⟩
    ·intro a w ux40 hE hM hp
     have f10 : ux40 10 = (ptr pb47 (0 + 0 + ((bI x45)).toNat * 1)) := hp 0 _ rfl rfl
     exact Zv (v := (vB x58)) hE Za (dl rfl) (lk rfl f10) ty5 rfl (At.vec (At.cat (pre := []) (hM.atk hA51 hB52) cl0) hi57.2) fun a hE => ⟨Kept.refl _ _, _, _, rfl, hE, rfl⟩
    ·intro a w ux40 hE hM hp
     have f2 : ux40 2 = (vB x42) := hp 0 _ rfl rfl
     have f11 : ux40 11 = (vB x58) := hp 1 _ rfl rfl
     exact Zh hE Za (dl rfl) (lk rfl f2) (lk rfl f11) (Vo x42 x58) fun a hE => ⟨Kept.refl _ _, _, _, rfl, hE, rfl⟩
    ·intro a w ux40 hE hM hp
     have f0 : ux40 0 = (vI s35.2) := hp 0 _ rfl rfl
     exact Zm hE Za (dl rfl) rfl (lk rfl f0) Try.underlying39 ty5 hi60.1 fun a hE => ⟨Kept.refl _ _, _, _, rfl, hE, rfl⟩
    ·intro a w ux40 hE hM hg
     have hE := hE.sub (e' := [(38, (vB (x42 ^^^ x58))), (39, (ptr b1 (0 + (s35.2).toNat * 1))), (0, v0_1), (4, (ptr b1 0)), (6, (ptr b3 0)), (7, (vI s35.2)), (22, (vI s35.2)), (23, (vT (decide (s35.2 < 16))))]) ⟨lk rfl (hg 12 (by decide)), lk rfl (hg 13 (by decide)), rfl, rfl, rfl, rfl, rfl, rfl, trivial⟩
     have hM := hM.pull (pre := [_])
     refine Zs (seg := [(vB (x42 ^^^ x58))]) (cs' := Flat.enc (s35.1.setIfInBounds (s35.2).toNat (x42 ^^^ x58))) hE hM Za rfl rfl rfl ty5 rfl (ZT (v := s35.1) (x := x42 ^^^ x58) hi60.1) (Flat.cell (x42 ^^^ x58 : UInt8)) (ZI (v := s35.1) (x := x42 ^^^ x58) hi60.1) ?_; intro w a hM hE
     refine Zj (Yk (Zx (wp_region_lit (Zd hE Za (dl rfl) rfl ?_)))); intro a hE
     refine Zh hE Za (dl rfl) rfl rfl rfl ?_; intro a hE
     refine Ze hE Za (dl rfl) rfl ?_; intro a hE
     refine Zj (Zl ?_)
     have hM := hM.pull (pre := [_])
     exact ⟨_, (Option.some.inj hs36).symm, hE.sub ⟨rfl, rfl, rfl, rfl, trivial⟩, hM⟩
   ·intro hb39
    have hs36 := Zz hs36 hb39
    refine wp_exit (Zr (Zr (Yj ?_)))
    have ht63 := hx37 _ (Option.some.inj hs36).symm
    subst ht63
    refine Zl ?_
    exact ⟨hE.sub ⟨rfl, rfl, trivial⟩, hM⟩
  ·skip
   rintro a w ⟨hE, hM⟩
   refine Zx (Zc (Zp (cs := Flat.enc j32) hE Za (dl rfl) rfl ZP rfl (hM.rawAt (pre := [_])) (Flat.len _) ?_)); intro a hE
   refine Zs (seg := Flat.enc j32) (cs' := Flat.enc j32) hE hM Za rfl rfl rfl ZP (Flat.len _) (zle flq) (Flat.cell _) (Zq flq) ?_; intro w a hM hE
   refine Zf ?_
   have hr := Option.some.inj hF34
   subst hr
   have hq64 : YR Try.prog _ _ (.cell 6 39) _ := Z6 hE rfl ZP rfl (hM.rawAt (pre := [])) (Flat.len _) rfl
   have hM := M.fst (l := []) hM
   exact wp_ret (Zy hE rfl hq64 ⟨_, rfl, rfl, hM.kept⟩)
noncomputable def Y2 (p0 : (Ref Gengine)) (p2 : Int) (s10 : (Vector UInt8 16) × (List (Vector UInt8 16)) × Int) : Option (Fl ((Vector UInt8 16) × (List (Vector UInt8 16)) × Int) (List (Vector UInt8 16))) :=
 if (decide (s10.2.2 ≤ p2)) = true then ((Y9 p0 s10.1 s10.2.2).bind fun r17 => (app 16 s10.2.1 ([r17] : List (Vector UInt8 16))).bind fun l21 => some (Fl.nx (r17, (s10.2.1 ++ ([r17] : List (Vector UInt8 16))), wr (s10.2.2 + 1)))) else (some (Fl.ex s10.2.1))
noncomputable def X5 (p0 : (Ref Gengine)) (p1 : (Vector UInt8 16)) (p2 : Int) : Option ((List (Vector UInt8 16))) :=
 (ZF (Y2 p0 p2) (p1, ([p1] : List (Vector UInt8 16)), 1) : Option ((List (Vector UInt8 16)))).bind fun j5 => some j5
theorem c_impl_engine_keys (w0 : World) (p0 : (Ref Gengine)) (v0_1 : Value) (hv0_1 : Ro w0 p0 [v0_1]) (p1 : (Vector UInt8 16)) (p2 : Int) (r : (List (Vector UInt8 16))) (hF : X5 p0 p1 p2 = some r) :
  Calls Try.prog 130 [v0_1, (Value.agg (Flat.enc p1).toArray), (vI p2)].toArray w0 (fun en w' => ∃ v, en = .returned v ∧ (∃ (y1 : Value), v = y1 ∧ Fr w0 w' [osl NoB (r : List (Vector UInt8 16)) y1] ∧ Kept (Old w0) w0 w')) := by
 refine ZC (n := 25) Try.func130 rfl rfl (Nat.le_of_ble_eq_true rfl) rfl ?_
 intro a hE
 have hM := M.start w0
 unfold X5 at hF
 refine Zc (Z4 (cs := Flat.enc p1) hE hM Za (dl rfl) rfl rfl ?_); intro b1 w a hM hE
 refine Ze hE Za (dl rfl) rfl ?_; intro a hE
 refine Zf (Zc (Zp (cs := Flat.enc p1) hE Za (dl rfl) rfl ZP rfl (hM.rawAt (pre := [])) (Flat.len _) ?_)); intro a hE
 refine Y7 (xs := [.tmp 9]) (l := ([p1] : List (Vector UInt8 16))) (vs := [(Value.agg (Flat.enc p1).toArray)]) hE hM Za (dl rfl) rfl rfl Try.underlying34 ZP rfl (by decide) rfl ?_; intro u3 w a hM hE
 refine Ze hE Za (dl rfl) rfl ?_; intro a hE
 refine Zf (wp_seq (Zc (Ze hE Za (dl rfl) rfl ?_))); intro a hE
 refine Zf ?_
 obtain ⟨j5, hl6, hF7⟩ := bind_some hF
 refine ZV (fun a w => ∃ (u8 : Value), Env 25 a [(7, u8)] ∧ M (Old w0) w0 w [osl NoB (j5 : List (Vector UInt8 16)) u8]) ?_ ?_
 ·skip
  refine wp_block ?_
  have hM := hM.pull (pre := [_])
  refine ZN (fun (s10 : (Vector UInt8 16) × (List (Vector UInt8 16)) × Int) a w => ∃ (u11 : Value), Env 25 a [(0, v0_1), (2, (vI p2)), (4, (ptr b1 0)), (7, u11), (8, (vI s10.2.2))] ∧ M (Old w0) w0 w [raw b1 (Flat.enc s10.1), osl NoB (s10.2.1 : List (Vector UInt8 16)) u11]) hl6 ⟨u3, hE.sub ⟨rfl, rfl, rfl, rfl, rfl, trivial⟩, hM⟩ ?_
  rintro s10 a w ⟨u11, hE, hM⟩ o15 hs13 hx14
  unfold Y2 at hs13
  refine wp_seq (Zc (Zd hE Za (dl rfl) rfl ?_)); intro a hE
  refine Zd hE Za (dl rfl) rfl ?_; intro a hE
  refine Zh hE Za (dl rfl) rfl rfl rfl ?_; intro a hE
  refine Zf ?_
  refine Zt hE rfl ?_ ?_
  ·intro hb16
   have hs13 := ZA hs13 hb16
   refine wp_skip (Zx (wp_seq (wp_block (Zc (Zd hE Za (dl rfl) rfl ?_))))); intro a hE
   refine Zp (cs := Flat.enc s10.1) hE Za (dl rfl) rfl ZP rfl (hM.rawAt (pre := [])) (Flat.len _) ?_; intro a hE
   refine Zd hE Za (dl rfl) rfl ?_; intro a hE
   obtain ⟨r17, e18, hs13⟩ := bind_some hs13
   refine Zw (vs := [v0_1, (Value.agg (Flat.enc s10.1).toArray), (vI s10.2.2)]) hE Za (dl rfl) rfl cb135 (c_impl_engine_nextKey _ p0 v0_1 (hM.rdo hv0_1) s10.1 s10.2.2 r17 e18) ?_
   rintro v w a ⟨rfl, hK⟩ hE
   have hM := hM.keep hK
   refine Zs (seg := Flat.enc r17) (cs' := Flat.enc r17) hE hM Za rfl rfl rfl ZP (Flat.len _) (zle flq) (Flat.cell _) (Zq flq) ?_; intro w a hM hE
   refine Zf (wp_region_lit (Zd hE Za (dl rfl) rfl ?_)); intro a hE
   refine Zp (cs := Flat.enc r17) hE Za (dl rfl) rfl ZP rfl (hM.rawAt (pre := [])) (Flat.len _) ?_; intro a hE
   refine Y7 (xs := [.tmp 21]) (l := ([r17] : List (Vector UInt8 16))) (vs := [(Value.agg (Flat.enc r17).toArray)]) hE hM Za (dl rfl) rfl rfl Try.underlying34 ZP rfl (by decide) rfl ?_; intro u19 w a hM hE
   obtain ⟨l21, e22, hs13⟩ := bind_some hs13
   obtain ⟨e25, rfl⟩ := Wq e22
   have hM := hM.pull (pre := [_, _])
   refine XA hE hM Za (dl rfl) rfl rfl (hM.sl (pre := [_]) noB) Try.underlying34 ZP rfl (by decide) e25 ?_; intro u23 w a hM hE
   refine Ze hE Za (dl rfl) rfl ?_; intro a hE
   refine Zj (Yk (Zx (wp_region_lit (Zd hE Za (dl rfl) rfl ?_)))); intro a hE
   refine Zh hE Za (dl rfl) rfl rfl rfl ?_; intro a hE
   refine Ze hE Za (dl rfl) rfl ?_; intro a hE
   refine Zj (Zl ?_)
   have hM := hM.pull (pre := [_, _])
   have hM := M.fst (l := [_, _]) hM
   exact ⟨_, (Option.some.inj hs13).symm, u23, hE.sub ⟨rfl, rfl, rfl, rfl, rfl, trivial⟩, hM⟩
  ·intro hb16
   have hs13 := Zz hs13 hb16
   refine wp_exit (Zr (Zr (Yj ?_)))
   have ht26 := hx14 _ (Option.some.inj hs13).symm
   subst ht26
   refine Zl ?_
   have hM := hM.pull (pre := [_])
   have hM := M.fst (l := [_]) hM
   exact ⟨u11, hE.sub ⟨rfl, trivial⟩, hM⟩
 ·skip
  rintro a w ⟨u8, hE, hM⟩
  refine Zx (Zc (Zd hE Za (dl rfl) rfl ?_)); intro a hE
  refine Ze hE Za (dl rfl) rfl ?_; intro a hE
  refine Zf ?_
  have hr := Option.some.inj hF7
  subst hr
  exact wp_ret (Zy hE rfl (Zu hE rfl) ⟨_, rfl, u8, rfl, hM.outF (Vq WY), hM.kept⟩)
noncomputable def Y4 (p0 : (Vector UInt8 16)) (p1 : (Vector UInt8 16)) (s12 : (Vector UInt8 16) × Int) : Option (Fl ((Vector UInt8 16) × Int) (Vector UInt8 16)) :=
 if (decide (s12.2 < 16)) = true then ((ZM p0 s12.2).bind fun x17 => (ZM p1 (bI x17)).bind fun x21 => (ZM s12.1 s12.2).bind fun x24 => some (Fl.nx ((s12.1.setIfInBounds (s12.2).toNat x21), wr (s12.2 + 1)))) else (some (Fl.ex s12.1))
noncomputable def Wa (p0 : (Vector UInt8 16)) (p1 : (Vector UInt8 16)) : Option ((Vector UInt8 16)) :=
 (ZF (Y4 p0 p1) ((Vector.replicate 16 (0 : UInt8)), 0) : Option ((Vector UInt8 16))).bind fun j9 => some j9
theorem c_impl_Places_move (w0 : World) (p0 : (Vector UInt8 16)) (p1 : (Vector UInt8 16)) (r : (Vector UInt8 16)) (hF : Wa p0 p1 = some r) :
  Calls Try.prog 133 [(Value.agg (Flat.enc p0).toArray), (Value.agg (Flat.enc p1).toArray)].toArray w0 (fun en w' => ∃ v, en = .returned v ∧ (v = (Value.agg (Flat.enc r).toArray) ∧ Kept (Old w0) w0 w')) := by
 refine ZC (n := 21) Try.func133 rfl rfl (Nat.le_of_ble_eq_true rfl) rfl ?_
 intro a hE
 have hM := M.start w0
 unfold Wa at hF
 refine Zc (Z4 (cs := Flat.enc p0) hE hM Za (dl rfl) rfl rfl ?_); intro b1 w a hM hE
 refine Z4 (cs := Flat.enc p1) hE hM Za (dl rfl) rfl rfl ?_; intro b3 w a hM hE
 refine ZO hE hM Za (dl rfl) ZP ?_; intro b5 w a hM hE
 refine Zf (Zc (Xq (parts := []) (vs := []) (cs := Flat.enc (Vector.replicate 16 (0 : UInt8))) hE Za (dl rfl) rfl rfl ZP rfl ty5 YM ?_)); intro a hE
 refine ZO hE hM Za (dl rfl) ZP ?_; intro b7 w a hM hE
 refine Zs (seg := Flat.enc (Vector.replicate 16 (0 : UInt8))) (cs' := Flat.enc (Vector.replicate 16 (0 : UInt8))) hE hM Za rfl rfl rfl ZP (Flat.len _) (zle flq) (Flat.cell _) (Zq flq) ?_; intro w a hM hE
 refine Zf (wp_seq (Zc (Zp (cs := Flat.enc p0) hE Za (dl rfl) rfl ty101 rfl (hM.rawAt (pre := [_, _, _])) (Flat.len _) ?_))); intro a hE
 refine Zd hE Za (dl rfl) rfl ?_; intro a hE
 refine Zf ?_
 obtain ⟨j9, hl10, hF11⟩ := bind_some hF
 refine ZV (fun a w => Env 21 a [(4, (ptr b5 0)), (5, (ptr b7 0))] ∧ M (Old w0) w0 w [raw b7 (Flat.enc j9), raw b5 (Flat.enc (Vector.replicate 16 (0 : UInt8)))]) ?_ ?_
 ·skip
  refine wp_block ?_
  have hM := hM.pull (pre := [_, _])
  have hM := hM.pull (pre := [_, _])
  have hM := hM.pull (pre := [_, _])
  have hM := M.fst (l := [_, _, _]) hM
  refine ZN (fun (s12 : (Vector UInt8 16) × Int) a w => Env 21 a [(3, (ptr b3 0)), (4, (ptr b5 0)), (5, (ptr b7 0)), (9, (Value.agg (Flat.enc p0).toArray)), (10, (vI s12.2))] ∧ M (Old w0) w0 w [raw b7 (Flat.enc s12.1), raw b5 (Flat.enc (Vector.replicate 16 (0 : UInt8))), raw b3 (Flat.enc p1)]) hl10 ⟨hE.sub ⟨rfl, rfl, rfl, rfl, rfl, trivial⟩, hM⟩ ?_
  rintro s12 a w ⟨hE, hM⟩ o15 hs13 hx14
  unfold Y4 at hs13
  refine Zc (Zh hE Za (dl rfl) rfl rfl rfl ?_); intro a hE
  refine Zf (wp_seq ?_)
  refine Zt hE rfl ?_ ?_
  ·intro hb16
   have hs13 := ZA hs13 hb16
   refine wp_skip (Zx (wp_seq (wp_block (Zc (Zd hE Za (dl rfl) rfl ?_))))); intro a hE
   obtain ⟨x17, e18, hs13⟩ := bind_some hs13
   have hi19 := Zi e18
   refine s_indexV hE Za (dl rfl) rfl rfl Try.underlying101 ty5 rfl rfl hi19 rfl ?_; intro a hE
   refine Ze hE Za (dl rfl) rfl ?_; intro a hE
   refine Ze hE Za (dl rfl) rfl ?_; intro a hE
   refine Zf (wp_region_lit (Zd hE Za (dl rfl) rfl ?_)); intro a hE
   refine Zd hE Za (dl rfl) rfl ?_; intro a hE
   obtain ⟨x21, e22, hs13⟩ := bind_some hs13
   have hi20 := Zi e22
   refine Zm hE Za (dl rfl) rfl rfl Try.underlying39 ty5 hi20.1 ?_; intro a hE
   refine Zv (v := (vB x21)) hE Za (dl rfl) rfl ty5 rfl (At.vec (hM.rawAt (pre := [_, _])) hi20.2) ?_; intro a hE
   obtain ⟨x24, e25, hs13⟩ := bind_some hs13
   have hi23 := Zi e25
   refine Zm hE Za (dl rfl) rfl rfl Try.underlying39 ty5 hi23.1 ?_; intro a hE
   refine Zs (seg := [(vB x21)]) (cs' := Flat.enc (s12.1.setIfInBounds (s12.2).toNat x21)) hE hM Za rfl rfl rfl ty5 rfl (ZT (v := s12.1) (x := x21) hi23.1) (Flat.cell (x21 : UInt8)) (ZI (v := s12.1) (x := x21) hi23.1) ?_; intro w a hM hE
   refine Zj (Yk (Zx (wp_region_lit (Zh hE Za (dl rfl) rfl rfl rfl ?_)))); intro a hE
   refine Zd hE Za (dl rfl) rfl ?_; intro a hE
   refine Zj (Zl ?_)
   exact ⟨_, (Option.some.inj hs13).symm, hE.sub ⟨rfl, rfl, rfl, rfl, rfl, trivial⟩, hM⟩
  ·intro hb16
   have hs13 := Zz hs13 hb16
   refine wp_exit (Zr (Zr (Yj ?_)))
   have ht26 := hx14 _ (Option.some.inj hs13).symm
   subst ht26
   refine Zl ?_
   have hM := hM.pull (pre := [_])
   have hM := hM.pull (pre := [_])
   have hM := M.fst (l := [_, _]) hM
   exact ⟨hE.sub ⟨rfl, rfl, trivial⟩, hM⟩
 ·skip
  rintro a w ⟨hE, hM⟩
  refine Zx (Zc (Zp (cs := Flat.enc j9) hE Za (dl rfl) rfl ZP rfl (hM.rawAt (pre := [])) (Flat.len _) ?_)); intro a hE
  have hM := hM.pull (pre := [_])
  refine Zs (seg := Flat.enc j9) (cs' := Flat.enc j9) hE hM Za rfl rfl rfl ZP (Flat.len _) (zle flq) (Flat.cell _) (Zq flq) ?_; intro w a hM hE
  refine Zf ?_
  have hr := Option.some.inj hF11
  subst hr
  have hq27 : YR Try.prog _ _ (.cell 4 39) _ := Z6 hE rfl ZP rfl (hM.rawAt (pre := [])) (Flat.len _) rfl
  have hM := M.fst (l := []) hM
  exact wp_ret (Zy hE rfl hq27 ⟨_, rfl, rfl, hM.kept⟩)
noncomputable def Xw (p0 : (Ref (Vector (Vector (Vector UInt8 256) 4) 4))) (s4 : (Vector UInt8 16) × Int) (j9 : UInt8 × UInt8 × UInt8 × UInt8) (s29 : (Vector UInt8 16) × Int) : Option (Fl ((Vector UInt8 16) × Int) (Vector UInt8 16)) :=
 if (decide (s29.2 < 4)) = true then ((ZM p0.v s29.2).bind fun x42 => (ZM x42 (0 : Int)).bind fun x45 => (ZM x45 (bI j9.1)).bind fun x48 => (ZM p0.v s29.2).bind fun x57 => (ZM x57 (1 : Int)).bind fun x60 => (ZM x60 (bI j9.2.1)).bind fun x63 => (ZM p0.v s29.2).bind fun x72 => (ZM x72 (2 : Int)).bind fun x75 => (ZM x75 (bI j9.2.2.1)).bind fun x78 => (ZM p0.v s29.2).bind fun x87 => (ZM x87 (3 : Int)).bind fun x90 => (ZM x90 (bI j9.2.2.2)).bind fun x93 => (ZM s29.1 (wr (s4.2 + s29.2))).bind fun x95 => some (Fl.nx ((s29.1.setIfInBounds ((wr (s4.2 + s29.2))).toNat (((x48 ^^^ x63) ^^^ x78) ^^^ x93)), wr (s29.2 + 1)))) else (some (Fl.ex s29.1))
noncomputable def XC (p0 : (Ref (Vector (Vector (Vector UInt8 256) 4) 4))) (s4 : (Vector UInt8 16) × Int) : Option (Fl ((Vector UInt8 16) × Int) (Vector UInt8 16)) :=
 if (decide (s4.2 < (s4.1.toList.length : Int))) = true then (((ZM s4.1 s4.2).bind fun x13 => (ZM s4.1 (wr (s4.2 + 1))).bind fun x16 => (ZM s4.1 (wr (s4.2 + 2))).bind fun x19 => (ZM s4.1 (wr (s4.2 + 3))).bind fun x22 => some (x13, x16, x19, x22) : Option (UInt8 × UInt8 × UInt8 × UInt8)).bind fun j9 => (ZF (Xw p0 s4 j9) (s4.1, 0) : Option ((Vector UInt8 16))).bind fun j26 => some (Fl.nx (j26, wr (s4.2 + 4)))) else (some (Fl.ex s4.1))
noncomputable def WH (p0 : (Ref (Vector (Vector (Vector UInt8 256) 4) 4))) (p1 : (Vector UInt8 16)) : Option ((Vector UInt8 16)) :=
 (ZF (XC p0) (p1, 0) : Option ((Vector UInt8 16))).bind fun j1 => some j1
theorem c_impl_mixer_mix (St : Nat → Prop) (W w0 : World) (its : List Item) (p0 : (Ref (Vector (Vector (Vector UInt8 256) 4) 4))) (v0_1 : Value) (hv0_1 : Rep.sat St W p0 [v0_1] []) (pb1 : Nat) (p1 : (Vector UInt8 16)) (hM : M St W w0 (raw pb1 (Flat.enc p1) :: its)) (r : (Vector UInt8 16)) (hF : WH p0 p1 = some r) :
  Calls Try.prog 134 [v0_1, (Value.slice (some ⟨pb1, 0, none⟩) 16 16)].toArray w0 (fun en w' => ∃ v, en = .returned v ∧ (v = (Value.tuple [].toArray) ∧ M St W w' (raw pb1 (Flat.enc r) :: its))) := by
 refine ZC (n := 79) Try.func134 rfl rfl (Nat.le_of_ble_eq_true rfl) rfl ?_
 intro a hE
 unfold WH at hF
 refine Zc (Ze hE Za (dl rfl) rfl ?_); intro a hE
 refine Zf ?_
 obtain ⟨j1, hl2, hF3⟩ := bind_some hF
 refine ZV (fun a w => Env 79 a [(1, (Value.slice (some ⟨pb1, 0, none⟩) 16 16))] ∧ M St W w (raw pb1 (Flat.enc j1) :: its)) ?_ ?_
 ·skip
  refine wp_block ?_
  refine ZN (fun (s4 : (Vector UInt8 16) × Int) a w => Env 79 a [(0, v0_1), (1, (Value.slice (some ⟨pb1, 0, none⟩) 16 16)), (4, (vI s4.2))] ∧ M St W w (raw pb1 (Flat.enc s4.1) :: its)) hl2 ⟨hE.sub ⟨rfl, rfl, rfl, trivial⟩, hM⟩ ?_
  rintro s4 a w ⟨hE, hM⟩ o7 hs5 hx6
  unfold XC at hs5
  refine wp_seq (Zc (Zd hE Za (dl rfl) rfl ?_)); intro a hE
  refine Zd hE Za (dl rfl) rfl ?_; intro a hE
  refine Z7 hE Za (dl rfl) rfl Try.underlying50 (raw_full (hM.rawAt (pre := []))) ?_; intro a hE
  refine Zh hE Za (dl rfl) rfl rfl rfl ?_; intro a hE
  refine Zf ?_
  refine Zt hE rfl ?_ ?_
  ·intro hb8
   have hs5 := ZA hs5 hb8
   refine wp_skip (Zx (wp_seq (wp_block ?_)))
   obtain ⟨j9, hl10, hF11⟩ := bind_some hs5
   refine ZS (fun a w => Env 79 a [(0, v0_1), (1, (Value.slice (some ⟨pb1, 0, none⟩) 16 16)), (4, (vI s4.2)), (5, (vB j9.1)), (6, (vB j9.2.1)), (7, (vB j9.2.2.1)), (8, (vB j9.2.2.2))] ∧ M St W w (raw pb1 (Flat.enc s4.1) :: its)) ?_ ?_
   ·skip
    obtain ⟨x13, e14, hl10⟩ := bind_some hl10
    have hi15 := Zi e14
    obtain ⟨x16, e17, hl10⟩ := bind_some hl10
    have hi18 := Zi e17
    obtain ⟨x19, e20, hl10⟩ := bind_some hl10
    have hi21 := Zi e20
    obtain ⟨x22, e23, hl10⟩ := bind_some hl10
    have hi24 := Zi e23
    refine Yd (n := 79) (hd := [_, _, _, _, _, _, _, _, _, _, _, _, _, _, _, _, _, _, _, _, _, _, _]) (tl := []) YB rfl rfl [16, 17, 18, 19, 20, 21, 22, 23, 24, 25, 26, 27, 28, 29, 30, 31, 32, 33, 34, 5, 6, 7, 8] (by decide) (fun w => M St W w (raw pb1 (Flat.enc s4.1) :: its)) (fun j => ([fun v _ => v = (Value.slice (some ⟨pb1, 0, none⟩) 16 16), fun v _ => v = (vI s4.2), fun v _ => v = (ptr pb1 (0 + (s4.2).toNat * 1)), fun v _ => v = (vB x13), fun v _ => v = (Value.slice (some ⟨pb1, 0, none⟩) 16 16), fun v _ => v = (vI s4.2), fun v _ => v = (vI (wr (s4.2 + 1))), fun v _ => v = (ptr pb1 (0 + ((wr (s4.2 + 1))).toNat * 1)), fun v _ => v = (vB x16), fun v _ => v = (Value.slice (some ⟨pb1, 0, none⟩) 16 16), fun v _ => v = (vI s4.2), fun v _ => v = (vI (wr (s4.2 + 2))), fun v _ => v = (ptr pb1 (0 + ((wr (s4.2 + 2))).toNat * 1)), fun v _ => v = (vB x19), fun v _ => v = (Value.slice (some ⟨pb1, 0, none⟩) 16 16), fun v _ => v = (vI s4.2), fun v _ => v = (vI (wr (s4.2 + 3))), fun v _ => v = (ptr pb1 (0 + ((wr (s4.2 + 3))).toNat * 1)), fun v _ => v = (vB x22), fun v _ => v = (vB x13), fun v _ => v = (vB x16), fun v _ => v = (vB x19), fun v _ => v = (vB x22)] : List (Value → World → Prop)).getD j (fun _ _ => True)) (fun _ _ h hk => h.keep hk) (gup (Zg (Zg (Zg (Zg (Zg (Zg (Zg (Zg (Zg (Zg (Zg (Zg (Zg (Zg (Zg (Zg (Zg (Zg (Zg (Zg (Zg (Zg (Zg Wu)))))))))))))))))))))))) hE hM.drew (ZH (Zb ?_ (Zb ?_ (Zb ?_ (Zb ?_ (Zb ?_ (Zb ?_ (Zb ?_ (Zb ?_ (Zb ?_ (Zb ?_ (Zb ?_ (Zb ?_ (Zb ?_ (Zb ?_ (Zb ?_ (Zb ?_ (Zb ?_ (Zb ?_ (Zb ?_ (Zb ?_ (Zb ?_ (Zb ?_ (Zb ?_ ZD)))))))))))))))))))))))) ?_
    ·exact fun a w ux12 hE hM hp => Zd hE Za (dl rfl) rfl fun a hE => ⟨Kept.refl _ _, _, _, rfl, hE, rfl⟩
    ·exact fun a w ux12 hE hM hp => Zd hE Za (dl rfl) rfl fun a hE => ⟨Kept.refl _ _, _, _, rfl, hE, rfl⟩
    ·intro a w ux12 hE hM hp
     have f0 : ux12 0 = (Value.slice (some ⟨pb1, 0, none⟩) 16 16) := hp 0 _ rfl rfl
     have f1 : ux12 1 = (vI s4.2) := hp 1 _ rfl rfl
     exact s_indexFull hE Za (dl rfl) (lk rfl f0) (lk rfl f1) Try.underlying50 ty5 hi15.1 fun a hE => ⟨Kept.refl _ _, _, _, rfl, hE, rfl⟩
    ·intro a w ux12 hE hM hp
     have f2 : ux12 2 = (ptr pb1 (0 + (s4.2).toNat * 1)) := hp 0 _ rfl rfl
     exact Zv (v := (vB x13)) hE Za (dl rfl) (lk rfl f2) ty5 rfl (At.vec (hM.rawAt (pre := [])) hi15.2) fun a hE => ⟨Kept.refl _ _, _, _, rfl, hE, rfl⟩
    ·exact fun a w ux12 hE hM hp => Zd hE Za (dl rfl) rfl fun a hE => ⟨Kept.refl _ _, _, _, rfl, hE, rfl⟩
    ·exact fun a w ux12 hE hM hp => Zd hE Za (dl rfl) rfl fun a hE => ⟨Kept.refl _ _, _, _, rfl, hE, rfl⟩
    ·intro a w ux12 hE hM hp
     have f5 : ux12 5 = (vI s4.2) := hp 0 _ rfl rfl
     exact Zh hE Za (dl rfl) (lk rfl f5) rfl rfl fun a hE => ⟨Kept.refl _ _, _, _, rfl, hE, rfl⟩
    ·intro a w ux12 hE hM hp
     have f4 : ux12 4 = (Value.slice (some ⟨pb1, 0, none⟩) 16 16) := hp 0 _ rfl rfl
     have f6 : ux12 6 = (vI (wr (s4.2 + 1))) := hp 1 _ rfl rfl
     exact s_indexFull hE Za (dl rfl) (lk rfl f4) (lk rfl f6) Try.underlying50 ty5 hi18.1 fun a hE => ⟨Kept.refl _ _, _, _, rfl, hE, rfl⟩
    ·intro a w ux12 hE hM hp
     have f7 : ux12 7 = (ptr pb1 (0 + ((wr (s4.2 + 1))).toNat * 1)) := hp 0 _ rfl rfl
     exact Zv (v := (vB x16)) hE Za (dl rfl) (lk rfl f7) ty5 rfl (At.vec (hM.rawAt (pre := [])) hi18.2) fun a hE => ⟨Kept.refl _ _, _, _, rfl, hE, rfl⟩
    ·exact fun a w ux12 hE hM hp => Zd hE Za (dl rfl) rfl fun a hE => ⟨Kept.refl _ _, _, _, rfl, hE, rfl⟩
    ·exact fun a w ux12 hE hM hp => Zd hE Za (dl rfl) rfl fun a hE => ⟨Kept.refl _ _, _, _, rfl, hE, rfl⟩
    ·intro a w ux12 hE hM hp
     have f10 : ux12 10 = (vI s4.2) := hp 0 _ rfl rfl
     exact Zh hE Za (dl rfl) (lk rfl f10) rfl rfl fun a hE => ⟨Kept.refl _ _, _, _, rfl, hE, rfl⟩
    ·intro a w ux12 hE hM hp
     have f9 : ux12 9 = (Value.slice (some ⟨pb1, 0, none⟩) 16 16) := hp 0 _ rfl rfl
     have f11 : ux12 11 = (vI (wr (s4.2 + 2))) := hp 1 _ rfl rfl
     exact s_indexFull hE Za (dl rfl) (lk rfl f9) (lk rfl f11) Try.underlying50 ty5 hi21.1 fun a hE => ⟨Kept.refl _ _, _, _, rfl, hE, rfl⟩
    ·intro a w ux12 hE hM hp
     have f12 : ux12 12 = (ptr pb1 (0 + ((wr (s4.2 + 2))).toNat * 1)) := hp 0 _ rfl rfl
     exact Zv (v := (vB x19)) hE Za (dl rfl) (lk rfl f12) ty5 rfl (At.vec (hM.rawAt (pre := [])) hi21.2) fun a hE => ⟨Kept.refl _ _, _, _, rfl, hE, rfl⟩
    ·exact fun a w ux12 hE hM hp => Zd hE Za (dl rfl) rfl fun a hE => ⟨Kept.refl _ _, _, _, rfl, hE, rfl⟩
    ·exact fun a w ux12 hE hM hp => Zd hE Za (dl rfl) rfl fun a hE => ⟨Kept.refl _ _, _, _, rfl, hE, rfl⟩
    ·intro a w ux12 hE hM hp
     have f15 : ux12 15 = (vI s4.2) := hp 0 _ rfl rfl
     exact Zh hE Za (dl rfl) (lk rfl f15) rfl rfl fun a hE => ⟨Kept.refl _ _, _, _, rfl, hE, rfl⟩
    ·intro a w ux12 hE hM hp
     have f14 : ux12 14 = (Value.slice (some ⟨pb1, 0, none⟩) 16 16) := hp 0 _ rfl rfl
     have f16 : ux12 16 = (vI (wr (s4.2 + 3))) := hp 1 _ rfl rfl
     exact s_indexFull hE Za (dl rfl) (lk rfl f14) (lk rfl f16) Try.underlying50 ty5 hi24.1 fun a hE => ⟨Kept.refl _ _, _, _, rfl, hE, rfl⟩
    ·intro a w ux12 hE hM hp
     have f17 : ux12 17 = (ptr pb1 (0 + ((wr (s4.2 + 3))).toNat * 1)) := hp 0 _ rfl rfl
     exact Zv (v := (vB x22)) hE Za (dl rfl) (lk rfl f17) ty5 rfl (At.vec (hM.rawAt (pre := [])) hi24.2) fun a hE => ⟨Kept.refl _ _, _, _, rfl, hE, rfl⟩
    ·intro a w ux12 hE hM hp
     have f3 : ux12 3 = (vB x13) := hp 0 _ rfl rfl
     exact Ze hE Za (dl rfl) (lk rfl f3) fun a hE => ⟨Kept.refl _ _, _, _, rfl, hE, rfl⟩
    ·intro a w ux12 hE hM hp
     have f8 : ux12 8 = (vB x16) := hp 0 _ rfl rfl
     exact Ze hE Za (dl rfl) (lk rfl f8) fun a hE => ⟨Kept.refl _ _, _, _, rfl, hE, rfl⟩
    ·intro a w ux12 hE hM hp
     have f13 : ux12 13 = (vB x19) := hp 0 _ rfl rfl
     exact Ze hE Za (dl rfl) (lk rfl f13) fun a hE => ⟨Kept.refl _ _, _, _, rfl, hE, rfl⟩
    ·intro a w ux12 hE hM hp
     have f18 : ux12 18 = (vB x22) := hp 0 _ rfl rfl
     exact Ze hE Za (dl rfl) (lk rfl f18) fun a hE => ⟨Kept.refl _ _, _, _, rfl, hE, rfl⟩
    ·intro a w ux12 hE hM hg
     have hE := hE.sub (e' := [(5, (vB x13)), (6, (vB x16)), (7, (vB x19)), (8, (vB x22)), (0, v0_1), (1, (Value.slice (some ⟨pb1, 0, none⟩) 16 16)), (4, (vI s4.2)), (10, (vI s4.2)), (11, (Value.slice (some ⟨pb1, 0, none⟩) 16 16)), (12, (vI (s4.1.toList.length : Int))), (13, (vT (decide (s4.2 < (s4.1.toList.length : Int)))))]) ⟨lk rfl (hg 19 (by decide)), lk rfl (hg 20 (by decide)), lk rfl (hg 21 (by decide)), lk rfl (hg 22 (by decide)), rfl, rfl, rfl, rfl, rfl, rfl, rfl, trivial⟩
     refine Zj ?_
     have ht25 := Option.some.inj hl10
     subst ht25
     refine Zl ?_
     exact ⟨hE.sub ⟨rfl, rfl, rfl, rfl, rfl, rfl, rfl, trivial⟩, hM⟩
   ·skip
    rintro a w ⟨hE, hM⟩
    refine Zc (Zd hE Za (dl rfl) rfl ?_); intro a hE
    refine Zf ?_
    obtain ⟨j26, hl27, hF28⟩ := bind_some hF11
    refine ZV (fun a w => Env 79 a [(0, v0_1), (1, (Value.slice (some ⟨pb1, 0, none⟩) 16 16)), (4, (vI s4.2))] ∧ M St W w (raw pb1 (Flat.enc j26) :: its)) ?_ ?_
    ·skip
     refine wp_block ?_
     refine ZN (fun (s29 : (Vector UInt8 16) × Int) a w => Env 79 a [(0, v0_1), (1, (Value.slice (some ⟨pb1, 0, none⟩) 16 16)), (4, (vI s4.2)), (5, (vB j9.1)), (6, (vB j9.2.1)), (7, (vB j9.2.2.1)), (8, (vB j9.2.2.2)), (35, (vI s29.2))] ∧ M St W w (raw pb1 (Flat.enc s29.1) :: its)) hl27 ⟨hE.sub ⟨rfl, rfl, rfl, rfl, rfl, rfl, rfl, rfl, trivial⟩, hM⟩ ?_
     rintro s29 a w ⟨hE, hM⟩ o32 hs30 hx31
     unfold Xw at hs30
     refine Zc (Zh hE Za (dl rfl) rfl rfl rfl ?_); intro a hE
     refine Zf (wp_seq ?_)
     refine Zt hE rfl ?_ ?_
     ·intro hb33
      have hs30 := ZA hs30 hb33
      refine wp_skip (Zx (wp_seq (wp_block (Zc (Zd hE Za (dl rfl) rfl ?_))))); intro a hE
      refine Ze hE Za (dl rfl) rfl ?_; intro a hE
      refine Zf ?_
      obtain ⟨pb35, ds36, hv37, hx38, hA39, hB40⟩ := Ua hv0_1 -- ^
      obtain ⟨rfl, _⟩ := sat_flat.1 hx38 -- ^
      obtain ⟨x42, e43, hs30⟩ := bind_some hs30
      have hi41 := Zi e43
      obtain ⟨x45, e46, hs30⟩ := bind_some hs30
      have hi44 := Zi e46
      obtain ⟨x48, e49, hs30⟩ := bind_some hs30
      have hi47 := Zi e49
      obtain ⟨pb50, ds51, hv52, hx53, hA54, hB55⟩ := Ua hv0_1 -- ^
      obtain ⟨rfl, _⟩ := sat_flat.1 hx53 -- ^
      obtain ⟨x57, e58, hs30⟩ := bind_some hs30
      have hi56 := Zi e58
      obtain ⟨x60, e61, hs30⟩ := bind_some hs30
      have hi59 := Zi e61
      obtain ⟨x63, e64, hs30⟩ := bind_some hs30
      have hi62 := Zi e64
      obtain ⟨pb65, ds66, hv67, hx68, hA69, hB70⟩ := Ua hv0_1 -- ^
      obtain ⟨rfl, _⟩ := sat_flat.1 hx68 -- ^
      obtain ⟨x72, e73, hs30⟩ := bind_some hs30
      have hi71 := Zi e73
      obtain ⟨x75, e76, hs30⟩ := bind_some hs30
      have hi74 := Zi e76
      obtain ⟨x78, e79, hs30⟩ := bind_some hs30
      have hi77 := Zi e79
      obtain ⟨pb80, ds81, hv82, hx83, hA84, hB85⟩ := Ua hv0_1 -- ^
      obtain ⟨rfl, _⟩ := sat_flat.1 hx83 -- ^
      obtain ⟨x87, e88, hs30⟩ := bind_some hs30
      have hi86 := Zi e88
      obtain ⟨x90, e91, hs30⟩ := bind_some hs30
      have hi89 := Zi e91
      obtain ⟨x93, e94, hs30⟩ := bind_some hs30
      have hi92 := Zi e94
      obtain ⟨x95, e96, hs30⟩ := bind_some hs30
      have hi97 := Zi e96
      refine Yd (n := 79) (hd := [_, _, _, _, _, _, _, _, _, _, _, _, _, _, _, _, _, _, _, _, _, _, _, _, _, _, _, _, _, _, _, _, _, _, _, _, _, _, _, _]) (tl := [_]) YB rfl rfl [38, 39, 40, 41, 42, 43, 44, 45, 46, 47, 48, 49, 50, 51, 52, 53, 54, 55, 56, 57, 58, 59, 60, 61, 62, 63, 64, 65, 66, 67, 68, 69, 70, 71, 72, 73, 74, 75, 76, 77] (by decide) (fun w => M St W w (raw pb1 (Flat.enc s29.1) :: its)) (fun j => ([fun v _ => v = (Value.slice (some ⟨pb1, 0, none⟩) 16 16), fun v _ => v = (vI s4.2), fun v _ => v = (vI s29.2), fun v _ => v = (vI (wr (s4.2 + s29.2))), fun v _ => v = v0_1, fun v _ => v = (vI s29.2), fun v _ => v = (vB j9.1), fun v _ => v = (ptr pb35 0), fun v _ => v = (ptr pb35 (0 + (s29.2).toNat * 1024)), fun v _ => v = (ptr pb35 (0 + (s29.2).toNat * 1024 + ((0 : Int)).toNat * 256)), fun v _ => v = (ptr pb35 (0 + (s29.2).toNat * 1024 + ((0 : Int)).toNat * 256 + ((bI j9.1)).toNat * 1)), fun v _ => v = (vB x48), fun v _ => v = v0_1, fun v _ => v = (vI s29.2), fun v _ => v = (vB j9.2.1), fun v _ => v = (ptr pb50 0), fun v _ => v = (ptr pb50 (0 + (s29.2).toNat * 1024)), fun v _ => v = (ptr pb50 (0 + (s29.2).toNat * 1024 + ((1 : Int)).toNat * 256)), fun v _ => v = (ptr pb50 (0 + (s29.2).toNat * 1024 + ((1 : Int)).toNat * 256 + ((bI j9.2.1)).toNat * 1)), fun v _ => v = (vB x63), fun v _ => v = (vB (x48 ^^^ x63)), fun v _ => v = v0_1, fun v _ => v = (vI s29.2), fun v _ => v = (vB j9.2.2.1), fun v _ => v = (ptr pb65 0), fun v _ => v = (ptr pb65 (0 + (s29.2).toNat * 1024)), fun v _ => v = (ptr pb65 (0 + (s29.2).toNat * 1024 + ((2 : Int)).toNat * 256)), fun v _ => v = (ptr pb65 (0 + (s29.2).toNat * 1024 + ((2 : Int)).toNat * 256 + ((bI j9.2.2.1)).toNat * 1)), fun v _ => v = (vB x78), fun v _ => v = (vB ((x48 ^^^ x63) ^^^ x78)), fun v _ => v = v0_1, fun v _ => v = (vI s29.2), fun v _ => v = (vB j9.2.2.2), fun v _ => v = (ptr pb80 0), fun v _ => v = (ptr pb80 (0 + (s29.2).toNat * 1024)), fun v _ => v = (ptr pb80 (0 + (s29.2).toNat * 1024 + ((3 : Int)).toNat * 256)), fun v _ => v = (ptr pb80 (0 + (s29.2).toNat * 1024 + ((3 : Int)).toNat * 256 + ((bI j9.2.2.2)).toNat * 1)), fun v _ => v = (vB x93), fun v _ => v = (vB (((x48 ^^^ x63) ^^^ x78) ^^^ x93)), fun v _ => v = (ptr pb1 (0 + ((wr (s4.2 + s29.2))).toNat * 1))] : List (Value → World → Prop)).getD j (fun _ _ => True)) (fun _ _ h hk => h.keep hk) (gup (Zg (Zg (Zg (Zg (Zg (Zg (Zg (Zg (Zg (Zg (Zg (Zg (Zg (Zg (Zg (Zg (Zg (Zg (Zg (Zg (Zg (Zg (Zg (Zg (Zg (Zg (Zg (Zg (Zg (Zg (Zg (Zg (Zg (Zg (Zg (Zg (Zg (Zg (Zg (Zg Wu))))))))))))))))))))))))))))))))))))))))) hE hM.drew (ZH (Zb ?_ (Zb ?_ (Zb ?_ (Zb ?_ (Zb ?_ (Zb ?_ (Zb ?_ (Zb ?_ (Zb ?_ (Zb ?_ (Zb ?_ (Zb ?_ (Zb ?_ (Zb ?_ (Zb ?_ (Zb ?_ (Zb ?_ (Zb ?_ (Zb ?_ (Zb ?_ (Zb ?_ (Zb ?_ (Zb ?_ (Zb ?_ (Zb ?_ (Zb ?_ (Zb ?_ (Zb ?_ (Zb ?_ (Zb ?_ (Zb ?_ (Zb ?_ (Zb ?_ (Zb ?_ (Zb ?_ (Zb ?_ (Zb ?_ (Zb ?_ (Zb ?_ (Zb ?_ ZD))))))))))))))))))))))))))))))))))))))))) ?_
      ·exact fun a w ux34 hE hM hp => Zd hE Za (dl rfl) rfl fun a hE => ⟨Kept.refl _ _, _, _, rfl, hE, rfl⟩
      ·exact fun a w ux34 hE hM hp => Zd hE Za (dl rfl) rfl fun a hE => ⟨Kept.refl _ _, _, _, rfl, hE, rfl⟩
      ·exact fun a w ux34 hE hM hp => Zd hE Za (dl rfl) rfl fun a hE => ⟨Kept.refl _ _, _, _, rfl, hE, rfl⟩
      ·intro a w ux34 hE hM hp
       have f1 : ux34 1 = (vI s4.2) := hp 0 _ rfl rfl
       have f2 : ux34 2 = (vI s29.2) := hp 1 _ rfl rfl
       exact Zh hE Za (dl rfl) (lk rfl f1) (lk rfl f2) rfl fun a hE => ⟨Kept.refl _ _, _, _, rfl, hE, rfl⟩
      ·exact fun a w ux34 hE hM hp => Zd hE Za (dl rfl) rfl fun a hE => ⟨Kept.refl _ _, _, _, rfl, hE, rfl⟩
      ·exact fun a w ux34 hE hM hp => Zd hE Za (dl rfl) rfl fun a hE => ⟨Kept.refl _ _, _, _, rfl, hE, rfl⟩
      ·exact fun a w ux34 hE hM hp => Zd hE Za (dl rfl) rfl fun a hE => ⟨Kept.refl _ _, _, _, rfl, hE, rfl⟩
      ·intro a w ux34 hE hM hp
       have f4 : ux34 4 = v0_1 := hp 0 _ rfl rfl
       exact XG hE Za (dl rfl) (lk (lk rfl f4) hv37) fun a hE => ⟨Kept.refl _ _, _, _, rfl, hE, rfl⟩
      ·intro a w ux34 hE hM hp
       have f5 : ux34 5 = (vI s29.2) := hp 1 _ rfl rfl
       have f7 : ux34 7 = (ptr pb35 0) := hp 0 _ rfl rfl
       exact Zm hE Za (dl rfl) (lk rfl f7) (lk rfl f5) Try.underlying168 ty166 hi41.1 fun a hE => ⟨Kept.refl _ _, _, _, rfl, hE, rfl⟩
      ·intro a w ux34 hE hM hp
       have f8 : ux34 8 = (ptr pb35 (0 + (s29.2).toNat * 1024)) := hp 0 _ rfl rfl
       exact Zm hE Za (dl rfl) (lk rfl f8) rfl Try.underlying166 ty96 hi44.1 fun a hE => ⟨Kept.refl _ _, _, _, rfl, hE, rfl⟩
      ·intro a w ux34 hE hM hp
       have f6 : ux34 6 = (vB j9.1) := hp 1 _ rfl rfl
       have f9 : ux34 9 = (ptr pb35 (0 + (s29.2).toNat * 1024 + ((0 : Int)).toNat * 256)) := hp 0 _ rfl rfl
       exact Zm hE Za (dl rfl) (lk rfl f9) (lk rfl f6) Try.underlying96 ty5 hi47.1 fun a hE => ⟨Kept.refl _ _, _, _, rfl, hE, rfl⟩
      ·intro a w ux34 hE hM hp
       have f10 : ux34 10 = (ptr pb35 (0 + (s29.2).toNat * 1024 + ((0 : Int)).toNat * 256 + ((bI j9.1)).toNat * 1)) := hp 0 _ rfl rfl
       exact Zv (v := (vB x48)) hE Za (dl rfl) (lk rfl f10) ty5 rfl (At.vec (At.vec (At.vec (hM.atk hA39 hB40) hi41.2) hi44.2) hi47.2) fun a hE => ⟨Kept.refl _ _, _, _, rfl, hE, rfl⟩
      ·exact fun a w ux34 hE hM hp => Zd hE Za (dl rfl) rfl fun a hE => ⟨Kept.refl _ _, _, _, rfl, hE, rfl⟩
      ·exact fun a w ux34 hE hM hp => Zd hE Za (dl rfl) rfl fun a hE => ⟨Kept.refl _ _, _, _, rfl, hE, rfl⟩
      ·exact fun a w ux34 hE hM hp => Zd hE Za (dl rfl) rfl fun a hE => ⟨Kept.refl _ _, _, _, rfl, hE, rfl⟩
      ·intro a w ux34 hE hM hp
       have f12 : ux34 12 = v0_1 := hp 0 _ rfl rfl
       exact XG hE Za (dl rfl) (lk (lk rfl f12) hv52) fun a hE => ⟨Kept.refl _ _, _, _, rfl, hE, rfl⟩
      ·intro a w ux34 hE hM hp
       have f13 : ux34 13 = (vI s29.2) := hp 1 _ rfl rfl
       have f15 : ux34 15 = (ptr pb50 0) := hp 0 _ rfl rfl
       exact Zm hE Za (dl rfl) (lk rfl f15) (lk rfl f13) Try.underlying168 ty166 hi56.1 fun a hE => ⟨Kept.refl _ _, _, _, rfl, hE, rfl⟩
      ·intro a w ux34 hE hM hp
       have f16 : ux34 16 = (ptr pb50 (0 + (s29.2).toNat * 1024)) := hp 0 _ rfl rfl
       exact Zm hE Za (dl rfl) (lk rfl f16) rfl Try.underlying166 ty96 hi59.1 fun a hE => ⟨Kept.refl _ _, _, _, rfl, hE, rfl⟩
      ·intro a w ux34 hE hM hp
       have f14 : ux34 14 = (vB j9.2.1) := hp 1 _ rfl rfl
       have f17 : ux34 17 = (ptr pb50 (0 + (s29.2).toNat * 1024 + ((1 : Int)).toNat * 256)) := hp 0 _ rfl rfl
       exact Zm hE Za (dl rfl) (lk rfl f17) (lk rfl f14) Try.underlying96 ty5 hi62.1 fun a hE => ⟨Kept.refl _ _, _, _, rfl, hE, rfl⟩
      ·intro a w ux34 hE hM hp
       have f18 : ux34 18 = (ptr pb50 (0 + (s29.2).toNat * 1024 + ((1 : Int)).toNat * 256 + ((bI j9.2.1)).toNat * 1)) := hp 0 _ rfl rfl
       exact Zv (v := (vB x63)) hE Za (dl rfl) (lk rfl f18) ty5 rfl (At.vec (At.vec (At.vec (hM.atk hA54 hB55) hi56.2) hi59.2) hi62.2) fun a hE => ⟨Kept.refl _ _, _, _, rfl, hE, rfl⟩
      ·intro a w ux34 hE hM hp
       have f11 : ux34 11 = (vB x48) := hp 0 _ rfl rfl
       have f19 : ux34 19 = (vB x63) := hp 1 _ rfl rfl
       exact Zh hE Za (dl rfl) (lk rfl f11) (lk rfl f19) (Vo x48 x63) fun a hE => ⟨Kept.refl _ _, _, _, rfl, hE, rfl⟩
      ·exact fun a w ux34 hE hM hp => Zd hE Za (dl rfl) rfl fun a hE => ⟨Kept.refl _ _, _, _, rfl, hE, rfl⟩
      ·exact fun a w ux34 hE hM hp => Zd hE Za (dl rfl) rfl fun a hE => ⟨Kept.refl _ _, _, _, rfl, hE, rfl⟩
      ·exact fun a w ux34 hE hM hp => Zd hE Za (dl rfl) rfl fun a hE => ⟨Kept.refl _ _, _, _, rfl, hE, rfl⟩
      ·intro a w ux34 hE hM hp
       have f21 : ux34 21 = v0_1 := hp 0 _ rfl rfl
       exact XG hE Za (dl rfl) (lk (lk rfl f21) hv67) fun a hE => ⟨Kept.refl _ _, _, _, rfl, hE, rfl⟩
      ·intro a w ux34 hE hM hp
       have f22 : ux34 22 = (vI s29.2) := hp 1 _ rfl rfl
       have f24 : ux34 24 = (ptr pb65 0) := hp 0 _ rfl rfl
       exact Zm hE Za (dl rfl) (lk rfl f24) (lk rfl f22) Try.underlying168 ty166 hi71.1 fun a hE => ⟨Kept.refl _ _, _, _, rfl, hE, rfl⟩
      ·intro a w ux34 hE hM hp
       have f25 : ux34 25 = (ptr pb65 (0 + (s29.2).toNat * 1024)) := hp 0 _ rfl rfl
       exact Zm hE Za (dl rfl) (lk rfl f25) rfl Try.underlying166 ty96 hi74.1 fun a hE => ⟨Kept.refl _ _, _, _, rfl, hE, rfl⟩
      ·intro a w ux34 hE hM hp
       have f23 : ux34 23 = (vB j9.2.2.1) := hp 1 _ rfl rfl
       have f26 : ux34 26 = (ptr pb65 (0 + (s29.2).toNat * 1024 + ((2 : Int)).toNat * 256)) := hp 0 _ rfl rfl
       exact Zm hE Za (dl rfl) (lk rfl f26) (lk rfl f23) Try.underlying96 ty5 hi77.1 fun a hE => ⟨Kept.refl _ _, _, _, rfl, hE, rfl⟩
      ·intro a w ux34 hE hM hp
       have f27 : ux34 27 = (ptr pb65 (0 + (s29.2).toNat * 1024 + ((2 : Int)).toNat * 256 + ((bI j9.2.2.1)).toNat * 1)) := hp 0 _ rfl rfl
       exact Zv (v := (vB x78)) hE Za (dl rfl) (lk rfl f27) ty5 rfl (At.vec (At.vec (At.vec (hM.atk hA69 hB70) hi71.2) hi74.2) hi77.2) fun a hE => ⟨Kept.refl _ _, _, _, rfl, hE, rfl⟩
      ·intro a w ux34 hE hM hp
       have f20 : ux34 20 = (vB (x48 ^^^ x63)) := hp 0 _ rfl rfl
       have f28 : ux34 28 = (vB x78) := hp 1 _ rfl rfl
       exact Zh hE Za (dl rfl) (lk rfl f20) (lk rfl f28) (Vo (x48 ^^^ x63) x78) fun a hE => ⟨Kept.refl _ _, _, _, rfl, hE, rfl⟩
      ·exact fun a w ux34 hE hM hp => Zd hE Za (dl rfl) rfl fun a hE => ⟨Kept.refl _ _, _, _, rfl, hE, rfl⟩
      ·exact fun a w ux34 hE hM hp => Zd hE Za (dl rfl) rfl fun a hE => ⟨Kept.refl _ _, _, _, rfl, hE, rfl⟩
      ·exact fun a w ux34 hE hM hp => Zd hE Za (dl rfl) rfl fun a hE => ⟨Kept.refl _ _, _, _, rfl, hE, rfl⟩
      ·intro a w ux34 hE hM hp
       have f30 : ux34 30 = v0_1 := hp 0 _ rfl rfl
       exact XG hE Za (dl rfl) (lk (lk rfl f30) hv82) fun a hE => ⟨Kept.refl _ _, _, _, rfl, hE, rfl⟩
      ·intro a w ux34 hE hM hp
       have f31 : ux34 31 = (vI s29.2) := hp 1 _ rfl rfl
       have f33 : ux34 33 = (ptr pb80 0) := hp 0 _ rfl rfl
       exact Zm hE Za (dl rfl) (lk rfl f33) (lk rfl f31) Try.underlying168 ty166 hi86.1 fun a hE => ⟨Kept.refl _ _, _, _, rfl, hE, rfl⟩
      ·intro a w ux34 hE hM hp
       have f34 : ux34 34 = (ptr pb80 (0 + (s29.2).toNat * 1024)) := hp 0 _ rfl rfl
       exact Zm hE Za (dl rfl) (lk rfl f34) rfl Try.underlying166 ty96 hi89.1 fun a hE => ⟨Kept.refl _ _, _, _, rfl, hE, rfl⟩
      ·intro a w ux34 hE hM hp
       have f32 : ux34 32 = (vB j9.2.2.2) := hp 1 _ rfl rfl
       have f35 : ux34 35 = (ptr pb80 (0 + (s29.2).toNat * 1024 + ((3 : Int)).toNat * 256)) := hp 0 _ rfl rfl
       exact Zm hE Za (dl rfl) (lk rfl f35) (lk rfl f32) Try.underlying96 ty5 hi92.1 fun a hE => ⟨Kept.refl _ _, _, _, rfl, hE, rfl⟩
      ·intro a w ux34 hE hM hp
       have f36 : ux34 36 = (ptr pb80 (0 + (s29.2).toNat * 1024 + ((3 : Int)).toNat * 256 + ((bI j9.2.2.2)).toNat * 1)) := hp 0 _ rfl rfl
       exact Zv (v := (vB x93)) hE Za (dl rfl) (lk rfl f36) ty5 rfl (At.vec (At.vec (At.vec (hM.atk hA84 hB85) hi86.2) hi89.2) hi92.2) fun a hE => ⟨Kept.refl _ _, _, _, rfl, hE, rfl⟩
      ·intro a w ux34 hE hM hp
       have f29 : ux34 29 = (vB ((x48 ^^^ x63) ^^^ x78)) := hp 0 _ rfl rfl
       have f37 : ux34 37 = (vB x93) := hp 1 _ rfl rfl
       exact Zh hE Za (dl rfl) (lk rfl f29) (lk rfl f37) (Vo ((x48 ^^^ x63) ^^^ x78) x93) fun a hE => ⟨Kept.refl _ _, _, _, rfl, hE, rfl⟩
      ·intro a w ux34 hE hM hp
       have f0 : ux34 0 = (Value.slice (some ⟨pb1, 0, none⟩) 16 16) := hp 0 _ rfl rfl
       have f3 : ux34 3 = (vI (wr (s4.2 + s29.2))) := hp 1 _ rfl rfl
       exact s_indexFull hE Za (dl rfl) (lk rfl f0) (lk rfl f3) Try.underlying50 ty5 hi97.1 fun a hE => ⟨Kept.refl _ _, _, _, rfl, hE, rfl⟩
      ·intro a w ux34 hE hM hg
       have hE := hE.sub (e' := [(76, (vB (((x48 ^^^ x63) ^^^ x78) ^^^ x93))), (77, (ptr pb1 (0 + ((wr (s4.2 + s29.2))).toNat * 1))), (0, v0_1), (1, (Value.slice (some ⟨pb1, 0, none⟩) 16 16)), (4, (vI s4.2)), (5, (vB j9.1)), (6, (vB j9.2.1)), (7, (vB j9.2.2.1)), (8, (vB j9.2.2.2)), (9, (vI s29.2)), (35, (vI s29.2)), (36, (vT (decide (s29.2 < 4)))), (37, (vI s29.2))]) ⟨lk rfl (hg 38 (by decide)), lk rfl (hg 39 (by decide)), rfl, rfl, rfl, rfl, rfl, rfl, rfl, rfl, rfl, rfl, rfl, trivial⟩
       refine Zs (seg := [(vB (((x48 ^^^ x63) ^^^ x78) ^^^ x93))]) (cs' := Flat.enc (s29.1.setIfInBounds ((wr (s4.2 + s29.2))).toNat (((x48 ^^^ x63) ^^^ x78) ^^^ x93))) hE hM Za rfl rfl rfl ty5 rfl (ZT (v := s29.1) (x := ((x48 ^^^ x63) ^^^ x78) ^^^ x93) hi97.1) (Flat.cell (((x48 ^^^ x63) ^^^ x78) ^^^ x93 : UInt8)) (ZI (v := s29.1) (x := ((x48 ^^^ x63) ^^^ x78) ^^^ x93) hi97.1) ?_; intro w a hM hE
       refine Zj (Yk (Zx (wp_region_lit (Zh hE Za (dl rfl) rfl rfl rfl ?_)))); intro a hE
       refine Zd hE Za (dl rfl) rfl ?_; intro a hE
       refine Zj (Zl ?_)
       exact ⟨_, (Option.some.inj hs30).symm, hE.sub ⟨rfl, rfl, rfl, rfl, rfl, rfl, rfl, rfl, trivial⟩, hM⟩
     ·intro hb33
      have hs30 := Zz hs30 hb33
      refine wp_exit (Zr (Zr (Yj ?_)))
      have ht98 := hx31 _ (Option.some.inj hs30).symm
      subst ht98
      refine Zl ?_
      exact ⟨hE.sub ⟨rfl, rfl, rfl, trivial⟩, hM⟩
    ·skip
     rintro a w ⟨hE, hM⟩
     refine Yk (Zx (wp_region_lit (Zd hE Za (dl rfl) rfl ?_))); intro a hE
     refine Zh hE Za (dl rfl) rfl rfl rfl ?_; intro a hE
     refine Ze hE Za (dl rfl) rfl ?_; intro a hE
     refine Zj (Zl ?_)
     exact ⟨_, (Option.some.inj hF28).symm, hE.sub ⟨rfl, rfl, rfl, trivial⟩, hM⟩
  ·intro hb8
   have hs5 := Zz hs5 hb8
   refine wp_exit (Zr (Zr (Yj ?_)))
   have ht99 := hx6 _ (Option.some.inj hs5).symm
   subst ht99
   refine Zl ?_
   exact ⟨hE.sub ⟨rfl, trivial⟩, hM⟩
 ·skip
  rintro a w ⟨hE, hM⟩
  have hr := Option.some.inj hF3
  subst hr
  exact k_ret0n hE (by rfl) ⟨_, rfl, rfl, hM⟩
noncomputable def Yg (p0 : (Ref Gengine)) (s18 : (Vector UInt8 16) × Int) (s29 : (Vector UInt8 16) × Int) : Option (Fl ((Vector UInt8 16) × Int) (Vector UInt8 16)) :=
 if (decide (s29.2 < 16)) = true then ((ZM s18.1 s29.2).bind fun x34 => (ZM p0.v.box (bI x34)).bind fun x48 => (ZM s29.1 s29.2).bind fun x51 => some (Fl.nx ((s29.1.setIfInBounds (s29.2).toNat x48), wr (s29.2 + 1)))) else (some (Fl.ex s29.1))
noncomputable def Yh (p0 : (Ref Gengine)) (p1 : (List (Vector UInt8 16))) (s18 : (Vector UInt8 16) × Int) : Option (Fl ((Vector UInt8 16) × Int) (Vector UInt8 16)) :=
 if (decide (s18.2 < (p1.length : Int))) = true then (((ZF (Yg p0 s18) (s18.1, 0) : Option ((Vector UInt8 16))).bind fun j26 => ((Wa p0.v.places j26).bind fun r68 => some r68 : Option ((Vector UInt8 16))).bind fun j54 => (if (decide (s18.2 < (wr ((p1.length : Int) - 1)))) = true then ((slc j54.toList (0 : Int) (16 : Int)).bind fun l86 => (WH p0.v.mixer j54).bind fun r89 => some r89) else (some j54) : Option ((Vector UInt8 16))).bind fun j71 => (idx p1 s18.2).bind fun x94 => (Yl j71 x94).bind fun r97 => some r97 : Option ((Vector UInt8 16))).bind fun j23 => some (Fl.nx (j23, wr (s18.2 + 1)))) else (some (Fl.ex s18.1))
noncomputable def Yu (p0 : (Ref Gengine)) (p1 : (List (Vector UInt8 16))) (p2 : (Vector UInt8 16)) : Option ((Vector UInt8 16)) :=
 ((idx p1 (0 : Int)).bind fun x9 => (Yl p2 x9).bind fun r12 => some r12 : Option ((Vector UInt8 16))).bind fun j5 => (ZF (Yh p0 p1) (j5, 1) : Option ((Vector UInt8 16))).bind fun j15 => some j15
theorem c_impl_engine_encipherWith (w0 : World) (p0 : (Ref Gengine)) (v0_1 : Value) (hv0_1 : Ro w0 p0 [v0_1]) (p1 : (List (Vector UInt8 16))) (v1_1 : Value) (hv1_1 : Ro w0 p1 [v1_1]) (p2 : (Vector UInt8 16)) (r : (Vector UInt8 16)) (hF : Yu p0 p1 p2 = some r) :
  Calls Try.prog 129 [v0_1, v1_1, (Value.agg (Flat.enc p2).toArray)].toArray w0 (fun en w' => ∃ v, en = .returned v ∧ (v = (Value.agg (Flat.enc r).toArray) ∧ Kept (Old w0) w0 w')) := by
 refine ZC (n := 59) Try.func129 rfl rfl (Nat.le_of_ble_eq_true rfl) rfl ?_
 intro a hE
 have hM := M.start w0
 unfold Yu at hF
 refine Zc (Z4 (cs := Flat.enc p2) hE hM Za (dl rfl) rfl rfl ?_); intro b1 w a hM hE
 refine ZO hE hM Za (dl rfl) ZP ?_; intro b3 w a hM hE
 refine Zf ?_
 obtain ⟨j5, hl6, hF7⟩ := bind_some hF
 refine ZS (fun a w => Env 59 a [(0, v0_1), (1, v1_1), (5, (ptr b1 0)), (6, (ptr b3 0))] ∧ M (Old w0) w0 w [raw b3 (Flat.enc (Vector.replicate 16 (0 : UInt8))), raw b1 (Flat.enc j5)]) ?_ ?_
 ·skip
  obtain ⟨x9, e10, hl6⟩ := bind_some hl6
  have hi11 := ZQ e10
  obtain ⟨r12, e13, hl6⟩ := bind_some hl6
  refine Yd (n := 59) (hd := [_, _, _, _, _]) (tl := [_]) YB rfl rfl [10, 11, 12, 13, 14] (by decide) (fun w => M (Old w0) w0 w [raw b3 (Flat.enc (Vector.replicate 16 (0 : UInt8))), raw b1 (Flat.enc p2)]) (fun j => ([fun v _ => v = (Value.agg (Flat.enc p2).toArray), fun v _ => v = v1_1, fun v _ => v = (ptr (sb v1_1) (so v1_1 + ((0 : Int)).toNat * 16)), fun v _ => v = (Value.agg (Flat.enc x9).toArray), fun v _ => v = (Value.agg (Flat.enc r12).toArray)] : List (Value → World → Prop)).getD j (fun _ _ => True)) (fun _ _ h hk => h.keep hk) (gup (Zg (Zg (Zg (Zg (Zg Wu)))))) hE hM.drew (ZH (Zb ?_ (Zb ?_ (Zb ?_ (Zb ?_ (Zb ?_ ZD)))))) ?_
  ·exact fun a w ux8 hE hM hp => Zp (cs := Flat.enc p2) hE Za (dl rfl) rfl ZP rfl (hM.rawAt (pre := [_])) (Flat.len _) fun a hE => ⟨Kept.refl _ _, _, _, rfl, hE, rfl⟩
  ·exact fun a w ux8 hE hM hp => Zd hE Za (dl rfl) rfl fun a hE => ⟨Kept.refl _ _, _, _, rfl, hE, rfl⟩
  ·intro a w ux8 hE hM hp
   have f1 : ux8 1 = v1_1 := hp 0 _ rfl rfl
   exact ZK hE Za (dl rfl) (lk rfl f1) rfl Try.underlying34 ZP (hM.rd hv1_1) hi11.1 fun a hE => ⟨Kept.refl _ _, _, _, rfl, hE, rfl⟩
  ·intro a w ux8 hE hM hp
   have f2 : ux8 2 = (ptr (sb v1_1) (so v1_1 + ((0 : Int)).toNat * 16)) := hp 0 _ rfl rfl
   exact Zp (cs := Flat.enc x9) hE Za (dl rfl) (lk rfl f2) ZP rfl (Yt (hM.rd hv1_1) hi11.2) (Flat.len _) fun a hE => ⟨Kept.refl _ _, _, _, rfl, hE, rfl⟩
  ·intro a w ux8 hE hM hp
   have f0 : ux8 0 = (Value.agg (Flat.enc p2).toArray) := hp 0 _ rfl rfl
   have f3 : ux8 3 = (Value.agg (Flat.enc x9).toArray) := hp 1 _ rfl rfl
   refine Zw (vs := [(Value.agg (Flat.enc p2).toArray), (Value.agg (Flat.enc x9).toArray)]) hE Za (dl rfl) (Z0 (ZY (lk rfl f0) (ZY (lk rfl f3) Xf))) cb114 (XS _ p2 x9 r12 e13) ?_
   rintro v w a ⟨rfl, hK⟩ hE
   exact ⟨hK, _, _, rfl, hE, rfl⟩
  ·intro a w ux8 hE hM hg
   have hE := hE.sub (e' := [(14, (Value.agg (Flat.enc r12).toArray)), (0, v0_1), (1, v1_1), (2, (Value.agg (Flat.enc p2).toArray)), (5, (ptr b1 0)), (6, (ptr b3 0))]) ⟨lk rfl (hg 4 (by decide)), rfl, rfl, rfl, rfl, rfl, trivial⟩
   have hM := hM.pull (pre := [_])
   refine Zs (seg := Flat.enc r12) (cs' := Flat.enc r12) hE hM Za rfl rfl rfl ZP (Flat.len _) (zle flq) (Flat.cell _) (Zq flq) ?_; intro w a hM hE
   refine Zj ?_
   have ht14 := Option.some.inj hl6
   subst ht14
   refine Zl ?_
   have hM := hM.pull (pre := [_])
   exact ⟨hE.sub ⟨rfl, rfl, rfl, rfl, trivial⟩, hM⟩
 ·skip
  rintro a w ⟨hE, hM⟩
  refine wp_seq (Zc (Ze hE Za (dl rfl) rfl ?_)); intro a hE
  refine Zf ?_
  obtain ⟨j15, hl16, hF17⟩ := bind_some hF7
  refine ZV (fun a w => Env 59 a [(5, (ptr b1 0)), (6, (ptr b3 0))] ∧ M (Old w0) w0 w [raw b3 (Flat.enc (Vector.replicate 16 (0 : UInt8))), raw b1 (Flat.enc j15)]) ?_ ?_
  ·skip
   refine wp_block ?_
   refine ZN (fun (s18 : (Vector UInt8 16) × Int) a w => Env 59 a [(0, v0_1), (1, v1_1), (5, (ptr b1 0)), (6, (ptr b3 0)), (7, (vI s18.2))] ∧ M (Old w0) w0 w [raw b3 (Flat.enc (Vector.replicate 16 (0 : UInt8))), raw b1 (Flat.enc s18.1)]) hl16 ⟨hE.sub ⟨rfl, rfl, rfl, rfl, rfl, trivial⟩, hM⟩ ?_
   rintro s18 a w ⟨hE, hM⟩ o21 hs19 hx20
   unfold Yh at hs19
   refine wp_seq (Zc (Zd hE Za (dl rfl) rfl ?_)); intro a hE
   refine Zd hE Za (dl rfl) rfl ?_; intro a hE
   refine Z7 hE Za (dl rfl) rfl Try.underlying34 (hM.rd hv1_1) ?_; intro a hE
   refine Zh hE Za (dl rfl) rfl rfl rfl ?_; intro a hE
   refine Zf ?_
   refine Zt hE rfl ?_ ?_
   ·intro hb22
    have hs19 := ZA hs19 hb22
    refine wp_skip (Zx ?_)
    obtain ⟨j23, hl24, hF25⟩ := bind_some hs19
    refine ZS (fun a w => Env 59 a [(0, v0_1), (1, v1_1), (5, (ptr b1 0)), (6, (ptr b3 0)), (7, (vI s18.2))] ∧ M (Old w0) w0 w [raw b3 (Flat.enc (Vector.replicate 16 (0 : UInt8))), raw b1 (Flat.enc j23)]) ?_ ?_
    ·skip
     refine wp_block (wp_seq (Zc (Zp (cs := Flat.enc s18.1) hE Za (dl rfl) rfl ZP rfl (hM.rawAt (pre := [_])) (Flat.len _) ?_))); intro a hE
     refine Zd hE Za (dl rfl) rfl ?_; intro a hE
     refine Zf ?_
     obtain ⟨j26, hl27, hF28⟩ := bind_some hl24
     refine ZV (fun a w => Env 59 a [(0, v0_1), (1, v1_1), (5, (ptr b1 0)), (6, (ptr b3 0)), (7, (vI s18.2))] ∧ M (Old w0) w0 w [raw b3 (Flat.enc (Vector.replicate 16 (0 : UInt8))), raw b1 (Flat.enc j26)]) ?_ ?_
     ·skip
      refine wp_block ?_
      refine ZN (fun (s29 : (Vector UInt8 16) × Int) a w => Env 59 a [(0, v0_1), (1, v1_1), (5, (ptr b1 0)), (6, (ptr b3 0)), (7, (vI s18.2)), (21, (Value.agg (Flat.enc s18.1).toArray)), (22, (vI s29.2))] ∧ M (Old w0) w0 w [raw b3 (Flat.enc (Vector.replicate 16 (0 : UInt8))), raw b1 (Flat.enc s29.1)]) hl27 ⟨hE.sub ⟨rfl, rfl, rfl, rfl, rfl, rfl, rfl, trivial⟩, hM⟩ ?_
      rintro s29 a w ⟨hE, hM⟩ o32 hs30 hx31
      unfold Yg at hs30
      refine Zc (Zh hE Za (dl rfl) rfl rfl rfl ?_); intro a hE
      refine Zf (wp_seq ?_)
      refine Zt hE rfl ?_ ?_
      ·intro hb33
       have hs30 := ZA hs30 hb33
       refine wp_skip (Zx (wp_seq (wp_block (Zc (Zd hE Za (dl rfl) rfl ?_))))); intro a hE
       obtain ⟨x34, e35, hs30⟩ := bind_some hs30
       have hi36 := Zi e35
       refine s_indexV hE Za (dl rfl) rfl rfl Try.underlying39 ty5 rfl rfl hi36 rfl ?_; intro a hE
       refine Ze hE Za (dl rfl) rfl ?_; intro a hE
       refine Ze hE Za (dl rfl) rfl ?_; intro a hE
       refine Zf (wp_region_lit (Zd hE Za (dl rfl) rfl ?_)); intro a hE
       refine Zd hE Za (dl rfl) rfl ?_; intro a hE
       refine Zd hE Za (dl rfl) rfl ?_; intro a hE
       obtain ⟨pb37, ds38, hv39, hx40, hA41, hB42⟩ := Ua hv0_1 -- ^
       obtain ⟨u43, u45, rfl, h44, h46⟩ := un_Gengine hx40 -- ^
       refine XG hE Za (dl rfl) (lk rfl hv39) ?_; intro a hE
       refine Zo hE Za (dl rfl) rfl (fd152_0) ?_; intro a hE
       obtain ⟨x48, e49, hs30⟩ := bind_some hs30
       have hi47 := Zi e49
       refine Zm hE Za (dl rfl) rfl rfl Try.underlying97 ty5 hi47.1 ?_; intro a hE
       refine Zv (v := (vB x48)) hE Za (dl rfl) rfl ty5 rfl (At.vec (At.cat (pre := []) (hM.atk hA41 hB42) cl0) hi47.2) ?_; intro a hE
       obtain ⟨x51, e52, hs30⟩ := bind_some hs30
       have hi50 := Zi e52
       refine Zm hE Za (dl rfl) rfl rfl Try.underlying39 ty5 hi50.1 ?_; intro a hE
       have hM := hM.pull (pre := [_])
       refine Zs (seg := [(vB x48)]) (cs' := Flat.enc (s29.1.setIfInBounds (s29.2).toNat x48)) hE hM Za rfl rfl rfl ty5 rfl (ZT (v := s29.1) (x := x48) hi50.1) (Flat.cell (x48 : UInt8)) (ZI (v := s29.1) (x := x48) hi50.1) ?_; intro w a hM hE
       refine Zj (Yk (Zx (wp_region_lit (Zh hE Za (dl rfl) rfl rfl rfl ?_)))); intro a hE
       refine Zd hE Za (dl rfl) rfl ?_; intro a hE
       refine Zj (Zl ?_)
       have hM := hM.pull (pre := [_])
       exact ⟨_, (Option.some.inj hs30).symm, hE.sub ⟨rfl, rfl, rfl, rfl, rfl, rfl, rfl, trivial⟩, hM⟩
      ·intro hb33
       have hs30 := Zz hs30 hb33
       refine wp_exit (Zr (Zr (Yj ?_)))
       have ht53 := hx31 _ (Option.some.inj hs30).symm
       subst ht53
       refine Zl ?_
       exact ⟨hE.sub ⟨rfl, rfl, rfl, rfl, rfl, trivial⟩, hM⟩
     ·skip
      rintro a w ⟨hE, hM⟩
      refine Zx ?_
      obtain ⟨j54, hl55, hF56⟩ := bind_some hF28
      refine ZS (fun a w => Env 59 a [(0, v0_1), (1, v1_1), (5, (ptr b1 0)), (6, (ptr b3 0)), (7, (vI s18.2))] ∧ M (Old w0) w0 w [raw b3 (Flat.enc (Vector.replicate 16 (0 : UInt8))), raw b1 (Flat.enc j54)]) ?_ ?_
      ·skip
       obtain ⟨pb58, ds59, hv60, hx61, hA62, hB63⟩ := Ua hv0_1 -- ^
       obtain ⟨u64, u66, rfl, h65, h67⟩ := un_Gengine hx61 -- ^
       obtain ⟨r68, e69, hl55⟩ := bind_some hl55
       refine Yd (n := 59) (hd := [_, _, _, _, _, _]) (tl := [_]) YB rfl rfl [35, 36, 37, 38, 39, 40] (by decide) (fun w => M (Old w0) w0 w [raw b3 (Flat.enc (Vector.replicate 16 (0 : UInt8))), raw b1 (Flat.enc j26)]) (fun j => ([fun v _ => v = v0_1, fun v _ => v = (ptr pb58 0), fun v _ => v = (ptr pb58 (0 + 512)), fun v _ => v = (Value.agg (Flat.enc p0.v.places).toArray), fun v _ => v = (Value.agg (Flat.enc j26).toArray), fun v _ => v = (Value.agg (Flat.enc r68).toArray)] : List (Value → World → Prop)).getD j (fun _ _ => True)) (fun _ _ h hk => h.keep hk) (gup (Zg (Zg (Zg (Zg (Zg (Zg Wu))))))) hE hM.drew (ZH (Zb ?_ (Zb ?_ (Zb ?_ (Zb ?_ (Zb ?_ (Zb ?_ ZD))))))) ?_
       ·exact fun a w ux57 hE hM hp => Zd hE Za (dl rfl) rfl fun a hE => ⟨Kept.refl _ _, _, _, rfl, hE, rfl⟩
       ·intro a w ux57 hE hM hp
        have f0 : ux57 0 = v0_1 := hp 0 _ rfl rfl
        exact XG hE Za (dl rfl) (lk (lk rfl f0) hv60) fun a hE => ⟨Kept.refl _ _, _, _, rfl, hE, rfl⟩
       ·intro a w ux57 hE hM hp
        have f1 : ux57 1 = (ptr pb58 0) := hp 0 _ rfl rfl
        exact Zo hE Za (dl rfl) (lk rfl f1) (fd152_2) fun a hE => ⟨Kept.refl _ _, _, _, rfl, hE, rfl⟩
       ·intro a w ux57 hE hM hp
        have f2 : ux57 2 = (ptr pb58 (0 + 512)) := hp 0 _ rfl rfl
        exact Zp (cs := Flat.enc p0.v.places) hE Za (dl rfl) (lk rfl f2) ty101 rfl (At.cat (pre := [Flat.enc p0.v.box, Flat.enc p0.v.backBox]) (hM.atk hA62 hB63) (cl1 (n := 256) (m := 256) (Flat.len _) (cl1 (n := 256) (m := 0) (Flat.len _) cl0))) (Flat.len _) fun a hE => ⟨Kept.refl _ _, _, _, rfl, hE, rfl⟩
       ·exact fun a w ux57 hE hM hp => Zp (cs := Flat.enc j26) hE Za (dl rfl) rfl ZP rfl (hM.rawAt (pre := [_])) (Flat.len _) fun a hE => ⟨Kept.refl _ _, _, _, rfl, hE, rfl⟩
       ·intro a w ux57 hE hM hp
        have f3 : ux57 3 = (Value.agg (Flat.enc p0.v.places).toArray) := hp 0 _ rfl rfl
        have f4 : ux57 4 = (Value.agg (Flat.enc j26).toArray) := hp 1 _ rfl rfl
        refine Zw (vs := [(Value.agg (Flat.enc p0.v.places).toArray), (Value.agg (Flat.enc j26).toArray)]) hE Za (dl rfl) (Z0 (ZY (lk rfl f3) (ZY (lk rfl f4) Xf))) cb133 (c_impl_Places_move _ p0.v.places j26 r68 e69) ?_
        rintro v w a ⟨rfl, hK⟩ hE
        exact ⟨hK, _, _, rfl, hE, rfl⟩
       ·intro a w ux57 hE hM hg
        have hE := hE.sub (e' := [(40, (Value.agg (Flat.enc r68).toArray)), (0, v0_1), (1, v1_1), (5, (ptr b1 0)), (6, (ptr b3 0)), (7, (vI s18.2))]) ⟨lk rfl (hg 5 (by decide)), rfl, rfl, rfl, rfl, rfl, trivial⟩
        have hM := hM.pull (pre := [_])
        refine Zs (seg := Flat.enc r68) (cs' := Flat.enc r68) hE hM Za rfl rfl rfl ZP (Flat.len _) (zle flq) (Flat.cell _) (Zq flq) ?_; intro w a hM hE
        refine Zj ?_
        have ht70 := Option.some.inj hl55
        subst ht70
        refine Zl ?_
        have hM := hM.pull (pre := [_])
        exact ⟨hE.sub ⟨rfl, rfl, rfl, rfl, rfl, trivial⟩, hM⟩
      ·skip
       rintro a w ⟨hE, hM⟩
       obtain ⟨j71, hl72, hF73⟩ := bind_some hF56
       refine ZS (fun a w => Env 59 a [(0, v0_1), (1, v1_1), (5, (ptr b1 0)), (6, (ptr b3 0)), (7, (vI s18.2))] ∧ M (Old w0) w0 w [raw b3 (Flat.enc (Vector.replicate 16 (0 : UInt8))), raw b1 (Flat.enc j71)]) ?_ ?_
       ·skip
        refine Zc (Zd hE Za (dl rfl) rfl ?_); intro a hE
        refine Zd hE Za (dl rfl) rfl ?_; intro a hE
        refine Z7 hE Za (dl rfl) rfl Try.underlying34 (hM.rd hv1_1) ?_; intro a hE
        refine Zh hE Za (dl rfl) rfl rfl rfl ?_; intro a hE
        refine Zh hE Za (dl rfl) rfl rfl rfl ?_; intro a hE
        refine Zf ?_
        refine Zt hE rfl ?_ ?_
        ·intro hb74
         have hl72 := ZA hl72 hb74
         obtain ⟨pb76, ds77, hv78, hx79, hA80, hB81⟩ := Ua hv0_1 -- ^
         obtain ⟨u82, u84, rfl, h83, h85⟩ := un_Gengine hx79 -- ^
         obtain ⟨l86, e87, hl72⟩ := bind_some hl72
         have hb88 := slc_arr e87 -- ^
         refine Yd (n := 59) (hd := [_, _, _, _, _]) (tl := [_]) YB rfl rfl [46, 47, 48, 49, 50] (by decide) (fun w => M (Old w0) w0 w [raw b3 (Flat.enc (Vector.replicate 16 (0 : UInt8))), raw b1 (Flat.enc j54)]) (fun j => ([fun v _ => v = v0_1, fun v _ => v = (ptr pb76 0), fun v _ => v = (ptr pb76 (0 + 544)), fun v _ => v = u82, fun v _ => v = (Z9 (.slice (some ⟨b1, 0, none⟩) 16 16) ((0 : Int)).toNat ((16 : Int)).toNat 1)] : List (Value → World → Prop)).getD j (fun _ _ => True)) (fun _ _ h hk => h.keep hk) (gup (Zg (Zg (Zg (Zg (Zg Wu)))))) hE hM.drew (ZH (Zb ?_ (Zb ?_ (Zb ?_ (Zb ?_ (Zb ?_ ZD)))))) ?_
         ·exact fun a w ux75 hE hM hp => Zd hE Za (dl rfl) rfl fun a hE => ⟨Kept.refl _ _, _, _, rfl, hE, rfl⟩
         ·intro a w ux75 hE hM hp
          have f0 : ux75 0 = v0_1 := hp 0 _ rfl rfl
          exact XG hE Za (dl rfl) (lk (lk rfl f0) hv78) fun a hE => ⟨Kept.refl _ _, _, _, rfl, hE, rfl⟩
         ·intro a w ux75 hE hM hp
          have f1 : ux75 1 = (ptr pb76 0) := hp 0 _ rfl rfl
          exact Zo hE Za (dl rfl) (lk rfl f1) (fd152_4) fun a hE => ⟨Kept.refl _ _, _, _, rfl, hE, rfl⟩
         ·intro a w ux75 hE hM hp
          have f2 : ux75 2 = (ptr pb76 (0 + 544)) := hp 0 _ rfl rfl
          exact Zv (v := u82) hE Za (dl rfl) (lk rfl f2) ty149 rfl (At.cat (pre := [Flat.enc p0.v.box, Flat.enc p0.v.backBox, Flat.enc p0.v.places, Flat.enc p0.v.backPlaces]) (hM.atk hA80 hB81) (cl1 (n := 256) (m := 288) (Flat.len _) (cl1 (n := 256) (m := 32) (Flat.len _) (cl1 (n := 16) (m := 16) (Flat.len _) (cl1 (n := 16) (m := 0) (Flat.len _) cl0))))) fun a hE => ⟨Kept.refl _ _, _, _, rfl, hE, rfl⟩
         ·exact fun a w ux75 hE hM hp => Um (N := 16) hE Za (dl rfl) rfl rfl rfl rfl rfl Try.underlying39 ty5 hb88 fun a hE => ⟨Kept.refl _ _, _, _, rfl, hE, rfl⟩
         ·intro a w ux75 hE hM hg
          have hE := hE.sub (e' := [(49, u82), (50, (Z9 (.slice (some ⟨b1, 0, none⟩) 16 16) ((0 : Int)).toNat ((16 : Int)).toNat 1)), (0, v0_1), (1, v1_1), (5, (ptr b1 0)), (6, (ptr b3 0)), (7, (vI s18.2)), (41, (vI s18.2)), (42, v1_1), (43, (vI (p1.length : Int))), (44, (vI (wr ((p1.length : Int) - 1)))), (45, (vT (decide (s18.2 < (wr ((p1.length : Int) - 1))))))]) ⟨lk rfl (hg 3 (by decide)), lk rfl (hg 4 (by decide)), rfl, rfl, rfl, rfl, rfl, rfl, rfl, rfl, rfl, rfl, trivial⟩
          have hM := hM.pull (pre := [_])
          obtain ⟨r89, e90, hl72⟩ := bind_some hl72
          refine Zw (vs := [u82, (Z9 (.slice (some ⟨b1, 0, none⟩) 16 16) ((0 : Int)).toNat ((16 : Int)).toNat 1)]) hE Za (dl rfl) rfl cb134 (c_impl_mixer_mix _ _ _ _ p0.v.mixer u82 h83 b1 j54 hM r89 e90) ?_
          rintro v w a ⟨rfl, hM⟩ hE
          refine Zj ?_
          have ht91 := Option.some.inj hl72
          subst ht91
          refine Zl ?_
          have hM := hM.pull (pre := [_])
          exact ⟨hE.sub ⟨rfl, rfl, rfl, rfl, rfl, trivial⟩, hM⟩
        ·intro hb74
         have hl72 := Zz hl72 hb74
         refine wp_skip ?_
         have ht92 := Option.some.inj hl72
         subst ht92
         refine Zl ?_
         exact ⟨hE.sub ⟨rfl, rfl, rfl, rfl, rfl, trivial⟩, hM⟩
       ·skip
        rintro a w ⟨hE, hM⟩
        obtain ⟨x94, e95, hF73⟩ := bind_some hF73
        have hi96 := ZQ e95
        obtain ⟨r97, e98, hF73⟩ := bind_some hF73
        refine Yd (n := 59) (hd := [_, _, _, _, _, _]) (tl := [_]) YB rfl rfl [52, 53, 54, 55, 56, 57] (by decide) (fun w => M (Old w0) w0 w [raw b3 (Flat.enc (Vector.replicate 16 (0 : UInt8))), raw b1 (Flat.enc j71)]) (fun j => ([fun v _ => v = (Value.agg (Flat.enc j71).toArray), fun v _ => v = v1_1, fun v _ => v = (vI s18.2), fun v _ => v = (ptr (sb v1_1) (so v1_1 + (s18.2).toNat * 16)), fun v _ => v = (Value.agg (Flat.enc x94).toArray), fun v _ => v = (Value.agg (Flat.enc r97).toArray)] : List (Value → World → Prop)).getD j (fun _ _ => True)) (fun _ _ h hk => h.keep hk) (gup (Zg (Zg (Zg (Zg (Zg (Zg Wu))))))) hE hM.drew (ZH (Zb ?_ (Zb ?_ (Zb ?_ (Zb ?_ (Zb ?_ (Zb ?_ ZD))))))) ?_
        ·exact fun a w ux93 hE hM hp => Zp (cs := Flat.enc j71) hE Za (dl rfl) rfl ZP rfl (hM.rawAt (pre := [_])) (Flat.len _) fun a hE => ⟨Kept.refl _ _, _, _, rfl, hE, rfl⟩
        ·exact fun a w ux93 hE hM hp => Zd hE Za (dl rfl) rfl fun a hE => ⟨Kept.refl _ _, _, _, rfl, hE, rfl⟩
        ·exact fun a w ux93 hE hM hp => Zd hE Za (dl rfl) rfl fun a hE => ⟨Kept.refl _ _, _, _, rfl, hE, rfl⟩
        ·intro a w ux93 hE hM hp
         have f1 : ux93 1 = v1_1 := hp 0 _ rfl rfl
         have f2 : ux93 2 = (vI s18.2) := hp 1 _ rfl rfl
         exact ZK hE Za (dl rfl) (lk rfl f1) (lk rfl f2) Try.underlying34 ZP (hM.rd hv1_1) hi96.1 fun a hE => ⟨Kept.refl _ _, _, _, rfl, hE, rfl⟩
        ·intro a w ux93 hE hM hp
         have f3 : ux93 3 = (ptr (sb v1_1) (so v1_1 + (s18.2).toNat * 16)) := hp 0 _ rfl rfl
         exact Zp (cs := Flat.enc x94) hE Za (dl rfl) (lk rfl f3) ZP rfl (Yt (hM.rd hv1_1) hi96.2) (Flat.len _) fun a hE => ⟨Kept.refl _ _, _, _, rfl, hE, rfl⟩
        ·intro a w ux93 hE hM hp
         have f0 : ux93 0 = (Value.agg (Flat.enc j71).toArray) := hp 0 _ rfl rfl
         have f4 : ux93 4 = (Value.agg (Flat.enc x94).toArray) := hp 1 _ rfl rfl
         refine Zw (vs := [(Value.agg (Flat.enc j71).toArray), (Value.agg (Flat.enc x94).toArray)]) hE Za (dl rfl) (Z0 (ZY (lk rfl f0) (ZY (lk rfl f4) Xf))) cb114 (XS _ j71 x94 r97 e98) ?_
         rintro v w a ⟨rfl, hK⟩ hE
         exact ⟨hK, _, _, rfl, hE, rfl⟩
        ·intro a w ux93 hE hM hg
         have hE := hE.sub (e' := [(57, (Value.agg (Flat.enc r97).toArray)), (0, v0_1), (1, v1_1), (5, (ptr b1 0)), (6, (ptr b3 0)), (7, (vI s18.2))]) ⟨lk rfl (hg 5 (by decide)), rfl, rfl, rfl, rfl, rfl, trivial⟩
         have hM := hM.pull (pre := [_])
         refine Zs (seg := Flat.enc r97) (cs' := Flat.enc r97) hE hM Za rfl rfl rfl ZP (Flat.len _) (zle flq) (Flat.cell _) (Zq flq) ?_; intro w a hM hE
         refine Zj (Yk ?_)
         have ht99 := Option.some.inj hF73
         subst ht99
         refine Zl ?_
         have hM := hM.pull (pre := [_])
         exact ⟨hE.sub ⟨rfl, rfl, rfl, rfl, rfl, trivial⟩, hM⟩
    ·skip
     rintro a w ⟨hE, hM⟩
     refine wp_region_lit (Zd hE Za (dl rfl) rfl ?_); intro a hE
     refine Zh hE Za (dl rfl) rfl rfl rfl ?_; intro a hE
     refine Ze hE Za (dl rfl) rfl ?_; intro a hE
     refine Zj (Zl ?_)
     exact ⟨_, (Option.some.inj hF25).symm, hE.sub ⟨rfl, rfl, rfl, rfl, rfl, trivial⟩, hM⟩
   ·intro hb22
    have hs19 := Zz hs19 hb22
    refine wp_exit (Zr (Zr (Yj ?_)))
    have ht100 := hx20 _ (Option.some.inj hs19).symm
    subst ht100
    refine Zl ?_
    exact ⟨hE.sub ⟨rfl, rfl, trivial⟩, hM⟩
  ·skip
   rintro a w ⟨hE, hM⟩
   refine Zx (Zc (Zp (cs := Flat.enc j15) hE Za (dl rfl) rfl ZP rfl (hM.rawAt (pre := [_])) (Flat.len _) ?_)); intro a hE
   refine Zs (seg := Flat.enc j15) (cs' := Flat.enc j15) hE hM Za rfl rfl rfl ZP (Flat.len _) (zle flq) (Flat.cell _) (Zq flq) ?_; intro w a hM hE
   refine Zf ?_
   have hr := Option.some.inj hF17
   subst hr
   have hq101 : YR Try.prog _ _ (.cell 6 39) _ := Z6 hE rfl ZP rfl (hM.rawAt (pre := [])) (Flat.len _) rfl
   have hM := M.fst (l := []) hM
   exact wp_ret (Zy hE rfl hq101 ⟨_, rfl, rfl, hM.kept⟩)
noncomputable def Ym (p0 : (Ref Gengine)) (p1 : (Vector UInt8 16)) (p2 : (Vector UInt8 16)) : Option ((Vector UInt8 16)) :=
 ((X5 p0 p1 p0.v.rounds).bind fun r21 => (Yu p0 r21 p2).bind fun r24 => some r24 : Option ((Vector UInt8 16))).bind fun j7 => some j7
theorem Uy (w0 : World) (p0 : (Ref Gengine)) (v0_1 : Value) (hv0_1 : Ro w0 p0 [v0_1]) (p1 : (Vector UInt8 16)) (p2 : (Vector UInt8 16)) (r : (Vector UInt8 16)) (hF : Ym p0 p1 p2 = some r) :
  Calls Try.prog 115 [v0_1, (Value.agg (Flat.enc p1).toArray), (Value.agg (Flat.enc p2).toArray)].toArray w0 (fun en w' => ∃ v, en = .returned v ∧ (v = (Value.agg (Flat.enc r).toArray) ∧ Kept (Old w0) w0 w')) := by
 refine ZC (n := 17) Try.func115 rfl rfl (Nat.le_of_ble_eq_true rfl) rfl ?_
 intro a hE
 have hM := M.start w0
 unfold Ym at hF
 refine Zc (Z4 (cs := Flat.enc p1) hE hM Za (dl rfl) rfl rfl ?_); intro b1 w a hM hE
 refine Z4 (cs := Flat.enc p2) hE hM Za (dl rfl) rfl rfl ?_; intro b3 w a hM hE
 refine ZO hE hM Za (dl rfl) ZP ?_; intro b5 w a hM hE
 refine Zf ?_
 obtain ⟨j7, hl8, hF9⟩ := bind_some hF
 refine ZS (fun a w => Env 17 a [(6, (ptr b5 0))] ∧ M (Old w0) w0 w [raw b5 (Flat.enc j7)]) ?_ ?_
 ·skip
  obtain ⟨pb11, ds12, hv13, hx14, hA15, hB16⟩ := Ua hv0_1 -- ^
  obtain ⟨u17, u19, rfl, h18, h20⟩ := un_Gengine hx14 -- ^
  obtain ⟨r21, e22, hl8⟩ := bind_some hl8
  refine c_draw2 (n := 17) (hd := [_, _, _, _, _, _, _, _, _]) (tl := [_, _]) (its := [raw b5 (Flat.enc (Vector.replicate 16 (0 : UInt8))), raw b3 (Flat.enc p2), raw b1 (Flat.enc p1)]) YB rfl rfl [7, 8, 9, 10, 11, 12, 13, 14, 15] (by decide) [(7, fun v => osl NoB (r21 : List (Vector UInt8 16)) v)] rfl (fun j => ([fun v => v = v0_1, fun v => v = v0_1, fun v => v = (Value.agg (Flat.enc p1).toArray), fun v => v = v0_1, fun v => v = (ptr pb11 0), fun v => v = (ptr pb11 (0 + 546)), fun v => v = (vI p0.v.rounds), fun v => True, fun v => v = (Value.agg (Flat.enc p2).toArray)] : List (Value → Prop)).getD j (fun _ => True)) hE hM.drew (ZH (Zb ?_ (Zb ?_ (Zb ?_ (Zb ?_ (Zb ?_ (Zb ?_ (Zb ?_ (Zb ?_ (Zb ?_ ZD)))))))))) ?_
  ·intro a w ux10 D hE hM hD hp
   have hM0 := hM
   exact Zd hE Za (dl rfl) rfl fun a hE => ⟨_, _, rfl, hE, rfl, hM0.optKeep rfl⟩
  ·intro a w ux10 D hE hM hD hp
   have hM0 := hM
   exact Zd hE Za (dl rfl) rfl fun a hE => ⟨_, _, rfl, hE, rfl, hM0.optKeep rfl⟩
  ·intro a w ux10 D hE hM hD hp
   have hM0 := hM
   have hM : M (Old w0) w0 w [raw b5 (Flat.enc (Vector.replicate 16 (0 : UInt8))), raw b3 (Flat.enc p2), raw b1 (Flat.enc p1), opt (D 7) (osl NoB (r21 : List (Vector UInt8 16)) (ux10 7))] := hM
   exact Zp (cs := Flat.enc p1) hE Za (dl rfl) rfl ZP rfl (hM.rawAt (pre := [_, _])) (Flat.len _) fun a hE => ⟨_, _, rfl, hE, rfl, hM0.optKeep rfl⟩
  ·intro a w ux10 D hE hM hD hp
   have hM0 := hM
   exact Zd hE Za (dl rfl) rfl fun a hE => ⟨_, _, rfl, hE, rfl, hM0.optKeep rfl⟩
  ·intro a w ux10 D hE hM hD hp
   have f3 : ux10 3 = v0_1 := (hp 0 _ rfl rfl).2
   have hM0 := hM
   exact XG hE Za (dl rfl) (lk (lk rfl f3) hv13) fun a hE => ⟨_, _, rfl, hE, rfl, hM0.optKeep rfl⟩
  ·intro a w ux10 D hE hM hD hp
   have f4 : ux10 4 = (ptr pb11 0) := (hp 0 _ rfl rfl).2
   have hM0 := hM
   exact Zo hE Za (dl rfl) (lk rfl f4) (fd152_6) fun a hE => ⟨_, _, rfl, hE, rfl, hM0.optKeep rfl⟩
  ·intro a w ux10 D hE hM hD hp
   have f5 : ux10 5 = (ptr pb11 (0 + 546)) := (hp 0 _ rfl rfl).2
   have hM0 := hM
   have hM : M (Old w0) w0 w [raw b5 (Flat.enc (Vector.replicate 16 (0 : UInt8))), raw b3 (Flat.enc p2), raw b1 (Flat.enc p1), opt (D 7) (osl NoB (r21 : List (Vector UInt8 16)) (ux10 7))] := hM
   exact Zv (v := (vI p0.v.rounds)) hE Za (dl rfl) (lk rfl f5) ty2 rfl (At.cat (pre := [Flat.enc p0.v.box, Flat.enc p0.v.backBox, Flat.enc p0.v.places, Flat.enc p0.v.backPlaces, [u17], [u19]]) (hM.atk hA15 hB16) (cl1 (n := 256) (m := 290) (Flat.len _) (cl1 (n := 256) (m := 34) (Flat.len _) (cl1 (n := 16) (m := 18) (Flat.len _) (cl1 (n := 16) (m := 2) (Flat.len _) (cl1 (n := 1) (m := 1) rfl (cl1 (n := 1) (m := 0) rfl cl0))))))) fun a hE => ⟨_, _, rfl, hE, rfl, hM0.optKeep rfl⟩
  ·intro a w ux10 D hE hM hD hp
   have f1 : ux10 1 = v0_1 := (hp 0 _ rfl rfl).2
   have f2 : ux10 2 = (Value.agg (Flat.enc p1).toArray) := (hp 1 _ rfl rfl).2
   have f6 : ux10 6 = (vI p0.v.rounds) := (hp 2 _ rfl rfl).2
   have hM0 := hM
   have hM : M (Old w0) w0 w [raw b5 (Flat.enc (Vector.replicate 16 (0 : UInt8))), raw b3 (Flat.enc p2), raw b1 (Flat.enc p1), opt (D 7) (osl NoB (r21 : List (Vector UInt8 16)) (ux10 7))] := hM
   refine Zw (vs := [v0_1, (Value.agg (Flat.enc p1).toArray), (vI p0.v.rounds)]) hE Za (dl rfl) (Z0 (ZY (lk rfl f1) (ZY (lk rfl f2) (ZY (lk rfl f6) Xf)))) cb130 (c_impl_engine_keys _ p0 v0_1 (hM.rdo hv0_1) p1 p0.v.rounds r21 e22) ?_
   rintro _ w a ⟨_, rfl, hFr, hK⟩ hE
   have hM := hM0.add hK hFr
   exact ⟨_, _, rfl, hE, trivial, M.optFill (mk1 := []) (mk2 := []) (f := (fun v => osl NoB (r21 : List (Vector UInt8 16)) v)) hM rfl hD⟩
  ·intro a w ux10 D hE hM hD hp
   have hM0 := hM
   have hM : M (Old w0) w0 w [raw b5 (Flat.enc (Vector.replicate 16 (0 : UInt8))), raw b3 (Flat.enc p2), raw b1 (Flat.enc p1), opt (D 7) (osl NoB (r21 : List (Vector UInt8 16)) (ux10 7))] := hM
   exact Zp (cs := Flat.enc p2) hE Za (dl rfl) rfl ZP rfl (hM.rawAt (pre := [_])) (Flat.len _) fun a hE => ⟨_, _, rfl, hE, rfl, hM0.optKeep rfl⟩
  ·intro a w ux10 hE hM hg
   have hM : M (Old w0) w0 w [raw b5 (Flat.enc (Vector.replicate 16 (0 : UInt8))), raw b3 (Flat.enc p2), raw b1 (Flat.enc p1), osl NoB (r21 : List (Vector UInt8 16)) (ux10 7)] := hM
   have hE := hE.sub (e' := [(7, v0_1), (14, (ux10 7)), (15, (Value.agg (Flat.enc p2).toArray)), (0, v0_1), (1, (Value.agg (Flat.enc p1).toArray)), (2, (Value.agg (Flat.enc p2).toArray)), (4, (ptr b1 0)), (5, (ptr b3 0)), (6, (ptr b5 0))]) ⟨lk rfl (hg 0 (by decide)), rfl, lk rfl (hg 8 (by decide)), rfl, rfl, rfl, rfl, rfl, rfl, trivial⟩
   obtain ⟨r24, e25, hl8⟩ := bind_some hl8
   refine Zw (vs := [v0_1, (ux10 7), (Value.agg (Flat.enc p2).toArray)]) hE Za (dl rfl) rfl cb129 (c_impl_engine_encipherWith _ p0 v0_1 (hM.rdo hv0_1) r21 (ux10 7) (hM.sl (pre := [_, _, _]) noB) p2 r24 e25) ?_
   rintro v w a ⟨rfl, hK⟩ hE
   have hM := hM.keep hK
   refine Zs (seg := Flat.enc r24) (cs' := Flat.enc r24) hE hM Za rfl rfl rfl ZP (Flat.len _) (zle flq) (Flat.cell _) (Zq flq) ?_; intro w a hM hE
   refine Zj ?_
   have ht26 := Option.some.inj hl8
   subst ht26
   refine Zl ?_
   have hM := M.fst (l := [_]) hM
   exact ⟨hE.sub ⟨rfl, trivial⟩, hM⟩
 ·skip
  rintro a w ⟨hE, hM⟩
  have hr := Option.some.inj hF9
  subst hr
  have hq27 : YR Try.prog _ _ (.cell 6 39) _ := Z6 hE rfl ZP rfl (hM.rawAt (pre := [])) (Flat.len _) rfl
  have hM := M.fst (l := []) hM
  exact wp_ret (Zy hE rfl hq27 ⟨_, rfl, rfl, hM.kept⟩)
noncomputable def YN (p0 : (Ref Gengine)) (p1 : (Vector UInt8 32)) (p2 : (Vector UInt8 16)) : Option ((Vector UInt8 32)) :=
 (slc p1.toList (0 : Int) (16 : Int)).bind fun l8 => (toArr 16 l8).bind fun x11 => (slc p1.toList (16 : Int) (32 : Int)).bind fun l13 => (toArr 16 l13).bind fun x16 => (Yl x11 p2).bind fun r26 => ((Ym p0 x16 r26).bind fun r34 => (Yl r34 r26).bind fun r36 => some r36 : Option ((Vector UInt8 16))).bind fun j30 => (Yl x16 p2).bind fun r39 => ((Ym p0 j30 r39).bind fun r47 => (Yl r47 r39).bind fun r49 => some r49 : Option ((Vector UInt8 16))).bind fun j43 => ((slc j30.toList (0 : Int) (16 : Int)).bind fun l56 => (slc j43.toList (0 : Int) (16 : Int)).bind fun l59 => (Z5 ([l56, l59] : (List (List UInt8)))).bind fun r64 => (toArr 32 r64).bind fun x67 => some x67 : Option ((Vector UInt8 32))).bind fun j52 => some j52
theorem c_impl_engine_absorb (w0 : World) (p0 : (Ref Gengine)) (v0_1 : Value) (hv0_1 : Ro w0 p0 [v0_1]) (p1 : (Vector UInt8 32)) (p2 : (Vector UInt8 16)) (r : (Vector UInt8 32)) (hF : YN p0 p1 p2 = some r) :
  Calls Try.prog 95 [v0_1, (Value.agg (Flat.enc p1).toArray), (Value.agg (Flat.enc p2).toArray)].toArray w0 (fun en w' => ∃ v, en = .returned v ∧ (v = (Value.agg (Flat.enc r).toArray) ∧ Kept (Old w0) w0 w')) := by
 refine ZC (n := 41) Try.func95 rfl rfl (Nat.le_of_ble_eq_true rfl) rfl ?_
 intro a hE
 have hM := M.start w0
 unfold YN at hF
 refine Zc (Z4 (cs := Flat.enc p1) hE hM Za (dl rfl) rfl rfl ?_); intro b1 w a hM hE
 refine Z4 (cs := Flat.enc p2) hE hM Za (dl rfl) rfl rfl ?_; intro b3 w a hM hE
 refine ZO hE hM Za (dl rfl) Yi ?_; intro b5 w a hM hE
 refine Zf (wp_seq ?_)
 obtain ⟨l8, e9, hF⟩ := bind_some hF
 have hb10 := slc_arr e9 -- ^
 obtain ⟨x11, e12, hF⟩ := bind_some hF
 obtain ⟨l13, e14, hF⟩ := bind_some hF
 have hb15 := slc_arr e14 -- ^
 obtain ⟨x16, e17, hF⟩ := bind_some hF
 refine WA (n := 41) (hd := [_, _, _, _, _, _, _, _]) (tl := [_, _]) YB rfl rfl [11, 12, 13, 14, 15, 16, 7, 8] (by decide) (fun D u w => M (Old w0) w0 w ([raw b5 (Flat.enc (Vector.replicate 32 (0 : UInt8))), raw b3 (Flat.enc p2), raw b1 (Flat.enc p1)] ++ qL ([mkO 6 (fun v => rawP v (Flat.enc (Vector.replicate 16 (0 : UInt8)))), mkO 7 (fun v => rawP v (Flat.enc (Vector.replicate 16 (0 : UInt8))))] : Mk) D u) ∧ GOk ([([], fun us v => v = (Z9 (.slice (some ⟨b1, 0, none⟩) 32 32) ((0 : Int)).toNat ((16 : Int)).toNat 1)), ([], fun us v => v = (ptr (sb (Z9 (.slice (some ⟨b1, 0, none⟩) 32 32) ((0 : Int)).toNat ((16 : Int)).toNat 1)) (so (Z9 (.slice (some ⟨b1, 0, none⟩) 32 32) ((0 : Int)).toNat ((16 : Int)).toNat 1)))), ([], fun us v => v = (Value.agg (Flat.enc x11).toArray)), ([], fun us v => v = (Z9 (.slice (some ⟨b1, 0, none⟩) 32 32) ((16 : Int)).toNat ((32 : Int)).toNat 1)), ([], fun us v => v = (ptr (sb (Z9 (.slice (some ⟨b1, 0, none⟩) 32 32) ((16 : Int)).toNat ((32 : Int)).toNat 1)) (so (Z9 (.slice (some ⟨b1, 0, none⟩) 32 32) ((16 : Int)).toNat ((32 : Int)).toNat 1)))), ([], fun us v => v = (Value.agg (Flat.enc x16).toArray)), ([], fun us v => True), ([], fun us v => True)] : Gs) D u) hE (fun u => ⟨M.qE (M.qE (M.q0 hM.drew u) emO) emO, gok0⟩) (ZH (Zb ?_ (Zb ?_ (Zb ?_ (Zb ?_ (Zb ?_ (Zb ?_ (Zb ?_ (Zb ?_ ZD))))))))) ?_
 ·intro a w ux7 D hE hI hD hdc hp
  have hM0 := hI.1
  exact Um (N := 32) hE Za (dl rfl) rfl rfl rfl rfl rfl Try.underlying25 ty5 hb10 fun a hE => ⟨_, _, rfl, hE, M.qKeep hM0 rfl, hI.2.put hD rfl ZE rfl⟩
 ·intro a w ux7 D hE hI hD hdc hp
  have d0 : D 0 = true := hp 0 _ rfl rfl
  have g0 := hI.2 0 d0 _ rfl
  have f0 : ux7 0 = (Z9 (.slice (some ⟨b1, 0, none⟩) 32 32) ((0 : Int)).toNat ((16 : Int)).toNat 1) := g0.2
  have hM0 := hI.1
  have hM := hI.1
  exact s_toArr hE Za (dl rfl) (lk rfl f0) Try.underlying39 (VL (At.sat (hM.rawAt (pre := [_, _])) (by simp) (by decide)) e9) (toArr_some e12).1 (by decide) fun a hE => ⟨_, _, rfl, hE, M.qKeep hM0 rfl, hI.2.put hD rfl ZE rfl⟩
 ·intro a w ux7 D hE hI hD hdc hp
  have d1 : D 1 = true := hp 0 _ rfl rfl
  have g1 := hI.2 1 d1 _ rfl
  have f1 : ux7 1 = (ptr (sb (Z9 (.slice (some ⟨b1, 0, none⟩) 32 32) ((0 : Int)).toNat ((16 : Int)).toNat 1)) (so (Z9 (.slice (some ⟨b1, 0, none⟩) 32 32) ((0 : Int)).toNat ((16 : Int)).toNat 1))) := g1.2
  have hM0 := hI.1
  have hM := hI.1
  exact Zp (cs := Flat.enc x11) hE Za (dl rfl) (lk rfl f1) ZP rfl (sl_arr (VL (At.sat (hM.rawAt (pre := [_, _])) (by simp) (by decide)) e9) e12 (by decide)) (Flat.len _) fun a hE => ⟨_, _, rfl, hE, M.qKeep hM0 rfl, hI.2.put hD rfl ZE rfl⟩
 ·intro a w ux7 D hE hI hD hdc hp
  have hM0 := hI.1
  exact Um (N := 32) hE Za (dl rfl) rfl rfl rfl rfl rfl Try.underlying25 ty5 hb15 fun a hE => ⟨_, _, rfl, hE, M.qKeep hM0 rfl, hI.2.put hD rfl ZE rfl⟩
 ·intro a w ux7 D hE hI hD hdc hp
  have d3 : D 3 = true := hp 0 _ rfl rfl
  have g3 := hI.2 3 d3 _ rfl
  have f3 : ux7 3 = (Z9 (.slice (some ⟨b1, 0, none⟩) 32 32) ((16 : Int)).toNat ((32 : Int)).toNat 1) := g3.2
  have hM0 := hI.1
  have hM := hI.1
  exact s_toArr hE Za (dl rfl) (lk rfl f3) Try.underlying39 (VL (At.sat (hM.rawAt (pre := [_, _])) (by simp) (by decide)) e14) (toArr_some e17).1 (by decide) fun a hE => ⟨_, _, rfl, hE, M.qKeep hM0 rfl, hI.2.put hD rfl ZE rfl⟩
 ·intro a w ux7 D hE hI hD hdc hp
  have d4 : D 4 = true := hp 0 _ rfl rfl
  have g4 := hI.2 4 d4 _ rfl
  have f4 : ux7 4 = (ptr (sb (Z9 (.slice (some ⟨b1, 0, none⟩) 32 32) ((16 : Int)).toNat ((32 : Int)).toNat 1)) (so (Z9 (.slice (some ⟨b1, 0, none⟩) 32 32) ((16 : Int)).toNat ((32 : Int)).toNat 1))) := g4.2
  have hM0 := hI.1
  have hM := hI.1
  exact Zp (cs := Flat.enc x16) hE Za (dl rfl) (lk rfl f4) ZP rfl (sl_arr (VL (At.sat (hM.rawAt (pre := [_, _])) (by simp) (by decide)) e14) e17 (by decide)) (Flat.len _) fun a hE => ⟨_, _, rfl, hE, M.qKeep hM0 rfl, hI.2.put hD rfl ZE rfl⟩
 ·intro a w ux7 D hE hI hD hdc hp
  have hM0 := hI.1
  have hM := hI.1
  refine ZO hE hM Za (dl rfl) ZP ?_; intro b18 w a hM hE
  have hM := hM.pack1 (it := rawP _ (Flat.enc (Vector.replicate 16 (0 : UInt8)))) (fun w w' fp ⟨b', e, k⟩ hb => ⟨b', e, Wz w w' fp k hb⟩) (fun fp k => ⟨_, rfl, k⟩)
  exact ⟨_, _, rfl, hE, M.qFill (mk1 := []) (mk2 := [_]) (f := fun v => rawP v (Flat.enc (Vector.replicate 16 (0 : UInt8)))) hM rfl hD, hI.2.put hD rfl ZE trivial⟩
 ·intro a w ux7 D hE hI hD hdc hp
  have hM0 := hI.1
  have hM := hI.1
  refine ZO hE hM Za (dl rfl) ZP ?_; intro b20 w a hM hE
  have hM := hM.pack1 (it := rawP _ (Flat.enc (Vector.replicate 16 (0 : UInt8)))) (fun w w' fp ⟨b', e, k⟩ hb => ⟨b', e, Wz w w' fp k hb⟩) (fun fp k => ⟨_, rfl, k⟩)
  exact ⟨_, _, rfl, hE, M.qFill (mk1 := [_]) (mk2 := []) (f := fun v => rawP v (Flat.enc (Vector.replicate 16 (0 : UInt8)))) hM rfl hD, hI.2.put hD rfl ZE trivial⟩
 ·intro a w ux7 D hE hI hall
  have hM : M (Old w0) w0 w [raw b5 (Flat.enc (Vector.replicate 32 (0 : UInt8))), raw b3 (Flat.enc p2), raw b1 (Flat.enc p1), opt (D 6) (rawP (ux7 6) (Flat.enc (Vector.replicate 16 (0 : UInt8)))), opt (D 7) (rawP (ux7 7) (Flat.enc (Vector.replicate 16 (0 : UInt8))))] := hI.1
  have d0 : D 0 = true := hall 0 (by decide)
  have d1 : D 1 = true := hall 1 (by decide)
  have d2 : D 2 = true := hall 2 (by decide)
  have d3 : D 3 = true := hall 3 (by decide)
  have d4 : D 4 = true := hall 4 (by decide)
  have d5 : D 5 = true := hall 5 (by decide)
  have d6 : D 6 = true := hall 6 (by decide)
  have d7 : D 7 = true := hall 7 (by decide)
  have f0 : ux7 0 = (Z9 (.slice (some ⟨b1, 0, none⟩) 32 32) ((0 : Int)).toNat ((16 : Int)).toNat 1) := (hI.2 0 d0 _ rfl).2
  have f1 : ux7 1 = (ptr (sb (Z9 (.slice (some ⟨b1, 0, none⟩) 32 32) ((0 : Int)).toNat ((16 : Int)).toNat 1)) (so (Z9 (.slice (some ⟨b1, 0, none⟩) 32 32) ((0 : Int)).toNat ((16 : Int)).toNat 1))) := (hI.2 1 d1 _ rfl).2
  have f2 : ux7 2 = (Value.agg (Flat.enc x11).toArray) := (hI.2 2 d2 _ rfl).2
  have f3 : ux7 3 = (Z9 (.slice (some ⟨b1, 0, none⟩) 32 32) ((16 : Int)).toNat ((32 : Int)).toNat 1) := (hI.2 3 d3 _ rfl).2
  have f4 : ux7 4 = (ptr (sb (Z9 (.slice (some ⟨b1, 0, none⟩) 32 32) ((16 : Int)).toNat ((32 : Int)).toNat 1)) (so (Z9 (.slice (some ⟨b1, 0, none⟩) 32 32) ((16 : Int)).toNat ((32 : Int)).toNat 1))) := (hI.2 4 d4 _ rfl).2
  have f5 : ux7 5 = (Value.agg (Flat.enc x16).toArray) := (hI.2 5 d5 _ rfl).2
  have hM := (hM.sure (pre := [_, _, _]) d6).pull
  obtain ⟨_, ⟨b22, f23, _⟩, _⟩ := hM.head
  have hM := hM.pack1 Wz (it := raw b22 (Flat.enc (Vector.replicate 16 (0 : UInt8)))) (fun fp ⟨b2, e2, k2⟩ => by rw [f23] at e2; simp [ptr] at e2; subst e2; exact k2)
  have hM := (hM.sure (pre := [_, _, _, _]) d7).pull
  obtain ⟨_, ⟨b24, f25, _⟩, _⟩ := hM.head
  have hM := hM.pack1 Wz (it := raw b24 (Flat.enc (Vector.replicate 16 (0 : UInt8)))) (fun fp ⟨b2, e2, k2⟩ => by rw [f25] at e2; simp [ptr] at e2; subst e2; exact k2)
  have hE := hE.sub (e' := [(13, (Value.agg (Flat.enc x11).toArray)), (16, (Value.agg (Flat.enc x16).toArray)), (7, (ptr b22 0)), (8, (ptr b24 0)), (0, v0_1), (1, (Value.agg (Flat.enc p1).toArray)), (2, (Value.agg (Flat.enc p2).toArray)), (4, (ptr b1 0)), (5, (ptr b3 0)), (6, (ptr b5 0))]) ⟨lk rfl f2, lk rfl f5, lk rfl f23, lk rfl f25, rfl, rfl, rfl, rfl, rfl, rfl, trivial⟩
  have hM := hM.pull (pre := [_])
  refine Zs (seg := Flat.enc x11) (cs' := Flat.enc x11) hE hM Za rfl rfl rfl ZP (Flat.len _) (zle flq) (Flat.cell _) (Zq flq) ?_; intro w a hM hE
  have hM := hM.pull (pre := [_])
  refine Zs (seg := Flat.enc x16) (cs' := Flat.enc x16) hE hM Za rfl rfl rfl ZP (Flat.len _) (zle flq) (Flat.cell _) (Zq flq) ?_; intro w a hM hE
  refine Zj (Zx (Zc (Zp (cs := Flat.enc x11) hE Za (dl rfl) rfl ZP rfl (hM.rawAt (pre := [_])) (Flat.len _) ?_))); intro a hE
  refine Zp (cs := Flat.enc p2) hE Za (dl rfl) rfl ZP rfl (hM.rawAt (pre := [_, _, _])) (Flat.len _) ?_; intro a hE
  obtain ⟨r26, e27, hF⟩ := bind_some hF
  refine Zw (vs := [(Value.agg (Flat.enc x11).toArray), (Value.agg (Flat.enc p2).toArray)]) hE Za (dl rfl) rfl cb114 (XS _ x11 p2 r26 e27) ?_
  rintro v w a ⟨rfl, hK⟩ hE
  have hM := hM.keep hK
  refine ZO hE hM Za (dl rfl) ZP ?_; intro b28 w a hM hE
  refine Zs (seg := Flat.enc r26) (cs' := Flat.enc r26) hE hM Za rfl rfl rfl ZP (Flat.len _) (zle flq) (Flat.cell _) (Zq flq) ?_; intro w a hM hE
  refine Zf ?_
  obtain ⟨j30, hl31, hF32⟩ := bind_some hF
  refine ZS (fun a w => Env 41 a [(0, v0_1), (5, (ptr b3 0)), (6, (ptr b5 0)), (7, (ptr b22 0)), (8, (ptr b24 0))] ∧ M (Old w0) w0 w [raw b24 (Flat.enc x16), raw b22 (Flat.enc j30), raw b5 (Flat.enc (Vector.replicate 32 (0 : UInt8))), raw b3 (Flat.enc p2)]) ?_ ?_
  ·skip
   obtain ⟨r34, e35, hl31⟩ := bind_some hl31
   obtain ⟨r36, e37, hl31⟩ := bind_some hl31
   refine Yd (n := 41) (hd := [_, _, _, _, _, _]) (tl := [_]) YB rfl rfl [20, 21, 22, 23, 24, 25] (by decide) (fun w => M (Old w0) w0 w [raw b28 (Flat.enc r26), raw b24 (Flat.enc x16), raw b22 (Flat.enc x11), raw b5 (Flat.enc (Vector.replicate 32 (0 : UInt8))), raw b3 (Flat.enc p2), raw b1 (Flat.enc p1)]) (fun j => ([fun v _ => v = v0_1, fun v _ => v = (Value.agg (Flat.enc x16).toArray), fun v _ => v = (Value.agg (Flat.enc r26).toArray), fun v _ => v = (Value.agg (Flat.enc r34).toArray), fun v _ => v = (Value.agg (Flat.enc r26).toArray), fun v _ => v = (Value.agg (Flat.enc r36).toArray)] : List (Value → World → Prop)).getD j (fun _ _ => True)) (fun _ _ h hk => h.keep hk) (gup (Zg (Zg (Zg (Zg (Zg (Zg Wu))))))) hE hM.drew (ZH (Zb ?_ (Zb ?_ (Zb ?_ (Zb ?_ (Zb ?_ (Zb ?_ ZD))))))) ?_
   ·exact fun a w ux33 hE hM hp => Zd hE Za (dl rfl) rfl fun a hE => ⟨Kept.refl _ _, _, _, rfl, hE, rfl⟩
   ·exact fun a w ux33 hE hM hp => Zp (cs := Flat.enc x16) hE Za (dl rfl) rfl ZP rfl (hM.rawAt (pre := [_])) (Flat.len _) fun a hE => ⟨Kept.refl _ _, _, _, rfl, hE, rfl⟩
   ·exact fun a w ux33 hE hM hp => Zp (cs := Flat.enc r26) hE Za (dl rfl) rfl ZP rfl (hM.rawAt (pre := [])) (Flat.len _) fun a hE => ⟨Kept.refl _ _, _, _, rfl, hE, rfl⟩
   ·intro a w ux33 hE hM hp
    have f0 : ux33 0 = v0_1 := hp 0 _ rfl rfl
    have f1 : ux33 1 = (Value.agg (Flat.enc x16).toArray) := hp 1 _ rfl rfl
    have f2 : ux33 2 = (Value.agg (Flat.enc r26).toArray) := hp 2 _ rfl rfl
    refine Zw (vs := [v0_1, (Value.agg (Flat.enc x16).toArray), (Value.agg (Flat.enc r26).toArray)]) hE Za (dl rfl) (Z0 (ZY (lk rfl f0) (ZY (lk rfl f1) (ZY (lk rfl f2) Xf)))) cb115 (Uy _ p0 v0_1 (hM.rdo hv0_1) x16 r26 r34 e35) ?_
    rintro v w a ⟨rfl, hK⟩ hE
    exact ⟨hK, _, _, rfl, hE, rfl⟩
   ·exact fun a w ux33 hE hM hp => Zp (cs := Flat.enc r26) hE Za (dl rfl) rfl ZP rfl (hM.rawAt (pre := [])) (Flat.len _) fun a hE => ⟨Kept.refl _ _, _, _, rfl, hE, rfl⟩
   ·intro a w ux33 hE hM hp
    have f3 : ux33 3 = (Value.agg (Flat.enc r34).toArray) := hp 0 _ rfl rfl
    have f4 : ux33 4 = (Value.agg (Flat.enc r26).toArray) := hp 1 _ rfl rfl
    refine Zw (vs := [(Value.agg (Flat.enc r34).toArray), (Value.agg (Flat.enc r26).toArray)]) hE Za (dl rfl) (Z0 (ZY (lk rfl f3) (ZY (lk rfl f4) Xf))) cb114 (XS _ r34 r26 r36 e37) ?_
    rintro v w a ⟨rfl, hK⟩ hE
    exact ⟨hK, _, _, rfl, hE, rfl⟩
   ·intro a w ux33 hE hM hg
    have hE := hE.sub (e' := [(25, (Value.agg (Flat.enc r36).toArray)), (0, v0_1), (1, (Value.agg (Flat.enc p1).toArray)), (2, (Value.agg (Flat.enc p2).toArray)), (4, (ptr b1 0)), (5, (ptr b3 0)), (6, (ptr b5 0)), (7, (ptr b22 0)), (8, (ptr b24 0)), (9, (ptr b28 0)), (13, (Value.agg (Flat.enc x11).toArray)), (16, (Value.agg (Flat.enc x16).toArray)), (17, (Value.agg (Flat.enc x11).toArray)), (18, (Value.agg (Flat.enc p2).toArray)), (19, (Value.agg (Flat.enc r26).toArray))]) ⟨lk rfl (hg 5 (by decide)), rfl, rfl, rfl, rfl, rfl, rfl, rfl, rfl, rfl, rfl, rfl, rfl, rfl, rfl, trivial⟩
    have hM := hM.pull (pre := [_, _])
    refine Zs (seg := Flat.enc r36) (cs' := Flat.enc r36) hE hM Za rfl rfl rfl ZP (Flat.len _) (zle flq) (Flat.cell _) (Zq flq) ?_; intro w a hM hE
    refine Zj ?_
    have ht38 := Option.some.inj hl31
    subst ht38
    refine Zl ?_
    have hM := hM.pull (pre := [_, _, _, _])
    have hM := hM.pull (pre := [_, _, _, _])
    have hM := hM.pull (pre := [_, _])
    have hM := hM.pull (pre := [_, _, _, _])
    have hM := M.fst (l := [_, _, _, _]) hM
    exact ⟨hE.sub ⟨rfl, rfl, rfl, rfl, rfl, trivial⟩, hM⟩
  ·skip
   rintro a w ⟨hE, hM⟩
   refine Zc (Zp (cs := Flat.enc x16) hE Za (dl rfl) rfl ZP rfl (hM.rawAt (pre := [])) (Flat.len _) ?_); intro a hE
   refine Zp (cs := Flat.enc p2) hE Za (dl rfl) rfl ZP rfl (hM.rawAt (pre := [_, _, _])) (Flat.len _) ?_; intro a hE
   obtain ⟨r39, e40, hF32⟩ := bind_some hF32
   refine Zw (vs := [(Value.agg (Flat.enc x16).toArray), (Value.agg (Flat.enc p2).toArray)]) hE Za (dl rfl) rfl cb114 (XS _ x16 p2 r39 e40) ?_
   rintro v w a ⟨rfl, hK⟩ hE
   have hM := hM.keep hK
   refine ZO hE hM Za (dl rfl) ZP ?_; intro b41 w a hM hE
   refine Zs (seg := Flat.enc r39) (cs' := Flat.enc r39) hE hM Za rfl rfl rfl ZP (Flat.len _) (zle flq) (Flat.cell _) (Zq flq) ?_; intro w a hM hE
   refine Zf ?_
   obtain ⟨j43, hl44, hF45⟩ := bind_some hF32
   refine ZS (fun a w => Env 41 a [(6, (ptr b5 0)), (7, (ptr b22 0)), (8, (ptr b24 0))] ∧ M (Old w0) w0 w [raw b24 (Flat.enc j43), raw b22 (Flat.enc j30), raw b5 (Flat.enc (Vector.replicate 32 (0 : UInt8)))]) ?_ ?_
   ·skip
    obtain ⟨r47, e48, hl44⟩ := bind_some hl44
    obtain ⟨r49, e50, hl44⟩ := bind_some hl44
    refine Yd (n := 41) (hd := [_, _, _, _, _, _]) (tl := [_]) YB rfl rfl [29, 30, 31, 32, 33, 34] (by decide) (fun w => M (Old w0) w0 w [raw b41 (Flat.enc r39), raw b24 (Flat.enc x16), raw b22 (Flat.enc j30), raw b5 (Flat.enc (Vector.replicate 32 (0 : UInt8))), raw b3 (Flat.enc p2)]) (fun j => ([fun v _ => v = v0_1, fun v _ => v = (Value.agg (Flat.enc j30).toArray), fun v _ => v = (Value.agg (Flat.enc r39).toArray), fun v _ => v = (Value.agg (Flat.enc r47).toArray), fun v _ => v = (Value.agg (Flat.enc r39).toArray), fun v _ => v = (Value.agg (Flat.enc r49).toArray)] : List (Value → World → Prop)).getD j (fun _ _ => True)) (fun _ _ h hk => h.keep hk) (gup (Zg (Zg (Zg (Zg (Zg (Zg Wu))))))) hE hM.drew (ZH (Zb ?_ (Zb ?_ (Zb ?_ (Zb ?_ (Zb ?_ (Zb ?_ ZD))))))) ?_
    ·exact fun a w ux46 hE hM hp => Zd hE Za (dl rfl) rfl fun a hE => ⟨Kept.refl _ _, _, _, rfl, hE, rfl⟩
    ·exact fun a w ux46 hE hM hp => Zp (cs := Flat.enc j30) hE Za (dl rfl) rfl ZP rfl (hM.rawAt (pre := [_, _])) (Flat.len _) fun a hE => ⟨Kept.refl _ _, _, _, rfl, hE, rfl⟩
    ·exact fun a w ux46 hE hM hp => Zp (cs := Flat.enc r39) hE Za (dl rfl) rfl ZP rfl (hM.rawAt (pre := [])) (Flat.len _) fun a hE => ⟨Kept.refl _ _, _, _, rfl, hE, rfl⟩
    ·intro a w ux46 hE hM hp
     have f0 : ux46 0 = v0_1 := hp 0 _ rfl rfl
     have f1 : ux46 1 = (Value.agg (Flat.enc j30).toArray) := hp 1 _ rfl rfl
     have f2 : ux46 2 = (Value.agg (Flat.enc r39).toArray) := hp 2 _ rfl rfl
     refine Zw (vs := [v0_1, (Value.agg (Flat.enc j30).toArray), (Value.agg (Flat.enc r39).toArray)]) hE Za (dl rfl) (Z0 (ZY (lk rfl f0) (ZY (lk rfl f1) (ZY (lk rfl f2) Xf)))) cb115 (Uy _ p0 v0_1 (hM.rdo hv0_1) j30 r39 r47 e48) ?_
     rintro v w a ⟨rfl, hK⟩ hE
     exact ⟨hK, _, _, rfl, hE, rfl⟩
    ·exact fun a w ux46 hE hM hp => Zp (cs := Flat.enc r39) hE Za (dl rfl) rfl ZP rfl (hM.rawAt (pre := [])) (Flat.len _) fun a hE => ⟨Kept.refl _ _, _, _, rfl, hE, rfl⟩
    ·intro a w ux46 hE hM hp
     have f3 : ux46 3 = (Value.agg (Flat.enc r47).toArray) := hp 0 _ rfl rfl
     have f4 : ux46 4 = (Value.agg (Flat.enc r39).toArray) := hp 1 _ rfl rfl
     refine Zw (vs := [(Value.agg (Flat.enc r47).toArray), (Value.agg (Flat.enc r39).toArray)]) hE Za (dl rfl) (Z0 (ZY (lk rfl f3) (ZY (lk rfl f4) Xf))) cb114 (XS _ r47 r39 r49 e50) ?_
     rintro v w a ⟨rfl, hK⟩ hE
     exact ⟨hK, _, _, rfl, hE, rfl⟩
    ·intro a w ux46 hE hM hg
     have hE := hE.sub (e' := [(34, (Value.agg (Flat.enc r49).toArray)), (0, v0_1), (5, (ptr b3 0)), (6, (ptr b5 0)), (7, (ptr b22 0)), (8, (ptr b24 0)), (10, (ptr b41 0)), (26, (Value.agg (Flat.enc x16).toArray)), (27, (Value.agg (Flat.enc p2).toArray)), (28, (Value.agg (Flat.enc r39).toArray))]) ⟨lk rfl (hg 5 (by decide)), rfl, rfl, rfl, rfl, rfl, rfl, rfl, rfl, rfl, trivial⟩
     have hM := hM.pull (pre := [_])
     refine Zs (seg := Flat.enc r49) (cs' := Flat.enc r49) hE hM Za rfl rfl rfl ZP (Flat.len _) (zle flq) (Flat.cell _) (Zq flq) ?_; intro w a hM hE
     refine Zj ?_
     have ht51 := Option.some.inj hl44
     subst ht51
     refine Zl ?_
     have hM := hM.pull (pre := [_, _, _])
     have hM := hM.pull (pre := [_, _, _])
     have hM := hM.pull (pre := [_, _])
     have hM := M.fst (l := [_, _, _]) hM
     exact ⟨hE.sub ⟨rfl, rfl, rfl, trivial⟩, hM⟩
   ·skip
    rintro a w ⟨hE, hM⟩
    obtain ⟨j52, hl53, hF54⟩ := bind_some hF45
    refine ZS (fun a w => Env 41 a [(6, (ptr b5 0))] ∧ M (Old w0) w0 w [raw b5 (Flat.enc j52)]) ?_ ?_
    ·skip
     obtain ⟨l56, e57, hl53⟩ := bind_some hl53
     have hb58 := slc_arr e57 -- ^
     obtain ⟨l59, e60, hl53⟩ := bind_some hl53
     have hb61 := slc_arr e60 -- ^
     refine Yd (n := 41) (hd := [_, _]) (tl := [_, _, _, _, _]) YB rfl rfl [35, 36] (by decide) (fun w => M (Old w0) w0 w [raw b24 (Flat.enc j43), raw b22 (Flat.enc j30), raw b5 (Flat.enc (Vector.replicate 32 (0 : UInt8)))]) (fun j => ([fun v _ => v = (Z9 (.slice (some ⟨b22, 0, none⟩) 16 16) ((0 : Int)).toNat ((16 : Int)).toNat 1), fun v _ => v = (Z9 (.slice (some ⟨b24, 0, none⟩) 16 16) ((0 : Int)).toNat ((16 : Int)).toNat 1)] : List (Value → World → Prop)).getD j (fun _ _ => True)) (fun _ _ h hk => h.keep hk) (gup (Zg (Zg Wu))) hE hM.drew (ZH (Zb ?_ (Zb ?_ ZD))) ?_
     ·exact fun a w ux55 hE hM hp => Um (N := 16) hE Za (dl rfl) rfl rfl rfl rfl rfl Try.underlying39 ty5 hb58 fun a hE => ⟨Kept.refl _ _, _, _, rfl, hE, rfl⟩
     ·exact fun a w ux55 hE hM hp => Um (N := 16) hE Za (dl rfl) rfl rfl rfl rfl rfl Try.underlying39 ty5 hb61 fun a hE => ⟨Kept.refl _ _, _, _, rfl, hE, rfl⟩
     ·intro a w ux55 hE hM hg
      have hE := hE.sub (e' := [(35, (Z9 (.slice (some ⟨b22, 0, none⟩) 16 16) ((0 : Int)).toNat ((16 : Int)).toNat 1)), (36, (Z9 (.slice (some ⟨b24, 0, none⟩) 16 16) ((0 : Int)).toNat ((16 : Int)).toNat 1)), (6, (ptr b5 0)), (7, (ptr b22 0)), (8, (ptr b24 0))]) ⟨lk rfl (hg 0 (by decide)), lk rfl (hg 1 (by decide)), rfl, rfl, rfl, trivial⟩
      refine s_buildLit (xs := [.tmp 35, .tmp 36]) (vs := [(Z9 (.slice (some ⟨b22, 0, none⟩) 16 16) ((0 : Int)).toNat ((16 : Int)).toNat 1), (Z9 (.slice (some ⟨b24, 0, none⟩) 16 16) ((0 : Int)).toNat ((16 : Int)).toNat 1)]) hE hM Za (dl rfl) rfl rfl Try.underlying45 VD (by decide) (fa_cons (sl_cells (VL (At.sat (hM.rawAt (pre := [_])) (by simp) (by decide)) e57)) (fa_cons (sl_cells (VL (At.sat (hM.rawAt (pre := [])) (by simp) (by decide)) e60)) fa_nil)) ?_; intro b62 w a hM hE
      obtain ⟨r64, e65, hl53⟩ := bind_some hl53
      refine Zw (vs := [(Value.slice (some ⟨b62, 0, none⟩) 2 2)]) hE Za (dl rfl) rfl cb94 (V5 _ ([l56, l59] : (List (List UInt8))) (Value.slice (some ⟨b62, 0, none⟩) 2 2) (ro_lit (hM.rawAt (pre := [])) (hM.rawLt (pre := [])) ⟨(VL (At.sat (hM.rawAt (pre := [_, _])) (by simp) (by decide)) e57), (VL (At.sat (hM.rawAt (pre := [_])) (by simp) (by decide)) e60), trivial⟩ rfl) r64 e65) ?_
      rintro u66 w a ⟨_, rfl, hFr, hK⟩ hE
      have hM := hM.add hK hFr
      obtain ⟨x67, e68, hl53⟩ := bind_some hl53
      refine s_toArr hE Za (dl rfl) rfl Try.underlying25 (hM.sl (pre := []) noB) (toArr_some e68).1 (by decide) ?_; intro a hE
      refine Zp (cs := Flat.enc x67) hE Za (dl rfl) rfl Yi rfl (sl_arr (hM.sl (pre := []) noB) e68 (by decide)) (Flat.len _) ?_; intro a hE
      have hM := hM.pull (pre := [_, _, _, _])
      refine Zs (seg := Flat.enc x67) (cs' := Flat.enc x67) hE hM Za rfl rfl rfl Yi (Flat.len _) (zle flq) (Flat.cell _) (Zq flq) ?_; intro w a hM hE
      refine Zj ?_
      have ht69 := Option.some.inj hl53
      subst ht69
      refine Zl ?_
      have hM := M.fst (l := [_]) hM
      exact ⟨hE.sub ⟨rfl, trivial⟩, hM⟩
    ·skip
     rintro a w ⟨hE, hM⟩
     have hr := Option.some.inj hF54
     subst hr
     have hq70 : YR Try.prog _ _ (.cell 6 25) _ := Z6 hE rfl Yi rfl (hM.rawAt (pre := [])) (Flat.len _) rfl
     have hM := M.fst (l := []) hM
     exact wp_ret (Zy hE rfl hq70 ⟨_, rfl, rfl, hM.kept⟩)
noncomputable def YF (p0 : (Ref Gengine)) (r13 : (List (Vector UInt8 16))) (s19 : (Vector UInt8 32) × Int) : Option (Fl ((Vector UInt8 32) × Int) (Vector UInt8 32)) :=
 if (decide (s19.2 < (r13.length : Int))) = true then ((idx r13 s19.2).bind fun x24 => (YN p0 s19.1 x24).bind fun r29 => some (Fl.nx (r29, wr (s19.2 + 1)))) else (some (Fl.ex s19.1))
noncomputable def Xr (p0 : (Ref Gengine)) (p1 : (List (List UInt8))) : Option ((Vector UInt8 32)) :=
 (Xj).bind fun r3 => (Z5 p1).bind fun r7 => (Wl r7).bind fun r10 => (Ve r10).bind fun r13 => (ZF (YF p0 r13) (r3, 0) : Option ((Vector UInt8 32))).bind fun j16 => some j16
theorem c_impl_engine_digest (w0 : World) (p0 : (Ref Gengine)) (v0_1 : Value) (hv0_1 : Ro w0 p0 [v0_1]) (p1 : (List (List UInt8))) (v1_1 : Value) (hv1_1 : Ro w0 p1 [v1_1]) (r : (Vector UInt8 32)) (hF : Xr p0 p1 = some r) :
  Calls Try.prog 70 [v0_1, v1_1].toArray w0 (fun en w' => ∃ v, en = .returned v ∧ (v = (Value.agg (Flat.enc r).toArray) ∧ Kept (Old w0) w0 w')) := by
 refine ZC (n := 24) Try.func70 rfl rfl (Nat.le_of_ble_eq_true rfl) rfl ?_
 intro a hE
 have hM := M.start w0
 unfold Xr at hF
 refine Zc (ZO hE hM Za (dl rfl) Yi ?_); intro b1 w a hM hE
 refine Zf (Zc ?_)
 obtain ⟨r3, e4, hF⟩ := bind_some hF
 refine Zw (vs := []) hE Za (dl rfl) rfl cb91 (c_impl_StartOfDigest _  r3 e4) ?_
 rintro v w a ⟨rfl, hK⟩ hE
 have hM := hM.keep hK
 refine ZO hE hM Za (dl rfl) Yi ?_; intro b5 w a hM hE
 refine Zs (seg := Flat.enc r3) (cs' := Flat.enc r3) hE hM Za rfl rfl rfl Yi (Flat.len _) (zle flq) (Flat.cell _) (Zq flq) ?_; intro w a hM hE
 refine Zf (wp_seq (Zc (Zd hE Za (dl rfl) rfl ?_))); intro a hE
 obtain ⟨r7, e8, hF⟩ := bind_some hF
 refine Zw (vs := [v1_1]) hE Za (dl rfl) rfl cb94 (V5 _ p1 v1_1 (hM.rdo hv1_1) r7 e8) ?_
 rintro u9 w a ⟨_, rfl, hFr, hK⟩ hE
 have hM := hM.add hK hFr
 obtain ⟨r10, e11, hF⟩ := bind_some hF
 refine Zw (vs := [u9]) hE Za (dl rfl) rfl cb93 (c_impl_padMessage _ r7 u9 (hM.sl (pre := []) noB) r10 e11) ?_
 rintro u12 w a ⟨_, rfl, hFr, hK⟩ hE
 have hM := hM.add hK hFr
 obtain ⟨r13, e14, hF⟩ := bind_some hF
 refine Zw (vs := [u12]) hE Za (dl rfl) rfl cb92 (c_impl_blocksOf _ r10 u12 (hM.sl (pre := []) noB) r13 e14) ?_
 rintro u15 w a ⟨_, rfl, hFr, hK⟩ hE
 have hM := hM.add hK hFr
 refine Z7 hE Za (dl rfl) rfl Try.underlying34 (hM.sl (pre := []) noB) ?_; intro a hE
 refine Zd hE Za (dl rfl) rfl ?_; intro a hE
 refine Zf ?_
 obtain ⟨j16, hl17, hF18⟩ := bind_some hF
 refine ZV (fun a w => Env 24 a [(4, (ptr b1 0)), (5, (ptr b5 0))] ∧ M (Old w0) w0 w [raw b5 (Flat.enc j16), raw b1 (Flat.enc (Vector.replicate 32 (0 : UInt8)))]) ?_ ?_
 ·skip
  refine wp_block ?_
  have hM := hM.pull (pre := [_, _, _, _])
  have hM := hM.pull (pre := [_, _, _, _])
  have hM := hM.pull (pre := [_, _])
  have hM := M.fst (l := [_, _, _]) hM
  refine ZN (fun (s19 : (Vector UInt8 32) × Int) a w => Env 24 a [(0, v0_1), (4, (ptr b1 0)), (5, (ptr b5 0)), (12, u15), (13, (vI (r13.length : Int))), (14, (vI s19.2))] ∧ M (Old w0) w0 w [osl NoB (r13 : List (Vector UInt8 16)) u15, raw b5 (Flat.enc s19.1), raw b1 (Flat.enc (Vector.replicate 32 (0 : UInt8)))]) hl17 ⟨hE.sub ⟨rfl, rfl, rfl, rfl, rfl, rfl, trivial⟩, hM⟩ ?_
  rintro s19 a w ⟨hE, hM⟩ o22 hs20 hx21
  unfold YF at hs20
  refine Zc (Zh hE Za (dl rfl) rfl rfl rfl ?_); intro a hE
  refine Zf (wp_seq ?_)
  refine Zt hE rfl ?_ ?_
  ·intro hb23
   have hs20 := ZA hs20 hb23
   refine wp_skip (Zx (wp_seq (wp_block (Zc ?_))))
   obtain ⟨x24, e25, hs20⟩ := bind_some hs20
   have hi26 := ZQ e25
   refine ZK hE Za (dl rfl) rfl rfl Try.underlying34 ZP (hM.sl (pre := []) noB) hi26.1 ?_; intro a hE
   refine Zp (cs := Flat.enc x24) hE Za (dl rfl) rfl ZP rfl (Yt (hM.sl (pre := []) noB) hi26.2) (Flat.len _) ?_; intro a hE
   refine ZO hE hM Za (dl rfl) ZP ?_; intro b27 w a hM hE
   refine Zs (seg := Flat.enc x24) (cs' := Flat.enc x24) hE hM Za rfl rfl rfl ZP (Flat.len _) (zle flq) (Flat.cell _) (Zq flq) ?_; intro w a hM hE
   refine Zf (wp_region_lit (Zd hE Za (dl rfl) rfl ?_)); intro a hE
   refine Zp (cs := Flat.enc s19.1) hE Za (dl rfl) rfl Yi rfl (hM.rawAt (pre := [_, _])) (Flat.len _) ?_; intro a hE
   refine Zp (cs := Flat.enc x24) hE Za (dl rfl) rfl ZP rfl (hM.rawAt (pre := [])) (Flat.len _) ?_; intro a hE
   obtain ⟨r29, e30, hs20⟩ := bind_some hs20
   refine Zw (vs := [v0_1, (Value.agg (Flat.enc s19.1).toArray), (Value.agg (Flat.enc x24).toArray)]) hE Za (dl rfl) rfl cb95 (c_impl_engine_absorb _ p0 v0_1 (hM.rdo hv0_1) s19.1 x24 r29 e30) ?_
   rintro v w a ⟨rfl, hK⟩ hE
   have hM := hM.keep hK
   have hM := hM.pull (pre := [_, _])
   refine Zs (seg := Flat.enc r29) (cs' := Flat.enc r29) hE hM Za rfl rfl rfl Yi (Flat.len _) (zle flq) (Flat.cell _) (Zq flq) ?_; intro w a hM hE
   refine Zj (Yk (Zx (wp_region_lit (Zh hE Za (dl rfl) rfl rfl rfl ?_)))); intro a hE
   refine Zd hE Za (dl rfl) rfl ?_; intro a hE
   refine Zj (Zl ?_)
   have hM := hM.pull (pre := [_, _, _])
   have hM := hM.pull (pre := [_])
   have hM := hM.pull (pre := [_, _, _])
   have hM := M.fst (l := [_, _, _]) hM
   exact ⟨_, (Option.some.inj hs20).symm, hE.sub ⟨rfl, rfl, rfl, rfl, rfl, rfl, trivial⟩, hM⟩
  ·intro hb23
   have hs20 := Zz hs20 hb23
   refine wp_exit (Zr (Zr (Yj ?_)))
   have ht31 := hx21 _ (Option.some.inj hs20).symm
   subst ht31
   refine Zl ?_
   have hM := hM.pull (pre := [_, _])
   have hM := hM.pull (pre := [_, _])
   have hM := M.fst (l := [_, _]) hM
   exact ⟨hE.sub ⟨rfl, rfl, trivial⟩, hM⟩
 ·skip
  rintro a w ⟨hE, hM⟩
  refine Zx (Zc (Zp (cs := Flat.enc j16) hE Za (dl rfl) rfl Yi rfl (hM.rawAt (pre := [])) (Flat.len _) ?_)); intro a hE
  have hM := hM.pull (pre := [_])
  refine Zs (seg := Flat.enc j16) (cs' := Flat.enc j16) hE hM Za rfl rfl rfl Yi (Flat.len _) (zle flq) (Flat.cell _) (Zq flq) ?_; intro w a hM hE
  refine Zf ?_
  have hr := Option.some.inj hF18
  subst hr
  have hq32 : YR Try.prog _ _ (.cell 4 25) _ := Z6 hE rfl Yi rfl (hM.rawAt (pre := [])) (Flat.len _) rfl
  have hM := M.fst (l := []) hM
  exact wp_ret (Zy hE rfl hq32 ⟨_, rfl, rfl, hM.kept⟩)
noncomputable def Yy (p0 : Ghasher) (p1 : GBlobs) (s22 : Int) : Option (Fl Int (Fl Unit Bool)) :=
 if (decide (s22 < (p1.Data.length : Int))) = true then ((idx p1.Data s22).bind fun x27 => ((F_impl_isData x27).bind fun r39 => if (!r39) = true then (some true) else ((idx p1.Counts s22).bind fun x43 => (Vy x43 1 1000000).bind fun r46 => if (!r46) = true then (some true) else ((Xr p0.engine ([x27] : (List (List UInt8)))).bind fun r54 => (idx p1.Keys s22).bind fun x56 => some (!decide (r54 = x56)))) : Option (Bool)).bind fun j35 => if j35 = true then (some (Fl.ex (Fl.ex false))) else (some (Fl.nx (wr (s22 + 1))))) else (some (Fl.ex (Fl.nx ())))
noncomputable def Xb (p0 : Ghasher) (p1 : GBlobs) : Option (Bool) :=
 (if (decide ((p1.Keys.length : Int) > 32)) = true then (some true) else (if ((p1.Data.length : Int) != (p1.Keys.length : Int)) = true then (some true) else (if ((p1.Counts.length : Int) != (p1.Keys.length : Int)) = true then (some true) else ((VF p1.Keys).bind fun r14 => some (!r14)))) : Option (Bool)).bind fun j5 => if j5 = true then (some false) else ((ZF (Yy p0 p1) 0 : Option (Fl Unit Bool)).bind fun j18 => j18.el (fun s21 => some true) (fun r => some r))
theorem c_impl_hasher_isBlobs (w0 : World) (p0 : Ghasher) (v0_1 : Value) (hv0_1 : Ro w0 p0.engine [v0_1]) (p1 : GBlobs) (v1_1 : Value) (hv1_1 : Ro w0 p1.Keys [v1_1]) (v1_2 : Value) (hv1_2 : Ro w0 p1.Data [v1_2]) (v1_3 : Value) (hv1_3 : Ro w0 p1.Counts [v1_3]) (r : Bool) (hF : Xb p0 p1 = some r) :
  Calls Try.prog 98 [(Value.agg (cat [[v0_1]]).toArray), (Value.agg (cat [[v1_1], [v1_2], [v1_3]]).toArray)].toArray w0 (fun en w' => ∃ v, en = .returned v ∧ (v = (vT r) ∧ Kept (Old w0) w0 w')) := by
 refine ZC (n := 69) Try.func98 rfl rfl (Nat.le_of_ble_eq_true rfl) rfl ?_
 intro a hE
 have hM := M.start w0
 unfold Xb at hF
 refine Zc (Z4 (cs := cat [[v0_1]]) hE hM Za (dl rfl) rfl rfl ?_); intro b1 w a hM hE
 refine Z4 (cs := cat [[v1_1], [v1_2], [v1_3]]) hE hM Za (dl rfl) rfl rfl ?_; intro b3 w a hM hE
 refine Ze hE Za (dl rfl) rfl ?_; intro a hE
 refine Zf (wp_seq ?_)
 obtain ⟨j5, hl6, hF7⟩ := bind_some hF
 refine ZS (fun a w => Env 69 a [(2, (ptr b1 0)), (3, (ptr b3 0)), (34, (vT j5))] ∧ M (Old w0) w0 w [raw b3 (cat [[v1_1], [v1_2], [v1_3]]), raw b1 (cat [[v0_1]])]) ?_ ?_
 ·skip
  refine wp_region_lit (Zo hE Za (dl rfl) rfl (Vz) ?_); intro a hE
  refine Zv (v := v1_1) hE Za (dl rfl) rfl ty53 rfl (At.cat (pre := []) (hM.rawAt (pre := [])) cl0) ?_; intro a hE
  refine Z7 hE Za (dl rfl) rfl Try.underlying53 (hM.rd hv1_1) ?_; intro a hE
  refine Zh hE Za (dl rfl) rfl rfl rfl ?_; intro a hE
  refine Zd hE Za (dl rfl) rfl ?_; intro a hE
  refine WE (decide ((p1.Keys.length : Int) > 32)) (fun hb8 => ?_) (fun hb8 => ?_)
  ·have hl6 := ZA hl6 hb8
   refine Zn hE rfl (lkb rfl hb8) rfl (by decide) ?_; intro a hE
   refine Zn hE rfl (lkb rfl hb8) rfl (by decide) ?_; intro a hE
   refine Zn hE rfl (lkb rfl hb8) rfl (by decide) ?_; intro a hE
   refine Zn hE rfl (lkb rfl hb8) rfl (by decide) ?_; intro a hE
   refine Zn hE rfl (lkb rfl hb8) rfl (by decide) ?_; intro a hE
   refine Zn hE rfl (lkb rfl hb8) rfl (by decide) ?_; intro a hE
   refine Zn hE rfl (lkb rfl hb8) rfl (by decide) ?_; intro a hE
   refine Yn hE Za (dl rfl) (lkb rfl hb8) rfl ?_; intro a hE
   refine Zd hE Za (dl rfl) rfl ?_; intro a hE
   refine Zn hE rfl rfl rfl (by decide) ?_; intro a hE
   refine Zn hE rfl rfl rfl (by decide) ?_; intro a hE
   refine Zn hE rfl rfl rfl (by decide) ?_; intro a hE
   refine Zn hE rfl rfl rfl (by decide) ?_; intro a hE
   refine Zn hE rfl rfl rfl (by decide) ?_; intro a hE
   refine Zn hE rfl rfl rfl (by decide) ?_; intro a hE
   refine Zn hE rfl rfl rfl (by decide) ?_; intro a hE
   refine Yn hE Za (dl rfl) rfl rfl ?_; intro a hE
   refine Zd hE Za (dl rfl) rfl ?_; intro a hE
   refine Zn hE rfl rfl rfl (by decide) ?_; intro a hE
   refine Zn hE rfl rfl rfl (by decide) ?_; intro a hE
   refine Zn hE rfl rfl rfl (by decide) ?_; intro a hE
   refine Zn hE rfl rfl rfl (by decide) ?_; intro a hE
   refine Yn hE Za (dl rfl) rfl rfl ?_; intro a hE
   refine Zj ?_
   have ht9 := Option.some.inj hl6
   subst ht9
   refine Zl ?_
   exact ⟨hE.sub ⟨rfl, rfl, rfl, trivial⟩, hM⟩
  ·have hl6 := Zz hl6 hb8
   refine Zo hE (Zk hE rfl (lkb rfl hb8)) (by decide) rfl (UE) ?_; intro a hE
   refine Zv (v := v1_2) hE (Zk hE rfl (lkb rfl hb8)) (by decide) rfl ty45 rfl (At.cat (pre := [[v1_1]]) (hM.rawAt (pre := [])) (cl1 (n := 1) (m := 0) rfl cl0)) ?_; intro a hE
   refine Z7 hE (Zk hE rfl (lkb rfl hb8)) (by decide) rfl Try.underlying45 (hM.rd hv1_2) ?_; intro a hE
   refine Zo hE (Zk hE rfl (lkb rfl hb8)) (by decide) rfl (Vz) ?_; intro a hE
   refine Zv (v := v1_1) hE (Zk hE rfl (lkb rfl hb8)) (by decide) rfl ty53 rfl (At.cat (pre := []) (hM.rawAt (pre := [])) cl0) ?_; intro a hE
   refine Z7 hE (Zk hE rfl (lkb rfl hb8)) (by decide) rfl Try.underlying53 (hM.rd hv1_1) ?_; intro a hE
   refine Zh hE (Zk hE rfl (lkb rfl hb8)) (by decide) rfl rfl rfl ?_; intro a hE
   refine YP hE Za (dl rfl) (lkb rfl hb8) rfl ?_; intro a hE
   refine Zd hE Za (dl rfl) rfl ?_; intro a hE
   refine WE ((p1.Data.length : Int) != (p1.Keys.length : Int)) (fun hb10 => ?_) (fun hb10 => ?_)
   ·have hl6 := ZA hl6 hb10
    refine Zn hE rfl (lkb rfl hb10) rfl (by decide) ?_; intro a hE
    refine Zn hE rfl (lkb rfl hb10) rfl (by decide) ?_; intro a hE
    refine Zn hE rfl (lkb rfl hb10) rfl (by decide) ?_; intro a hE
    refine Zn hE rfl (lkb rfl hb10) rfl (by decide) ?_; intro a hE
    refine Zn hE rfl (lkb rfl hb10) rfl (by decide) ?_; intro a hE
    refine Zn hE rfl (lkb rfl hb10) rfl (by decide) ?_; intro a hE
    refine Zn hE rfl (lkb rfl hb10) rfl (by decide) ?_; intro a hE
    refine Yn hE Za (dl rfl) (lkb rfl hb10) rfl ?_; intro a hE
    refine Zd hE Za (dl rfl) rfl ?_; intro a hE
    refine Zn hE rfl rfl rfl (by decide) ?_; intro a hE
    refine Zn hE rfl rfl rfl (by decide) ?_; intro a hE
    refine Zn hE rfl rfl rfl (by decide) ?_; intro a hE
    refine Zn hE rfl rfl rfl (by decide) ?_; intro a hE
    refine Yn hE Za (dl rfl) rfl rfl ?_; intro a hE
    refine Zj ?_
    have ht11 := Option.some.inj hl6
    subst ht11
    refine Zl ?_
    exact ⟨hE.sub ⟨rfl, rfl, rfl, trivial⟩, hM⟩
   ·have hl6 := Zz hl6 hb10
    refine Zo hE (Zk hE rfl (lkb rfl hb10)) (by decide) rfl (fd55_2) ?_; intro a hE
    refine Zv (v := v1_3) hE (Zk hE rfl (lkb rfl hb10)) (by decide) rfl ty46 rfl (At.cat (pre := [[v1_1], [v1_2]]) (hM.rawAt (pre := [])) (cl1 (n := 1) (m := 1) rfl (cl1 (n := 1) (m := 0) rfl cl0))) ?_; intro a hE
    refine Z7 hE (Zk hE rfl (lkb rfl hb10)) (by decide) rfl Try.underlying46 (hM.rd hv1_3) ?_; intro a hE
    refine Zo hE (Zk hE rfl (lkb rfl hb10)) (by decide) rfl (Vz) ?_; intro a hE
    refine Zv (v := v1_1) hE (Zk hE rfl (lkb rfl hb10)) (by decide) rfl ty53 rfl (At.cat (pre := []) (hM.rawAt (pre := [])) cl0) ?_; intro a hE
    refine Z7 hE (Zk hE rfl (lkb rfl hb10)) (by decide) rfl Try.underlying53 (hM.rd hv1_1) ?_; intro a hE
    refine Zh hE (Zk hE rfl (lkb rfl hb10)) (by decide) rfl rfl rfl ?_; intro a hE
    refine YP hE Za (dl rfl) (lkb rfl hb10) rfl ?_; intro a hE
    refine Zd hE Za (dl rfl) rfl ?_; intro a hE
    refine WE ((p1.Counts.length : Int) != (p1.Keys.length : Int)) (fun hb12 => ?_) (fun hb12 => ?_)
    ·have hl6 := ZA hl6 hb12
     refine Zn hE rfl (lkb rfl hb12) rfl (by decide) ?_; intro a hE
     refine Zn hE rfl (lkb rfl hb12) rfl (by decide) ?_; intro a hE
     refine Zn hE rfl (lkb rfl hb12) rfl (by decide) ?_; intro a hE
     refine Zn hE rfl (lkb rfl hb12) rfl (by decide) ?_; intro a hE
     refine Yn hE Za (dl rfl) (lkb rfl hb12) rfl ?_; intro a hE
     refine Zj ?_
     have ht13 := Option.some.inj hl6
     subst ht13
     refine Zl ?_
     exact ⟨hE.sub ⟨rfl, rfl, rfl, trivial⟩, hM⟩
    ·have hl6 := Zz hl6 hb12
     refine Zo hE (Zk hE rfl (lkb rfl hb12)) (by decide) rfl (Vz) ?_; intro a hE
     refine Zv (v := v1_1) hE (Zk hE rfl (lkb rfl hb12)) (by decide) rfl ty53 rfl (At.cat (pre := []) (hM.rawAt (pre := [])) cl0) ?_; intro a hE
     obtain ⟨r14, e15, hl6⟩ := bind_some hl6
     refine Zw (vs := [v1_1]) hE (Zk hE rfl (lkb rfl hb12)) (by decide) rfl cb116 (c_impl_ascends _ p1.Keys v1_1 (hM.rdo hv1_1) r14 e15) ?_
     rintro v w a ⟨rfl, hK⟩ hE
     have hM := hM.keep hK
     refine Uo hE (Zk hE rfl (lkb rfl hb12)) (by decide) rfl ?_; intro a hE
     refine YP hE Za (dl rfl) (lkb rfl hb12) rfl ?_; intro a hE
     refine Zj ?_
     have ht16 := Option.some.inj hl6
     subst ht16
     refine Zl ?_
     exact ⟨hE.sub ⟨rfl, rfl, rfl, trivial⟩, hM⟩
 ·skip
  rintro a w ⟨hE, hM⟩
  refine Zt hE rfl ?_ ?_
  ·intro hb17
   have hF7 := ZA hF7 hb17
   refine Zc (Ze hE Za (dl rfl) rfl ?_); intro a hE
   refine Zf ?_
   have hr := Option.some.inj hF7
   subst hr
   have hM := M.fst (l := []) hM
   exact wp_ret (ZL (Zy hE rfl (Zu hE rfl) ⟨_, rfl, rfl, hM.kept⟩))
  ·intro hb17
   have hF7 := Zz hF7 hb17
   refine wp_skip (Zx (wp_seq (Zc (Zo hE Za (dl rfl) rfl (UE) ?_)))); intro a hE
   refine Zv (v := v1_2) hE Za (dl rfl) rfl ty45 rfl (At.cat (pre := [[v1_1]]) (hM.rawAt (pre := [])) (cl1 (n := 1) (m := 0) rfl cl0)) ?_; intro a hE
   refine Z7 hE Za (dl rfl) rfl Try.underlying45 (hM.rd hv1_2) ?_; intro a hE
   refine Zd hE Za (dl rfl) rfl ?_; intro a hE
   refine Zf ?_
   obtain ⟨j18, hl19, hF20⟩ := bind_some hF7
   refine ZV (fun a w => ∃ s21 : Unit, j18 = Fl.nx s21 ∧ Env 69 a [] ∧ M (Old w0) w0 w []) ?_ ?_
   ·skip
    refine wp_block ?_
    refine ZN (fun (s22 : Int) a w => Env 69 a [(2, (ptr b1 0)), (3, (ptr b3 0)), (36, v1_2), (37, (vI (p1.Data.length : Int))), (38, (vI s22))] ∧ M (Old w0) w0 w [raw b3 (cat [[v1_1], [v1_2], [v1_3]]), raw b1 (cat [[v0_1]])]) hl19 ⟨hE.sub ⟨rfl, rfl, rfl, rfl, rfl, trivial⟩, hM⟩ ?_
    rintro s22 a w ⟨hE, hM⟩ o25 hs23 hx24
    unfold Yy at hs23
    refine Zc (Zh hE Za (dl rfl) rfl rfl rfl ?_); intro a hE
    refine Zf (wp_seq ?_)
    refine Zt hE rfl ?_ ?_
    ·intro hb26
     have hs23 := ZA hs23 hb26
     refine wp_skip (Zx (wp_seq (wp_block (Zc (Zd hE Za (dl rfl) rfl ?_))))); intro a hE
     obtain ⟨x27, e28, hs23⟩ := bind_some hs23
     have hi29 := ZQ e28
     refine ZK hE Za (dl rfl) rfl rfl Try.underlying45 VD (hM.rd hv1_2) hi29.1 ?_; intro a hE
     obtain ⟨cs30, hs31, hA32⟩ := Us hv1_2 hi29.2 -- ^
     obtain ⟨u33, rfl⟩ := Vp hs31 -- ^
     have h34 := hs31 -- ^
     refine Zv (v := u33) hE Za (dl rfl) rfl VD rfl (hM.atk hA32 (Uv hv1_2 hi29.2)) ?_; intro a hE
     refine Ze hE Za (dl rfl) rfl ?_; intro a hE
     refine Ze hE Za (dl rfl) rfl ?_; intro a hE
     refine Zf ?_
     obtain ⟨j35, hl36, hF37⟩ := bind_some hs23
     refine ZS (fun a w => Env 69 a [(2, (ptr b1 0)), (3, (ptr b3 0)), (36, v1_2), (37, (vI (p1.Data.length : Int))), (38, (vI s22)), (67, (vT j35))] ∧ M (Old w0) w0 w [raw b3 (cat [[v1_1], [v1_2], [v1_3]]), raw b1 (cat [[v0_1]])]) ?_ ?_
     ·skip
      obtain ⟨r39, e40, hl36⟩ := bind_some hl36
      refine WE (!r39) (fun hb41 => ?_) (fun hb41 => ?_)
      ·have hl36 := ZA hl36 hb41
       refine WA (n := 69) (hd := [_, _, _, _, _, _, _, _, _, _, _, _, _, _, _, _, _, _, _, _, _, _, _]) (tl := [_, _]) YB rfl rfl [43, 44, 45, 46, 47, 48, 49, 50, 51, 52, 53, 54, 55, 56, 57, 58, 59, 60, 61, 62, 63, 64, 65] (by decide) (fun D u w => M (Old w0) w0 w ([raw b3 (cat [[v1_1], [v1_2], [v1_3]]), raw b1 (cat [[v0_1]])] ++ qL ([] : Mk) D u) ∧ GOk ([([], fun us v => v = u33), ([], fun us v => v = (vT r39)), ([], fun us v => v = (vT (!r39))), ([], fun us v => v = (vT (!r39))), ([], fun us v => v = undef), ([], fun us v => v = undef), ([], fun us v => v = undef), ([], fun us v => v = undef), ([], fun us v => v = undef), ([], fun us v => v = undef), ([], fun us v => v = undef), ([], fun us v => v = (vT true)), ([], fun us v => v = (vT true)), ([], fun us v => v = undef), ([], fun us v => v = undef), ([], fun us v => v = undef), ([], fun us v => v = undef), ([], fun us v => v = undef), ([], fun us v => v = undef), ([], fun us v => v = undef), ([], fun us v => v = undef), ([], fun us v => v = undef), ([], fun us v => v = undef)] : Gs) D u) hE (fun u => ⟨M.q0 hM.drew u, gok0⟩) (ZH (Zb ?_ (Zb ?_ (Zb ?_ (Zb ?_ (Zb ?_ (Zb ?_ (Zb ?_ (Zb ?_ (Zb ?_ (Zb ?_ (Zb ?_ (Zb ?_ (Zb ?_ (Zb ?_ (Zb ?_ (Zb ?_ (Zb ?_ (Zb ?_ (Zb ?_ (Zb ?_ (Zb ?_ (Zb ?_ (Zb ?_ ZD)))))))))))))))))))))))) ?_
       ·intro a w ux38 D hE hI hD hdc hp
        have hM0 := hI.1
        exact Zd hE Za (dl rfl) rfl fun a hE => ⟨_, _, rfl, hE, M.qKeep hM0 rfl, hI.2.put hD rfl ZE rfl⟩
       ·intro a w ux38 D hE hI hD hdc hp
        have d0 : D 0 = true := hp 0 _ rfl rfl
        have g0 := hI.2 0 d0 _ rfl
        have f0 : ux38 0 = u33 := g0.2
        have hM0 := hI.1
        have hM := hI.1
        refine Zw (vs := [u33]) hE Za (dl rfl) (Z0 (ZY (lk rfl f0) Xf)) cb117 (c_impl_isData _ x27 u33 (hM.rdo h34) r39 e40) ?_
        rintro v w a ⟨rfl, hK⟩ hE
        exact ⟨_, _, rfl, hE, M.qKeep (hM0.keep hK) rfl, hI.2.put hD rfl ZE rfl⟩
       ·intro a w ux38 D hE hI hD hdc hp
        have d1 : D 1 = true := hp 0 _ rfl rfl
        have g1 := hI.2 1 d1 _ rfl
        have f1 : ux38 1 = (vT r39) := g1.2
        have hM0 := hI.1
        exact Uo hE Za (dl rfl) (lk rfl f1) fun a hE => ⟨_, _, rfl, hE, M.qKeep hM0 rfl, hI.2.put hD rfl ZE rfl⟩
       ·intro a w ux38 D hE hI hD hdc hp
        have d2 : D 2 = true := hp 0 _ rfl rfl
        have g2 := hI.2 2 d2 _ rfl
        have f2 : ux38 2 = (vT (!r39)) := g2.2
        have hM0 := hI.1
        exact Zd hE Za (dl rfl) (lk rfl f2) fun a hE => ⟨_, _, rfl, hE, M.qKeep hM0 rfl, hI.2.put hD rfl ZE rfl⟩
       ·intro a w ux38 D hE hI hD hdc hp
        have d3 : D 3 = true := hp 0 _ rfl rfl
        have g3 := hI.2 3 d3 _ rfl
        have f3 : ux38 3 = (vT (!r39)) := g3.2
        have hM0 := hI.1
        exact Zn hE rfl (lkb (lk rfl f3) hb41) rfl (by decide) fun a hE => ⟨_, _, rfl, hE, M.qKeep hM0 rfl, hI.2.put hD rfl ZE rfl⟩
       ·intro a w ux38 D hE hI hD hdc hp
        have d3 : D 3 = true := hp 1 _ rfl rfl
        have g3 := hI.2 3 d3 _ rfl
        have f3 : ux38 3 = (vT (!r39)) := g3.2
        have d4 : D 4 = true := hp 0 _ rfl rfl
        have g4 := hI.2 4 d4 _ rfl
        have f4 : ux38 4 = undef := g4.2
        have hM0 := hI.1
        exact Zn hE rfl (lkb (lk rfl f3) hb41) rfl (by decide) fun a hE => ⟨_, _, rfl, hE, M.qKeep hM0 rfl, hI.2.put hD rfl ZE rfl⟩
       ·intro a w ux38 D hE hI hD hdc hp
        have d3 : D 3 = true := hp 0 _ rfl rfl
        have g3 := hI.2 3 d3 _ rfl
        have f3 : ux38 3 = (vT (!r39)) := g3.2
        have hM0 := hI.1
        exact Zn hE rfl (lkb (lk rfl f3) hb41) rfl (by decide) fun a hE => ⟨_, _, rfl, hE, M.qKeep hM0 rfl, hI.2.put hD rfl ZE rfl⟩
       ·intro a w ux38 D hE hI hD hdc hp
        have d3 : D 3 = true := hp 2 _ rfl rfl
        have g3 := hI.2 3 d3 _ rfl
        have f3 : ux38 3 = (vT (!r39)) := g3.2
        have d5 : D 5 = true := hp 0 _ rfl rfl
        have g5 := hI.2 5 d5 _ rfl
        have f5 : ux38 5 = undef := g5.2
        have d6 : D 6 = true := hp 1 _ rfl rfl
        have g6 := hI.2 6 d6 _ rfl
        have f6 : ux38 6 = undef := g6.2
        have hM0 := hI.1
        exact Zn hE rfl (lkb (lk rfl f3) hb41) rfl (by decide) fun a hE => ⟨_, _, rfl, hE, M.qKeep hM0 rfl, hI.2.put hD rfl ZE rfl⟩
       ·intro a w ux38 D hE hI hD hdc hp
        have d3 : D 3 = true := hp 1 _ rfl rfl
        have g3 := hI.2 3 d3 _ rfl
        have f3 : ux38 3 = (vT (!r39)) := g3.2
        have d7 : D 7 = true := hp 0 _ rfl rfl
        have g7 := hI.2 7 d7 _ rfl
        have f7 : ux38 7 = undef := g7.2
        have hM0 := hI.1
        exact Zn hE rfl (lkb (lk rfl f3) hb41) rfl (by decide) fun a hE => ⟨_, _, rfl, hE, M.qKeep hM0 rfl, hI.2.put hD rfl ZE rfl⟩
       ·intro a w ux38 D hE hI hD hdc hp
        have d3 : D 3 = true := hp 1 _ rfl rfl
        have g3 := hI.2 3 d3 _ rfl
        have f3 : ux38 3 = (vT (!r39)) := g3.2
        have d8 : D 8 = true := hp 0 _ rfl rfl
        have g8 := hI.2 8 d8 _ rfl
        have f8 : ux38 8 = undef := g8.2
        have hM0 := hI.1
        exact Zn hE rfl (lkb (lk rfl f3) hb41) rfl (by decide) fun a hE => ⟨_, _, rfl, hE, M.qKeep hM0 rfl, hI.2.put hD rfl ZE rfl⟩
       ·intro a w ux38 D hE hI hD hdc hp
        have d3 : D 3 = true := hp 1 _ rfl rfl
        have g3 := hI.2 3 d3 _ rfl
        have f3 : ux38 3 = (vT (!r39)) := g3.2
        have d9 : D 9 = true := hp 0 _ rfl rfl
        have g9 := hI.2 9 d9 _ rfl
        have f9 : ux38 9 = undef := g9.2
        have hM0 := hI.1
        exact Zn hE rfl (lkb (lk rfl f3) hb41) rfl (by decide) fun a hE => ⟨_, _, rfl, hE, M.qKeep hM0 rfl, hI.2.put hD rfl ZE rfl⟩
       ·intro a w ux38 D hE hI hD hdc hp
        have d3 : D 3 = true := hp 0 _ rfl rfl
        have g3 := hI.2 3 d3 _ rfl
        have f3 : ux38 3 = (vT (!r39)) := g3.2
        have d10 : D 10 = true := hp 1 _ rfl rfl
        have g10 := hI.2 10 d10 _ rfl
        have f10 : ux38 10 = undef := g10.2
        have hM0 := hI.1
        exact Yn hE Za (dl rfl) (lkb (lk rfl f3) hb41) rfl fun a hE => ⟨_, _, rfl, hE, M.qKeep hM0 rfl, hI.2.put hD rfl ZE rfl⟩
       ·intro a w ux38 D hE hI hD hdc hp
        have d11 : D 11 = true := hp 0 _ rfl rfl
        have g11 := hI.2 11 d11 _ rfl
        have f11 : ux38 11 = (vT true) := g11.2
        have hM0 := hI.1
        exact Zd hE Za (dl rfl) (lk rfl f11) fun a hE => ⟨_, _, rfl, hE, M.qKeep hM0 rfl, hI.2.put hD rfl ZE rfl⟩
       ·intro a w ux38 D hE hI hD hdc hp
        have d12 : D 12 = true := hp 0 _ rfl rfl
        have g12 := hI.2 12 d12 _ rfl
        have f12 : ux38 12 = (vT true) := g12.2
        have hM0 := hI.1
        exact Zn hE rfl (lk rfl f12) rfl (by decide) fun a hE => ⟨_, _, rfl, hE, M.qKeep hM0 rfl, hI.2.put hD rfl ZE rfl⟩
       ·intro a w ux38 D hE hI hD hdc hp
        have d12 : D 12 = true := hp 1 _ rfl rfl
        have g12 := hI.2 12 d12 _ rfl
        have f12 : ux38 12 = (vT true) := g12.2
        have d13 : D 13 = true := hp 0 _ rfl rfl
        have g13 := hI.2 13 d13 _ rfl
        have f13 : ux38 13 = undef := g13.2
        have hM0 := hI.1
        exact Zn hE rfl (lk rfl f12) rfl (by decide) fun a hE => ⟨_, _, rfl, hE, M.qKeep hM0 rfl, hI.2.put hD rfl ZE rfl⟩
       ·intro a w ux38 D hE hI hD hdc hp
        have d12 : D 12 = true := hp 0 _ rfl rfl
        have g12 := hI.2 12 d12 _ rfl
        have f12 : ux38 12 = (vT true) := g12.2
        have hM0 := hI.1
        exact Zn hE rfl (lk rfl f12) rfl (by decide) fun a hE => ⟨_, _, rfl, hE, M.qKeep hM0 rfl, hI.2.put hD rfl ZE rfl⟩
       ·intro a w ux38 D hE hI hD hdc hp
        have d12 : D 12 = true := hp 1 _ rfl rfl
        have g12 := hI.2 12 d12 _ rfl
        have f12 : ux38 12 = (vT true) := g12.2
        have d15 : D 15 = true := hp 0 _ rfl rfl
        have g15 := hI.2 15 d15 _ rfl
        have f15 : ux38 15 = undef := g15.2
        have hM0 := hI.1
        exact Zn hE rfl (lk rfl f12) rfl (by decide) fun a hE => ⟨_, _, rfl, hE, M.qKeep hM0 rfl, hI.2.put hD rfl ZE rfl⟩
       ·intro a w ux38 D hE hI hD hdc hp
        have d12 : D 12 = true := hp 2 _ rfl rfl
        have g12 := hI.2 12 d12 _ rfl
        have f12 : ux38 12 = (vT true) := g12.2
        have d14 : D 14 = true := hp 0 _ rfl rfl
        have g14 := hI.2 14 d14 _ rfl
        have f14 : ux38 14 = undef := g14.2
        have d16 : D 16 = true := hp 1 _ rfl rfl
        have g16 := hI.2 16 d16 _ rfl
        have f16 : ux38 16 = undef := g16.2
        have hM0 := hI.1
        exact Zn hE rfl (lk rfl f12) rfl (by decide) fun a hE => ⟨_, _, rfl, hE, M.qKeep hM0 rfl, hI.2.put hD rfl ZE rfl⟩
       ·intro a w ux38 D hE hI hD hdc hp
        have d12 : D 12 = true := hp 0 _ rfl rfl
        have g12 := hI.2 12 d12 _ rfl
        have f12 : ux38 12 = (vT true) := g12.2
        have hM0 := hI.1
        exact Zn hE rfl (lk rfl f12) rfl (by decide) fun a hE => ⟨_, _, rfl, hE, M.qKeep hM0 rfl, hI.2.put hD rfl ZE rfl⟩
       ·intro a w ux38 D hE hI hD hdc hp
        have d12 : D 12 = true := hp 1 _ rfl rfl
        have g12 := hI.2 12 d12 _ rfl
        have f12 : ux38 12 = (vT true) := g12.2
        have d18 : D 18 = true := hp 0 _ rfl rfl
        have g18 := hI.2 18 d18 _ rfl
        have f18 : ux38 18 = undef := g18.2
        have hM0 := hI.1
        exact Zn hE rfl (lk rfl f12) rfl (by decide) fun a hE => ⟨_, _, rfl, hE, M.qKeep hM0 rfl, hI.2.put hD rfl ZE rfl⟩
       ·intro a w ux38 D hE hI hD hdc hp
        have d12 : D 12 = true := hp 0 _ rfl rfl
        have g12 := hI.2 12 d12 _ rfl
        have f12 : ux38 12 = (vT true) := g12.2
        have hM0 := hI.1
        exact Zn hE rfl (lk rfl f12) rfl (by decide) fun a hE => ⟨_, _, rfl, hE, M.qKeep hM0 rfl, hI.2.put hD rfl ZE rfl⟩
       ·intro a w ux38 D hE hI hD hdc hp
        have d12 : D 12 = true := hp 2 _ rfl rfl
        have g12 := hI.2 12 d12 _ rfl
        have f12 : ux38 12 = (vT true) := g12.2
        have d19 : D 19 = true := hp 0 _ rfl rfl
        have g19 := hI.2 19 d19 _ rfl
        have f19 : ux38 19 = undef := g19.2
        have d20 : D 20 = true := hp 1 _ rfl rfl
        have g20 := hI.2 20 d20 _ rfl
        have f20 : ux38 20 = undef := g20.2
        have hM0 := hI.1
        exact Zn hE rfl (lk rfl f12) rfl (by decide) fun a hE => ⟨_, _, rfl, hE, M.qKeep hM0 rfl, hI.2.put hD rfl ZE rfl⟩
       ·intro a w ux38 D hE hI hD hdc hp
        have d12 : D 12 = true := hp 1 _ rfl rfl
        have g12 := hI.2 12 d12 _ rfl
        have f12 : ux38 12 = (vT true) := g12.2
        have d21 : D 21 = true := hp 0 _ rfl rfl
        have g21 := hI.2 21 d21 _ rfl
        have f21 : ux38 21 = undef := g21.2
        have hM0 := hI.1
        exact Zn hE rfl (lk rfl f12) rfl (by decide) fun a hE => ⟨_, _, rfl, hE, M.qKeep hM0 rfl, hI.2.put hD rfl ZE rfl⟩
       ·intro a w ux38 D hE hI hall
        have hM := hI.1
        have d0 : D 0 = true := hall 0 (by decide)
        have d1 : D 1 = true := hall 1 (by decide)
        have d2 : D 2 = true := hall 2 (by decide)
        have d3 : D 3 = true := hall 3 (by decide)
        have d4 : D 4 = true := hall 4 (by decide)
        have d5 : D 5 = true := hall 5 (by decide)
        have d6 : D 6 = true := hall 6 (by decide)
        have d7 : D 7 = true := hall 7 (by decide)
        have d8 : D 8 = true := hall 8 (by decide)
        have d9 : D 9 = true := hall 9 (by decide)
        have d10 : D 10 = true := hall 10 (by decide)
        have d11 : D 11 = true := hall 11 (by decide)
        have d12 : D 12 = true := hall 12 (by decide)
        have d13 : D 13 = true := hall 13 (by decide)
        have d14 : D 14 = true := hall 14 (by decide)
        have d15 : D 15 = true := hall 15 (by decide)
        have d16 : D 16 = true := hall 16 (by decide)
        have d17 : D 17 = true := hall 17 (by decide)
        have d18 : D 18 = true := hall 18 (by decide)
        have d19 : D 19 = true := hall 19 (by decide)
        have d20 : D 20 = true := hall 20 (by decide)
        have d21 : D 21 = true := hall 21 (by decide)
        have d22 : D 22 = true := hall 22 (by decide)
        have f0 : ux38 0 = u33 := (hI.2 0 d0 _ rfl).2
        have f1 : ux38 1 = (vT r39) := (hI.2 1 d1 _ rfl).2
        have f2 : ux38 2 = (vT (!r39)) := (hI.2 2 d2 _ rfl).2
        have f3 : ux38 3 = (vT (!r39)) := (hI.2 3 d3 _ rfl).2
        have f4 : ux38 4 = undef := (hI.2 4 d4 _ rfl).2
        have f5 : ux38 5 = undef := (hI.2 5 d5 _ rfl).2
        have f6 : ux38 6 = undef := (hI.2 6 d6 _ rfl).2
        have f7 : ux38 7 = undef := (hI.2 7 d7 _ rfl).2
        have f8 : ux38 8 = undef := (hI.2 8 d8 _ rfl).2
        have f9 : ux38 9 = undef := (hI.2 9 d9 _ rfl).2
        have f10 : ux38 10 = undef := (hI.2 10 d10 _ rfl).2
        have f11 : ux38 11 = (vT true) := (hI.2 11 d11 _ rfl).2
        have f12 : ux38 12 = (vT true) := (hI.2 12 d12 _ rfl).2
        have f13 : ux38 13 = undef := (hI.2 13 d13 _ rfl).2
        have f14 : ux38 14 = undef := (hI.2 14 d14 _ rfl).2
        have f15 : ux38 15 = undef := (hI.2 15 d15 _ rfl).2
        have f16 : ux38 16 = undef := (hI.2 16 d16 _ rfl).2
        have f17 : ux38 17 = undef := (hI.2 17 d17 _ rfl).2
        have f18 : ux38 18 = undef := (hI.2 18 d18 _ rfl).2
        have f19 : ux38 19 = undef := (hI.2 19 d19 _ rfl).2
        have f20 : ux38 20 = undef := (hI.2 20 d20 _ rfl).2
        have f21 : ux38 21 = undef := (hI.2 21 d21 _ rfl).2
        have f22 : ux38 22 = undef := (hI.2 22 d22 _ rfl).2
        have hE := hE.sub (e' := [(55, (vT true)), (60, undef), (65, undef), (2, (ptr b1 0)), (3, (ptr b3 0)), (5, (vI s22)), (6, u33), (36, v1_2), (37, (vI (p1.Data.length : Int))), (38, (vI s22)), (39, (vT (decide (s22 < (p1.Data.length : Int))))), (40, (vI s22)), (41, (ptr (sb v1_2) (so v1_2 + (s22).toNat * 1))), (42, u33)]) ⟨lk rfl f12, lk rfl f17, lk rfl f22, rfl, rfl, rfl, rfl, rfl, rfl, rfl, rfl, rfl, rfl, rfl, trivial⟩
        refine Zn hE rfl rfl rfl (by decide) ?_; intro a hE
        refine Yn hE Za (dl rfl) rfl rfl ?_; intro a hE
        refine Zj ?_
        have ht42 := Option.some.inj hl36
        subst ht42
        refine Zl ?_
        exact ⟨hE.sub ⟨rfl, rfl, rfl, rfl, rfl, rfl, trivial⟩, hM⟩
      ·have hl36 := Zz hl36 hb41
       obtain ⟨x43, e44, hl36⟩ := bind_some hl36
       have hi45 := ZQ e44
       obtain ⟨r46, e47, hl36⟩ := bind_some hl36
       refine WE (!r46) (fun hb48 => ?_) (fun hb48 => ?_)
       ·have hl36 := ZA hl36 hb48
        refine WA (n := 69) (hd := [_, _, _, _, _, _, _, _, _, _, _, _, _, _, _, _, _, _, _, _, _, _, _]) (tl := [_, _]) YB rfl rfl [43, 44, 45, 46, 47, 48, 49, 50, 51, 52, 53, 54, 55, 56, 57, 58, 59, 60, 61, 62, 63, 64, 65] (by decide) (fun D u w => M (Old w0) w0 w ([raw b3 (cat [[v1_1], [v1_2], [v1_3]]), raw b1 (cat [[v0_1]])] ++ qL ([] : Mk) D u) ∧ GOk ([([], fun us v => v = u33), ([], fun us v => v = (vT r39)), ([], fun us v => v = (vT (!r39))), ([], fun us v => v = (vT (!r39))), ([], fun us v => v = (ptr b3 (0 + 2))), ([], fun us v => v = v1_3), ([], fun us v => v = (vI s22)), ([], fun us v => v = (ptr (sb v1_3) (so v1_3 + (s22).toNat * 1))), ([], fun us v => v = (vI x43)), ([], fun us v => v = (vT r46)), ([], fun us v => v = (vT (!r46))), ([], fun us v => v = (vT (!r46))), ([], fun us v => v = (vT (!r46))), ([], fun us v => v = undef), ([], fun us v => v = undef), ([], fun us v => v = undef), ([], fun us v => v = undef), ([], fun us v => v = undef), ([], fun us v => v = undef), ([], fun us v => v = undef), ([], fun us v => v = undef), ([], fun us v => v = undef), ([], fun us v => v = undef)] : Gs) D u) hE (fun u => ⟨M.q0 hM.drew u, gok0⟩) (ZH (Zb ?_ (Zb ?_ (Zb ?_ (Zb ?_ (Zb ?_ (Zb ?_ (Zb ?_ (Zb ?_ (Zb ?_ (Zb ?_ (Zb ?_ (Zb ?_ (Zb ?_ (Zb ?_ (Zb ?_ (Zb ?_ (Zb ?_ (Zb ?_ (Zb ?_ (Zb ?_ (Zb ?_ (Zb ?_ (Zb ?_ ZD)))))))))))))))))))))))) ?_
        ·intro a w ux38 D hE hI hD hdc hp
         have hM0 := hI.1
         exact Zd hE Za (dl rfl) rfl fun a hE => ⟨_, _, rfl, hE, M.qKeep hM0 rfl, hI.2.put hD rfl ZE rfl⟩
        ·intro a w ux38 D hE hI hD hdc hp
         have d0 : D 0 = true := hp 0 _ rfl rfl
         have g0 := hI.2 0 d0 _ rfl
         have f0 : ux38 0 = u33 := g0.2
         have hM0 := hI.1
         have hM := hI.1
         refine Zw (vs := [u33]) hE Za (dl rfl) (Z0 (ZY (lk rfl f0) Xf)) cb117 (c_impl_isData _ x27 u33 (hM.rdo h34) r39 e40) ?_
         rintro v w a ⟨rfl, hK⟩ hE
         exact ⟨_, _, rfl, hE, M.qKeep (hM0.keep hK) rfl, hI.2.put hD rfl ZE rfl⟩
        ·intro a w ux38 D hE hI hD hdc hp
         have d1 : D 1 = true := hp 0 _ rfl rfl
         have g1 := hI.2 1 d1 _ rfl
         have f1 : ux38 1 = (vT r39) := g1.2
         have hM0 := hI.1
         exact Uo hE Za (dl rfl) (lk rfl f1) fun a hE => ⟨_, _, rfl, hE, M.qKeep hM0 rfl, hI.2.put hD rfl ZE rfl⟩
        ·intro a w ux38 D hE hI hD hdc hp
         have d2 : D 2 = true := hp 0 _ rfl rfl
         have g2 := hI.2 2 d2 _ rfl
         have f2 : ux38 2 = (vT (!r39)) := g2.2
         have hM0 := hI.1
         exact Zd hE Za (dl rfl) (lk rfl f2) fun a hE => ⟨_, _, rfl, hE, M.qKeep hM0 rfl, hI.2.put hD rfl ZE rfl⟩
        ·intro a w ux38 D hE hI hD hdc hp
         have d3 : D 3 = true := hp 0 _ rfl rfl
         have g3 := hI.2 3 d3 _ rfl
         have f3 : ux38 3 = (vT (!r39)) := g3.2
         have hM0 := hI.1
         exact Zo hE (Zk hE rfl (lkb (lk rfl f3) hb41)) (by decide) rfl (fd55_2) fun a hE => ⟨_, _, rfl, hE, M.qKeep hM0 rfl, hI.2.put hD rfl ZE rfl⟩
        ·intro a w ux38 D hE hI hD hdc hp
         have d3 : D 3 = true := hp 1 _ rfl rfl
         have g3 := hI.2 3 d3 _ rfl
         have f3 : ux38 3 = (vT (!r39)) := g3.2
         have d4 : D 4 = true := hp 0 _ rfl rfl
         have g4 := hI.2 4 d4 _ rfl
         have f4 : ux38 4 = (ptr b3 (0 + 2)) := g4.2
         have hM0 := hI.1
         have hM := hI.1
         exact Zv (v := v1_3) hE (Zk hE rfl (lkb (lk rfl f3) hb41)) (by decide) (lk rfl f4) ty46 rfl (At.cat (pre := [[v1_1], [v1_2]]) (hM.rawAt (pre := [])) (cl1 (n := 1) (m := 1) rfl (cl1 (n := 1) (m := 0) rfl cl0))) fun a hE => ⟨_, _, rfl, hE, M.qKeep hM0 rfl, hI.2.put hD rfl ZE rfl⟩
        ·intro a w ux38 D hE hI hD hdc hp
         have d3 : D 3 = true := hp 0 _ rfl rfl
         have g3 := hI.2 3 d3 _ rfl
         have f3 : ux38 3 = (vT (!r39)) := g3.2
         have hM0 := hI.1
         exact Zd hE (Zk hE rfl (lkb (lk rfl f3) hb41)) (by decide) rfl fun a hE => ⟨_, _, rfl, hE, M.qKeep hM0 rfl, hI.2.put hD rfl ZE rfl⟩
        ·intro a w ux38 D hE hI hD hdc hp
         have d3 : D 3 = true := hp 2 _ rfl rfl
         have g3 := hI.2 3 d3 _ rfl
         have f3 : ux38 3 = (vT (!r39)) := g3.2
         have d5 : D 5 = true := hp 0 _ rfl rfl
         have g5 := hI.2 5 d5 _ rfl
         have f5 : ux38 5 = v1_3 := g5.2
         have d6 : D 6 = true := hp 1 _ rfl rfl
         have g6 := hI.2 6 d6 _ rfl
         have f6 : ux38 6 = (vI s22) := g6.2
         have hM0 := hI.1
         have hM := hI.1
         exact ZK hE (Zk hE rfl (lkb (lk rfl f3) hb41)) (by decide) (lk rfl f5) (lk rfl f6) Try.underlying46 ty2 (hM.rd hv1_3) hi45.1 fun a hE => ⟨_, _, rfl, hE, M.qKeep hM0 rfl, hI.2.put hD rfl ZE rfl⟩
        ·intro a w ux38 D hE hI hD hdc hp
         have d3 : D 3 = true := hp 1 _ rfl rfl
         have g3 := hI.2 3 d3 _ rfl
         have f3 : ux38 3 = (vT (!r39)) := g3.2
         have d7 : D 7 = true := hp 0 _ rfl rfl
         have g7 := hI.2 7 d7 _ rfl
         have f7 : ux38 7 = (ptr (sb v1_3) (so v1_3 + (s22).toNat * 1)) := g7.2
         have hM0 := hI.1
         have hM := hI.1
         exact Zv (v := (vI x43)) hE (Zk hE rfl (lkb (lk rfl f3) hb41)) (by decide) (lk rfl f7) ty2 rfl (Yt (hM.rd hv1_3) hi45.2) fun a hE => ⟨_, _, rfl, hE, M.qKeep hM0 rfl, hI.2.put hD rfl ZE rfl⟩
        ·intro a w ux38 D hE hI hD hdc hp
         have d3 : D 3 = true := hp 1 _ rfl rfl
         have g3 := hI.2 3 d3 _ rfl
         have f3 : ux38 3 = (vT (!r39)) := g3.2
         have d8 : D 8 = true := hp 0 _ rfl rfl
         have g8 := hI.2 8 d8 _ rfl
         have f8 : ux38 8 = (vI x43) := g8.2
         have hM0 := hI.1
         refine Zw (vs := [(vI x43), (vI 1), (vI 1000000)]) hE (Zk hE rfl (lkb (lk rfl f3) hb41)) (by decide) (Z0 (ZY (lk rfl f8) (ZY rfl (ZY rfl Xf)))) cb67 (c_impl_inRange _ x43 1 1000000 r46 e47) ?_
         rintro v w a ⟨rfl, hK⟩ hE
         exact ⟨_, _, rfl, hE, M.qKeep (hM0.keep hK) rfl, hI.2.put hD rfl ZE rfl⟩
        ·intro a w ux38 D hE hI hD hdc hp
         have d3 : D 3 = true := hp 1 _ rfl rfl
         have g3 := hI.2 3 d3 _ rfl
         have f3 : ux38 3 = (vT (!r39)) := g3.2
         have d9 : D 9 = true := hp 0 _ rfl rfl
         have g9 := hI.2 9 d9 _ rfl
         have f9 : ux38 9 = (vT r46) := g9.2
         have hM0 := hI.1
         exact Uo hE (Zk hE rfl (lkb (lk rfl f3) hb41)) (by decide) (lk rfl f9) fun a hE => ⟨_, _, rfl, hE, M.qKeep hM0 rfl, hI.2.put hD rfl ZE rfl⟩
        ·intro a w ux38 D hE hI hD hdc hp
         have d3 : D 3 = true := hp 0 _ rfl rfl
         have g3 := hI.2 3 d3 _ rfl
         have f3 : ux38 3 = (vT (!r39)) := g3.2
         have d10 : D 10 = true := hp 1 _ rfl rfl
         have g10 := hI.2 10 d10 _ rfl
         have f10 : ux38 10 = (vT (!r46)) := g10.2
         have hM0 := hI.1
         exact YP hE Za (dl rfl) (lkb (lk rfl f3) hb41) (lk rfl f10) fun a hE => ⟨_, _, rfl, hE, M.qKeep hM0 rfl, hI.2.put hD rfl ZE rfl⟩
        ·intro a w ux38 D hE hI hD hdc hp
         have d11 : D 11 = true := hp 0 _ rfl rfl
         have g11 := hI.2 11 d11 _ rfl
         have f11 : ux38 11 = (vT (!r46)) := g11.2
         have hM0 := hI.1
         exact Zd hE Za (dl rfl) (lk rfl f11) fun a hE => ⟨_, _, rfl, hE, M.qKeep hM0 rfl, hI.2.put hD rfl ZE rfl⟩
        ·intro a w ux38 D hE hI hD hdc hp
         have d12 : D 12 = true := hp 0 _ rfl rfl
         have g12 := hI.2 12 d12 _ rfl
         have f12 : ux38 12 = (vT (!r46)) := g12.2
         have hM0 := hI.1
         exact Zn hE rfl (lkb (lk rfl f12) hb48) rfl (by decide) fun a hE => ⟨_, _, rfl, hE, M.qKeep hM0 rfl, hI.2.put hD rfl ZE rfl⟩
        ·intro a w ux38 D hE hI hD hdc hp
         have d12 : D 12 = true := hp 1 _ rfl rfl
         have g12 := hI.2 12 d12 _ rfl
         have f12 : ux38 12 = (vT (!r46)) := g12.2
         have d13 : D 13 = true := hp 0 _ rfl rfl
         have g13 := hI.2 13 d13 _ rfl
         have f13 : ux38 13 = undef := g13.2
         have hM0 := hI.1
         exact Zn hE rfl (lkb (lk rfl f12) hb48) rfl (by decide) fun a hE => ⟨_, _, rfl, hE, M.qKeep hM0 rfl, hI.2.put hD rfl ZE rfl⟩
        ·intro a w ux38 D hE hI hD hdc hp
         have d12 : D 12 = true := hp 0 _ rfl rfl
         have g12 := hI.2 12 d12 _ rfl
         have f12 : ux38 12 = (vT (!r46)) := g12.2
         have hM0 := hI.1
         exact Zn hE rfl (lkb (lk rfl f12) hb48) rfl (by decide) fun a hE => ⟨_, _, rfl, hE, M.qKeep hM0 rfl, hI.2.put hD rfl ZE rfl⟩
        ·intro a w ux38 D hE hI hD hdc hp
         have d12 : D 12 = true := hp 1 _ rfl rfl
         have g12 := hI.2 12 d12 _ rfl
         have f12 : ux38 12 = (vT (!r46)) := g12.2
         have d15 : D 15 = true := hp 0 _ rfl rfl
         have g15 := hI.2 15 d15 _ rfl
         have f15 : ux38 15 = undef := g15.2
         have hM0 := hI.1
         exact Zn hE rfl (lkb (lk rfl f12) hb48) rfl (by decide) fun a hE => ⟨_, _, rfl, hE, M.qKeep hM0 rfl, hI.2.put hD rfl ZE rfl⟩
        ·intro a w ux38 D hE hI hD hdc hp
         have d12 : D 12 = true := hp 2 _ rfl rfl
         have g12 := hI.2 12 d12 _ rfl
         have f12 : ux38 12 = (vT (!r46)) := g12.2
         have d14 : D 14 = true := hp 0 _ rfl rfl
         have g14 := hI.2 14 d14 _ rfl
         have f14 : ux38 14 = undef := g14.2
         have d16 : D 16 = true := hp 1 _ rfl rfl
         have g16 := hI.2 16 d16 _ rfl
         have f16 : ux38 16 = undef := g16.2
         have hM0 := hI.1
         exact Zn hE rfl (lkb (lk rfl f12) hb48) rfl (by decide) fun a hE => ⟨_, _, rfl, hE, M.qKeep hM0 rfl, hI.2.put hD rfl ZE rfl⟩
        ·intro a w ux38 D hE hI hD hdc hp
         have d12 : D 12 = true := hp 0 _ rfl rfl
         have g12 := hI.2 12 d12 _ rfl
         have f12 : ux38 12 = (vT (!r46)) := g12.2
         have hM0 := hI.1
         exact Zn hE rfl (lkb (lk rfl f12) hb48) rfl (by decide) fun a hE => ⟨_, _, rfl, hE, M.qKeep hM0 rfl, hI.2.put hD rfl ZE rfl⟩
        ·intro a w ux38 D hE hI hD hdc hp
         have d12 : D 12 = true := hp 1 _ rfl rfl
         have g12 := hI.2 12 d12 _ rfl
         have f12 : ux38 12 = (vT (!r46)) := g12.2
         have d18 : D 18 = true := hp 0 _ rfl rfl
         have g18 := hI.2 18 d18 _ rfl
         have f18 : ux38 18 = undef := g18.2
         have hM0 := hI.1
         exact Zn hE rfl (lkb (lk rfl f12) hb48) rfl (by decide) fun a hE => ⟨_, _, rfl, hE, M.qKeep hM0 rfl, hI.2.put hD rfl ZE rfl⟩
        ·intro a w ux38 D hE hI hD hdc hp
         have d12 : D 12 = true := hp 0 _ rfl rfl
         have g12 := hI.2 12 d12 _ rfl
         have f12 : ux38 12 = (vT (!r46)) := g12.2
         have hM0 := hI.1
         exact Zn hE rfl (lkb (lk rfl f12) hb48) rfl (by decide) fun a hE => ⟨_, _, rfl, hE, M.qKeep hM0 rfl, hI.2.put hD rfl ZE rfl⟩
        ·intro a w ux38 D hE hI hD hdc hp
         have d12 : D 12 = true := hp 2 _ rfl rfl
         have g12 := hI.2 12 d12 _ rfl
         have f12 : ux38 12 = (vT (!r46)) := g12.2
         have d19 : D 19 = true := hp 0 _ rfl rfl
         have g19 := hI.2 19 d19 _ rfl
         have f19 : ux38 19 = undef := g19.2
         have d20 : D 20 = true := hp 1 _ rfl rfl
         have g20 := hI.2 20 d20 _ rfl
         have f20 : ux38 20 = undef := g20.2
         have hM0 := hI.1
         exact Zn hE rfl (lkb (lk rfl f12) hb48) rfl (by decide) fun a hE => ⟨_, _, rfl, hE, M.qKeep hM0 rfl, hI.2.put hD rfl ZE rfl⟩
        ·intro a w ux38 D hE hI hD hdc hp
         have d12 : D 12 = true := hp 1 _ rfl rfl
         have g12 := hI.2 12 d12 _ rfl
         have f12 : ux38 12 = (vT (!r46)) := g12.2
         have d21 : D 21 = true := hp 0 _ rfl rfl
         have g21 := hI.2 21 d21 _ rfl
         have f21 : ux38 21 = undef := g21.2
         have hM0 := hI.1
         exact Zn hE rfl (lkb (lk rfl f12) hb48) rfl (by decide) fun a hE => ⟨_, _, rfl, hE, M.qKeep hM0 rfl, hI.2.put hD rfl ZE rfl⟩
        ·intro a w ux38 D hE hI hall
         have hM := hI.1
         have d0 : D 0 = true := hall 0 (by decide)
         have d1 : D 1 = true := hall 1 (by decide)
         have d2 : D 2 = true := hall 2 (by decide)
         have d3 : D 3 = true := hall 3 (by decide)
         have d4 : D 4 = true := hall 4 (by decide)
         have d5 : D 5 = true := hall 5 (by decide)
         have d6 : D 6 = true := hall 6 (by decide)
         have d7 : D 7 = true := hall 7 (by decide)
         have d8 : D 8 = true := hall 8 (by decide)
         have d9 : D 9 = true := hall 9 (by decide)
         have d10 : D 10 = true := hall 10 (by decide)
         have d11 : D 11 = true := hall 11 (by decide)
         have d12 : D 12 = true := hall 12 (by decide)
         have d13 : D 13 = true := hall 13 (by decide)
         have d14 : D 14 = true := hall 14 (by decide)
         have d15 : D 15 = true := hall 15 (by decide)
         have d16 : D 16 = true := hall 16 (by decide)
         have d17 : D 17 = true := hall 17 (by decide)
         have d18 : D 18 = true := hall 18 (by decide)
         have d19 : D 19 = true := hall 19 (by decide)
         have d20 : D 20 = true := hall 20 (by decide)
         have d21 : D 21 = true := hall 21 (by decide)
         have d22 : D 22 = true := hall 22 (by decide)
         have f0 : ux38 0 = u33 := (hI.2 0 d0 _ rfl).2
         have f1 : ux38 1 = (vT r39) := (hI.2 1 d1 _ rfl).2
         have f2 : ux38 2 = (vT (!r39)) := (hI.2 2 d2 _ rfl).2
         have f3 : ux38 3 = (vT (!r39)) := (hI.2 3 d3 _ rfl).2
         have f4 : ux38 4 = (ptr b3 (0 + 2)) := (hI.2 4 d4 _ rfl).2
         have f5 : ux38 5 = v1_3 := (hI.2 5 d5 _ rfl).2
         have f6 : ux38 6 = (vI s22) := (hI.2 6 d6 _ rfl).2
         have f7 : ux38 7 = (ptr (sb v1_3) (so v1_3 + (s22).toNat * 1)) := (hI.2 7 d7 _ rfl).2
         have f8 : ux38 8 = (vI x43) := (hI.2 8 d8 _ rfl).2
         have f9 : ux38 9 = (vT r46) := (hI.2 9 d9 _ rfl).2
         have f10 : ux38 10 = (vT (!r46)) := (hI.2 10 d10 _ rfl).2
         have f11 : ux38 11 = (vT (!r46)) := (hI.2 11 d11 _ rfl).2
         have f12 : ux38 12 = (vT (!r46)) := (hI.2 12 d12 _ rfl).2
         have f13 : ux38 13 = undef := (hI.2 13 d13 _ rfl).2
         have f14 : ux38 14 = undef := (hI.2 14 d14 _ rfl).2
         have f15 : ux38 15 = undef := (hI.2 15 d15 _ rfl).2
         have f16 : ux38 16 = undef := (hI.2 16 d16 _ rfl).2
         have f17 : ux38 17 = undef := (hI.2 17 d17 _ rfl).2
         have f18 : ux38 18 = undef := (hI.2 18 d18 _ rfl).2
         have f19 : ux38 19 = undef := (hI.2 19 d19 _ rfl).2
         have f20 : ux38 20 = undef := (hI.2 20 d20 _ rfl).2
         have f21 : ux38 21 = undef := (hI.2 21 d21 _ rfl).2
         have f22 : ux38 22 = undef := (hI.2 22 d22 _ rfl).2
         have hE := hE.sub (e' := [(55, (vT (!r46))), (60, undef), (65, undef), (2, (ptr b1 0)), (3, (ptr b3 0)), (5, (vI s22)), (6, u33), (36, v1_2), (37, (vI (p1.Data.length : Int))), (38, (vI s22)), (39, (vT (decide (s22 < (p1.Data.length : Int))))), (40, (vI s22)), (41, (ptr (sb v1_2) (so v1_2 + (s22).toNat * 1))), (42, u33)]) ⟨lk rfl f12, lk rfl f17, lk rfl f22, rfl, rfl, rfl, rfl, rfl, rfl, rfl, rfl, rfl, rfl, rfl, trivial⟩
         refine Zn hE rfl (lkb rfl hb48) rfl (by decide) ?_; intro a hE
         refine Yn hE Za (dl rfl) (lkb rfl hb48) rfl ?_; intro a hE
         refine Zj ?_
         have ht49 := Option.some.inj hl36
         subst ht49
         refine Zl ?_
         exact ⟨hE.sub ⟨rfl, rfl, rfl, rfl, rfl, rfl, trivial⟩, hM⟩
       ·have hl36 := Zz hl36 hb48
        obtain ⟨r54, e55, hl36⟩ := bind_some hl36
        obtain ⟨x56, e57, hl36⟩ := bind_some hl36
        have hi58 := ZQ e57
        refine WA (n := 69) (hd := [_, _, _, _, _, _, _, _, _, _, _, _, _, _, _, _, _, _, _, _, _, _, _]) (tl := [_, _]) YB rfl rfl [43, 44, 45, 46, 47, 48, 49, 50, 51, 52, 53, 54, 55, 56, 57, 58, 59, 60, 61, 62, 63, 64, 65] (by decide) (fun D u w => M (Old w0) w0 w ([raw b3 (cat [[v1_1], [v1_2], [v1_3]]), raw b1 (cat [[v0_1]])] ++ qL ([mkL 16 [] 1 (fun us => [u33])] : Mk) D u) ∧ GOk ([([], fun us v => v = u33), ([], fun us v => v = (vT r39)), ([], fun us v => v = (vT (!r39))), ([], fun us v => v = (vT (!r39))), ([], fun us v => v = (ptr b3 (0 + 2))), ([], fun us v => v = v1_3), ([], fun us v => v = (vI s22)), ([], fun us v => v = (ptr (sb v1_3) (so v1_3 + (s22).toNat * 1))), ([], fun us v => v = (vI x43)), ([], fun us v => v = (vT r46)), ([], fun us v => v = (vT (!r46))), ([], fun us v => v = (vT (!r46))), ([], fun us v => v = (vT (!r46))), ([], fun us v => v = (ptr b1 (0 + 0))), ([], fun us v => v = v0_1), ([], fun us v => v = u33), ([], fun us v => True), ([], fun us v => v = (Value.agg (Flat.enc r54).toArray)), ([], fun us v => v = (ptr b3 (0 + 0))), ([], fun us v => v = v1_1), ([], fun us v => v = (vI s22)), ([], fun us v => v = (ptr (sb v1_1) (so v1_1 + (s22).toNat * 32))), ([], fun us v => v = (Value.agg (Flat.enc x56).toArray))] : Gs) D u) hE (fun u => ⟨M.qE (M.q0 hM.drew u) emL, gok0⟩) (ZH (Zb ?_ (Zb ?_ (Zb ?_ (Zb ?_ (Zb ?_ (Zb ?_ (Zb ?_ (Zb ?_ (Zb ?_ (Zb ?_ (Zb ?_ (Zb ?_ (Zb ?_ (Zb ?_ (Zb ?_ (Zb ?_ (Zb ?_ (Zb ?_ (Zb ?_ (Zb ?_ (Zb ?_ (Zb ?_ (Zb ?_ ZD)))))))))))))))))))))))) ?_
        ·intro a w ux38 D hE hI hD hdc hp
         have hM0 := hI.1
         exact Zd hE Za (dl rfl) rfl fun a hE => ⟨_, _, rfl, hE, M.qKeep hM0 rfl, hI.2.put hD rfl ZE rfl⟩
        ·intro a w ux38 D hE hI hD hdc hp
         have d0 : D 0 = true := hp 0 _ rfl rfl
         have g0 := hI.2 0 d0 _ rfl
         have f0 : ux38 0 = u33 := g0.2
         have hM0 := hI.1
         have hM := hI.1
         refine Zw (vs := [u33]) hE Za (dl rfl) (Z0 (ZY (lk rfl f0) Xf)) cb117 (c_impl_isData _ x27 u33 (hM.rdo h34) r39 e40) ?_
         rintro v w a ⟨rfl, hK⟩ hE
         exact ⟨_, _, rfl, hE, M.qKeep (hM0.keep hK) rfl, hI.2.put hD rfl ZE rfl⟩
        ·intro a w ux38 D hE hI hD hdc hp
         have d1 : D 1 = true := hp 0 _ rfl rfl
         have g1 := hI.2 1 d1 _ rfl
         have f1 : ux38 1 = (vT r39) := g1.2
         have hM0 := hI.1
         exact Uo hE Za (dl rfl) (lk rfl f1) fun a hE => ⟨_, _, rfl, hE, M.qKeep hM0 rfl, hI.2.put hD rfl ZE rfl⟩
        ·intro a w ux38 D hE hI hD hdc hp
         have d2 : D 2 = true := hp 0 _ rfl rfl
         have g2 := hI.2 2 d2 _ rfl
         have f2 : ux38 2 = (vT (!r39)) := g2.2
         have hM0 := hI.1
         exact Zd hE Za (dl rfl) (lk rfl f2) fun a hE => ⟨_, _, rfl, hE, M.qKeep hM0 rfl, hI.2.put hD rfl ZE rfl⟩
        ·intro a w ux38 D hE hI hD hdc hp
         have d3 : D 3 = true := hp 0 _ rfl rfl
         have g3 := hI.2 3 d3 _ rfl
         have f3 : ux38 3 = (vT (!r39)) := g3.2
         have hM0 := hI.1
         exact Zo hE (Zk hE rfl (lkb (lk rfl f3) hb41)) (by decide) rfl (fd55_2) fun a hE => ⟨_, _, rfl, hE, M.qKeep hM0 rfl, hI.2.put hD rfl ZE rfl⟩
        ·intro a w ux38 D hE hI hD hdc hp
         have d3 : D 3 = true := hp 1 _ rfl rfl
         have g3 := hI.2 3 d3 _ rfl
         have f3 : ux38 3 = (vT (!r39)) := g3.2
         have d4 : D 4 = true := hp 0 _ rfl rfl
         have g4 := hI.2 4 d4 _ rfl
         have f4 : ux38 4 = (ptr b3 (0 + 2)) := g4.2
         have hM0 := hI.1
         have hM := hI.1
         exact Zv (v := v1_3) hE (Zk hE rfl (lkb (lk rfl f3) hb41)) (by decide) (lk rfl f4) ty46 rfl (At.cat (pre := [[v1_1], [v1_2]]) (hM.rawAt (pre := [])) (cl1 (n := 1) (m := 1) rfl (cl1 (n := 1) (m := 0) rfl cl0))) fun a hE => ⟨_, _, rfl, hE, M.qKeep hM0 rfl, hI.2.put hD rfl ZE rfl⟩
        ·intro a w ux38 D hE hI hD hdc hp
         have d3 : D 3 = true := hp 0 _ rfl rfl
         have g3 := hI.2 3 d3 _ rfl
         have f3 : ux38 3 = (vT (!r39)) := g3.2
         have hM0 := hI.1
         exact Zd hE (Zk hE rfl (lkb (lk rfl f3) hb41)) (by decide) rfl fun a hE => ⟨_, _, rfl, hE, M.qKeep hM0 rfl, hI.2.put hD rfl ZE rfl⟩
        ·intro a w ux38 D hE hI hD hdc hp
         have d3 : D 3 = true := hp 2 _ rfl rfl
         have g3 := hI.2 3 d3 _ rfl
         have f3 : ux38 3 = (vT (!r39)) := g3.2
         have d5 : D 5 = true := hp 0 _ rfl rfl
         have g5 := hI.2 5 d5 _ rfl
         have f5 : ux38 5 = v1_3 := g5.2
         have d6 : D 6 = true := hp 1 _ rfl rfl
         have g6 := hI.2 6 d6 _ rfl
         have f6 : ux38 6 = (vI s22) := g6.2
         have hM0 := hI.1
         have hM := hI.1
         exact ZK hE (Zk hE rfl (lkb (lk rfl f3) hb41)) (by decide) (lk rfl f5) (lk rfl f6) Try.underlying46 ty2 (hM.rd hv1_3) hi45.1 fun a hE => ⟨_, _, rfl, hE, M.qKeep hM0 rfl, hI.2.put hD rfl ZE rfl⟩
        ·intro a w ux38 D hE hI hD hdc hp
         have d3 : D 3 = true := hp 1 _ rfl rfl
         have g3 := hI.2 3 d3 _ rfl
         have f3 : ux38 3 = (vT (!r39)) := g3.2
         have d7 : D 7 = true := hp 0 _ rfl rfl
         have g7 := hI.2 7 d7 _ rfl
         have f7 : ux38 7 = (ptr (sb v1_3) (so v1_3 + (s22).toNat * 1)) := g7.2
         have hM0 := hI.1
         have hM := hI.1
         exact Zv (v := (vI x43)) hE (Zk hE rfl (lkb (lk rfl f3) hb41)) (by decide) (lk rfl f7) ty2 rfl (Yt (hM.rd hv1_3) hi45.2) fun a hE => ⟨_, _, rfl, hE, M.qKeep hM0 rfl, hI.2.put hD rfl ZE rfl⟩
        ·intro a w ux38 D hE hI hD hdc hp
         have d3 : D 3 = true := hp 1 _ rfl rfl
         have g3 := hI.2 3 d3 _ rfl
         have f3 : ux38 3 = (vT (!r39)) := g3.2
         have d8 : D 8 = true := hp 0 _ rfl rfl
         have g8 := hI.2 8 d8 _ rfl
         have f8 : ux38 8 = (vI x43) := g8.2
         have hM0 := hI.1
         refine Zw (vs := [(vI x43), (vI 1), (vI 1000000)]) hE (Zk hE rfl (lkb (lk rfl f3) hb41)) (by decide) (Z0 (ZY (lk rfl f8) (ZY rfl (ZY rfl Xf)))) cb67 (c_impl_inRange _ x43 1 1000000 r46 e47) ?_
         rintro v w a ⟨rfl, hK⟩ hE
         exact ⟨_, _, rfl, hE, M.qKeep (hM0.keep hK) rfl, hI.2.put hD rfl ZE rfl⟩
        ·intro a w ux38 D hE hI hD hdc hp
         have d3 : D 3 = true := hp 1 _ rfl rfl
         have g3 := hI.2 3 d3 _ rfl
         have f3 : ux38 3 = (vT (!r39)) := g3.2
         have d9 : D 9 = true := hp 0 _ rfl rfl
         have g9 := hI.2 9 d9 _ rfl
         have f9 : ux38 9 = (vT r46) := g9.2
         have hM0 := hI.1
         exact Uo hE (Zk hE rfl (lkb (lk rfl f3) hb41)) (by decide) (lk rfl f9) fun a hE => ⟨_, _, rfl, hE, M.qKeep hM0 rfl, hI.2.put hD rfl ZE rfl⟩
        ·intro a w ux38 D hE hI hD hdc hp
         have d3 : D 3 = true := hp 0 _ rfl rfl
         have g3 := hI.2 3 d3 _ rfl
         have f3 : ux38 3 = (vT (!r39)) := g3.2
         have d10 : D 10 = true := hp 1 _ rfl rfl
         have g10 := hI.2 10 d10 _ rfl
         have f10 : ux38 10 = (vT (!r46)) := g10.2
         have hM0 := hI.1
         exact YP hE Za (dl rfl) (lkb (lk rfl f3) hb41) (lk rfl f10) fun a hE => ⟨_, _, rfl, hE, M.qKeep hM0 rfl, hI.2.put hD rfl ZE rfl⟩
        ·intro a w ux38 D hE hI hD hdc hp
         have d11 : D 11 = true := hp 0 _ rfl rfl
         have g11 := hI.2 11 d11 _ rfl
         have f11 : ux38 11 = (vT (!r46)) := g11.2
         have hM0 := hI.1
         exact Zd hE Za (dl rfl) (lk rfl f11) fun a hE => ⟨_, _, rfl, hE, M.qKeep hM0 rfl, hI.2.put hD rfl ZE rfl⟩
        ·intro a w ux38 D hE hI hD hdc hp
         have d12 : D 12 = true := hp 0 _ rfl rfl
         have g12 := hI.2 12 d12 _ rfl
         have f12 : ux38 12 = (vT (!r46)) := g12.2
         have hM0 := hI.1
         exact Zo hE (Zk hE rfl (lkb (lk rfl f12) hb48)) (by decide) rfl (fd132_0) fun a hE => ⟨_, _, rfl, hE, M.qKeep hM0 rfl, hI.2.put hD rfl ZE rfl⟩
        ·intro a w ux38 D hE hI hD hdc hp
         have d12 : D 12 = true := hp 1 _ rfl rfl
         have g12 := hI.2 12 d12 _ rfl
         have f12 : ux38 12 = (vT (!r46)) := g12.2
         have d13 : D 13 = true := hp 0 _ rfl rfl
         have g13 := hI.2 13 d13 _ rfl
         have f13 : ux38 13 = (ptr b1 (0 + 0)) := g13.2
         have hM0 := hI.1
         have hM := hI.1
         exact Zv (v := v0_1) hE (Zk hE rfl (lkb (lk rfl f12) hb48)) (by decide) (lk rfl f13) ty71 rfl (At.cat (pre := []) (hM.rawAt (pre := [_])) cl0) fun a hE => ⟨_, _, rfl, hE, M.qKeep hM0 rfl, hI.2.put hD rfl ZE rfl⟩
        ·intro a w ux38 D hE hI hD hdc hp
         have d12 : D 12 = true := hp 0 _ rfl rfl
         have g12 := hI.2 12 d12 _ rfl
         have f12 : ux38 12 = (vT (!r46)) := g12.2
         have hM0 := hI.1
         exact Zd hE (Zk hE rfl (lkb (lk rfl f12) hb48)) (by decide) rfl fun a hE => ⟨_, _, rfl, hE, M.qKeep hM0 rfl, hI.2.put hD rfl ZE rfl⟩
        ·intro a w ux38 D hE hI hD hdc hp
         have d12 : D 12 = true := hp 1 _ rfl rfl
         have g12 := hI.2 12 d12 _ rfl
         have f12 : ux38 12 = (vT (!r46)) := g12.2
         have d15 : D 15 = true := hp 0 _ rfl rfl
         have g15 := hI.2 15 d15 _ rfl
         have f15 : ux38 15 = u33 := g15.2
         have hM0 := hI.1
         have hM := hI.1
         refine s_buildLit (xs := [.tmp 58]) (vs := [u33]) hE hM (Zk hE rfl (lkb (lk rfl f12) hb48)) (by decide) (Z0 (ZY (lk rfl f15) Xf)) rfl Try.underlying45 VD (by decide) (fa_cons (sl_cells (hM.rd h34)) fa_nil) ?_; intro b50 w a hM hE
         exact ⟨_, _, rfl, hE, M.litFill (its := [raw b3 (cat [[v1_1], [v1_2], [v1_3]]), raw b1 (cat [[v0_1]])]) (mk := ([] : Mk)) (i := 16) (ds := []) (m := 1) (f := (fun us => [u33])) hM rfl hD (by decide), hI.2.put hD rfl ZE trivial⟩
        ·intro a w ux38 D hE hI hD hdc hp
         have d12 : D 12 = true := hp 2 _ rfl rfl
         have g12 := hI.2 12 d12 _ rfl
         have f12 : ux38 12 = (vT (!r46)) := g12.2
         have d14 : D 14 = true := hp 0 _ rfl rfl
         have g14 := hI.2 14 d14 _ rfl
         have f14 : ux38 14 = v0_1 := g14.2
         have d16 : D 16 = true := hp 1 _ rfl rfl
         have g16 := hI.2 16 d16 _ rfl
         have hM0 := hI.1
         have hM := hI.1
         have hM := (hM.sure (pre := [_, _]) d16).pull
         obtain ⟨b52, f53, hM⟩ := M.litOpen hM
         refine Zw (vs := [v0_1, (Value.slice (some ⟨b52, 0, none⟩) 1 1)]) hE (Zk hE rfl (lkb (lk rfl f12) hb48)) (by decide) (Z0 (ZY (lk rfl f14) (ZY (lk rfl f53) Xf))) cb70 (c_impl_engine_digest _ p0.engine v0_1 (hM.rdo hv0_1) ([x27] : (List (List UInt8))) (Value.slice (some ⟨b52, 0, none⟩) 1 1) (ro_lit (hM.rawAt (pre := [])) (hM.rawLt (pre := [])) ⟨(hM.rdo h34), trivial⟩ rfl) r54 e55) ?_
         rintro v w a ⟨rfl, hK⟩ hE
         exact ⟨_, _, rfl, hE, M.qKeep (hM0.keep hK) rfl, hI.2.put hD rfl ZE rfl⟩
        ·intro a w ux38 D hE hI hD hdc hp
         have d12 : D 12 = true := hp 0 _ rfl rfl
         have g12 := hI.2 12 d12 _ rfl
         have f12 : ux38 12 = (vT (!r46)) := g12.2
         have hM0 := hI.1
         exact Zo hE (Zk hE rfl (lkb (lk rfl f12) hb48)) (by decide) rfl (Vz) fun a hE => ⟨_, _, rfl, hE, M.qKeep hM0 rfl, hI.2.put hD rfl ZE rfl⟩
        ·intro a w ux38 D hE hI hD hdc hp
         have d12 : D 12 = true := hp 1 _ rfl rfl
         have g12 := hI.2 12 d12 _ rfl
         have f12 : ux38 12 = (vT (!r46)) := g12.2
         have d18 : D 18 = true := hp 0 _ rfl rfl
         have g18 := hI.2 18 d18 _ rfl
         have f18 : ux38 18 = (ptr b3 (0 + 0)) := g18.2
         have hM0 := hI.1
         have hM := hI.1
         exact Zv (v := v1_1) hE (Zk hE rfl (lkb (lk rfl f12) hb48)) (by decide) (lk rfl f18) ty53 rfl (At.cat (pre := []) (hM.rawAt (pre := [])) cl0) fun a hE => ⟨_, _, rfl, hE, M.qKeep hM0 rfl, hI.2.put hD rfl ZE rfl⟩
        ·intro a w ux38 D hE hI hD hdc hp
         have d12 : D 12 = true := hp 0 _ rfl rfl
         have g12 := hI.2 12 d12 _ rfl
         have f12 : ux38 12 = (vT (!r46)) := g12.2
         have hM0 := hI.1
         exact Zd hE (Zk hE rfl (lkb (lk rfl f12) hb48)) (by decide) rfl fun a hE => ⟨_, _, rfl, hE, M.qKeep hM0 rfl, hI.2.put hD rfl ZE rfl⟩
        ·intro a w ux38 D hE hI hD hdc hp
         have d12 : D 12 = true := hp 2 _ rfl rfl
         have g12 := hI.2 12 d12 _ rfl
         have f12 : ux38 12 = (vT (!r46)) := g12.2
         have d19 : D 19 = true := hp 0 _ rfl rfl
         have g19 := hI.2 19 d19 _ rfl
         have f19 : ux38 19 = v1_1 := g19.2
         have d20 : D 20 = true := hp 1 _ rfl rfl
         have g20 := hI.2 20 d20 _ rfl
         have f20 : ux38 20 = (vI s22) := g20.2
         have hM0 := hI.1
         have hM := hI.1
         exact ZK hE (Zk hE rfl (lkb (lk rfl f12) hb48)) (by decide) (lk rfl f19) (lk rfl f20) Try.underlying53 Yi (hM.rd hv1_1) hi58.1 fun a hE => ⟨_, _, rfl, hE, M.qKeep hM0 rfl, hI.2.put hD rfl ZE rfl⟩
        ·intro a w ux38 D hE hI hD hdc hp
         have d12 : D 12 = true := hp 1 _ rfl rfl
         have g12 := hI.2 12 d12 _ rfl
         have f12 : ux38 12 = (vT (!r46)) := g12.2
         have d21 : D 21 = true := hp 0 _ rfl rfl
         have g21 := hI.2 21 d21 _ rfl
         have f21 : ux38 21 = (ptr (sb v1_1) (so v1_1 + (s22).toNat * 32)) := g21.2
         have hM0 := hI.1
         have hM := hI.1
         exact Zp (cs := Flat.enc x56) hE (Zk hE rfl (lkb (lk rfl f12) hb48)) (by decide) (lk rfl f21) Yi rfl (Yt (hM.rd hv1_1) hi58.2) (Flat.len _) fun a hE => ⟨_, _, rfl, hE, M.qKeep hM0 rfl, hI.2.put hD rfl ZE rfl⟩
        ·intro a w ux38 D hE hI hall
         have hM := hI.1
         have d0 : D 0 = true := hall 0 (by decide)
         have d1 : D 1 = true := hall 1 (by decide)
         have d2 : D 2 = true := hall 2 (by decide)
         have d3 : D 3 = true := hall 3 (by decide)
         have d4 : D 4 = true := hall 4 (by decide)
         have d5 : D 5 = true := hall 5 (by decide)
         have d6 : D 6 = true := hall 6 (by decide)
         have d7 : D 7 = true := hall 7 (by decide)
         have d8 : D 8 = true := hall 8 (by decide)
         have d9 : D 9 = true := hall 9 (by decide)
         have d10 : D 10 = true := hall 10 (by decide)
         have d11 : D 11 = true := hall 11 (by decide)
         have d12 : D 12 = true := hall 12 (by decide)
         have d13 : D 13 = true := hall 13 (by decide)
         have d14 : D 14 = true := hall 14 (by decide)
         have d15 : D 15 = true := hall 15 (by decide)
         have d16 : D 16 = true := hall 16 (by decide)
         have d17 : D 17 = true := hall 17 (by decide)
         have d18 : D 18 = true := hall 18 (by decide)
         have d19 : D 19 = true := hall 19 (by decide)
         have d20 : D 20 = true := hall 20 (by decide)
         have d21 : D 21 = true := hall 21 (by decide)
         have d22 : D 22 = true := hall 22 (by decide)
         have f0 : ux38 0 = u33 := (hI.2 0 d0 _ rfl).2
         have f1 : ux38 1 = (vT r39) := (hI.2 1 d1 _ rfl).2
         have f2 : ux38 2 = (vT (!r39)) := (hI.2 2 d2 _ rfl).2
         have f3 : ux38 3 = (vT (!r39)) := (hI.2 3 d3 _ rfl).2
         have f4 : ux38 4 = (ptr b3 (0 + 2)) := (hI.2 4 d4 _ rfl).2
         have f5 : ux38 5 = v1_3 := (hI.2 5 d5 _ rfl).2
         have f6 : ux38 6 = (vI s22) := (hI.2 6 d6 _ rfl).2
         have f7 : ux38 7 = (ptr (sb v1_3) (so v1_3 + (s22).toNat * 1)) := (hI.2 7 d7 _ rfl).2
         have f8 : ux38 8 = (vI x43) := (hI.2 8 d8 _ rfl).2
         have f9 : ux38 9 = (vT r46) := (hI.2 9 d9 _ rfl).2
         have f10 : ux38 10 = (vT (!r46)) := (hI.2 10 d10 _ rfl).2
         have f11 : ux38 11 = (vT (!r46)) := (hI.2 11 d11 _ rfl).2
         have f12 : ux38 12 = (vT (!r46)) := (hI.2 12 d12 _ rfl).2
         have f13 : ux38 13 = (ptr b1 (0 + 0)) := (hI.2 13 d13 _ rfl).2
         have f14 : ux38 14 = v0_1 := (hI.2 14 d14 _ rfl).2
         have f15 : ux38 15 = u33 := (hI.2 15 d15 _ rfl).2
         have f17 : ux38 17 = (Value.agg (Flat.enc r54).toArray) := (hI.2 17 d17 _ rfl).2
         have f18 : ux38 18 = (ptr b3 (0 + 0)) := (hI.2 18 d18 _ rfl).2
         have f19 : ux38 19 = v1_1 := (hI.2 19 d19 _ rfl).2
         have f20 : ux38 20 = (vI s22) := (hI.2 20 d20 _ rfl).2
         have f21 : ux38 21 = (ptr (sb v1_1) (so v1_1 + (s22).toNat * 32)) := (hI.2 21 d21 _ rfl).2
         have f22 : ux38 22 = (Value.agg (Flat.enc x56).toArray) := (hI.2 22 d22 _ rfl).2
         have hM := (hM.sure (pre := [_, _]) d16).pull
         obtain ⟨b59, f60, hM⟩ := M.litOpen hM
         have hE := hE.sub (e' := [(55, (vT (!r46))), (59, (Value.slice (some ⟨b59, 0, none⟩) 1 1)), (60, (Value.agg (Flat.enc r54).toArray)), (65, (Value.agg (Flat.enc x56).toArray)), (2, (ptr b1 0)), (3, (ptr b3 0)), (5, (vI s22)), (6, u33), (36, v1_2), (37, (vI (p1.Data.length : Int))), (38, (vI s22)), (39, (vT (decide (s22 < (p1.Data.length : Int))))), (40, (vI s22)), (41, (ptr (sb v1_2) (so v1_2 + (s22).toNat * 1))), (42, u33)]) ⟨lk rfl f12, lk rfl f60, lk rfl f17, lk rfl f22, rfl, rfl, rfl, rfl, rfl, rfl, rfl, rfl, rfl, rfl, rfl, trivial⟩
         refine s_neA hE (Zk hE rfl (lkb rfl hb48)) (by decide) rfl rfl (eqok_arr Try.underlying25 ty5 rfl false rfl (by decide) (eqok_byte Try.underlying5)) (by decide) (by kernel_rfl) ?_; intro a hE
         refine YP hE Za (dl rfl) (lkb rfl hb48) rfl ?_; intro a hE
         refine Zj ?_
         have ht61 := Option.some.inj hl36
         subst ht61
         refine Zl ?_
         have hM := hM.pull (pre := [_, _])
         have hM := hM.pull (pre := [_, _])
         have hM := M.fst (l := [_, _]) hM
         exact ⟨hE.sub ⟨rfl, rfl, rfl, rfl, rfl, rfl, trivial⟩, hM⟩
     ·skip
      rintro a w ⟨hE, hM⟩
      refine Zt hE rfl ?_ ?_
      ·intro hb62
       have hF37 := ZA hF37 hb62
       refine Zc (Ze hE Za (dl rfl) rfl ?_); intro a hE
       refine Zf ?_
       have ht63 := hx24 _ (Option.some.inj hF37).symm
       subst ht63
       have hr := Option.some.inj hF20
       subst hr
       have hM := M.fst (l := []) hM
       exact wp_ret (W0 (ZL (ZL (W0 (ZL (ZL (Zy hE rfl (Zu hE rfl) ⟨_, rfl, rfl, hM.kept⟩)))))))
      ·intro hb62
       have hF37 := Zz hF37 hb62
       refine wp_skip (Yk (Zx (wp_region_lit (Zh hE Za (dl rfl) rfl rfl rfl ?_)))); intro a hE
       refine Zd hE Za (dl rfl) rfl ?_; intro a hE
       refine Zj (Zl ?_)
       exact ⟨_, (Option.some.inj hF37).symm, hE.sub ⟨rfl, rfl, rfl, rfl, rfl, trivial⟩, hM⟩
    ·intro hb26
     have hs23 := Zz hs23 hb26
     refine wp_exit (Zr (Zr (Yj ?_)))
     have ht64 := hx24 _ (Option.some.inj hs23).symm
     subst ht64
     refine Zl ?_
     have hM := M.fst (l := []) hM
     exact ⟨(), rfl, hE.sub trivial, hM⟩
   ·skip
    rintro a w ⟨s21, ht, hE, hM⟩
    subst ht
    have hF20 := el_nx hF20
    refine Zx (Zc (Ze hE Za (dl rfl) rfl ?_)); intro a hE
    refine Zf ?_
    have hr := Option.some.inj hF20
    subst hr
    exact wp_ret (Zy hE rfl (Zu hE rfl) ⟨_, rfl, rfl, hM.kept⟩)
noncomputable def VK (p0 : GBlobs) : Option (Bool) :=
 ((VT).bind fun r7 => (Xb r7 p0).bind fun r12 => some r12 : Option (Bool)).bind fun j3 => some j3
theorem c_impl_IsBlobs (w0 : World) (p0 : GBlobs) (v0_1 : Value) (hv0_1 : Ro w0 p0.Keys [v0_1]) (v0_2 : Value) (hv0_2 : Ro w0 p0.Data [v0_2]) (v0_3 : Value) (hv0_3 : Ro w0 p0.Counts [v0_3]) (r : Bool) (hF : VK p0 = some r) :
  Calls Try.prog 79 [(Value.agg (cat [[v0_1], [v0_2], [v0_3]]).toArray)].toArray w0 (fun en w' => ∃ v, en = .returned v ∧ (v = (vT r) ∧ Kept (Old w0) w0 w')) := by
 refine ZC (n := 6) Try.func79 rfl rfl (Nat.le_of_ble_eq_true rfl) rfl ?_
 intro a hE
 have hM := M.start w0
 unfold VK at hF
 refine Zc (Z4 (cs := cat [[v0_1], [v0_2], [v0_3]]) hE hM Za (dl rfl) rfl rfl ?_); intro b1 w a hM hE
 refine Ze hE Za (dl rfl) rfl ?_; intro a hE
 refine Zf ?_
 obtain ⟨j3, hl4, hF5⟩ := bind_some hF
 refine ZS (fun a w => Env 6 a [(2, (vT j3))] ∧ M (Old w0) w0 w []) ?_ ?_
 ·skip
  obtain ⟨r7, e8, hl4⟩ := bind_some hl4
  refine c_draw2 (n := 6) (hd := [_, _]) (tl := [_, _]) (its := [raw b1 (cat [[v0_1], [v0_2], [v0_3]])]) YB rfl rfl [3, 4] (by decide) [(0, fun v => own NoB r7 (Value.cells v).toList)] rfl (fun j => ([fun v => ∃ cs, v = .agg cs, fun v => v = (Value.agg (cat [[v0_1], [v0_2], [v0_3]]).toArray)] : List (Value → Prop)).getD j (fun _ => True)) hE hM.drew (ZH (Zb ?_ (Zb ?_ ZD))) ?_
  ·intro a w ux6 D hE hM hD hp
   have hM0 := hM
   have hM : M (Old w0) w0 w [raw b1 (cat [[v0_1], [v0_2], [v0_3]]), opt (D 0) (own NoB r7 (Value.cells (ux6 0)).toList)] := hM
   refine Zw (vs := []) hE Za (dl rfl) rfl cb97 (c_impl_newHasher _  r7 e8) ?_
   rintro _ w a ⟨u9, rfl, hFr, hK⟩ hE
   have hM := hM0.add hK hFr
   have hM := hM.packL (m := [own NoB (r7.engine : (Ref Gengine)) [u9]]) (it := own NoB r7 (cat [[u9]])) (Xg noB) (fun fp h => by obtain ⟨_, _, rfl, _, s1, rfl⟩ := h; exact pk_Ghasher s1 (by simp))
   exact ⟨_, _, rfl, hE, ⟨_, rfl⟩, M.optFill (mk1 := []) (mk2 := []) (f := (fun v => own NoB r7 (Value.cells v).toList)) hM rfl hD⟩
  ·intro a w ux6 D hE hM hD hp
   have hM0 := hM
   have hM : M (Old w0) w0 w [raw b1 (cat [[v0_1], [v0_2], [v0_3]]), opt (D 0) (own NoB r7 (Value.cells (ux6 0)).toList)] := hM
   exact Zp (cs := cat [[v0_1], [v0_2], [v0_3]]) hE Za (dl rfl) rfl ty55 rfl (hM.rawAt (pre := [])) (ZR (cl1 (n := 1) (m := 2) rfl (cl1 (n := 1) (m := 1) rfl (cl1 (n := 1) (m := 0) rfl cl0)))) fun a hE => ⟨_, _, rfl, hE, rfl, hM0.optKeep rfl⟩
  ·intro a w ux6 hE hM hg
   have hM : M (Old w0) w0 w [raw b1 (cat [[v0_1], [v0_2], [v0_3]]), own NoB r7 (Value.cells (ux6 0)).toList] := hM
   obtain ⟨q0_1, hcz, hq0_1⟩ := un_Ghasher (hM.ro (pre := [_]) noB)
   obtain ⟨cz, hvz⟩ := hg 0 (by decide)
   have f0 : ux6 0 = (Value.agg (cat [[q0_1]]).toArray) := by rw [hvz] at hcz ⊢; exact congrArg Value.agg (toList_eq hcz)
   have hM := hM.pull (pre := [_])
   rw [f0] at hM
   have hM := hM.unpackL (m := [own NoB (r7.engine : (Ref Gengine)) [q0_1]]) (fun fp h => by obtain ⟨_, rfl, s1⟩ := unc_Ghasher h; exact Xa.one (Xg noB) s1)
   simp only [List.cons_append, List.nil_append] at hM
   have hE := hE.sub (e' := [(3, (Value.agg (cat [[q0_1]]).toArray)), (4, (Value.agg (cat [[v0_1], [v0_2], [v0_3]]).toArray)), (0, (Value.agg (cat [[v0_1], [v0_2], [v0_3]]).toArray)), (1, (ptr b1 0)), (2, (vT false))]) ⟨lk rfl f0, lk rfl (hg 1 (by decide)), rfl, rfl, rfl, trivial⟩
   obtain ⟨r12, e13, hl4⟩ := bind_some hl4
   refine Zw (vs := [(Value.agg (cat [[q0_1]]).toArray), (Value.agg (cat [[v0_1], [v0_2], [v0_3]]).toArray)]) hE Za (dl rfl) rfl cb98 (c_impl_hasher_isBlobs _ r7 q0_1 (hM.ro (pre := []) noB) p0 v0_1 (hM.rdo hv0_1) v0_2 (hM.rdo hv0_2) v0_3 (hM.rdo hv0_3) r12 e13) ?_
   rintro v w a ⟨rfl, hK⟩ hE
   have hM := hM.keep hK
   refine Ze hE Za (dl rfl) rfl ?_; intro a hE
   refine Zj ?_
   have ht14 := Option.some.inj hl4
   subst ht14
   refine Zl ?_
   have hM := M.fst (l := []) hM
   exact ⟨hE.sub ⟨rfl, trivial⟩, hM⟩
 ·skip
  rintro a w ⟨hE, hM⟩
  have hr := Option.some.inj hF5
  subst hr
  exact wp_ret (Zy hE rfl (Zu hE rfl) ⟨_, rfl, rfl, hM.kept⟩)
noncomputable def ZB (p0 : (List (Vector UInt8 32))) (p1 : (Vector UInt8 32)) (p2 : (Vector UInt8 32) → (Vector UInt8 32) → Option (Int)) (s6 : Int × Int) : Option (Fl (Int × Int) Int) :=
 if (decide (s6.2 < s6.1)) = true then ((((idx p0 (IntKind.i64.wrap (V9 (IntKind.u64.wrap (wr (s6.2 + s6.1))) 1))).bind fun x18 => ((p2 x18 p1)).bind fun r21 => some (decide (r21 < 0)) : Option (Bool)).bind fun j14 => (if j14 = true then (some (s6.1, wr ((IntKind.i64.wrap (V9 (IntKind.u64.wrap (wr (s6.2 + s6.1))) 1)) + 1))) else (some (IntKind.i64.wrap (V9 (IntKind.u64.wrap (wr (s6.2 + s6.1))) 1), s6.2)) : Option (Int × Int)).bind fun j24 => some (j24.1, j24.2) : Option (Int × Int)).bind fun j11 => some (Fl.nx (j11.1, j11.2))) else (some (Fl.ex s6.2))
noncomputable def ZJ (p0 : (List (Vector UInt8 32))) (p1 : (Vector UInt8 32)) (p2 : (Vector UInt8 32) → (Vector UInt8 32) → Option (Int)) : Option (Int × Bool) :=
 (ZF (ZB p0 p1 p2) ((p0.length : Int), 0) : Option (Int)).bind fun j3 => (if (decide (j3 < (p0.length : Int))) = true then ((idx p0 j3).bind fun x37 => ((p2 x37 p1)).bind fun r40 => some (j3, r40 == 0)) else (some (j3, false)) : Option (Int × Bool)).bind fun j32 => some (j32.1, j32.2)
end Go.Proofs.Ytifdeoikcebbjaa
