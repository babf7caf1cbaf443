/- The walk of what the law reaches: contracts of functions. -/
import Derived.Test.YtifdeoikcebbjaaGreatC1
set_option linter.unusedVariables false
set_option linter.unusedSimpArgs false
set_option maxRecDepth 20000
set_option maxHeartbeats 400000
namespace Go.Proofs.YtifdeoikcebbjaaGreat
open Go
theorem c_spec_l04Keys (w0 : World) (p0 : GCipher) (p1 : (Vector UInt8 16)) (p2 : Int) (r : (List (Vector UInt8 16))) (hF : Ua p0 p1 p2 = some r) :
  Calls Tryz.prog 241 [(Value.agg (Flat.enc p0).toArray), (Value.agg (Flat.enc p1).toArray), (vI p2)].toArray w0 (fun en w' => ∃ v, en = .returned v ∧ (∃ (y1 : Value), v = y1 ∧ Fr w0 w' [osl NoB (r : List (Vector UInt8 16)) y1] ∧ Kept (Old w0) w0 w')) := by
 refine ZA (n := 26) Tryz.func241 rfl rfl (Nat.le_of_ble_eq_true rfl) rfl ?_
 intro a hE
 have hM := M.start w0
 unfold Ua at hF
 refine Zc (ZV (cs := cat [[(vI p0.Field)], Flat.enc p0.Box, Flat.enc p0.Mix, Flat.enc p0.Places, [(vI p0.Rounds)]]) hE hM Za (dl rfl) rfl rfl ?_); intro b1 w a hM hE
 refine ZV (cs := Flat.enc p1) hE hM Za (dl rfl) rfl rfl ?_; intro b3 w a hM hE
 refine Ze hE Za (dl rfl) rfl ?_; intro a hE
 refine Zf (Zc (Zm (cs := Flat.enc p1) hE Za (dl rfl) rfl ZF rfl (hM.rawAt (pre := [])) (Flat.len _) ?_)); intro a hE
 refine Ye (xs := [.tmp 9]) (l := ([p1] : List (Vector UInt8 16))) (vs := [(Value.agg (Flat.enc p1).toArray)]) hE hM Za (dl rfl) rfl rfl Tryz.underlying32 ZF rfl (by decide) rfl ?_; intro u5 w a hM hE
 refine Ze hE Za (dl rfl) rfl ?_; intro a hE
 refine Zf (wp_seq (Zc (Ze hE Za (dl rfl) rfl ?_))); intro a hE
 refine Zf ?_
 obtain ⟨j7, hl8, hF9⟩ := bind_some hF
 refine ZS (fun a w => ∃ (u10 : Value), Env 26 a [(7, u10)] ∧ M (Old w0) w0 w [osl NoB (j7 : List (Vector UInt8 16)) u10]) ?_ ?_
 ·skip
  refine wp_block ?_
  have hM := hM.pull (pre := [_, _])
  have hM := hM.pull (pre := [_, _])
  refine ZL (fun (s12 : (Vector UInt8 16) × (List (Vector UInt8 16)) × Int) a w => ∃ (u13 : Value), Env 26 a [(2, (vI p2)), (3, (ptr b1 0)), (4, (ptr b3 0)), (7, u13), (8, (vI s12.2.2))] ∧ M (Old w0) w0 w [raw b3 (Flat.enc s12.1), raw b1 (cat [[(vI p0.Field)], Flat.enc p0.Box, Flat.enc p0.Mix, Flat.enc p0.Places, [(vI p0.Rounds)]]), osl NoB (s12.2.1 : List (Vector UInt8 16)) u13]) hl8 ⟨u5, hE.sub ⟨rfl, rfl, rfl, rfl, rfl, trivial⟩, hM⟩ ?_
  rintro s12 a w ⟨u13, hE, hM⟩ o17 hs15 hx16
  unfold Wm at hs15
  refine wp_seq (Zc (Zd hE Za (dl rfl) rfl ?_)); intro a hE
  refine Zd hE Za (dl rfl) rfl ?_; intro a hE
  refine Zh hE Za (dl rfl) rfl rfl rfl ?_; intro a hE
  refine Zf ?_
  refine Zw hE rfl ?_ ?_
  ·intro hb18
   have hs15 := ZD hs15 hb18
   refine wp_skip (Zz (wp_seq (wp_block (Zc (Zg hE Za (dl rfl) rfl (fd173_1) ?_))))); intro a hE
   refine Zm (cs := Flat.enc p0.Box) hE Za (dl rfl) rfl Xd rfl (At.cat (pre := [[(vI p0.Field)]]) (hM.rawAt (pre := [_])) (cl1 (n := 1) (m := 0) rfl cl0)) (Flat.len _) ?_; intro a hE
   refine Zm (cs := Flat.enc s12.1) hE Za (dl rfl) rfl ZF rfl (hM.rawAt (pre := [])) (Flat.len _) ?_; intro a hE
   refine Zd hE Za (dl rfl) rfl ?_; intro a hE
   obtain ⟨r19, e20, hs15⟩ := bind_some hs15
   refine Zs (vs := [(Value.agg (Flat.enc p0.Box).toArray), (Value.agg (Flat.enc s12.1).toArray), (vI s12.2.2)]) hE Za (dl rfl) rfl cb250 (c_spec_l04Next _ p0.Box s12.1 s12.2.2 r19 e20) ?_
   rintro v w a ⟨rfl, hK⟩ hE
   have hM := hM.keep hK
   refine Zp (seg := Flat.enc r19) (cs' := Flat.enc r19) hE hM Za rfl rfl rfl ZF (Flat.len _) (zle flq) (Flat.cell _) (Zl flq) ?_; intro w a hM hE
   refine Zf (wp_region_lit (Zd hE Za (dl rfl) rfl ?_)); intro a hE
   refine Zm (cs := Flat.enc r19) hE Za (dl rfl) rfl ZF rfl (hM.rawAt (pre := [])) (Flat.len _) ?_; intro a hE
   refine Ye (xs := [.tmp 22]) (l := ([r19] : List (Vector UInt8 16))) (vs := [(Value.agg (Flat.enc r19).toArray)]) hE hM Za (dl rfl) rfl rfl Tryz.underlying32 ZF rfl (by decide) rfl ?_; intro u21 w a hM hE
   obtain ⟨l23, e24, hs15⟩ := bind_some hs15
   obtain ⟨e27, rfl⟩ := Yu e24
   have hM := hM.pull (pre := [_, _, _])
   refine Yj hE hM Za (dl rfl) rfl rfl (hM.sl (pre := [_]) noB) Tryz.underlying32 ZF rfl (by decide) e27 ?_; intro u25 w a hM hE
   refine Ze hE Za (dl rfl) rfl ?_; intro a hE
   refine Zk (Yl (Zz (wp_region_lit (Zd hE Za (dl rfl) rfl ?_)))); intro a hE
   refine Zh hE Za (dl rfl) rfl rfl rfl ?_; intro a hE
   refine Ze hE Za (dl rfl) rfl ?_; intro a hE
   refine Zk (Zn ?_)
   have hM := hM.pull (pre := [_, _, _])
   have hM := hM.pull (pre := [_, _, _])
   have hM := M.fst (l := [_, _, _]) hM
   exact ⟨_, (Option.some.inj hs15).symm, u25, hE.sub ⟨rfl, rfl, rfl, rfl, rfl, trivial⟩, hM⟩
  ·intro hb18
   have hs15 := ZC hs15 hb18
   refine wp_exit (Zr (Zr (Yk ?_)))
   have ht28 := hx16 _ (Option.some.inj hs15).symm
   subst ht28
   refine Zn ?_
   have hM := hM.pull (pre := [_, _])
   have hM := M.fst (l := [_]) hM
   exact ⟨u13, hE.sub ⟨rfl, trivial⟩, hM⟩
 ·skip
  rintro a w ⟨u10, hE, hM⟩
  refine Zz (Zc (Zd hE Za (dl rfl) rfl ?_)); intro a hE
  refine Ze hE Za (dl rfl) rfl ?_; intro a hE
  refine Zf ?_
  have hr := Option.some.inj hF9
  subst hr
  exact wp_ret (Zy hE rfl (Zu hE rfl) ⟨_, rfl, u10, rfl, hM.outF (Vm W2), hM.kept⟩)
noncomputable def XQ (p0 : (Vector UInt8 256)) (s10 : (Vector UInt8 16) × Int) : Option (Fl ((Vector UInt8 16) × Int) (Vector UInt8 16)) :=
 if (decide (s10.2 < 16)) = true then ((ZK s10.1 s10.2).bind fun x16 => (ZK p0 (bI x16)).bind fun x19 => (ZK s10.1 s10.2).bind fun x22 => some (Fl.nx ((s10.1.setIfInBounds (s10.2).toNat x19), wr (s10.2 + 1)))) else (some (Fl.ex s10.1))
noncomputable def VJ (p0 : (Vector UInt8 256)) (p1 : (Vector UInt8 16)) : Option ((Vector UInt8 16)) :=
 (ZJ (XQ p0) (p1, 0) : Option ((Vector UInt8 16))).bind fun j7 => some j7
theorem c_spec_l04Boxes (w0 : World) (p0 : (Vector UInt8 256)) (p1 : (Vector UInt8 16)) (r : (Vector UInt8 16)) (hF : VJ p0 p1 = some r) :
  Calls Tryz.prog 243 [(Value.agg (Flat.enc p0).toArray), (Value.agg (Flat.enc p1).toArray)].toArray w0 (fun en w' => ∃ v, en = .returned v ∧ (v = (Value.agg (Flat.enc r).toArray) ∧ Kept (Old w0) w0 w')) := by
 refine ZA (n := 18) Tryz.func243 rfl rfl (Nat.le_of_ble_eq_true rfl) rfl ?_
 intro a hE
 have hM := M.start w0
 unfold VJ at hF
 refine Zc (ZV (cs := Flat.enc p0) hE hM Za (dl rfl) rfl rfl ?_); intro b1 w a hM hE
 refine ZV (cs := Flat.enc p1) hE hM Za (dl rfl) rfl rfl ?_; intro b3 w a hM hE
 refine ZE hE hM Za (dl rfl) ZF ?_; intro b5 w a hM hE
 refine Zf (wp_seq (Zc (Ze hE Za (dl rfl) rfl ?_))); intro a hE
 refine Zf ?_
 obtain ⟨j7, hl8, hF9⟩ := bind_some hF
 refine ZS (fun a w => Env 18 a [(3, (ptr b3 0)), (4, (ptr b5 0))] ∧ M (Old w0) w0 w [raw b5 (Flat.enc (Vector.replicate 16 (0 : UInt8))), raw b3 (Flat.enc j7)]) ?_ ?_
 ·skip
  refine wp_block ?_
  refine ZL (fun (s10 : (Vector UInt8 16) × Int) a w => Env 18 a [(2, (ptr b1 0)), (3, (ptr b3 0)), (4, (ptr b5 0)), (5, (vI s10.2))] ∧ M (Old w0) w0 w [raw b5 (Flat.enc (Vector.replicate 16 (0 : UInt8))), raw b3 (Flat.enc s10.1), raw b1 (Flat.enc p0)]) hl8 ⟨hE.sub ⟨rfl, rfl, rfl, rfl, trivial⟩, hM⟩ ?_
  rintro s10 a w ⟨hE, hM⟩ o13 hs11 hx12
  unfold XQ at hs11
  refine wp_seq (Zc (Zd hE Za (dl rfl) rfl ?_)); intro a hE
  refine Zh hE Za (dl rfl) rfl rfl rfl ?_; intro a hE
  refine Zf ?_
  refine Zw hE rfl ?_ ?_
  ·intro hb14
   have hs11 := ZD hs11 hb14
   refine wp_skip (Zz (wp_seq (wp_block (wp_region_lit (Zd hE Za (dl rfl) rfl ?_))))); intro a hE
   refine Zd hE Za (dl rfl) rfl ?_; intro a hE
   obtain ⟨x16, e17, hs11⟩ := bind_some hs11
   have hi15 := Zi e17
   refine Zo hE Za (dl rfl) rfl rfl Tryz.underlying70 ty5 hi15.1 ?_; intro a hE
   refine Zq (v := (vB x16)) hE Za (dl rfl) rfl ty5 rfl (At.vec (hM.rawAt (pre := [_])) hi15.2) ?_; intro a hE
   obtain ⟨x19, e20, hs11⟩ := bind_some hs11
   have hi18 := Zi e20
   refine Zo hE Za (dl rfl) rfl rfl Tryz.underlying167 ty5 hi18.1 ?_; intro a hE
   refine Zq (v := (vB x19)) hE Za (dl rfl) rfl ty5 rfl (At.vec (hM.rawAt (pre := [_, _])) hi18.2) ?_; intro a hE
   obtain ⟨x22, e23, hs11⟩ := bind_some hs11
   have hi21 := Zi e23
   refine Zo hE Za (dl rfl) rfl rfl Tryz.underlying70 ty5 hi21.1 ?_; intro a hE
   have hM := hM.pull (pre := [_])
   refine Zp (seg := [(vB x19)]) (cs' := Flat.enc (s10.1.setIfInBounds (s10.2).toNat x19)) hE hM Za rfl rfl rfl ty5 rfl (ZO (v := s10.1) (x := x19) hi21.1) (Flat.cell (x19 : UInt8)) (ZI (v := s10.1) (x := x19) hi21.1) ?_; intro w a hM hE
   refine Zk (Yl (Zz (wp_region_lit (Zd hE Za (dl rfl) rfl ?_)))); intro a hE
   refine Zh hE Za (dl rfl) rfl rfl rfl ?_; intro a hE
   refine Ze hE Za (dl rfl) rfl ?_; intro a hE
   refine Zk (Zn ?_)
   have hM := hM.pull (pre := [_, _])
   have hM := hM.pull (pre := [_])
   have hM := hM.pull (pre := [_, _])
   exact ⟨_, (Option.some.inj hs11).symm, hE.sub ⟨rfl, rfl, rfl, rfl, trivial⟩, hM⟩
  ·intro hb14
   have hs11 := ZC hs11 hb14
   refine wp_exit (Zr (Zr (Yk ?_)))
   have ht24 := hx12 _ (Option.some.inj hs11).symm
   subst ht24
   refine Zn ?_
   have hM := hM.pull (pre := [_])
   have hM := hM.pull (pre := [_])
   have hM := M.fst (l := [_, _]) hM
   exact ⟨hE.sub ⟨rfl, rfl, trivial⟩, hM⟩
 ·skip
  rintro a w ⟨hE, hM⟩
  refine Zz (Zc (Zm (cs := Flat.enc j7) hE Za (dl rfl) rfl ZF rfl (hM.rawAt (pre := [_])) (Flat.len _) ?_)); intro a hE
  refine Zp (seg := Flat.enc j7) (cs' := Flat.enc j7) hE hM Za rfl rfl rfl ZF (Flat.len _) (zle flq) (Flat.cell _) (Zl flq) ?_; intro w a hM hE
  refine Zf ?_
  have hr := Option.some.inj hF9
  subst hr
  have hq25 : Yq Tryz.prog _ _ (.cell 4 70) _ := ZQ hE rfl ZF rfl (hM.rawAt (pre := [])) (Flat.len _) rfl
  have hM := M.fst (l := []) hM
  exact wp_ret (Zy hE rfl hq25 ⟨_, rfl, rfl, hM.kept⟩)
noncomputable def Wp (p0 : (Vector UInt8 16)) (p1 : (Vector UInt8 16)) (s12 : (Vector UInt8 16) × Int) : Option (Fl ((Vector UInt8 16) × Int) (Vector UInt8 16)) :=
 if (decide (s12.2 < 16)) = true then ((ZK p0 s12.2).bind fun x18 => (ZK p1 (bI x18)).bind fun x21 => (ZK s12.1 s12.2).bind fun x24 => some (Fl.nx ((s12.1.setIfInBounds (s12.2).toNat x21), wr (s12.2 + 1)))) else (some (Fl.ex s12.1))
noncomputable def V2 (p0 : (Vector UInt8 16)) (p1 : (Vector UInt8 16)) : Option ((Vector UInt8 16)) :=
 (ZJ (Wp p0 p1) ((Vector.replicate 16 (0 : UInt8)), 0) : Option ((Vector UInt8 16))).bind fun j9 => some j9
theorem c_spec_l03Move (w0 : World) (p0 : (Vector UInt8 16)) (p1 : (Vector UInt8 16)) (r : (Vector UInt8 16)) (hF : V2 p0 p1 = some r) :
  Calls Tryz.prog 242 [(Value.agg (Flat.enc p0).toArray), (Value.agg (Flat.enc p1).toArray)].toArray w0 (fun en w' => ∃ v, en = .returned v ∧ (v = (Value.agg (Flat.enc r).toArray) ∧ Kept (Old w0) w0 w')) := by
 refine ZA (n := 20) Tryz.func242 rfl rfl (Nat.le_of_ble_eq_true rfl) rfl ?_
 intro a hE
 have hM := M.start w0
 unfold V2 at hF
 refine Zc (ZV (cs := Flat.enc p0) hE hM Za (dl rfl) rfl rfl ?_); intro b1 w a hM hE
 refine ZV (cs := Flat.enc p1) hE hM Za (dl rfl) rfl rfl ?_; intro b3 w a hM hE
 refine ZE hE hM Za (dl rfl) ZF ?_; intro b5 w a hM hE
 refine Zf (Zc (YO (parts := []) (vs := []) (cs := Flat.enc (Vector.replicate 16 (0 : UInt8))) hE Za (dl rfl) rfl rfl ZF rfl ty5 Yw ?_)); intro a hE
 refine ZE hE hM Za (dl rfl) ZF ?_; intro b7 w a hM hE
 refine Zp (seg := Flat.enc (Vector.replicate 16 (0 : UInt8))) (cs' := Flat.enc (Vector.replicate 16 (0 : UInt8))) hE hM Za rfl rfl rfl ZF (Flat.len _) (zle flq) (Flat.cell _) (Zl flq) ?_; intro w a hM hE
 refine Zf (wp_seq (Zc (Ze hE Za (dl rfl) rfl ?_))); intro a hE
 refine Zf ?_
 obtain ⟨j9, hl10, hF11⟩ := bind_some hF
 refine ZS (fun a w => Env 20 a [(4, (ptr b5 0)), (5, (ptr b7 0))] ∧ M (Old w0) w0 w [raw b7 (Flat.enc j9), raw b5 (Flat.enc (Vector.replicate 16 (0 : UInt8)))]) ?_ ?_
 ·skip
  refine wp_block ?_
  refine ZL (fun (s12 : (Vector UInt8 16) × Int) a w => Env 20 a [(2, (ptr b1 0)), (3, (ptr b3 0)), (4, (ptr b5 0)), (5, (ptr b7 0)), (6, (vI s12.2))] ∧ M (Old w0) w0 w [raw b7 (Flat.enc s12.1), raw b5 (Flat.enc (Vector.replicate 16 (0 : UInt8))), raw b3 (Flat.enc p1), raw b1 (Flat.enc p0)]) hl10 ⟨hE.sub ⟨rfl, rfl, rfl, rfl, rfl, trivial⟩, hM⟩ ?_
  rintro s12 a w ⟨hE, hM⟩ o15 hs13 hx14
  unfold Wp at hs13
  refine wp_seq (Zc (Zd hE Za (dl rfl) rfl ?_)); intro a hE
  refine Zh hE Za (dl rfl) rfl rfl rfl ?_; intro a hE
  refine Zf ?_
  refine Zw hE rfl ?_ ?_
  ·intro hb16
   have hs13 := ZD hs13 hb16
   refine wp_skip (Zz (wp_seq (wp_block (wp_region_lit (Zd hE Za (dl rfl) rfl ?_))))); intro a hE
   refine Zd hE Za (dl rfl) rfl ?_; intro a hE
   obtain ⟨x18, e19, hs13⟩ := bind_some hs13
   have hi17 := Zi e19
   refine Zo hE Za (dl rfl) rfl rfl Tryz.underlying171 ty5 hi17.1 ?_; intro a hE
   refine Zq (v := (vB x18)) hE Za (dl rfl) rfl ty5 rfl (At.vec (hM.rawAt (pre := [_, _, _])) hi17.2) ?_; intro a hE
   obtain ⟨x21, e22, hs13⟩ := bind_some hs13
   have hi20 := Zi e22
   refine Zo hE Za (dl rfl) rfl rfl Tryz.underlying70 ty5 hi20.1 ?_; intro a hE
   refine Zq (v := (vB x21)) hE Za (dl rfl) rfl ty5 rfl (At.vec (hM.rawAt (pre := [_, _])) hi20.2) ?_; intro a hE
   obtain ⟨x24, e25, hs13⟩ := bind_some hs13
   have hi23 := Zi e25
   refine Zo hE Za (dl rfl) rfl rfl Tryz.underlying70 ty5 hi23.1 ?_; intro a hE
   refine Zp (seg := [(vB x21)]) (cs' := Flat.enc (s12.1.setIfInBounds (s12.2).toNat x21)) hE hM Za rfl rfl rfl ty5 rfl (ZO (v := s12.1) (x := x21) hi23.1) (Flat.cell (x21 : UInt8)) (ZI (v := s12.1) (x := x21) hi23.1) ?_; intro w a hM hE
   refine Zk (Yl (Zz (wp_region_lit (Zd hE Za (dl rfl) rfl ?_)))); intro a hE
   refine Zh hE Za (dl rfl) rfl rfl rfl ?_; intro a hE
   refine Ze hE Za (dl rfl) rfl ?_; intro a hE
   refine Zk (Zn ?_)
   exact ⟨_, (Option.some.inj hs13).symm, hE.sub ⟨rfl, rfl, rfl, rfl, rfl, trivial⟩, hM⟩
  ·intro hb16
   have hs13 := ZC hs13 hb16
   refine wp_exit (Zr (Zr (Yk ?_)))
   have ht26 := hx14 _ (Option.some.inj hs13).symm
   subst ht26
   refine Zn ?_
   have hM := hM.pull (pre := [_])
   have hM := hM.pull (pre := [_])
   have hM := M.fst (l := [_, _]) hM
   exact ⟨hE.sub ⟨rfl, rfl, trivial⟩, hM⟩
 ·skip
  rintro a w ⟨hE, hM⟩
  refine Zz (Zc (Zm (cs := Flat.enc j9) hE Za (dl rfl) rfl ZF rfl (hM.rawAt (pre := [])) (Flat.len _) ?_)); intro a hE
  have hM := hM.pull (pre := [_])
  refine Zp (seg := Flat.enc j9) (cs' := Flat.enc j9) hE hM Za rfl rfl rfl ZF (Flat.len _) (zle flq) (Flat.cell _) (Zl flq) ?_; intro w a hM hE
  refine Zf ?_
  have hr := Option.some.inj hF11
  subst hr
  have hq27 : Yq Tryz.prog _ _ (.cell 4 70) _ := ZQ hE rfl ZF rfl (hM.rawAt (pre := [])) (Flat.len _) rfl
  have hM := M.fst (l := []) hM
  exact wp_ret (Zy hE rfl hq27 ⟨_, rfl, rfl, hM.kept⟩)
noncomputable def Xx (p0 : Int) (p1 : (Vector (Vector UInt8 4) 4)) (p2 : (Vector UInt8 16)) (s12 : (Vector UInt8 16) × Int) (s20 : (Vector UInt8 16) × Int) (s28 : (Vector UInt8 16) × Int) : Option (Fl ((Vector UInt8 16) × Int) (Vector UInt8 16)) :=
 if (decide (s28.2 < 4)) = true then ((ZK s28.1 (wr ((wr (4 * s12.2)) + s20.2))).bind fun x35 => (ZK p1 s20.2).bind fun x38 => (ZK x38 s28.2).bind fun x41 => (ZK p2 (wr ((wr (4 * s12.2)) + s28.2))).bind fun x44 => (YB p0 x41 x44).bind fun r46 => (ZK s28.1 (wr ((wr (4 * s12.2)) + s20.2))).bind fun x49 => some (Fl.nx ((s28.1.setIfInBounds ((wr ((wr (4 * s12.2)) + s20.2))).toNat (x35 ^^^ r46)), wr (s28.2 + 1)))) else (some (Fl.ex s28.1))
noncomputable def Vc (p0 : Int) (p1 : (Vector (Vector UInt8 4) 4)) (p2 : (Vector UInt8 16)) (s12 : (Vector UInt8 16) × Int) (s20 : (Vector UInt8 16) × Int) : Option (Fl ((Vector UInt8 16) × Int) (Vector UInt8 16)) :=
 if (decide (s20.2 < 4)) = true then ((ZJ (Xx p0 p1 p2 s12 s20) (s20.1, 0) : Option ((Vector UInt8 16))).bind fun j25 => some (Fl.nx (j25, wr (s20.2 + 1)))) else (some (Fl.ex s20.1))
noncomputable def WS (p0 : Int) (p1 : (Vector (Vector UInt8 4) 4)) (p2 : (Vector UInt8 16)) (s12 : (Vector UInt8 16) × Int) : Option (Fl ((Vector UInt8 16) × Int) (Vector UInt8 16)) :=
 if (decide (s12.2 < 4)) = true then ((ZJ (Vc p0 p1 p2 s12) (s12.1, 0) : Option ((Vector UInt8 16))).bind fun j17 => some (Fl.nx (j17, wr (s12.2 + 1)))) else (some (Fl.ex s12.1))
noncomputable def UD (p0 : Int) (p1 : (Vector (Vector UInt8 4) 4)) (p2 : (Vector UInt8 16)) : Option ((Vector UInt8 16)) :=
 (ZJ (WS p0 p1 p2) ((Vector.replicate 16 (0 : UInt8)), 0) : Option ((Vector UInt8 16))).bind fun j9 => some j9
theorem c_spec_l03Mix (w0 : World) (p0 : Int) (p1 : (Vector (Vector UInt8 4) 4)) (p2 : (Vector UInt8 16)) (r : (Vector UInt8 16)) (hF : UD p0 p1 p2 = some r) :
  Calls Tryz.prog 244 [(vI p0), (Value.agg (Flat.enc p1).toArray), (Value.agg (Flat.enc p2).toArray)].toArray w0 (fun en w' => ∃ v, en = .returned v ∧ (v = (Value.agg (Flat.enc r).toArray) ∧ Kept (Old w0) w0 w')) := by
 refine ZA (n := 50) Tryz.func244 rfl rfl (Nat.le_of_ble_eq_true rfl) rfl ?_
 intro a hE
 have hM := M.start w0
 unfold UD at hF
 refine Zc (ZV (cs := Flat.enc p1) hE hM Za (dl rfl) rfl rfl ?_); intro b1 w a hM hE
 refine ZV (cs := Flat.enc p2) hE hM Za (dl rfl) rfl rfl ?_; intro b3 w a hM hE
 refine ZE hE hM Za (dl rfl) ZF ?_; intro b5 w a hM hE
 refine Zf (Zc (YO (parts := []) (vs := []) (cs := Flat.enc (Vector.replicate 16 (0 : UInt8))) hE Za (dl rfl) rfl rfl ZF rfl ty5 Yw ?_)); intro a hE
 refine ZE hE hM Za (dl rfl) ZF ?_; intro b7 w a hM hE
 refine Zp (seg := Flat.enc (Vector.replicate 16 (0 : UInt8))) (cs' := Flat.enc (Vector.replicate 16 (0 : UInt8))) hE hM Za rfl rfl rfl ZF (Flat.len _) (zle flq) (Flat.cell _) (Zl flq) ?_; intro w a hM hE
 refine Zf (wp_seq (Zc (Ze hE Za (dl rfl) rfl ?_))); intro a hE
 refine Zf ?_
 obtain ⟨j9, hl10, hF11⟩ := bind_some hF
 refine ZS (fun a w => Env 50 a [(6, (ptr b5 0)), (7, (ptr b7 0))] ∧ M (Old w0) w0 w [raw b7 (Flat.enc j9), raw b5 (Flat.enc (Vector.replicate 16 (0 : UInt8)))]) ?_ ?_
 ·skip
  refine wp_block ?_
  refine ZL (fun (s12 : (Vector UInt8 16) × Int) a w => Env 50 a [(0, (vI p0)), (4, (ptr b1 0)), (5, (ptr b3 0)), (6, (ptr b5 0)), (7, (ptr b7 0)), (8, (vI s12.2))] ∧ M (Old w0) w0 w [raw b7 (Flat.enc s12.1), raw b5 (Flat.enc (Vector.replicate 16 (0 : UInt8))), raw b3 (Flat.enc p2), raw b1 (Flat.enc p1)]) hl10 ⟨hE.sub ⟨rfl, rfl, rfl, rfl, rfl, rfl, trivial⟩, hM⟩ ?_
  rintro s12 a w ⟨hE, hM⟩ o15 hs13 hx14
  unfold WS at hs13
  refine wp_seq (Zc (Zd hE Za (dl rfl) rfl ?_)); intro a hE
  refine Zh hE Za (dl rfl) rfl rfl rfl ?_; intro a hE
  refine Zf ?_
  refine Zw hE rfl ?_ ?_
  ·intro hb16
   have hs13 := ZD hs13 hb16
   refine wp_skip (Zz (wp_seq (wp_block (Zc (Ze hE Za (dl rfl) rfl ?_))))); intro a hE
   refine Zf ?_
   obtain ⟨j17, hl18, hF19⟩ := bind_some hs13
   refine ZS (fun a w => Env 50 a [(0, (vI p0)), (4, (ptr b1 0)), (5, (ptr b3 0)), (6, (ptr b5 0)), (7, (ptr b7 0)), (8, (vI s12.2))] ∧ M (Old w0) w0 w [raw b7 (Flat.enc j17), raw b5 (Flat.enc (Vector.replicate 16 (0 : UInt8))), raw b3 (Flat.enc p2), raw b1 (Flat.enc p1)]) ?_ ?_
   ·skip
    refine wp_block ?_
    refine ZL (fun (s20 : (Vector UInt8 16) × Int) a w => Env 50 a [(0, (vI p0)), (4, (ptr b1 0)), (5, (ptr b3 0)), (6, (ptr b5 0)), (7, (ptr b7 0)), (8, (vI s12.2)), (9, (vI s20.2))] ∧ M (Old w0) w0 w [raw b7 (Flat.enc s20.1), raw b5 (Flat.enc (Vector.replicate 16 (0 : UInt8))), raw b3 (Flat.enc p2), raw b1 (Flat.enc p1)]) hl18 ⟨hE.sub ⟨rfl, rfl, rfl, rfl, rfl, rfl, rfl, trivial⟩, hM⟩ ?_
    rintro s20 a w ⟨hE, hM⟩ o23 hs21 hx22
    unfold Vc at hs21
    refine wp_seq (Zc (Zd hE Za (dl rfl) rfl ?_)); intro a hE
    refine Zh hE Za (dl rfl) rfl rfl rfl ?_; intro a hE
    refine Zf ?_
    refine Zw hE rfl ?_ ?_
    ·intro hb24
     have hs21 := ZD hs21 hb24
     refine wp_skip (Zz (wp_seq (wp_block (Zc (Ze hE Za (dl rfl) rfl ?_))))); intro a hE
     refine Zf ?_
     obtain ⟨j25, hl26, hF27⟩ := bind_some hs21
     refine ZS (fun a w => Env 50 a [(0, (vI p0)), (4, (ptr b1 0)), (5, (ptr b3 0)), (6, (ptr b5 0)), (7, (ptr b7 0)), (8, (vI s12.2)), (9, (vI s20.2))] ∧ M (Old w0) w0 w [raw b7 (Flat.enc j25), raw b5 (Flat.enc (Vector.replicate 16 (0 : UInt8))), raw b3 (Flat.enc p2), raw b1 (Flat.enc p1)]) ?_ ?_
     ·skip
      refine wp_block ?_
      refine ZL (fun (s28 : (Vector UInt8 16) × Int) a w => Env 50 a [(0, (vI p0)), (4, (ptr b1 0)), (5, (ptr b3 0)), (6, (ptr b5 0)), (7, (ptr b7 0)), (8, (vI s12.2)), (9, (vI s20.2)), (10, (vI s28.2))] ∧ M (Old w0) w0 w [raw b7 (Flat.enc s28.1), raw b5 (Flat.enc (Vector.replicate 16 (0 : UInt8))), raw b3 (Flat.enc p2), raw b1 (Flat.enc p1)]) hl26 ⟨hE.sub ⟨rfl, rfl, rfl, rfl, rfl, rfl, rfl, rfl, trivial⟩, hM⟩ ?_
      rintro s28 a w ⟨hE, hM⟩ o31 hs29 hx30
      unfold Xx at hs29
      refine wp_seq (Zc (Zd hE Za (dl rfl) rfl ?_)); intro a hE
      refine Zh hE Za (dl rfl) rfl rfl rfl ?_; intro a hE
      refine Zf ?_
      refine Zw hE rfl ?_ ?_
      ·intro hb32
       have hs29 := ZD hs29 hb32
       refine wp_skip (Zz (wp_seq (wp_block ?_)))
       obtain ⟨x35, e36, hs29⟩ := bind_some hs29
       have hi34 := Zi e36
       obtain ⟨x38, e39, hs29⟩ := bind_some hs29
       have hi37 := Zi e39
       obtain ⟨x41, e42, hs29⟩ := bind_some hs29
       have hi40 := Zi e42
       obtain ⟨x44, e45, hs29⟩ := bind_some hs29
       have hi43 := Zi e45
       obtain ⟨r46, e47, hs29⟩ := bind_some hs29
       obtain ⟨x49, e50, hs29⟩ := bind_some hs29
       have hi48 := Zi e50
       refine Yo (n := 50) (hd := [_, _, _, _, _, _, _, _, _, _, _, _, _, _, _, _, _, _, _, _, _, _, _, _, _]) (tl := [_]) YU rfl rfl [24, 25, 26, 27, 28, 29, 30, 31, 32, 33, 34, 35, 36, 37, 38, 39, 40, 41, 42, 43, 44, 45, 46, 47, 48] (by decide) (fun w => M (Old w0) w0 w [raw b7 (Flat.enc s28.1), raw b5 (Flat.enc (Vector.replicate 16 (0 : UInt8))), raw b3 (Flat.enc p2), raw b1 (Flat.enc p1)]) (fun j => ([fun v _ => v = (vI s12.2), fun v _ => v = (vI (wr (4 * s12.2))), fun v _ => v = (vI s20.2), fun v _ => v = (vI (wr ((wr (4 * s12.2)) + s20.2))), fun v _ => v = (vI s12.2), fun v _ => v = (vI (wr (4 * s12.2))), fun v _ => v = (vI s20.2), fun v _ => v = (vI (wr ((wr (4 * s12.2)) + s20.2))), fun v _ => v = (ptr b7 (0 + ((wr ((wr (4 * s12.2)) + s20.2))).toNat * 1)), fun v _ => v = (vB x35), fun v _ => v = (vI p0), fun v _ => v = (vI s20.2), fun v _ => v = (vI s28.2), fun v _ => v = (ptr b1 (0 + (s20.2).toNat * 4)), fun v _ => v = (ptr b1 (0 + (s20.2).toNat * 4 + (s28.2).toNat * 1)), fun v _ => v = (vB x41), fun v _ => v = (vI s12.2), fun v _ => v = (vI (wr (4 * s12.2))), fun v _ => v = (vI s28.2), fun v _ => v = (vI (wr ((wr (4 * s12.2)) + s28.2))), fun v _ => v = (ptr b3 (0 + ((wr ((wr (4 * s12.2)) + s28.2))).toNat * 1)), fun v _ => v = (vB x44), fun v _ => v = (vB r46), fun v _ => v = (vB (x35 ^^^ r46)), fun v _ => v = (ptr b7 (0 + ((wr ((wr (4 * s12.2)) + s20.2))).toNat * 1))] : List (Value → World → Prop)).getD j (fun _ _ => True)) (fun _ _ h hk => h.keep hk) (gup (Zj (Zj (Zj (Zj (Zj (Zj (Zj (Zj (Zj (Zj (Zj (Zj (Zj (Zj (Zj (Zj (Zj (Zj (Zj (Zj (Zj (Zj (Zj (Zj (Zj Vq)))))))))))))))))))))))))) hE hM.drew (ZM (Zb ?_ (Zb ?_ (Zb ?_ (Zb ?_ (Zb ?_ (Zb ?_ (Zb ?_ (Zb ?_ (Zb ?_ (Zb ?_ (Zb ?_ (Zb ?_ (Zb ?_ (Zb ?_ (Zb ?_ (Zb ?_ (Zb ?_ (Zb ?_ (Zb ?_ (Zb ?_ (Zb ?_ (Zb ?_ (Zb ?_ (Zb ?_ (Zb ?_ ZH)))))))))))))))))))))))))) ?_
       ·intro a w ux33 hE hM hp
        refine Zd hE Za (dl rfl) rfl ?_; intro a hE
        exact ⟨Kept.refl _ _, _, _, rfl, hE, rfl⟩
       ·intro a w ux33 hE hM hp
        have f0 : ux33 0 = (vI s12.2) := hp 0 _ rfl rfl
        refine Zh hE Za (dl rfl) rfl (lk rfl f0) rfl ?_; intro a hE
        exact ⟨Kept.refl _ _, _, _, rfl, hE, rfl⟩
       ·intro a w ux33 hE hM hp
        refine Zd hE Za (dl rfl) rfl ?_; intro a hE
        exact ⟨Kept.refl _ _, _, _, rfl, hE, rfl⟩
       ·intro a w ux33 hE hM hp
        have f1 : ux33 1 = (vI (wr (4 * s12.2))) := hp 0 _ rfl rfl
        have f2 : ux33 2 = (vI s20.2) := hp 1 _ rfl rfl
        refine Zh hE Za (dl rfl) (lk rfl f1) (lk rfl f2) rfl ?_; intro a hE
        exact ⟨Kept.refl _ _, _, _, rfl, hE, rfl⟩
       ·intro a w ux33 hE hM hp
        refine Zd hE Za (dl rfl) rfl ?_; intro a hE
        exact ⟨Kept.refl _ _, _, _, rfl, hE, rfl⟩
       ·intro a w ux33 hE hM hp
        have f4 : ux33 4 = (vI s12.2) := hp 0 _ rfl rfl
        refine Zh hE Za (dl rfl) rfl (lk rfl f4) rfl ?_; intro a hE
        exact ⟨Kept.refl _ _, _, _, rfl, hE, rfl⟩
       ·intro a w ux33 hE hM hp
        refine Zd hE Za (dl rfl) rfl ?_; intro a hE
        exact ⟨Kept.refl _ _, _, _, rfl, hE, rfl⟩
       ·intro a w ux33 hE hM hp
        have f5 : ux33 5 = (vI (wr (4 * s12.2))) := hp 0 _ rfl rfl
        have f6 : ux33 6 = (vI s20.2) := hp 1 _ rfl rfl
        refine Zh hE Za (dl rfl) (lk rfl f5) (lk rfl f6) rfl ?_; intro a hE
        exact ⟨Kept.refl _ _, _, _, rfl, hE, rfl⟩
       ·intro a w ux33 hE hM hp
        have f7 : ux33 7 = (vI (wr ((wr (4 * s12.2)) + s20.2))) := hp 0 _ rfl rfl
        refine Zo hE Za (dl rfl) rfl (lk rfl f7) Tryz.underlying70 ty5 hi34.1 ?_; intro a hE
        exact ⟨Kept.refl _ _, _, _, rfl, hE, rfl⟩
       ·intro a w ux33 hE hM hp
        have f8 : ux33 8 = (ptr b7 (0 + ((wr ((wr (4 * s12.2)) + s20.2))).toNat * 1)) := hp 0 _ rfl rfl
        refine Zq (v := (vB x35)) hE Za (dl rfl) (lk rfl f8) ty5 rfl (At.vec (hM.rawAt (pre := [])) hi34.2) ?_; intro a hE
        exact ⟨Kept.refl _ _, _, _, rfl, hE, rfl⟩
       ·intro a w ux33 hE hM hp
        refine Zd hE Za (dl rfl) rfl ?_; intro a hE
        exact ⟨Kept.refl _ _, _, _, rfl, hE, rfl⟩
       ·intro a w ux33 hE hM hp
        refine Zd hE Za (dl rfl) rfl ?_; intro a hE
        exact ⟨Kept.refl _ _, _, _, rfl, hE, rfl⟩
       ·intro a w ux33 hE hM hp
        refine Zd hE Za (dl rfl) rfl ?_; intro a hE
        exact ⟨Kept.refl _ _, _, _, rfl, hE, rfl⟩
       ·intro a w ux33 hE hM hp
        have f11 : ux33 11 = (vI s20.2) := hp 0 _ rfl rfl
        refine Zo hE Za (dl rfl) rfl (lk rfl f11) Tryz.underlying170 Y8 hi37.1 ?_; intro a hE
        exact ⟨Kept.refl _ _, _, _, rfl, hE, rfl⟩
       ·intro a w ux33 hE hM hp
        have f12 : ux33 12 = (vI s28.2) := hp 1 _ rfl rfl
        have f13 : ux33 13 = (ptr b1 (0 + (s20.2).toNat * 4)) := hp 0 _ rfl rfl
        refine Zo hE Za (dl rfl) (lk rfl f13) (lk rfl f12) Tryz.underlying168 ty5 hi40.1 ?_; intro a hE
        exact ⟨Kept.refl _ _, _, _, rfl, hE, rfl⟩
       ·intro a w ux33 hE hM hp
        have f14 : ux33 14 = (ptr b1 (0 + (s20.2).toNat * 4 + (s28.2).toNat * 1)) := hp 0 _ rfl rfl
        refine Zq (v := (vB x41)) hE Za (dl rfl) (lk rfl f14) ty5 rfl (At.vec (At.vec (hM.rawAt (pre := [_, _, _])) hi37.2) hi40.2) ?_; intro a hE
        exact ⟨Kept.refl _ _, _, _, rfl, hE, rfl⟩
       ·intro a w ux33 hE hM hp
        refine Zd hE Za (dl rfl) rfl ?_; intro a hE
        exact ⟨Kept.refl _ _, _, _, rfl, hE, rfl⟩
       ·intro a w ux33 hE hM hp
        have f16 : ux33 16 = (vI s12.2) := hp 0 _ rfl rfl
        refine Zh hE Za (dl rfl) rfl (lk rfl f16) rfl ?_; intro a hE
        exact ⟨Kept.refl _ _, _, _, rfl, hE, rfl⟩
       ·intro a w ux33 hE hM hp
        refine Zd hE Za (dl rfl) rfl ?_; intro a hE
        exact ⟨Kept.refl _ _, _, _, rfl, hE, rfl⟩
       ·intro a w ux33 hE hM hp
        have f17 : ux33 17 = (vI (wr (4 * s12.2))) := hp 0 _ rfl rfl
        have f18 : ux33 18 = (vI s28.2) := hp 1 _ rfl rfl
        refine Zh hE Za (dl rfl) (lk rfl f17) (lk rfl f18) rfl ?_; intro a hE
        exact ⟨Kept.refl _ _, _, _, rfl, hE, rfl⟩
       ·intro a w ux33 hE hM hp
        have f19 : ux33 19 = (vI (wr ((wr (4 * s12.2)) + s28.2))) := hp 0 _ rfl rfl
        refine Zo hE Za (dl rfl) rfl (lk rfl f19) Tryz.underlying70 ty5 hi43.1 ?_; intro a hE
        exact ⟨Kept.refl _ _, _, _, rfl, hE, rfl⟩
       ·intro a w ux33 hE hM hp
        have f20 : ux33 20 = (ptr b3 (0 + ((wr ((wr (4 * s12.2)) + s28.2))).toNat * 1)) := hp 0 _ rfl rfl
        refine Zq (v := (vB x44)) hE Za (dl rfl) (lk rfl f20) ty5 rfl (At.vec (hM.rawAt (pre := [_, _])) hi43.2) ?_; intro a hE
        exact ⟨Kept.refl _ _, _, _, rfl, hE, rfl⟩
       ·intro a w ux33 hE hM hp
        have f10 : ux33 10 = (vI p0) := hp 0 _ rfl rfl
        have f15 : ux33 15 = (vB x41) := hp 1 _ rfl rfl
        have f21 : ux33 21 = (vB x44) := hp 2 _ rfl rfl
        refine Zs (vs := [(vI p0), (vB x41), (vB x44)]) hE Za (dl rfl) (ZZ (ZT (lk rfl f10) (ZT (lk rfl f15) (ZT (lk rfl f21) Y7)))) cb224 (Vx _ p0 x41 x44 r46 e47) ?_
        rintro v w a ⟨rfl, hK⟩ hE
        exact ⟨hK, _, _, rfl, hE, rfl⟩
       ·intro a w ux33 hE hM hp
        have f9 : ux33 9 = (vB x35) := hp 0 _ rfl rfl
        have f22 : ux33 22 = (vB r46) := hp 1 _ rfl rfl
        refine Zh hE Za (dl rfl) (lk rfl f9) (lk rfl f22) (WK x35 r46) ?_; intro a hE
        exact ⟨Kept.refl _ _, _, _, rfl, hE, rfl⟩
       ·intro a w ux33 hE hM hp
        have f3 : ux33 3 = (vI (wr ((wr (4 * s12.2)) + s20.2))) := hp 0 _ rfl rfl
        refine Zo hE Za (dl rfl) rfl (lk rfl f3) Tryz.underlying70 ty5 hi48.1 ?_; intro a hE
        exact ⟨Kept.refl _ _, _, _, rfl, hE, rfl⟩
       ·intro a w ux33 hE hM hg
        have f0 : ux33 0 = (vI s12.2) := hg 0 (by decide)
        have f1 : ux33 1 = (vI (wr (4 * s12.2))) := hg 1 (by decide)
        have f2 : ux33 2 = (vI s20.2) := hg 2 (by decide)
        have f3 : ux33 3 = (vI (wr ((wr (4 * s12.2)) + s20.2))) := hg 3 (by decide)
        have f4 : ux33 4 = (vI s12.2) := hg 4 (by decide)
        have f5 : ux33 5 = (vI (wr (4 * s12.2))) := hg 5 (by decide)
        have f6 : ux33 6 = (vI s20.2) := hg 6 (by decide)
        have f7 : ux33 7 = (vI (wr ((wr (4 * s12.2)) + s20.2))) := hg 7 (by decide)
        have f8 : ux33 8 = (ptr b7 (0 + ((wr ((wr (4 * s12.2)) + s20.2))).toNat * 1)) := hg 8 (by decide)
        have f9 : ux33 9 = (vB x35) := hg 9 (by decide)
        have f10 : ux33 10 = (vI p0) := hg 10 (by decide)
        have f11 : ux33 11 = (vI s20.2) := hg 11 (by decide)
        have f12 : ux33 12 = (vI s28.2) := hg 12 (by decide)
        have f13 : ux33 13 = (ptr b1 (0 + (s20.2).toNat * 4)) := hg 13 (by decide)
        have f14 : ux33 14 = (ptr b1 (0 + (s20.2).toNat * 4 + (s28.2).toNat * 1)) := hg 14 (by decide)
        have f15 : ux33 15 = (vB x41) := hg 15 (by decide)
        have f16 : ux33 16 = (vI s12.2) := hg 16 (by decide)
        have f17 : ux33 17 = (vI (wr (4 * s12.2))) := hg 17 (by decide)
        have f18 : ux33 18 = (vI s28.2) := hg 18 (by decide)
        have f19 : ux33 19 = (vI (wr ((wr (4 * s12.2)) + s28.2))) := hg 19 (by decide)
        have f20 : ux33 20 = (ptr b3 (0 + ((wr ((wr (4 * s12.2)) + s28.2))).toNat * 1)) := hg 20 (by decide)
        have f21 : ux33 21 = (vB x44) := hg 21 (by decide)
        have f22 : ux33 22 = (vB r46) := hg 22 (by decide)
        have f23 : ux33 23 = (vB (x35 ^^^ r46)) := hg 23 (by decide)
        have f24 : ux33 24 = (ptr b7 (0 + ((wr ((wr (4 * s12.2)) + s20.2))).toNat * 1)) := hg 24 (by decide)
        have hE := hE.sub (e' := [(24, (vI s12.2)), (25, (vI (wr (4 * s12.2)))), (26, (vI s20.2)), (27, (vI (wr ((wr (4 * s12.2)) + s20.2)))), (28, (vI s12.2)), (29, (vI (wr (4 * s12.2)))), (30, (vI s20.2)), (31, (vI (wr ((wr (4 * s12.2)) + s20.2)))), (32, (ptr b7 (0 + ((wr ((wr (4 * s12.2)) + s20.2))).toNat * 1))), (33, (vB x35)), (34, (vI p0)), (35, (vI s20.2)), (36, (vI s28.2)), (37, (ptr b1 (0 + (s20.2).toNat * 4))), (38, (ptr b1 (0 + (s20.2).toNat * 4 + (s28.2).toNat * 1))), (39, (vB x41)), (40, (vI s12.2)), (41, (vI (wr (4 * s12.2)))), (42, (vI s28.2)), (43, (vI (wr ((wr (4 * s12.2)) + s28.2)))), (44, (ptr b3 (0 + ((wr ((wr (4 * s12.2)) + s28.2))).toNat * 1))), (45, (vB x44)), (46, (vB r46)), (47, (vB (x35 ^^^ r46))), (48, (ptr b7 (0 + ((wr ((wr (4 * s12.2)) + s20.2))).toNat * 1))), (0, (vI p0)), (4, (ptr b1 0)), (5, (ptr b3 0)), (6, (ptr b5 0)), (7, (ptr b7 0)), (8, (vI s12.2)), (9, (vI s20.2)), (10, (vI s28.2)), (20, (vI s28.2)), (21, (vT (decide (s28.2 < 4))))]) ⟨lk rfl f0, lk rfl f1, lk rfl f2, lk rfl f3, lk rfl f4, lk rfl f5, lk rfl f6, lk rfl f7, lk rfl f8, lk rfl f9, lk rfl f10, lk rfl f11, lk rfl f12, lk rfl f13, lk rfl f14, lk rfl f15, lk rfl f16, lk rfl f17, lk rfl f18, lk rfl f19, lk rfl f20, lk rfl f21, lk rfl f22, lk rfl f23, lk rfl f24, rfl, rfl, rfl, rfl, rfl, rfl, rfl, rfl, rfl, rfl, trivial⟩
        refine Zp (seg := [(vB (x35 ^^^ r46))]) (cs' := Flat.enc (s28.1.setIfInBounds ((wr ((wr (4 * s12.2)) + s20.2))).toNat (x35 ^^^ r46))) hE hM Za rfl rfl rfl ty5 rfl (ZO (v := s28.1) (x := x35 ^^^ r46) hi48.1) (Flat.cell (x35 ^^^ r46 : UInt8)) (ZI (v := s28.1) (x := x35 ^^^ r46) hi48.1) ?_; intro w a hM hE
        refine Zk (Yl (Zz (wp_region_lit (Zd hE Za (dl rfl) rfl ?_)))); intro a hE
        refine Zh hE Za (dl rfl) rfl rfl rfl ?_; intro a hE
        refine Ze hE Za (dl rfl) rfl ?_; intro a hE
        refine Zk (Zn ?_)
        exact ⟨_, (Option.some.inj hs29).symm, hE.sub ⟨rfl, rfl, rfl, rfl, rfl, rfl, rfl, rfl, trivial⟩, hM⟩
      ·intro hb32
       have hs29 := ZC hs29 hb32
       refine wp_exit (Zr (Zr (Yk ?_)))
       have ht51 := hx30 _ (Option.some.inj hs29).symm
       subst ht51
       refine Zn ?_
       exact ⟨hE.sub ⟨rfl, rfl, rfl, rfl, rfl, rfl, rfl, trivial⟩, hM⟩
     ·skip
      rintro a w ⟨hE, hM⟩
      refine Yl (Zz (wp_region_lit (Zd hE Za (dl rfl) rfl ?_))); intro a hE
      refine Zh hE Za (dl rfl) rfl rfl rfl ?_; intro a hE
      refine Ze hE Za (dl rfl) rfl ?_; intro a hE
      refine Zk (Zn ?_)
      exact ⟨_, (Option.some.inj hF27).symm, hE.sub ⟨rfl, rfl, rfl, rfl, rfl, rfl, rfl, trivial⟩, hM⟩
    ·intro hb24
     have hs21 := ZC hs21 hb24
     refine wp_exit (Zr (Zr (Yk ?_)))
     have ht52 := hx22 _ (Option.some.inj hs21).symm
     subst ht52
     refine Zn ?_
     exact ⟨hE.sub ⟨rfl, rfl, rfl, rfl, rfl, rfl, trivial⟩, hM⟩
   ·skip
    rintro a w ⟨hE, hM⟩
    refine Yl (Zz (wp_region_lit (Zd hE Za (dl rfl) rfl ?_))); intro a hE
    refine Zh hE Za (dl rfl) rfl rfl rfl ?_; intro a hE
    refine Ze hE Za (dl rfl) rfl ?_; intro a hE
    refine Zk (Zn ?_)
    exact ⟨_, (Option.some.inj hF19).symm, hE.sub ⟨rfl, rfl, rfl, rfl, rfl, rfl, trivial⟩, hM⟩
  ·intro hb16
   have hs13 := ZC hs13 hb16
   refine wp_exit (Zr (Zr (Yk ?_)))
   have ht53 := hx14 _ (Option.some.inj hs13).symm
   subst ht53
   refine Zn ?_
   have hM := hM.pull (pre := [_])
   have hM := hM.pull (pre := [_])
   have hM := M.fst (l := [_, _]) hM
   exact ⟨hE.sub ⟨rfl, rfl, trivial⟩, hM⟩
 ·skip
  rintro a w ⟨hE, hM⟩
  refine Zz (Zc (Zm (cs := Flat.enc j9) hE Za (dl rfl) rfl ZF rfl (hM.rawAt (pre := [])) (Flat.len _) ?_)); intro a hE
  have hM := hM.pull (pre := [_])
  refine Zp (seg := Flat.enc j9) (cs' := Flat.enc j9) hE hM Za rfl rfl rfl ZF (Flat.len _) (zle flq) (Flat.cell _) (Zl flq) ?_; intro w a hM hE
  refine Zf ?_
  have hr := Option.some.inj hF11
  subst hr
  have hq54 : Yq Tryz.prog _ _ (.cell 6 70) _ := ZQ hE rfl ZF rfl (hM.rawAt (pre := [])) (Flat.len _) rfl
  have hM := M.fst (l := []) hM
  exact wp_ret (Zy hE rfl hq54 ⟨_, rfl, rfl, hM.kept⟩)
noncomputable def Y3 (p0 : GCipher) (p3 : Int) (r9 : (List (Vector UInt8 16))) (s25 : (Vector UInt8 16) × Int) : Option (Fl ((Vector UInt8 16) × Int) (Vector UInt8 16)) :=
 if (decide (s25.2 ≤ p3)) = true then ((((VJ p0.Box s25.1).bind fun r37 => (V2 p0.Places r37).bind fun r39 => some r39 : Option ((Vector UInt8 16))).bind fun j33 => (if (decide (s25.2 < p3)) = true then ((UD p0.Field p0.Mix j33).bind fun r46 => some r46) else (some j33) : Option ((Vector UInt8 16))).bind fun j42 => (idx r9 s25.2).bind fun x51 => (YW j42 x51).bind fun r54 => some r54 : Option ((Vector UInt8 16))).bind fun j30 => some (Fl.nx (j30, wr (s25.2 + 1)))) else (some (Fl.ex s25.1))
noncomputable def YM (p0 : GCipher) (p1 : (Vector UInt8 16)) (p2 : (Vector UInt8 16)) (p3 : Int) : Option ((Vector UInt8 16)) :=
 (Ua p0 p1 p3).bind fun r9 => ((idx r9 (0 : Int)).bind fun x16 => (YW p2 x16).bind fun r19 => some r19 : Option ((Vector UInt8 16))).bind fun j12 => (ZJ (Y3 p0 p3 r9) (j12, 1) : Option ((Vector UInt8 16))).bind fun j22 => some j22
theorem c_spec_l04Encipher (w0 : World) (p0 : GCipher) (p1 : (Vector UInt8 16)) (p2 : (Vector UInt8 16)) (p3 : Int) (r : (Vector UInt8 16)) (hF : YM p0 p1 p2 p3 = some r) :
  Calls Tryz.prog 223 [(Value.agg (Flat.enc p0).toArray), (Value.agg (Flat.enc p1).toArray), (Value.agg (Flat.enc p2).toArray), (vI p3)].toArray w0 (fun en w' => ∃ v, en = .returned v ∧ (v = (Value.agg (Flat.enc r).toArray) ∧ Kept (Old w0) w0 w')) := by
 refine ZA (n := 48) Tryz.func223 rfl rfl (Nat.le_of_ble_eq_true rfl) rfl ?_
 intro a hE
 have hM := M.start w0
 unfold YM at hF
 refine Zc (ZV (cs := cat [[(vI p0.Field)], Flat.enc p0.Box, Flat.enc p0.Mix, Flat.enc p0.Places, [(vI p0.Rounds)]]) hE hM Za (dl rfl) rfl rfl ?_); intro b1 w a hM hE
 refine ZV (cs := Flat.enc p1) hE hM Za (dl rfl) rfl rfl ?_; intro b3 w a hM hE
 refine ZV (cs := Flat.enc p2) hE hM Za (dl rfl) rfl rfl ?_; intro b5 w a hM hE
 refine ZE hE hM Za (dl rfl) ZF ?_; intro b7 w a hM hE
 refine Zf (Zc (Zm (cs := Flat.enc p0) hE Za (dl rfl) rfl WL rfl (hM.rawAt (pre := [_, _, _])) (ZB (cl1 (n := 1) (m := 289) rfl (cl1 (n := 256) (m := 33) (Flat.len _) (cl1 (n := 16) (m := 17) (Flat.len _) (cl1 (n := 16) (m := 1) (Flat.len _) (cl1 (n := 1) (m := 0) rfl cl0)))))) ?_)); intro a hE
 refine Zm (cs := Flat.enc p1) hE Za (dl rfl) rfl ZF rfl (hM.rawAt (pre := [_, _])) (Flat.len _) ?_; intro a hE
 refine Zd hE Za (dl rfl) rfl ?_; intro a hE
 obtain ⟨r9, e10, hF⟩ := bind_some hF
 refine Zs (vs := [(Value.agg (Flat.enc p0).toArray), (Value.agg (Flat.enc p1).toArray), (vI p3)]) hE Za (dl rfl) rfl cb241 (c_spec_l04Keys _ p0 p1 p3 r9 e10) ?_
 rintro u11 w a ⟨_, rfl, hFr, hK⟩ hE
 have hM := hM.add hK hFr
 refine Ze hE Za (dl rfl) rfl ?_; intro a hE
 refine Zf ?_
 obtain ⟨j12, hl13, hF14⟩ := bind_some hF
 refine ZR (fun a w => Env 48 a [(3, (vI p3)), (4, (ptr b1 0)), (6, (ptr b5 0)), (8, (ptr b7 0)), (9, u11)] ∧ M (Old w0) w0 w [osl NoB (r9 : List (Vector UInt8 16)) u11, raw b7 (Flat.enc (Vector.replicate 16 (0 : UInt8))), raw b5 (Flat.enc j12), raw b1 (cat [[(vI p0.Field)], Flat.enc p0.Box, Flat.enc p0.Mix, Flat.enc p0.Places, [(vI p0.Rounds)]])]) ?_ ?_
 ·skip
  obtain ⟨x16, e17, hl13⟩ := bind_some hl13
  have hi18 := ZY e17
  obtain ⟨r19, e20, hl13⟩ := bind_some hl13
  refine Yo (n := 48) (hd := [_, _, _, _, _]) (tl := [_]) YU rfl rfl [15, 16, 17, 18, 19] (by decide) (fun w => M (Old w0) w0 w [osl NoB (r9 : List (Vector UInt8 16)) u11, raw b7 (Flat.enc (Vector.replicate 16 (0 : UInt8))), raw b5 (Flat.enc p2), raw b3 (Flat.enc p1), raw b1 (cat [[(vI p0.Field)], Flat.enc p0.Box, Flat.enc p0.Mix, Flat.enc p0.Places, [(vI p0.Rounds)]])]) (fun j => ([fun v _ => v = (Value.agg (Flat.enc p2).toArray), fun v _ => v = u11, fun v _ => v = (ptr (sb u11) (so u11 + ((0 : Int)).toNat * 16)), fun v _ => v = (Value.agg (Flat.enc x16).toArray), fun v _ => v = (Value.agg (Flat.enc r19).toArray)] : List (Value → World → Prop)).getD j (fun _ _ => True)) (fun _ _ h hk => h.keep hk) (gup (Zj (Zj (Zj (Zj (Zj Vq)))))) hE hM.drew (ZM (Zb ?_ (Zb ?_ (Zb ?_ (Zb ?_ (Zb ?_ ZH)))))) ?_
  ·intro a w ux15 hE hM hp
   refine Zm (cs := Flat.enc p2) hE Za (dl rfl) rfl ZF rfl (hM.rawAt (pre := [_, _])) (Flat.len _) ?_; intro a hE
   exact ⟨Kept.refl _ _, _, _, rfl, hE, rfl⟩
  ·intro a w ux15 hE hM hp
   refine Zd hE Za (dl rfl) rfl ?_; intro a hE
   exact ⟨Kept.refl _ _, _, _, rfl, hE, rfl⟩
  ·intro a w ux15 hE hM hp
   have f1 : ux15 1 = u11 := hp 0 _ rfl rfl
   refine ZX hE Za (dl rfl) (lk rfl f1) rfl Tryz.underlying32 ZF (hM.sl (pre := []) noB) hi18.1 ?_; intro a hE
   exact ⟨Kept.refl _ _, _, _, rfl, hE, rfl⟩
  ·intro a w ux15 hE hM hp
   have f2 : ux15 2 = (ptr (sb u11) (so u11 + ((0 : Int)).toNat * 16)) := hp 0 _ rfl rfl
   refine Zm (cs := Flat.enc x16) hE Za (dl rfl) (lk rfl f2) ZF rfl (Wh (hM.sl (pre := []) noB) hi18.2) (Flat.len _) ?_; intro a hE
   exact ⟨Kept.refl _ _, _, _, rfl, hE, rfl⟩
  ·intro a w ux15 hE hM hp
   have f0 : ux15 0 = (Value.agg (Flat.enc p2).toArray) := hp 0 _ rfl rfl
   have f3 : ux15 3 = (Value.agg (Flat.enc x16).toArray) := hp 1 _ rfl rfl
   refine Zs (vs := [(Value.agg (Flat.enc p2).toArray), (Value.agg (Flat.enc x16).toArray)]) hE Za (dl rfl) (ZZ (ZT (lk rfl f0) (ZT (lk rfl f3) Y7))) cb222 (VM _ p2 x16 r19 e20) ?_
   rintro v w a ⟨rfl, hK⟩ hE
   exact ⟨hK, _, _, rfl, hE, rfl⟩
  ·intro a w ux15 hE hM hg
   have f0 : ux15 0 = (Value.agg (Flat.enc p2).toArray) := hg 0 (by decide)
   have f1 : ux15 1 = u11 := hg 1 (by decide)
   have f2 : ux15 2 = (ptr (sb u11) (so u11 + ((0 : Int)).toNat * 16)) := hg 2 (by decide)
   have f3 : ux15 3 = (Value.agg (Flat.enc x16).toArray) := hg 3 (by decide)
   have f4 : ux15 4 = (Value.agg (Flat.enc r19).toArray) := hg 4 (by decide)
   have hE := hE.sub (e' := [(15, (Value.agg (Flat.enc p2).toArray)), (16, u11), (17, (ptr (sb u11) (so u11 + ((0 : Int)).toNat * 16))), (18, (Value.agg (Flat.enc x16).toArray)), (19, (Value.agg (Flat.enc r19).toArray)), (0, (Value.agg (Flat.enc p0).toArray)), (1, (Value.agg (Flat.enc p1).toArray)), (2, (Value.agg (Flat.enc p2).toArray)), (3, (vI p3)), (4, (ptr b1 0)), (5, (ptr b3 0)), (6, (ptr b5 0)), (8, (ptr b7 0)), (9, u11), (11, (Value.agg (Flat.enc p0).toArray)), (12, (Value.agg (Flat.enc p1).toArray)), (13, (vI p3)), (14, u11)]) ⟨lk rfl f0, lk rfl f1, lk rfl f2, lk rfl f3, lk rfl f4, rfl, rfl, rfl, rfl, rfl, rfl, rfl, rfl, rfl, rfl, rfl, rfl, rfl, trivial⟩
   have hM := hM.pull (pre := [_, _])
   refine Zp (seg := Flat.enc r19) (cs' := Flat.enc r19) hE hM Za rfl rfl rfl ZF (Flat.len _) (zle flq) (Flat.cell _) (Zl flq) ?_; intro w a hM hE
   refine Zk ?_
   have ht21 := Option.some.inj hl13
   subst ht21
   refine Zn ?_
   have hM := hM.pull (pre := [_, _, _, _])
   have hM := hM.pull (pre := [_])
   have hM := hM.pull (pre := [_, _, _])
   have hM := hM.pull (pre := [_, _, _])
   have hM := M.fst (l := [_, _, _, _]) hM
   exact ⟨hE.sub ⟨rfl, rfl, rfl, rfl, rfl, trivial⟩, hM⟩
 ·skip
  rintro a w ⟨hE, hM⟩
  refine wp_seq (Zc (Ze hE Za (dl rfl) rfl ?_)); intro a hE
  refine Zf ?_
  obtain ⟨j22, hl23, hF24⟩ := bind_some hF14
  refine ZS (fun a w => Env 48 a [(6, (ptr b5 0)), (8, (ptr b7 0))] ∧ M (Old w0) w0 w [raw b7 (Flat.enc (Vector.replicate 16 (0 : UInt8))), raw b5 (Flat.enc j22)]) ?_ ?_
  ·skip
   refine wp_block ?_
   refine ZL (fun (s25 : (Vector UInt8 16) × Int) a w => Env 48 a [(3, (vI p3)), (4, (ptr b1 0)), (6, (ptr b5 0)), (8, (ptr b7 0)), (9, u11), (10, (vI s25.2))] ∧ M (Old w0) w0 w [osl NoB (r9 : List (Vector UInt8 16)) u11, raw b7 (Flat.enc (Vector.replicate 16 (0 : UInt8))), raw b5 (Flat.enc s25.1), raw b1 (cat [[(vI p0.Field)], Flat.enc p0.Box, Flat.enc p0.Mix, Flat.enc p0.Places, [(vI p0.Rounds)]])]) hl23 ⟨hE.sub ⟨rfl, rfl, rfl, rfl, rfl, rfl, trivial⟩, hM⟩ ?_
   rintro s25 a w ⟨hE, hM⟩ o28 hs26 hx27
   unfold Y3 at hs26
   refine wp_seq (Zc (Zd hE Za (dl rfl) rfl ?_)); intro a hE
   refine Zd hE Za (dl rfl) rfl ?_; intro a hE
   refine Zh hE Za (dl rfl) rfl rfl rfl ?_; intro a hE
   refine Zf ?_
   refine Zw hE rfl ?_ ?_
   ·intro hb29
    have hs26 := ZD hs26 hb29
    refine wp_skip (Zz ?_)
    obtain ⟨j30, hl31, hF32⟩ := bind_some hs26
    refine ZR (fun a w => Env 48 a [(3, (vI p3)), (4, (ptr b1 0)), (6, (ptr b5 0)), (8, (ptr b7 0)), (9, u11), (10, (vI s25.2))] ∧ M (Old w0) w0 w [osl NoB (r9 : List (Vector UInt8 16)) u11, raw b7 (Flat.enc (Vector.replicate 16 (0 : UInt8))), raw b5 (Flat.enc j30), raw b1 (cat [[(vI p0.Field)], Flat.enc p0.Box, Flat.enc p0.Mix, Flat.enc p0.Places, [(vI p0.Rounds)]])]) ?_ ?_
    ·skip
     refine wp_block ?_
     obtain ⟨j33, hl34, hF35⟩ := bind_some hl31
     refine ZR (fun a w => Env 48 a [(3, (vI p3)), (4, (ptr b1 0)), (6, (ptr b5 0)), (8, (ptr b7 0)), (9, u11), (10, (vI s25.2))] ∧ M (Old w0) w0 w [osl NoB (r9 : List (Vector UInt8 16)) u11, raw b7 (Flat.enc (Vector.replicate 16 (0 : UInt8))), raw b5 (Flat.enc j33), raw b1 (cat [[(vI p0.Field)], Flat.enc p0.Box, Flat.enc p0.Mix, Flat.enc p0.Places, [(vI p0.Rounds)]])]) ?_ ?_
     ·skip
      obtain ⟨r37, e38, hl34⟩ := bind_some hl34
      obtain ⟨r39, e40, hl34⟩ := bind_some hl34
      refine Yo (n := 48) (hd := [_, _, _, _, _, _, _]) (tl := [_]) YU rfl rfl [25, 26, 27, 28, 29, 30, 31] (by decide) (fun w => M (Old w0) w0 w [osl NoB (r9 : List (Vector UInt8 16)) u11, raw b7 (Flat.enc (Vector.replicate 16 (0 : UInt8))), raw b5 (Flat.enc s25.1), raw b1 (cat [[(vI p0.Field)], Flat.enc p0.Box, Flat.enc p0.Mix, Flat.enc p0.Places, [(vI p0.Rounds)]])]) (fun j => ([fun v _ => v = (ptr b1 (0 + 273)), fun v _ => v = (Value.agg (Flat.enc p0.Places).toArray), fun v _ => v = (ptr b1 (0 + 1)), fun v _ => v = (Value.agg (Flat.enc p0.Box).toArray), fun v _ => v = (Value.agg (Flat.enc s25.1).toArray), fun v _ => v = (Value.agg (Flat.enc r37).toArray), fun v _ => v = (Value.agg (Flat.enc r39).toArray)] : List (Value → World → Prop)).getD j (fun _ _ => True)) (fun _ _ h hk => h.keep hk) (gup (Zj (Zj (Zj (Zj (Zj (Zj (Zj Vq)))))))) hE hM.drew (ZM (Zb ?_ (Zb ?_ (Zb ?_ (Zb ?_ (Zb ?_ (Zb ?_ (Zb ?_ ZH)))))))) ?_
      ·intro a w ux36 hE hM hp
       refine Zg hE Za (dl rfl) rfl (fd173_3) ?_; intro a hE
       exact ⟨Kept.refl _ _, _, _, rfl, hE, rfl⟩
      ·intro a w ux36 hE hM hp
       have f0 : ux36 0 = (ptr b1 (0 + 273)) := hp 0 _ rfl rfl
       refine Zm (cs := Flat.enc p0.Places) hE Za (dl rfl) (lk rfl f0) ty171 rfl (At.cat (pre := [[(vI p0.Field)], Flat.enc p0.Box, Flat.enc p0.Mix]) (hM.rawAt (pre := [_, _, _])) (cl1 (n := 1) (m := 272) rfl (cl1 (n := 256) (m := 16) (Flat.len _) (cl1 (n := 16) (m := 0) (Flat.len _) cl0)))) (Flat.len _) ?_; intro a hE
       exact ⟨Kept.refl _ _, _, _, rfl, hE, rfl⟩
      ·intro a w ux36 hE hM hp
       refine Zg hE Za (dl rfl) rfl (fd173_1) ?_; intro a hE
       exact ⟨Kept.refl _ _, _, _, rfl, hE, rfl⟩
      ·intro a w ux36 hE hM hp
       have f2 : ux36 2 = (ptr b1 (0 + 1)) := hp 0 _ rfl rfl
       refine Zm (cs := Flat.enc p0.Box) hE Za (dl rfl) (lk rfl f2) Xd rfl (At.cat (pre := [[(vI p0.Field)]]) (hM.rawAt (pre := [_, _, _])) (cl1 (n := 1) (m := 0) rfl cl0)) (Flat.len _) ?_; intro a hE
       exact ⟨Kept.refl _ _, _, _, rfl, hE, rfl⟩
      ·intro a w ux36 hE hM hp
       refine Zm (cs := Flat.enc s25.1) hE Za (dl rfl) rfl ZF rfl (hM.rawAt (pre := [_, _])) (Flat.len _) ?_; intro a hE
       exact ⟨Kept.refl _ _, _, _, rfl, hE, rfl⟩
      ·intro a w ux36 hE hM hp
       have f3 : ux36 3 = (Value.agg (Flat.enc p0.Box).toArray) := hp 0 _ rfl rfl
       have f4 : ux36 4 = (Value.agg (Flat.enc s25.1).toArray) := hp 1 _ rfl rfl
       refine Zs (vs := [(Value.agg (Flat.enc p0.Box).toArray), (Value.agg (Flat.enc s25.1).toArray)]) hE Za (dl rfl) (ZZ (ZT (lk rfl f3) (ZT (lk rfl f4) Y7))) cb243 (c_spec_l04Boxes _ p0.Box s25.1 r37 e38) ?_
       rintro v w a ⟨rfl, hK⟩ hE
       exact ⟨hK, _, _, rfl, hE, rfl⟩
      ·intro a w ux36 hE hM hp
       have f1 : ux36 1 = (Value.agg (Flat.enc p0.Places).toArray) := hp 0 _ rfl rfl
       have f5 : ux36 5 = (Value.agg (Flat.enc r37).toArray) := hp 1 _ rfl rfl
       refine Zs (vs := [(Value.agg (Flat.enc p0.Places).toArray), (Value.agg (Flat.enc r37).toArray)]) hE Za (dl rfl) (ZZ (ZT (lk rfl f1) (ZT (lk rfl f5) Y7))) cb242 (c_spec_l03Move _ p0.Places r37 r39 e40) ?_
       rintro v w a ⟨rfl, hK⟩ hE
       exact ⟨hK, _, _, rfl, hE, rfl⟩
      ·intro a w ux36 hE hM hg
       have f0 : ux36 0 = (ptr b1 (0 + 273)) := hg 0 (by decide)
       have f1 : ux36 1 = (Value.agg (Flat.enc p0.Places).toArray) := hg 1 (by decide)
       have f2 : ux36 2 = (ptr b1 (0 + 1)) := hg 2 (by decide)
       have f3 : ux36 3 = (Value.agg (Flat.enc p0.Box).toArray) := hg 3 (by decide)
       have f4 : ux36 4 = (Value.agg (Flat.enc s25.1).toArray) := hg 4 (by decide)
       have f5 : ux36 5 = (Value.agg (Flat.enc r37).toArray) := hg 5 (by decide)
       have f6 : ux36 6 = (Value.agg (Flat.enc r39).toArray) := hg 6 (by decide)
       have hE := hE.sub (e' := [(25, (ptr b1 (0 + 273))), (26, (Value.agg (Flat.enc p0.Places).toArray)), (27, (ptr b1 (0 + 1))), (28, (Value.agg (Flat.enc p0.Box).toArray)), (29, (Value.agg (Flat.enc s25.1).toArray)), (30, (Value.agg (Flat.enc r37).toArray)), (31, (Value.agg (Flat.enc r39).toArray)), (3, (vI p3)), (4, (ptr b1 0)), (6, (ptr b5 0)), (8, (ptr b7 0)), (9, u11), (10, (vI s25.2)), (20, (vI s25.2)), (21, (vI p3)), (22, (vT (decide (s25.2 ≤ p3))))]) ⟨lk rfl f0, lk rfl f1, lk rfl f2, lk rfl f3, lk rfl f4, lk rfl f5, lk rfl f6, rfl, rfl, rfl, rfl, rfl, rfl, rfl, rfl, rfl, trivial⟩
       have hM := hM.pull (pre := [_, _])
       refine Zp (seg := Flat.enc r39) (cs' := Flat.enc r39) hE hM Za rfl rfl rfl ZF (Flat.len _) (zle flq) (Flat.cell _) (Zl flq) ?_; intro w a hM hE
       refine Zk ?_
       have ht41 := Option.some.inj hl34
       subst ht41
       refine Zn ?_
       have hM := hM.pull (pre := [_, _, _])
       have hM := hM.pull (pre := [_])
       have hM := hM.pull (pre := [_, _, _])
       have hM := hM.pull (pre := [_, _, _])
       exact ⟨hE.sub ⟨rfl, rfl, rfl, rfl, rfl, rfl, trivial⟩, hM⟩
     ·skip
      rintro a w ⟨hE, hM⟩
      obtain ⟨j42, hl43, hF44⟩ := bind_some hF35
      refine ZR (fun a w => Env 48 a [(3, (vI p3)), (4, (ptr b1 0)), (6, (ptr b5 0)), (8, (ptr b7 0)), (9, u11), (10, (vI s25.2))] ∧ M (Old w0) w0 w [osl NoB (r9 : List (Vector UInt8 16)) u11, raw b7 (Flat.enc (Vector.replicate 16 (0 : UInt8))), raw b5 (Flat.enc j42), raw b1 (cat [[(vI p0.Field)], Flat.enc p0.Box, Flat.enc p0.Mix, Flat.enc p0.Places, [(vI p0.Rounds)]])]) ?_ ?_
      ·skip
       refine Zc (Zd hE Za (dl rfl) rfl ?_); intro a hE
       refine Zd hE Za (dl rfl) rfl ?_; intro a hE
       refine Zh hE Za (dl rfl) rfl rfl rfl ?_; intro a hE
       refine Zf ?_
       refine Zw hE rfl ?_ ?_
       ·intro hb45
        have hl43 := ZD hl43 hb45
        refine wp_region_lit (Zg hE Za (dl rfl) rfl (fd173_0) ?_); intro a hE
        refine Zq (v := (vI p0.Field)) hE Za (dl rfl) rfl ty2 rfl (At.cat (pre := []) (hM.rawAt (pre := [_, _, _])) cl0) ?_; intro a hE
        refine Zg hE Za (dl rfl) rfl (fd173_2) ?_; intro a hE
        refine Zm (cs := Flat.enc p0.Mix) hE Za (dl rfl) rfl Uc rfl (At.cat (pre := [[(vI p0.Field)], Flat.enc p0.Box]) (hM.rawAt (pre := [_, _, _])) (cl1 (n := 1) (m := 256) rfl (cl1 (n := 256) (m := 0) (Flat.len _) cl0))) (Flat.len _) ?_; intro a hE
        refine Zm (cs := Flat.enc j33) hE Za (dl rfl) rfl ZF rfl (hM.rawAt (pre := [_, _])) (Flat.len _) ?_; intro a hE
        obtain ⟨r46, e47, hl43⟩ := bind_some hl43
        refine Zs (vs := [(vI p0.Field), (Value.agg (Flat.enc p0.Mix).toArray), (Value.agg (Flat.enc j33).toArray)]) hE Za (dl rfl) rfl cb244 (c_spec_l03Mix _ p0.Field p0.Mix j33 r46 e47) ?_
        rintro v w a ⟨rfl, hK⟩ hE
        have hM := hM.keep hK
        have hM := hM.pull (pre := [_, _])
        refine Zp (seg := Flat.enc r46) (cs' := Flat.enc r46) hE hM Za rfl rfl rfl ZF (Flat.len _) (zle flq) (Flat.cell _) (Zl flq) ?_; intro w a hM hE
        refine Zk ?_
        have ht48 := Option.some.inj hl43
        subst ht48
        refine Zn ?_
        have hM := hM.pull (pre := [_, _, _])
        have hM := hM.pull (pre := [_])
        have hM := hM.pull (pre := [_, _, _])
        have hM := hM.pull (pre := [_, _, _])
        exact ⟨hE.sub ⟨rfl, rfl, rfl, rfl, rfl, rfl, trivial⟩, hM⟩
       ·intro hb45
        have hl43 := ZC hl43 hb45
        refine wp_skip ?_
        have ht49 := Option.some.inj hl43
        subst ht49
        refine Zn ?_
        exact ⟨hE.sub ⟨rfl, rfl, rfl, rfl, rfl, rfl, trivial⟩, hM⟩
      ·skip
       rintro a w ⟨hE, hM⟩
       obtain ⟨x51, e52, hF44⟩ := bind_some hF44
       have hi53 := ZY e52
       obtain ⟨r54, e55, hF44⟩ := bind_some hF44
       refine Yo (n := 48) (hd := [_, _, _, _, _, _]) (tl := [_]) YU rfl rfl [41, 42, 43, 44, 45, 46] (by decide) (fun w => M (Old w0) w0 w [osl NoB (r9 : List (Vector UInt8 16)) u11, raw b7 (Flat.enc (Vector.replicate 16 (0 : UInt8))), raw b5 (Flat.enc j42), raw b1 (cat [[(vI p0.Field)], Flat.enc p0.Box, Flat.enc p0.Mix, Flat.enc p0.Places, [(vI p0.Rounds)]])]) (fun j => ([fun v _ => v = (Value.agg (Flat.enc j42).toArray), fun v _ => v = u11, fun v _ => v = (vI s25.2), fun v _ => v = (ptr (sb u11) (so u11 + (s25.2).toNat * 16)), fun v _ => v = (Value.agg (Flat.enc x51).toArray), fun v _ => v = (Value.agg (Flat.enc r54).toArray)] : List (Value → World → Prop)).getD j (fun _ _ => True)) (fun _ _ h hk => h.keep hk) (gup (Zj (Zj (Zj (Zj (Zj (Zj Vq))))))) hE hM.drew (ZM (Zb ?_ (Zb ?_ (Zb ?_ (Zb ?_ (Zb ?_ (Zb ?_ ZH))))))) ?_
       ·intro a w ux50 hE hM hp
        refine Zm (cs := Flat.enc j42) hE Za (dl rfl) rfl ZF rfl (hM.rawAt (pre := [_, _])) (Flat.len _) ?_; intro a hE
        exact ⟨Kept.refl _ _, _, _, rfl, hE, rfl⟩
       ·intro a w ux50 hE hM hp
        refine Zd hE Za (dl rfl) rfl ?_; intro a hE
        exact ⟨Kept.refl _ _, _, _, rfl, hE, rfl⟩
       ·intro a w ux50 hE hM hp
        refine Zd hE Za (dl rfl) rfl ?_; intro a hE
        exact ⟨Kept.refl _ _, _, _, rfl, hE, rfl⟩
       ·intro a w ux50 hE hM hp
        have f1 : ux50 1 = u11 := hp 0 _ rfl rfl
        have f2 : ux50 2 = (vI s25.2) := hp 1 _ rfl rfl
        refine ZX hE Za (dl rfl) (lk rfl f1) (lk rfl f2) Tryz.underlying32 ZF (hM.sl (pre := []) noB) hi53.1 ?_; intro a hE
        exact ⟨Kept.refl _ _, _, _, rfl, hE, rfl⟩
       ·intro a w ux50 hE hM hp
        have f3 : ux50 3 = (ptr (sb u11) (so u11 + (s25.2).toNat * 16)) := hp 0 _ rfl rfl
        refine Zm (cs := Flat.enc x51) hE Za (dl rfl) (lk rfl f3) ZF rfl (Wh (hM.sl (pre := []) noB) hi53.2) (Flat.len _) ?_; intro a hE
        exact ⟨Kept.refl _ _, _, _, rfl, hE, rfl⟩
       ·intro a w ux50 hE hM hp
        have f0 : ux50 0 = (Value.agg (Flat.enc j42).toArray) := hp 0 _ rfl rfl
        have f4 : ux50 4 = (Value.agg (Flat.enc x51).toArray) := hp 1 _ rfl rfl
        refine Zs (vs := [(Value.agg (Flat.enc j42).toArray), (Value.agg (Flat.enc x51).toArray)]) hE Za (dl rfl) (ZZ (ZT (lk rfl f0) (ZT (lk rfl f4) Y7))) cb222 (VM _ j42 x51 r54 e55) ?_
        rintro v w a ⟨rfl, hK⟩ hE
        exact ⟨hK, _, _, rfl, hE, rfl⟩
       ·intro a w ux50 hE hM hg
        have f0 : ux50 0 = (Value.agg (Flat.enc j42).toArray) := hg 0 (by decide)
        have f1 : ux50 1 = u11 := hg 1 (by decide)
        have f2 : ux50 2 = (vI s25.2) := hg 2 (by decide)
        have f3 : ux50 3 = (ptr (sb u11) (so u11 + (s25.2).toNat * 16)) := hg 3 (by decide)
        have f4 : ux50 4 = (Value.agg (Flat.enc x51).toArray) := hg 4 (by decide)
        have f5 : ux50 5 = (Value.agg (Flat.enc r54).toArray) := hg 5 (by decide)
        have hE := hE.sub (e' := [(41, (Value.agg (Flat.enc j42).toArray)), (42, u11), (43, (vI s25.2)), (44, (ptr (sb u11) (so u11 + (s25.2).toNat * 16))), (45, (Value.agg (Flat.enc x51).toArray)), (46, (Value.agg (Flat.enc r54).toArray)), (3, (vI p3)), (4, (ptr b1 0)), (6, (ptr b5 0)), (8, (ptr b7 0)), (9, u11), (10, (vI s25.2))]) ⟨lk rfl f0, lk rfl f1, lk rfl f2, lk rfl f3, lk rfl f4, lk rfl f5, rfl, rfl, rfl, rfl, rfl, rfl, trivial⟩
        have hM := hM.pull (pre := [_, _])
        refine Zp (seg := Flat.enc r54) (cs' := Flat.enc r54) hE hM Za rfl rfl rfl ZF (Flat.len _) (zle flq) (Flat.cell _) (Zl flq) ?_; intro w a hM hE
        refine Zk (Yl ?_)
        have ht56 := Option.some.inj hF44
        subst ht56
        refine Zn ?_
        have hM := hM.pull (pre := [_, _, _])
        have hM := hM.pull (pre := [_])
        have hM := hM.pull (pre := [_, _, _])
        have hM := hM.pull (pre := [_, _, _])
        exact ⟨hE.sub ⟨rfl, rfl, rfl, rfl, rfl, rfl, trivial⟩, hM⟩
    ·skip
     rintro a w ⟨hE, hM⟩
     refine wp_region_lit (Zd hE Za (dl rfl) rfl ?_); intro a hE
     refine Zh hE Za (dl rfl) rfl rfl rfl ?_; intro a hE
     refine Ze hE Za (dl rfl) rfl ?_; intro a hE
     refine Zk (Zn ?_)
     exact ⟨_, (Option.some.inj hF32).symm, hE.sub ⟨rfl, rfl, rfl, rfl, rfl, rfl, trivial⟩, hM⟩
   ·intro hb29
    have hs26 := ZC hs26 hb29
    refine wp_exit (Zr (Zr (Yk ?_)))
    have ht57 := hx27 _ (Option.some.inj hs26).symm
    subst ht57
    refine Zn ?_
    have hM := hM.pull (pre := [_, _])
    have hM := hM.pull (pre := [_, _])
    have hM := M.fst (l := [_, _]) hM
    exact ⟨hE.sub ⟨rfl, rfl, trivial⟩, hM⟩
  ·skip
   rintro a w ⟨hE, hM⟩
   refine Zz (Zc (Zm (cs := Flat.enc j22) hE Za (dl rfl) rfl ZF rfl (hM.rawAt (pre := [_])) (Flat.len _) ?_)); intro a hE
   refine Zp (seg := Flat.enc j22) (cs' := Flat.enc j22) hE hM Za rfl rfl rfl ZF (Flat.len _) (zle flq) (Flat.cell _) (Zl flq) ?_; intro w a hM hE
   refine Zf ?_
   have hr := Option.some.inj hF24
   subst hr
   have hq58 : Yq Tryz.prog _ _ (.cell 8 70) _ := ZQ hE rfl ZF rfl (hM.rawAt (pre := [])) (Flat.len _) rfl
   have hM := M.fst (l := []) hM
   exact wp_ret (Zy hE rfl hq58 ⟨_, rfl, rfl, hM.kept⟩)
noncomputable def XH (r31 : (Vector UInt8 16)) (r40 : (Vector UInt8 16)) (s51 : (Vector UInt8 32) × Int) : Option (Fl ((Vector UInt8 32) × Int) (Vector UInt8 32)) :=
 if (decide (s51.2 < 16)) = true then ((ZK r31 s51.2).bind fun x57 => (ZK s51.1 s51.2).bind fun x60 => (ZK r40 s51.2).bind fun x63 => (ZK (s51.1.setIfInBounds (s51.2).toNat x57) (wr (16 + s51.2))).bind fun x66 => some (Fl.nx (((s51.1.setIfInBounds (s51.2).toNat x57).setIfInBounds ((wr (16 + s51.2))).toNat x63), wr (s51.2 + 1)))) else (some (Fl.ex s51.1))
noncomputable def XV (p0 : GCipher) (p1 : (Vector UInt8 32)) (p2 : (Vector UInt8 16)) : Option ((Vector UInt8 32)) :=
 (W8 p1).bind fun r9 => (YW r9.1 p2).bind fun r16 => (YW r9.2 p2).bind fun r18 => (YM p0 r9.2 r16 p0.Rounds).bind fun r29 => (YW r29 r16).bind fun r31 => (YM p0 r31 r18 p0.Rounds).bind fun r38 => (YW r38 r18).bind fun r40 => (ZJ (XH r31 r40) ((Vector.replicate 32 (0 : UInt8)), 0) : Option ((Vector UInt8 32))).bind fun j48 => some j48
theorem c_spec_l08Absorb (w0 : World) (p0 : GCipher) (p1 : (Vector UInt8 32)) (p2 : (Vector UInt8 16)) (r : (Vector UInt8 32)) (hF : XV p0 p1 p2 = some r) :
  Calls Tryz.prog 190 [(Value.agg (Flat.enc p0).toArray), (Value.agg (Flat.enc p1).toArray), (Value.agg (Flat.enc p2).toArray)].toArray w0 (fun en w' => ∃ v, en = .returned v ∧ (v = (Value.agg (Flat.enc r).toArray) ∧ Kept (Old w0) w0 w')) := by
 refine ZA (n := 59) Tryz.func190 rfl rfl (Nat.le_of_ble_eq_true rfl) rfl ?_
 intro a hE
 have hM := M.start w0
 unfold XV at hF
 refine Zc (ZV (cs := cat [[(vI p0.Field)], Flat.enc p0.Box, Flat.enc p0.Mix, Flat.enc p0.Places, [(vI p0.Rounds)]]) hE hM Za (dl rfl) rfl rfl ?_); intro b1 w a hM hE
 refine ZV (cs := Flat.enc p1) hE hM Za (dl rfl) rfl rfl ?_; intro b3 w a hM hE
 refine ZV (cs := Flat.enc p2) hE hM Za (dl rfl) rfl rfl ?_; intro b5 w a hM hE
 refine ZE hE hM Za (dl rfl) Z9 ?_; intro b7 w a hM hE
 refine Zf (Zc (Zm (cs := Flat.enc p1) hE Za (dl rfl) rfl Z9 rfl (hM.rawAt (pre := [_, _])) (Flat.len _) ?_)); intro a hE
 obtain ⟨r9, e10, hF⟩ := bind_some hF
 refine Zs (vs := [(Value.agg (Flat.enc p1).toArray)]) hE Za (dl rfl) rfl cb221 (c_spec_l08Halves _ p1 r9 e10) ?_
 rintro v w a ⟨rfl, hK⟩ hE
 have hM := hM.keep hK
 refine Zd hE Za (dl rfl) rfl ?_; intro a hE
 refine VN hE Za (dl rfl) rfl rfl ?_; intro a hE
 refine VN hE Za (dl rfl) rfl rfl ?_; intro a hE
 refine ZE hE hM Za (dl rfl) ZF ?_; intro b11 w a hM hE
 refine ZE hE hM Za (dl rfl) ZF ?_; intro b13 w a hM hE
 have hM := hM.pull (pre := [_])
 refine Zp (seg := Flat.enc r9.1) (cs' := Flat.enc r9.1) hE hM Za rfl rfl rfl ZF (Flat.len _) (zle flq) (Flat.cell _) (Zl flq) ?_; intro w a hM hE
 have hM := hM.pull (pre := [_])
 refine Zp (seg := Flat.enc r9.2) (cs' := Flat.enc r9.2) hE hM Za rfl rfl rfl ZF (Flat.len _) (zle flq) (Flat.cell _) (Zl flq) ?_; intro w a hM hE
 refine Zf (wp_seq ?_)
 obtain ⟨r16, e17, hF⟩ := bind_some hF
 obtain ⟨r18, e19, hF⟩ := bind_some hF
 refine UM (n := 59) (hd := [_, _, _, _, _, _, _, _]) (tl := [_, _]) YU rfl rfl [20, 21, 22, 23, 24, 25, 9, 10] (by decide) (fun D u w => M (Old w0) w0 w ([raw b13 (Flat.enc r9.2), raw b11 (Flat.enc r9.1), raw b7 (Flat.enc (Vector.replicate 32 (0 : UInt8))), raw b5 (Flat.enc p2), raw b3 (Flat.enc p1), raw b1 (cat [[(vI p0.Field)], Flat.enc p0.Box, Flat.enc p0.Mix, Flat.enc p0.Places, [(vI p0.Rounds)]])] ++ qL ([mkO 6 (fun v => rawP v (Flat.enc (Vector.replicate 16 (0 : UInt8)))), mkO 7 (fun v => rawP v (Flat.enc (Vector.replicate 16 (0 : UInt8))))] : Mk) D u) ∧ GOk ([([], fun us v => v = (Value.agg (Flat.enc r9.1).toArray)), ([], fun us v => v = (Value.agg (Flat.enc p2).toArray)), ([], fun us v => v = (Value.agg (Flat.enc r16).toArray)), ([], fun us v => v = (Value.agg (Flat.enc r9.2).toArray)), ([], fun us v => v = (Value.agg (Flat.enc p2).toArray)), ([], fun us v => v = (Value.agg (Flat.enc r18).toArray)), ([], fun us v => True), ([], fun us v => True)] : Gs) D u) hE (fun u => ⟨M.qE (M.qE (M.q0 hM.drew u) emO) emO, gok0⟩) (ZM (Zb ?_ (Zb ?_ (Zb ?_ (Zb ?_ (Zb ?_ (Zb ?_ (Zb ?_ (Zb ?_ ZH))))))))) ?_
 ·intro a w ux15 D hE hI hD hdc hp
  have hM0 := hI.1
  have hM := hI.1
  refine Zm (cs := Flat.enc r9.1) hE Za (dl rfl) rfl ZF rfl (hM.rawAt (pre := [_])) (Flat.len _) ?_; intro a hE
  exact ⟨_, _, rfl, hE, M.qKeep hM0 rfl, hI.2.put hD rfl ZW rfl⟩
 ·intro a w ux15 D hE hI hD hdc hp
  have hM0 := hI.1
  have hM := hI.1
  refine Zm (cs := Flat.enc p2) hE Za (dl rfl) rfl ZF rfl (hM.rawAt (pre := [_, _, _])) (Flat.len _) ?_; intro a hE
  exact ⟨_, _, rfl, hE, M.qKeep hM0 rfl, hI.2.put hD rfl ZW rfl⟩
 ·intro a w ux15 D hE hI hD hdc hp
  have d0 : D 0 = true := hp 0 _ rfl rfl
  have g0 := hI.2 0 d0 _ rfl
  have f0 : ux15 0 = (Value.agg (Flat.enc r9.1).toArray) := g0.2
  have d1 : D 1 = true := hp 1 _ rfl rfl
  have g1 := hI.2 1 d1 _ rfl
  have f1 : ux15 1 = (Value.agg (Flat.enc p2).toArray) := g1.2
  have hM0 := hI.1
  refine Zs (vs := [(Value.agg (Flat.enc r9.1).toArray), (Value.agg (Flat.enc p2).toArray)]) hE Za (dl rfl) (ZZ (ZT (lk rfl f0) (ZT (lk rfl f1) Y7))) cb222 (VM _ r9.1 p2 r16 e17) ?_
  rintro v w a ⟨rfl, hK⟩ hE
  exact ⟨_, _, rfl, hE, M.qKeep (hM0.keep hK) rfl, hI.2.put hD rfl ZW rfl⟩
 ·intro a w ux15 D hE hI hD hdc hp
  have hM0 := hI.1
  have hM := hI.1
  refine Zm (cs := Flat.enc r9.2) hE Za (dl rfl) rfl ZF rfl (hM.rawAt (pre := [])) (Flat.len _) ?_; intro a hE
  exact ⟨_, _, rfl, hE, M.qKeep hM0 rfl, hI.2.put hD rfl ZW rfl⟩
 ·intro a w ux15 D hE hI hD hdc hp
  have hM0 := hI.1
  have hM := hI.1
  refine Zm (cs := Flat.enc p2) hE Za (dl rfl) rfl ZF rfl (hM.rawAt (pre := [_, _, _])) (Flat.len _) ?_; intro a hE
  exact ⟨_, _, rfl, hE, M.qKeep hM0 rfl, hI.2.put hD rfl ZW rfl⟩
 ·intro a w ux15 D hE hI hD hdc hp
  have d3 : D 3 = true := hp 0 _ rfl rfl
  have g3 := hI.2 3 d3 _ rfl
  have f3 : ux15 3 = (Value.agg (Flat.enc r9.2).toArray) := g3.2
  have d4 : D 4 = true := hp 1 _ rfl rfl
  have g4 := hI.2 4 d4 _ rfl
  have f4 : ux15 4 = (Value.agg (Flat.enc p2).toArray) := g4.2
  have hM0 := hI.1
  refine Zs (vs := [(Value.agg (Flat.enc r9.2).toArray), (Value.agg (Flat.enc p2).toArray)]) hE Za (dl rfl) (ZZ (ZT (lk rfl f3) (ZT (lk rfl f4) Y7))) cb222 (VM _ r9.2 p2 r18 e19) ?_
  rintro v w a ⟨rfl, hK⟩ hE
  exact ⟨_, _, rfl, hE, M.qKeep (hM0.keep hK) rfl, hI.2.put hD rfl ZW rfl⟩
 ·intro a w ux15 D hE hI hD hdc hp
  have hM0 := hI.1
  have hM := hI.1
  refine ZE hE hM Za (dl rfl) ZF ?_; intro b20 w a hM hE
  have hM := hM.pack1 (it := rawP _ (Flat.enc (Vector.replicate 16 (0 : UInt8)))) (fun w w' fp ⟨b', e, k⟩ hb => ⟨b', e, Wf w w' fp k hb⟩) (fun fp k => ⟨_, rfl, k⟩)
  exact ⟨_, _, rfl, hE, M.qFill (mk1 := []) (mk2 := [_]) (f := fun v => rawP v (Flat.enc (Vector.replicate 16 (0 : UInt8)))) hM rfl hD, hI.2.put hD rfl ZW trivial⟩
 ·intro a w ux15 D hE hI hD hdc hp
  have hM0 := hI.1
  have hM := hI.1
  refine ZE hE hM Za (dl rfl) ZF ?_; intro b22 w a hM hE
  have hM := hM.pack1 (it := rawP _ (Flat.enc (Vector.replicate 16 (0 : UInt8)))) (fun w w' fp ⟨b', e, k⟩ hb => ⟨b', e, Wf w w' fp k hb⟩) (fun fp k => ⟨_, rfl, k⟩)
  exact ⟨_, _, rfl, hE, M.qFill (mk1 := [_]) (mk2 := []) (f := fun v => rawP v (Flat.enc (Vector.replicate 16 (0 : UInt8)))) hM rfl hD, hI.2.put hD rfl ZW trivial⟩
 ·intro a w ux15 D hE hI hall
  have hM := hI.1
  have d0 : D 0 = true := hall 0 (by decide)
  have d1 : D 1 = true := hall 1 (by decide)
  have d2 : D 2 = true := hall 2 (by decide)
  have d3 : D 3 = true := hall 3 (by decide)
  have d4 : D 4 = true := hall 4 (by decide)
  have d5 : D 5 = true := hall 5 (by decide)
  have d6 : D 6 = true := hall 6 (by decide)
  have d7 : D 7 = true := hall 7 (by decide)
  have f0 : ux15 0 = (Value.agg (Flat.enc r9.1).toArray) := (hI.2 0 d0 _ rfl).2
  have f1 : ux15 1 = (Value.agg (Flat.enc p2).toArray) := (hI.2 1 d1 _ rfl).2
  have f2 : ux15 2 = (Value.agg (Flat.enc r16).toArray) := (hI.2 2 d2 _ rfl).2
  have f3 : ux15 3 = (Value.agg (Flat.enc r9.2).toArray) := (hI.2 3 d3 _ rfl).2
  have f4 : ux15 4 = (Value.agg (Flat.enc p2).toArray) := (hI.2 4 d4 _ rfl).2
  have f5 : ux15 5 = (Value.agg (Flat.enc r18).toArray) := (hI.2 5 d5 _ rfl).2
  have hM := (hM.sure (pre := [_, _, _, _, _, _]) d6).pull
  obtain ⟨_, ⟨b24, f25, _⟩, _⟩ := hM.head
  have hM := hM.pack1 Wf (it := raw b24 (Flat.enc (Vector.replicate 16 (0 : UInt8)))) (fun fp ⟨b2, e2, k2⟩ => by rw [f25] at e2; simp [ptr] at e2; subst e2; exact k2)
  have hM := (hM.sure (pre := [_, _, _, _, _, _, _]) d7).pull
  obtain ⟨_, ⟨b26, f27, _⟩, _⟩ := hM.head
  have hM := hM.pack1 Wf (it := raw b26 (Flat.enc (Vector.replicate 16 (0 : UInt8)))) (fun fp ⟨b2, e2, k2⟩ => by rw [f27] at e2; simp [ptr] at e2; subst e2; exact k2)
  have hE := hE.sub (e' := [(20, (Value.agg (Flat.enc r9.1).toArray)), (21, (Value.agg (Flat.enc p2).toArray)), (22, (Value.agg (Flat.enc r16).toArray)), (23, (Value.agg (Flat.enc r9.2).toArray)), (24, (Value.agg (Flat.enc p2).toArray)), (25, (Value.agg (Flat.enc r18).toArray)), (9, (ptr b24 0)), (10, (ptr b26 0)), (0, (Value.agg (Flat.enc p0).toArray)), (1, (Value.agg (Flat.enc p1).toArray)), (2, (Value.agg (Flat.enc p2).toArray)), (3, (ptr b1 0)), (4, (ptr b3 0)), (5, (ptr b5 0)), (6, (ptr b7 0)), (7, (ptr b11 0)), (8, (ptr b13 0)), (15, (Value.tuple [(Value.agg (Flat.enc r9.1).toArray), (Value.agg (Flat.enc r9.2).toArray)].toArray)), (16, (Value.agg (Flat.enc p1).toArray)), (17, (Value.tuple [(Value.agg (Flat.enc r9.1).toArray), (Value.agg (Flat.enc r9.2).toArray)].toArray)), (18, (Value.agg (Flat.enc r9.1).toArray)), (19, (Value.agg (Flat.enc r9.2).toArray))]) ⟨lk rfl f0, lk rfl f1, lk rfl f2, lk rfl f3, lk rfl f4, lk rfl f5, lk rfl f25, lk rfl f27, rfl, rfl, rfl, rfl, rfl, rfl, rfl, rfl, rfl, rfl, rfl, rfl, rfl, rfl, trivial⟩
  have hM := hM.pull (pre := [_])
  refine Zp (seg := Flat.enc r16) (cs' := Flat.enc r16) hE hM Za rfl rfl rfl ZF (Flat.len _) (zle flq) (Flat.cell _) (Zl flq) ?_; intro w a hM hE
  have hM := hM.pull (pre := [_])
  refine Zp (seg := Flat.enc r18) (cs' := Flat.enc r18) hE hM Za rfl rfl rfl ZF (Flat.len _) (zle flq) (Flat.cell _) (Zl flq) ?_; intro w a hM hE
  refine Zk (Zz (wp_seq ?_))
  obtain ⟨r29, e30, hF⟩ := bind_some hF
  obtain ⟨r31, e32, hF⟩ := bind_some hF
  refine UM (n := 59) (hd := [_, _, _, _, _, _, _, _, _]) (tl := [_]) YU rfl rfl [26, 27, 28, 29, 30, 31, 32, 33, 11] (by decide) (fun D u w => M (Old w0) w0 w ([raw b26 (Flat.enc r18), raw b24 (Flat.enc r16), raw b13 (Flat.enc r9.2), raw b11 (Flat.enc r9.1), raw b7 (Flat.enc (Vector.replicate 32 (0 : UInt8))), raw b5 (Flat.enc p2), raw b3 (Flat.enc p1), raw b1 (cat [[(vI p0.Field)], Flat.enc p0.Box, Flat.enc p0.Mix, Flat.enc p0.Places, [(vI p0.Rounds)]])] ++ qL ([mkO 8 (fun v => rawP v (Flat.enc (Vector.replicate 16 (0 : UInt8))))] : Mk) D u) ∧ GOk ([([], fun us v => v = (Value.agg (Flat.enc p0).toArray)), ([], fun us v => v = (Value.agg (Flat.enc r9.2).toArray)), ([], fun us v => v = (Value.agg (Flat.enc r16).toArray)), ([], fun us v => v = (ptr b1 (0 + 289))), ([], fun us v => v = (vI p0.Rounds)), ([], fun us v => v = (Value.agg (Flat.enc r29).toArray)), ([], fun us v => v = (Value.agg (Flat.enc r16).toArray)), ([], fun us v => v = (Value.agg (Flat.enc r31).toArray)), ([], fun us v => True)] : Gs) D u) hE (fun u => ⟨M.qE (M.q0 hM.drew u) emO, gok0⟩) (ZM (Zb ?_ (Zb ?_ (Zb ?_ (Zb ?_ (Zb ?_ (Zb ?_ (Zb ?_ (Zb ?_ (Zb ?_ ZH)))))))))) ?_
  ·intro a w ux28 D hE hI hD hdc hp
   have hM0 := hI.1
   have hM := hI.1
   refine Zm (cs := Flat.enc p0) hE Za (dl rfl) rfl WL rfl (hM.rawAt (pre := [_, _, _, _, _, _, _])) (ZB (cl1 (n := 1) (m := 289) rfl (cl1 (n := 256) (m := 33) (Flat.len _) (cl1 (n := 16) (m := 17) (Flat.len _) (cl1 (n := 16) (m := 1) (Flat.len _) (cl1 (n := 1) (m := 0) rfl cl0)))))) ?_; intro a hE
   exact ⟨_, _, rfl, hE, M.qKeep hM0 rfl, hI.2.put hD rfl ZW rfl⟩
  ·intro a w ux28 D hE hI hD hdc hp
   have hM0 := hI.1
   have hM := hI.1
   refine Zm (cs := Flat.enc r9.2) hE Za (dl rfl) rfl ZF rfl (hM.rawAt (pre := [_, _])) (Flat.len _) ?_; intro a hE
   exact ⟨_, _, rfl, hE, M.qKeep hM0 rfl, hI.2.put hD rfl ZW rfl⟩
  ·intro a w ux28 D hE hI hD hdc hp
   have hM0 := hI.1
   have hM := hI.1
   refine Zm (cs := Flat.enc r16) hE Za (dl rfl) rfl ZF rfl (hM.rawAt (pre := [_])) (Flat.len _) ?_; intro a hE
   exact ⟨_, _, rfl, hE, M.qKeep hM0 rfl, hI.2.put hD rfl ZW rfl⟩
  ·intro a w ux28 D hE hI hD hdc hp
   have hM0 := hI.1
   refine Zg hE Za (dl rfl) rfl (fd173_4) ?_; intro a hE
   exact ⟨_, _, rfl, hE, M.qKeep hM0 rfl, hI.2.put hD rfl ZW rfl⟩
  ·intro a w ux28 D hE hI hD hdc hp
   have d3 : D 3 = true := hp 0 _ rfl rfl
   have g3 := hI.2 3 d3 _ rfl
   have f3 : ux28 3 = (ptr b1 (0 + 289)) := g3.2
   have hM0 := hI.1
   have hM := hI.1
   refine Zq (v := (vI p0.Rounds)) hE Za (dl rfl) (lk rfl f3) ty2 rfl (At.cat (pre := [[(vI p0.Field)], Flat.enc p0.Box, Flat.enc p0.Mix, Flat.enc p0.Places]) (hM.rawAt (pre := [_, _, _, _, _, _, _])) (cl1 (n := 1) (m := 288) rfl (cl1 (n := 256) (m := 32) (Flat.len _) (cl1 (n := 16) (m := 16) (Flat.len _) (cl1 (n := 16) (m := 0) (Flat.len _) cl0))))) ?_; intro a hE
   exact ⟨_, _, rfl, hE, M.qKeep hM0 rfl, hI.2.put hD rfl ZW rfl⟩
  ·intro a w ux28 D hE hI hD hdc hp
   have d0 : D 0 = true := hp 0 _ rfl rfl
   have g0 := hI.2 0 d0 _ rfl
   have f0 : ux28 0 = (Value.agg (Flat.enc p0).toArray) := g0.2
   have d1 : D 1 = true := hp 1 _ rfl rfl
   have g1 := hI.2 1 d1 _ rfl
   have f1 : ux28 1 = (Value.agg (Flat.enc r9.2).toArray) := g1.2
   have d2 : D 2 = true := hp 2 _ rfl rfl
   have g2 := hI.2 2 d2 _ rfl
   have f2 : ux28 2 = (Value.agg (Flat.enc r16).toArray) := g2.2
   have d4 : D 4 = true := hp 3 _ rfl rfl
   have g4 := hI.2 4 d4 _ rfl
   have f4 : ux28 4 = (vI p0.Rounds) := g4.2
   have hM0 := hI.1
   refine Zs (vs := [(Value.agg (Flat.enc p0).toArray), (Value.agg (Flat.enc r9.2).toArray), (Value.agg (Flat.enc r16).toArray), (vI p0.Rounds)]) hE Za (dl rfl) (ZZ (ZT (lk rfl f0) (ZT (lk rfl f1) (ZT (lk rfl f2) (ZT (lk rfl f4) Y7))))) cb223 (c_spec_l04Encipher _ p0 r9.2 r16 p0.Rounds r29 e30) ?_
   rintro v w a ⟨rfl, hK⟩ hE
   exact ⟨_, _, rfl, hE, M.qKeep (hM0.keep hK) rfl, hI.2.put hD rfl ZW rfl⟩
  ·intro a w ux28 D hE hI hD hdc hp
   have hM0 := hI.1
   have hM := hI.1
   refine Zm (cs := Flat.enc r16) hE Za (dl rfl) rfl ZF rfl (hM.rawAt (pre := [_])) (Flat.len _) ?_; intro a hE
   exact ⟨_, _, rfl, hE, M.qKeep hM0 rfl, hI.2.put hD rfl ZW rfl⟩
  ·intro a w ux28 D hE hI hD hdc hp
   have d5 : D 5 = true := hp 0 _ rfl rfl
   have g5 := hI.2 5 d5 _ rfl
   have f5 : ux28 5 = (Value.agg (Flat.enc r29).toArray) := g5.2
   have d6 : D 6 = true := hp 1 _ rfl rfl
   have g6 := hI.2 6 d6 _ rfl
   have f6 : ux28 6 = (Value.agg (Flat.enc r16).toArray) := g6.2
   have hM0 := hI.1
   refine Zs (vs := [(Value.agg (Flat.enc r29).toArray), (Value.agg (Flat.enc r16).toArray)]) hE Za (dl rfl) (ZZ (ZT (lk rfl f5) (ZT (lk rfl f6) Y7))) cb222 (VM _ r29 r16 r31 e32) ?_
   rintro v w a ⟨rfl, hK⟩ hE
   exact ⟨_, _, rfl, hE, M.qKeep (hM0.keep hK) rfl, hI.2.put hD rfl ZW rfl⟩
  ·intro a w ux28 D hE hI hD hdc hp
   have hM0 := hI.1
   have hM := hI.1
   refine ZE hE hM Za (dl rfl) ZF ?_; intro b33 w a hM hE
   have hM := hM.pack1 (it := rawP _ (Flat.enc (Vector.replicate 16 (0 : UInt8)))) (fun w w' fp ⟨b', e, k⟩ hb => ⟨b', e, Wf w w' fp k hb⟩) (fun fp k => ⟨_, rfl, k⟩)
   exact ⟨_, _, rfl, hE, M.qFill (mk1 := []) (mk2 := []) (f := fun v => rawP v (Flat.enc (Vector.replicate 16 (0 : UInt8)))) hM rfl hD, hI.2.put hD rfl ZW trivial⟩
  ·intro a w ux28 D hE hI hall
   have hM := hI.1
   have d0 : D 0 = true := hall 0 (by decide)
   have d1 : D 1 = true := hall 1 (by decide)
   have d2 : D 2 = true := hall 2 (by decide)
   have d3 : D 3 = true := hall 3 (by decide)
   have d4 : D 4 = true := hall 4 (by decide)
   have d5 : D 5 = true := hall 5 (by decide)
   have d6 : D 6 = true := hall 6 (by decide)
   have d7 : D 7 = true := hall 7 (by decide)
   have d8 : D 8 = true := hall 8 (by decide)
   have f0 : ux28 0 = (Value.agg (Flat.enc p0).toArray) := (hI.2 0 d0 _ rfl).2
   have f1 : ux28 1 = (Value.agg (Flat.enc r9.2).toArray) := (hI.2 1 d1 _ rfl).2
   have f2 : ux28 2 = (Value.agg (Flat.enc r16).toArray) := (hI.2 2 d2 _ rfl).2
   have f3 : ux28 3 = (ptr b1 (0 + 289)) := (hI.2 3 d3 _ rfl).2
   have f4 : ux28 4 = (vI p0.Rounds) := (hI.2 4 d4 _ rfl).2
   have f5 : ux28 5 = (Value.agg (Flat.enc r29).toArray) := (hI.2 5 d5 _ rfl).2
   have f6 : ux28 6 = (Value.agg (Flat.enc r16).toArray) := (hI.2 6 d6 _ rfl).2
   have f7 : ux28 7 = (Value.agg (Flat.enc r31).toArray) := (hI.2 7 d7 _ rfl).2
   have hM := (hM.sure (pre := [_, _, _, _, _, _, _, _]) d8).pull
   obtain ⟨_, ⟨b35, f36, _⟩, _⟩ := hM.head
   have hM := hM.pack1 Wf (it := raw b35 (Flat.enc (Vector.replicate 16 (0 : UInt8)))) (fun fp ⟨b2, e2, k2⟩ => by rw [f36] at e2; simp [ptr] at e2; subst e2; exact k2)
   have hE := hE.sub (e' := [(26, (Value.agg (Flat.enc p0).toArray)), (27, (Value.agg (Flat.enc r9.2).toArray)), (28, (Value.agg (Flat.enc r16).toArray)), (29, (ptr b1 (0 + 289))), (30, (vI p0.Rounds)), (31, (Value.agg (Flat.enc r29).toArray)), (32, (Value.agg (Flat.enc r16).toArray)), (33, (Value.agg (Flat.enc r31).toArray)), (11, (ptr b35 0)), (0, (Value.agg (Flat.enc p0).toArray)), (1, (Value.agg (Flat.enc p1).toArray)), (2, (Value.agg (Flat.enc p2).toArray)), (3, (ptr b1 0)), (4, (ptr b3 0)), (5, (ptr b5 0)), (6, (ptr b7 0)), (7, (ptr b11 0)), (8, (ptr b13 0)), (9, (ptr b24 0)), (10, (ptr b26 0)), (15, (Value.tuple [(Value.agg (Flat.enc r9.1).toArray), (Value.agg (Flat.enc r9.2).toArray)].toArray)), (16, (Value.agg (Flat.enc p1).toArray)), (17, (Value.tuple [(Value.agg (Flat.enc r9.1).toArray), (Value.agg (Flat.enc r9.2).toArray)].toArray)), (18, (Value.agg (Flat.enc r9.1).toArray)), (19, (Value.agg (Flat.enc r9.2).toArray)), (20, (Value.agg (Flat.enc r9.1).toArray)), (21, (Value.agg (Flat.enc p2).toArray)), (22, (Value.agg (Flat.enc r16).toArray)), (23, (Value.agg (Flat.enc r9.2).toArray)), (24, (Value.agg (Flat.enc p2).toArray)), (25, (Value.agg (Flat.enc r18).toArray))]) ⟨lk rfl f0, lk rfl f1, lk rfl f2, lk rfl f3, lk rfl f4, lk rfl f5, lk rfl f6, lk rfl f7, lk rfl f36, rfl, rfl, rfl, rfl, rfl, rfl, rfl, rfl, rfl, rfl, rfl, rfl, rfl, rfl, rfl, rfl, rfl, rfl, rfl, rfl, rfl, rfl, trivial⟩
   refine Zp (seg := Flat.enc r31) (cs' := Flat.enc r31) hE hM Za rfl rfl rfl ZF (Flat.len _) (zle flq) (Flat.cell _) (Zl flq) ?_; intro w a hM hE
   refine Zk (Zz (wp_seq ?_))
   obtain ⟨r38, e39, hF⟩ := bind_some hF
   obtain ⟨r40, e41, hF⟩ := bind_some hF
   refine UM (n := 59) (hd := [_, _, _, _, _, _, _, _, _]) (tl := [_]) YU rfl rfl [34, 35, 36, 37, 38, 39, 40, 41, 12] (by decide) (fun D u w => M (Old w0) w0 w ([raw b35 (Flat.enc r31), raw b26 (Flat.enc r18), raw b24 (Flat.enc r16), raw b13 (Flat.enc r9.2), raw b11 (Flat.enc r9.1), raw b7 (Flat.enc (Vector.replicate 32 (0 : UInt8))), raw b5 (Flat.enc p2), raw b3 (Flat.enc p1), raw b1 (cat [[(vI p0.Field)], Flat.enc p0.Box, Flat.enc p0.Mix, Flat.enc p0.Places, [(vI p0.Rounds)]])] ++ qL ([mkO 8 (fun v => rawP v (Flat.enc (Vector.replicate 16 (0 : UInt8))))] : Mk) D u) ∧ GOk ([([], fun us v => v = (Value.agg (Flat.enc p0).toArray)), ([], fun us v => v = (Value.agg (Flat.enc r31).toArray)), ([], fun us v => v = (Value.agg (Flat.enc r18).toArray)), ([], fun us v => v = (ptr b1 (0 + 289))), ([], fun us v => v = (vI p0.Rounds)), ([], fun us v => v = (Value.agg (Flat.enc r38).toArray)), ([], fun us v => v = (Value.agg (Flat.enc r18).toArray)), ([], fun us v => v = (Value.agg (Flat.enc r40).toArray)), ([], fun us v => True)] : Gs) D u) hE (fun u => ⟨M.qE (M.q0 hM.drew u) emO, gok0⟩) (ZM (Zb ?_ (Zb ?_ (Zb ?_ (Zb ?_ (Zb ?_ (Zb ?_ (Zb ?_ (Zb ?_ (Zb ?_ ZH)))))))))) ?_
   ·intro a w ux37 D hE hI hD hdc hp
    have hM0 := hI.1
    have hM := hI.1
    refine Zm (cs := Flat.enc p0) hE Za (dl rfl) rfl WL rfl (hM.rawAt (pre := [_, _, _, _, _, _, _, _])) (ZB (cl1 (n := 1) (m := 289) rfl (cl1 (n := 256) (m := 33) (Flat.len _) (cl1 (n := 16) (m := 17) (Flat.len _) (cl1 (n := 16) (m := 1) (Flat.len _) (cl1 (n := 1) (m := 0) rfl cl0)))))) ?_; intro a hE
    exact ⟨_, _, rfl, hE, M.qKeep hM0 rfl, hI.2.put hD rfl ZW rfl⟩
   ·intro a w ux37 D hE hI hD hdc hp
    have hM0 := hI.1
    have hM := hI.1
    refine Zm (cs := Flat.enc r31) hE Za (dl rfl) rfl ZF rfl (hM.rawAt (pre := [])) (Flat.len _) ?_; intro a hE
    exact ⟨_, _, rfl, hE, M.qKeep hM0 rfl, hI.2.put hD rfl ZW rfl⟩
   ·intro a w ux37 D hE hI hD hdc hp
    have hM0 := hI.1
    have hM := hI.1
    refine Zm (cs := Flat.enc r18) hE Za (dl rfl) rfl ZF rfl (hM.rawAt (pre := [_])) (Flat.len _) ?_; intro a hE
    exact ⟨_, _, rfl, hE, M.qKeep hM0 rfl, hI.2.put hD rfl ZW rfl⟩
   ·intro a w ux37 D hE hI hD hdc hp
    have hM0 := hI.1
    refine Zg hE Za (dl rfl) rfl (fd173_4) ?_; intro a hE
    exact ⟨_, _, rfl, hE, M.qKeep hM0 rfl, hI.2.put hD rfl ZW rfl⟩
   ·intro a w ux37 D hE hI hD hdc hp
    have d3 : D 3 = true := hp 0 _ rfl rfl
    have g3 := hI.2 3 d3 _ rfl
    have f3 : ux37 3 = (ptr b1 (0 + 289)) := g3.2
    have hM0 := hI.1
    have hM := hI.1
    refine Zq (v := (vI p0.Rounds)) hE Za (dl rfl) (lk rfl f3) ty2 rfl (At.cat (pre := [[(vI p0.Field)], Flat.enc p0.Box, Flat.enc p0.Mix, Flat.enc p0.Places]) (hM.rawAt (pre := [_, _, _, _, _, _, _, _])) (cl1 (n := 1) (m := 288) rfl (cl1 (n := 256) (m := 32) (Flat.len _) (cl1 (n := 16) (m := 16) (Flat.len _) (cl1 (n := 16) (m := 0) (Flat.len _) cl0))))) ?_; intro a hE
    exact ⟨_, _, rfl, hE, M.qKeep hM0 rfl, hI.2.put hD rfl ZW rfl⟩
   ·intro a w ux37 D hE hI hD hdc hp
    have d0 : D 0 = true := hp 0 _ rfl rfl
    have g0 := hI.2 0 d0 _ rfl
    have f0 : ux37 0 = (Value.agg (Flat.enc p0).toArray) := g0.2
    have d1 : D 1 = true := hp 1 _ rfl rfl
    have g1 := hI.2 1 d1 _ rfl
    have f1 : ux37 1 = (Value.agg (Flat.enc r31).toArray) := g1.2
    have d2 : D 2 = true := hp 2 _ rfl rfl
    have g2 := hI.2 2 d2 _ rfl
    have f2 : ux37 2 = (Value.agg (Flat.enc r18).toArray) := g2.2
    have d4 : D 4 = true := hp 3 _ rfl rfl
    have g4 := hI.2 4 d4 _ rfl
    have f4 : ux37 4 = (vI p0.Rounds) := g4.2
    have hM0 := hI.1
    refine Zs (vs := [(Value.agg (Flat.enc p0).toArray), (Value.agg (Flat.enc r31).toArray), (Value.agg (Flat.enc r18).toArray), (vI p0.Rounds)]) hE Za (dl rfl) (ZZ (ZT (lk rfl f0) (ZT (lk rfl f1) (ZT (lk rfl f2) (ZT (lk rfl f4) Y7))))) cb223 (c_spec_l04Encipher _ p0 r31 r18 p0.Rounds r38 e39) ?_
    rintro v w a ⟨rfl, hK⟩ hE
    exact ⟨_, _, rfl, hE, M.qKeep (hM0.keep hK) rfl, hI.2.put hD rfl ZW rfl⟩
   ·intro a w ux37 D hE hI hD hdc hp
    have hM0 := hI.1
    have hM := hI.1
    refine Zm (cs := Flat.enc r18) hE Za (dl rfl) rfl ZF rfl (hM.rawAt (pre := [_])) (Flat.len _) ?_; intro a hE
    exact ⟨_, _, rfl, hE, M.qKeep hM0 rfl, hI.2.put hD rfl ZW rfl⟩
   ·intro a w ux37 D hE hI hD hdc hp
    have d5 : D 5 = true := hp 0 _ rfl rfl
    have g5 := hI.2 5 d5 _ rfl
    have f5 : ux37 5 = (Value.agg (Flat.enc r38).toArray) := g5.2
    have d6 : D 6 = true := hp 1 _ rfl rfl
    have g6 := hI.2 6 d6 _ rfl
    have f6 : ux37 6 = (Value.agg (Flat.enc r18).toArray) := g6.2
    have hM0 := hI.1
    refine Zs (vs := [(Value.agg (Flat.enc r38).toArray), (Value.agg (Flat.enc r18).toArray)]) hE Za (dl rfl) (ZZ (ZT (lk rfl f5) (ZT (lk rfl f6) Y7))) cb222 (VM _ r38 r18 r40 e41) ?_
    rintro v w a ⟨rfl, hK⟩ hE
    exact ⟨_, _, rfl, hE, M.qKeep (hM0.keep hK) rfl, hI.2.put hD rfl ZW rfl⟩
   ·intro a w ux37 D hE hI hD hdc hp
    have hM0 := hI.1
    have hM := hI.1
    refine ZE hE hM Za (dl rfl) ZF ?_; intro b42 w a hM hE
    have hM := hM.pack1 (it := rawP _ (Flat.enc (Vector.replicate 16 (0 : UInt8)))) (fun w w' fp ⟨b', e, k⟩ hb => ⟨b', e, Wf w w' fp k hb⟩) (fun fp k => ⟨_, rfl, k⟩)
    exact ⟨_, _, rfl, hE, M.qFill (mk1 := []) (mk2 := []) (f := fun v => rawP v (Flat.enc (Vector.replicate 16 (0 : UInt8)))) hM rfl hD, hI.2.put hD rfl ZW trivial⟩
   ·intro a w ux37 D hE hI hall
    have hM := hI.1
    have d0 : D 0 = true := hall 0 (by decide)
    have d1 : D 1 = true := hall 1 (by decide)
    have d2 : D 2 = true := hall 2 (by decide)
    have d3 : D 3 = true := hall 3 (by decide)
    have d4 : D 4 = true := hall 4 (by decide)
    have d5 : D 5 = true := hall 5 (by decide)
    have d6 : D 6 = true := hall 6 (by decide)
    have d7 : D 7 = true := hall 7 (by decide)
    have d8 : D 8 = true := hall 8 (by decide)
    have f0 : ux37 0 = (Value.agg (Flat.enc p0).toArray) := (hI.2 0 d0 _ rfl).2
    have f1 : ux37 1 = (Value.agg (Flat.enc r31).toArray) := (hI.2 1 d1 _ rfl).2
    have f2 : ux37 2 = (Value.agg (Flat.enc r18).toArray) := (hI.2 2 d2 _ rfl).2
    have f3 : ux37 3 = (ptr b1 (0 + 289)) := (hI.2 3 d3 _ rfl).2
    have f4 : ux37 4 = (vI p0.Rounds) := (hI.2 4 d4 _ rfl).2
    have f5 : ux37 5 = (Value.agg (Flat.enc r38).toArray) := (hI.2 5 d5 _ rfl).2
    have f6 : ux37 6 = (Value.agg (Flat.enc r18).toArray) := (hI.2 6 d6 _ rfl).2
    have f7 : ux37 7 = (Value.agg (Flat.enc r40).toArray) := (hI.2 7 d7 _ rfl).2
    have hM := (hM.sure (pre := [_, _, _, _, _, _, _, _, _]) d8).pull
    obtain ⟨_, ⟨b44, f45, _⟩, _⟩ := hM.head
    have hM := hM.pack1 Wf (it := raw b44 (Flat.enc (Vector.replicate 16 (0 : UInt8)))) (fun fp ⟨b2, e2, k2⟩ => by rw [f45] at e2; simp [ptr] at e2; subst e2; exact k2)
    have hE := hE.sub (e' := [(34, (Value.agg (Flat.enc p0).toArray)), (35, (Value.agg (Flat.enc r31).toArray)), (36, (Value.agg (Flat.enc r18).toArray)), (37, (ptr b1 (0 + 289))), (38, (vI p0.Rounds)), (39, (Value.agg (Flat.enc r38).toArray)), (40, (Value.agg (Flat.enc r18).toArray)), (41, (Value.agg (Flat.enc r40).toArray)), (12, (ptr b44 0)), (0, (Value.agg (Flat.enc p0).toArray)), (1, (Value.agg (Flat.enc p1).toArray)), (2, (Value.agg (Flat.enc p2).toArray)), (3, (ptr b1 0)), (4, (ptr b3 0)), (5, (ptr b5 0)), (6, (ptr b7 0)), (7, (ptr b11 0)), (8, (ptr b13 0)), (9, (ptr b24 0)), (10, (ptr b26 0)), (11, (ptr b35 0)), (15, (Value.tuple [(Value.agg (Flat.enc r9.1).toArray), (Value.agg (Flat.enc r9.2).toArray)].toArray)), (16, (Value.agg (Flat.enc p1).toArray)), (17, (Value.tuple [(Value.agg (Flat.enc r9.1).toArray), (Value.agg (Flat.enc r9.2).toArray)].toArray)), (18, (Value.agg (Flat.enc r9.1).toArray)), (19, (Value.agg (Flat.enc r9.2).toArray)), (20, (Value.agg (Flat.enc r9.1).toArray)), (21, (Value.agg (Flat.enc p2).toArray)), (22, (Value.agg (Flat.enc r16).toArray)), (23, (Value.agg (Flat.enc r9.2).toArray)), (24, (Value.agg (Flat.enc p2).toArray)), (25, (Value.agg (Flat.enc r18).toArray)), (26, (Value.agg (Flat.enc p0).toArray)), (27, (Value.agg (Flat.enc r9.2).toArray)), (28, (Value.agg (Flat.enc r16).toArray)), (29, (ptr b1 (0 + 289))), (30, (vI p0.Rounds)), (31, (Value.agg (Flat.enc r29).toArray)), (32, (Value.agg (Flat.enc r16).toArray)), (33, (Value.agg (Flat.enc r31).toArray))]) ⟨lk rfl f0, lk rfl f1, lk rfl f2, lk rfl f3, lk rfl f4, lk rfl f5, lk rfl f6, lk rfl f7, lk rfl f45, rfl, rfl, rfl, rfl, rfl, rfl, rfl, rfl, rfl, rfl, rfl, rfl, rfl, rfl, rfl, rfl, rfl, rfl, rfl, rfl, rfl, rfl, rfl, rfl, rfl, rfl, rfl, rfl, rfl, rfl, rfl, trivial⟩
    refine Zp (seg := Flat.enc r40) (cs' := Flat.enc r40) hE hM Za rfl rfl rfl ZF (Flat.len _) (zle flq) (Flat.cell _) (Zl flq) ?_; intro w a hM hE
    refine Zk (Zz (Zc (YO (parts := []) (vs := []) (cs := Flat.enc (Vector.replicate 32 (0 : UInt8))) hE Za (dl rfl) rfl rfl Z9 rfl ty5 Yw ?_))); intro a hE
    refine ZE hE hM Za (dl rfl) Z9 ?_; intro b46 w a hM hE
    refine Zp (seg := Flat.enc (Vector.replicate 32 (0 : UInt8))) (cs' := Flat.enc (Vector.replicate 32 (0 : UInt8))) hE hM Za rfl rfl rfl Z9 (Flat.len _) (zle flq) (Flat.cell _) (Zl flq) ?_; intro w a hM hE
    refine Zf (wp_seq (Zc (Ze hE Za (dl rfl) rfl ?_))); intro a hE
    refine Zf ?_
    obtain ⟨j48, hl49, hF50⟩ := bind_some hF
    refine ZS (fun a w => Env 59 a [(6, (ptr b7 0)), (13, (ptr b46 0))] ∧ M (Old w0) w0 w [raw b46 (Flat.enc j48), raw b7 (Flat.enc (Vector.replicate 32 (0 : UInt8)))]) ?_ ?_
    ·skip
     refine wp_block ?_
     have hM := hM.pull (pre := [_, _, _, _, _, _, _])
     have hM := hM.pull (pre := [_, _, _])
     have hM := hM.pull (pre := [_, _, _])
     have hM := hM.pull (pre := [_, _, _])
     have hM := M.fst (l := [_, _, _, _]) hM
     refine ZL (fun (s51 : (Vector UInt8 32) × Int) a w => Env 59 a [(6, (ptr b7 0)), (11, (ptr b35 0)), (12, (ptr b44 0)), (13, (ptr b46 0)), (14, (vI s51.2))] ∧ M (Old w0) w0 w [raw b46 (Flat.enc s51.1), raw b44 (Flat.enc r40), raw b35 (Flat.enc r31), raw b7 (Flat.enc (Vector.replicate 32 (0 : UInt8)))]) hl49 ⟨hE.sub ⟨rfl, rfl, rfl, rfl, rfl, trivial⟩, hM⟩ ?_
     rintro s51 a w ⟨hE, hM⟩ o54 hs52 hx53
     unfold XH at hs52
     refine wp_seq (Zc (Zd hE Za (dl rfl) rfl ?_)); intro a hE
     refine Zh hE Za (dl rfl) rfl rfl rfl ?_; intro a hE
     refine Zf ?_
     refine Zw hE rfl ?_ ?_
     ·intro hb55
      have hs52 := ZD hs52 hb55
      refine wp_skip (Zz (wp_seq (wp_block (Zc (Zd hE Za (dl rfl) rfl ?_))))); intro a hE
      refine Zd hE Za (dl rfl) rfl ?_; intro a hE
      obtain ⟨x57, e58, hs52⟩ := bind_some hs52
      have hi56 := Zi e58
      refine Zo hE Za (dl rfl) rfl rfl Tryz.underlying70 ty5 hi56.1 ?_; intro a hE
      refine Zq (v := (vB x57)) hE Za (dl rfl) rfl ty5 rfl (At.vec (hM.rawAt (pre := [_, _])) hi56.2) ?_; intro a hE
      obtain ⟨x60, e61, hs52⟩ := bind_some hs52
      have hi59 := Zi e61
      refine Zo hE Za (dl rfl) rfl rfl Tryz.underlying29 ty5 hi59.1 ?_; intro a hE
      refine Zp (seg := [(vB x57)]) (cs' := Flat.enc (s51.1.setIfInBounds (s51.2).toNat x57)) hE hM Za rfl rfl rfl ty5 rfl (ZO (v := s51.1) (x := x57) hi59.1) (Flat.cell (x57 : UInt8)) (ZI (v := s51.1) (x := x57) hi59.1) ?_; intro w a hM hE
      refine Zf (wp_region_lit (Zd hE Za (dl rfl) rfl ?_)); intro a hE
      refine Zh hE Za (dl rfl) rfl rfl rfl ?_; intro a hE
      refine Zd hE Za (dl rfl) rfl ?_; intro a hE
      obtain ⟨x63, e64, hs52⟩ := bind_some hs52
      have hi62 := Zi e64
      refine Zo hE Za (dl rfl) rfl rfl Tryz.underlying70 ty5 hi62.1 ?_; intro a hE
      refine Zq (v := (vB x63)) hE Za (dl rfl) rfl ty5 rfl (At.vec (hM.rawAt (pre := [_])) hi62.2) ?_; intro a hE
      obtain ⟨x66, e67, hs52⟩ := bind_some hs52
      have hi65 := Zi e67
      refine Zo hE Za (dl rfl) rfl rfl Tryz.underlying29 ty5 hi65.1 ?_; intro a hE
      refine Zp (seg := [(vB x63)]) (cs' := Flat.enc ((s51.1.setIfInBounds (s51.2).toNat x57).setIfInBounds ((wr (16 + s51.2))).toNat x63)) hE hM Za rfl rfl rfl ty5 rfl (ZO (v := (s51.1.setIfInBounds (s51.2).toNat x57)) (x := x63) hi65.1) (Flat.cell (x63 : UInt8)) (ZI (v := (s51.1.setIfInBounds (s51.2).toNat x57)) (x := x63) hi65.1) ?_; intro w a hM hE
      refine Zk (Yl (Zz (wp_region_lit (Zd hE Za (dl rfl) rfl ?_)))); intro a hE
      refine Zh hE Za (dl rfl) rfl rfl rfl ?_; intro a hE
      refine Ze hE Za (dl rfl) rfl ?_; intro a hE
      refine Zk (Zn ?_)
      exact ⟨_, (Option.some.inj hs52).symm, hE.sub ⟨rfl, rfl, rfl, rfl, rfl, trivial⟩, hM⟩
     ·intro hb55
      have hs52 := ZC hs52 hb55
      refine wp_exit (Zr (Zr (Yk ?_)))
      have ht68 := hx53 _ (Option.some.inj hs52).symm
      subst ht68
      refine Zn ?_
      have hM := hM.pull (pre := [_, _, _])
      have hM := hM.pull (pre := [_])
      have hM := M.fst (l := [_, _]) hM
      exact ⟨hE.sub ⟨rfl, rfl, trivial⟩, hM⟩
    ·skip
     rintro a w ⟨hE, hM⟩
     refine Zz (Zc (Zm (cs := Flat.enc j48) hE Za (dl rfl) rfl Z9 rfl (hM.rawAt (pre := [])) (Flat.len _) ?_)); intro a hE
     have hM := hM.pull (pre := [_])
     refine Zp (seg := Flat.enc j48) (cs' := Flat.enc j48) hE hM Za rfl rfl rfl Z9 (Flat.len _) (zle flq) (Flat.cell _) (Zl flq) ?_; intro w a hM hE
     refine Zf ?_
     have hr := Option.some.inj hF50
     subst hr
     have hq69 : Yq Tryz.prog _ _ (.cell 6 29) _ := ZQ hE rfl Z9 rfl (hM.rawAt (pre := [])) (Flat.len _) rfl
     have hM := M.fst (l := []) hM
     exact wp_ret (Zy hE rfl hq69 ⟨_, rfl, rfl, hM.kept⟩)
noncomputable def VP (p0 : GCipher) (r8 : (List (Vector UInt8 16))) (s18 : (Vector UInt8 32) × Int) : Option (Fl ((Vector UInt8 32) × Int) (Vector UInt8 32)) :=
 if (decide (s18.2 < (r8.length : Int))) = true then ((idx r8 s18.2).bind fun x24 => (XV p0 s18.1 x24).bind fun r27 => some (Fl.nx (r27, wr (s18.2 + 1)))) else (some (Fl.ex s18.1))
noncomputable def Ur (p0 : GCipher) (p1 : (List UInt8)) : Option ((Vector UInt8 32)) :=
 (UE p1).bind fun r5 => (Ve r5).bind fun r8 => (VI).bind fun r11 => (ZJ (VP p0 r8) (r11, 0) : Option ((Vector UInt8 32))).bind fun j15 => some j15
theorem c_spec_l08Of (w0 : World) (p0 : GCipher) (p1 : (List UInt8)) (v1_1 : Value) (hv1_1 : Ro w0 p1 [v1_1]) (r : (Vector UInt8 32)) (hF : Ur p0 p1 = some r) :
  Calls Tryz.prog 153 [(Value.agg (Flat.enc p0).toArray), v1_1].toArray w0 (fun en w' => ∃ v, en = .returned v ∧ (v = (Value.agg (Flat.enc r).toArray) ∧ Kept (Old w0) w0 w')) := by
 refine ZA (n := 26) Tryz.func153 rfl rfl (Nat.le_of_ble_eq_true rfl) rfl ?_
 intro a hE
 have hM := M.start w0
 unfold Ur at hF
 refine Zc (ZV (cs := cat [[(vI p0.Field)], Flat.enc p0.Box, Flat.enc p0.Mix, Flat.enc p0.Places, [(vI p0.Rounds)]]) hE hM Za (dl rfl) rfl rfl ?_); intro b1 w a hM hE
 refine ZE hE hM Za (dl rfl) Z9 ?_; intro b3 w a hM hE
 refine Zf (Zc (Zd hE Za (dl rfl) rfl ?_)); intro a hE
 obtain ⟨r5, e6, hF⟩ := bind_some hF
 refine Zs (vs := [v1_1]) hE Za (dl rfl) rfl cb188 (c_spec_l08Pad _ p1 v1_1 (hM.rdo hv1_1) r5 e6) ?_
 rintro u7 w a ⟨_, rfl, hFr, hK⟩ hE
 have hM := hM.add hK hFr
 obtain ⟨r8, e9, hF⟩ := bind_some hF
 refine Zs (vs := [u7]) hE Za (dl rfl) rfl cb187 (c_spec_l01Blocks _ r5 u7 (hM.sl (pre := []) noB) r8 e9) ?_
 rintro u10 w a ⟨_, rfl, hFr, hK⟩ hE
 have hM := hM.add hK hFr
 obtain ⟨r11, e12, hF⟩ := bind_some hF
 refine Zs (vs := []) hE Za (dl rfl) rfl cb189 (c_spec_l08Start _  r11 e12) ?_
 rintro v w a ⟨rfl, hK⟩ hE
 have hM := hM.keep hK
 refine ZE hE hM Za (dl rfl) Z9 ?_; intro b13 w a hM hE
 refine Ze hE Za (dl rfl) rfl ?_; intro a hE
 refine Zp (seg := Flat.enc r11) (cs' := Flat.enc r11) hE hM Za rfl rfl rfl Z9 (Flat.len _) (zle flq) (Flat.cell _) (Zl flq) ?_; intro w a hM hE
 refine Zf (wp_seq (Zc (Ze hE Za (dl rfl) rfl ?_))); intro a hE
 refine Zf ?_
 obtain ⟨j15, hl16, hF17⟩ := bind_some hF
 refine ZS (fun a w => Env 26 a [(4, (ptr b3 0)), (6, (ptr b13 0))] ∧ M (Old w0) w0 w [raw b13 (Flat.enc j15), raw b3 (Flat.enc (Vector.replicate 32 (0 : UInt8)))]) ?_ ?_
 ·skip
  refine wp_block ?_
  have hM := hM.pull (pre := [_, _, _, _])
  have hM := hM.pull (pre := [_, _, _, _])
  have hM := hM.pull (pre := [_, _, _])
  have hM := hM.pull (pre := [_, _, _])
  have hM := M.fst (l := [_, _, _, _]) hM
  refine ZL (fun (s18 : (Vector UInt8 32) × Int) a w => Env 26 a [(2, (ptr b1 0)), (4, (ptr b3 0)), (5, u10), (6, (ptr b13 0)), (7, (vI s18.2))] ∧ M (Old w0) w0 w [raw b13 (Flat.enc s18.1), osl NoB (r8 : List (Vector UInt8 16)) u10, raw b3 (Flat.enc (Vector.replicate 32 (0 : UInt8))), raw b1 (cat [[(vI p0.Field)], Flat.enc p0.Box, Flat.enc p0.Mix, Flat.enc p0.Places, [(vI p0.Rounds)]])]) hl16 ⟨hE.sub ⟨rfl, rfl, rfl, rfl, rfl, trivial⟩, hM⟩ ?_
  rintro s18 a w ⟨hE, hM⟩ o21 hs19 hx20
  unfold VP at hs19
  refine wp_seq (Zc (Zd hE Za (dl rfl) rfl ?_)); intro a hE
  refine Zd hE Za (dl rfl) rfl ?_; intro a hE
  refine Yb hE Za (dl rfl) rfl Tryz.underlying32 (hM.sl (pre := [_]) noB) ?_; intro a hE
  refine Zh hE Za (dl rfl) rfl rfl rfl ?_; intro a hE
  refine Zf ?_
  refine Zw hE rfl ?_ ?_
  ·intro hb22
   have hs19 := ZD hs19 hb22
   refine wp_skip (Zz (wp_seq (wp_block ?_)))
   obtain ⟨x24, e25, hs19⟩ := bind_some hs19
   have hi26 := ZY e25
   obtain ⟨r27, e28, hs19⟩ := bind_some hs19
   refine Yo (n := 26) (hd := [_, _, _, _, _, _, _]) (tl := [_]) YU rfl rfl [18, 19, 20, 21, 22, 23, 24] (by decide) (fun w => M (Old w0) w0 w [raw b13 (Flat.enc s18.1), osl NoB (r8 : List (Vector UInt8 16)) u10, raw b3 (Flat.enc (Vector.replicate 32 (0 : UInt8))), raw b1 (cat [[(vI p0.Field)], Flat.enc p0.Box, Flat.enc p0.Mix, Flat.enc p0.Places, [(vI p0.Rounds)]])]) (fun j => ([fun v _ => v = (Value.agg (Flat.enc p0).toArray), fun v _ => v = (Value.agg (Flat.enc s18.1).toArray), fun v _ => v = u10, fun v _ => v = (vI s18.2), fun v _ => v = (ptr (sb u10) (so u10 + (s18.2).toNat * 16)), fun v _ => v = (Value.agg (Flat.enc x24).toArray), fun v _ => v = (Value.agg (Flat.enc r27).toArray)] : List (Value → World → Prop)).getD j (fun _ _ => True)) (fun _ _ h hk => h.keep hk) (gup (Zj (Zj (Zj (Zj (Zj (Zj (Zj Vq)))))))) hE hM.drew (ZM (Zb ?_ (Zb ?_ (Zb ?_ (Zb ?_ (Zb ?_ (Zb ?_ (Zb ?_ ZH)))))))) ?_
   ·intro a w ux23 hE hM hp
    refine Zm (cs := Flat.enc p0) hE Za (dl rfl) rfl WL rfl (hM.rawAt (pre := [_, _, _])) (ZB (cl1 (n := 1) (m := 289) rfl (cl1 (n := 256) (m := 33) (Flat.len _) (cl1 (n := 16) (m := 17) (Flat.len _) (cl1 (n := 16) (m := 1) (Flat.len _) (cl1 (n := 1) (m := 0) rfl cl0)))))) ?_; intro a hE
    exact ⟨Kept.refl _ _, _, _, rfl, hE, rfl⟩
   ·intro a w ux23 hE hM hp
    refine Zm (cs := Flat.enc s18.1) hE Za (dl rfl) rfl Z9 rfl (hM.rawAt (pre := [])) (Flat.len _) ?_; intro a hE
    exact ⟨Kept.refl _ _, _, _, rfl, hE, rfl⟩
   ·intro a w ux23 hE hM hp
    refine Zd hE Za (dl rfl) rfl ?_; intro a hE
    exact ⟨Kept.refl _ _, _, _, rfl, hE, rfl⟩
   ·intro a w ux23 hE hM hp
    refine Zd hE Za (dl rfl) rfl ?_; intro a hE
    exact ⟨Kept.refl _ _, _, _, rfl, hE, rfl⟩
   ·intro a w ux23 hE hM hp
    have f2 : ux23 2 = u10 := hp 0 _ rfl rfl
    have f3 : ux23 3 = (vI s18.2) := hp 1 _ rfl rfl
    refine ZX hE Za (dl rfl) (lk rfl f2) (lk rfl f3) Tryz.underlying32 ZF (hM.sl (pre := [_]) noB) hi26.1 ?_; intro a hE
    exact ⟨Kept.refl _ _, _, _, rfl, hE, rfl⟩
   ·intro a w ux23 hE hM hp
    have f4 : ux23 4 = (ptr (sb u10) (so u10 + (s18.2).toNat * 16)) := hp 0 _ rfl rfl
    refine Zm (cs := Flat.enc x24) hE Za (dl rfl) (lk rfl f4) ZF rfl (Wh (hM.sl (pre := [_]) noB) hi26.2) (Flat.len _) ?_; intro a hE
    exact ⟨Kept.refl _ _, _, _, rfl, hE, rfl⟩
   ·intro a w ux23 hE hM hp
    have f0 : ux23 0 = (Value.agg (Flat.enc p0).toArray) := hp 0 _ rfl rfl
    have f1 : ux23 1 = (Value.agg (Flat.enc s18.1).toArray) := hp 1 _ rfl rfl
    have f5 : ux23 5 = (Value.agg (Flat.enc x24).toArray) := hp 2 _ rfl rfl
    refine Zs (vs := [(Value.agg (Flat.enc p0).toArray), (Value.agg (Flat.enc s18.1).toArray), (Value.agg (Flat.enc x24).toArray)]) hE Za (dl rfl) (ZZ (ZT (lk rfl f0) (ZT (lk rfl f1) (ZT (lk rfl f5) Y7)))) cb190 (c_spec_l08Absorb _ p0 s18.1 x24 r27 e28) ?_
    rintro v w a ⟨rfl, hK⟩ hE
    exact ⟨hK, _, _, rfl, hE, rfl⟩
   ·intro a w ux23 hE hM hg
    have f0 : ux23 0 = (Value.agg (Flat.enc p0).toArray) := hg 0 (by decide)
    have f1 : ux23 1 = (Value.agg (Flat.enc s18.1).toArray) := hg 1 (by decide)
    have f2 : ux23 2 = u10 := hg 2 (by decide)
    have f3 : ux23 3 = (vI s18.2) := hg 3 (by decide)
    have f4 : ux23 4 = (ptr (sb u10) (so u10 + (s18.2).toNat * 16)) := hg 4 (by decide)
    have f5 : ux23 5 = (Value.agg (Flat.enc x24).toArray) := hg 5 (by decide)
    have f6 : ux23 6 = (Value.agg (Flat.enc r27).toArray) := hg 6 (by decide)
    have hE := hE.sub (e' := [(18, (Value.agg (Flat.enc p0).toArray)), (19, (Value.agg (Flat.enc s18.1).toArray)), (20, u10), (21, (vI s18.2)), (22, (ptr (sb u10) (so u10 + (s18.2).toNat * 16))), (23, (Value.agg (Flat.enc x24).toArray)), (24, (Value.agg (Flat.enc r27).toArray)), (2, (ptr b1 0)), (4, (ptr b3 0)), (5, u10), (6, (ptr b13 0)), (7, (vI s18.2)), (12, (vI s18.2)), (13, u10), (14, (vI (r8.length : Int))), (15, (vT (decide (s18.2 < (r8.length : Int)))))]) ⟨lk rfl f0, lk rfl f1, lk rfl f2, lk rfl f3, lk rfl f4, lk rfl f5, lk rfl f6, rfl, rfl, rfl, rfl, rfl, rfl, rfl, rfl, rfl, trivial⟩
    refine Zp (seg := Flat.enc r27) (cs' := Flat.enc r27) hE hM Za rfl rfl rfl Z9 (Flat.len _) (zle flq) (Flat.cell _) (Zl flq) ?_; intro w a hM hE
    refine Zk (Yl (Zz (wp_region_lit (Zd hE Za (dl rfl) rfl ?_)))); intro a hE
    refine Zh hE Za (dl rfl) rfl rfl rfl ?_; intro a hE
    refine Ze hE Za (dl rfl) rfl ?_; intro a hE
    refine Zk (Zn ?_)
    exact ⟨_, (Option.some.inj hs19).symm, hE.sub ⟨rfl, rfl, rfl, rfl, rfl, trivial⟩, hM⟩
  ·intro hb22
   have hs19 := ZC hs19 hb22
   refine wp_exit (Zr (Zr (Yk ?_)))
   have ht29 := hx20 _ (Option.some.inj hs19).symm
   subst ht29
   refine Zn ?_
   have hM := hM.pull (pre := [_, _])
   have hM := hM.pull (pre := [_])
   have hM := M.fst (l := [_, _]) hM
   exact ⟨hE.sub ⟨rfl, rfl, trivial⟩, hM⟩
 ·skip
  rintro a w ⟨hE, hM⟩
  refine Zz (Zc (Zm (cs := Flat.enc j15) hE Za (dl rfl) rfl Z9 rfl (hM.rawAt (pre := [])) (Flat.len _) ?_)); intro a hE
  have hM := hM.pull (pre := [_])
  refine Zp (seg := Flat.enc j15) (cs' := Flat.enc j15) hE hM Za rfl rfl rfl Z9 (Flat.len _) (zle flq) (Flat.cell _) (Zl flq) ?_; intro w a hM hE
  refine Zf ?_
  have hr := Option.some.inj hF17
  subst hr
  have hq30 : Yq Tryz.prog _ _ (.cell 4 29) _ := ZQ hE rfl Z9 rfl (hM.rawAt (pre := [])) (Flat.len _) rfl
  have hM := M.fst (l := []) hM
  exact wp_ret (Zy hE rfl hq30 ⟨_, rfl, rfl, hM.kept⟩)
noncomputable def WW (p0 : (Vector UInt8 32)) (s10 : (List UInt8) × Int) : Option (Fl ((List UInt8) × Int) (List UInt8)) :=
 if (decide (s10.2 < 32)) = true then ((ZK p0 s10.2).bind fun x18 => (app 1 s10.1 ([x18] : List UInt8)).bind fun l22 => some (Fl.nx ((s10.1 ++ ([x18] : List UInt8)), wr (s10.2 + 1)))) else (some (Fl.ex s10.1))
noncomputable def VF (p0 : (Vector UInt8 32)) : Option ((List UInt8)) :=
 (ZJ (WW p0) (([] : List UInt8), 0) : Option ((List UInt8))).bind fun j5 => some j5
theorem c_spec_l08Bytes (w0 : World) (p0 : (Vector UInt8 32)) (r : (List UInt8)) (hF : VF p0 = some r) :
  Calls Tryz.prog 182 [(Value.agg (Flat.enc p0).toArray)].toArray w0 (fun en w' => ∃ v, en = .returned v ∧ (∃ (y1 : Value), v = y1 ∧ Fr w0 w' [osl NoB (r : List UInt8) y1] ∧ Kept (Old w0) w0 w')) := by
 refine ZA (n := 17) Tryz.func182 rfl rfl (Nat.le_of_ble_eq_true rfl) rfl ?_
 intro a hE
 have hM := M.start w0
 unfold VF at hF
 refine Zc (ZV (cs := Flat.enc p0) hE hM Za (dl rfl) rfl rfl ?_); intro b1 w a hM hE
 refine Ze hE Za (dl rfl) rfl ?_; intro a hE
 refine Zf (Zc (Ye (xs := []) (l := ([] : List UInt8)) (vs := []) hE hM Za (dl rfl) rfl rfl Tryz.underlying57 ty5 rfl (by decide) rfl ?_)); intro u3 w a hM hE
 refine Ze hE Za (dl rfl) rfl ?_; intro a hE
 refine Zf (wp_seq (Zc (Ze hE Za (dl rfl) rfl ?_))); intro a hE
 refine Zf ?_
 obtain ⟨j5, hl6, hF7⟩ := bind_some hF
 refine ZS (fun a w => ∃ (u8 : Value), Env 17 a [(3, u8)] ∧ M (Old w0) w0 w [osl NoB (j5 : List UInt8) u8]) ?_ ?_
 ·skip
  refine wp_block ?_
  have hM := hM.pull (pre := [_])
  refine ZL (fun (s10 : (List UInt8) × Int) a w => ∃ (u11 : Value), Env 17 a [(1, (ptr b1 0)), (3, u11), (4, (vI s10.2))] ∧ M (Old w0) w0 w [raw b1 (Flat.enc p0), osl NoB (s10.1 : List UInt8) u11]) hl6 ⟨u3, hE.sub ⟨rfl, rfl, rfl, trivial⟩, hM⟩ ?_
  rintro s10 a w ⟨u11, hE, hM⟩ o15 hs13 hx14
  unfold WW at hs13
  refine wp_seq (Zc (Zd hE Za (dl rfl) rfl ?_)); intro a hE
  refine Zh hE Za (dl rfl) rfl rfl rfl ?_; intro a hE
  refine Zf ?_
  refine Zw hE rfl ?_ ?_
  ·intro hb16
   have hs13 := ZD hs13 hb16
   refine wp_skip (Zz (wp_seq (wp_block (wp_region_lit (Zd hE Za (dl rfl) rfl ?_))))); intro a hE
   refine Zd hE Za (dl rfl) rfl ?_; intro a hE
   obtain ⟨x18, e19, hs13⟩ := bind_some hs13
   have hi17 := Zi e19
   refine Zo hE Za (dl rfl) rfl rfl Tryz.underlying29 ty5 hi17.1 ?_; intro a hE
   refine Zq (v := (vB x18)) hE Za (dl rfl) rfl ty5 rfl (At.vec (hM.rawAt (pre := [])) hi17.2) ?_; intro a hE
   refine Ye (xs := [.tmp 13]) (l := ([x18] : List UInt8)) (vs := [(vB x18)]) hE hM Za (dl rfl) rfl rfl Tryz.underlying57 ty5 rfl (by decide) rfl ?_; intro u20 w a hM hE
   obtain ⟨l22, e23, hs13⟩ := bind_some hs13
   obtain ⟨e26, rfl⟩ := Yu e23
   have hM := hM.pull (pre := [_, _])
   refine Yj hE hM Za (dl rfl) rfl rfl (hM.sl (pre := [_]) noB) Tryz.underlying57 ty5 rfl (by decide) e26 ?_; intro u24 w a hM hE
   refine Ze hE Za (dl rfl) rfl ?_; intro a hE
   refine Zk (Yl (Zz (wp_region_lit (Zd hE Za (dl rfl) rfl ?_)))); intro a hE
   refine Zh hE Za (dl rfl) rfl rfl rfl ?_; intro a hE
   refine Ze hE Za (dl rfl) rfl ?_; intro a hE
   refine Zk (Zn ?_)
   have hM := hM.pull (pre := [_, _])
   have hM := M.fst (l := [_, _]) hM
   exact ⟨_, (Option.some.inj hs13).symm, u24, hE.sub ⟨rfl, rfl, rfl, trivial⟩, hM⟩
  ·intro hb16
   have hs13 := ZC hs13 hb16
   refine wp_exit (Zr (Zr (Yk ?_)))
   have ht27 := hx14 _ (Option.some.inj hs13).symm
   subst ht27
   refine Zn ?_
   have hM := hM.pull (pre := [_])
   have hM := M.fst (l := [_]) hM
   exact ⟨u11, hE.sub ⟨rfl, trivial⟩, hM⟩
 ·skip
  rintro a w ⟨u8, hE, hM⟩
  refine Zz (Zc (Zd hE Za (dl rfl) rfl ?_)); intro a hE
  refine Ze hE Za (dl rfl) rfl ?_; intro a hE
  refine Zf ?_
  have hr := Option.some.inj hF7
  subst hr
  exact wp_ret (Zy hE rfl (Zu hE rfl) ⟨_, rfl, u8, rfl, hM.outF (Vm W2), hM.kept⟩)
noncomputable def VQ (p0 : GCipher) (p1 : (Vector UInt8 16)) (p2 : (List UInt8)) : Option ((Vector UInt8 32)) :=
 (XS p1 90).bind fun r8 => (app 1 r8 p2).bind fun l11 => (Ur p0 (r8 ++ p2)).bind fun r16 => ((XS p1 165).bind fun r26 => (VF r16).bind fun r29 => (app 1 r26 r29).bind fun l32 => (Ur p0 (r26 ++ r29)).bind fun r37 => some r37 : Option ((Vector UInt8 32))).bind fun j22 => some j22
theorem c_spec_l08Tag (w0 : World) (p0 : GCipher) (p1 : (Vector UInt8 16)) (p2 : (List UInt8)) (v2_1 : Value) (hv2_1 : Ro w0 p2 [v2_1]) (r : (Vector UInt8 32)) (hF : VQ p0 p1 p2 = some r) :
  Calls Tryz.prog 132 [(Value.agg (Flat.enc p0).toArray), (Value.agg (Flat.enc p1).toArray), v2_1].toArray w0 (fun en w' => ∃ v, en = .returned v ∧ (v = (Value.agg (Flat.enc r).toArray) ∧ Kept (Old w0) w0 w')) := by
 refine ZA (n := 21) Tryz.func132 rfl rfl (Nat.le_of_ble_eq_true rfl) rfl ?_
 intro a hE
 have hM := M.start w0
 unfold VQ at hF
 refine Zc (ZV (cs := cat [[(vI p0.Field)], Flat.enc p0.Box, Flat.enc p0.Mix, Flat.enc p0.Places, [(vI p0.Rounds)]]) hE hM Za (dl rfl) rfl rfl ?_); intro b1 w a hM hE
 refine ZV (cs := Flat.enc p1) hE hM Za (dl rfl) rfl rfl ?_; intro b3 w a hM hE
 refine ZE hE hM Za (dl rfl) Z9 ?_; intro b5 w a hM hE
 refine Zf (wp_seq ?_)
 obtain ⟨r8, e9, hF⟩ := bind_some hF
 obtain ⟨l11, e12, hF⟩ := bind_some hF
 obtain ⟨r16, e17, hF⟩ := bind_some hF
 refine UM (n := 21) (hd := [_, _, _, _, _, _, _]) (tl := [_]) YU rfl rfl [8, 9, 10, 11, 12, 13, 7] (by decide) (fun D u w => M (Old w0) w0 w ([raw b5 (Flat.enc (Vector.replicate 32 (0 : UInt8))), raw b3 (Flat.enc p1), raw b1 (cat [[(vI p0.Field)], Flat.enc p0.Box, Flat.enc p0.Mix, Flat.enc p0.Places, [(vI p0.Rounds)]])] ++ qL ([mkP 2 4 (fun v => osl NoB (r8 : List UInt8) v) (fun v => osl NoB ((r8 ++ p2) : List UInt8) v), mkO 6 (fun v => rawP v (Flat.enc (Vector.replicate 32 (0 : UInt8))))] : Mk) D u) ∧ GOk ([([], fun us v => v = (Value.agg (Flat.enc p0).toArray)), ([], fun us v => v = (Value.agg (Flat.enc p1).toArray)), ([], fun us v => True), ([], fun us v => v = v2_1), ([], fun us v => True), ([], fun us v => v = (Value.agg (Flat.enc r16).toArray)), ([], fun us v => True)] : Gs) D u) hE (fun u => ⟨M.qE (M.qE (M.q0 hM.drew u) emO) emP, gok0⟩) (ZM (Zb ?_ (Zb ?_ (Zb ?_ (Zb ?_ (Zb ?_ (Zb ?_ (Zb ?_ ZH)))))))) ?_
 ·intro a w ux7 D hE hI hD hdc hp
  have hM0 := hI.1
  have hM := hI.1
  refine Zm (cs := Flat.enc p0) hE Za (dl rfl) rfl WL rfl (hM.rawAt (pre := [_, _])) (ZB (cl1 (n := 1) (m := 289) rfl (cl1 (n := 256) (m := 33) (Flat.len _) (cl1 (n := 16) (m := 17) (Flat.len _) (cl1 (n := 16) (m := 1) (Flat.len _) (cl1 (n := 1) (m := 0) rfl cl0)))))) ?_; intro a hE
  exact ⟨_, _, rfl, hE, M.qKeep hM0 rfl, hI.2.put hD rfl ZW rfl⟩
 ·intro a w ux7 D hE hI hD hdc hp
  have hM0 := hI.1
  have hM := hI.1
  refine Zm (cs := Flat.enc p1) hE Za (dl rfl) rfl ZF rfl (hM.rawAt (pre := [_])) (Flat.len _) ?_; intro a hE
  exact ⟨_, _, rfl, hE, M.qKeep hM0 rfl, hI.2.put hD rfl ZW rfl⟩
 ·intro a w ux7 D hE hI hD hdc hp
  have d1 : D 1 = true := hp 0 _ rfl rfl
  have g1 := hI.2 1 d1 _ rfl
  have f1 : ux7 1 = (Value.agg (Flat.enc p1).toArray) := g1.2
  have hM0 := hI.1
  have hM := hI.1
  refine Zs (vs := [(Value.agg (Flat.enc p1).toArray), (vB 90)]) hE Za (dl rfl) (ZZ (ZT (lk rfl f1) (ZT rfl Y7))) cb181 (c_spec_l08Masked _ p1 90 r8 e9) ?_
  rintro _ w a ⟨_, rfl, hFr, hK⟩ hE
  have hM := hM0.add hK hFr
  have hs : D 4 = false := Bool.eq_false_iff.2 fun hx => Bool.noConfusion (hD.symm.trans (hdc 4 _ _ rfl (List.mem_of_getElem? (i := 0) rfl) rfl hx))
  exact ⟨_, _, rfl, hE, M.qFillP (mk1 := []) (mk2 := [_]) (f := (fun v => osl NoB (r8 : List UInt8) v)) (g := (fun v => osl NoB ((r8 ++ p2) : List UInt8) v)) hM rfl hD hs (by decide), hI.2.put hD rfl ZW trivial⟩
 ·intro a w ux7 D hE hI hD hdc hp
  have hM0 := hI.1
  refine Zd hE Za (dl rfl) rfl ?_; intro a hE
  exact ⟨_, _, rfl, hE, M.qKeep hM0 rfl, hI.2.put hD rfl ZW rfl⟩
 ·intro a w ux7 D hE hI hD hdc hp
  have d2 : D 2 = true := hp 0 _ rfl rfl
  have g2 := hI.2 2 d2 _ rfl
  have d3 : D 3 = true := hp 1 _ rfl rfl
  have g3 := hI.2 3 d3 _ rfl
  have f3 : ux7 3 = v2_1 := g3.2
  have hM0 := hI.1
  have hM := hI.1
  have hM := hM.prmA (pre := [_, _, _]) hD d2
  obtain ⟨e15, rfl⟩ := Yu e12
  have hM := hM.pull (pre := [_, _, _])
  refine Yj hE hM Za (dl rfl) rfl (lk rfl f3) (hM.rd hv2_1) Tryz.underlying57 ty5 rfl (by decide) e15 ?_; intro u13 w a hM hE
  exact ⟨_, _, rfl, hE, M.qApp (mk1 := []) (mk2 := [_]) (j := 2) (f := (fun v => osl NoB (r8 : List UInt8) v)) (g := (fun v => osl NoB ((r8 ++ p2) : List UInt8) v)) hM rfl, hI.2.put hD rfl ZW trivial⟩
 ·intro a w ux7 D hE hI hD hdc hp
  have d0 : D 0 = true := hp 0 _ rfl rfl
  have g0 := hI.2 0 d0 _ rfl
  have f0 : ux7 0 = (Value.agg (Flat.enc p0).toArray) := g0.2
  have d4 : D 4 = true := hp 1 _ rfl rfl
  have g4 := hI.2 4 d4 _ rfl
  have hM0 := hI.1
  have hM := hI.1
  have hM := hM.prmB (pre := [_, _, _]) d4
  refine Zs (vs := [(Value.agg (Flat.enc p0).toArray), (ux7 4)]) hE Za (dl rfl) (ZZ (ZT (lk rfl f0) (ZT rfl Y7))) cb153 (c_spec_l08Of _ p0 (r8 ++ p2) (ux7 4) (hM.sl (pre := [_, _, _]) noB) r16 e17) ?_
  rintro v w a ⟨rfl, hK⟩ hE
  exact ⟨_, _, rfl, hE, M.qKeep (hM0.keep hK) rfl, hI.2.put hD rfl ZW rfl⟩
 ·intro a w ux7 D hE hI hD hdc hp
  have hM0 := hI.1
  have hM := hI.1
  refine ZE hE hM Za (dl rfl) Z9 ?_; intro b18 w a hM hE
  have hM := hM.pack1 (it := rawP _ (Flat.enc (Vector.replicate 32 (0 : UInt8)))) (fun w w' fp ⟨b', e, k⟩ hb => ⟨b', e, Wf w w' fp k hb⟩) (fun fp k => ⟨_, rfl, k⟩)
  exact ⟨_, _, rfl, hE, M.qFill (mk1 := [_]) (mk2 := []) (f := fun v => rawP v (Flat.enc (Vector.replicate 32 (0 : UInt8)))) hM rfl hD, hI.2.put hD rfl ZW trivial⟩
 ·intro a w ux7 D hE hI hall
  have hM := hI.1
  have d0 : D 0 = true := hall 0 (by decide)
  have d1 : D 1 = true := hall 1 (by decide)
  have d2 : D 2 = true := hall 2 (by decide)
  have d3 : D 3 = true := hall 3 (by decide)
  have d4 : D 4 = true := hall 4 (by decide)
  have d5 : D 5 = true := hall 5 (by decide)
  have d6 : D 6 = true := hall 6 (by decide)
  have f0 : ux7 0 = (Value.agg (Flat.enc p0).toArray) := (hI.2 0 d0 _ rfl).2
  have f1 : ux7 1 = (Value.agg (Flat.enc p1).toArray) := (hI.2 1 d1 _ rfl).2
  have f3 : ux7 3 = v2_1 := (hI.2 3 d3 _ rfl).2
  have f5 : ux7 5 = (Value.agg (Flat.enc r16).toArray) := (hI.2 5 d5 _ rfl).2
  have hM := hM.prmB (pre := [_, _, _]) d4
  have hM := (hM.sure (pre := [_, _, _, _]) d6).pull
  obtain ⟨_, ⟨b20, f21, _⟩, _⟩ := hM.head
  have hM := hM.pack1 Wf (it := raw b20 (Flat.enc (Vector.replicate 32 (0 : UInt8)))) (fun fp ⟨b2, e2, k2⟩ => by rw [f21] at e2; simp [ptr] at e2; subst e2; exact k2)
  have hE := hE.sub (e' := [(8, (Value.agg (Flat.enc p0).toArray)), (9, (Value.agg (Flat.enc p1).toArray)), (11, v2_1), (12, (ux7 4)), (13, (Value.agg (Flat.enc r16).toArray)), (7, (ptr b20 0)), (0, (Value.agg (Flat.enc p0).toArray)), (1, (Value.agg (Flat.enc p1).toArray)), (2, v2_1), (3, (ptr b1 0)), (4, (ptr b3 0)), (6, (ptr b5 0))]) ⟨lk rfl f0, lk rfl f1, lk rfl f3, rfl, lk rfl f5, lk rfl f21, rfl, rfl, rfl, rfl, rfl, rfl, trivial⟩
  refine Zp (seg := Flat.enc r16) (cs' := Flat.enc r16) hE hM Za rfl rfl rfl Z9 (Flat.len _) (zle flq) (Flat.cell _) (Zl flq) ?_; intro w a hM hE
  refine Zk (Zz ?_)
  obtain ⟨j22, hl23, hF24⟩ := bind_some hF
  refine ZR (fun a w => Env 21 a [(6, (ptr b5 0))] ∧ M (Old w0) w0 w [raw b5 (Flat.enc j22)]) ?_ ?_
  ·skip
   obtain ⟨r26, e27, hl23⟩ := bind_some hl23
   obtain ⟨r29, e30, hl23⟩ := bind_some hl23
   obtain ⟨l32, e33, hl23⟩ := bind_some hl23
   refine UM (n := 21) (hd := [_, _, _, _, _, _]) (tl := [_, _]) YU rfl rfl [14, 15, 16, 17, 18, 19] (by decide) (fun D u w => M (Old w0) w0 w ([raw b20 (Flat.enc r16), raw b5 (Flat.enc (Vector.replicate 32 (0 : UInt8))), raw b3 (Flat.enc p1), raw b1 (cat [[(vI p0.Field)], Flat.enc p0.Box, Flat.enc p0.Mix, Flat.enc p0.Places, [(vI p0.Rounds)]]), osl NoB ((r8 ++ p2) : List UInt8) (ux7 4)] ++ qL ([mkP 2 5 (fun v => osl NoB (r26 : List UInt8) v) (fun v => osl NoB ((r26 ++ r29) : List UInt8) v), mkO 4 (fun v => osl NoB (r29 : List UInt8) v)] : Mk) D u) ∧ GOk ([([], fun us v => v = (Value.agg (Flat.enc p0).toArray)), ([], fun us v => v = (Value.agg (Flat.enc p1).toArray)), ([], fun us v => True), ([], fun us v => v = (Value.agg (Flat.enc r16).toArray)), ([], fun us v => True), ([], fun us v => True)] : Gs) D u) hE (fun u => ⟨M.qE (M.qE (M.q0 hM.drew u) emO) emP, gok0⟩) (ZM (Zb ?_ (Zb ?_ (Zb ?_ (Zb ?_ (Zb ?_ (Zb ?_ ZH))))))) ?_
   ·intro a w ux25 D hE hI hD hdc hp
    have hM0 := hI.1
    have hM := hI.1
    refine Zm (cs := Flat.enc p0) hE Za (dl rfl) rfl WL rfl (hM.rawAt (pre := [_, _, _])) (ZB (cl1 (n := 1) (m := 289) rfl (cl1 (n := 256) (m := 33) (Flat.len _) (cl1 (n := 16) (m := 17) (Flat.len _) (cl1 (n := 16) (m := 1) (Flat.len _) (cl1 (n := 1) (m := 0) rfl cl0)))))) ?_; intro a hE
    exact ⟨_, _, rfl, hE, M.qKeep hM0 rfl, hI.2.put hD rfl ZW rfl⟩
   ·intro a w ux25 D hE hI hD hdc hp
    have hM0 := hI.1
    have hM := hI.1
    refine Zm (cs := Flat.enc p1) hE Za (dl rfl) rfl ZF rfl (hM.rawAt (pre := [_, _])) (Flat.len _) ?_; intro a hE
    exact ⟨_, _, rfl, hE, M.qKeep hM0 rfl, hI.2.put hD rfl ZW rfl⟩
   ·intro a w ux25 D hE hI hD hdc hp
    have d1 : D 1 = true := hp 0 _ rfl rfl
    have g1 := hI.2 1 d1 _ rfl
    have f1 : ux25 1 = (Value.agg (Flat.enc p1).toArray) := g1.2
    have hM0 := hI.1
    have hM := hI.1
    refine Zs (vs := [(Value.agg (Flat.enc p1).toArray), (vB 165)]) hE Za (dl rfl) (ZZ (ZT (lk rfl f1) (ZT rfl Y7))) cb181 (c_spec_l08Masked _ p1 165 r26 e27) ?_
    rintro _ w a ⟨_, rfl, hFr, hK⟩ hE
    have hM := hM0.add hK hFr
    have hs : D 5 = false := Bool.eq_false_iff.2 fun hx => Bool.noConfusion (hD.symm.trans (hdc 5 _ _ rfl (List.mem_of_getElem? (i := 0) rfl) rfl hx))
    exact ⟨_, _, rfl, hE, M.qFillP (mk1 := []) (mk2 := [_]) (f := (fun v => osl NoB (r26 : List UInt8) v)) (g := (fun v => osl NoB ((r26 ++ r29) : List UInt8) v)) hM rfl hD hs (by decide), hI.2.put hD rfl ZW trivial⟩
   ·intro a w ux25 D hE hI hD hdc hp
    have hM0 := hI.1
    have hM := hI.1
    refine Zm (cs := Flat.enc r16) hE Za (dl rfl) rfl Z9 rfl (hM.rawAt (pre := [])) (Flat.len _) ?_; intro a hE
    exact ⟨_, _, rfl, hE, M.qKeep hM0 rfl, hI.2.put hD rfl ZW rfl⟩
   ·intro a w ux25 D hE hI hD hdc hp
    have d3 : D 3 = true := hp 0 _ rfl rfl
    have g3 := hI.2 3 d3 _ rfl
    have f3 : ux25 3 = (Value.agg (Flat.enc r16).toArray) := g3.2
    have hM0 := hI.1
    have hM := hI.1
    refine Zs (vs := [(Value.agg (Flat.enc r16).toArray)]) hE Za (dl rfl) (ZZ (ZT (lk rfl f3) Y7)) cb182 (c_spec_l08Bytes _ r16 r29 e30) ?_
    rintro _ w a ⟨_, rfl, hFr, hK⟩ hE
    have hM := hM0.add hK hFr
    exact ⟨_, _, rfl, hE, M.qFill (mk1 := [_]) (mk2 := []) (f := (fun v => osl NoB (r29 : List UInt8) v)) hM rfl hD, hI.2.put hD rfl ZW trivial⟩
   ·intro a w ux25 D hE hI hD hdc hp
    have d2 : D 2 = true := hp 0 _ rfl rfl
    have g2 := hI.2 2 d2 _ rfl
    have d4 : D 4 = true := hp 1 _ rfl rfl
    have g4 := hI.2 4 d4 _ rfl
    have hM0 := hI.1
    have hM := hI.1
    have hM := hM.prmA (pre := [_, _, _, _, _]) hD d2
    have hM := hM.sure (pre := [_, _, _, _, _, _]) d4
    obtain ⟨e36, rfl⟩ := Yu e33
    have hM := hM.pull (pre := [_, _, _, _, _])
    refine Yj hE hM Za (dl rfl) rfl rfl (hM.sl (pre := [_, _, _, _, _, _]) noB) Tryz.underlying57 ty5 rfl (by decide) e36 ?_; intro u34 w a hM hE
    have hM := hM.unsure (pre := [_, _, _, _, _, _]) d4
    exact ⟨_, _, rfl, hE, M.qApp (mk1 := []) (mk2 := [_]) (j := 2) (f := (fun v => osl NoB (r26 : List UInt8) v)) (g := (fun v => osl NoB ((r26 ++ r29) : List UInt8) v)) hM rfl, hI.2.put hD rfl ZW trivial⟩
   ·intro a w ux25 D hE hI hall
    have hM := hI.1
    have d0 : D 0 = true := hall 0 (by decide)
    have d1 : D 1 = true := hall 1 (by decide)
    have d2 : D 2 = true := hall 2 (by decide)
    have d3 : D 3 = true := hall 3 (by decide)
    have d4 : D 4 = true := hall 4 (by decide)
    have d5 : D 5 = true := hall 5 (by decide)
    have f0 : ux25 0 = (Value.agg (Flat.enc p0).toArray) := (hI.2 0 d0 _ rfl).2
    have f1 : ux25 1 = (Value.agg (Flat.enc p1).toArray) := (hI.2 1 d1 _ rfl).2
    have f3 : ux25 3 = (Value.agg (Flat.enc r16).toArray) := (hI.2 3 d3 _ rfl).2
    have hM := hM.prmB (pre := [_, _, _, _, _]) d5
    have hM := hM.sure (pre := [_, _, _, _, _, _]) d4
    have hE := hE.sub (e' := [(14, (Value.agg (Flat.enc p0).toArray)), (15, (Value.agg (Flat.enc p1).toArray)), (17, (Value.agg (Flat.enc r16).toArray)), (18, (ux25 4)), (19, (ux25 5)), (0, (Value.agg (Flat.enc p0).toArray)), (1, (Value.agg (Flat.enc p1).toArray)), (2, v2_1), (3, (ptr b1 0)), (4, (ptr b3 0)), (6, (ptr b5 0)), (7, (ptr b20 0)), (8, (Value.agg (Flat.enc p0).toArray)), (9, (Value.agg (Flat.enc p1).toArray)), (11, v2_1), (12, (ux7 4)), (13, (Value.agg (Flat.enc r16).toArray))]) ⟨lk rfl f0, lk rfl f1, lk rfl f3, rfl, rfl, rfl, rfl, rfl, rfl, rfl, rfl, rfl, rfl, rfl, rfl, rfl, rfl, trivial⟩
    obtain ⟨r37, e38, hl23⟩ := bind_some hl23
    refine Zs (vs := [(Value.agg (Flat.enc p0).toArray), (ux25 5)]) hE Za (dl rfl) rfl cb153 (c_spec_l08Of _ p0 (r26 ++ r29) (ux25 5) (hM.sl (pre := [_, _, _, _, _]) noB) r37 e38) ?_
    rintro v w a ⟨rfl, hK⟩ hE
    have hM := hM.keep hK
    have hM := hM.pull (pre := [_])
    refine Zp (seg := Flat.enc r37) (cs' := Flat.enc r37) hE hM Za rfl rfl rfl Z9 (Flat.len _) (zle flq) (Flat.cell _) (Zl flq) ?_; intro w a hM hE
    refine Zk ?_
    have ht39 := Option.some.inj hl23
    subst ht39
    refine Zn ?_
    have hM := M.fst (l := [_]) hM
    exact ⟨hE.sub ⟨rfl, trivial⟩, hM⟩
  ·skip
   rintro a w ⟨hE, hM⟩
   have hr := Option.some.inj hF24
   subst hr
   have hq40 : Yq Tryz.prog _ _ (.cell 6 29) _ := ZQ hE rfl Z9 rfl (hM.rawAt (pre := [])) (Flat.len _) rfl
   have hM := M.fst (l := []) hM
   exact wp_ret (Zy hE rfl hq40 ⟨_, rfl, rfl, hM.kept⟩)
noncomputable def UF (p0 : GVault) (p1 : GRecord) : Option ((Vector UInt8 32)) :=
 ((V7 p1.Number).bind fun r13 => (app 1 r13 ([Zx p1.Version] : List UInt8)).bind fun l18 => some (r13 ++ ([Zx p1.Version] : List UInt8)) : Option ((List UInt8))).bind fun j7 => (WT ([p1.Nonce] : List (Vector UInt8 16))).bind fun r26 => (app 1 j7 r26).bind fun l29 => (app 1 (j7 ++ r26) ([Zx (p1.Label.length : Int)] : List UInt8)).bind fun l36 => (app 1 ((j7 ++ r26) ++ ([Zx (p1.Label.length : Int)] : List UInt8)) p1.Label).bind fun l41 => (app 1 (((j7 ++ r26) ++ ([Zx (p1.Label.length : Int)] : List UInt8)) ++ p1.Label) p1.Body).bind fun l46 => ((Vd).bind fun r55 => (idx p0.Keys p1.Version).bind fun x57 => (WE x57 129).bind fun r60 => (VQ r55 r60 ((((j7 ++ r26) ++ ([Zx (p1.Label.length : Int)] : List UInt8)) ++ p1.Label) ++ p1.Body)).bind fun r62 => some r62 : Option ((Vector UInt8 32))).bind fun j51 => some j51
theorem c_spec_l12Tag (w0 : World) (p0 : GVault) (v0_1 : Value) (hv0_1 : Ro w0 p0.Keys [v0_1]) (v0_2 : Value) (hv0_2 : Ro w0 p0.Records [v0_2]) (v0_3 : Value) (hv0_3 : Ro w0 p0.Events [v0_3]) (p1 : GRecord) (v1_1 : Value) (hv1_1 : Ro w0 p1.Label [v1_1]) (v1_2 : Value) (hv1_2 : Ro w0 p1.Body [v1_2]) (r : (Vector UInt8 32)) (hF : UF p0 p1 = some r) :
  Calls Tryz.prog 55 [(Value.agg (cat [[v0_1], [(vI p0.Next)], [v0_2], [v0_3], Flat.enc p0.Head]).toArray), (Value.agg (cat [[(vI p1.Number)], [(vI p1.Version)], Flat.enc p1.Nonce, [v1_1], [v1_2], Flat.enc p1.Tag]).toArray)].toArray w0 (fun en w' => ∃ v, en = .returned v ∧ (v = (Value.agg (Flat.enc r).toArray) ∧ Kept (Old w0) w0 w')) := by
 refine ZA (n := 45) Tryz.func55 rfl rfl (Nat.le_of_ble_eq_true rfl) rfl ?_
 intro a hE
 have hM := M.start w0
 unfold UF at hF
 refine Zc (ZV (cs := cat [[v0_1], [(vI p0.Next)], [v0_2], [v0_3], Flat.enc p0.Head]) hE hM Za (dl rfl) rfl rfl ?_); intro b1 w a hM hE
 refine ZV (cs := cat [[(vI p1.Number)], [(vI p1.Version)], Flat.enc p1.Nonce, [v1_1], [v1_2], Flat.enc p1.Tag]) hE hM Za (dl rfl) rfl rfl ?_; intro b3 w a hM hE
 refine ZE hE hM Za (dl rfl) Z9 ?_; intro b5 w a hM hE
 refine Zf ?_
 obtain ⟨j7, hl8, hF9⟩ := bind_some hF
 refine ZR (fun a w => ∃ (u10 : Value), Env 45 a [(2, (ptr b1 0)), (3, (ptr b3 0)), (4, (ptr b5 0)), (5, u10)] ∧ M (Old w0) w0 w [raw b5 (Flat.enc (Vector.replicate 32 (0 : UInt8))), raw b3 (cat [[(vI p1.Number)], [(vI p1.Version)], Flat.enc p1.Nonce, [v1_1], [v1_2], Flat.enc p1.Tag]), raw b1 (cat [[v0_1], [(vI p0.Next)], [v0_2], [v0_3], Flat.enc p0.Head]), osl NoB (j7 : List UInt8) u10]) ?_ ?_
 ·skip
  obtain ⟨r13, e14, hl8⟩ := bind_some hl8
  refine c_draw2 (n := 45) (hd := [_, _, _, _, _, _, _]) (tl := [_, _]) (its := [raw b5 (Flat.enc (Vector.replicate 32 (0 : UInt8))), raw b3 (cat [[(vI p1.Number)], [(vI p1.Version)], Flat.enc p1.Nonce, [v1_1], [v1_2], Flat.enc p1.Tag]), raw b1 (cat [[v0_1], [(vI p0.Next)], [v0_2], [v0_3], Flat.enc p0.Head])]) YU rfl rfl [6, 7, 8, 9, 10, 11, 12] (by decide) [(2, fun v => osl NoB (r13 : List UInt8) v), (6, fun v => osl NoB (([Zx p1.Version] : List UInt8) : List UInt8) v)] rfl (fun j => ([fun v => v = (ptr b3 (0 + 0)), fun v => v = (vI p1.Number), fun v => True, fun v => v = (ptr b3 (0 + 1)), fun v => v = (vI p1.Version), fun v => v = (vB (Zx p1.Version)), fun v => True] : List (Value → Prop)).getD j (fun _ => True)) hE hM.drew (ZM (Zb ?_ (Zb ?_ (Zb ?_ (Zb ?_ (Zb ?_ (Zb ?_ (Zb ?_ ZH)))))))) ?_
  ·intro a w ux12 D hE hM hD hp
   have hM0 := hM
   refine Zg hE Za (dl rfl) rfl (UQ) ?_; intro a hE
   exact ⟨_, _, rfl, hE, rfl, hM0.optKeep rfl⟩
  ·intro a w ux12 D hE hM hD hp
   have f0 : ux12 0 = (ptr b3 (0 + 0)) := (hp 0 _ rfl rfl).2
   have hM0 := hM
   have hM : M (Old w0) w0 w [raw b5 (Flat.enc (Vector.replicate 32 (0 : UInt8))), raw b3 (cat [[(vI p1.Number)], [(vI p1.Version)], Flat.enc p1.Nonce, [v1_1], [v1_2], Flat.enc p1.Tag]), raw b1 (cat [[v0_1], [(vI p0.Next)], [v0_2], [v0_3], Flat.enc p0.Head]), opt (D 2) (osl NoB (r13 : List UInt8) (ux12 2)), opt (D 6) (osl NoB (([Zx p1.Version] : List UInt8) : List UInt8) (ux12 6))] := hM
   refine Zq (v := (vI p1.Number)) hE Za (dl rfl) (lk rfl f0) ty2 rfl (At.cat (pre := []) (hM.rawAt (pre := [_])) cl0) ?_; intro a hE
   exact ⟨_, _, rfl, hE, rfl, hM0.optKeep rfl⟩
  ·intro a w ux12 D hE hM hD hp
   have f1 : ux12 1 = (vI p1.Number) := (hp 0 _ rfl rfl).2
   have hM0 := hM
   have hM : M (Old w0) w0 w [raw b5 (Flat.enc (Vector.replicate 32 (0 : UInt8))), raw b3 (cat [[(vI p1.Number)], [(vI p1.Version)], Flat.enc p1.Nonce, [v1_1], [v1_2], Flat.enc p1.Tag]), raw b1 (cat [[v0_1], [(vI p0.Next)], [v0_2], [v0_3], Flat.enc p0.Head]), opt (D 2) (osl NoB (r13 : List UInt8) (ux12 2)), opt (D 6) (osl NoB (([Zx p1.Version] : List UInt8) : List UInt8) (ux12 6))] := hM
   refine Zs (vs := [(vI p1.Number)]) hE Za (dl rfl) (ZZ (ZT (lk rfl f1) Y7)) cb130 (c_spec_l12Four _ p1.Number r13 e14) ?_
   rintro _ w a ⟨_, rfl, hFr, hK⟩ hE
   have hM := hM0.add hK hFr
   exact ⟨_, _, rfl, hE, trivial, M.optFill (mk1 := []) (mk2 := [_]) (f := (fun v => osl NoB (r13 : List UInt8) v)) hM rfl hD⟩
  ·intro a w ux12 D hE hM hD hp
   have hM0 := hM
   refine Zg hE Za (dl rfl) rfl (fd92_1) ?_; intro a hE
   exact ⟨_, _, rfl, hE, rfl, hM0.optKeep rfl⟩
  ·intro a w ux12 D hE hM hD hp
   have f3 : ux12 3 = (ptr b3 (0 + 1)) := (hp 0 _ rfl rfl).2
   have hM0 := hM
   have hM : M (Old w0) w0 w [raw b5 (Flat.enc (Vector.replicate 32 (0 : UInt8))), raw b3 (cat [[(vI p1.Number)], [(vI p1.Version)], Flat.enc p1.Nonce, [v1_1], [v1_2], Flat.enc p1.Tag]), raw b1 (cat [[v0_1], [(vI p0.Next)], [v0_2], [v0_3], Flat.enc p0.Head]), opt (D 2) (osl NoB (r13 : List UInt8) (ux12 2)), opt (D 6) (osl NoB (([Zx p1.Version] : List UInt8) : List UInt8) (ux12 6))] := hM
   refine Zq (v := (vI p1.Version)) hE Za (dl rfl) (lk rfl f3) ty2 rfl (At.cat (pre := [[(vI p1.Number)]]) (hM.rawAt (pre := [_])) (cl1 (n := 1) (m := 0) rfl cl0)) ?_; intro a hE
   exact ⟨_, _, rfl, hE, rfl, hM0.optKeep rfl⟩
  ·intro a w ux12 D hE hM hD hp
   have f4 : ux12 4 = (vI p1.Version) := (hp 0 _ rfl rfl).2
   have hM0 := hM
   refine YE hE Za (dl rfl) (lk rfl f4) Tryz.underlying2 Tryz.underlying5 ?_; intro a hE
   rw [Z4] at hE
   exact ⟨_, _, rfl, hE, rfl, hM0.optKeep rfl⟩
  ·intro a w ux12 D hE hM hD hp
   have f5 : ux12 5 = (vB (Zx p1.Version)) := (hp 0 _ rfl rfl).2
   have hM0 := hM
   have hM : M (Old w0) w0 w [raw b5 (Flat.enc (Vector.replicate 32 (0 : UInt8))), raw b3 (cat [[(vI p1.Number)], [(vI p1.Version)], Flat.enc p1.Nonce, [v1_1], [v1_2], Flat.enc p1.Tag]), raw b1 (cat [[v0_1], [(vI p0.Next)], [v0_2], [v0_3], Flat.enc p0.Head]), opt (D 2) (osl NoB (r13 : List UInt8) (ux12 2)), opt (D 6) (osl NoB (([Zx p1.Version] : List UInt8) : List UInt8) (ux12 6))] := hM
   refine Ye (xs := [.tmp 11]) (l := ([Zx p1.Version] : List UInt8)) (vs := [(vB (Zx p1.Version))]) hE hM Za (dl rfl) (ZZ (ZT (lk rfl f5) Y7)) rfl Tryz.underlying57 ty5 rfl (by decide) rfl ?_; intro u16 w a hM hE
   exact ⟨_, _, rfl, hE, trivial, M.optFill (mk1 := [_]) (mk2 := []) (f := (fun v => osl NoB (([Zx p1.Version] : List UInt8) : List UInt8) v)) hM rfl hD⟩
  ·intro a w ux12 hE hM hg
   have f0 : ux12 0 = (ptr b3 (0 + 0)) := hg 0 (by decide)
   have f1 : ux12 1 = (vI p1.Number) := hg 1 (by decide)
   have f3 : ux12 3 = (ptr b3 (0 + 1)) := hg 3 (by decide)
   have f4 : ux12 4 = (vI p1.Version) := hg 4 (by decide)
   have f5 : ux12 5 = (vB (Zx p1.Version)) := hg 5 (by decide)
   have hM : M (Old w0) w0 w [raw b5 (Flat.enc (Vector.replicate 32 (0 : UInt8))), raw b3 (cat [[(vI p1.Number)], [(vI p1.Version)], Flat.enc p1.Nonce, [v1_1], [v1_2], Flat.enc p1.Tag]), raw b1 (cat [[v0_1], [(vI p0.Next)], [v0_2], [v0_3], Flat.enc p0.Head]), osl NoB (r13 : List UInt8) (ux12 2), osl NoB (([Zx p1.Version] : List UInt8) : List UInt8) (ux12 6)] := hM
   have hE := hE.sub (e' := [(6, (ptr b3 (0 + 0))), (7, (vI p1.Number)), (8, (ux12 2)), (9, (ptr b3 (0 + 1))), (10, (vI p1.Version)), (11, (vB (Zx p1.Version))), (12, (ux12 6)), (0, (Value.agg (cat [[v0_1], [(vI p0.Next)], [v0_2], [v0_3], Flat.enc p0.Head]).toArray)), (1, (Value.agg (cat [[(vI p1.Number)], [(vI p1.Version)], Flat.enc p1.Nonce, [v1_1], [v1_2], Flat.enc p1.Tag]).toArray)), (2, (ptr b1 0)), (3, (ptr b3 0)), (4, (ptr b5 0))]) ⟨lk rfl f0, lk rfl f1, rfl, lk rfl f3, lk rfl f4, lk rfl f5, rfl, rfl, rfl, rfl, rfl, rfl, trivial⟩
   obtain ⟨l18, e19, hl8⟩ := bind_some hl8
   obtain ⟨e22, rfl⟩ := Yu e19
   have hM := hM.pull (pre := [_, _, _])
   refine Yj hE hM Za (dl rfl) rfl rfl (hM.sl (pre := [_, _, _, _]) noB) Tryz.underlying57 ty5 rfl (by decide) e22 ?_; intro u20 w a hM hE
   refine Ze hE Za (dl rfl) rfl ?_; intro a hE
   refine Zk ?_
   have ht23 := Option.some.inj hl8
   subst ht23
   refine Zn ?_
   have hM := hM.pull (pre := [_, _, _])
   have hM := hM.pull (pre := [_, _, _])
   have hM := hM.pull (pre := [_, _, _])
   have hM := M.fst (l := [_, _, _, _]) hM
   exact ⟨u20, hE.sub ⟨rfl, rfl, rfl, rfl, trivial⟩, hM⟩
 ·skip
  rintro a w ⟨u10, hE, hM⟩
  refine Zc (Zd hE Za (dl rfl) rfl ?_); intro a hE
  refine Zg hE Za (dl rfl) rfl (fd92_2) ?_; intro a hE
  refine Zm (cs := Flat.enc p1.Nonce) hE Za (dl rfl) rfl ZF rfl (At.cat (pre := [[(vI p1.Number)], [(vI p1.Version)]]) (hM.rawAt (pre := [_])) (cl1 (n := 1) (m := 1) rfl (cl1 (n := 1) (m := 0) rfl cl0))) (Flat.len _) ?_; intro a hE
  refine Ye (xs := [.tmp 16]) (l := ([p1.Nonce] : List (Vector UInt8 16))) (vs := [(Value.agg (Flat.enc p1.Nonce).toArray)]) hE hM Za (dl rfl) rfl rfl Tryz.underlying32 ZF rfl (by decide) rfl ?_; intro u24 w a hM hE
  obtain ⟨r26, e27, hF9⟩ := bind_some hF9
  refine Zs (vs := [u24]) hE Za (dl rfl) rfl cb131 (c_spec_l01Data _ ([p1.Nonce] : List (Vector UInt8 16)) u24 (hM.sl (pre := []) noB) r26 e27) ?_
  rintro u28 w a ⟨_, rfl, hFr, hK⟩ hE
  have hM := hM.add hK hFr
  obtain ⟨l29, e30, hF9⟩ := bind_some hF9
  obtain ⟨e33, rfl⟩ := Yu e30
  have hM := hM.pull (pre := [_, _, _, _, _])
  refine Yj hE hM Za (dl rfl) rfl rfl (hM.sl (pre := [_]) noB) Tryz.underlying57 ty5 rfl (by decide) e33 ?_; intro u31 w a hM hE
  refine Ze hE Za (dl rfl) rfl ?_; intro a hE
  refine Zf (Zc (Zd hE Za (dl rfl) rfl ?_)); intro a hE
  refine Zg hE Za (dl rfl) rfl (fd92_3) ?_; intro a hE
  refine Zq (v := v1_1) hE Za (dl rfl) rfl Uw rfl (At.cat (pre := [[(vI p1.Number)], [(vI p1.Version)], Flat.enc p1.Nonce]) (hM.rawAt (pre := [_, _, _, _])) (cl1 (n := 1) (m := 17) rfl (cl1 (n := 1) (m := 16) rfl (cl1 (n := 16) (m := 0) (Flat.len _) cl0)))) ?_; intro a hE
  refine Yb hE Za (dl rfl) rfl Tryz.underlying57 (hM.rd hv1_1) ?_; intro a hE
  refine YE hE Za (dl rfl) rfl Tryz.underlying3 Tryz.underlying5 ?_; intro a hE
  rw [Z4] at hE
  refine Ye (xs := [.tmp 24]) (l := ([Zx (p1.Label.length : Int)] : List UInt8)) (vs := [(vB (Zx (p1.Label.length : Int)))]) hE hM Za (dl rfl) rfl rfl Tryz.underlying57 ty5 rfl (by decide) rfl ?_; intro u34 w a hM hE
  obtain ⟨l36, e37, hF9⟩ := bind_some hF9
  obtain ⟨e40, rfl⟩ := Yu e37
  have hM := hM.pull (pre := [_])
  refine Yj hE hM Za (dl rfl) rfl rfl (hM.sl (pre := [_]) noB) Tryz.underlying57 ty5 rfl (by decide) e40 ?_; intro u38 w a hM hE
  refine Ze hE Za (dl rfl) rfl ?_; intro a hE
  refine Zf (Zc (Zd hE Za (dl rfl) rfl ?_)); intro a hE
  refine Zg hE Za (dl rfl) rfl (fd92_3) ?_; intro a hE
  refine Zq (v := v1_1) hE Za (dl rfl) rfl Uw rfl (At.cat (pre := [[(vI p1.Number)], [(vI p1.Version)], Flat.enc p1.Nonce]) (hM.rawAt (pre := [_, _, _, _, _])) (cl1 (n := 1) (m := 17) rfl (cl1 (n := 1) (m := 16) rfl (cl1 (n := 16) (m := 0) (Flat.len _) cl0)))) ?_; intro a hE
  obtain ⟨l41, e42, hF9⟩ := bind_some hF9
  obtain ⟨e45, rfl⟩ := Yu e42
  refine Yj hE hM Za (dl rfl) rfl rfl (hM.rd hv1_1) Tryz.underlying57 ty5 rfl (by decide) e45 ?_; intro u43 w a hM hE
  refine Ze hE Za (dl rfl) rfl ?_; intro a hE
  refine Zf (Zc (Zd hE Za (dl rfl) rfl ?_)); intro a hE
  refine Zg hE Za (dl rfl) rfl (fd92_4) ?_; intro a hE
  refine Zq (v := v1_2) hE Za (dl rfl) rfl Uw rfl (At.cat (pre := [[(vI p1.Number)], [(vI p1.Version)], Flat.enc p1.Nonce, [v1_1]]) (hM.rawAt (pre := [_, _, _, _, _])) (cl1 (n := 1) (m := 18) rfl (cl1 (n := 1) (m := 17) rfl (cl1 (n := 16) (m := 1) (Flat.len _) (cl1 (n := 1) (m := 0) rfl cl0))))) ?_; intro a hE
  obtain ⟨l46, e47, hF9⟩ := bind_some hF9
  obtain ⟨e50, rfl⟩ := Yu e47
  refine Yj hE hM Za (dl rfl) rfl rfl (hM.rd hv1_2) Tryz.underlying57 ty5 rfl (by decide) e50 ?_; intro u48 w a hM hE
  refine Ze hE Za (dl rfl) rfl ?_; intro a hE
  refine Zf ?_
  obtain ⟨j51, hl52, hF53⟩ := bind_some hF9
  refine ZR (fun a w => Env 45 a [(4, (ptr b5 0))] ∧ M (Old w0) w0 w [raw b5 (Flat.enc j51)]) ?_ ?_
  ·skip
   obtain ⟨r55, e56, hl52⟩ := bind_some hl52
   obtain ⟨x57, e58, hl52⟩ := bind_some hl52
   have hi59 := ZY e58
   obtain ⟨r60, e61, hl52⟩ := bind_some hl52
   obtain ⟨r62, e63, hl52⟩ := bind_some hl52
   refine Yo (n := 45) (hd := [_, _, _, _, _, _, _, _, _, _]) (tl := [_]) YU rfl rfl [35, 36, 37, 38, 39, 40, 41, 42, 43, 44] (by decide) (fun w => M (Old w0) w0 w [osl NoB (((((j7 ++ r26) ++ ([Zx (p1.Label.length : Int)] : List UInt8)) ++ p1.Label) ++ p1.Body) : List UInt8) u48, osl NoB (([Zx (p1.Label.length : Int)] : List UInt8) : List UInt8) u34, osl NoB (r26 : List UInt8) u28, osl NoB (([p1.Nonce] : List (Vector UInt8 16)) : List (Vector UInt8 16)) u24, raw b5 (Flat.enc (Vector.replicate 32 (0 : UInt8))), raw b3 (cat [[(vI p1.Number)], [(vI p1.Version)], Flat.enc p1.Nonce, [v1_1], [v1_2], Flat.enc p1.Tag]), raw b1 (cat [[v0_1], [(vI p0.Next)], [v0_2], [v0_3], Flat.enc p0.Head])]) (fun j => ([fun v _ => v = (Value.agg (Flat.enc r55).toArray), fun v _ => v = (ptr b1 (0 + 0)), fun v _ => v = v0_1, fun v _ => v = (ptr b3 (0 + 1)), fun v _ => v = (vI p1.Version), fun v _ => v = (ptr (sb v0_1) (so v0_1 + (p1.Version).toNat * 16)), fun v _ => v = (Value.agg (Flat.enc x57).toArray), fun v _ => v = (Value.agg (Flat.enc r60).toArray), fun v _ => v = u48, fun v _ => v = (Value.agg (Flat.enc r62).toArray)] : List (Value → World → Prop)).getD j (fun _ _ => True)) (fun _ _ h hk => h.keep hk) (gup (Zj (Zj (Zj (Zj (Zj (Zj (Zj (Zj (Zj (Zj Vq))))))))))) hE hM.drew (ZM (Zb ?_ (Zb ?_ (Zb ?_ (Zb ?_ (Zb ?_ (Zb ?_ (Zb ?_ (Zb ?_ (Zb ?_ (Zb ?_ ZH))))))))))) ?_
   ·intro a w ux54 hE hM hp
    refine Zs (vs := []) hE Za (dl rfl) rfl cb133 (c_spec_l12Cipher _  r55 e56) ?_
    rintro v w a ⟨rfl, hK⟩ hE
    exact ⟨hK, _, _, rfl, hE, rfl⟩
   ·intro a w ux54 hE hM hp
    refine Zg hE Za (dl rfl) rfl (fd36_0) ?_; intro a hE
    exact ⟨Kept.refl _ _, _, _, rfl, hE, rfl⟩
   ·intro a w ux54 hE hM hp
    have f1 : ux54 1 = (ptr b1 (0 + 0)) := hp 0 _ rfl rfl
    refine Zq (v := v0_1) hE Za (dl rfl) (lk rfl f1) ty32 rfl (At.cat (pre := []) (hM.rawAt (pre := [_, _, _, _, _, _])) cl0) ?_; intro a hE
    exact ⟨Kept.refl _ _, _, _, rfl, hE, rfl⟩
   ·intro a w ux54 hE hM hp
    refine Zg hE Za (dl rfl) rfl (fd92_1) ?_; intro a hE
    exact ⟨Kept.refl _ _, _, _, rfl, hE, rfl⟩
   ·intro a w ux54 hE hM hp
    have f3 : ux54 3 = (ptr b3 (0 + 1)) := hp 0 _ rfl rfl
    refine Zq (v := (vI p1.Version)) hE Za (dl rfl) (lk rfl f3) ty2 rfl (At.cat (pre := [[(vI p1.Number)]]) (hM.rawAt (pre := [_, _, _, _, _])) (cl1 (n := 1) (m := 0) rfl cl0)) ?_; intro a hE
    exact ⟨Kept.refl _ _, _, _, rfl, hE, rfl⟩
   ·intro a w ux54 hE hM hp
    have f2 : ux54 2 = v0_1 := hp 0 _ rfl rfl
    have f4 : ux54 4 = (vI p1.Version) := hp 1 _ rfl rfl
    refine ZX hE Za (dl rfl) (lk rfl f2) (lk rfl f4) Tryz.underlying32 ZF (hM.rd hv0_1) hi59.1 ?_; intro a hE
    exact ⟨Kept.refl _ _, _, _, rfl, hE, rfl⟩
   ·intro a w ux54 hE hM hp
    have f5 : ux54 5 = (ptr (sb v0_1) (so v0_1 + (p1.Version).toNat * 16)) := hp 0 _ rfl rfl
    refine Zm (cs := Flat.enc x57) hE Za (dl rfl) (lk rfl f5) ZF rfl (Wh (hM.rd hv0_1) hi59.2) (Flat.len _) ?_; intro a hE
    exact ⟨Kept.refl _ _, _, _, rfl, hE, rfl⟩
   ·intro a w ux54 hE hM hp
    have f6 : ux54 6 = (Value.agg (Flat.enc x57).toArray) := hp 0 _ rfl rfl
    refine Zs (vs := [(Value.agg (Flat.enc x57).toArray), (vB 129)]) hE Za (dl rfl) (ZZ (ZT (lk rfl f6) (ZT rfl Y7))) cb134 (c_spec_l12Changed _ x57 129 r60 e61) ?_
    rintro v w a ⟨rfl, hK⟩ hE
    exact ⟨hK, _, _, rfl, hE, rfl⟩
   ·intro a w ux54 hE hM hp
    refine Zd hE Za (dl rfl) rfl ?_; intro a hE
    exact ⟨Kept.refl _ _, _, _, rfl, hE, rfl⟩
   ·intro a w ux54 hE hM hp
    have f0 : ux54 0 = (Value.agg (Flat.enc r55).toArray) := hp 0 _ rfl rfl
    have f7 : ux54 7 = (Value.agg (Flat.enc r60).toArray) := hp 1 _ rfl rfl
    have f8 : ux54 8 = u48 := hp 2 _ rfl rfl
    refine Zs (vs := [(Value.agg (Flat.enc r55).toArray), (Value.agg (Flat.enc r60).toArray), u48]) hE Za (dl rfl) (ZZ (ZT (lk rfl f0) (ZT (lk rfl f7) (ZT (lk rfl f8) Y7)))) cb132 (c_spec_l08Tag _ r55 r60 ((((j7 ++ r26) ++ ([Zx (p1.Label.length : Int)] : List UInt8)) ++ p1.Label) ++ p1.Body) u48 (hM.sl (pre := []) noB) r62 e63) ?_
    rintro v w a ⟨rfl, hK⟩ hE
    exact ⟨hK, _, _, rfl, hE, rfl⟩
   ·intro a w ux54 hE hM hg
    have f0 : ux54 0 = (Value.agg (Flat.enc r55).toArray) := hg 0 (by decide)
    have f1 : ux54 1 = (ptr b1 (0 + 0)) := hg 1 (by decide)
    have f2 : ux54 2 = v0_1 := hg 2 (by decide)
    have f3 : ux54 3 = (ptr b3 (0 + 1)) := hg 3 (by decide)
    have f4 : ux54 4 = (vI p1.Version) := hg 4 (by decide)
    have f5 : ux54 5 = (ptr (sb v0_1) (so v0_1 + (p1.Version).toNat * 16)) := hg 5 (by decide)
    have f6 : ux54 6 = (Value.agg (Flat.enc x57).toArray) := hg 6 (by decide)
    have f7 : ux54 7 = (Value.agg (Flat.enc r60).toArray) := hg 7 (by decide)
    have f8 : ux54 8 = u48 := hg 8 (by decide)
    have f9 : ux54 9 = (Value.agg (Flat.enc r62).toArray) := hg 9 (by decide)
    have hE := hE.sub (e' := [(35, (Value.agg (Flat.enc r55).toArray)), (36, (ptr b1 (0 + 0))), (37, v0_1), (38, (ptr b3 (0 + 1))), (39, (vI p1.Version)), (40, (ptr (sb v0_1) (so v0_1 + (p1.Version).toNat * 16))), (41, (Value.agg (Flat.enc x57).toArray)), (42, (Value.agg (Flat.enc r60).toArray)), (43, u48), (44, (Value.agg (Flat.enc r62).toArray)), (2, (ptr b1 0)), (3, (ptr b3 0)), (4, (ptr b5 0)), (5, u48), (14, u10), (15, (ptr b3 (0 + 2))), (16, (Value.agg (Flat.enc p1.Nonce).toArray)), (17, u24), (18, u28), (19, u31), (20, u31), (21, (ptr b3 (0 + 18))), (22, v1_1), (23, (vI (p1.Label.length : Int))), (24, (vB (Zx (p1.Label.length : Int)))), (25, u34), (26, u38), (27, u38), (28, (ptr b3 (0 + 18))), (29, v1_1), (30, u43), (31, u43), (32, (ptr b3 (0 + 19))), (33, v1_2), (34, u48)]) ⟨lk rfl f0, lk rfl f1, lk rfl f2, lk rfl f3, lk rfl f4, lk rfl f5, lk rfl f6, lk rfl f7, lk rfl f8, lk rfl f9, rfl, rfl, rfl, rfl, rfl, rfl, rfl, rfl, rfl, rfl, rfl, rfl, rfl, rfl, rfl, rfl, rfl, rfl, rfl, rfl, rfl, rfl, rfl, rfl, rfl, trivial⟩
    have hM := hM.pull (pre := [_, _, _, _])
    refine Zp (seg := Flat.enc r62) (cs' := Flat.enc r62) hE hM Za rfl rfl rfl Z9 (Flat.len _) (zle flq) (Flat.cell _) (Zl flq) ?_; intro w a hM hE
    refine Zk ?_
    have ht64 := Option.some.inj hl52
    subst ht64
    refine Zn ?_
    have hM := M.fst (l := [_]) hM
    exact ⟨hE.sub ⟨rfl, trivial⟩, hM⟩
  ·skip
   rintro a w ⟨hE, hM⟩
   have hr := Option.some.inj hF53
   subst hr
   have hq65 : Yq Tryz.prog _ _ (.cell 4 29) _ := ZQ hE rfl Z9 rfl (hM.rawAt (pre := [])) (Flat.len _) rfl
   have hM := M.fst (l := []) hM
   exact wp_ret (Zy hE rfl hq65 ⟨_, rfl, rfl, hM.kept⟩)
noncomputable def X3 (p0 : GVault) (p1 : Int) : Option ((Vector UInt8 32) × Int) :=
 (U9 p0).bind fun r5 => if (!r5) = true then (some ((Vector.replicate 32 (0 : UInt8)), 1)) else ((Vw p0 p1).bind fun r9 => if (decide (r9 < 0)) = true then (some ((Vector.replicate 32 (0 : UInt8)), 4)) else (((idx p0.Records r9).bind fun x17 => (UF p0 x17).bind fun r27 => some r27 : Option ((Vector UInt8 32))).bind fun j13 => some (j13, 0)))
theorem c_spec_TagOfRecord (w0 : World) (p0 : GVault) (v0_1 : Value) (hv0_1 : Ro w0 p0.Keys [v0_1]) (v0_2 : Value) (hv0_2 : Ro w0 p0.Records [v0_2]) (v0_3 : Value) (hv0_3 : Ro w0 p0.Events [v0_3]) (p1 : Int) (r : (Vector UInt8 32) × Int) (hF : X3 p0 p1 = some r) :
  Calls Tryz.prog 13 [(Value.agg (cat [[v0_1], [(vI p0.Next)], [v0_2], [v0_3], Flat.enc p0.Head]).toArray), (vI p1)].toArray w0 (fun en w' => ∃ v, en = .returned v ∧ (v = (Value.tuple [(Value.agg (Flat.enc r.1).toArray), (vI r.2)].toArray) ∧ Kept (Old w0) w0 w')) := by
 refine ZA (n := 24) Tryz.func13 rfl rfl (Nat.le_of_ble_eq_true rfl) rfl ?_
 intro a hE
 have hM := M.start w0
 unfold X3 at hF
 refine Zc (ZV (cs := cat [[v0_1], [(vI p0.Next)], [v0_2], [v0_3], Flat.enc p0.Head]) hE hM Za (dl rfl) rfl rfl ?_); intro b1 w a hM hE
 refine ZE hE hM Za (dl rfl) Z9 ?_; intro b3 w a hM hE
 refine Ze hE Za (dl rfl) rfl ?_; intro a hE
 refine Zf (wp_seq (Zc (Zm (cs := cat [[v0_1], [(vI p0.Next)], [v0_2], [v0_3], Flat.enc p0.Head]) hE Za (dl rfl) rfl ty36 rfl (hM.rawAt (pre := [_])) (ZB (cl1 (n := 1) (m := 35) rfl (cl1 (n := 1) (m := 34) rfl (cl1 (n := 1) (m := 33) rfl (cl1 (n := 1) (m := 32) rfl (cl1 (n := 32) (m := 0) (Flat.len _) cl0)))))) ?_))); intro a hE
 obtain ⟨r5, e6, hF⟩ := bind_some hF
 refine Zs (vs := [(Value.agg (cat [[v0_1], [(vI p0.Next)], [v0_2], [v0_3], Flat.enc p0.Head]).toArray)]) hE Za (dl rfl) rfl cb53 (c_spec_l12Is _ p0 v0_1 (hM.rdo hv0_1) v0_2 (hM.rdo hv0_2) v0_3 (hM.rdo hv0_3) r5 e6) ?_
 rintro v w a ⟨rfl, hK⟩ hE
 have hM := hM.keep hK
 refine WF hE Za (dl rfl) rfl ?_; intro a hE
 refine Zf ?_
 refine Zw hE rfl ?_ ?_
 ·intro hb7
  have hF := ZD hF hb7
  refine Zc (YO (parts := []) (vs := []) (cs := Flat.enc (Vector.replicate 32 (0 : UInt8))) hE Za (dl rfl) rfl rfl Z9 rfl ty5 Yw ?_); intro a hE
  refine Zp (seg := Flat.enc (Vector.replicate 32 (0 : UInt8))) (cs' := Flat.enc (Vector.replicate 32 (0 : UInt8))) hE hM Za rfl rfl rfl Z9 (Flat.len _) (zle flq) (Flat.cell _) (Zl flq) ?_; intro w a hM hE
  refine Ze hE Za (dl rfl) rfl ?_; intro a hE
  refine Zf ?_
  have hr := Option.some.inj hF
  subst hr
  have hq8 : Yq Tryz.prog _ _ (.cell 4 29) _ := ZQ hE rfl Z9 rfl (hM.rawAt (pre := [])) (Flat.len _) rfl
  have hM := M.fst (l := []) hM
  exact wp_ret (ZG (k_ret2 hE rfl hq8 (Zu hE rfl) ⟨_, rfl, rfl, hM.kept⟩))
 ·intro hb7
  have hF := ZC hF hb7
  refine wp_skip (Zz (Zc (Zm (cs := cat [[v0_1], [(vI p0.Next)], [v0_2], [v0_3], Flat.enc p0.Head]) hE Za (dl rfl) rfl ty36 rfl (hM.rawAt (pre := [_])) (ZB (cl1 (n := 1) (m := 35) rfl (cl1 (n := 1) (m := 34) rfl (cl1 (n := 1) (m := 33) rfl (cl1 (n := 1) (m := 32) rfl (cl1 (n := 32) (m := 0) (Flat.len _) cl0)))))) ?_))); intro a hE
  refine Zd hE Za (dl rfl) rfl ?_; intro a hE
  obtain ⟨r9, e10, hF⟩ := bind_some hF
  refine Zs (vs := [(Value.agg (cat [[v0_1], [(vI p0.Next)], [v0_2], [v0_3], Flat.enc p0.Head]).toArray), (vI p1)]) hE Za (dl rfl) rfl cb54 (c_spec_l12Place _ p0 v0_1 (hM.rdo hv0_1) v0_2 (hM.rdo hv0_2) v0_3 (hM.rdo hv0_3) p1 r9 e10) ?_
  rintro v w a ⟨rfl, hK⟩ hE
  have hM := hM.keep hK
  refine Ze hE Za (dl rfl) rfl ?_; intro a hE
  refine Zf (wp_seq (Zc (Zd hE Za (dl rfl) rfl ?_))); intro a hE
  refine Zh hE Za (dl rfl) rfl rfl rfl ?_; intro a hE
  refine Zf ?_
  refine Zw hE rfl ?_ ?_
  ·intro hb11
   have hF := ZD hF hb11
   refine Zc (YO (parts := []) (vs := []) (cs := Flat.enc (Vector.replicate 32 (0 : UInt8))) hE Za (dl rfl) rfl rfl Z9 rfl ty5 Yw ?_); intro a hE
   refine Zp (seg := Flat.enc (Vector.replicate 32 (0 : UInt8))) (cs' := Flat.enc (Vector.replicate 32 (0 : UInt8))) hE hM Za rfl rfl rfl Z9 (Flat.len _) (zle flq) (Flat.cell _) (Zl flq) ?_; intro w a hM hE
   refine Ze hE Za (dl rfl) rfl ?_; intro a hE
   refine Zf ?_
   have hr := Option.some.inj hF
   subst hr
   have hq12 : Yq Tryz.prog _ _ (.cell 4 29) _ := ZQ hE rfl Z9 rfl (hM.rawAt (pre := [])) (Flat.len _) rfl
   have hM := M.fst (l := []) hM
   exact wp_ret (ZG (k_ret2 hE rfl hq12 (Zu hE rfl) ⟨_, rfl, rfl, hM.kept⟩))
  ·intro hb11
   have hF := ZC hF hb11
   refine wp_skip (Zz ?_)
   obtain ⟨j13, hl14, hF15⟩ := bind_some hF
   refine ZR (fun a w => Env 24 a [(4, (ptr b3 0)), (5, (vI 0))] ∧ M (Old w0) w0 w [raw b3 (Flat.enc j13)]) ?_ ?_
   ·skip
    obtain ⟨x17, e18, hl14⟩ := bind_some hl14
    have hi19 := ZY e18
    obtain ⟨cs20, hs21, hA22⟩ := Uf hv0_2 hi19.2 -- ^
    obtain ⟨u23, u25, rfl, h24, h26⟩ := X2 hs21 -- ^
    obtain ⟨r27, e28, hl14⟩ := bind_some hl14
    refine Yo (n := 24) (hd := [_, _, _, _, _, _, _]) (tl := [_, _]) YU rfl rfl [17, 18, 19, 20, 21, 22, 23] (by decide) (fun w => M (Old w0) w0 w [raw b3 (Flat.enc (Vector.replicate 32 (0 : UInt8))), raw b1 (cat [[v0_1], [(vI p0.Next)], [v0_2], [v0_3], Flat.enc p0.Head])]) (fun j => ([fun v _ => v = (Value.agg (cat [[v0_1], [(vI p0.Next)], [v0_2], [v0_3], Flat.enc p0.Head]).toArray), fun v _ => v = (ptr b1 (0 + 2)), fun v _ => v = v0_2, fun v _ => v = (vI r9), fun v _ => v = (ptr (sb v0_2) (so v0_2 + (r9).toNat * 52)), fun v _ => v = (Value.agg (cat [[(vI x17.Number)], [(vI x17.Version)], Flat.enc x17.Nonce, [u23], [u25], Flat.enc x17.Tag]).toArray), fun v _ => v = (Value.agg (Flat.enc r27).toArray)] : List (Value → World → Prop)).getD j (fun _ _ => True)) (fun _ _ h hk => h.keep hk) (gup (Zj (Zj (Zj (Zj (Zj (Zj (Zj Vq)))))))) hE hM.drew (ZM (Zb ?_ (Zb ?_ (Zb ?_ (Zb ?_ (Zb ?_ (Zb ?_ (Zb ?_ ZH)))))))) ?_
    ·intro a w ux16 hE hM hp
     refine Zm (cs := cat [[v0_1], [(vI p0.Next)], [v0_2], [v0_3], Flat.enc p0.Head]) hE Za (dl rfl) rfl ty36 rfl (hM.rawAt (pre := [_])) (ZB (cl1 (n := 1) (m := 35) rfl (cl1 (n := 1) (m := 34) rfl (cl1 (n := 1) (m := 33) rfl (cl1 (n := 1) (m := 32) rfl (cl1 (n := 32) (m := 0) (Flat.len _) cl0)))))) ?_; intro a hE
     exact ⟨Kept.refl _ _, _, _, rfl, hE, rfl⟩
    ·intro a w ux16 hE hM hp
     refine Zg hE Za (dl rfl) rfl (U8) ?_; intro a hE
     exact ⟨Kept.refl _ _, _, _, rfl, hE, rfl⟩
    ·intro a w ux16 hE hM hp
     have f1 : ux16 1 = (ptr b1 (0 + 2)) := hp 0 _ rfl rfl
     refine Zq (v := v0_2) hE Za (dl rfl) (lk rfl f1) ty33 rfl (At.cat (pre := [[v0_1], [(vI p0.Next)]]) (hM.rawAt (pre := [_])) (cl1 (n := 1) (m := 1) rfl (cl1 (n := 1) (m := 0) rfl cl0))) ?_; intro a hE
     exact ⟨Kept.refl _ _, _, _, rfl, hE, rfl⟩
    ·intro a w ux16 hE hM hp
     refine Zd hE Za (dl rfl) rfl ?_; intro a hE
     exact ⟨Kept.refl _ _, _, _, rfl, hE, rfl⟩
    ·intro a w ux16 hE hM hp
     have f2 : ux16 2 = v0_2 := hp 0 _ rfl rfl
     have f3 : ux16 3 = (vI r9) := hp 1 _ rfl rfl
     refine ZX hE Za (dl rfl) (lk rfl f2) (lk rfl f3) Tryz.underlying33 Ug (hM.rd hv0_2) hi19.1 ?_; intro a hE
     exact ⟨Kept.refl _ _, _, _, rfl, hE, rfl⟩
    ·intro a w ux16 hE hM hp
     have f4 : ux16 4 = (ptr (sb v0_2) (so v0_2 + (r9).toNat * 52)) := hp 0 _ rfl rfl
     refine Zm (cs := cat [[(vI x17.Number)], [(vI x17.Version)], Flat.enc x17.Nonce, [u23], [u25], Flat.enc x17.Tag]) hE Za (dl rfl) (lk rfl f4) Ug rfl (hM.atk hA22 (sl_blk hv0_2 hi19.2)) (ZB (cl1 (n := 1) (m := 51) rfl (cl1 (n := 1) (m := 50) rfl (cl1 (n := 16) (m := 34) (Flat.len _) (cl1 (n := 1) (m := 33) rfl (cl1 (n := 1) (m := 32) rfl (cl1 (n := 32) (m := 0) (Flat.len _) cl0))))))) ?_; intro a hE
     exact ⟨Kept.refl _ _, _, _, rfl, hE, rfl⟩
    ·intro a w ux16 hE hM hp
     have f0 : ux16 0 = (Value.agg (cat [[v0_1], [(vI p0.Next)], [v0_2], [v0_3], Flat.enc p0.Head]).toArray) := hp 0 _ rfl rfl
     have f5 : ux16 5 = (Value.agg (cat [[(vI x17.Number)], [(vI x17.Version)], Flat.enc x17.Nonce, [u23], [u25], Flat.enc x17.Tag]).toArray) := hp 1 _ rfl rfl
     refine Zs (vs := [(Value.agg (cat [[v0_1], [(vI p0.Next)], [v0_2], [v0_3], Flat.enc p0.Head]).toArray), (Value.agg (cat [[(vI x17.Number)], [(vI x17.Version)], Flat.enc x17.Nonce, [u23], [u25], Flat.enc x17.Tag]).toArray)]) hE Za (dl rfl) (ZZ (ZT (lk rfl f0) (ZT (lk rfl f5) Y7))) cb55 (c_spec_l12Tag _ p0 v0_1 (hM.rdo hv0_1) v0_2 (hM.rdo hv0_2) v0_3 (hM.rdo hv0_3) x17 u23 (hM.rdo h24) u25 (hM.rdo h26) r27 e28) ?_
     rintro v w a ⟨rfl, hK⟩ hE
     exact ⟨hK, _, _, rfl, hE, rfl⟩
    ·intro a w ux16 hE hM hg
     have f0 : ux16 0 = (Value.agg (cat [[v0_1], [(vI p0.Next)], [v0_2], [v0_3], Flat.enc p0.Head]).toArray) := hg 0 (by decide)
     have f1 : ux16 1 = (ptr b1 (0 + 2)) := hg 1 (by decide)
     have f2 : ux16 2 = v0_2 := hg 2 (by decide)
     have f3 : ux16 3 = (vI r9) := hg 3 (by decide)
     have f4 : ux16 4 = (ptr (sb v0_2) (so v0_2 + (r9).toNat * 52)) := hg 4 (by decide)
     have f5 : ux16 5 = (Value.agg (cat [[(vI x17.Number)], [(vI x17.Version)], Flat.enc x17.Nonce, [u23], [u25], Flat.enc x17.Tag]).toArray) := hg 5 (by decide)
     have f6 : ux16 6 = (Value.agg (Flat.enc r27).toArray) := hg 6 (by decide)
     have hE := hE.sub (e' := [(17, (Value.agg (cat [[v0_1], [(vI p0.Next)], [v0_2], [v0_3], Flat.enc p0.Head]).toArray)), (18, (ptr b1 (0 + 2))), (19, v0_2), (20, (vI r9)), (21, (ptr (sb v0_2) (so v0_2 + (r9).toNat * 52))), (22, (Value.agg (cat [[(vI x17.Number)], [(vI x17.Version)], Flat.enc x17.Nonce, [u23], [u25], Flat.enc x17.Tag]).toArray)), (23, (Value.agg (Flat.enc r27).toArray)), (0, (Value.agg (cat [[v0_1], [(vI p0.Next)], [v0_2], [v0_3], Flat.enc p0.Head]).toArray)), (1, (vI p1)), (2, (ptr b1 0)), (4, (ptr b3 0)), (5, (vI 0)), (6, (vI r9)), (7, (Value.agg (cat [[v0_1], [(vI p0.Next)], [v0_2], [v0_3], Flat.enc p0.Head]).toArray)), (8, (vT r5)), (9, (vT (!r5))), (11, (Value.agg (cat [[v0_1], [(vI p0.Next)], [v0_2], [v0_3], Flat.enc p0.Head]).toArray)), (12, (vI p1)), (13, (vI r9)), (14, (vI r9)), (15, (vT (decide (r9 < 0))))]) ⟨lk rfl f0, lk rfl f1, lk rfl f2, lk rfl f3, lk rfl f4, lk rfl f5, lk rfl f6, rfl, rfl, rfl, rfl, rfl, rfl, rfl, rfl, rfl, rfl, rfl, rfl, rfl, rfl, trivial⟩
     refine Zp (seg := Flat.enc r27) (cs' := Flat.enc r27) hE hM Za rfl rfl rfl Z9 (Flat.len _) (zle flq) (Flat.cell _) (Zl flq) ?_; intro w a hM hE
     refine Ze hE Za (dl rfl) rfl ?_; intro a hE
     refine Zk ?_
     have ht29 := Option.some.inj hl14
     subst ht29
     refine Zn ?_
     have hM := M.fst (l := [_]) hM
     exact ⟨hE.sub ⟨rfl, rfl, trivial⟩, hM⟩
   ·skip
    rintro a w ⟨hE, hM⟩
    have hr := Option.some.inj hF15
    subst hr
    have hq30 : Yq Tryz.prog _ _ (.cell 4 29) _ := ZQ hE rfl Z9 rfl (hM.rawAt (pre := [])) (Flat.len _) rfl
    have hM := M.fst (l := []) hM
    exact wp_ret (k_ret2 hE rfl hq30 (Zu hE rfl) ⟨_, rfl, rfl, hM.kept⟩)
noncomputable def Ys (p0 : (List (Vector UInt8 16))) : Option (Int) :=
 some (p0.length : Int)
theorem Xl (w0 : World) (p0 : (List (Vector UInt8 16))) (v0_1 : Value) (hv0_1 : Ro w0 p0 [v0_1]) (r : Int) (hF : Ys p0 = some r) :
  Calls Tryz.prog 112 [v0_1].toArray w0 (fun en w' => ∃ v, en = .returned v ∧ (v = (vI r) ∧ Kept (Old w0) w0 w')) := by
 refine ZA (n := 5) Tryz.func112 rfl rfl (Nat.le_of_ble_eq_true rfl) rfl ?_
 intro a hE
 have hM := M.start w0
 unfold Ys at hF
 refine Zc (Ze hE Za (dl rfl) rfl ?_); intro a hE
 refine Zf (Zc (Zd hE Za (dl rfl) rfl ?_)); intro a hE
 refine Yb hE Za (dl rfl) rfl Tryz.underlying32 (hM.rd hv0_1) ?_; intro a hE
 refine Ze hE Za (dl rfl) rfl ?_; intro a hE
 refine Zf ?_
 have hr := Option.some.inj hF
 subst hr
 exact wp_ret (Zy hE rfl (Zu hE rfl) ⟨_, rfl, rfl, hM.kept⟩)
noncomputable def YL (p0 : Int) (p1 : Int) (p2 : Int) : Option (Bool) :=
 (if (decide (p1 ≤ p0)) = true then (some (decide (p0 ≤ p2))) else (some false) : Option (Bool)).bind fun j1 => some j1
theorem YK (w0 : World) (p0 : Int) (p1 : Int) (p2 : Int) (r : Bool) (hF : YL p0 p1 p2 = some r) :
  Calls Tryz.prog 157 [(vI p0), (vI p1), (vI p2)].toArray w0 (fun en w' => ∃ v, en = .returned v ∧ (v = (vT r) ∧ Kept (Old w0) w0 w')) := by
 refine ZA (n := 15) Tryz.func157 rfl rfl (Nat.le_of_ble_eq_true rfl) rfl ?_
 intro a hE
 have hM := M.start w0
 unfold YL at hF
 refine Zc (Ze hE Za (dl rfl) rfl ?_); intro a hE
 refine Zf ?_
 obtain ⟨j1, hl2, hF3⟩ := bind_some hF
 refine ZR (fun a w => Env 15 a [(6, (vT j1))] ∧ M (Old w0) w0 w []) ?_ ?_
 ·skip
  refine wp_region_lit (Zd hE Za (dl rfl) rfl ?_); intro a hE
  refine Zd hE Za (dl rfl) rfl ?_; intro a hE
  refine Zh hE Za (dl rfl) rfl rfl rfl ?_; intro a hE
  refine Zd hE Za (dl rfl) rfl ?_; intro a hE
  refine Wj (decide (p1 ≤ p0)) (fun hb4 => ?_) (fun hb4 => ?_)
  ·have hl2 := ZD hl2 hb4
   refine Zd hE (Zv hE rfl (lkb rfl hb4)) (by decide) rfl ?_; intro a hE
   refine Zd hE (Zv hE rfl (lkb rfl hb4)) (by decide) rfl ?_; intro a hE
   refine Zh hE (Zv hE rfl (lkb rfl hb4)) (by decide) rfl rfl rfl ?_; intro a hE
   refine Ya hE Za (dl rfl) (lkb rfl hb4) rfl ?_; intro a hE
   refine Ze hE Za (dl rfl) rfl ?_; intro a hE
   refine Zk ?_
   have ht5 := Option.some.inj hl2
   subst ht5
   refine Zn ?_
   exact ⟨hE.sub ⟨rfl, trivial⟩, hM⟩
  ·have hl2 := ZC hl2 hb4
   refine Zt hE rfl (lkb rfl hb4) rfl (by decide) ?_; intro a hE
   refine Zt hE rfl (lkb rfl hb4) rfl (by decide) ?_; intro a hE
   refine Zt hE rfl (lkb rfl hb4) rfl (by decide) ?_; intro a hE
   refine YT hE Za (dl rfl) (lkb rfl hb4) rfl ?_; intro a hE
   refine Ze hE Za (dl rfl) rfl ?_; intro a hE
   refine Zk ?_
   have ht6 := Option.some.inj hl2
   subst ht6
   refine Zn ?_
   exact ⟨hE.sub ⟨rfl, trivial⟩, hM⟩
 ·skip
  rintro a w ⟨hE, hM⟩
  have hr := Option.some.inj hF3
  subst hr
  exact wp_ret (Zy hE rfl (Zu hE rfl) ⟨_, rfl, rfl, hM.kept⟩)
noncomputable def Yr (p0 : (List GEvent)) (p1 : GEvent → Option (Bool)) (s5 : Int) : Option (Fl Int (Fl Unit Int)) :=
 if (decide (s5 < (p0.length : Int))) = true then ((idx p0 s5).bind fun x10 => ((p1 x10)).bind fun r13 => if r13 = true then (some (Fl.ex (Fl.ex s5))) else (some (Fl.nx (wr (s5 + 1))))) else (some (Fl.ex (Fl.nx ())))
noncomputable def Yc (p0 : (List GEvent)) (p1 : GEvent → Option (Bool)) : Option (Int) :=
 (ZJ (Yr p0 p1) 0 : Option (Fl Unit Int)).bind fun j1 => j1.el (fun s4 => some (-1)) (fun r => some r)
theorem VR (w0 : World) (p0 : (List GEvent)) (v0_1 : Value) (hv0_1 : Ro w0 p0 [v0_1]) (p1 : GEvent → Option (Bool)) (k1 : Nat) (q1 : List Value) (hcb1 : Callable Tryz.prog k1) (hg1 : ∀ (w2 : World), Kept (Old w0) w0 w2 → ∀ (z0 : GEvent) (zr : Bool), p1 z0 = some zr → Calls Tryz.prog k1 ([(Value.agg (Flat.enc z0).toArray)] ++ q1).toArray w2 (fun en w3 => ∃ v, en = .returned v ∧ (v = (vT zr) ∧ Kept (Old w2) w2 w3))) (r : Int) (hF : Yc p0 p1 = some r) :
  Calls Tryz.prog 202 [v0_1, (Value.func (.func k1) #[] q1.toArray)].toArray w0 (fun en w' => ∃ v, en = .returned v ∧ (v = (vI r) ∧ Kept (Old w0) w0 w')) := by
 refine ZA (n := 19) Tryz.func202 rfl rfl (Nat.le_of_ble_eq_true rfl) rfl ?_
 intro a hE
 have hM := M.start w0
 unfold Yc at hF
 refine Zc (Ze hE Za (dl rfl) rfl ?_); intro a hE
 refine Zf (wp_seq (Zc (Zd hE Za (dl rfl) rfl ?_))); intro a hE
 refine Yb hE Za (dl rfl) rfl Tryz.underlying34 (hM.rd hv0_1) ?_; intro a hE
 refine Zd hE Za (dl rfl) rfl ?_; intro a hE
 refine Zf ?_
 obtain ⟨j1, hl2, hF3⟩ := bind_some hF
 refine ZS (fun a w => ∃ s4 : Unit, j1 = Fl.nx s4 ∧ Env 19 a [] ∧ M (Old w0) w0 w []) ?_ ?_
 ·skip
  refine wp_block ?_
  refine ZL (fun (s5 : Int) a w => Env 19 a [(0, v0_1), (1, (Value.func (.func k1) #[] q1.toArray)), (7, (vI (p0.length : Int))), (8, (vI s5))] ∧ M (Old w0) w0 w []) hl2 ⟨hE.sub ⟨rfl, rfl, rfl, rfl, trivial⟩, hM⟩ ?_
  rintro s5 a w ⟨hE, hM⟩ o8 hs6 hx7
  unfold Yr at hs6
  refine Zc (Zh hE Za (dl rfl) rfl rfl rfl ?_); intro a hE
  refine Zf (wp_seq ?_)
  refine Zw hE rfl ?_ ?_
  ·intro hb9
   have hs6 := ZD hs6 hb9
   refine wp_skip (Zz (wp_seq (wp_block (Zc (Zd hE Za (dl rfl) rfl ?_))))); intro a hE
   refine Ze hE Za (dl rfl) rfl ?_; intro a hE
   refine Zf (Zc (Zd hE Za (dl rfl) rfl ?_)); intro a hE
   refine Zd hE Za (dl rfl) rfl ?_; intro a hE
   refine Zd hE Za (dl rfl) rfl ?_; intro a hE
   obtain ⟨x10, e11, hs6⟩ := bind_some hs6
   have hi12 := ZY e11
   refine ZX hE Za (dl rfl) rfl rfl Tryz.underlying34 UY (hM.rd hv0_1) hi12.1 ?_; intro a hE
   refine Zm (cs := Flat.enc x10) hE Za (dl rfl) rfl UY rfl (Wh (hM.rd hv0_1) hi12.2) (ZB (cl1 (n := 1) (m := 33) rfl (cl1 (n := 1) (m := 32) rfl (cl1 (n := 32) (m := 0) (Flat.len _) cl0)))) ?_; intro a hE
   obtain ⟨r13, e14, hs6⟩ := bind_some hs6
   refine s_callv2 (vs := [(Value.agg (Flat.enc x10).toArray)]) hE Za (dl rfl) rfl rfl hcb1 (hg1 _ hM.kept x10 r13 e14) ?_
   rintro v w a ⟨rfl, hK⟩ hE
   have hM := hM.keep hK
   refine Zf ?_
   refine Zw hE rfl ?_ ?_
   ·intro hb15
    have hs6 := ZD hs6 hb15
    refine Zc (Zd hE Za (dl rfl) rfl ?_); intro a hE
    refine Ze hE Za (dl rfl) rfl ?_; intro a hE
    refine Zf ?_
    have ht16 := hx7 _ (Option.some.inj hs6).symm
    subst ht16
    have hr := Option.some.inj hF3
    subst hr
    exact wp_ret (Wg (ZG (ZG (Wg (ZG (ZG (Zy hE rfl (Zu hE rfl) ⟨_, rfl, rfl, hM.kept⟩)))))))
   ·intro hb15
    have hs6 := ZC hs6 hb15
    refine wp_skip (Yl (Zz (wp_region_lit (Zh hE Za (dl rfl) rfl rfl rfl ?_)))); intro a hE
    refine Zd hE Za (dl rfl) rfl ?_; intro a hE
    refine Zk (Zn ?_)
    exact ⟨_, (Option.some.inj hs6).symm, hE.sub ⟨rfl, rfl, rfl, rfl, trivial⟩, hM⟩
  ·intro hb9
   have hs6 := ZC hs6 hb9
   refine wp_exit (Zr (Zr (Yk ?_)))
   have ht17 := hx7 _ (Option.some.inj hs6).symm
   subst ht17
   refine Zn ?_
   exact ⟨(), rfl, hE.sub trivial, hM⟩
 ·skip
  rintro a w ⟨s4, ht, hE, hM⟩
  subst ht
  have hF3 := el_nx hF3
  refine Zz (Zc (Ze hE Za (dl rfl) rfl ?_)); intro a hE
  refine Zf ?_
  have hr := Option.some.inj hF3
  subst hr
  exact wp_ret (Zy hE rfl (Zu hE rfl) ⟨_, rfl, rfl, hM.kept⟩)
noncomputable def ZU (p0 : (List GEvent)) (p1 : GEvent → Option (Bool)) : Option (Bool) :=
 (Yc p0 p1).bind fun r1 => some (decide (r1 ≥ 0))
theorem Vj (w0 : World) (p0 : (List GEvent)) (v0_1 : Value) (hv0_1 : Ro w0 p0 [v0_1]) (p1 : GEvent → Option (Bool)) (k1 : Nat) (q1 : List Value) (hcb1 : Callable Tryz.prog k1) (hg1 : ∀ (w2 : World), Kept (Old w0) w0 w2 → ∀ (z0 : GEvent) (zr : Bool), p1 z0 = some zr → Calls Tryz.prog k1 ([(Value.agg (Flat.enc z0).toArray)] ++ q1).toArray w2 (fun en w3 => ∃ v, en = .returned v ∧ (v = (vT zr) ∧ Kept (Old w2) w2 w3))) (r : Bool) (hF : ZU p0 p1 = some r) :
  Calls Tryz.prog 170 [v0_1, (Value.func (.func k1) #[] q1.toArray)].toArray w0 (fun en w' => ∃ v, en = .returned v ∧ (v = (vT r) ∧ Kept (Old w0) w0 w')) := by
 refine ZA (n := 9) Tryz.func170 rfl rfl (Nat.le_of_ble_eq_true rfl) rfl ?_
 intro a hE
 have hM := M.start w0
 unfold ZU at hF
 refine Zc (Ze hE Za (dl rfl) rfl ?_); intro a hE
 refine Zf (Zc (Zd hE Za (dl rfl) rfl ?_)); intro a hE
 refine Zd hE Za (dl rfl) rfl ?_; intro a hE
 obtain ⟨r1, e2, hF⟩ := bind_some hF
 refine Zs (vs := [v0_1, (Value.func (.func k1) #[] q1.toArray)]) hE Za (dl rfl) rfl cb202 (VR _ p0 v0_1 (hM.rdo hv0_1) p1 k1 q1 hcb1 (fun w2 hk2 => hg1 w2 (hM.kept.trans hk2)) r1 e2) ?_
 rintro v w a ⟨rfl, hK⟩ hE
 have hM := hM.keep hK
 refine Zh hE Za (dl rfl) rfl rfl rfl ?_; intro a hE
 refine Ze hE Za (dl rfl) rfl ?_; intro a hE
 refine Zf ?_
 have hr := Option.some.inj hF
 subst hr
 exact wp_ret (Zy hE rfl (Zu hE rfl) ⟨_, rfl, rfl, hM.kept⟩)
noncomputable def UN (p0 : Int) : Option (Bool) :=
 (YL p0 0 1000000).bind fun r1 => some r1
theorem c_impl_isNumber (w0 : World) (p0 : Int) (r : Bool) (hF : UN p0 = some r) :
  Calls Tryz.prog 203 [(vI p0)].toArray w0 (fun en w' => ∃ v, en = .returned v ∧ (v = (vT r) ∧ Kept (Old w0) w0 w')) := by
 refine ZA (n := 5) Tryz.func203 rfl rfl (Nat.le_of_ble_eq_true rfl) rfl ?_
 intro a hE
 have hM := M.start w0
 unfold UN at hF
 refine Zc (Ze hE Za (dl rfl) rfl ?_); intro a hE
 refine Zf (Zc (Zd hE Za (dl rfl) rfl ?_)); intro a hE
 obtain ⟨r1, e2, hF⟩ := bind_some hF
 refine Zs (vs := [(vI p0), (vI 0), (vI 1000000)]) hE Za (dl rfl) rfl cb157 (YK _ p0 0 1000000 r1 e2) ?_
 rintro v w a ⟨rfl, hK⟩ hE
 have hM := hM.keep hK
 refine Ze hE Za (dl rfl) rfl ?_; intro a hE
 refine Zf ?_
 have hr := Option.some.inj hF
 subst hr
 exact wp_ret (Zy hE rfl (Zu hE rfl) ⟨_, rfl, rfl, hM.kept⟩)
noncomputable def V9 (p0 : GEvent) : Option (Bool) :=
 ((YL p0.Kind 1 4).bind fun r6 => if r6 = true then ((UN p0.Number).bind fun r9 => some r9) else (some false) : Option (Bool)).bind fun j3 => some j3
theorem c_impl_isEvent (w0 : World) (p0 : GEvent) (r : Bool) (hF : V9 p0 = some r) :
  Calls Tryz.prog 172 [(Value.agg (Flat.enc p0).toArray)].toArray w0 (fun en w' => ∃ v, en = .returned v ∧ (v = (vT r) ∧ Kept (Old w0) w0 w')) := by
 refine ZA (n := 11) Tryz.func172 rfl rfl (Nat.le_of_ble_eq_true rfl) rfl ?_
 intro a hE
 have hM := M.start w0
 unfold V9 at hF
 refine Zc (ZV (cs := cat [[(vI p0.Kind)], [(vI p0.Number)], Flat.enc p0.Tag]) hE hM Za (dl rfl) rfl rfl ?_); intro b1 w a hM hE
 refine Ze hE Za (dl rfl) rfl ?_; intro a hE
 refine Zf ?_
 obtain ⟨j3, hl4, hF5⟩ := bind_some hF
 refine ZR (fun a w => Env 11 a [(2, (vT j3))] ∧ M (Old w0) w0 w []) ?_ ?_
 ·skip
  refine wp_region_lit (Zg hE Za (dl rfl) rfl (fd146_0) ?_); intro a hE
  refine Zq (v := (vI p0.Kind)) hE Za (dl rfl) rfl ty2 rfl (At.cat (pre := []) (hM.rawAt (pre := [])) cl0) ?_; intro a hE
  obtain ⟨r6, e7, hl4⟩ := bind_some hl4
  refine Zs (vs := [(vI p0.Kind), (vI 1), (vI 4)]) hE Za (dl rfl) rfl cb157 (YK _ p0.Kind 1 4 r6 e7) ?_
  rintro v w a ⟨rfl, hK⟩ hE
  have hM := hM.keep hK
  refine Zd hE Za (dl rfl) rfl ?_; intro a hE
  refine Wj r6 (fun hb8 => ?_) (fun hb8 => ?_)
  ·have hl4 := ZD hl4 hb8
   refine Zg hE (Zv hE rfl (lkb rfl hb8)) (by decide) rfl (fd146_1) ?_; intro a hE
   refine Zq (v := (vI p0.Number)) hE (Zv hE rfl (lkb rfl hb8)) (by decide) rfl ty2 rfl (At.cat (pre := [[(vI p0.Kind)]]) (hM.rawAt (pre := [])) (cl1 (n := 1) (m := 0) rfl cl0)) ?_; intro a hE
   obtain ⟨r9, e10, hl4⟩ := bind_some hl4
   refine Zs (vs := [(vI p0.Number)]) hE (Zv hE rfl (lkb rfl hb8)) (by decide) rfl cb203 (c_impl_isNumber _ p0.Number r9 e10) ?_
   rintro v w a ⟨rfl, hK⟩ hE
   have hM := hM.keep hK
   refine Ya hE Za (dl rfl) (lkb rfl hb8) rfl ?_; intro a hE
   refine Ze hE Za (dl rfl) rfl ?_; intro a hE
   refine Zk ?_
   have ht11 := Option.some.inj hl4
   subst ht11
   refine Zn ?_
   have hM := M.fst (l := []) hM
   exact ⟨hE.sub ⟨rfl, trivial⟩, hM⟩
  ·have hl4 := ZC hl4 hb8
   refine Zt hE rfl (lkb rfl hb8) rfl (by decide) ?_; intro a hE
   refine Zt hE rfl (lkb rfl hb8) rfl (by decide) ?_; intro a hE
   refine Zt hE rfl (lkb rfl hb8) rfl (by decide) ?_; intro a hE
   refine YT hE Za (dl rfl) (lkb rfl hb8) rfl ?_; intro a hE
   refine Ze hE Za (dl rfl) rfl ?_; intro a hE
   refine Zk ?_
   have ht12 := Option.some.inj hl4
   subst ht12
   refine Zn ?_
   have hM := M.fst (l := []) hM
   exact ⟨hE.sub ⟨rfl, trivial⟩, hM⟩
 ·skip
  rintro a w ⟨hE, hM⟩
  have hr := Option.some.inj hF5
  subst hr
  exact wp_ret (Zy hE rfl (Zu hE rfl) ⟨_, rfl, rfl, hM.kept⟩)
noncomputable def Vf (p0 : GEvent) : Option (Bool) :=
 (V9 p0).bind fun r3 => some (!r3)
theorem c_impl_IsVault_1 (w0 : World) (p0 : GEvent) (r : Bool) (hF : Vf p0 = some r) :
  Calls Tryz.prog 171 [(Value.agg (Flat.enc p0).toArray)].toArray w0 (fun en w' => ∃ v, en = .returned v ∧ (v = (vT r) ∧ Kept (Old w0) w0 w')) := by
 refine ZA (n := 6) Tryz.func171 rfl rfl (Nat.le_of_ble_eq_true rfl) rfl ?_
 intro a hE
 have hM := M.start w0
 unfold Vf at hF
 refine Zc (ZV (cs := cat [[(vI p0.Kind)], [(vI p0.Number)], Flat.enc p0.Tag]) hE hM Za (dl rfl) rfl rfl ?_); intro b1 w a hM hE
 refine Ze hE Za (dl rfl) rfl ?_; intro a hE
 refine Zf (Zc (Zm (cs := Flat.enc p0) hE Za (dl rfl) rfl UY rfl (hM.rawAt (pre := [])) (ZB (cl1 (n := 1) (m := 33) rfl (cl1 (n := 1) (m := 32) rfl (cl1 (n := 32) (m := 0) (Flat.len _) cl0)))) ?_)); intro a hE
 obtain ⟨r3, e4, hF⟩ := bind_some hF
 refine Zs (vs := [(Value.agg (Flat.enc p0).toArray)]) hE Za (dl rfl) rfl cb172 (c_impl_isEvent _ p0 r3 e4) ?_
 rintro v w a ⟨rfl, hK⟩ hE
 have hM := hM.keep hK
 refine WF hE Za (dl rfl) rfl ?_; intro a hE
 refine Ze hE Za (dl rfl) rfl ?_; intro a hE
 refine Zf ?_
 have hr := Option.some.inj hF
 subst hr
 have hM := M.fst (l := []) hM
 exact wp_ret (Zy hE rfl (Zu hE rfl) ⟨_, rfl, rfl, hM.kept⟩)
noncomputable def Wu (p0 : GVault) (s24 : Int) : Option (Fl Int (Fl Unit Bool)) :=
 if (decide (s24 < (p0.Records.length : Int))) = true then ((idx p0.Records s24).bind fun x29 => ((YL x29.Number 1 (wr (p0.Next - 1))).bind fun r45 => if (!r45) = true then (some true) else (if (decide (s24 > 0)) = true then ((idx p0.Records (wr (s24 - 1))).bind fun x50 => some (decide (x50.Number ≥ x29.Number))) else (some false)) : Option (Bool)).bind fun j41 => if j41 = true then (some (Fl.ex (Fl.ex false))) else (((Ys p0.Keys).bind fun r68 => (YL x29.Version 0 (wr (r68 - 1))).bind fun r70 => if (!r70) = true then (some true) else (if (decide ((x29.Label.length : Int) > 32)) = true then (some true) else (some (decide ((x29.Body.length : Int) > 200)))) : Option (Bool)).bind fun j64 => if j64 = true then (some (Fl.ex (Fl.ex false))) else (some (Fl.nx (wr (s24 + 1)))))) else (some (Fl.ex (Fl.nx ())))
noncomputable def VZ (p0 : GVault) : Option (Bool) :=
 ((Ys p0.Keys).bind fun r6 => (YL r6 1 8).bind fun r8 => if (!r8) = true then (some true) else ((YL p0.Next 1 1000000).bind fun r12 => if (!r12) = true then (some true) else (if (decide ((p0.Records.length : Int) > 12)) = true then (some true) else (some (decide ((p0.Events.length : Int) > 60))))) : Option (Bool)).bind fun j3 => if j3 = true then (some false) else ((ZJ (Wu p0) 0 : Option (Fl Unit Bool)).bind fun j20 => j20.el (fun s23 => (ZU p0.Events (fun z0 => Vf z0)).bind fun r80 => some (!r80)) (fun r => some r))
theorem c_impl_IsVault (w0 : World) (p0 : GVault) (v0_1 : Value) (hv0_1 : Ro w0 p0.Keys [v0_1]) (v0_2 : Value) (hv0_2 : Ro w0 p0.Records [v0_2]) (v0_3 : Value) (hv0_3 : Ro w0 p0.Events [v0_3]) (r : Bool) (hF : VZ p0 = some r) :
  Calls Tryz.prog 108 [(Value.agg (cat [[v0_1], [(vI p0.Next)], [v0_2], [v0_3], Flat.enc p0.Head]).toArray)].toArray w0 (fun en w' => ∃ v, en = .returned v ∧ (v = (vT r) ∧ Kept (Old w0) w0 w')) := by
 refine ZA (n := 84) Tryz.func108 rfl rfl (Nat.le_of_ble_eq_true rfl) rfl ?_
 intro a hE
 have hM := M.start w0
 unfold VZ at hF
 refine Zc (ZV (cs := cat [[v0_1], [(vI p0.Next)], [v0_2], [v0_3], Flat.enc p0.Head]) hE hM Za (dl rfl) rfl rfl ?_); intro b1 w a hM hE
 refine Ze hE Za (dl rfl) rfl ?_; intro a hE
 refine Zf (wp_seq ?_)
 obtain ⟨j3, hl4, hF5⟩ := bind_some hF
 refine ZR (fun a w => Env 84 a [(1, (ptr b1 0)), (27, (vT j3))] ∧ M (Old w0) w0 w [raw b1 (cat [[v0_1], [(vI p0.Next)], [v0_2], [v0_3], Flat.enc p0.Head])]) ?_ ?_
 ·skip
  refine wp_region_lit (Zg hE Za (dl rfl) rfl (fd36_0) ?_); intro a hE
  refine Zq (v := v0_1) hE Za (dl rfl) rfl ty32 rfl (At.cat (pre := []) (hM.rawAt (pre := [])) cl0) ?_; intro a hE
  obtain ⟨r6, e7, hl4⟩ := bind_some hl4
  refine Zs (vs := [v0_1]) hE Za (dl rfl) rfl cb112 (Xl _ p0.Keys v0_1 (hM.rdo hv0_1) r6 e7) ?_
  rintro v w a ⟨rfl, hK⟩ hE
  have hM := hM.keep hK
  obtain ⟨r8, e9, hl4⟩ := bind_some hl4
  refine Zs (vs := [(vI r6), (vI 1), (vI 8)]) hE Za (dl rfl) rfl cb157 (YK _ r6 1 8 r8 e9) ?_
  rintro v w a ⟨rfl, hK⟩ hE
  have hM := hM.keep hK
  refine WF hE Za (dl rfl) rfl ?_; intro a hE
  refine Zd hE Za (dl rfl) rfl ?_; intro a hE
  refine Wj (!r8) (fun hb10 => ?_) (fun hb10 => ?_)
  ·have hl4 := ZD hl4 hb10
   refine Zt hE rfl (lkb rfl hb10) rfl (by decide) ?_; intro a hE
   refine Zt hE rfl (lkb rfl hb10) rfl (by decide) ?_; intro a hE
   refine Zt hE rfl (lkb rfl hb10) rfl (by decide) ?_; intro a hE
   refine Zt hE rfl (lkb rfl hb10) rfl (by decide) ?_; intro a hE
   refine Ya hE Za (dl rfl) (lkb rfl hb10) rfl ?_; intro a hE
   refine Zd hE Za (dl rfl) rfl ?_; intro a hE
   refine Zt hE rfl rfl rfl (by decide) ?_; intro a hE
   refine Zt hE rfl rfl rfl (by decide) ?_; intro a hE
   refine Zt hE rfl rfl rfl (by decide) ?_; intro a hE
   refine Zt hE rfl rfl rfl (by decide) ?_; intro a hE
   refine Ya hE Za (dl rfl) rfl rfl ?_; intro a hE
   refine Zd hE Za (dl rfl) rfl ?_; intro a hE
   refine Zt hE rfl rfl rfl (by decide) ?_; intro a hE
   refine Zt hE rfl rfl rfl (by decide) ?_; intro a hE
   refine Zt hE rfl rfl rfl (by decide) ?_; intro a hE
   refine Zt hE rfl rfl rfl (by decide) ?_; intro a hE
   refine Ya hE Za (dl rfl) rfl rfl ?_; intro a hE
   refine Zk ?_
   have ht11 := Option.some.inj hl4
   subst ht11
   refine Zn ?_
   exact ⟨hE.sub ⟨rfl, rfl, trivial⟩, hM⟩
  ·have hl4 := ZC hl4 hb10
   refine Zg hE (Zv hE rfl (lkb rfl hb10)) (by decide) rfl (fd36_1) ?_; intro a hE
   refine Zq (v := (vI p0.Next)) hE (Zv hE rfl (lkb rfl hb10)) (by decide) rfl ty2 rfl (At.cat (pre := [[v0_1]]) (hM.rawAt (pre := [])) (cl1 (n := 1) (m := 0) rfl cl0)) ?_; intro a hE
   obtain ⟨r12, e13, hl4⟩ := bind_some hl4
   refine Zs (vs := [(vI p0.Next), (vI 1), (vI 1000000)]) hE (Zv hE rfl (lkb rfl hb10)) (by decide) rfl cb157 (YK _ p0.Next 1 1000000 r12 e13) ?_
   rintro v w a ⟨rfl, hK⟩ hE
   have hM := hM.keep hK
   refine WF hE (Zv hE rfl (lkb rfl hb10)) (by decide) rfl ?_; intro a hE
   refine YT hE Za (dl rfl) (lkb rfl hb10) rfl ?_; intro a hE
   refine Zd hE Za (dl rfl) rfl ?_; intro a hE
   refine Wj (!r12) (fun hb14 => ?_) (fun hb14 => ?_)
   ·have hl4 := ZD hl4 hb14
    refine Zt hE rfl (lkb rfl hb14) rfl (by decide) ?_; intro a hE
    refine Zt hE rfl (lkb rfl hb14) rfl (by decide) ?_; intro a hE
    refine Zt hE rfl (lkb rfl hb14) rfl (by decide) ?_; intro a hE
    refine Zt hE rfl (lkb rfl hb14) rfl (by decide) ?_; intro a hE
    refine Ya hE Za (dl rfl) (lkb rfl hb14) rfl ?_; intro a hE
    refine Zd hE Za (dl rfl) rfl ?_; intro a hE
    refine Zt hE rfl rfl rfl (by decide) ?_; intro a hE
    refine Zt hE rfl rfl rfl (by decide) ?_; intro a hE
    refine Zt hE rfl rfl rfl (by decide) ?_; intro a hE
    refine Zt hE rfl rfl rfl (by decide) ?_; intro a hE
    refine Ya hE Za (dl rfl) rfl rfl ?_; intro a hE
    refine Zk ?_
    have ht15 := Option.some.inj hl4
    subst ht15
    refine Zn ?_
    exact ⟨hE.sub ⟨rfl, rfl, trivial⟩, hM⟩
   ·have hl4 := ZC hl4 hb14
    refine Zg hE (Zv hE rfl (lkb rfl hb14)) (by decide) rfl (U8) ?_; intro a hE
    refine Zq (v := v0_2) hE (Zv hE rfl (lkb rfl hb14)) (by decide) rfl ty33 rfl (At.cat (pre := [[v0_1], [(vI p0.Next)]]) (hM.rawAt (pre := [])) (cl1 (n := 1) (m := 1) rfl (cl1 (n := 1) (m := 0) rfl cl0))) ?_; intro a hE
    refine Yb hE (Zv hE rfl (lkb rfl hb14)) (by decide) rfl Tryz.underlying33 (hM.rd hv0_2) ?_; intro a hE
    refine Zh hE (Zv hE rfl (lkb rfl hb14)) (by decide) rfl rfl rfl ?_; intro a hE
    refine YT hE Za (dl rfl) (lkb rfl hb14) rfl ?_; intro a hE
    refine Zd hE Za (dl rfl) rfl ?_; intro a hE
    refine Wj (decide ((p0.Records.length : Int) > 12)) (fun hb16 => ?_) (fun hb16 => ?_)
    ·have hl4 := ZD hl4 hb16
     refine Zt hE rfl (lkb rfl hb16) rfl (by decide) ?_; intro a hE
     refine Zt hE rfl (lkb rfl hb16) rfl (by decide) ?_; intro a hE
     refine Zt hE rfl (lkb rfl hb16) rfl (by decide) ?_; intro a hE
     refine Zt hE rfl (lkb rfl hb16) rfl (by decide) ?_; intro a hE
     refine Ya hE Za (dl rfl) (lkb rfl hb16) rfl ?_; intro a hE
     refine Zk ?_
     have ht17 := Option.some.inj hl4
     subst ht17
     refine Zn ?_
     exact ⟨hE.sub ⟨rfl, rfl, trivial⟩, hM⟩
    ·have hl4 := ZC hl4 hb16
     refine Zg hE (Zv hE rfl (lkb rfl hb16)) (by decide) rfl (fd36_3) ?_; intro a hE
     refine Zq (v := v0_3) hE (Zv hE rfl (lkb rfl hb16)) (by decide) rfl ty34 rfl (At.cat (pre := [[v0_1], [(vI p0.Next)], [v0_2]]) (hM.rawAt (pre := [])) (cl1 (n := 1) (m := 2) rfl (cl1 (n := 1) (m := 1) rfl (cl1 (n := 1) (m := 0) rfl cl0)))) ?_; intro a hE
     refine Yb hE (Zv hE rfl (lkb rfl hb16)) (by decide) rfl Tryz.underlying34 (hM.rd hv0_3) ?_; intro a hE
     refine Zh hE (Zv hE rfl (lkb rfl hb16)) (by decide) rfl rfl rfl ?_; intro a hE
     refine YT hE Za (dl rfl) (lkb rfl hb16) rfl ?_; intro a hE
     refine Zk ?_
     have ht18 := Option.some.inj hl4
     subst ht18
     refine Zn ?_
     exact ⟨hE.sub ⟨rfl, rfl, trivial⟩, hM⟩
 ·skip
  rintro a w ⟨hE, hM⟩
  refine Zw hE rfl ?_ ?_
  ·intro hb19
   have hF5 := ZD hF5 hb19
   refine Zc (Ze hE Za (dl rfl) rfl ?_); intro a hE
   refine Zf ?_
   have hr := Option.some.inj hF5
   subst hr
   have hM := M.fst (l := []) hM
   exact wp_ret (ZG (Zy hE rfl (Zu hE rfl) ⟨_, rfl, rfl, hM.kept⟩))
  ·intro hb19
   have hF5 := ZC hF5 hb19
   refine wp_skip (Zz (wp_seq (Zc (Zg hE Za (dl rfl) rfl (U8) ?_)))); intro a hE
   refine Zq (v := v0_2) hE Za (dl rfl) rfl ty33 rfl (At.cat (pre := [[v0_1], [(vI p0.Next)]]) (hM.rawAt (pre := [])) (cl1 (n := 1) (m := 1) rfl (cl1 (n := 1) (m := 0) rfl cl0))) ?_; intro a hE
   refine Yb hE Za (dl rfl) rfl Tryz.underlying33 (hM.rd hv0_2) ?_; intro a hE
   refine Zd hE Za (dl rfl) rfl ?_; intro a hE
   refine Zf ?_
   obtain ⟨j20, hl21, hF22⟩ := bind_some hF5
   refine ZS (fun a w => ∃ s23 : Unit, j20 = Fl.nx s23 ∧ Env 84 a [(1, (ptr b1 0))] ∧ M (Old w0) w0 w [raw b1 (cat [[v0_1], [(vI p0.Next)], [v0_2], [v0_3], Flat.enc p0.Head])]) ?_ ?_
   ·skip
    refine wp_block ?_
    refine ZL (fun (s24 : Int) a w => Env 84 a [(1, (ptr b1 0)), (29, v0_2), (30, (vI (p0.Records.length : Int))), (31, (vI s24))] ∧ M (Old w0) w0 w [raw b1 (cat [[v0_1], [(vI p0.Next)], [v0_2], [v0_3], Flat.enc p0.Head])]) hl21 ⟨hE.sub ⟨rfl, rfl, rfl, rfl, trivial⟩, hM⟩ ?_
    rintro s24 a w ⟨hE, hM⟩ o27 hs25 hx26
    unfold Wu at hs25
    refine Zc (Zh hE Za (dl rfl) rfl rfl rfl ?_); intro a hE
    refine Zf (wp_seq ?_)
    refine Zw hE rfl ?_ ?_
    ·intro hb28
     have hs25 := ZD hs25 hb28
     refine wp_skip (Zz (wp_seq (wp_block (Zc (Zd hE Za (dl rfl) rfl ?_))))); intro a hE
     obtain ⟨x29, e30, hs25⟩ := bind_some hs25
     have hi31 := ZY e30
     refine ZX hE Za (dl rfl) rfl rfl Tryz.underlying33 Ug (hM.rd hv0_2) hi31.1 ?_; intro a hE
     obtain ⟨cs32, hs33, hA34⟩ := Uf hv0_2 hi31.2 -- ^
     obtain ⟨u35, u37, rfl, h36, h38⟩ := X2 hs33 -- ^
     refine Zm (cs := cat [[(vI x29.Number)], [(vI x29.Version)], Flat.enc x29.Nonce, [u35], [u37], Flat.enc x29.Tag]) hE Za (dl rfl) rfl Ug rfl (hM.atk hA34 (sl_blk hv0_2 hi31.2)) (ZB (cl1 (n := 1) (m := 51) rfl (cl1 (n := 1) (m := 50) rfl (cl1 (n := 16) (m := 34) (Flat.len _) (cl1 (n := 1) (m := 33) rfl (cl1 (n := 1) (m := 32) rfl (cl1 (n := 32) (m := 0) (Flat.len _) cl0))))))) ?_; intro a hE
     refine ZE hE hM Za (dl rfl) Ug ?_; intro b39 w a hM hE
     refine Ze hE Za (dl rfl) rfl ?_; intro a hE
     refine Zp (seg := cat [[(vI x29.Number)], [(vI x29.Version)], Flat.enc x29.Nonce, [u35], [u37], Flat.enc x29.Tag]) (cs' := cat [[(vI x29.Number)], [(vI x29.Version)], Flat.enc x29.Nonce, [u35], [u37], Flat.enc x29.Tag]) hE hM Za rfl rfl rfl Ug (ZB (cl1 (n := 1) (m := 51) rfl (cl1 (n := 1) (m := 50) rfl (cl1 (n := 16) (m := 34) (Flat.len _) (cl1 (n := 1) (m := 33) rfl (cl1 (n := 1) (m := 32) rfl (cl1 (n := 32) (m := 0) (Flat.len _) cl0))))))) (Nat.le_of_eq ((Nat.zero_add _).trans (Eq.trans (ZB (cl1 (n := 1) (m := 51) rfl (cl1 (n := 1) (m := 50) rfl (cl1 (n := 16) (m := 34) (Flat.len _) (cl1 (n := 1) (m := 33) rfl (cl1 (n := 1) (m := 32) rfl (cl1 (n := 32) (m := 0) (Flat.len _) cl0))))))) (Eq.symm (ZB (cl1 (n := 1) (m := 51) rfl (cl1 (n := 1) (m := 50) rfl (cl1 (n := 16) (m := 34) (Flat.len _) (cl1 (n := 1) (m := 33) rfl (cl1 (n := 1) (m := 32) rfl (cl1 (n := 32) (m := 0) (Flat.len _) cl0))))))))))) (WH (cc1 (Flat.cell (x29.Number : Int)) (cc1 (Flat.cell (x29.Version : Int)) (cc1 (Flat.cell _) (cc1 (Rep.cell (hM.rd h36)) (cc1 (Rep.cell (hM.rd h38)) (cc1 (Flat.cell _) cc0))))))) (Zl (Eq.trans (ZB (cl1 (n := 1) (m := 51) rfl (cl1 (n := 1) (m := 50) rfl (cl1 (n := 16) (m := 34) (Flat.len _) (cl1 (n := 1) (m := 33) rfl (cl1 (n := 1) (m := 32) rfl (cl1 (n := 32) (m := 0) (Flat.len _) cl0))))))) (Eq.symm (ZB (cl1 (n := 1) (m := 51) rfl (cl1 (n := 1) (m := 50) rfl (cl1 (n := 16) (m := 34) (Flat.len _) (cl1 (n := 1) (m := 33) rfl (cl1 (n := 1) (m := 32) rfl (cl1 (n := 32) (m := 0) (Flat.len _) cl0)))))))))) ?_; intro w a hM hE
     refine Zf (wp_seq ?_)
     obtain ⟨j41, hl42, hF43⟩ := bind_some hs25
     refine ZR (fun a w => Env 84 a [(1, (ptr b1 0)), (4, (ptr b39 0)), (29, v0_2), (30, (vI (p0.Records.length : Int))), (31, (vI s24)), (58, (vT j41))] ∧ M (Old w0) w0 w [raw b39 (cat [[(vI x29.Number)], [(vI x29.Version)], Flat.enc x29.Nonce, [u35], [u37], Flat.enc x29.Tag]), raw b1 (cat [[v0_1], [(vI p0.Next)], [v0_2], [v0_3], Flat.enc p0.Head])]) ?_ ?_
     ·skip
      obtain ⟨r45, e46, hl42⟩ := bind_some hl42
      refine Wj (!r45) (fun hb47 => ?_) (fun hb47 => ?_)
      ·have hl42 := ZD hl42 hb47
       refine Yo (n := 84) (hd := [_, _, _, _, _, _, _, _, _, _, _, _, _, _, _, _, _, _, _, _, _, _, _]) (tl := []) YU rfl rfl [36, 37, 38, 39, 40, 41, 42, 43, 44, 45, 46, 47, 48, 49, 50, 51, 52, 53, 54, 55, 56, 57, 58] (by decide) (fun w => M (Old w0) w0 w [raw b39 (cat [[(vI x29.Number)], [(vI x29.Version)], Flat.enc x29.Nonce, [u35], [u37], Flat.enc x29.Tag]), raw b1 (cat [[v0_1], [(vI p0.Next)], [v0_2], [v0_3], Flat.enc p0.Head])]) (fun j => ([fun v _ => v = (ptr b39 (0 + 0)), fun v _ => v = (vI x29.Number), fun v _ => v = (ptr b1 (0 + 1)), fun v _ => v = (vI p0.Next), fun v _ => v = (vI (wr (p0.Next - 1))), fun v _ => v = (vT r45), fun v _ => v = (vT (!r45)), fun v _ => v = (vT (!r45)), fun v _ => v = undef, fun v _ => v = undef, fun v _ => v = undef, fun v _ => v = undef, fun v _ => v = undef, fun v _ => v = undef, fun v _ => v = undef, fun v _ => v = undef, fun v _ => v = undef, fun v _ => v = undef, fun v _ => v = undef, fun v _ => v = undef, fun v _ => v = undef, fun v _ => v = undef, fun v _ => v = (vT true)] : List (Value → World → Prop)).getD j (fun _ _ => True)) (fun _ _ h hk => h.keep hk) (gup (Zj (Zj (Zj (Zj (Zj (Zj (Zj (Zj (Zj (Zj (Zj (Zj (Zj (Zj (Zj (Zj (Zj (Zj (Zj (Zj (Zj (Zj (Zj Vq)))))))))))))))))))))))) hE hM.drew (ZM (Zb ?_ (Zb ?_ (Zb ?_ (Zb ?_ (Zb ?_ (Zb ?_ (Zb ?_ (Zb ?_ (Zb ?_ (Zb ?_ (Zb ?_ (Zb ?_ (Zb ?_ (Zb ?_ (Zb ?_ (Zb ?_ (Zb ?_ (Zb ?_ (Zb ?_ (Zb ?_ (Zb ?_ (Zb ?_ (Zb ?_ ZH)))))))))))))))))))))))) ?_
       ·intro a w ux44 hE hM hp
        refine Zg hE Za (dl rfl) rfl (UQ) ?_; intro a hE
        exact ⟨Kept.refl _ _, _, _, rfl, hE, rfl⟩
       ·intro a w ux44 hE hM hp
        have f0 : ux44 0 = (ptr b39 (0 + 0)) := hp 0 _ rfl rfl
        refine Zq (v := (vI x29.Number)) hE Za (dl rfl) (lk rfl f0) ty2 rfl (At.cat (pre := []) (hM.rawAt (pre := [])) cl0) ?_; intro a hE
        exact ⟨Kept.refl _ _, _, _, rfl, hE, rfl⟩
       ·intro a w ux44 hE hM hp
        refine Zg hE Za (dl rfl) rfl (fd36_1) ?_; intro a hE
        exact ⟨Kept.refl _ _, _, _, rfl, hE, rfl⟩
       ·intro a w ux44 hE hM hp
        have f2 : ux44 2 = (ptr b1 (0 + 1)) := hp 0 _ rfl rfl
        refine Zq (v := (vI p0.Next)) hE Za (dl rfl) (lk rfl f2) ty2 rfl (At.cat (pre := [[v0_1]]) (hM.rawAt (pre := [_])) (cl1 (n := 1) (m := 0) rfl cl0)) ?_; intro a hE
        exact ⟨Kept.refl _ _, _, _, rfl, hE, rfl⟩
       ·intro a w ux44 hE hM hp
        have f3 : ux44 3 = (vI p0.Next) := hp 0 _ rfl rfl
        refine Zh hE Za (dl rfl) (lk rfl f3) rfl rfl ?_; intro a hE
        exact ⟨Kept.refl _ _, _, _, rfl, hE, rfl⟩
       ·intro a w ux44 hE hM hp
        have f1 : ux44 1 = (vI x29.Number) := hp 0 _ rfl rfl
        have f4 : ux44 4 = (vI (wr (p0.Next - 1))) := hp 1 _ rfl rfl
        refine Zs (vs := [(vI x29.Number), (vI 1), (vI (wr (p0.Next - 1)))]) hE Za (dl rfl) (ZZ (ZT (lk rfl f1) (ZT rfl (ZT (lk rfl f4) Y7)))) cb157 (YK _ x29.Number 1 (wr (p0.Next - 1)) r45 e46) ?_
        rintro v w a ⟨rfl, hK⟩ hE
        exact ⟨hK, _, _, rfl, hE, rfl⟩
       ·intro a w ux44 hE hM hp
        have f5 : ux44 5 = (vT r45) := hp 0 _ rfl rfl
        refine WF hE Za (dl rfl) (lk rfl f5) ?_; intro a hE
        exact ⟨Kept.refl _ _, _, _, rfl, hE, rfl⟩
       ·intro a w ux44 hE hM hp
        have f6 : ux44 6 = (vT (!r45)) := hp 0 _ rfl rfl
        refine Zd hE Za (dl rfl) (lk rfl f6) ?_; intro a hE
        exact ⟨Kept.refl _ _, _, _, rfl, hE, rfl⟩
       ·intro a w ux44 hE hM hp
        have f7 : ux44 7 = (vT (!r45)) := hp 0 _ rfl rfl
        refine Zt hE rfl (lkb (lk rfl f7) hb47) rfl (by decide) ?_; intro a hE
        exact ⟨Kept.refl _ _, _, _, rfl, hE, rfl⟩
       ·intro a w ux44 hE hM hp
        have f7 : ux44 7 = (vT (!r45)) := hp 1 _ rfl rfl
        have f8 : ux44 8 = undef := hp 0 _ rfl rfl
        refine Zt hE rfl (lkb (lk rfl f7) hb47) rfl (by decide) ?_; intro a hE
        exact ⟨Kept.refl _ _, _, _, rfl, hE, rfl⟩
       ·intro a w ux44 hE hM hp
        have f7 : ux44 7 = (vT (!r45)) := hp 1 _ rfl rfl
        have f9 : ux44 9 = undef := hp 0 _ rfl rfl
        refine Zt hE rfl (lkb (lk rfl f7) hb47) rfl (by decide) ?_; intro a hE
        exact ⟨Kept.refl _ _, _, _, rfl, hE, rfl⟩
       ·intro a w ux44 hE hM hp
        have f10 : ux44 10 = undef := hp 0 _ rfl rfl
        refine s_skipU hE rfl (lk rfl f10) (by decide) ?_; intro a hE
        exact ⟨Kept.refl _ _, _, _, rfl, hE, rfl⟩
       ·intro a w ux44 hE hM hp
        have f10 : ux44 10 = undef := hp 1 _ rfl rfl
        have f11 : ux44 11 = undef := hp 0 _ rfl rfl
        refine s_skipU hE rfl (lk rfl f10) (by decide) ?_; intro a hE
        exact ⟨Kept.refl _ _, _, _, rfl, hE, rfl⟩
       ·intro a w ux44 hE hM hp
        have f10 : ux44 10 = undef := hp 0 _ rfl rfl
        refine s_skipU hE rfl (lk rfl f10) (by decide) ?_; intro a hE
        exact ⟨Kept.refl _ _, _, _, rfl, hE, rfl⟩
       ·intro a w ux44 hE hM hp
        have f10 : ux44 10 = undef := hp 1 _ rfl rfl
        have f13 : ux44 13 = undef := hp 0 _ rfl rfl
        refine s_skipU hE rfl (lk rfl f10) (by decide) ?_; intro a hE
        exact ⟨Kept.refl _ _, _, _, rfl, hE, rfl⟩
       ·intro a w ux44 hE hM hp
        have f10 : ux44 10 = undef := hp 2 _ rfl rfl
        have f12 : ux44 12 = undef := hp 0 _ rfl rfl
        have f14 : ux44 14 = undef := hp 1 _ rfl rfl
        refine s_skipU hE rfl (lk rfl f10) (by decide) ?_; intro a hE
        exact ⟨Kept.refl _ _, _, _, rfl, hE, rfl⟩
       ·intro a w ux44 hE hM hp
        have f10 : ux44 10 = undef := hp 1 _ rfl rfl
        have f15 : ux44 15 = undef := hp 0 _ rfl rfl
        refine s_skipU hE rfl (lk rfl f10) (by decide) ?_; intro a hE
        exact ⟨Kept.refl _ _, _, _, rfl, hE, rfl⟩
       ·intro a w ux44 hE hM hp
        have f10 : ux44 10 = undef := hp 1 _ rfl rfl
        have f16 : ux44 16 = undef := hp 0 _ rfl rfl
        refine s_skipU hE rfl (lk rfl f10) (by decide) ?_; intro a hE
        exact ⟨Kept.refl _ _, _, _, rfl, hE, rfl⟩
       ·intro a w ux44 hE hM hp
        have f10 : ux44 10 = undef := hp 0 _ rfl rfl
        refine s_skipU hE rfl (lk rfl f10) (by decide) ?_; intro a hE
        exact ⟨Kept.refl _ _, _, _, rfl, hE, rfl⟩
       ·intro a w ux44 hE hM hp
        have f10 : ux44 10 = undef := hp 1 _ rfl rfl
        have f18 : ux44 18 = undef := hp 0 _ rfl rfl
        refine s_skipU hE rfl (lk rfl f10) (by decide) ?_; intro a hE
        exact ⟨Kept.refl _ _, _, _, rfl, hE, rfl⟩
       ·intro a w ux44 hE hM hp
        have f10 : ux44 10 = undef := hp 2 _ rfl rfl
        have f17 : ux44 17 = undef := hp 0 _ rfl rfl
        have f19 : ux44 19 = undef := hp 1 _ rfl rfl
        refine s_skipU hE rfl (lk rfl f10) (by decide) ?_; intro a hE
        exact ⟨Kept.refl _ _, _, _, rfl, hE, rfl⟩
       ·intro a w ux44 hE hM hp
        have f7 : ux44 7 = (vT (!r45)) := hp 2 _ rfl rfl
        have f10 : ux44 10 = undef := hp 0 _ rfl rfl
        have f20 : ux44 20 = undef := hp 1 _ rfl rfl
        refine Zt hE rfl (lkb (lk rfl f7) hb47) rfl (by decide) ?_; intro a hE
        exact ⟨Kept.refl _ _, _, _, rfl, hE, rfl⟩
       ·intro a w ux44 hE hM hp
        have f7 : ux44 7 = (vT (!r45)) := hp 0 _ rfl rfl
        have f21 : ux44 21 = undef := hp 1 _ rfl rfl
        refine Ya hE Za (dl rfl) (lkb (lk rfl f7) hb47) rfl ?_; intro a hE
        exact ⟨Kept.refl _ _, _, _, rfl, hE, rfl⟩
       ·intro a w ux44 hE hM hg
        have f0 : ux44 0 = (ptr b39 (0 + 0)) := hg 0 (by decide)
        have f1 : ux44 1 = (vI x29.Number) := hg 1 (by decide)
        have f2 : ux44 2 = (ptr b1 (0 + 1)) := hg 2 (by decide)
        have f3 : ux44 3 = (vI p0.Next) := hg 3 (by decide)
        have f4 : ux44 4 = (vI (wr (p0.Next - 1))) := hg 4 (by decide)
        have f5 : ux44 5 = (vT r45) := hg 5 (by decide)
        have f6 : ux44 6 = (vT (!r45)) := hg 6 (by decide)
        have f7 : ux44 7 = (vT (!r45)) := hg 7 (by decide)
        have f8 : ux44 8 = undef := hg 8 (by decide)
        have f9 : ux44 9 = undef := hg 9 (by decide)
        have f10 : ux44 10 = undef := hg 10 (by decide)
        have f11 : ux44 11 = undef := hg 11 (by decide)
        have f12 : ux44 12 = undef := hg 12 (by decide)
        have f13 : ux44 13 = undef := hg 13 (by decide)
        have f14 : ux44 14 = undef := hg 14 (by decide)
        have f15 : ux44 15 = undef := hg 15 (by decide)
        have f16 : ux44 16 = undef := hg 16 (by decide)
        have f17 : ux44 17 = undef := hg 17 (by decide)
        have f18 : ux44 18 = undef := hg 18 (by decide)
        have f19 : ux44 19 = undef := hg 19 (by decide)
        have f20 : ux44 20 = undef := hg 20 (by decide)
        have f21 : ux44 21 = undef := hg 21 (by decide)
        have f22 : ux44 22 = (vT true) := hg 22 (by decide)
        have hE := hE.sub (e' := [(36, (ptr b39 (0 + 0))), (37, (vI x29.Number)), (38, (ptr b1 (0 + 1))), (39, (vI p0.Next)), (40, (vI (wr (p0.Next - 1)))), (41, (vT r45)), (42, (vT (!r45))), (43, (vT (!r45))), (44, undef), (45, undef), (46, undef), (47, undef), (48, undef), (49, undef), (50, undef), (51, undef), (52, undef), (53, undef), (54, undef), (55, undef), (56, undef), (57, undef), (58, (vT true)), (1, (ptr b1 0)), (3, (vI s24)), (4, (ptr b39 0)), (29, v0_2), (30, (vI (p0.Records.length : Int))), (31, (vI s24)), (32, (vT (decide (s24 < (p0.Records.length : Int))))), (33, (vI s24)), (34, (ptr (sb v0_2) (so v0_2 + (s24).toNat * 52))), (35, (Value.agg (cat [[(vI x29.Number)], [(vI x29.Version)], Flat.enc x29.Nonce, [u35], [u37], Flat.enc x29.Tag]).toArray))]) ⟨lk rfl f0, lk rfl f1, lk rfl f2, lk rfl f3, lk rfl f4, lk rfl f5, lk rfl f6, lk rfl f7, lk rfl f8, lk rfl f9, lk rfl f10, lk rfl f11, lk rfl f12, lk rfl f13, lk rfl f14, lk rfl f15, lk rfl f16, lk rfl f17, lk rfl f18, lk rfl f19, lk rfl f20, lk rfl f21, lk rfl f22, rfl, rfl, rfl, rfl, rfl, rfl, rfl, rfl, rfl, rfl, trivial⟩
        refine Zk ?_
        have ht48 := Option.some.inj hl42
        subst ht48
        refine Zn ?_
        exact ⟨hE.sub ⟨rfl, rfl, rfl, rfl, rfl, rfl, trivial⟩, hM⟩
      ·have hl42 := ZC hl42 hb47
       refine Wj (decide (s24 > 0)) (fun hb49 => ?_) (fun hb49 => ?_)
       ·have hl42 := ZD hl42 hb49
        obtain ⟨x50, e51, hl42⟩ := bind_some hl42
        have hi52 := ZY e51
        obtain ⟨cs53, hs54, hA55⟩ := Uf hv0_2 hi52.2 -- ^
        obtain ⟨u56, u58, rfl, h57, h59⟩ := X2 hs54 -- ^
        refine Yo (n := 84) (hd := [_, _, _, _, _, _, _, _, _, _, _, _, _, _, _, _, _, _, _, _, _, _, _]) (tl := []) YU rfl rfl [36, 37, 38, 39, 40, 41, 42, 43, 44, 45, 46, 47, 48, 49, 50, 51, 52, 53, 54, 55, 56, 57, 58] (by decide) (fun w => M (Old w0) w0 w [raw b39 (cat [[(vI x29.Number)], [(vI x29.Version)], Flat.enc x29.Nonce, [u35], [u37], Flat.enc x29.Tag]), raw b1 (cat [[v0_1], [(vI p0.Next)], [v0_2], [v0_3], Flat.enc p0.Head])]) (fun j => ([fun v _ => v = (ptr b39 (0 + 0)), fun v _ => v = (vI x29.Number), fun v _ => v = (ptr b1 (0 + 1)), fun v _ => v = (vI p0.Next), fun v _ => v = (vI (wr (p0.Next - 1))), fun v _ => v = (vT r45), fun v _ => v = (vT (!r45)), fun v _ => v = (vT (!r45)), fun v _ => v = (vI s24), fun v _ => v = (vT (decide (s24 > 0))), fun v _ => v = (vT (decide (s24 > 0))), fun v _ => v = (ptr b1 (0 + 2)), fun v _ => v = v0_2, fun v _ => v = (vI s24), fun v _ => v = (vI (wr (s24 - 1))), fun v _ => v = (ptr (sb v0_2) (so v0_2 + ((wr (s24 - 1))).toNat * 52)), fun v _ => v = (ptr (sb v0_2) (so v0_2 + ((wr (s24 - 1))).toNat * 52 + 0)), fun v _ => v = (vI x50.Number), fun v _ => v = (ptr b39 (0 + 0)), fun v _ => v = (vI x29.Number), fun v _ => v = (vT (decide (x50.Number ≥ x29.Number))), fun v _ => v = (vT (decide (x50.Number ≥ x29.Number))), fun v _ => v = (vT (decide (x50.Number ≥ x29.Number)))] : List (Value → World → Prop)).getD j (fun _ _ => True)) (fun _ _ h hk => h.keep hk) (gup (Zj (Zj (Zj (Zj (Zj (Zj (Zj (Zj (Zj (Zj (Zj (Zj (Zj (Zj (Zj (Zj (Zj (Zj (Zj (Zj (Zj (Zj (Zj Vq)))))))))))))))))))))))) hE hM.drew (ZM (Zb ?_ (Zb ?_ (Zb ?_ (Zb ?_ (Zb ?_ (Zb ?_ (Zb ?_ (Zb ?_ (Zb ?_ (Zb ?_ (Zb ?_ (Zb ?_ (Zb ?_ (Zb ?_ (Zb ?_ (Zb ?_ (Zb ?_ (Zb ?_ (Zb ?_ (Zb ?_ (Zb ?_ (Zb ?_ (Zb ?_ ZH)))))))))))))))))))))))) ?_
        ·intro a w ux44 hE hM hp
         refine Zg hE Za (dl rfl) rfl (UQ) ?_; intro a hE
         exact ⟨Kept.refl _ _, _, _, rfl, hE, rfl⟩
        ·intro a w ux44 hE hM hp
         have f0 : ux44 0 = (ptr b39 (0 + 0)) := hp 0 _ rfl rfl
         refine Zq (v := (vI x29.Number)) hE Za (dl rfl) (lk rfl f0) ty2 rfl (At.cat (pre := []) (hM.rawAt (pre := [])) cl0) ?_; intro a hE
         exact ⟨Kept.refl _ _, _, _, rfl, hE, rfl⟩
        ·intro a w ux44 hE hM hp
         refine Zg hE Za (dl rfl) rfl (fd36_1) ?_; intro a hE
         exact ⟨Kept.refl _ _, _, _, rfl, hE, rfl⟩
        ·intro a w ux44 hE hM hp
         have f2 : ux44 2 = (ptr b1 (0 + 1)) := hp 0 _ rfl rfl
         refine Zq (v := (vI p0.Next)) hE Za (dl rfl) (lk rfl f2) ty2 rfl (At.cat (pre := [[v0_1]]) (hM.rawAt (pre := [_])) (cl1 (n := 1) (m := 0) rfl cl0)) ?_; intro a hE
         exact ⟨Kept.refl _ _, _, _, rfl, hE, rfl⟩
        ·intro a w ux44 hE hM hp
         have f3 : ux44 3 = (vI p0.Next) := hp 0 _ rfl rfl
         refine Zh hE Za (dl rfl) (lk rfl f3) rfl rfl ?_; intro a hE
         exact ⟨Kept.refl _ _, _, _, rfl, hE, rfl⟩
        ·intro a w ux44 hE hM hp
         have f1 : ux44 1 = (vI x29.Number) := hp 0 _ rfl rfl
         have f4 : ux44 4 = (vI (wr (p0.Next - 1))) := hp 1 _ rfl rfl
         refine Zs (vs := [(vI x29.Number), (vI 1), (vI (wr (p0.Next - 1)))]) hE Za (dl rfl) (ZZ (ZT (lk rfl f1) (ZT rfl (ZT (lk rfl f4) Y7)))) cb157 (YK _ x29.Number 1 (wr (p0.Next - 1)) r45 e46) ?_
         rintro v w a ⟨rfl, hK⟩ hE
         exact ⟨hK, _, _, rfl, hE, rfl⟩
        ·intro a w ux44 hE hM hp
         have f5 : ux44 5 = (vT r45) := hp 0 _ rfl rfl
         refine WF hE Za (dl rfl) (lk rfl f5) ?_; intro a hE
         exact ⟨Kept.refl _ _, _, _, rfl, hE, rfl⟩
        ·intro a w ux44 hE hM hp
         have f6 : ux44 6 = (vT (!r45)) := hp 0 _ rfl rfl
         refine Zd hE Za (dl rfl) (lk rfl f6) ?_; intro a hE
         exact ⟨Kept.refl _ _, _, _, rfl, hE, rfl⟩
        ·intro a w ux44 hE hM hp
         have f7 : ux44 7 = (vT (!r45)) := hp 0 _ rfl rfl
         refine Zd hE (Zv hE rfl (lkb (lk rfl f7) hb47)) (by decide) rfl ?_; intro a hE
         exact ⟨Kept.refl _ _, _, _, rfl, hE, rfl⟩
        ·intro a w ux44 hE hM hp
         have f7 : ux44 7 = (vT (!r45)) := hp 1 _ rfl rfl
         have f8 : ux44 8 = (vI s24) := hp 0 _ rfl rfl
         refine Zh hE (Zv hE rfl (lkb (lk rfl f7) hb47)) (by decide) (lk rfl f8) rfl rfl ?_; intro a hE
         exact ⟨Kept.refl _ _, _, _, rfl, hE, rfl⟩
        ·intro a w ux44 hE hM hp
         have f7 : ux44 7 = (vT (!r45)) := hp 1 _ rfl rfl
         have f9 : ux44 9 = (vT (decide (s24 > 0))) := hp 0 _ rfl rfl
         refine Zd hE (Zv hE rfl (lkb (lk rfl f7) hb47)) (by decide) (lk rfl f9) ?_; intro a hE
         exact ⟨Kept.refl _ _, _, _, rfl, hE, rfl⟩
        ·intro a w ux44 hE hM hp
         have f10 : ux44 10 = (vT (decide (s24 > 0))) := hp 0 _ rfl rfl
         refine Zg hE (Zv hE rfl (lkb (lk rfl f10) hb49)) (by decide) rfl (U8) ?_; intro a hE
         exact ⟨Kept.refl _ _, _, _, rfl, hE, rfl⟩
        ·intro a w ux44 hE hM hp
         have f10 : ux44 10 = (vT (decide (s24 > 0))) := hp 1 _ rfl rfl
         have f11 : ux44 11 = (ptr b1 (0 + 2)) := hp 0 _ rfl rfl
         refine Zq (v := v0_2) hE (Zv hE rfl (lkb (lk rfl f10) hb49)) (by decide) (lk rfl f11) ty33 rfl (At.cat (pre := [[v0_1], [(vI p0.Next)]]) (hM.rawAt (pre := [_])) (cl1 (n := 1) (m := 1) rfl (cl1 (n := 1) (m := 0) rfl cl0))) ?_; intro a hE
         exact ⟨Kept.refl _ _, _, _, rfl, hE, rfl⟩
        ·intro a w ux44 hE hM hp
         have f10 : ux44 10 = (vT (decide (s24 > 0))) := hp 0 _ rfl rfl
         refine Zd hE (Zv hE rfl (lkb (lk rfl f10) hb49)) (by decide) rfl ?_; intro a hE
         exact ⟨Kept.refl _ _, _, _, rfl, hE, rfl⟩
        ·intro a w ux44 hE hM hp
         have f10 : ux44 10 = (vT (decide (s24 > 0))) := hp 1 _ rfl rfl
         have f13 : ux44 13 = (vI s24) := hp 0 _ rfl rfl
         refine Zh hE (Zv hE rfl (lkb (lk rfl f10) hb49)) (by decide) (lk rfl f13) rfl rfl ?_; intro a hE
         exact ⟨Kept.refl _ _, _, _, rfl, hE, rfl⟩
        ·intro a w ux44 hE hM hp
         have f10 : ux44 10 = (vT (decide (s24 > 0))) := hp 2 _ rfl rfl
         have f12 : ux44 12 = v0_2 := hp 0 _ rfl rfl
         have f14 : ux44 14 = (vI (wr (s24 - 1))) := hp 1 _ rfl rfl
         refine ZX hE (Zv hE rfl (lkb (lk rfl f10) hb49)) (by decide) (lk rfl f12) (lk rfl f14) Tryz.underlying33 Ug (hM.rd hv0_2) hi52.1 ?_; intro a hE
         exact ⟨Kept.refl _ _, _, _, rfl, hE, rfl⟩
        ·intro a w ux44 hE hM hp
         have f10 : ux44 10 = (vT (decide (s24 > 0))) := hp 1 _ rfl rfl
         have f15 : ux44 15 = (ptr (sb v0_2) (so v0_2 + ((wr (s24 - 1))).toNat * 52)) := hp 0 _ rfl rfl
         refine Zg hE (Zv hE rfl (lkb (lk rfl f10) hb49)) (by decide) (lk rfl f15) (UQ) ?_; intro a hE
         exact ⟨Kept.refl _ _, _, _, rfl, hE, rfl⟩
        ·intro a w ux44 hE hM hp
         have f10 : ux44 10 = (vT (decide (s24 > 0))) := hp 1 _ rfl rfl
         have f16 : ux44 16 = (ptr (sb v0_2) (so v0_2 + ((wr (s24 - 1))).toNat * 52 + 0)) := hp 0 _ rfl rfl
         refine Zq (v := (vI x50.Number)) hE (Zv hE rfl (lkb (lk rfl f10) hb49)) (by decide) (lk rfl f16) ty2 rfl (At.cat (pre := []) (hM.atk hA55 (sl_blk hv0_2 hi52.2)) cl0) ?_; intro a hE
         exact ⟨Kept.refl _ _, _, _, rfl, hE, rfl⟩
        ·intro a w ux44 hE hM hp
         have f10 : ux44 10 = (vT (decide (s24 > 0))) := hp 0 _ rfl rfl
         refine Zg hE (Zv hE rfl (lkb (lk rfl f10) hb49)) (by decide) rfl (UQ) ?_; intro a hE
         exact ⟨Kept.refl _ _, _, _, rfl, hE, rfl⟩
        ·intro a w ux44 hE hM hp
         have f10 : ux44 10 = (vT (decide (s24 > 0))) := hp 1 _ rfl rfl
         have f18 : ux44 18 = (ptr b39 (0 + 0)) := hp 0 _ rfl rfl
         refine Zq (v := (vI x29.Number)) hE (Zv hE rfl (lkb (lk rfl f10) hb49)) (by decide) (lk rfl f18) ty2 rfl (At.cat (pre := []) (hM.rawAt (pre := [])) cl0) ?_; intro a hE
         exact ⟨Kept.refl _ _, _, _, rfl, hE, rfl⟩
        ·intro a w ux44 hE hM hp
         have f10 : ux44 10 = (vT (decide (s24 > 0))) := hp 2 _ rfl rfl
         have f17 : ux44 17 = (vI x50.Number) := hp 0 _ rfl rfl
         have f19 : ux44 19 = (vI x29.Number) := hp 1 _ rfl rfl
         refine Zh hE (Zv hE rfl (lkb (lk rfl f10) hb49)) (by decide) (lk rfl f17) (lk rfl f19) rfl ?_; intro a hE
         exact ⟨Kept.refl _ _, _, _, rfl, hE, rfl⟩
        ·intro a w ux44 hE hM hp
         have f7 : ux44 7 = (vT (!r45)) := hp 2 _ rfl rfl
         have f10 : ux44 10 = (vT (decide (s24 > 0))) := hp 0 _ rfl rfl
         have f20 : ux44 20 = (vT (decide (x50.Number ≥ x29.Number))) := hp 1 _ rfl rfl
         refine Ya hE (Zv hE rfl (lkb (lk rfl f7) hb47)) (by decide) (lkb (lk rfl f10) hb49) (lk rfl f20) ?_; intro a hE
         exact ⟨Kept.refl _ _, _, _, rfl, hE, rfl⟩
        ·intro a w ux44 hE hM hp
         have f7 : ux44 7 = (vT (!r45)) := hp 0 _ rfl rfl
         have f21 : ux44 21 = (vT (decide (x50.Number ≥ x29.Number))) := hp 1 _ rfl rfl
         refine YT hE Za (dl rfl) (lkb (lk rfl f7) hb47) (lk rfl f21) ?_; intro a hE
         exact ⟨Kept.refl _ _, _, _, rfl, hE, rfl⟩
        ·intro a w ux44 hE hM hg
         have f0 : ux44 0 = (ptr b39 (0 + 0)) := hg 0 (by decide)
         have f1 : ux44 1 = (vI x29.Number) := hg 1 (by decide)
         have f2 : ux44 2 = (ptr b1 (0 + 1)) := hg 2 (by decide)
         have f3 : ux44 3 = (vI p0.Next) := hg 3 (by decide)
         have f4 : ux44 4 = (vI (wr (p0.Next - 1))) := hg 4 (by decide)
         have f5 : ux44 5 = (vT r45) := hg 5 (by decide)
         have f6 : ux44 6 = (vT (!r45)) := hg 6 (by decide)
         have f7 : ux44 7 = (vT (!r45)) := hg 7 (by decide)
         have f8 : ux44 8 = (vI s24) := hg 8 (by decide)
         have f9 : ux44 9 = (vT (decide (s24 > 0))) := hg 9 (by decide)
         have f10 : ux44 10 = (vT (decide (s24 > 0))) := hg 10 (by decide)
         have f11 : ux44 11 = (ptr b1 (0 + 2)) := hg 11 (by decide)
         have f12 : ux44 12 = v0_2 := hg 12 (by decide)
         have f13 : ux44 13 = (vI s24) := hg 13 (by decide)
         have f14 : ux44 14 = (vI (wr (s24 - 1))) := hg 14 (by decide)
         have f15 : ux44 15 = (ptr (sb v0_2) (so v0_2 + ((wr (s24 - 1))).toNat * 52)) := hg 15 (by decide)
         have f16 : ux44 16 = (ptr (sb v0_2) (so v0_2 + ((wr (s24 - 1))).toNat * 52 + 0)) := hg 16 (by decide)
         have f17 : ux44 17 = (vI x50.Number) := hg 17 (by decide)
         have f18 : ux44 18 = (ptr b39 (0 + 0)) := hg 18 (by decide)
         have f19 : ux44 19 = (vI x29.Number) := hg 19 (by decide)
         have f20 : ux44 20 = (vT (decide (x50.Number ≥ x29.Number))) := hg 20 (by decide)
         have f21 : ux44 21 = (vT (decide (x50.Number ≥ x29.Number))) := hg 21 (by decide)
         have f22 : ux44 22 = (vT (decide (x50.Number ≥ x29.Number))) := hg 22 (by decide)
         have hE := hE.sub (e' := [(36, (ptr b39 (0 + 0))), (37, (vI x29.Number)), (38, (ptr b1 (0 + 1))), (39, (vI p0.Next)), (40, (vI (wr (p0.Next - 1)))), (41, (vT r45)), (42, (vT (!r45))), (43, (vT (!r45))), (44, (vI s24)), (45, (vT (decide (s24 > 0)))), (46, (vT (decide (s24 > 0)))), (47, (ptr b1 (0 + 2))), (48, v0_2), (49, (vI s24)), (50, (vI (wr (s24 - 1)))), (51, (ptr (sb v0_2) (so v0_2 + ((wr (s24 - 1))).toNat * 52))), (52, (ptr (sb v0_2) (so v0_2 + ((wr (s24 - 1))).toNat * 52 + 0))), (53, (vI x50.Number)), (54, (ptr b39 (0 + 0))), (55, (vI x29.Number)), (56, (vT (decide (x50.Number ≥ x29.Number)))), (57, (vT (decide (x50.Number ≥ x29.Number)))), (58, (vT (decide (x50.Number ≥ x29.Number)))), (1, (ptr b1 0)), (3, (vI s24)), (4, (ptr b39 0)), (29, v0_2), (30, (vI (p0.Records.length : Int))), (31, (vI s24)), (32, (vT (decide (s24 < (p0.Records.length : Int))))), (33, (vI s24)), (34, (ptr (sb v0_2) (so v0_2 + (s24).toNat * 52))), (35, (Value.agg (cat [[(vI x29.Number)], [(vI x29.Version)], Flat.enc x29.Nonce, [u35], [u37], Flat.enc x29.Tag]).toArray))]) ⟨lk rfl f0, lk rfl f1, lk rfl f2, lk rfl f3, lk rfl f4, lk rfl f5, lk rfl f6, lk rfl f7, lk rfl f8, lk rfl f9, lk rfl f10, lk rfl f11, lk rfl f12, lk rfl f13, lk rfl f14, lk rfl f15, lk rfl f16, lk rfl f17, lk rfl f18, lk rfl f19, lk rfl f20, lk rfl f21, lk rfl f22, rfl, rfl, rfl, rfl, rfl, rfl, rfl, rfl, rfl, rfl, trivial⟩
         refine Zk ?_
         have ht60 := Option.some.inj hl42
         subst ht60
         refine Zn ?_
         exact ⟨hE.sub ⟨rfl, rfl, rfl, rfl, rfl, rfl, trivial⟩, hM⟩
       ·have hl42 := ZC hl42 hb49
        refine Yo (n := 84) (hd := [_, _, _, _, _, _, _, _, _, _, _, _, _, _, _, _, _, _, _, _, _, _, _]) (tl := []) YU rfl rfl [36, 37, 38, 39, 40, 41, 42, 43, 44, 45, 46, 47, 48, 49, 50, 51, 52, 53, 54, 55, 56, 57, 58] (by decide) (fun w => M (Old w0) w0 w [raw b39 (cat [[(vI x29.Number)], [(vI x29.Version)], Flat.enc x29.Nonce, [u35], [u37], Flat.enc x29.Tag]), raw b1 (cat [[v0_1], [(vI p0.Next)], [v0_2], [v0_3], Flat.enc p0.Head])]) (fun j => ([fun v _ => v = (ptr b39 (0 + 0)), fun v _ => v = (vI x29.Number), fun v _ => v = (ptr b1 (0 + 1)), fun v _ => v = (vI p0.Next), fun v _ => v = (vI (wr (p0.Next - 1))), fun v _ => v = (vT r45), fun v _ => v = (vT (!r45)), fun v _ => v = (vT (!r45)), fun v _ => v = (vI s24), fun v _ => v = (vT (decide (s24 > 0))), fun v _ => v = (vT (decide (s24 > 0))), fun v _ => v = undef, fun v _ => v = undef, fun v _ => v = undef, fun v _ => v = undef, fun v _ => v = undef, fun v _ => v = undef, fun v _ => v = undef, fun v _ => v = undef, fun v _ => v = undef, fun v _ => v = undef, fun v _ => v = (vT false), fun v _ => v = (vT false)] : List (Value → World → Prop)).getD j (fun _ _ => True)) (fun _ _ h hk => h.keep hk) (gup (Zj (Zj (Zj (Zj (Zj (Zj (Zj (Zj (Zj (Zj (Zj (Zj (Zj (Zj (Zj (Zj (Zj (Zj (Zj (Zj (Zj (Zj (Zj Vq)))))))))))))))))))))))) hE hM.drew (ZM (Zb ?_ (Zb ?_ (Zb ?_ (Zb ?_ (Zb ?_ (Zb ?_ (Zb ?_ (Zb ?_ (Zb ?_ (Zb ?_ (Zb ?_ (Zb ?_ (Zb ?_ (Zb ?_ (Zb ?_ (Zb ?_ (Zb ?_ (Zb ?_ (Zb ?_ (Zb ?_ (Zb ?_ (Zb ?_ (Zb ?_ ZH)))))))))))))))))))))))) ?_
        ·intro a w ux44 hE hM hp
         refine Zg hE Za (dl rfl) rfl (UQ) ?_; intro a hE
         exact ⟨Kept.refl _ _, _, _, rfl, hE, rfl⟩
        ·intro a w ux44 hE hM hp
         have f0 : ux44 0 = (ptr b39 (0 + 0)) := hp 0 _ rfl rfl
         refine Zq (v := (vI x29.Number)) hE Za (dl rfl) (lk rfl f0) ty2 rfl (At.cat (pre := []) (hM.rawAt (pre := [])) cl0) ?_; intro a hE
         exact ⟨Kept.refl _ _, _, _, rfl, hE, rfl⟩
        ·intro a w ux44 hE hM hp
         refine Zg hE Za (dl rfl) rfl (fd36_1) ?_; intro a hE
         exact ⟨Kept.refl _ _, _, _, rfl, hE, rfl⟩
        ·intro a w ux44 hE hM hp
         have f2 : ux44 2 = (ptr b1 (0 + 1)) := hp 0 _ rfl rfl
         refine Zq (v := (vI p0.Next)) hE Za (dl rfl) (lk rfl f2) ty2 rfl (At.cat (pre := [[v0_1]]) (hM.rawAt (pre := [_])) (cl1 (n := 1) (m := 0) rfl cl0)) ?_; intro a hE
         exact ⟨Kept.refl _ _, _, _, rfl, hE, rfl⟩
        ·intro a w ux44 hE hM hp
         have f3 : ux44 3 = (vI p0.Next) := hp 0 _ rfl rfl
         refine Zh hE Za (dl rfl) (lk rfl f3) rfl rfl ?_; intro a hE
         exact ⟨Kept.refl _ _, _, _, rfl, hE, rfl⟩
        ·intro a w ux44 hE hM hp
         have f1 : ux44 1 = (vI x29.Number) := hp 0 _ rfl rfl
         have f4 : ux44 4 = (vI (wr (p0.Next - 1))) := hp 1 _ rfl rfl
         refine Zs (vs := [(vI x29.Number), (vI 1), (vI (wr (p0.Next - 1)))]) hE Za (dl rfl) (ZZ (ZT (lk rfl f1) (ZT rfl (ZT (lk rfl f4) Y7)))) cb157 (YK _ x29.Number 1 (wr (p0.Next - 1)) r45 e46) ?_
         rintro v w a ⟨rfl, hK⟩ hE
         exact ⟨hK, _, _, rfl, hE, rfl⟩
        ·intro a w ux44 hE hM hp
         have f5 : ux44 5 = (vT r45) := hp 0 _ rfl rfl
         refine WF hE Za (dl rfl) (lk rfl f5) ?_; intro a hE
         exact ⟨Kept.refl _ _, _, _, rfl, hE, rfl⟩
        ·intro a w ux44 hE hM hp
         have f6 : ux44 6 = (vT (!r45)) := hp 0 _ rfl rfl
         refine Zd hE Za (dl rfl) (lk rfl f6) ?_; intro a hE
         exact ⟨Kept.refl _ _, _, _, rfl, hE, rfl⟩
        ·intro a w ux44 hE hM hp
         have f7 : ux44 7 = (vT (!r45)) := hp 0 _ rfl rfl
         refine Zd hE (Zv hE rfl (lkb (lk rfl f7) hb47)) (by decide) rfl ?_; intro a hE
         exact ⟨Kept.refl _ _, _, _, rfl, hE, rfl⟩
        ·intro a w ux44 hE hM hp
         have f7 : ux44 7 = (vT (!r45)) := hp 1 _ rfl rfl
         have f8 : ux44 8 = (vI s24) := hp 0 _ rfl rfl
         refine Zh hE (Zv hE rfl (lkb (lk rfl f7) hb47)) (by decide) (lk rfl f8) rfl rfl ?_; intro a hE
         exact ⟨Kept.refl _ _, _, _, rfl, hE, rfl⟩
        ·intro a w ux44 hE hM hp
         have f7 : ux44 7 = (vT (!r45)) := hp 1 _ rfl rfl
         have f9 : ux44 9 = (vT (decide (s24 > 0))) := hp 0 _ rfl rfl
         refine Zd hE (Zv hE rfl (lkb (lk rfl f7) hb47)) (by decide) (lk rfl f9) ?_; intro a hE
         exact ⟨Kept.refl _ _, _, _, rfl, hE, rfl⟩
        ·intro a w ux44 hE hM hp
         have f10 : ux44 10 = (vT (decide (s24 > 0))) := hp 0 _ rfl rfl
         refine Zt hE rfl (lkb (lk rfl f10) hb49) rfl (by decide) ?_; intro a hE
         exact ⟨Kept.refl _ _, _, _, rfl, hE, rfl⟩
        ·intro a w ux44 hE hM hp
         have f10 : ux44 10 = (vT (decide (s24 > 0))) := hp 1 _ rfl rfl
         have f11 : ux44 11 = undef := hp 0 _ rfl rfl
         refine Zt hE rfl (lkb (lk rfl f10) hb49) rfl (by decide) ?_; intro a hE
         exact ⟨Kept.refl _ _, _, _, rfl, hE, rfl⟩
        ·intro a w ux44 hE hM hp
         have f10 : ux44 10 = (vT (decide (s24 > 0))) := hp 0 _ rfl rfl
         refine Zt hE rfl (lkb (lk rfl f10) hb49) rfl (by decide) ?_; intro a hE
         exact ⟨Kept.refl _ _, _, _, rfl, hE, rfl⟩
        ·intro a w ux44 hE hM hp
         have f10 : ux44 10 = (vT (decide (s24 > 0))) := hp 1 _ rfl rfl
         have f13 : ux44 13 = undef := hp 0 _ rfl rfl
         refine Zt hE rfl (lkb (lk rfl f10) hb49) rfl (by decide) ?_; intro a hE
         exact ⟨Kept.refl _ _, _, _, rfl, hE, rfl⟩
        ·intro a w ux44 hE hM hp
         have f10 : ux44 10 = (vT (decide (s24 > 0))) := hp 2 _ rfl rfl
         have f12 : ux44 12 = undef := hp 0 _ rfl rfl
         have f14 : ux44 14 = undef := hp 1 _ rfl rfl
         refine Zt hE rfl (lkb (lk rfl f10) hb49) rfl (by decide) ?_; intro a hE
         exact ⟨Kept.refl _ _, _, _, rfl, hE, rfl⟩
        ·intro a w ux44 hE hM hp
         have f10 : ux44 10 = (vT (decide (s24 > 0))) := hp 1 _ rfl rfl
         have f15 : ux44 15 = undef := hp 0 _ rfl rfl
         refine Zt hE rfl (lkb (lk rfl f10) hb49) rfl (by decide) ?_; intro a hE
         exact ⟨Kept.refl _ _, _, _, rfl, hE, rfl⟩
        ·intro a w ux44 hE hM hp
         have f10 : ux44 10 = (vT (decide (s24 > 0))) := hp 1 _ rfl rfl
         have f16 : ux44 16 = undef := hp 0 _ rfl rfl
         refine Zt hE rfl (lkb (lk rfl f10) hb49) rfl (by decide) ?_; intro a hE
         exact ⟨Kept.refl _ _, _, _, rfl, hE, rfl⟩
        ·intro a w ux44 hE hM hp
         have f10 : ux44 10 = (vT (decide (s24 > 0))) := hp 0 _ rfl rfl
         refine Zt hE rfl (lkb (lk rfl f10) hb49) rfl (by decide) ?_; intro a hE
         exact ⟨Kept.refl _ _, _, _, rfl, hE, rfl⟩
        ·intro a w ux44 hE hM hp
         have f10 : ux44 10 = (vT (decide (s24 > 0))) := hp 1 _ rfl rfl
         have f18 : ux44 18 = undef := hp 0 _ rfl rfl
         refine Zt hE rfl (lkb (lk rfl f10) hb49) rfl (by decide) ?_; intro a hE
         exact ⟨Kept.refl _ _, _, _, rfl, hE, rfl⟩
        ·intro a w ux44 hE hM hp
         have f10 : ux44 10 = (vT (decide (s24 > 0))) := hp 2 _ rfl rfl
         have f17 : ux44 17 = undef := hp 0 _ rfl rfl
         have f19 : ux44 19 = undef := hp 1 _ rfl rfl
         refine Zt hE rfl (lkb (lk rfl f10) hb49) rfl (by decide) ?_; intro a hE
         exact ⟨Kept.refl _ _, _, _, rfl, hE, rfl⟩
        ·intro a w ux44 hE hM hp
         have f7 : ux44 7 = (vT (!r45)) := hp 2 _ rfl rfl
         have f10 : ux44 10 = (vT (decide (s24 > 0))) := hp 0 _ rfl rfl
         have f20 : ux44 20 = undef := hp 1 _ rfl rfl
         refine YT hE (Zv hE rfl (lkb (lk rfl f7) hb47)) (by decide) (lkb (lk rfl f10) hb49) rfl ?_; intro a hE
         exact ⟨Kept.refl _ _, _, _, rfl, hE, rfl⟩
        ·intro a w ux44 hE hM hp
         have f7 : ux44 7 = (vT (!r45)) := hp 0 _ rfl rfl
         have f21 : ux44 21 = (vT false) := hp 1 _ rfl rfl
         refine YT hE Za (dl rfl) (lkb (lk rfl f7) hb47) (lk rfl f21) ?_; intro a hE
         exact ⟨Kept.refl _ _, _, _, rfl, hE, rfl⟩
        ·intro a w ux44 hE hM hg
         have f0 : ux44 0 = (ptr b39 (0 + 0)) := hg 0 (by decide)
         have f1 : ux44 1 = (vI x29.Number) := hg 1 (by decide)
         have f2 : ux44 2 = (ptr b1 (0 + 1)) := hg 2 (by decide)
         have f3 : ux44 3 = (vI p0.Next) := hg 3 (by decide)
         have f4 : ux44 4 = (vI (wr (p0.Next - 1))) := hg 4 (by decide)
         have f5 : ux44 5 = (vT r45) := hg 5 (by decide)
         have f6 : ux44 6 = (vT (!r45)) := hg 6 (by decide)
         have f7 : ux44 7 = (vT (!r45)) := hg 7 (by decide)
         have f8 : ux44 8 = (vI s24) := hg 8 (by decide)
         have f9 : ux44 9 = (vT (decide (s24 > 0))) := hg 9 (by decide)
         have f10 : ux44 10 = (vT (decide (s24 > 0))) := hg 10 (by decide)
         have f11 : ux44 11 = undef := hg 11 (by decide)
         have f12 : ux44 12 = undef := hg 12 (by decide)
         have f13 : ux44 13 = undef := hg 13 (by decide)
         have f14 : ux44 14 = undef := hg 14 (by decide)
         have f15 : ux44 15 = undef := hg 15 (by decide)
         have f16 : ux44 16 = undef := hg 16 (by decide)
         have f17 : ux44 17 = undef := hg 17 (by decide)
         have f18 : ux44 18 = undef := hg 18 (by decide)
         have f19 : ux44 19 = undef := hg 19 (by decide)
         have f20 : ux44 20 = undef := hg 20 (by decide)
         have f21 : ux44 21 = (vT false) := hg 21 (by decide)
         have f22 : ux44 22 = (vT false) := hg 22 (by decide)
         have hE := hE.sub (e' := [(36, (ptr b39 (0 + 0))), (37, (vI x29.Number)), (38, (ptr b1 (0 + 1))), (39, (vI p0.Next)), (40, (vI (wr (p0.Next - 1)))), (41, (vT r45)), (42, (vT (!r45))), (43, (vT (!r45))), (44, (vI s24)), (45, (vT (decide (s24 > 0)))), (46, (vT (decide (s24 > 0)))), (47, undef), (48, undef), (49, undef), (50, undef), (51, undef), (52, undef), (53, undef), (54, undef), (55, undef), (56, undef), (57, (vT false)), (58, (vT false)), (1, (ptr b1 0)), (3, (vI s24)), (4, (ptr b39 0)), (29, v0_2), (30, (vI (p0.Records.length : Int))), (31, (vI s24)), (32, (vT (decide (s24 < (p0.Records.length : Int))))), (33, (vI s24)), (34, (ptr (sb v0_2) (so v0_2 + (s24).toNat * 52))), (35, (Value.agg (cat [[(vI x29.Number)], [(vI x29.Version)], Flat.enc x29.Nonce, [u35], [u37], Flat.enc x29.Tag]).toArray))]) ⟨lk rfl f0, lk rfl f1, lk rfl f2, lk rfl f3, lk rfl f4, lk rfl f5, lk rfl f6, lk rfl f7, lk rfl f8, lk rfl f9, lk rfl f10, lk rfl f11, lk rfl f12, lk rfl f13, lk rfl f14, lk rfl f15, lk rfl f16, lk rfl f17, lk rfl f18, lk rfl f19, lk rfl f20, lk rfl f21, lk rfl f22, rfl, rfl, rfl, rfl, rfl, rfl, rfl, rfl, rfl, rfl, trivial⟩
         refine Zk ?_
         have ht61 := Option.some.inj hl42
         subst ht61
         refine Zn ?_
         exact ⟨hE.sub ⟨rfl, rfl, rfl, rfl, rfl, rfl, trivial⟩, hM⟩
     ·skip
      rintro a w ⟨hE, hM⟩
      refine Zw hE rfl ?_ ?_
      ·intro hb62
       have hF43 := ZD hF43 hb62
       refine Zc (Ze hE Za (dl rfl) rfl ?_); intro a hE
       refine Zf ?_
       have ht63 := hx26 _ (Option.some.inj hF43).symm
       subst ht63
       have hr := Option.some.inj hF22
       subst hr
       have hM := M.fst (l := []) hM
       exact wp_ret (ZG (Wg (ZG (ZG (Wg (ZG (ZG (Zy hE rfl (Zu hE rfl) ⟨_, rfl, rfl, hM.kept⟩))))))))
      ·intro hb62
       have hF43 := ZC hF43 hb62
       refine wp_skip (Zz ?_)
       obtain ⟨j64, hl65, hF66⟩ := bind_some hF43
       refine ZR (fun a w => Env 84 a [(1, (ptr b1 0)), (29, v0_2), (30, (vI (p0.Records.length : Int))), (31, (vI s24)), (78, (vT j64))] ∧ M (Old w0) w0 w [raw b1 (cat [[v0_1], [(vI p0.Next)], [v0_2], [v0_3], Flat.enc p0.Head])]) ?_ ?_
       ·skip
        obtain ⟨r68, e69, hl65⟩ := bind_some hl65
        obtain ⟨r70, e71, hl65⟩ := bind_some hl65
        refine Wj (!r70) (fun hb72 => ?_) (fun hb72 => ?_)
        ·have hl65 := ZD hl65 hb72
         refine Yo (n := 84) (hd := [_, _, _, _, _, _, _, _, _, _, _, _, _, _, _, _, _, _, _, _]) (tl := []) YU rfl rfl [59, 60, 61, 62, 63, 64, 65, 66, 67, 68, 69, 70, 71, 72, 73, 74, 75, 76, 77, 78] (by decide) (fun w => M (Old w0) w0 w [raw b39 (cat [[(vI x29.Number)], [(vI x29.Version)], Flat.enc x29.Nonce, [u35], [u37], Flat.enc x29.Tag]), raw b1 (cat [[v0_1], [(vI p0.Next)], [v0_2], [v0_3], Flat.enc p0.Head])]) (fun j => ([fun v _ => v = (ptr b39 (0 + 1)), fun v _ => v = (vI x29.Version), fun v _ => v = (ptr b1 (0 + 0)), fun v _ => v = v0_1, fun v _ => v = (vI r68), fun v _ => v = (vI (wr (r68 - 1))), fun v _ => v = (vT r70), fun v _ => v = (vT (!r70)), fun v _ => v = (vT (!r70)), fun v _ => v = undef, fun v _ => v = undef, fun v _ => v = undef, fun v _ => v = undef, fun v _ => v = (vT true), fun v _ => v = (vT true), fun v _ => v = undef, fun v _ => v = undef, fun v _ => v = undef, fun v _ => v = undef, fun v _ => v = (vT true)] : List (Value → World → Prop)).getD j (fun _ _ => True)) (fun _ _ h hk => h.keep hk) (gup (Zj (Zj (Zj (Zj (Zj (Zj (Zj (Zj (Zj (Zj (Zj (Zj (Zj (Zj (Zj (Zj (Zj (Zj (Zj (Zj Vq))))))))))))))))))))) hE hM.drew (ZM (Zb ?_ (Zb ?_ (Zb ?_ (Zb ?_ (Zb ?_ (Zb ?_ (Zb ?_ (Zb ?_ (Zb ?_ (Zb ?_ (Zb ?_ (Zb ?_ (Zb ?_ (Zb ?_ (Zb ?_ (Zb ?_ (Zb ?_ (Zb ?_ (Zb ?_ (Zb ?_ ZH))))))))))))))))))))) ?_
         ·intro a w ux67 hE hM hp
          refine Zg hE Za (dl rfl) rfl (fd92_1) ?_; intro a hE
          exact ⟨Kept.refl _ _, _, _, rfl, hE, rfl⟩
         ·intro a w ux67 hE hM hp
          have f0 : ux67 0 = (ptr b39 (0 + 1)) := hp 0 _ rfl rfl
          refine Zq (v := (vI x29.Version)) hE Za (dl rfl) (lk rfl f0) ty2 rfl (At.cat (pre := [[(vI x29.Number)]]) (hM.rawAt (pre := [])) (cl1 (n := 1) (m := 0) rfl cl0)) ?_; intro a hE
          exact ⟨Kept.refl _ _, _, _, rfl, hE, rfl⟩
         ·intro a w ux67 hE hM hp
          refine Zg hE Za (dl rfl) rfl (fd36_0) ?_; intro a hE
          exact ⟨Kept.refl _ _, _, _, rfl, hE, rfl⟩
         ·intro a w ux67 hE hM hp
          have f2 : ux67 2 = (ptr b1 (0 + 0)) := hp 0 _ rfl rfl
          refine Zq (v := v0_1) hE Za (dl rfl) (lk rfl f2) ty32 rfl (At.cat (pre := []) (hM.rawAt (pre := [_])) cl0) ?_; intro a hE
          exact ⟨Kept.refl _ _, _, _, rfl, hE, rfl⟩
         ·intro a w ux67 hE hM hp
          have f3 : ux67 3 = v0_1 := hp 0 _ rfl rfl
          refine Zs (vs := [v0_1]) hE Za (dl rfl) (ZZ (ZT (lk rfl f3) Y7)) cb112 (Xl _ p0.Keys v0_1 (hM.rdo hv0_1) r68 e69) ?_
          rintro v w a ⟨rfl, hK⟩ hE
          exact ⟨hK, _, _, rfl, hE, rfl⟩
         ·intro a w ux67 hE hM hp
          have f4 : ux67 4 = (vI r68) := hp 0 _ rfl rfl
          refine Zh hE Za (dl rfl) (lk rfl f4) rfl rfl ?_; intro a hE
          exact ⟨Kept.refl _ _, _, _, rfl, hE, rfl⟩
         ·intro a w ux67 hE hM hp
          have f1 : ux67 1 = (vI x29.Version) := hp 0 _ rfl rfl
          have f5 : ux67 5 = (vI (wr (r68 - 1))) := hp 1 _ rfl rfl
          refine Zs (vs := [(vI x29.Version), (vI 0), (vI (wr (r68 - 1)))]) hE Za (dl rfl) (ZZ (ZT (lk rfl f1) (ZT rfl (ZT (lk rfl f5) Y7)))) cb157 (YK _ x29.Version 0 (wr (r68 - 1)) r70 e71) ?_
          rintro v w a ⟨rfl, hK⟩ hE
          exact ⟨hK, _, _, rfl, hE, rfl⟩
         ·intro a w ux67 hE hM hp
          have f6 : ux67 6 = (vT r70) := hp 0 _ rfl rfl
          refine WF hE Za (dl rfl) (lk rfl f6) ?_; intro a hE
          exact ⟨Kept.refl _ _, _, _, rfl, hE, rfl⟩
         ·intro a w ux67 hE hM hp
          have f7 : ux67 7 = (vT (!r70)) := hp 0 _ rfl rfl
          refine Zd hE Za (dl rfl) (lk rfl f7) ?_; intro a hE
          exact ⟨Kept.refl _ _, _, _, rfl, hE, rfl⟩
         ·intro a w ux67 hE hM hp
          have f8 : ux67 8 = (vT (!r70)) := hp 0 _ rfl rfl
          refine Zt hE rfl (lkb (lk rfl f8) hb72) rfl (by decide) ?_; intro a hE
          exact ⟨Kept.refl _ _, _, _, rfl, hE, rfl⟩
         ·intro a w ux67 hE hM hp
          have f8 : ux67 8 = (vT (!r70)) := hp 1 _ rfl rfl
          have f9 : ux67 9 = undef := hp 0 _ rfl rfl
          refine Zt hE rfl (lkb (lk rfl f8) hb72) rfl (by decide) ?_; intro a hE
          exact ⟨Kept.refl _ _, _, _, rfl, hE, rfl⟩
         ·intro a w ux67 hE hM hp
          have f8 : ux67 8 = (vT (!r70)) := hp 1 _ rfl rfl
          have f10 : ux67 10 = undef := hp 0 _ rfl rfl
          refine Zt hE rfl (lkb (lk rfl f8) hb72) rfl (by decide) ?_; intro a hE
          exact ⟨Kept.refl _ _, _, _, rfl, hE, rfl⟩
         ·intro a w ux67 hE hM hp
          have f8 : ux67 8 = (vT (!r70)) := hp 1 _ rfl rfl
          have f11 : ux67 11 = undef := hp 0 _ rfl rfl
          refine Zt hE rfl (lkb (lk rfl f8) hb72) rfl (by decide) ?_; intro a hE
          exact ⟨Kept.refl _ _, _, _, rfl, hE, rfl⟩
         ·intro a w ux67 hE hM hp
          have f8 : ux67 8 = (vT (!r70)) := hp 0 _ rfl rfl
          have f12 : ux67 12 = undef := hp 1 _ rfl rfl
          refine Ya hE Za (dl rfl) (lkb (lk rfl f8) hb72) rfl ?_; intro a hE
          exact ⟨Kept.refl _ _, _, _, rfl, hE, rfl⟩
         ·intro a w ux67 hE hM hp
          have f13 : ux67 13 = (vT true) := hp 0 _ rfl rfl
          refine Zd hE Za (dl rfl) (lk rfl f13) ?_; intro a hE
          exact ⟨Kept.refl _ _, _, _, rfl, hE, rfl⟩
         ·intro a w ux67 hE hM hp
          have f14 : ux67 14 = (vT true) := hp 0 _ rfl rfl
          refine Zt hE rfl (lk rfl f14) rfl (by decide) ?_; intro a hE
          exact ⟨Kept.refl _ _, _, _, rfl, hE, rfl⟩
         ·intro a w ux67 hE hM hp
          have f14 : ux67 14 = (vT true) := hp 1 _ rfl rfl
          have f15 : ux67 15 = undef := hp 0 _ rfl rfl
          refine Zt hE rfl (lk rfl f14) rfl (by decide) ?_; intro a hE
          exact ⟨Kept.refl _ _, _, _, rfl, hE, rfl⟩
         ·intro a w ux67 hE hM hp
          have f14 : ux67 14 = (vT true) := hp 1 _ rfl rfl
          have f16 : ux67 16 = undef := hp 0 _ rfl rfl
          refine Zt hE rfl (lk rfl f14) rfl (by decide) ?_; intro a hE
          exact ⟨Kept.refl _ _, _, _, rfl, hE, rfl⟩
         ·intro a w ux67 hE hM hp
          have f14 : ux67 14 = (vT true) := hp 1 _ rfl rfl
          have f17 : ux67 17 = undef := hp 0 _ rfl rfl
          refine Zt hE rfl (lk rfl f14) rfl (by decide) ?_; intro a hE
          exact ⟨Kept.refl _ _, _, _, rfl, hE, rfl⟩
         ·intro a w ux67 hE hM hp
          have f14 : ux67 14 = (vT true) := hp 0 _ rfl rfl
          have f18 : ux67 18 = undef := hp 1 _ rfl rfl
          refine Ya hE Za (dl rfl) (lk rfl f14) rfl ?_; intro a hE
          exact ⟨Kept.refl _ _, _, _, rfl, hE, rfl⟩
         ·intro a w ux67 hE hM hg
          have f0 : ux67 0 = (ptr b39 (0 + 1)) := hg 0 (by decide)
          have f1 : ux67 1 = (vI x29.Version) := hg 1 (by decide)
          have f2 : ux67 2 = (ptr b1 (0 + 0)) := hg 2 (by decide)
          have f3 : ux67 3 = v0_1 := hg 3 (by decide)
          have f4 : ux67 4 = (vI r68) := hg 4 (by decide)
          have f5 : ux67 5 = (vI (wr (r68 - 1))) := hg 5 (by decide)
          have f6 : ux67 6 = (vT r70) := hg 6 (by decide)
          have f7 : ux67 7 = (vT (!r70)) := hg 7 (by decide)
          have f8 : ux67 8 = (vT (!r70)) := hg 8 (by decide)
          have f9 : ux67 9 = undef := hg 9 (by decide)
          have f10 : ux67 10 = undef := hg 10 (by decide)
          have f11 : ux67 11 = undef := hg 11 (by decide)
          have f12 : ux67 12 = undef := hg 12 (by decide)
          have f13 : ux67 13 = (vT true) := hg 13 (by decide)
          have f14 : ux67 14 = (vT true) := hg 14 (by decide)
          have f15 : ux67 15 = undef := hg 15 (by decide)
          have f16 : ux67 16 = undef := hg 16 (by decide)
          have f17 : ux67 17 = undef := hg 17 (by decide)
          have f18 : ux67 18 = undef := hg 18 (by decide)
          have f19 : ux67 19 = (vT true) := hg 19 (by decide)
          have hE := hE.sub (e' := [(59, (ptr b39 (0 + 1))), (60, (vI x29.Version)), (61, (ptr b1 (0 + 0))), (62, v0_1), (63, (vI r68)), (64, (vI (wr (r68 - 1)))), (65, (vT r70)), (66, (vT (!r70))), (67, (vT (!r70))), (68, undef), (69, undef), (70, undef), (71, undef), (72, (vT true)), (73, (vT true)), (74, undef), (75, undef), (76, undef), (77, undef), (78, (vT true)), (1, (ptr b1 0)), (4, (ptr b39 0)), (29, v0_2), (30, (vI (p0.Records.length : Int))), (31, (vI s24)), (58, (vT j41))]) ⟨lk rfl f0, lk rfl f1, lk rfl f2, lk rfl f3, lk rfl f4, lk rfl f5, lk rfl f6, lk rfl f7, lk rfl f8, lk rfl f9, lk rfl f10, lk rfl f11, lk rfl f12, lk rfl f13, lk rfl f14, lk rfl f15, lk rfl f16, lk rfl f17, lk rfl f18, lk rfl f19, rfl, rfl, rfl, rfl, rfl, rfl, trivial⟩
          refine Zk ?_
          have ht73 := Option.some.inj hl65
          subst ht73
          refine Zn ?_
          have hM := hM.pull (pre := [_])
          have hM := M.fst (l := [_]) hM
          exact ⟨hE.sub ⟨rfl, rfl, rfl, rfl, rfl, trivial⟩, hM⟩
        ·have hl65 := ZC hl65 hb72
         refine Wj (decide ((x29.Label.length : Int) > 32)) (fun hb74 => ?_) (fun hb74 => ?_)
         ·have hl65 := ZD hl65 hb74
          refine Yo (n := 84) (hd := [_, _, _, _, _, _, _, _, _, _, _, _, _, _, _, _, _, _, _, _]) (tl := []) YU rfl rfl [59, 60, 61, 62, 63, 64, 65, 66, 67, 68, 69, 70, 71, 72, 73, 74, 75, 76, 77, 78] (by decide) (fun w => M (Old w0) w0 w [raw b39 (cat [[(vI x29.Number)], [(vI x29.Version)], Flat.enc x29.Nonce, [u35], [u37], Flat.enc x29.Tag]), raw b1 (cat [[v0_1], [(vI p0.Next)], [v0_2], [v0_3], Flat.enc p0.Head])]) (fun j => ([fun v _ => v = (ptr b39 (0 + 1)), fun v _ => v = (vI x29.Version), fun v _ => v = (ptr b1 (0 + 0)), fun v _ => v = v0_1, fun v _ => v = (vI r68), fun v _ => v = (vI (wr (r68 - 1))), fun v _ => v = (vT r70), fun v _ => v = (vT (!r70)), fun v _ => v = (vT (!r70)), fun v _ => v = (ptr b39 (0 + 18)), fun v _ => v = u35, fun v _ => v = (vI (x29.Label.length : Int)), fun v _ => v = (vT (decide ((x29.Label.length : Int) > 32))), fun v _ => v = (vT (decide ((x29.Label.length : Int) > 32))), fun v _ => v = (vT (decide ((x29.Label.length : Int) > 32))), fun v _ => v = undef, fun v _ => v = undef, fun v _ => v = undef, fun v _ => v = undef, fun v _ => v = (vT true)] : List (Value → World → Prop)).getD j (fun _ _ => True)) (fun _ _ h hk => h.keep hk) (gup (Zj (Zj (Zj (Zj (Zj (Zj (Zj (Zj (Zj (Zj (Zj (Zj (Zj (Zj (Zj (Zj (Zj (Zj (Zj (Zj Vq))))))))))))))))))))) hE hM.drew (ZM (Zb ?_ (Zb ?_ (Zb ?_ (Zb ?_ (Zb ?_ (Zb ?_ (Zb ?_ (Zb ?_ (Zb ?_ (Zb ?_ (Zb ?_ (Zb ?_ (Zb ?_ (Zb ?_ (Zb ?_ (Zb ?_ (Zb ?_ (Zb ?_ (Zb ?_ (Zb ?_ ZH))))))))))))))))))))) ?_
          ·intro a w ux67 hE hM hp
           refine Zg hE Za (dl rfl) rfl (fd92_1) ?_; intro a hE
           exact ⟨Kept.refl _ _, _, _, rfl, hE, rfl⟩
          ·intro a w ux67 hE hM hp
           have f0 : ux67 0 = (ptr b39 (0 + 1)) := hp 0 _ rfl rfl
           refine Zq (v := (vI x29.Version)) hE Za (dl rfl) (lk rfl f0) ty2 rfl (At.cat (pre := [[(vI x29.Number)]]) (hM.rawAt (pre := [])) (cl1 (n := 1) (m := 0) rfl cl0)) ?_; intro a hE
           exact ⟨Kept.refl _ _, _, _, rfl, hE, rfl⟩
          ·intro a w ux67 hE hM hp
           refine Zg hE Za (dl rfl) rfl (fd36_0) ?_; intro a hE
           exact ⟨Kept.refl _ _, _, _, rfl, hE, rfl⟩
          ·intro a w ux67 hE hM hp
           have f2 : ux67 2 = (ptr b1 (0 + 0)) := hp 0 _ rfl rfl
           refine Zq (v := v0_1) hE Za (dl rfl) (lk rfl f2) ty32 rfl (At.cat (pre := []) (hM.rawAt (pre := [_])) cl0) ?_; intro a hE
           exact ⟨Kept.refl _ _, _, _, rfl, hE, rfl⟩
          ·intro a w ux67 hE hM hp
           have f3 : ux67 3 = v0_1 := hp 0 _ rfl rfl
           refine Zs (vs := [v0_1]) hE Za (dl rfl) (ZZ (ZT (lk rfl f3) Y7)) cb112 (Xl _ p0.Keys v0_1 (hM.rdo hv0_1) r68 e69) ?_
           rintro v w a ⟨rfl, hK⟩ hE
           exact ⟨hK, _, _, rfl, hE, rfl⟩
          ·intro a w ux67 hE hM hp
           have f4 : ux67 4 = (vI r68) := hp 0 _ rfl rfl
           refine Zh hE Za (dl rfl) (lk rfl f4) rfl rfl ?_; intro a hE
           exact ⟨Kept.refl _ _, _, _, rfl, hE, rfl⟩
          ·intro a w ux67 hE hM hp
           have f1 : ux67 1 = (vI x29.Version) := hp 0 _ rfl rfl
           have f5 : ux67 5 = (vI (wr (r68 - 1))) := hp 1 _ rfl rfl
           refine Zs (vs := [(vI x29.Version), (vI 0), (vI (wr (r68 - 1)))]) hE Za (dl rfl) (ZZ (ZT (lk rfl f1) (ZT rfl (ZT (lk rfl f5) Y7)))) cb157 (YK _ x29.Version 0 (wr (r68 - 1)) r70 e71) ?_
           rintro v w a ⟨rfl, hK⟩ hE
           exact ⟨hK, _, _, rfl, hE, rfl⟩
          ·intro a w ux67 hE hM hp
           have f6 : ux67 6 = (vT r70) := hp 0 _ rfl rfl
           refine WF hE Za (dl rfl) (lk rfl f6) ?_; intro a hE
           exact ⟨Kept.refl _ _, _, _, rfl, hE, rfl⟩
          ·intro a w ux67 hE hM hp
           have f7 : ux67 7 = (vT (!r70)) := hp 0 _ rfl rfl
           refine Zd hE Za (dl rfl) (lk rfl f7) ?_; intro a hE
           exact ⟨Kept.refl _ _, _, _, rfl, hE, rfl⟩
          ·intro a w ux67 hE hM hp
           have f8 : ux67 8 = (vT (!r70)) := hp 0 _ rfl rfl
           refine Zg hE (Zv hE rfl (lkb (lk rfl f8) hb72)) (by decide) rfl (fd92_3) ?_; intro a hE
           exact ⟨Kept.refl _ _, _, _, rfl, hE, rfl⟩
          ·intro a w ux67 hE hM hp
           have f8 : ux67 8 = (vT (!r70)) := hp 1 _ rfl rfl
           have f9 : ux67 9 = (ptr b39 (0 + 18)) := hp 0 _ rfl rfl
           refine Zq (v := u35) hE (Zv hE rfl (lkb (lk rfl f8) hb72)) (by decide) (lk rfl f9) Uw rfl (At.cat (pre := [[(vI x29.Number)], [(vI x29.Version)], Flat.enc x29.Nonce]) (hM.rawAt (pre := [])) (cl1 (n := 1) (m := 17) rfl (cl1 (n := 1) (m := 16) rfl (cl1 (n := 16) (m := 0) (Flat.len _) cl0)))) ?_; intro a hE
           exact ⟨Kept.refl _ _, _, _, rfl, hE, rfl⟩
          ·intro a w ux67 hE hM hp
           have f8 : ux67 8 = (vT (!r70)) := hp 1 _ rfl rfl
           have f10 : ux67 10 = u35 := hp 0 _ rfl rfl
           refine Yb hE (Zv hE rfl (lkb (lk rfl f8) hb72)) (by decide) (lk rfl f10) Tryz.underlying57 (hM.rd h36) ?_; intro a hE
           exact ⟨Kept.refl _ _, _, _, rfl, hE, rfl⟩
          ·intro a w ux67 hE hM hp
           have f8 : ux67 8 = (vT (!r70)) := hp 1 _ rfl rfl
           have f11 : ux67 11 = (vI (x29.Label.length : Int)) := hp 0 _ rfl rfl
           refine Zh hE (Zv hE rfl (lkb (lk rfl f8) hb72)) (by decide) (lk rfl f11) rfl rfl ?_; intro a hE
           exact ⟨Kept.refl _ _, _, _, rfl, hE, rfl⟩
          ·intro a w ux67 hE hM hp
           have f8 : ux67 8 = (vT (!r70)) := hp 0 _ rfl rfl
           have f12 : ux67 12 = (vT (decide ((x29.Label.length : Int) > 32))) := hp 1 _ rfl rfl
           refine YT hE Za (dl rfl) (lkb (lk rfl f8) hb72) (lk rfl f12) ?_; intro a hE
           exact ⟨Kept.refl _ _, _, _, rfl, hE, rfl⟩
          ·intro a w ux67 hE hM hp
           have f13 : ux67 13 = (vT (decide ((x29.Label.length : Int) > 32))) := hp 0 _ rfl rfl
           refine Zd hE Za (dl rfl) (lk rfl f13) ?_; intro a hE
           exact ⟨Kept.refl _ _, _, _, rfl, hE, rfl⟩
          ·intro a w ux67 hE hM hp
           have f14 : ux67 14 = (vT (decide ((x29.Label.length : Int) > 32))) := hp 0 _ rfl rfl
           refine Zt hE rfl (lkb (lk rfl f14) hb74) rfl (by decide) ?_; intro a hE
           exact ⟨Kept.refl _ _, _, _, rfl, hE, rfl⟩
          ·intro a w ux67 hE hM hp
           have f14 : ux67 14 = (vT (decide ((x29.Label.length : Int) > 32))) := hp 1 _ rfl rfl
           have f15 : ux67 15 = undef := hp 0 _ rfl rfl
           refine Zt hE rfl (lkb (lk rfl f14) hb74) rfl (by decide) ?_; intro a hE
           exact ⟨Kept.refl _ _, _, _, rfl, hE, rfl⟩
          ·intro a w ux67 hE hM hp
           have f14 : ux67 14 = (vT (decide ((x29.Label.length : Int) > 32))) := hp 1 _ rfl rfl
           have f16 : ux67 16 = undef := hp 0 _ rfl rfl
           refine Zt hE rfl (lkb (lk rfl f14) hb74) rfl (by decide) ?_; intro a hE
           exact ⟨Kept.refl _ _, _, _, rfl, hE, rfl⟩
          ·intro a w ux67 hE hM hp
           have f14 : ux67 14 = (vT (decide ((x29.Label.length : Int) > 32))) := hp 1 _ rfl rfl
           have f17 : ux67 17 = undef := hp 0 _ rfl rfl
           refine Zt hE rfl (lkb (lk rfl f14) hb74) rfl (by decide) ?_; intro a hE
           exact ⟨Kept.refl _ _, _, _, rfl, hE, rfl⟩
          ·intro a w ux67 hE hM hp
           have f14 : ux67 14 = (vT (decide ((x29.Label.length : Int) > 32))) := hp 0 _ rfl rfl
           have f18 : ux67 18 = undef := hp 1 _ rfl rfl
           refine Ya hE Za (dl rfl) (lkb (lk rfl f14) hb74) rfl ?_; intro a hE
           exact ⟨Kept.refl _ _, _, _, rfl, hE, rfl⟩
          ·intro a w ux67 hE hM hg
           have f0 : ux67 0 = (ptr b39 (0 + 1)) := hg 0 (by decide)
           have f1 : ux67 1 = (vI x29.Version) := hg 1 (by decide)
           have f2 : ux67 2 = (ptr b1 (0 + 0)) := hg 2 (by decide)
           have f3 : ux67 3 = v0_1 := hg 3 (by decide)
           have f4 : ux67 4 = (vI r68) := hg 4 (by decide)
           have f5 : ux67 5 = (vI (wr (r68 - 1))) := hg 5 (by decide)
           have f6 : ux67 6 = (vT r70) := hg 6 (by decide)
           have f7 : ux67 7 = (vT (!r70)) := hg 7 (by decide)
           have f8 : ux67 8 = (vT (!r70)) := hg 8 (by decide)
           have f9 : ux67 9 = (ptr b39 (0 + 18)) := hg 9 (by decide)
           have f10 : ux67 10 = u35 := hg 10 (by decide)
           have f11 : ux67 11 = (vI (x29.Label.length : Int)) := hg 11 (by decide)
           have f12 : ux67 12 = (vT (decide ((x29.Label.length : Int) > 32))) := hg 12 (by decide)
           have f13 : ux67 13 = (vT (decide ((x29.Label.length : Int) > 32))) := hg 13 (by decide)
           have f14 : ux67 14 = (vT (decide ((x29.Label.length : Int) > 32))) := hg 14 (by decide)
           have f15 : ux67 15 = undef := hg 15 (by decide)
           have f16 : ux67 16 = undef := hg 16 (by decide)
           have f17 : ux67 17 = undef := hg 17 (by decide)
           have f18 : ux67 18 = undef := hg 18 (by decide)
           have f19 : ux67 19 = (vT true) := hg 19 (by decide)
           have hE := hE.sub (e' := [(59, (ptr b39 (0 + 1))), (60, (vI x29.Version)), (61, (ptr b1 (0 + 0))), (62, v0_1), (63, (vI r68)), (64, (vI (wr (r68 - 1)))), (65, (vT r70)), (66, (vT (!r70))), (67, (vT (!r70))), (68, (ptr b39 (0 + 18))), (69, u35), (70, (vI (x29.Label.length : Int))), (71, (vT (decide ((x29.Label.length : Int) > 32)))), (72, (vT (decide ((x29.Label.length : Int) > 32)))), (73, (vT (decide ((x29.Label.length : Int) > 32)))), (74, undef), (75, undef), (76, undef), (77, undef), (78, (vT true)), (1, (ptr b1 0)), (4, (ptr b39 0)), (29, v0_2), (30, (vI (p0.Records.length : Int))), (31, (vI s24)), (58, (vT j41))]) ⟨lk rfl f0, lk rfl f1, lk rfl f2, lk rfl f3, lk rfl f4, lk rfl f5, lk rfl f6, lk rfl f7, lk rfl f8, lk rfl f9, lk rfl f10, lk rfl f11, lk rfl f12, lk rfl f13, lk rfl f14, lk rfl f15, lk rfl f16, lk rfl f17, lk rfl f18, lk rfl f19, rfl, rfl, rfl, rfl, rfl, rfl, trivial⟩
           refine Zk ?_
           have ht75 := Option.some.inj hl65
           subst ht75
           refine Zn ?_
           have hM := hM.pull (pre := [_])
           have hM := M.fst (l := [_]) hM
           exact ⟨hE.sub ⟨rfl, rfl, rfl, rfl, rfl, trivial⟩, hM⟩
         ·have hl65 := ZC hl65 hb74
          refine Yo (n := 84) (hd := [_, _, _, _, _, _, _, _, _, _, _, _, _, _, _, _, _, _, _, _]) (tl := []) YU rfl rfl [59, 60, 61, 62, 63, 64, 65, 66, 67, 68, 69, 70, 71, 72, 73, 74, 75, 76, 77, 78] (by decide) (fun w => M (Old w0) w0 w [raw b39 (cat [[(vI x29.Number)], [(vI x29.Version)], Flat.enc x29.Nonce, [u35], [u37], Flat.enc x29.Tag]), raw b1 (cat [[v0_1], [(vI p0.Next)], [v0_2], [v0_3], Flat.enc p0.Head])]) (fun j => ([fun v _ => v = (ptr b39 (0 + 1)), fun v _ => v = (vI x29.Version), fun v _ => v = (ptr b1 (0 + 0)), fun v _ => v = v0_1, fun v _ => v = (vI r68), fun v _ => v = (vI (wr (r68 - 1))), fun v _ => v = (vT r70), fun v _ => v = (vT (!r70)), fun v _ => v = (vT (!r70)), fun v _ => v = (ptr b39 (0 + 18)), fun v _ => v = u35, fun v _ => v = (vI (x29.Label.length : Int)), fun v _ => v = (vT (decide ((x29.Label.length : Int) > 32))), fun v _ => v = (vT (decide ((x29.Label.length : Int) > 32))), fun v _ => v = (vT (decide ((x29.Label.length : Int) > 32))), fun v _ => v = (ptr b39 (0 + 19)), fun v _ => v = u37, fun v _ => v = (vI (x29.Body.length : Int)), fun v _ => v = (vT (decide ((x29.Body.length : Int) > 200))), fun v _ => v = (vT (decide ((x29.Body.length : Int) > 200)))] : List (Value → World → Prop)).getD j (fun _ _ => True)) (fun _ _ h hk => h.keep hk) (gup (Zj (Zj (Zj (Zj (Zj (Zj (Zj (Zj (Zj (Zj (Zj (Zj (Zj (Zj (Zj (Zj (Zj (Zj (Zj (Zj Vq))))))))))))))))))))) hE hM.drew (ZM (Zb ?_ (Zb ?_ (Zb ?_ (Zb ?_ (Zb ?_ (Zb ?_ (Zb ?_ (Zb ?_ (Zb ?_ (Zb ?_ (Zb ?_ (Zb ?_ (Zb ?_ (Zb ?_ (Zb ?_ (Zb ?_ (Zb ?_ (Zb ?_ (Zb ?_ (Zb ?_ ZH))))))))))))))))))))) ?_
          ·intro a w ux67 hE hM hp
           refine Zg hE Za (dl rfl) rfl (fd92_1) ?_; intro a hE
           exact ⟨Kept.refl _ _, _, _, rfl, hE, rfl⟩
          ·intro a w ux67 hE hM hp
           have f0 : ux67 0 = (ptr b39 (0 + 1)) := hp 0 _ rfl rfl
           refine Zq (v := (vI x29.Version)) hE Za (dl rfl) (lk rfl f0) ty2 rfl (At.cat (pre := [[(vI x29.Number)]]) (hM.rawAt (pre := [])) (cl1 (n := 1) (m := 0) rfl cl0)) ?_; intro a hE
           exact ⟨Kept.refl _ _, _, _, rfl, hE, rfl⟩
          ·intro a w ux67 hE hM hp
           refine Zg hE Za (dl rfl) rfl (fd36_0) ?_; intro a hE
           exact ⟨Kept.refl _ _, _, _, rfl, hE, rfl⟩
          ·intro a w ux67 hE hM hp
           have f2 : ux67 2 = (ptr b1 (0 + 0)) := hp 0 _ rfl rfl
           refine Zq (v := v0_1) hE Za (dl rfl) (lk rfl f2) ty32 rfl (At.cat (pre := []) (hM.rawAt (pre := [_])) cl0) ?_; intro a hE
           exact ⟨Kept.refl _ _, _, _, rfl, hE, rfl⟩
          ·intro a w ux67 hE hM hp
           have f3 : ux67 3 = v0_1 := hp 0 _ rfl rfl
           refine Zs (vs := [v0_1]) hE Za (dl rfl) (ZZ (ZT (lk rfl f3) Y7)) cb112 (Xl _ p0.Keys v0_1 (hM.rdo hv0_1) r68 e69) ?_
           rintro v w a ⟨rfl, hK⟩ hE
           exact ⟨hK, _, _, rfl, hE, rfl⟩
          ·intro a w ux67 hE hM hp
           have f4 : ux67 4 = (vI r68) := hp 0 _ rfl rfl
           refine Zh hE Za (dl rfl) (lk rfl f4) rfl rfl ?_; intro a hE
           exact ⟨Kept.refl _ _, _, _, rfl, hE, rfl⟩
          ·intro a w ux67 hE hM hp
           have f1 : ux67 1 = (vI x29.Version) := hp 0 _ rfl rfl
           have f5 : ux67 5 = (vI (wr (r68 - 1))) := hp 1 _ rfl rfl
           refine Zs (vs := [(vI x29.Version), (vI 0), (vI (wr (r68 - 1)))]) hE Za (dl rfl) (ZZ (ZT (lk rfl f1) (ZT rfl (ZT (lk rfl f5) Y7)))) cb157 (YK _ x29.Version 0 (wr (r68 - 1)) r70 e71) ?_
           rintro v w a ⟨rfl, hK⟩ hE
           exact ⟨hK, _, _, rfl, hE, rfl⟩
          ·intro a w ux67 hE hM hp
           have f6 : ux67 6 = (vT r70) := hp 0 _ rfl rfl
           refine WF hE Za (dl rfl) (lk rfl f6) ?_; intro a hE
           exact ⟨Kept.refl _ _, _, _, rfl, hE, rfl⟩
          ·intro a w ux67 hE hM hp
           have f7 : ux67 7 = (vT (!r70)) := hp 0 _ rfl rfl
           refine Zd hE Za (dl rfl) (lk rfl f7) ?_; intro a hE
           exact ⟨Kept.refl _ _, _, _, rfl, hE, rfl⟩
          ·intro a w ux67 hE hM hp
           have f8 : ux67 8 = (vT (!r70)) := hp 0 _ rfl rfl
           refine Zg hE (Zv hE rfl (lkb (lk rfl f8) hb72)) (by decide) rfl (fd92_3) ?_; intro a hE
           exact ⟨Kept.refl _ _, _, _, rfl, hE, rfl⟩
          ·intro a w ux67 hE hM hp
           have f8 : ux67 8 = (vT (!r70)) := hp 1 _ rfl rfl
           have f9 : ux67 9 = (ptr b39 (0 + 18)) := hp 0 _ rfl rfl
           refine Zq (v := u35) hE (Zv hE rfl (lkb (lk rfl f8) hb72)) (by decide) (lk rfl f9) Uw rfl (At.cat (pre := [[(vI x29.Number)], [(vI x29.Version)], Flat.enc x29.Nonce]) (hM.rawAt (pre := [])) (cl1 (n := 1) (m := 17) rfl (cl1 (n := 1) (m := 16) rfl (cl1 (n := 16) (m := 0) (Flat.len _) cl0)))) ?_; intro a hE
           exact ⟨Kept.refl _ _, _, _, rfl, hE, rfl⟩
          ·intro a w ux67 hE hM hp
           have f8 : ux67 8 = (vT (!r70)) := hp 1 _ rfl rfl
           have f10 : ux67 10 = u35 := hp 0 _ rfl rfl
           refine Yb hE (Zv hE rfl (lkb (lk rfl f8) hb72)) (by decide) (lk rfl f10) Tryz.underlying57 (hM.rd h36) ?_; intro a hE
           exact ⟨Kept.refl _ _, _, _, rfl, hE, rfl⟩
          ·intro a w ux67 hE hM hp
           have f8 : ux67 8 = (vT (!r70)) := hp 1 _ rfl rfl
           have f11 : ux67 11 = (vI (x29.Label.length : Int)) := hp 0 _ rfl rfl
           refine Zh hE (Zv hE rfl (lkb (lk rfl f8) hb72)) (by decide) (lk rfl f11) rfl rfl ?_; intro a hE
           exact ⟨Kept.refl _ _, _, _, rfl, hE, rfl⟩
          ·intro a w ux67 hE hM hp
           have f8 : ux67 8 = (vT (!r70)) := hp 0 _ rfl rfl
           have f12 : ux67 12 = (vT (decide ((x29.Label.length : Int) > 32))) := hp 1 _ rfl rfl
           refine YT hE Za (dl rfl) (lkb (lk rfl f8) hb72) (lk rfl f12) ?_; intro a hE
           exact ⟨Kept.refl _ _, _, _, rfl, hE, rfl⟩
          ·intro a w ux67 hE hM hp
           have f13 : ux67 13 = (vT (decide ((x29.Label.length : Int) > 32))) := hp 0 _ rfl rfl
           refine Zd hE Za (dl rfl) (lk rfl f13) ?_; intro a hE
           exact ⟨Kept.refl _ _, _, _, rfl, hE, rfl⟩
          ·intro a w ux67 hE hM hp
           have f14 : ux67 14 = (vT (decide ((x29.Label.length : Int) > 32))) := hp 0 _ rfl rfl
           refine Zg hE (Zv hE rfl (lkb (lk rfl f14) hb74)) (by decide) rfl (fd92_4) ?_; intro a hE
           exact ⟨Kept.refl _ _, _, _, rfl, hE, rfl⟩
          ·intro a w ux67 hE hM hp
           have f14 : ux67 14 = (vT (decide ((x29.Label.length : Int) > 32))) := hp 1 _ rfl rfl
           have f15 : ux67 15 = (ptr b39 (0 + 19)) := hp 0 _ rfl rfl
           refine Zq (v := u37) hE (Zv hE rfl (lkb (lk rfl f14) hb74)) (by decide) (lk rfl f15) Uw rfl (At.cat (pre := [[(vI x29.Number)], [(vI x29.Version)], Flat.enc x29.Nonce, [u35]]) (hM.rawAt (pre := [])) (cl1 (n := 1) (m := 18) rfl (cl1 (n := 1) (m := 17) rfl (cl1 (n := 16) (m := 1) (Flat.len _) (cl1 (n := 1) (m := 0) rfl cl0))))) ?_; intro a hE
           exact ⟨Kept.refl _ _, _, _, rfl, hE, rfl⟩
          ·intro a w ux67 hE hM hp
           have f14 : ux67 14 = (vT (decide ((x29.Label.length : Int) > 32))) := hp 1 _ rfl rfl
           have f16 : ux67 16 = u37 := hp 0 _ rfl rfl
           refine Yb hE (Zv hE rfl (lkb (lk rfl f14) hb74)) (by decide) (lk rfl f16) Tryz.underlying57 (hM.rd h38) ?_; intro a hE
           exact ⟨Kept.refl _ _, _, _, rfl, hE, rfl⟩
          ·intro a w ux67 hE hM hp
           have f14 : ux67 14 = (vT (decide ((x29.Label.length : Int) > 32))) := hp 1 _ rfl rfl
           have f17 : ux67 17 = (vI (x29.Body.length : Int)) := hp 0 _ rfl rfl
           refine Zh hE (Zv hE rfl (lkb (lk rfl f14) hb74)) (by decide) (lk rfl f17) rfl rfl ?_; intro a hE
           exact ⟨Kept.refl _ _, _, _, rfl, hE, rfl⟩
          ·intro a w ux67 hE hM hp
           have f14 : ux67 14 = (vT (decide ((x29.Label.length : Int) > 32))) := hp 0 _ rfl rfl
           have f18 : ux67 18 = (vT (decide ((x29.Body.length : Int) > 200))) := hp 1 _ rfl rfl
           refine YT hE Za (dl rfl) (lkb (lk rfl f14) hb74) (lk rfl f18) ?_; intro a hE
           exact ⟨Kept.refl _ _, _, _, rfl, hE, rfl⟩
          ·intro a w ux67 hE hM hg
           have f0 : ux67 0 = (ptr b39 (0 + 1)) := hg 0 (by decide)
           have f1 : ux67 1 = (vI x29.Version) := hg 1 (by decide)
           have f2 : ux67 2 = (ptr b1 (0 + 0)) := hg 2 (by decide)
           have f3 : ux67 3 = v0_1 := hg 3 (by decide)
           have f4 : ux67 4 = (vI r68) := hg 4 (by decide)
           have f5 : ux67 5 = (vI (wr (r68 - 1))) := hg 5 (by decide)
           have f6 : ux67 6 = (vT r70) := hg 6 (by decide)
           have f7 : ux67 7 = (vT (!r70)) := hg 7 (by decide)
           have f8 : ux67 8 = (vT (!r70)) := hg 8 (by decide)
           have f9 : ux67 9 = (ptr b39 (0 + 18)) := hg 9 (by decide)
           have f10 : ux67 10 = u35 := hg 10 (by decide)
           have f11 : ux67 11 = (vI (x29.Label.length : Int)) := hg 11 (by decide)
           have f12 : ux67 12 = (vT (decide ((x29.Label.length : Int) > 32))) := hg 12 (by decide)
           have f13 : ux67 13 = (vT (decide ((x29.Label.length : Int) > 32))) := hg 13 (by decide)
           have f14 : ux67 14 = (vT (decide ((x29.Label.length : Int) > 32))) := hg 14 (by decide)
           have f15 : ux67 15 = (ptr b39 (0 + 19)) := hg 15 (by decide)
           have f16 : ux67 16 = u37 := hg 16 (by decide)
           have f17 : ux67 17 = (vI (x29.Body.length : Int)) := hg 17 (by decide)
           have f18 : ux67 18 = (vT (decide ((x29.Body.length : Int) > 200))) := hg 18 (by decide)
           have f19 : ux67 19 = (vT (decide ((x29.Body.length : Int) > 200))) := hg 19 (by decide)
           have hE := hE.sub (e' := [(59, (ptr b39 (0 + 1))), (60, (vI x29.Version)), (61, (ptr b1 (0 + 0))), (62, v0_1), (63, (vI r68)), (64, (vI (wr (r68 - 1)))), (65, (vT r70)), (66, (vT (!r70))), (67, (vT (!r70))), (68, (ptr b39 (0 + 18))), (69, u35), (70, (vI (x29.Label.length : Int))), (71, (vT (decide ((x29.Label.length : Int) > 32)))), (72, (vT (decide ((x29.Label.length : Int) > 32)))), (73, (vT (decide ((x29.Label.length : Int) > 32)))), (74, (ptr b39 (0 + 19))), (75, u37), (76, (vI (x29.Body.length : Int))), (77, (vT (decide ((x29.Body.length : Int) > 200)))), (78, (vT (decide ((x29.Body.length : Int) > 200)))), (1, (ptr b1 0)), (4, (ptr b39 0)), (29, v0_2), (30, (vI (p0.Records.length : Int))), (31, (vI s24)), (58, (vT j41))]) ⟨lk rfl f0, lk rfl f1, lk rfl f2, lk rfl f3, lk rfl f4, lk rfl f5, lk rfl f6, lk rfl f7, lk rfl f8, lk rfl f9, lk rfl f10, lk rfl f11, lk rfl f12, lk rfl f13, lk rfl f14, lk rfl f15, lk rfl f16, lk rfl f17, lk rfl f18, lk rfl f19, rfl, rfl, rfl, rfl, rfl, rfl, trivial⟩
           refine Zk ?_
           have ht76 := Option.some.inj hl65
           subst ht76
           refine Zn ?_
           have hM := hM.pull (pre := [_])
           have hM := M.fst (l := [_]) hM
           exact ⟨hE.sub ⟨rfl, rfl, rfl, rfl, rfl, trivial⟩, hM⟩
       ·skip
        rintro a w ⟨hE, hM⟩
        refine Zw hE rfl ?_ ?_
        ·intro hb77
         have hF66 := ZD hF66 hb77
         refine Zc (Ze hE Za (dl rfl) rfl ?_); intro a hE
         refine Zf ?_
         have ht78 := hx26 _ (Option.some.inj hF66).symm
         subst ht78
         have hr := Option.some.inj hF22
         subst hr
         have hM := M.fst (l := []) hM
         exact wp_ret (Wg (ZG (ZG (Wg (ZG (ZG (Zy hE rfl (Zu hE rfl) ⟨_, rfl, rfl, hM.kept⟩)))))))
        ·intro hb77
         have hF66 := ZC hF66 hb77
         refine wp_skip (Yl (Zz (wp_region_lit (Zh hE Za (dl rfl) rfl rfl rfl ?_)))); intro a hE
         refine Zd hE Za (dl rfl) rfl ?_; intro a hE
         refine Zk (Zn ?_)
         exact ⟨_, (Option.some.inj hF66).symm, hE.sub ⟨rfl, rfl, rfl, rfl, trivial⟩, hM⟩
    ·intro hb28
     have hs25 := ZC hs25 hb28
     refine wp_exit (Zr (Zr (Yk ?_)))
     have ht79 := hx26 _ (Option.some.inj hs25).symm
     subst ht79
     refine Zn ?_
     exact ⟨(), rfl, hE.sub ⟨rfl, trivial⟩, hM⟩
   ·skip
    rintro a w ⟨s23, ht, hE, hM⟩
    subst ht
    have hF22 := el_nx hF22
    refine Zz (Zc (Zg hE Za (dl rfl) rfl (fd36_3) ?_)); intro a hE
    refine Zq (v := v0_3) hE Za (dl rfl) rfl ty34 rfl (At.cat (pre := [[v0_1], [(vI p0.Next)], [v0_2]]) (hM.rawAt (pre := [])) (cl1 (n := 1) (m := 2) rfl (cl1 (n := 1) (m := 1) rfl (cl1 (n := 1) (m := 0) rfl cl0)))) ?_; intro a hE
    obtain ⟨r80, e81, hF22⟩ := bind_some hF22
    refine Zs (vs := [v0_3, (Value.func (.func 171) #[] [].toArray)]) hE Za (dl rfl) rfl cb170 (Vj _ p0.Events v0_3 (hM.rdo hv0_3) (fun z0 => Vf z0) 171 [] cb171 (fun w2 hk2 z0 zr zhr => c_impl_IsVault_1 w2 z0 zr zhr) r80 e81) ?_
    rintro v w a ⟨rfl, hK⟩ hE
    have hM := hM.keep hK
    refine WF hE Za (dl rfl) rfl ?_; intro a hE
    refine Ze hE Za (dl rfl) rfl ?_; intro a hE
    refine Zf ?_
    have hr := Option.some.inj hF22
    subst hr
    have hM := M.fst (l := []) hM
    exact wp_ret (Zy hE rfl (Zu hE rfl) ⟨_, rfl, rfl, hM.kept⟩)
noncomputable def Yn (p0 : (List GRecord)) (p1 : GRecord → Option (Bool)) (s5 : Int) : Option (Fl Int (Fl Unit Int)) :=
 if (decide (s5 < (p0.length : Int))) = true then ((idx p0 s5).bind fun x10 => ((p1 x10)).bind fun r20 => if r20 = true then (some (Fl.ex (Fl.ex s5))) else (some (Fl.nx (wr (s5 + 1))))) else (some (Fl.ex (Fl.nx ())))
noncomputable def Z6 (p0 : (List GRecord)) (p1 : GRecord → Option (Bool)) : Option (Int) :=
 (ZJ (Yn p0 p1) 0 : Option (Fl Unit Int)).bind fun j1 => j1.el (fun s4 => some (-1)) (fun r => some r)
theorem Vs (w0 : World) (p0 : (List GRecord)) (v0_1 : Value) (hv0_1 : Ro w0 p0 [v0_1]) (p1 : GRecord → Option (Bool)) (k1 : Nat) (q1 : List Value) (hcb1 : Callable Tryz.prog k1) (hg1 : ∀ (w2 : World), Kept (Old w0) w0 w2 → ∀ (z0 : GRecord) (zu1 : Value) (_ : Ro w2 z0.Label [zu1]) (zu2 : Value) (_ : Ro w2 z0.Body [zu2]) (zr : Bool), p1 z0 = some zr → Calls Tryz.prog k1 ([(Value.agg (cat [[(vI z0.Number)], [(vI z0.Version)], Flat.enc z0.Nonce, [zu1], [zu2], Flat.enc z0.Tag]).toArray)] ++ q1).toArray w2 (fun en w3 => ∃ v, en = .returned v ∧ (v = (vT zr) ∧ Kept (Old w2) w2 w3))) (r : Int) (hF : Z6 p0 p1 = some r) :
  Calls Tryz.prog 183 [v0_1, (Value.func (.func k1) #[] q1.toArray)].toArray w0 (fun en w' => ∃ v, en = .returned v ∧ (v = (vI r) ∧ Kept (Old w0) w0 w')) := by
 refine ZA (n := 19) Tryz.func183 rfl rfl (Nat.le_of_ble_eq_true rfl) rfl ?_
 intro a hE
 have hM := M.start w0
 unfold Z6 at hF
 refine Zc (Ze hE Za (dl rfl) rfl ?_); intro a hE
 refine Zf (wp_seq (Zc (Zd hE Za (dl rfl) rfl ?_))); intro a hE
 refine Yb hE Za (dl rfl) rfl Tryz.underlying33 (hM.rd hv0_1) ?_; intro a hE
 refine Zd hE Za (dl rfl) rfl ?_; intro a hE
 refine Zf ?_
 obtain ⟨j1, hl2, hF3⟩ := bind_some hF
 refine ZS (fun a w => ∃ s4 : Unit, j1 = Fl.nx s4 ∧ Env 19 a [] ∧ M (Old w0) w0 w []) ?_ ?_
 ·skip
  refine wp_block ?_
  refine ZL (fun (s5 : Int) a w => Env 19 a [(0, v0_1), (1, (Value.func (.func k1) #[] q1.toArray)), (7, (vI (p0.length : Int))), (8, (vI s5))] ∧ M (Old w0) w0 w []) hl2 ⟨hE.sub ⟨rfl, rfl, rfl, rfl, trivial⟩, hM⟩ ?_
  rintro s5 a w ⟨hE, hM⟩ o8 hs6 hx7
  unfold Yn at hs6
  refine Zc (Zh hE Za (dl rfl) rfl rfl rfl ?_); intro a hE
  refine Zf (wp_seq ?_)
  refine Zw hE rfl ?_ ?_
  ·intro hb9
   have hs6 := ZD hs6 hb9
   refine wp_skip (Zz (wp_seq (wp_block (Zc (Zd hE Za (dl rfl) rfl ?_))))); intro a hE
   refine Ze hE Za (dl rfl) rfl ?_; intro a hE
   refine Zf (Zc (Zd hE Za (dl rfl) rfl ?_)); intro a hE
   refine Zd hE Za (dl rfl) rfl ?_; intro a hE
   refine Zd hE Za (dl rfl) rfl ?_; intro a hE
   obtain ⟨x10, e11, hs6⟩ := bind_some hs6
   have hi12 := ZY e11
   refine ZX hE Za (dl rfl) rfl rfl Tryz.underlying33 Ug (hM.rd hv0_1) hi12.1 ?_; intro a hE
   obtain ⟨cs13, hs14, hA15⟩ := Uf hv0_1 hi12.2 -- ^
   obtain ⟨u16, u18, rfl, h17, h19⟩ := X2 hs14 -- ^
   refine Zm (cs := cat [[(vI x10.Number)], [(vI x10.Version)], Flat.enc x10.Nonce, [u16], [u18], Flat.enc x10.Tag]) hE Za (dl rfl) rfl Ug rfl (hM.atk hA15 (sl_blk hv0_1 hi12.2)) (ZB (cl1 (n := 1) (m := 51) rfl (cl1 (n := 1) (m := 50) rfl (cl1 (n := 16) (m := 34) (Flat.len _) (cl1 (n := 1) (m := 33) rfl (cl1 (n := 1) (m := 32) rfl (cl1 (n := 32) (m := 0) (Flat.len _) cl0))))))) ?_; intro a hE
   obtain ⟨r20, e21, hs6⟩ := bind_some hs6
   refine s_callv2 (vs := [(Value.agg (cat [[(vI x10.Number)], [(vI x10.Version)], Flat.enc x10.Nonce, [u16], [u18], Flat.enc x10.Tag]).toArray)]) hE Za (dl rfl) rfl rfl hcb1 (hg1 _ hM.kept x10 u16 (hM.rdo h17) u18 (hM.rdo h19) r20 e21) ?_
   rintro v w a ⟨rfl, hK⟩ hE
   have hM := hM.keep hK
   refine Zf ?_
   refine Zw hE rfl ?_ ?_
   ·intro hb22
    have hs6 := ZD hs6 hb22
    refine Zc (Zd hE Za (dl rfl) rfl ?_); intro a hE
    refine Ze hE Za (dl rfl) rfl ?_; intro a hE
    refine Zf ?_
    have ht23 := hx7 _ (Option.some.inj hs6).symm
    subst ht23
    have hr := Option.some.inj hF3
    subst hr
    exact wp_ret (Wg (ZG (ZG (Wg (ZG (ZG (Zy hE rfl (Zu hE rfl) ⟨_, rfl, rfl, hM.kept⟩)))))))
   ·intro hb22
    have hs6 := ZC hs6 hb22
    refine wp_skip (Yl (Zz (wp_region_lit (Zh hE Za (dl rfl) rfl rfl rfl ?_)))); intro a hE
    refine Zd hE Za (dl rfl) rfl ?_; intro a hE
    refine Zk (Zn ?_)
    exact ⟨_, (Option.some.inj hs6).symm, hE.sub ⟨rfl, rfl, rfl, rfl, trivial⟩, hM⟩
  ·intro hb9
   have hs6 := ZC hs6 hb9
   refine wp_exit (Zr (Zr (Yk ?_)))
   have ht24 := hx7 _ (Option.some.inj hs6).symm
   subst ht24
   refine Zn ?_
   exact ⟨(), rfl, hE.sub trivial, hM⟩
 ·skip
  rintro a w ⟨s4, ht, hE, hM⟩
  subst ht
  have hF3 := el_nx hF3
  refine Zz (Zc (Ze hE Za (dl rfl) rfl ?_)); intro a hE
  refine Zf ?_
  have hr := Option.some.inj hF3
  subst hr
  exact wp_ret (Zy hE rfl (Zu hE rfl) ⟨_, rfl, rfl, hM.kept⟩)
noncomputable def Wz (p0 : GRecord) (p1 : Int) : Option (Bool) :=
 some (p0.Number == p1)
theorem c_impl_Vault_place_1 (w0 : World) (p0 : GRecord) (v0_1 : Value) (hv0_1 : Ro w0 p0.Label [v0_1]) (v0_2 : Value) (hv0_2 : Ro w0 p0.Body [v0_2]) (pb1 : Nat) (p1 : Int) (hA1 : At w0 pb1 0 ([(vI p1)])) (hB1 : Old w0 pb1) (r : Bool) (hF : Wz p0 p1 = some r) :
  Calls Tryz.prog 184 [(Value.agg (cat [[(vI p0.Number)], [(vI p0.Version)], Flat.enc p0.Nonce, [v0_1], [v0_2], Flat.enc p0.Tag]).toArray), (ptr pb1 0)].toArray w0 (fun en w' => ∃ v, en = .returned v ∧ (v = (vT r) ∧ Kept (Old w0) w0 w')) := by
 refine ZA (n := 8) Tryz.func184 rfl rfl (Nat.le_of_ble_eq_true rfl) rfl ?_
 intro a hE
 have hM := M.start w0
 unfold Wz at hF
 refine Zc (ZV (cs := cat [[(vI p0.Number)], [(vI p0.Version)], Flat.enc p0.Nonce, [v0_1], [v0_2], Flat.enc p0.Tag]) hE hM Za (dl rfl) rfl rfl ?_); intro b1 w a hM hE
 refine Ze hE Za (dl rfl) rfl ?_; intro a hE
 refine Zf (Zc (Zg hE Za (dl rfl) rfl (UQ) ?_)); intro a hE
 refine Zq (v := (vI p0.Number)) hE Za (dl rfl) rfl ty2 rfl (At.cat (pre := []) (hM.rawAt (pre := [])) cl0) ?_; intro a hE
 refine Zq (v := (vI p1)) hE Za (dl rfl) rfl ty2 rfl (hM.atk hA1 hB1) ?_; intro a hE
 refine Zh hE Za (dl rfl) rfl rfl rfl ?_; intro a hE
 refine Ze hE Za (dl rfl) rfl ?_; intro a hE
 refine Zf ?_
 have hr := Option.some.inj hF
 subst hr
 have hM := M.fst (l := []) hM
 exact wp_ret (Zy hE rfl (Zu hE rfl) ⟨_, rfl, rfl, hM.kept⟩)
noncomputable def X1 (p0 : GVault) (p1 : Int) : Option (Int) :=
 (Z6 p0.Records (fun z0 => Wz z0 p1)).bind fun r5 => some r5
theorem c_impl_Vault_place (w0 : World) (p0 : GVault) (v0_1 : Value) (hv0_1 : Ro w0 p0.Keys [v0_1]) (v0_2 : Value) (hv0_2 : Ro w0 p0.Records [v0_2]) (v0_3 : Value) (hv0_3 : Ro w0 p0.Events [v0_3]) (p1 : Int) (r : Int) (hF : X1 p0 p1 = some r) :
  Calls Tryz.prog 137 [(Value.agg (cat [[v0_1], [(vI p0.Next)], [v0_2], [v0_3], Flat.enc p0.Head]).toArray), (vI p1)].toArray w0 (fun en w' => ∃ v, en = .returned v ∧ (v = (vI r) ∧ Kept (Old w0) w0 w')) := by
 refine ZA (n := 9) Tryz.func137 rfl rfl (Nat.le_of_ble_eq_true rfl) rfl ?_
 intro a hE
 have hM := M.start w0
 unfold X1 at hF
 refine Zc (ZV (cs := cat [[v0_1], [(vI p0.Next)], [v0_2], [v0_3], Flat.enc p0.Head]) hE hM Za (dl rfl) rfl rfl ?_); intro b1 w a hM hE
 refine ZV (cs := [(vI p1)]) hE hM Za (dl rfl) rfl rfl ?_; intro b3 w a hM hE
 refine Ze hE Za (dl rfl) rfl ?_; intro a hE
 refine Zf (Zc (Zg hE Za (dl rfl) rfl (U8) ?_)); intro a hE
 refine Zq (v := v0_2) hE Za (dl rfl) rfl ty33 rfl (At.cat (pre := [[v0_1], [(vI p0.Next)]]) (hM.rawAt (pre := [_])) (cl1 (n := 1) (m := 1) rfl (cl1 (n := 1) (m := 0) rfl cl0))) ?_; intro a hE
 refine s_makeFunc hE Za (dl rfl) rfl ?_; intro a hE
 obtain ⟨r5, e6, hF⟩ := bind_some hF
 refine Zs (vs := [v0_2, (Value.func (.func 184) #[] [(ptr b3 0)].toArray)]) hE Za (dl rfl) rfl cb183 (Vs _ p0.Records v0_2 (hM.rdo hv0_2) (fun z0 => Wz z0 p1) 184 [(ptr b3 0)] cb184 (fun w2 hk2 z0 zu0_0 zh0_0 zu0_1 zh0_1 zr zhr => c_impl_Vault_place_1 w2 z0 zu0_0 zh0_0 zu0_1 zh0_1 b3 p1 (at_later (hM.rawAt (pre := [])) hk2 (by simp [cat])) (at_lt_later (hM.rawAt (pre := [])) hk2 (by simp [cat])) zr zhr) r5 e6) ?_
 rintro v w a ⟨rfl, hK⟩ hE
 have hM := hM.keep hK
 refine Ze hE Za (dl rfl) rfl ?_; intro a hE
 refine Zf ?_
 have hr := Option.some.inj hF
 subst hr
 have hM := M.fst (l := []) hM
 exact wp_ret (Zy hE rfl (Zu hE rfl) ⟨_, rfl, rfl, hM.kept⟩)
noncomputable def We (p0 : GVault) (p1 : Int) : Option (Int × Int) :=
 (VZ p0).bind fun r3 => if (!r3) = true then (some (0, 1)) else ((X1 p0 p1).bind fun r6 => if (decide (r6 < 0)) = true then (some (0, 4)) else (some (r6, 0)))
theorem c_impl_checkRecord (w0 : World) (p0 : GVault) (v0_1 : Value) (hv0_1 : Ro w0 p0.Keys [v0_1]) (v0_2 : Value) (hv0_2 : Ro w0 p0.Records [v0_2]) (v0_3 : Value) (hv0_3 : Ro w0 p0.Events [v0_3]) (p1 : Int) (r : Int × Int) (hF : We p0 p1 = some r) :
  Calls Tryz.prog 59 [(Value.agg (cat [[v0_1], [(vI p0.Next)], [v0_2], [v0_3], Flat.enc p0.Head]).toArray), (vI p1)].toArray w0 (fun en w' => ∃ v, en = .returned v ∧ (v = (Value.tuple [(vI r.1), (vI r.2)].toArray) ∧ Kept (Old w0) w0 w')) := by
 refine ZA (n := 16) Tryz.func59 rfl rfl (Nat.le_of_ble_eq_true rfl) rfl ?_
 intro a hE
 have hM := M.start w0
 unfold We at hF
 refine Zc (ZV (cs := cat [[v0_1], [(vI p0.Next)], [v0_2], [v0_3], Flat.enc p0.Head]) hE hM Za (dl rfl) rfl rfl ?_); intro b1 w a hM hE
 refine Ze hE Za (dl rfl) rfl ?_; intro a hE
 refine Ze hE Za (dl rfl) rfl ?_; intro a hE
 refine Zf (wp_seq (Zc (Zm (cs := cat [[v0_1], [(vI p0.Next)], [v0_2], [v0_3], Flat.enc p0.Head]) hE Za (dl rfl) rfl ty36 rfl (hM.rawAt (pre := [])) (ZB (cl1 (n := 1) (m := 35) rfl (cl1 (n := 1) (m := 34) rfl (cl1 (n := 1) (m := 33) rfl (cl1 (n := 1) (m := 32) rfl (cl1 (n := 32) (m := 0) (Flat.len _) cl0)))))) ?_))); intro a hE
 obtain ⟨r3, e4, hF⟩ := bind_some hF
 refine Zs (vs := [(Value.agg (cat [[v0_1], [(vI p0.Next)], [v0_2], [v0_3], Flat.enc p0.Head]).toArray)]) hE Za (dl rfl) rfl cb108 (c_impl_IsVault _ p0 v0_1 (hM.rdo hv0_1) v0_2 (hM.rdo hv0_2) v0_3 (hM.rdo hv0_3) r3 e4) ?_
 rintro v w a ⟨rfl, hK⟩ hE
 have hM := hM.keep hK
 refine WF hE Za (dl rfl) rfl ?_; intro a hE
 refine Zf ?_
 refine Zw hE rfl ?_ ?_
 ·intro hb5
  have hF := ZD hF hb5
  refine Zc (Ze hE Za (dl rfl) rfl ?_); intro a hE
  refine Ze hE Za (dl rfl) rfl ?_; intro a hE
  refine Zf ?_
  have hr := Option.some.inj hF
  subst hr
  have hM := M.fst (l := []) hM
  exact wp_ret (ZG (k_ret2 hE rfl (Zu hE rfl) (Zu hE rfl) ⟨_, rfl, rfl, hM.kept⟩))
 ·intro hb5
  have hF := ZC hF hb5
  refine wp_skip (Zz (Zc (Zm (cs := cat [[v0_1], [(vI p0.Next)], [v0_2], [v0_3], Flat.enc p0.Head]) hE Za (dl rfl) rfl ty36 rfl (hM.rawAt (pre := [])) (ZB (cl1 (n := 1) (m := 35) rfl (cl1 (n := 1) (m := 34) rfl (cl1 (n := 1) (m := 33) rfl (cl1 (n := 1) (m := 32) rfl (cl1 (n := 32) (m := 0) (Flat.len _) cl0)))))) ?_))); intro a hE
  refine Zd hE Za (dl rfl) rfl ?_; intro a hE
  obtain ⟨r6, e7, hF⟩ := bind_some hF
  refine Zs (vs := [(Value.agg (cat [[v0_1], [(vI p0.Next)], [v0_2], [v0_3], Flat.enc p0.Head]).toArray), (vI p1)]) hE Za (dl rfl) rfl cb137 (c_impl_Vault_place _ p0 v0_1 (hM.rdo hv0_1) v0_2 (hM.rdo hv0_2) v0_3 (hM.rdo hv0_3) p1 r6 e7) ?_
  rintro v w a ⟨rfl, hK⟩ hE
  have hM := hM.keep hK
  refine Ze hE Za (dl rfl) rfl ?_; intro a hE
  refine Zf (wp_seq (Zc (Zd hE Za (dl rfl) rfl ?_))); intro a hE
  refine Zh hE Za (dl rfl) rfl rfl rfl ?_; intro a hE
  refine Zf ?_
  refine Zw hE rfl ?_ ?_
  ·intro hb8
   have hF := ZD hF hb8
   refine Zc (Ze hE Za (dl rfl) rfl ?_); intro a hE
   refine Ze hE Za (dl rfl) rfl ?_; intro a hE
   refine Zf ?_
   have hr := Option.some.inj hF
   subst hr
   have hM := M.fst (l := []) hM
   exact wp_ret (ZG (k_ret2 hE rfl (Zu hE rfl) (Zu hE rfl) ⟨_, rfl, rfl, hM.kept⟩))
  ·intro hb8
   have hF := ZC hF hb8
   refine wp_skip (Zz (Zc (Zd hE Za (dl rfl) rfl ?_))); intro a hE
   refine Ze hE Za (dl rfl) rfl ?_; intro a hE
   refine Ze hE Za (dl rfl) rfl ?_; intro a hE
   refine Zf ?_
   have hr := Option.some.inj hF
   subst hr
   have hM := M.fst (l := []) hM
   exact wp_ret (k_ret2 hE rfl (Zu hE rfl) (Zu hE rfl) ⟨_, rfl, rfl, hM.kept⟩)
noncomputable def Ul (p1 : Int) (p2 : Int) (s4 : Int × Int) : Option (Fl (Int × Int) Int) :=
 if (decide (s4.2 ≥ p2)) = true then (((Xn s4.2).bind fun _ => (if ((andI (Ux s4.1 s4.2) 1) == 1) = true then ((Xn (wr (s4.2 - p2))).bind fun _ => some (U4 s4.1 (shlI p1 (wr (s4.2 - p2))))) else (some s4.1) : Option (Int)).bind fun j13 => some j13 : Option (Int)).bind fun j9 => some (Fl.nx (j9, wr (s4.2 - 1)))) else (some (Fl.ex s4.1))
noncomputable def UU (p0 : Int) (p1 : Int) (p2 : Int) : Option (Int) :=
 (ZJ (Ul p1 p2) (p0, 15) : Option (Int)).bind fun j1 => some j1
theorem c_impl_rest (w0 : World) (p0 : Int) (p1 : Int) (p2 : Int) (r : Int) (hF : UU p0 p1 p2 = some r) :
  Calls Tryz.prog 249 [(vI p0), (vI p1), (vI p2)].toArray w0 (fun en w' => ∃ v, en = .returned v ∧ (v = (vI r) ∧ Kept (Old w0) w0 w')) := by
 refine ZA (n := 26) Tryz.func249 rfl rfl (Nat.le_of_ble_eq_true rfl) rfl ?_
 intro a hE
 have hM := M.start w0
 unfold UU at hF
 refine Zc (Ze hE Za (dl rfl) rfl ?_); intro a hE
 refine Zf (wp_seq (Zc (Ze hE Za (dl rfl) rfl ?_))); intro a hE
 refine Zf ?_
 obtain ⟨j1, hl2, hF3⟩ := bind_some hF
 refine ZS (fun a w => Env 26 a [(0, (vI j1))] ∧ M (Old w0) w0 w []) ?_ ?_
 ·skip
  refine wp_block ?_
  refine ZL (fun (s4 : Int × Int) a w => Env 26 a [(0, (vI s4.1)), (1, (vI p1)), (2, (vI p2)), (7, (vI s4.2))] ∧ M (Old w0) w0 w []) hl2 ⟨hE.sub ⟨rfl, rfl, rfl, rfl, trivial⟩, hM⟩ ?_
  rintro s4 a w ⟨hE, hM⟩ o7 hs5 hx6
  unfold Ul at hs5
  refine wp_seq (Zc (Zd hE Za (dl rfl) rfl ?_)); intro a hE
  refine Zd hE Za (dl rfl) rfl ?_; intro a hE
  refine Zh hE Za (dl rfl) rfl rfl rfl ?_; intro a hE
  refine Zf ?_
  refine Zw hE rfl ?_ ?_
  ·intro hb8
   have hs5 := ZD hs5 hb8
   refine wp_skip (Zz ?_)
   obtain ⟨j9, hl10, hF11⟩ := bind_some hs5
   refine ZR (fun a w => Env 26 a [(0, (vI j9)), (1, (vI p1)), (2, (vI p2)), (7, (vI s4.2))] ∧ M (Old w0) w0 w []) ?_ ?_
   ·skip
    refine wp_block (Zc (Zd hE Za (dl rfl) rfl ?_)); intro a hE
    refine Zd hE Za (dl rfl) rfl ?_; intro a hE
    obtain ⟨_, e12, hl10⟩ := bind_some hl10
    have e12 := WD e12
    refine s_sh hE Za (dl rfl) rfl rfl (bI_shr _ _ e12) ?_; intro a hE
    refine Zh hE Za (dl rfl) rfl rfl rfl ?_; intro a hE
    refine Zh hE Za (dl rfl) rfl rfl rfl ?_; intro a hE
    refine Zf ?_
    obtain ⟨j13, hl14, hF15⟩ := bind_some hl10
    refine ZS (fun a w => Env 26 a [(0, (vI j13)), (1, (vI p1)), (2, (vI p2)), (7, (vI s4.2))] ∧ M (Old w0) w0 w []) ?_ ?_
    ·skip
     refine Zw hE rfl ?_ ?_
     ·intro hb16
      have hl14 := ZD hl14 hb16
      refine wp_region_lit (Zd hE Za (dl rfl) rfl ?_); intro a hE
      refine Zd hE Za (dl rfl) rfl ?_; intro a hE
      refine Zd hE Za (dl rfl) rfl ?_; intro a hE
      refine Zd hE Za (dl rfl) rfl ?_; intro a hE
      refine Zh hE Za (dl rfl) rfl rfl rfl ?_; intro a hE
      obtain ⟨_, e17, hl14⟩ := bind_some hl14
      have e17 := WD e17
      refine s_sh hE Za (dl rfl) rfl rfl (bI_shl _ _ e17) ?_; intro a hE
      refine Zh hE Za (dl rfl) rfl rfl rfl ?_; intro a hE
      refine Ze hE Za (dl rfl) rfl ?_; intro a hE
      refine Zk ?_
      have ht18 := Option.some.inj hl14
      subst ht18
      refine Zn ?_
      exact ⟨hE.sub ⟨rfl, rfl, rfl, rfl, trivial⟩, hM⟩
     ·intro hb16
      have hl14 := ZC hl14 hb16
      refine wp_skip ?_
      have ht19 := Option.some.inj hl14
      subst ht19
      refine Zn ?_
      exact ⟨hE.sub ⟨rfl, rfl, rfl, rfl, trivial⟩, hM⟩
    ·skip
     rintro a w ⟨hE, hM⟩
     refine Yl ?_
     have ht20 := Option.some.inj hF15
     subst ht20
     refine Zn ?_
     exact ⟨hE.sub ⟨rfl, rfl, rfl, rfl, trivial⟩, hM⟩
   ·skip
    rintro a w ⟨hE, hM⟩
    refine wp_region_lit (Zd hE Za (dl rfl) rfl ?_); intro a hE
    refine Zh hE Za (dl rfl) rfl rfl rfl ?_; intro a hE
    refine Ze hE Za (dl rfl) rfl ?_; intro a hE
    refine Zk (Zn ?_)
    exact ⟨_, (Option.some.inj hF11).symm, hE.sub ⟨rfl, rfl, rfl, rfl, trivial⟩, hM⟩
  ·intro hb8
   have hs5 := ZC hs5 hb8
   refine wp_exit (Zr (Zr (Yk ?_)))
   have ht21 := hx6 _ (Option.some.inj hs5).symm
   subst ht21
   refine Zn ?_
   exact ⟨hE.sub ⟨rfl, trivial⟩, hM⟩
 ·skip
  rintro a w ⟨hE, hM⟩
  refine Zz (Zc (Zd hE Za (dl rfl) rfl ?_)); intro a hE
  refine Ze hE Za (dl rfl) rfl ?_; intro a hE
  refine Zf ?_
  have hr := Option.some.inj hF3
  subst hr
  exact wp_ret (Zy hE rfl (Zu hE rfl) ⟨_, rfl, rfl, hM.kept⟩)
noncomputable def Y2 (p1 : UInt8) (p2 : UInt8) (s4 : Int × Int) : Option (Fl (Int × Int) Int) :=
 if (decide (s4.2 < 8)) = true then (((Xn s4.2).bind fun _ => (if (((shrB p2 s4.2) &&& 1) == 1) = true then ((Xn s4.2).bind fun _ => some (U4 s4.1 (shlI (bI p1) s4.2))) else (some s4.1) : Option (Int)).bind fun j13 => some j13 : Option (Int)).bind fun j9 => some (Fl.nx (j9, wr (s4.2 + 1)))) else (some (Fl.ex s4.1))
noncomputable def Z5 (p0 : Int) (p1 : UInt8) (p2 : UInt8) : Option (UInt8) :=
 (ZJ (Y2 p1 p2) (0, 0) : Option (Int)).bind fun j1 => (UU j1 p0 8).bind fun r22 => some (Zx r22)
theorem Yz (w0 : World) (p0 : Int) (p1 : UInt8) (p2 : UInt8) (r : UInt8) (hF : Z5 p0 p1 p2 = some r) :
  Calls Tryz.prog 239 [(vI p0), (vB p1), (vB p2)].toArray w0 (fun en w' => ∃ v, en = .returned v ∧ (v = (vB r) ∧ Kept (Old w0) w0 w')) := by
 refine ZA (n := 28) Tryz.func239 rfl rfl (Nat.le_of_ble_eq_true rfl) rfl ?_
 intro a hE
 have hM := M.start w0
 unfold Z5 at hF
 refine Zc (Ze hE Za (dl rfl) rfl ?_); intro a hE
 refine Zf (Zc (Ze hE Za (dl rfl) rfl ?_)); intro a hE
 refine Zf (wp_seq (Zc (Zd hE Za (dl rfl) rfl ?_))); intro a hE
 refine Zf ?_
 obtain ⟨j1, hl2, hF3⟩ := bind_some hF
 refine ZS (fun a w => Env 28 a [(0, (vI p0)), (7, (vI j1))] ∧ M (Old w0) w0 w []) ?_ ?_
 ·skip
  refine wp_block ?_
  refine ZL (fun (s4 : Int × Int) a w => Env 28 a [(0, (vI p0)), (1, (vB p1)), (2, (vB p2)), (7, (vI s4.1)), (9, (vI s4.2))] ∧ M (Old w0) w0 w []) hl2 ⟨hE.sub ⟨rfl, rfl, rfl, rfl, rfl, trivial⟩, hM⟩ ?_
  rintro s4 a w ⟨hE, hM⟩ o7 hs5 hx6
  unfold Y2 at hs5
  refine Zc (Zh hE Za (dl rfl) rfl rfl rfl ?_); intro a hE
  refine Zf (wp_seq ?_)
  refine Zw hE rfl ?_ ?_
  ·intro hb8
   have hs5 := ZD hs5 hb8
   refine wp_skip (Zz ?_)
   obtain ⟨j9, hl10, hF11⟩ := bind_some hs5
   refine ZR (fun a w => Env 28 a [(0, (vI p0)), (1, (vB p1)), (2, (vB p2)), (7, (vI j9)), (9, (vI s4.2))] ∧ M (Old w0) w0 w []) ?_ ?_
   ·skip
    refine wp_block (Zc (Zd hE Za (dl rfl) rfl ?_)); intro a hE
    refine Ze hE Za (dl rfl) rfl ?_; intro a hE
    refine Zf (Zc (Zd hE Za (dl rfl) rfl ?_)); intro a hE
    refine Zd hE Za (dl rfl) rfl ?_; intro a hE
    obtain ⟨_, e12, hl10⟩ := bind_some hl10
    have e12 := WD e12
    refine s_sh hE Za (dl rfl) rfl rfl (bB_shr _ _ e12) ?_; intro a hE
    refine Zh hE Za (dl rfl) rfl rfl (bB_and (shrB p2 s4.2) 1) ?_; intro a hE
    refine Zh hE Za (dl rfl) rfl rfl (bB_eql ((shrB p2 s4.2) &&& 1) 1) ?_; intro a hE
    refine Zf ?_
    obtain ⟨j13, hl14, hF15⟩ := bind_some hl10
    refine ZS (fun a w => Env 28 a [(0, (vI p0)), (1, (vB p1)), (2, (vB p2)), (7, (vI j13)), (9, (vI s4.2))] ∧ M (Old w0) w0 w []) ?_ ?_
    ·skip
     refine Zw hE rfl ?_ ?_
     ·intro hb16
      have hl14 := ZD hl14 hb16
      refine wp_region_lit (Zd hE Za (dl rfl) rfl ?_); intro a hE
      refine Zd hE Za (dl rfl) rfl ?_; intro a hE
      refine YE hE Za (dl rfl) rfl Tryz.underlying5 Tryz.underlying2 ?_; intro a hE
      rw [byte_wide] at hE
      refine Zd hE Za (dl rfl) rfl ?_; intro a hE
      obtain ⟨_, e17, hl14⟩ := bind_some hl14
      have e17 := WD e17
      refine s_sh hE Za (dl rfl) rfl rfl (bI_shl _ _ e17) ?_; intro a hE
      refine Zh hE Za (dl rfl) rfl rfl rfl ?_; intro a hE
      refine Ze hE Za (dl rfl) rfl ?_; intro a hE
      refine Zk ?_
      have ht18 := Option.some.inj hl14
      subst ht18
      refine Zn ?_
      exact ⟨hE.sub ⟨rfl, rfl, rfl, rfl, rfl, trivial⟩, hM⟩
     ·intro hb16
      have hl14 := ZC hl14 hb16
      refine wp_skip ?_
      have ht19 := Option.some.inj hl14
      subst ht19
      refine Zn ?_
      exact ⟨hE.sub ⟨rfl, rfl, rfl, rfl, rfl, trivial⟩, hM⟩
    ·skip
     rintro a w ⟨hE, hM⟩
     refine Yl ?_
     have ht20 := Option.some.inj hF15
     subst ht20
     refine Zn ?_
     exact ⟨hE.sub ⟨rfl, rfl, rfl, rfl, rfl, trivial⟩, hM⟩
   ·skip
    rintro a w ⟨hE, hM⟩
    refine wp_region_lit (Zh hE Za (dl rfl) rfl rfl rfl ?_); intro a hE
    refine Zd hE Za (dl rfl) rfl ?_; intro a hE
    refine Zk (Zn ?_)
    exact ⟨_, (Option.some.inj hF11).symm, hE.sub ⟨rfl, rfl, rfl, rfl, rfl, trivial⟩, hM⟩
  ·intro hb8
   have hs5 := ZC hs5 hb8
   refine wp_exit (Zr (Zr (Yk ?_)))
   have ht21 := hx6 _ (Option.some.inj hs5).symm
   subst ht21
   refine Zn ?_
   exact ⟨hE.sub ⟨rfl, rfl, trivial⟩, hM⟩
 ·skip
  rintro a w ⟨hE, hM⟩
  refine Zz (Zc (Zd hE Za (dl rfl) rfl ?_)); intro a hE
  refine Zd hE Za (dl rfl) rfl ?_; intro a hE
  obtain ⟨r22, e23, hF3⟩ := bind_some hF3
  refine Zs (vs := [(vI j1), (vI p0), (vI 8)]) hE Za (dl rfl) rfl cb249 (c_impl_rest _ j1 p0 8 r22 e23) ?_
  rintro v w a ⟨rfl, hK⟩ hE
  have hM := hM.keep hK
  refine YE hE Za (dl rfl) rfl Tryz.underlying2 Tryz.underlying5 ?_; intro a hE
  rw [Z4] at hE
  refine Ze hE Za (dl rfl) rfl ?_; intro a hE
  refine Zf ?_
  have hr := Option.some.inj hF3
  subst hr
  exact wp_ret (Zy hE rfl (Zu hE rfl) ⟨_, rfl, rfl, hM.kept⟩)
noncomputable def WM (p0 : Int) (s4 : UInt8 × Int × UInt8) : Option (Fl (UInt8 × Int × UInt8) UInt8) :=
 if (decide (s4.2.1 > 0)) = true then (((if ((Int.tmod s4.2.1 2) == 1) = true then ((Z5 p0 s4.2.2 s4.1).bind fun r16 => some r16) else (some s4.2.2) : Option (UInt8)).bind fun j12 => (Z5 p0 s4.1 s4.1).bind fun r20 => some (r20, j12) : Option (UInt8 × UInt8)).bind fun j9 => some (Fl.nx (j9.1, wr (Int.tdiv s4.2.1 2), j9.2))) else (some (Fl.ex s4.2.2))
noncomputable def Xi (p0 : Int) (p1 : UInt8) (p2 : Int) : Option (UInt8) :=
 (ZJ (WM p0) (p1, p2, 1) : Option (UInt8)).bind fun j1 => some j1
theorem c_impl_field_power (w0 : World) (p0 : Int) (p1 : UInt8) (p2 : Int) (r : UInt8) (hF : Xi p0 p1 p2 = some r) :
  Calls Tryz.prog 240 [(vI p0), (vB p1), (vI p2)].toArray w0 (fun en w' => ∃ v, en = .returned v ∧ (v = (vB r) ∧ Kept (Old w0) w0 w')) := by
 refine ZA (n := 24) Tryz.func240 rfl rfl (Nat.le_of_ble_eq_true rfl) rfl ?_
 intro a hE
 have hM := M.start w0
 unfold Xi at hF
 refine Zc (Ze hE Za (dl rfl) rfl ?_); intro a hE
 refine Zf (Zc (Ze hE Za (dl rfl) rfl ?_)); intro a hE
 refine Zf ?_
 obtain ⟨j1, hl2, hF3⟩ := bind_some hF
 refine ZR (fun a w => Env 24 a [(7, (vB j1))] ∧ M (Old w0) w0 w []) ?_ ?_
 ·skip
  refine wp_block ?_
  refine ZL (fun (s4 : UInt8 × Int × UInt8) a w => Env 24 a [(0, (vI p0)), (1, (vB s4.1)), (2, (vI s4.2.1)), (7, (vB s4.2.2))] ∧ M (Old w0) w0 w []) hl2 ⟨hE.sub ⟨rfl, rfl, rfl, rfl, trivial⟩, hM⟩ ?_
  rintro s4 a w ⟨hE, hM⟩ o7 hs5 hx6
  unfold WM at hs5
  refine wp_seq (Zc (Zd hE Za (dl rfl) rfl ?_)); intro a hE
  refine Zh hE Za (dl rfl) rfl rfl rfl ?_; intro a hE
  refine Zf ?_
  refine Zw hE rfl ?_ ?_
  ·intro hb8
   have hs5 := ZD hs5 hb8
   refine wp_skip (Zz ?_)
   obtain ⟨j9, hl10, hF11⟩ := bind_some hs5
   refine ZR (fun a w => Env 24 a [(0, (vI p0)), (1, (vB j9.1)), (2, (vI s4.2.1)), (7, (vB j9.2))] ∧ M (Old w0) w0 w []) ?_ ?_
   ·skip
    refine wp_block ?_
    obtain ⟨j12, hl13, hF14⟩ := bind_some hl10
    refine ZR (fun a w => Env 24 a [(0, (vI p0)), (1, (vB s4.1)), (2, (vI s4.2.1)), (7, (vB j12))] ∧ M (Old w0) w0 w []) ?_ ?_
    ·skip
     refine Zc (Zd hE Za (dl rfl) rfl ?_); intro a hE
     refine Zh hE Za (dl rfl) rfl rfl (bI_rem _ _ (by decide)) ?_; intro a hE
     refine Zh hE Za (dl rfl) rfl rfl rfl ?_; intro a hE
     refine Zf ?_
     refine Zw hE rfl ?_ ?_
     ·intro hb15
      have hl13 := ZD hl13 hb15
      refine wp_region_lit (Zd hE Za (dl rfl) rfl ?_); intro a hE
      refine Zd hE Za (dl rfl) rfl ?_; intro a hE
      refine Zd hE Za (dl rfl) rfl ?_; intro a hE
      obtain ⟨r16, e17, hl13⟩ := bind_some hl13
      refine Zs (vs := [(vI p0), (vB s4.2.2), (vB s4.1)]) hE Za (dl rfl) rfl cb239 (Yz _ p0 s4.2.2 s4.1 r16 e17) ?_
      rintro v w a ⟨rfl, hK⟩ hE
      have hM := hM.keep hK
      refine Ze hE Za (dl rfl) rfl ?_; intro a hE
      refine Zk ?_
      have ht18 := Option.some.inj hl13
      subst ht18
      refine Zn ?_
      exact ⟨hE.sub ⟨rfl, rfl, rfl, rfl, trivial⟩, hM⟩
     ·intro hb15
      have hl13 := ZC hl13 hb15
      refine wp_skip ?_
      have ht19 := Option.some.inj hl13
      subst ht19
      refine Zn ?_
      exact ⟨hE.sub ⟨rfl, rfl, rfl, rfl, trivial⟩, hM⟩
    ·skip
     rintro a w ⟨hE, hM⟩
     refine wp_region_lit (Zd hE Za (dl rfl) rfl ?_); intro a hE
     refine Zd hE Za (dl rfl) rfl ?_; intro a hE
     refine Zd hE Za (dl rfl) rfl ?_; intro a hE
     obtain ⟨r20, e21, hF14⟩ := bind_some hF14
     refine Zs (vs := [(vI p0), (vB s4.1), (vB s4.1)]) hE Za (dl rfl) rfl cb239 (Yz _ p0 s4.1 s4.1 r20 e21) ?_
     rintro v w a ⟨rfl, hK⟩ hE
     have hM := hM.keep hK
     refine Ze hE Za (dl rfl) rfl ?_; intro a hE
     refine Zk (Yl ?_)
     have ht22 := Option.some.inj hF14
     subst ht22
     refine Zn ?_
     exact ⟨hE.sub ⟨rfl, rfl, rfl, rfl, trivial⟩, hM⟩
   ·skip
    rintro a w ⟨hE, hM⟩
    refine wp_region_lit (Zd hE Za (dl rfl) rfl ?_); intro a hE
    refine Zh hE Za (dl rfl) rfl rfl (bI_quo _ _ (by decide)) ?_; intro a hE
    refine Ze hE Za (dl rfl) rfl ?_; intro a hE
    refine Zk (Zn ?_)
    exact ⟨_, (Option.some.inj hF11).symm, hE.sub ⟨rfl, rfl, rfl, rfl, trivial⟩, hM⟩
  ·intro hb8
   have hs5 := ZC hs5 hb8
   refine wp_exit (Zr (Zr (Yk ?_)))
   have ht23 := hx6 _ (Option.some.inj hs5).symm
   subst ht23
   refine Zn ?_
   exact ⟨hE.sub ⟨rfl, trivial⟩, hM⟩
 ·skip
  rintro a w ⟨hE, hM⟩
  refine Zc (Zd hE Za (dl rfl) rfl ?_); intro a hE
  refine Ze hE Za (dl rfl) rfl ?_; intro a hE
  refine Zf ?_
  have hr := Option.some.inj hF3
  subst hr
  exact wp_ret (Zy hE rfl (Zu hE rfl) ⟨_, rfl, rfl, hM.kept⟩)
noncomputable def Yf (p0 : Int) (p1 : UInt8) : Option (UInt8) :=
 (Xi p0 p1 254).bind fun r1 => some r1
theorem V1 (w0 : World) (p0 : Int) (p1 : UInt8) (r : UInt8) (hF : Yf p0 p1 = some r) :
  Calls Tryz.prog 219 [(vI p0), (vB p1)].toArray w0 (fun en w' => ∃ v, en = .returned v ∧ (v = (vB r) ∧ Kept (Old w0) w0 w')) := by
 refine ZA (n := 8) Tryz.func219 rfl rfl (Nat.le_of_ble_eq_true rfl) rfl ?_
 intro a hE
 have hM := M.start w0
 unfold Yf at hF
 refine Zc (Ze hE Za (dl rfl) rfl ?_); intro a hE
 refine Zf (Zc (Zd hE Za (dl rfl) rfl ?_)); intro a hE
 refine Zd hE Za (dl rfl) rfl ?_; intro a hE
 obtain ⟨r1, e2, hF⟩ := bind_some hF
 refine Zs (vs := [(vI p0), (vB p1), (vI 254)]) hE Za (dl rfl) rfl cb240 (c_impl_field_power _ p0 p1 254 r1 e2) ?_
 rintro v w a ⟨rfl, hK⟩ hE
 have hM := hM.keep hK
 refine Ze hE Za (dl rfl) rfl ?_; intro a hE
 refine Zf ?_
 have hr := Option.some.inj hF
 subst hr
 exact wp_ret (Zy hE rfl (Zu hE rfl) ⟨_, rfl, rfl, hM.kept⟩)
noncomputable def Yd (p0 : UInt8) (p1 : Int) : Option (UInt8) :=
 (Xn (wru (BitVec.ofInt 64 (IntKind.u64.wrap p1) &&& BitVec.ofInt 64 7).toNat)).bind fun _ => (Xn (IntKind.u64.wrap (8 - (wru (BitVec.ofInt 64 (IntKind.u64.wrap p1) &&& BitVec.ofInt 64 7).toNat)))).bind fun _ => some ((shlB p0 (wru (BitVec.ofInt 64 (IntKind.u64.wrap p1) &&& BitVec.ofInt 64 7).toNat)) ||| (shrB p0 (IntKind.u64.wrap (8 - (wru (BitVec.ofInt 64 (IntKind.u64.wrap p1) &&& BitVec.ofInt 64 7).toNat)))))
theorem UX (w0 : World) (p0 : UInt8) (p1 : Int) (r : UInt8) (hF : Yd p0 p1 = some r) :
  Calls Tryz.prog 220 [(vB p0), (vI p1)].toArray w0 (fun en w' => ∃ v, en = .returned v ∧ (v = (vB r) ∧ Kept (Old w0) w0 w')) := by
 refine ZA (n := 17) Tryz.func220 rfl rfl (Nat.le_of_ble_eq_true rfl) rfl ?_
 intro a hE
 have hM := M.start w0
 unfold Yd at hF
 refine Zc (Ze hE Za (dl rfl) rfl ?_); intro a hE
 refine Zf (Zc (Zd hE Za (dl rfl) rfl ?_)); intro a hE
 refine YE hE Za (dl rfl) rfl Tryz.underlying3 Tryz.underlying198 ?_; intro a hE
 refine Zh hE Za (dl rfl) rfl rfl rfl ?_; intro a hE
 refine Ze hE Za (dl rfl) rfl ?_; intro a hE
 refine Zf (Zc (Zd hE Za (dl rfl) rfl ?_)); intro a hE
 refine Zd hE Za (dl rfl) rfl ?_; intro a hE
 obtain ⟨_, e1, hF⟩ := bind_some hF
 have e1 := WD e1
 refine s_sh hE Za (dl rfl) rfl rfl (bB_shl _ _ e1) ?_; intro a hE
 refine Zd hE Za (dl rfl) rfl ?_; intro a hE
 refine Zd hE Za (dl rfl) rfl ?_; intro a hE
 refine Zh hE Za (dl rfl) rfl rfl rfl ?_; intro a hE
 obtain ⟨_, e2, hF⟩ := bind_some hF
 have e2 := WD e2
 refine s_sh hE Za (dl rfl) rfl rfl (bB_shr _ _ e2) ?_; intro a hE
 refine Zh hE Za (dl rfl) rfl rfl (bB_or (shlB p0 (wru (BitVec.ofInt 64 (IntKind.u64.wrap p1) &&& BitVec.ofInt 64 7).toNat)) (shrB p0 (IntKind.u64.wrap (8 - (wru (BitVec.ofInt 64 (IntKind.u64.wrap p1) &&& BitVec.ofInt 64 7).toNat))))) ?_; intro a hE
 refine Ze hE Za (dl rfl) rfl ?_; intro a hE
 refine Zf ?_
 have hr := Option.some.inj hF
 subst hr
 exact wp_ret (Zy hE rfl (Zu hE rfl) ⟨_, rfl, rfl, hM.kept⟩)
noncomputable def XM (s8 : (Vector UInt8 256) × Int) : Option (Fl ((Vector UInt8 256) × Int) (Vector UInt8 256)) :=
 if (decide (s8.2 < 256)) = true then ((Yf 285 (Zx s8.2)).bind fun r13 => (Yd r13 1).bind fun r15 => (Yd r13 4).bind fun r17 => (ZK s8.1 s8.2).bind fun x20 => some (Fl.nx ((s8.1.setIfInBounds (s8.2).toNat (((r13 ^^^ r15) ^^^ r17) ^^^ 90)), wr (s8.2 + 1)))) else (some (Fl.ex s8.1))
noncomputable def WQ (s26 : (Vector (Vector UInt8 4) 4) × Int) (s34 : (Vector (Vector UInt8 4) 4) × Int) : Option (Fl ((Vector (Vector UInt8 4) 4) × Int) (Vector (Vector UInt8 4) 4)) :=
 if (decide (s34.2 < 4)) = true then ((Yf 285 (Zx (U4 s26.2 (wr (4 + s34.2))))).bind fun r40 => (ZK s34.1 s26.2).bind fun x43 => (ZK x43 s34.2).bind fun x46 => some (Fl.nx ((s34.1.setIfInBounds (s26.2).toNat (x43.setIfInBounds (s34.2).toNat r40)), wr (s34.2 + 1)))) else (some (Fl.ex s34.1))
noncomputable def WO (s26 : (Vector (Vector UInt8 4) 4) × Int) : Option (Fl ((Vector (Vector UInt8 4) 4) × Int) (Vector (Vector UInt8 4) 4)) :=
 if (decide (s26.2 < 4)) = true then ((ZJ (WQ s26) (s26.1, 0) : Option ((Vector (Vector UInt8 4) 4))).bind fun j31 => some (Fl.nx (j31, wr (s26.2 + 1)))) else (some (Fl.ex s26.1))
noncomputable def WN (s53 : (Vector UInt8 16) × Int) : Option (Fl ((Vector UInt8 16) × Int) (Vector UInt8 16)) :=
 if (decide (s53.2 < 16)) = true then ((ZK s53.1 s53.2).bind fun x59 => some (Fl.nx ((s53.1.setIfInBounds (s53.2).toNat (Zx (Int.tmod (wr ((wr (13 * s53.2)) + 4)) 16))), wr (s53.2 + 1)))) else (some (Fl.ex s53.1))
noncomputable def Wd (p0 : Int) : Option (GCipher) :=
 (ZJ (XM) ((Vector.replicate 256 (0 : UInt8)), 0) : Option ((Vector UInt8 256))).bind fun j5 => (ZJ (WO) ((Vector.replicate 4 (Vector.replicate 4 (0 : UInt8))), 0) : Option ((Vector (Vector UInt8 4) 4))).bind fun j23 => (ZJ (WN) ((Vector.replicate 16 (0 : UInt8)), 0) : Option ((Vector UInt8 16))).bind fun j50 => some (⟨285, j5, j23, j50, p0⟩ : GCipher)
end Go.Proofs.YtifdeoikcebbjaaGreat
