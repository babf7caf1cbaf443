/- The walk of what the law reaches: contracts of functions. -/
import Derived.Test.YtkajmkegelcfjaaC1
set_option linter.unusedVariables false
set_option linter.unusedSimpArgs false
set_option maxRecDepth 20000
set_option maxHeartbeats 400000
namespace Go.Proofs.Ytkajmkegelcfjaa
open Go
open Flat (enc)
noncomputable section
def YZ (p0 : (Ref Gengine)) (r13 : (List (Vector UInt8 16))) (s19 : (Vector UInt8 32) × Int) : Option (Fl ((Vector UInt8 32) × Int) (Vector UInt8 32)) :=
 if (decide (s19.2 < (r13.length : Int))) = true then ((idx r13 s19.2).bind fun x24=>(Xb p0 s19.1 x24).bind fun r29=>some (Fl.nx (r29,wr (s19.2 + 1)))) else (some (Fl.ex s19.1))
def YL (p0 : (Ref Gengine)) (p1 : (List (List UInt8))) : Option ((Vector UInt8 32)) :=
 (XL).bind fun r3=>(Ya p1).bind fun r7=>(WI r7).bind fun r10=>(Vs r10).bind fun r13=>(ZF (YZ p0 r13) (r3,0)).bind fun j16=>some j16
theorem U2 (w0 : World) (p0 : (Ref Gengine)) (v0_1 : Value) (hv0_1 : Ro w0 p0 [v0_1]) (p1 : (List (List UInt8))) (v1_1 : Value) (hv1_1 : Ro w0 p1 [v1_1]) (r : (Vector UInt8 32)) (hF : YL p0 p1 = some r) :
  Calls Try.prog 171 [v0_1,v1_1].toArray w0 (Rt w0 (Value.agg (enc r).toArray)):=by
 refine ce Try.func171 ?_
 intro a hE
 have hM:=M.start w0
 unfold YL at hF
 refine Zb (Zv hE hM Zr fun b1 w a hM hE=>Ze (Zb ?_))
 obtain ⟨r3,e4,hF⟩:=bind_some hF
 refine Zy hE rfl (cbm Try.func194) (Qg _  r3 e4) ?_
 rintro v w a ⟨rfl,hK⟩ hE
 have hM:=hM.keep hK
 refine Zv hE hM Zr fun b5 w a hM hE=>Zk (seg:=enc r3) (cs':=enc r3) hE hM Za rfl rfl rfl Zr (Flat.len _) (zle flq) (Flat.cell _) (Zh flq) fun w a hM hE=>Ze (wp_seq (Zb (Zd hE rfl ?_))); intro a hE
 obtain ⟨r7,e8,hF⟩:=bind_some hF
 refine Zy hE rfl (cbm Try.func197) (Ud _ p1 v1_1 (hM.rdo hv1_1) r7 e8) ?_
 rintro u9 w a ⟨_,rfl,hFr,hK⟩ hE
 have hM:=hM.add hK hFr
 obtain ⟨r10,e11,hF⟩:=bind_some hF
 refine Zy hE rfl (cbm Try.func196) (Ka _ r7 u9 (hM.sl (pre:=[]) noB) r10 e11) ?_
 rintro u12 w a ⟨_,rfl,hFr,hK⟩ hE
 have hM:=hM.add hK hFr
 obtain ⟨r13,e14,hF⟩:=bind_some hF
 refine Zy hE rfl (cbm Try.func195) (Jz _ r10 u12 (hM.sl (pre:=[]) noB) r13 e14) ?_
 rintro u15 w a ⟨_,rfl,hFr,hK⟩ hE
 have hM:=hM.add hK hFr
 refine Yq hE rfl Try.underlying136 (hM.sl (pre:=[]) noB) fun a hE=>Zd hE rfl fun a hE=>Ze ?_
 obtain ⟨j16,hl17,hF18⟩:=bind_some hF
 refine ZW (fun a w=>Env 24 a [(4,(ptr b1 0)),(5,(ptr b5 0))] ∧ M (Old w0) w0 w [raw b5 (enc j16),raw b1 (enc (Vector.replicate 32 (0 : UInt8)))]) ?_ ?_
 ·skip
  refine wp_block ?_
  have hM:=M.fst (l:=[_,_,_]) hM.pull4.pull4.pull2
  refine ZM (fun (s19 : (Vector UInt8 32) × Int) a w=>Env 24 a [(0,v0_1),(4,(ptr b1 0)),(5,(ptr b5 0)),(12,u15),(13,(vI (r13.length : Int))),(14,vI s19.2)] ∧ M (Old w0) w0 w [osl NoB (r13 : List (Vector UInt8 16)) u15,raw b5 (enc s19.1),raw b1 (enc (Vector.replicate 32 (0 : UInt8)))]) hl17 ⟨hE.sub ⟨rfl,rfl,rfl,rfl,rfl,rfl,trivial⟩,hM⟩ ?_
  rintro s19 a w ⟨hE,hM⟩ o22 hs20 hx21
  unfold YZ at hs20
  refine Zb (Zl hE rfl rfl rfl fun a hE=>Ze (wp_seq ?_))
  refine Zq hE rfl ?_ ?_
  ·intro hb23
   have hs20:=Zt hs20 hb23
   refine wp_skip (Zw (wp_seq (wp_block (Zb ?_))))
   obtain ⟨x24,hi26,hs20⟩:=bix hs20
   refine Wx hE rfl rfl Try.underlying136 ZK (hM.sl (pre:=[]) noB) hi26.1 fun a hE=>Zp hE rfl ZK rfl (YA (hM.sl (pre:=[]) noB) hi26.2) (Flat.len _) fun a hE=>Zv hE hM ZK fun b27 w a hM hE=>Zk (seg:=enc x24) (cs':=enc x24) hE hM Za rfl rfl rfl ZK (Flat.len _) (zle flq) (Flat.cell _) (Zh flq) fun w a hM hE=>Ze (wp_region_lit (Zd hE rfl fun a hE=>Zp hE rfl Zr rfl hM.rawAt2 (Flat.len _) fun a hE=>Zp hE rfl ZK rfl hM.rawAt0 (Flat.len _) ?_)); intro a hE
   obtain ⟨r29,e30,hs20⟩:=bind_some hs20
   refine Zy hE rfl (cbm Try.func198) (Qo _ p0 v0_1 (hM.rdo hv0_1) s19.1 x24 r29 e30) ?_
   rintro v w a ⟨rfl,hK⟩ hE
   have hM:=(hM.keep hK).pull2
   refine Zk (seg:=enc r29) (cs':=enc r29) hE hM Za rfl rfl rfl Zr (Flat.len _) (zle flq) (Flat.cell _) (Zh flq) fun w a hM hE=>Zi (Yv (Zw (wp_region_lit (Zl hE rfl rfl rfl fun a hE=>Zd hE rfl fun a hE=>Zi (Zj ?_)))))
   have hM:=M.fst (l:=[_,_,_]) hM.pull3.pull1.pull3
   exact ⟨_,(ois hs20),hE.sub ⟨rfl,rfl,rfl,rfl,rfl,rfl,trivial⟩,hM⟩
  ·intro hb23
   have hs20:=Zs hs20 hb23
   refine wp_exit (Zn (Zn (Yy ?_)))
   obtain rfl:=hx21 _ (ois hs20)
   refine Zj ?_
   have hM:=M.fst (l:=[_,_]) hM.pull2.pull2
   exact ⟨hE.sub ⟨rfl,rfl,trivial⟩,hM⟩
 ·skip
  rintro a w ⟨hE,hM⟩
  refine Zw (Zb (Zp hE rfl Zr rfl hM.rawAt0 (Flat.len _) ?_)); intro a hE
  have hM:=hM.pull1
  refine Zk (seg:=enc j16) (cs':=enc j16) hE hM Za rfl rfl rfl Zr (Flat.len _) (zle flq) (Flat.cell _) (Zh flq) fun w a hM hE=>Ze ?_
  obtain rfl:=Option.some.inj hF18
  have hq32 : Z6 Try.prog _ _ (.cell 4 82) _:=ZD hE rfl Zr rfl hM.rawAt0 (Flat.len _) rfl
  exact wp_ret (ZU hE rfl hq32 ⟨_,rfl,rfl,hM.kept⟩)
def Y7 (p0 : Ghasher) (p1 : (Vector UInt8 32)) (p2 : (Vector UInt8 32)) : Option ((Vector UInt8 32)) :=
 ((slc p1.toList (0 : Int) (32 : Int)).bind fun l15=>(slc p2.toList (0 : Int) (32 : Int)).bind fun l18=>(YL p0.engine ([([1] : List UInt8),l15,l18] : (List (List UInt8)))).bind fun r25=>some r25 : Option ((Vector UInt8 32))).bind fun j9=>some j9
theorem Ur (w0 : World) (p0 : Ghasher) (v0_1 : Value) (hv0_1 : Ro w0 p0.engine [v0_1]) (p1 : (Vector UInt8 32)) (p2 : (Vector UInt8 32)) (r : (Vector UInt8 32)) (hF : Y7 p0 p1 p2 = some r) :
  Calls Try.prog 170 [(Value.agg (cat [[v0_1]]).toArray),(Value.agg (enc p1).toArray),(Value.agg (enc p2).toArray)].toArray w0 (Rt w0 (Value.agg (enc r).toArray)):=by
 refine ce Try.func170 ?_
 intro a hE
 have hM:=M.start w0
 unfold Y7 at hF
 refine Zb (Z7 (cs:=cat [[v0_1]]) hE hM Za ld rfl rfl fun b1 w a hM hE=>Z7 (cs:=enc p1) hE hM Za ld rfl rfl fun b3 w a hM hE=>Z7 (cs:=enc p2) hE hM Za ld rfl rfl fun b5 w a hM hE=>Zv hE hM Zr fun b7 w a hM hE=>Ze ?_)
 obtain ⟨j9,hl10,hF11⟩:=bind_some hF
 refine ZB (fun a w=>Env 14 a [(6,(ptr b7 0))] ∧ M (Old w0) w0 w [raw b7 (enc j9)]) ?_ ?_
 ·skip
  obtain ⟨l15,e16,hl10⟩:=bind_some hl10
  have hb17:=UB e16 -- ^
  obtain ⟨l18,e19,hl10⟩:=bind_some hl10
  have hb20:=UB e19 -- ^
  refine YV (its:=[raw b7 (enc (Vector.replicate 32 (0 : UInt8))),raw b5 (enc p2),raw b3 (enc p1),raw b1 (cat [[v0_1]])]) (mk:=([mkO 2 (fun v=>osl NoB (([1] : List UInt8) : List UInt8) v),mkL 5 [2] 3 (fun us=>[(us.getD 0 undef),(ZO (.slice (some ⟨b3,0,none⟩) 32 32) ((0 : Int)).toNat ((32 : Int)).toNat 1),(ZO (.slice (some ⟨b5,0,none⟩) 32 32) ((0 : Int)).toNat ((32 : Int)).toNat 1)])] : Mk)) [7,8,9,10,11,12] Yr rfl rfl (by decide) rfl hE (fun u=>M.qE (M.qE (M.q0 hM.drew u) emL) emO) (qsP (fun z=>Zo z.E Za ld rfl (zL) (kr0 rfl)) (qsP (v:=v0_1) ?_ (qsM (pr:=fun v=>True) ?_ (qsP (fun z=>Wn (N:=32) z.E Za ld rfl rfl rfl rfl rfl Try.underlying82 ty5 hb17 (kr0 rfl)) (qsP (fun z=>Wn (N:=32) z.E Za ld rfl rfl rfl rfl rfl Try.underlying82 ty5 hb20 (kr0 rfl)) (qsM (pr:=fun v=>True) ?_ qs0)))))) ?_
  ·intro a w ux12 D z
   have hE:=z.E
   have hM:=z.M
   exact ZQ (v:=v0_1) hE rfl yR rfl (At.cat (pre:=[]) hM.rawAt3 cl0) fun a hE=>⟨Kept.refl _ _,_,rfl,hE⟩
  ·intro a w ux12 D z
   have hE:=z.E
   have hD : D 2 = false:=z.F
   have hsL : D 5 = false:=Kv (j:=5) (k:=0) z.c rfl rfl rfl hD
   have hM:=z.M
   refine Z3 (xs:=[.const (vB 1)]) (l:=([1] : List UInt8)) (vs:=[vB 1]) hE hM Za ld rfl rfl Try.underlying22 ty5 rfl (by decide) rfl ?_; intro u13 w a hM hE
   have hM:=M.litOff (its:=_ :: [raw b7 (enc (Vector.replicate 32 (0 : UInt8))),raw b5 (enc p2),raw b3 (enc p1),raw b1 (cat [[v0_1]])]) (mk:=([mkO 2 (fun v=>osl NoB (([1] : List UInt8) : List UInt8) v)] : Mk)) (i:=5) (ds:=[2]) (m:=3) (f:=(fun us=>[(us.getD 0 undef),(ZO (.slice (some ⟨b3,0,none⟩) 32 32) ((0 : Int)).toNat ((32 : Int)).toNat 1),(ZO (.slice (some ⟨b5,0,none⟩) 32 32) ((0 : Int)).toNat ((32 : Int)).toNat 1)])) hM hsL
   exact ⟨_,_,rfl,hE,(M.litOn (its:=[raw b7 (enc (Vector.replicate 32 (0 : UInt8))),raw b5 (enc p2),raw b3 (enc p1),raw b1 (cat [[v0_1]])]) (mk:=([mkO 2 (fun v=>osl NoB (([1] : List UInt8) : List UInt8) v)] : Mk)) (i:=5) (ds:=[2]) (m:=3) (f:=(fun us=>[(us.getD 0 undef),(ZO (.slice (some ⟨b3,0,none⟩) 32 32) ((0 : Int)).toNat ((32 : Int)).toNat 1),(ZO (.slice (some ⟨b5,0,none⟩) 32 32) ((0 : Int)).toNat ((32 : Int)).toNat 1)])) (M.qFill (its:=[raw b7 (enc (Vector.replicate 32 (0 : UInt8))),raw b5 (enc p2),raw b3 (enc p1),raw b1 (cat [[v0_1]])]) (mk1:=[]) (mk2:=[]) (f:=(fun v=>osl NoB (([1] : List UInt8) : List UInt8) v)) hM rfl hD) hsL (by decide)),trivial⟩
  ·intro a w ux12 D z
   have hE:=z.E
   have hD : D 5 = false:=z.F
   have d2 : D 2 = true:=z.p 0 _ rfl rfl
   have hM:=z.M.sure (pre:=[_,_,_,_]) d2
   refine Hb (xs:=[.tmp 9,.tmp 10,.tmp 11]) (vs:=[(ux12 2),(ZO (.slice (some ⟨b3,0,none⟩) 32 32) ((0 : Int)).toNat ((32 : Int)).toNat 1),(ZO (.slice (some ⟨b5,0,none⟩) 32 32) ((0 : Int)).toNat ((32 : Int)).toNat 1)]) hE hM Za ld rfl rfl Try.underlying24 Bq (by decide) (Kp (Ve (hM.sl (pre:=[_,_,_,_]) noB)) (Kp (Ve (Yg (At.sat hM.rawAt2 (by simp) (by decide)) e16)) (Kp (Ve (Yg (At.sat hM.rawAt1 (by simp) (by decide)) e19)) yQ))) ?_; intro b21 w a hM hE
   have hM:=hM.unsure (pre:=[_,_,_,_,_]) d2
   exact ⟨_,_,rfl,hE,M.litFill (its:=[raw b7 (enc (Vector.replicate 32 (0 : UInt8))),raw b5 (enc p2),raw b3 (enc p1),raw b1 (cat [[v0_1]])]) (mk:=([mkO 2 (fun v=>osl NoB (([1] : List UInt8) : List UInt8) v)] : Mk)) (i:=5) (ds:=[2]) (m:=3) (f:=(fun us=>[(us.getD 0 undef),(ZO (.slice (some ⟨b3,0,none⟩) 32 32) ((0 : Int)).toNat ((32 : Int)).toNat 1),(ZO (.slice (some ⟨b5,0,none⟩) 32 32) ((0 : Int)).toNat ((32 : Int)).toNat 1)])) hM rfl hD (by decide),trivial⟩
  ·intro a w ux12 D hE hM hG hall
   have d2:=hall 2 (by decide)
   have d5:=hall 5 (by decide)
   have hM:=((hM.sure (pre:=[_,_,_,_]) d2).sure (pre:=[_,_,_,_,_]) d5).pull
   obtain ⟨b23,f24,hM⟩:=M.litOpen hM
   have hE:=hE.setq (t:=12) rfl f24
   obtain ⟨r25,e26,hl10⟩:=bind_some hl10
   refine Zy hE rfl (cbm Try.func171) (U2 _ p0.engine v0_1 (hM.rdo hv0_1) ([([1] : List UInt8),l15,l18] : (List (List UInt8))) (Value.slice (some ⟨b23,0,none⟩) 3 3) (yv hM.rawAt0 (hM.rawLt (pre:=[])) ⟨(hM.sl (pre:=[_,_,_,_,_]) noB),(Yg (At.sat hM.rawAt3 (by simp) (by decide)) e16),(Yg (At.sat hM.rawAt2 (by simp) (by decide)) e19),trivial⟩ rfl) r25 e26) ?_
   rintro v w a ⟨rfl,hK⟩ hE
   have hM:=(hM.keep hK).pull1
   refine Zk (seg:=enc r25) (cs':=enc r25) hE hM Za rfl rfl rfl Zr (Flat.len _) (zle flq) (Flat.cell _) (Zh flq) fun w a hM hE=>Zi ?_
   obtain rfl:=Option.some.inj hl10
   refine Zj ?_
   have hM:=M.fst (l:=[_]) hM
   exact ⟨hE.sub ⟨rfl,trivial⟩,hM⟩
 ·skip
  rintro a w ⟨hE,hM⟩
  obtain rfl:=Option.some.inj hF11
  have hq28 : Z6 Try.prog _ _ (.cell 6 82) _:=ZD hE rfl Zr rfl hM.rawAt0 (Flat.len _) rfl
  exact wp_ret (ZU hE rfl hq28 ⟨_,rfl,rfl,hM.kept⟩)
def Z9 : Nat → Ghasher → (List (Vector UInt8 32)) → Option ((Vector UInt8 32))
 | 0,_,_=>none
 | fu + 1,p0,p1=>if ((p1.length : Int) == 0) = true then ((YL p0.engine ([] : (List (List UInt8)))).bind fun r6=>some r6) else (if ((p1.length : Int) == 1) = true then ((idx p1 (0 : Int)).bind fun x10=>some x10) else ((VW (p1.length : Int)).bind fun r14=>((slc p1 (0 : Int) r14).bind fun l20=>(Z9 fu p0 l20).bind fun r23=>(slc p1 r14 (p1.length : Int)).bind fun l25=>(Z9 fu p0 l25).bind fun r28=>(Y7 p0 r23 r28).bind fun r30=>some r30 : Option ((Vector UInt8 32))).bind fun j16=>some j16))
theorem Y5 : ∀ (fu : Nat) (w0 : World) (p0 : Ghasher) (v0_1 : Value) (hv0_1 : Ro w0 p0.engine [v0_1]) (p1 : (List (Vector UInt8 32))) (v1_1 : Value) (hv1_1 : Ro w0 p1 [v1_1]) (r : (Vector UInt8 32)) (hF : Z9 fu p0 p1 = some r),
  Calls Try.prog 115 [(Value.agg (cat [[v0_1]]).toArray),v1_1].toArray w0 (Rt w0 (Value.agg (enc r).toArray)):=by
 intro fu
 induction fu with
 | zero=>intros; rename_i hF; unfold Z9 at hF; cases hF
 | succ fu ih =>
 have Y5:=fun (_ : Nat)=>ih
 intro w0 p0 v0_1 hv0_1 p1 v1_1 hv1_1 r hF
 refine ce Try.func115 ?_
 intro a hE
 have hM:=M.start w0
 unfold Z9 at hF
 refine Zb (Z7 (cs:=cat [[v0_1]]) hE hM Za ld rfl rfl fun b1 w a hM hE=>Zv hE hM Zr fun b3 w a hM hE=>Ze (wp_seq (Zb (Zd hE rfl fun a hE=>Yq hE rfl Try.underlying80 (hM.rd hv1_1) fun a hE=>Ze (wp_block (Zb (Zl hE rfl rfl rfl fun a hE=>Zc hE rfl fun a hE=>Ze ?_)))))))
 refine Zq hE rfl ?_ ?_
 ·intro hb5
  have hF:=Zt hF hb5
  refine Zb (ZJ hE rfl (zL) fun a hE=>ZQ (v:=v0_1) hE rfl yR rfl (At.cat (pre:=[]) hM.rawAt1 cl0) ?_); intro a hE
  obtain ⟨r6,e7,hF⟩:=bind_some hF
  refine Zy hE rfl (cbm Try.func171) (U2 _ p0.engine v0_1 (hM.rdo hv0_1) ([] : (List (List UInt8))) (Value.slice none 0 0) J3 r6 e7) ?_
  rintro v w a ⟨rfl,hK⟩ hE
  have hM:=hM.keep hK
  refine Zk (seg:=enc r6) (cs':=enc r6) hE hM Za rfl rfl rfl Zr (Flat.len _) (zle flq) (Flat.cell _) (Zh flq) fun w a hM hE=>Ze ?_
  obtain rfl:=Option.some.inj hF
  have hq8 : Z6 Try.prog _ _ (.cell 4 82) _:=ZD hE rfl Zr rfl hM.rawAt0 (Flat.len _) rfl
  exact wp_ret (Vj (ZL (ZU hE rfl hq8 ⟨_,rfl,rfl,hM.kept⟩)))
 ·intro hb5
  have hF:=Zs hF hb5
  refine Zb (Zl hE rfl rfl rfl fun a hE=>Zc hE rfl fun a hE=>Ze ?_)
  refine Zq hE rfl ?_ ?_
  ·intro hb9
   have hF:=Zt hF hb9
   refine Zb (Zd hE rfl ?_); intro a hE
   obtain ⟨x10,hi12,hF⟩:=bix hF
   refine Wx hE rfl rfl Try.underlying80 Zr (hM.rd hv1_1) hi12.1 fun a hE=>Zp hE rfl Zr rfl (YA (hM.rd hv1_1) hi12.2) (Flat.len _) fun a hE=>Zk (seg:=enc x10) (cs':=enc x10) hE hM Za rfl rfl rfl Zr (Flat.len _) (zle flq) (Flat.cell _) (Zh flq) fun w a hM hE=>Ze ?_
   obtain rfl:=Option.some.inj hF
   have hq13 : Z6 Try.prog _ _ (.cell 4 82) _:=ZD hE rfl Zr rfl hM.rawAt0 (Flat.len _) rfl
   exact wp_ret (Vj (ZL (ZU hE rfl hq13 ⟨_,rfl,rfl,hM.kept⟩)))
  ·intro hb9
   have hF:=Zs hF hb9
   refine wp_skip (Yv (Zw (Zb (Zd hE rfl fun a hE=>Yq hE rfl Try.underlying80 (hM.rd hv1_1) ?_)))); intro a hE
   obtain ⟨r14,e15,hF⟩:=bind_some hF
   refine Zy hE rfl yz (Qs _ (p1.length : Int) r14 e15) ?_
   rintro v w a ⟨rfl,hK⟩ hE
   have hM:=hM.keep hK
   refine Zc hE rfl fun a hE=>Ze ?_
   obtain ⟨j16,hl17,hF18⟩:=bind_some hF
   refine ZB (fun a w=>Env 33 a [(4,(ptr b3 0))] ∧ M (Old w0) w0 w [raw b3 (enc j16)]) ?_ ?_
   ·skip
    obtain ⟨l20,e21,hl17⟩:=bind_some hl17
    have h22 : Rep.sat (Old w0) w0 l20 [(ZO v1_1 ((0 : Int)).toNat (r14).toNat 32)] []:=Yg hv1_1 e21 -- ^
    obtain ⟨r23,e24,hl17⟩:=bind_some hl17
    obtain ⟨l25,e26,hl17⟩:=bind_some hl17
    have h27 : Rep.sat (Old w0) w0 l25 [(ZO v1_1 (r14).toNat ((p1.length : Int)).toNat 32)] []:=Yg hv1_1 e26 -- ^
    obtain ⟨r28,e29,hl17⟩:=bind_some hl17
    obtain ⟨r30,e31,hl17⟩:=bind_some hl17
    refine ZP [21,22,23,24,25,26,27,28,29,30,31,32] Yr rfl rfl (by decide) rfl hE hM (qsP (fun z=>ZA z.E Za ld rfl V2 rfl (z.M.rawAt1) cq (kr0 rfl)) (qsP (fun z=>ZA z.E Za ld rfl V2 rfl (z.M.rawAt1) cq (kr0 rfl)) (qsP (fun z=>Zg z.E Za ld rfl (kr0 rfl)) (qsP (fun z=>Zg z.E Za ld rfl (kr0 rfl)) (qsP (fun z=>WK z.E Za ld rfl rfl (XR rfl) rfl rfl Try.underlying80 Zr (z.M.rd hv1_1) e21 (kr0 rfl)) (qsP (fun z=>ZX z.E Za ld rfl Bi (Y5 fu _ p0 v0_1 (z.M.rdo hv0_1) l20 (ZO v1_1 ((0 : Int)).toNat (r14).toNat 32) (z.M.rdo h22) r23 e24) (kc rfl)) (qsP (fun z=>ZA z.E Za ld rfl V2 rfl (z.M.rawAt1) cq (kr0 rfl)) (qsP (fun z=>Zg z.E Za ld rfl (kr0 rfl)) (qsP (fun z=>Zg z.E Za ld rfl (kr0 rfl)) (qsP (fun z=>WK z.E Za ld rfl (XR rfl) rfl rfl rfl Try.underlying80 Zr (z.M.rd hv1_1) e26 (kr0 rfl)) (qsP (fun z=>ZX z.E Za ld rfl Bi (Y5 fu _ p0 v0_1 (z.M.rdo hv0_1) l25 (ZO v1_1 (r14).toNat ((p1.length : Int)).toNat 32) (z.M.rdo h27) r28 e29) (kc rfl)) (qsP (fun z=>ZX z.E Za ld rfl jf (Ur _ p0 v0_1 (z.M.rdo hv0_1) r23 r28 r30 e31) (kc rfl)) qs0)))))))))))) ?_
    ·intro a w u hE hM
     refine Zk (seg:=enc r30) (cs':=enc r30) hE hM Za rfl rfl rfl Zr (Flat.len _) (zle flq) (Flat.cell _) (Zh flq) fun w a hM hE=>Zi ?_
     obtain rfl:=Option.some.inj hl17
     refine Zj ?_
     have hM:=M.fst (l:=[_]) hM
     exact ⟨hE.sub ⟨rfl,trivial⟩,hM⟩
   ·skip
    rintro a w ⟨hE,hM⟩
    obtain rfl:=Option.some.inj hF18
    have hq33 : Z6 Try.prog _ _ (.cell 4 82) _:=ZD hE rfl Zr rfl hM.rawAt0 (Flat.len _) rfl
    exact wp_ret (ZU hE rfl hq33 ⟨_,rfl,rfl,hM.kept⟩)
def YE : Nat → Ghasher → (List (Vector UInt8 32)) → Int → Option ((List (Vector UInt8 32)))
 | 0,_,_,_=>none
 | fu + 1,p0,p1,p2=>if ((p1.length : Int) == 1) = true then (some ([] : List (Vector UInt8 32))) else ((VW (p1.length : Int)).bind fun r6=>if (decide (p2 < r6)) = true then (((slc p1 (0 : Int) r6).bind fun l15=>(YE fu p0 l15 p2).bind fun r18=>(slc p1 r6 (p1.length : Int)).bind fun l21=>(Z9 64 p0 l21).bind fun r24=>(app 32 r18 ([r24] : List (Vector UInt8 32))).bind fun l28=>some (r18 ++ ([r24] : List (Vector UInt8 32))) : Option ((List (Vector UInt8 32)))).bind fun j9=>some j9) else (((slc p1 r6 (p1.length : Int)).bind fun l40=>(YE fu p0 l40 (wr (p2 - r6))).bind fun r43=>(slc p1 (0 : Int) r6).bind fun l46=>(Z9 64 p0 l46).bind fun r49=>(app 32 r43 ([r49] : List (Vector UInt8 32))).bind fun l53=>some (r43 ++ ([r49] : List (Vector UInt8 32))) : Option ((List (Vector UInt8 32)))).bind fun j34=>some j34))
theorem WZ : ∀ (fu : Nat) (w0 : World) (p0 : Ghasher) (v0_1 : Value) (hv0_1 : Ro w0 p0.engine [v0_1]) (p1 : (List (Vector UInt8 32))) (v1_1 : Value) (hv1_1 : Ro w0 p1 [v1_1]) (p2 : Int) (r : (List (Vector UInt8 32))) (hF : YE fu p0 p1 p2 = some r),
  Calls Try.prog 108 [(Value.agg (cat [[v0_1]]).toArray),v1_1,vI p2].toArray w0 (fun en w'=>∃ v,en = .returned v ∧ (∃ (y1 : Value),v = y1 ∧ Fr w0 w' [osl NoB (r : List (Vector UInt8 32)) y1] ∧ Kept (Old w0) w0 w')):=by
 intro fu
 induction fu with
 | zero=>intros; rename_i hF; unfold YE at hF; cases hF
 | succ fu ih =>
 have WZ:=fun (_ : Nat)=>ih
 intro w0 p0 v0_1 hv0_1 p1 v1_1 hv1_1 p2 r hF
 refine ce Try.func108 ?_
 intro a hE
 have hM:=M.start w0
 unfold YE at hF
 refine Zb (Z7 (cs:=cat [[v0_1]]) hE hM Za ld rfl rfl fun b1 w a hM hE=>Zc hE rfl fun a hE=>Ze (wp_seq (Zb (Zd hE rfl fun a hE=>Yq hE rfl Try.underlying80 (hM.rd hv1_1) fun a hE=>Zl hE rfl rfl rfl fun a hE=>Ze ?_))))
 refine Zq hE rfl ?_ ?_
 ·intro hb3
  have hF:=Zt hF hb3
  refine Zb (Z3 (xs:=[]) (l:=([] : List (Vector UInt8 32))) (vs:=[]) hE hM Za ld rfl rfl Try.underlying80 Zr rfl (by decide) rfl fun u4 w a hM hE=>Zc hE rfl fun a hE=>Ze ?_)
  obtain rfl:=Option.some.inj hF
  have hM:=M.fst (l:=[_]) hM
  exact wp_ret (ZL (ZU hE rfl (ZV hE rfl) ⟨_,rfl,u4,rfl,hM.outF (X2 Wy),hM.kept⟩))
 ·intro hb3
  have hF:=Zs hF hb3
  refine wp_skip (Zw (Zb (Zd hE rfl fun a hE=>Yq hE rfl Try.underlying80 (hM.rd hv1_1) ?_))); intro a hE
  obtain ⟨r6,e7,hF⟩:=bind_some hF
  refine Zy hE rfl yz (Qs _ (p1.length : Int) r6 e7) ?_
  rintro v w a ⟨rfl,hK⟩ hE
  have hM:=hM.keep hK
  refine Zc hE rfl fun a hE=>Ze (wp_seq (Zb (Zd hE rfl fun a hE=>Zd hE rfl fun a hE=>Zl hE rfl rfl rfl fun a hE=>Ze ?_)))
  refine Zq hE rfl ?_ ?_
  ·intro hb8
   have hF:=Zt hF hb8
   obtain ⟨j9,hl10,hF11⟩:=bind_some hF
   refine ZB (fun a w=>∃ (u12 : Value),Env 46 a [(6,u12)] ∧ M (Old w0) w0 w [osl NoB (j9 : List (Vector UInt8 32)) u12]) ?_ ?_
   ·skip
    obtain ⟨l15,e16,hl10⟩:=bind_some hl10
    have h17 : Rep.sat (Old w0) w0 l15 [(ZO v1_1 ((0 : Int)).toNat (r6).toNat 32)] []:=Yg hv1_1 e16 -- ^
    obtain ⟨r18,e19,hl10⟩:=bind_some hl10
    obtain ⟨l21,e22,hl10⟩:=bind_some hl10
    have h23 : Rep.sat (Old w0) w0 l21 [(ZO v1_1 (r6).toNat ((p1.length : Int)).toNat 32)] []:=Yg hv1_1 e22 -- ^
    refine YV (its:=[raw b1 (cat [[v0_1]])]) (mk:=([mkO 5 (fun v=>osl NoB (r18 : List (Vector UInt8 32)) v)] : Mk)) [18,19,20,21,22,23,24,25,26,27] Yr rfl rfl (by decide) rfl hE (fun u=>M.qE (M.q0 hM.drew u) emO) (qsP (v:=(Value.agg (cat [[v0_1]]).toArray)) ?_ (qsP (fun z=>Zg z.E Za ld rfl (kr0 rfl)) (qsP (fun z=>Zg z.E Za ld rfl (kr0 rfl)) (qsP (v:=(ZO v1_1 ((0 : Int)).toNat (r6).toNat 32)) ?_ (qsP (fun z=>Zg z.E Za ld rfl (kr0 rfl)) (qsM (pr:=fun v=>True) ?_ (qsP (v:=(Value.agg (cat [[v0_1]]).toArray)) ?_ (qsP (fun z=>Zg z.E Za ld rfl (kr0 rfl)) (qsP (fun z=>Zg z.E Za ld rfl (kr0 rfl)) (qsP (v:=(ZO v1_1 (r6).toNat ((p1.length : Int)).toNat 32)) ?_ qs0)))))))))) ?_
    ·intro a w ux14 D z
     have hE:=z.E
     have hM:=z.M
     exact Zp hE rfl V2 rfl hM.rawAt0 cq fun a hE=>⟨Kept.refl _ _,_,rfl,hE⟩
    ·intro a w ux14 D z
     have hE:=z.E
     have hM:=z.M
     exact WK hE Za ld rfl rfl (XR rfl) rfl rfl Try.underlying80 Zr (hM.rd hv1_1) e16 fun a hE=>⟨Kept.refl _ _,_,rfl,hE⟩
    ·intro a w ux14 D z
     have hE:=z.E
     have hD : D 5 = false:=z.F
     have hM0:=z.M
     have hM:=z.M
     refine Zy hE rfl yq (WZ fu _ p0 v0_1 (hM.rdo hv0_1) l15 (ZO v1_1 ((0 : Int)).toNat (r6).toNat 32) (hM.rdo h17) p2 r18 e19) ?_
     rintro _ w a ⟨_,rfl,hFr,hK⟩ hE
     have hM:=hM0.add hK hFr
     exact ⟨_,_,rfl,hE,M.qFill (mk1:=[]) (mk2:=[]) (f:=(fun v=>osl NoB (r18 : List (Vector UInt8 32)) v)) hM rfl hD,trivial⟩
    ·intro a w ux14 D z
     have hE:=z.E
     have hM:=z.M
     exact Zp hE rfl V2 rfl hM.rawAt0 cq fun a hE=>⟨Kept.refl _ _,_,rfl,hE⟩
    ·intro a w ux14 D z
     have hE:=z.E
     have hM:=z.M
     exact WK hE Za ld rfl (XR rfl) rfl rfl rfl Try.underlying80 Zr (hM.rd hv1_1) e22 fun a hE=>⟨Kept.refl _ _,_,rfl,hE⟩
    ·intro a w ux14 D hE hM hG hall
     have d5:=hall 5 (by decide)
     have hM:=hM.sure (pre:=[_]) d5
     obtain ⟨r24,e25,hl10⟩:=bind_some hl10
     refine Zy hE rfl Bi (Y5 64 _ p0 v0_1 (hM.rdo hv0_1) l21 (ZO v1_1 (r6).toNat ((p1.length : Int)).toNat 32) (hM.rdo h23) r24 e25) ?_
     rintro v w a ⟨rfl,hK⟩ hE
     have hM:=hM.keep hK
     refine Z3 (xs:=[.tmp 28]) (l:=([r24] : List (Vector UInt8 32))) (vs:=[(Value.agg (enc r24).toArray)]) hE hM Za ld rfl rfl Try.underlying80 Zr rfl (by decide) rfl ?_; intro u26 w a hM hE
     obtain ⟨l28,e29,hl10⟩:=bind_some hl10
     obtain ⟨e32,rfl⟩:=Yn e29
     have hM:=hM.pull2
     refine Yf hE hM Za ld rfl rfl (hM.sl (pre:=[_]) noB) Try.underlying80 Zr rfl (by decide) e32 fun u30 w a hM hE=>Zc hE rfl fun a hE=>Zi ?_
     obtain rfl:=Option.some.inj hl10
     refine Zj ?_
     have hM:=M.fst (l:=[_]) hM
     exact ⟨u30,hE.sub ⟨rfl,trivial⟩,hM⟩
   ·skip
    rintro a w ⟨u12,hE,hM⟩
    obtain rfl:=Option.some.inj hF11
    exact wp_ret (ZL (ZU hE rfl (ZV hE rfl) ⟨_,rfl,u12,rfl,hM.outF (X2 Wy),hM.kept⟩))
  ·intro hb8
   have hF:=Zs hF hb8
   refine wp_skip (Zw ?_)
   obtain ⟨j34,hl35,hF36⟩:=bind_some hF
   refine ZB (fun a w=>∃ (u37 : Value),Env 46 a [(6,u37)] ∧ M (Old w0) w0 w [osl NoB (j34 : List (Vector UInt8 32)) u37]) ?_ ?_
   ·skip
    obtain ⟨l40,e41,hl35⟩:=bind_some hl35
    have h42 : Rep.sat (Old w0) w0 l40 [(ZO v1_1 (r6).toNat ((p1.length : Int)).toNat 32)] []:=Yg hv1_1 e41 -- ^
    obtain ⟨r43,e44,hl35⟩:=bind_some hl35
    obtain ⟨l46,e47,hl35⟩:=bind_some hl35
    have h48 : Rep.sat (Old w0) w0 l46 [(ZO v1_1 ((0 : Int)).toNat (r6).toNat 32)] []:=Yg hv1_1 e47 -- ^
    refine YV (its:=[raw b1 (cat [[v0_1]])]) (mk:=([mkO 7 (fun v=>osl NoB (r43 : List (Vector UInt8 32)) v)] : Mk)) [31,32,33,34,35,36,37,38,39,40,41,42] Yr rfl rfl (by decide) rfl hE (fun u=>M.qE (M.q0 hM.drew u) emO) (qsP (v:=(Value.agg (cat [[v0_1]]).toArray)) ?_ (qsP (fun z=>Zg z.E Za ld rfl (kr0 rfl)) (qsP (fun z=>Zg z.E Za ld rfl (kr0 rfl)) (qsP (v:=(ZO v1_1 (r6).toNat ((p1.length : Int)).toNat 32)) ?_ (qsP (fun z=>Zg z.E Za ld rfl (kr0 rfl)) (qsP (fun z=>Zg z.E Za ld rfl (kr0 rfl)) (qsP (v:=(vI (wr (p2 - r6)))) (fun z=>Z1 z.E Za ld rfl rfl rfl (kr0 rfl)) (qsM (pr:=fun v=>True) ?_ (qsP (v:=(Value.agg (cat [[v0_1]]).toArray)) ?_ (qsP (fun z=>Zg z.E Za ld rfl (kr0 rfl)) (qsP (fun z=>Zg z.E Za ld rfl (kr0 rfl)) (qsP (v:=(ZO v1_1 ((0 : Int)).toNat (r6).toNat 32)) ?_ qs0)))))))))))) ?_
    ·intro a w ux39 D z
     have hE:=z.E
     have hM:=z.M
     exact Zp hE rfl V2 rfl hM.rawAt0 cq fun a hE=>⟨Kept.refl _ _,_,rfl,hE⟩
    ·intro a w ux39 D z
     have hE:=z.E
     have hM:=z.M
     exact WK hE Za ld rfl (XR rfl) rfl rfl rfl Try.underlying80 Zr (hM.rd hv1_1) e41 fun a hE=>⟨Kept.refl _ _,_,rfl,hE⟩
    ·intro a w ux39 D z
     have hE:=z.E
     have hD : D 7 = false:=z.F
     have hM0:=z.M
     have hM:=z.M
     refine Zy hE rfl yq (WZ fu _ p0 v0_1 (hM.rdo hv0_1) l40 (ZO v1_1 (r6).toNat ((p1.length : Int)).toNat 32) (hM.rdo h42) (wr (p2 - r6)) r43 e44) ?_
     rintro _ w a ⟨_,rfl,hFr,hK⟩ hE
     have hM:=hM0.add hK hFr
     exact ⟨_,_,rfl,hE,M.qFill (mk1:=[]) (mk2:=[]) (f:=(fun v=>osl NoB (r43 : List (Vector UInt8 32)) v)) hM rfl hD,trivial⟩
    ·intro a w ux39 D z
     have hE:=z.E
     have hM:=z.M
     exact Zp hE rfl V2 rfl hM.rawAt0 cq fun a hE=>⟨Kept.refl _ _,_,rfl,hE⟩
    ·intro a w ux39 D z
     have hE:=z.E
     have hM:=z.M
     exact WK hE Za ld rfl rfl (XR rfl) rfl rfl Try.underlying80 Zr (hM.rd hv1_1) e47 fun a hE=>⟨Kept.refl _ _,_,rfl,hE⟩
    ·intro a w ux39 D hE hM hG hall
     have d7:=hall 7 (by decide)
     have hM:=hM.sure (pre:=[_]) d7
     obtain ⟨r49,e50,hl35⟩:=bind_some hl35
     refine Zy hE rfl Bi (Y5 64 _ p0 v0_1 (hM.rdo hv0_1) l46 (ZO v1_1 ((0 : Int)).toNat (r6).toNat 32) (hM.rdo h48) r49 e50) ?_
     rintro v w a ⟨rfl,hK⟩ hE
     have hM:=hM.keep hK
     refine Z3 (xs:=[.tmp 43]) (l:=([r49] : List (Vector UInt8 32))) (vs:=[(Value.agg (enc r49).toArray)]) hE hM Za ld rfl rfl Try.underlying80 Zr rfl (by decide) rfl ?_; intro u51 w a hM hE
     obtain ⟨l53,e54,hl35⟩:=bind_some hl35
     obtain ⟨e57,rfl⟩:=Yn e54
     have hM:=hM.pull2
     refine Yf hE hM Za ld rfl rfl (hM.sl (pre:=[_]) noB) Try.underlying80 Zr rfl (by decide) e57 fun u55 w a hM hE=>Zc hE rfl fun a hE=>Zi ?_
     obtain rfl:=Option.some.inj hl35
     refine Zj ?_
     have hM:=M.fst (l:=[_]) hM
     exact ⟨u55,hE.sub ⟨rfl,trivial⟩,hM⟩
   ·skip
    rintro a w ⟨u37,hE,hM⟩
    obtain rfl:=Option.some.inj hF36
    exact wp_ret (ZU hE rfl (ZV hE rfl) ⟨_,rfl,u37,rfl,hM.outF (X2 Wy),hM.kept⟩)
def YH (p0 : (List (Vector UInt8 32))) (r17 : Int × Bool) (r23 : Ghasher) (s37 : (List (Vector UInt8 32)) × (List (List (Vector UInt8 32))) × Int) : Option (Fl ((List (Vector UInt8 32)) × (List (List (Vector UInt8 32))) × Int) ((List (Vector UInt8 32)) × (List (List (Vector UInt8 32))))) :=
 if (decide (s37.2.2 < 2)) = true then (((ZI (((Vector.replicate 2 (0 : Int)).setIfInBounds 0 (wr (r17.1 - 1))).setIfInBounds 1 r17.1) s37.2.2).bind fun x55=>(YU p0).bind fun r58=>(XK x55 0 (wr (r58 - 1))).bind fun r60=>(if r60 = true then (((idx p0 x55).bind fun x76=>(app 32 s37.1 ([x76] : List (Vector UInt8 32))).bind fun l81=>some (s37.1 ++ ([x76] : List (Vector UInt8 32))) : Option ((List (Vector UInt8 32)))).bind fun j70=>(YE 64 r23 p0 x55).bind fun r88=>(app 24 s37.2.1 ([r88] : List (List (Vector UInt8 32)))).bind fun l94=>some (j70,(s37.2.1 ++ ([r88] : List (List (Vector UInt8 32)))))) else (some (s37.1,s37.2.1)) : Option ((List (Vector UInt8 32)) × (List (List (Vector UInt8 32))))).bind fun j62=>some (j62.1,j62.2) : Option ((List (Vector UInt8 32)) × (List (List (Vector UInt8 32))))).bind fun j48=>some (Fl.nx (j48.1,j48.2,wr (s37.2.2 + 1)))) else (some (Fl.ex (s37.1,s37.2.1)))
def Vb (p0 : (List (Vector UInt8 32))) (p1 : (Vector UInt8 32)) : Option (GAbsence × Int) :=
 (if (decide ((p0.length : Int) > 64)) = true then (some true) else ((VY p0).bind fun r10=>some (!r10)) : Option (Bool)).bind fun j5=>if j5 = true then (some ((⟨0,[],[]⟩ : GAbsence),2)) else ((ZG p0 p1 (fun z0 z1=>ZT z0 z1)).bind fun r17=>if r17.2 = true then (some ((⟨0,[],[]⟩ : GAbsence),5)) else ((XB).bind fun r23=>(ZF (YH p0 r17 r23) ([],[],0)).bind fun j30=>some ((⟨r17.1,j30.1,j30.2⟩ : GAbsence),0)))
theorem KL (w0 : World) (p0 : (List (Vector UInt8 32))) (v0_1 : Value) (hv0_1 : Ro w0 p0 [v0_1]) (p1 : (Vector UInt8 32)) (r : GAbsence × Int) (hF : Vb p0 p1 = some r) :
  Calls Try.prog 40 [v0_1,(Value.agg (enc p1).toArray)].toArray w0 (fun en w'=>∃ v,en = .returned v ∧ (∃ (y1 : Value) (y2 : Value),v = (Value.tuple [(Value.agg (cat [[vI r.1.Place],[y1],[y2]]).toArray),vI r.2].toArray) ∧ Fr w0 w' [osl NoB (r.1.Neighbours : List (Vector UInt8 32)) y1,osl NoB (r.1.Proofs : List (List (Vector UInt8 32))) y2] ∧ Kept (Old w0) w0 w')):=by
 refine ce Try.func40 ?_
 intro a hE
 have hM:=M.start w0
 unfold Vb at hF
 refine Zb (Z7 (cs:=enc p1) hE hM Za ld rfl rfl fun b1 w a hM hE=>Zv hE hM Wk fun b3 w a hM hE=>Zc hE rfl fun a hE=>Ze (wp_seq ?_))
 obtain ⟨j5,hl6,hF7⟩:=bind_some hF
 refine ZB (fun a w=>Env 64 a [(0,v0_1),(3,(ptr b1 0)),(4,(ptr b3 0)),(19,vT j5)] ∧ M (Old w0) w0 w [raw b3 (cat [[vI 0],[(Value.slice none 0 0)],[(Value.slice none 0 0)]]),raw b1 (enc p1)]) ?_ ?_
 ·skip
  refine wp_region_lit (Zd hE rfl fun a hE=>Yq hE rfl Try.underlying80 (hM.rd hv0_1) fun a hE=>Zl hE rfl rfl rfl fun a hE=>Zd hE rfl ?_); intro a hE
  refine YP (decide ((p0.length : Int) > 64)) (fun hb8=>?_) (fun hb8=>?_)
  ·have hl6:=Zt hl6 hb8
   refine Zm hE rfl (lkb rfl hb8) rfl (by decide) fun a hE=>Zm hE rfl (lkb rfl hb8) rfl (by decide) fun a hE=>Zm hE rfl (lkb rfl hb8) rfl (by decide) fun a hE=>YY hE (lkb rfl hb8) rfl fun a hE=>Zi ?_
   obtain rfl:=Option.some.inj hl6
   refine Zj ?_
   exact ⟨hE.sub ⟨rfl,rfl,rfl,rfl,trivial⟩,hM⟩
  ·have hl6:=Zs hl6 hb8
   refine Zg hE (Zf hE rfl (lkb rfl hb8)) (by decide) rfl ?_; intro a hE
   obtain ⟨r10,e11,hl6⟩:=bind_some hl6
   refine ZX hE (Zf hE rfl (lkb rfl hb8)) (by decide) rfl (cbm Try.func103) (HF _ p0 v0_1 (hM.rdo hv0_1) r10 e11) ?_
   rintro v w a ⟨rfl,hK⟩ hE
   have hM:=hM.keep hK
   refine UY hE (Zf hE rfl (lkb rfl hb8)) (by decide) rfl fun a hE=>YW hE (lkb rfl hb8) rfl fun a hE=>Zi ?_
   obtain rfl:=Option.some.inj hl6
   refine Zj ?_
   exact ⟨hE.sub ⟨rfl,rfl,rfl,rfl,trivial⟩,hM⟩
 ·skip
  rintro a w ⟨hE,hM⟩
  refine Zq hE rfl ?_ ?_
  ·intro hb13
   have hF7:=Zt hF7 hb13
   refine Zb (Ws (parts:=[]) (vs:=[]) (cs:=cat [[vI 0],[(Value.slice none 0 0)],[(Value.slice none 0 0)]]) hE Za ld rfl rfl Wk pl87 V5 fun a hE=>Zk (seg:=cat [[vI 0],[(Value.slice none 0 0)],[(Value.slice none 0 0)]]) (cs':=cat [[vI 0],[(Value.slice none 0 0)],[(Value.slice none 0 0)]]) hE hM Za rfl rfl rfl Wk cq (Nat.le_of_eq ((Nat.zero_add _).trans (Eq.trans cq (Eq.symm cq)))) (Y2 (cc1 (Flat.cell (0 : Int)) (cc1 Ul (cc1 Ul cc0)))) (Zh (Eq.trans cq (Eq.symm cq))) fun w a hM hE=>Zc hE rfl fun a hE=>Ze ?_)
   have hM:=M.nilS (α:=(List (Vector UInt8 32))) NoB noB (M.nilS (α:=(Vector UInt8 32)) NoB noB hM)
   obtain rfl:=Option.some.inj hF7
   have hq16 : Z6 Try.prog _ _ (.cell 4 87) _:=ZD hE rfl Wk rfl hM.rawAt2 cq rfl
   have hM:=M.fst (l:=[_,_]) hM.pull1
   exact wp_ret (ZL (WR hE rfl hq16 (ZV hE rfl) ⟨_,rfl,(Value.slice none 0 0),(Value.slice none 0 0),rfl,hM.outF (X2 (X2 Wy)),hM.kept⟩))
  ·intro hb13
   have hF7:=Zs hF7 hb13
   refine wp_skip (Zw (Zb (Zd hE rfl fun a hE=>Zp hE rfl Zr rfl hM.rawAt1 (Flat.len _) ?_))); intro a hE
   obtain ⟨r17,e18,hF7⟩:=bind_some hF7
   refine Zy hE rfl (cbm Try.func104) (Xo _ p0 v0_1 (hM.rdo hv0_1) p1 (fun z0 z1=>ZT z0 z1) 105 [] jr (fun w2 hk2 z0 z1 zr zhr=>VJ w2 z0 z1 zr zhr) r17 e18) ?_
   rintro v w a ⟨rfl,hK⟩ hE
   have hM:=hM.keep hK
   refine Zd hE rfl fun a hE=>ZZ hE Za ld rfl rfl fun a hE=>ZZ hE Za ld rfl rfl fun a hE=>Zc hE rfl fun a hE=>Zc hE rfl fun a hE=>Ze (wp_seq (Zb (Zd hE rfl fun a hE=>Ze ?_)))
   refine Zq hE rfl ?_ ?_
   ·intro hb19
    have hF7:=Zt hF7 hb19
    refine Zb (Ws (parts:=[]) (vs:=[]) (cs:=cat [[vI 0],[(Value.slice none 0 0)],[(Value.slice none 0 0)]]) hE Za ld rfl rfl Wk pl87 V5 fun a hE=>Zk (seg:=cat [[vI 0],[(Value.slice none 0 0)],[(Value.slice none 0 0)]]) (cs':=cat [[vI 0],[(Value.slice none 0 0)],[(Value.slice none 0 0)]]) hE hM Za rfl rfl rfl Wk cq (Nat.le_of_eq ((Nat.zero_add _).trans (Eq.trans cq (Eq.symm cq)))) (Y2 (cc1 (Flat.cell (0 : Int)) (cc1 Ul (cc1 Ul cc0)))) (Zh (Eq.trans cq (Eq.symm cq))) fun w a hM hE=>Zc hE rfl fun a hE=>Ze ?_)
    have hM:=M.nilS (α:=(List (Vector UInt8 32))) NoB noB (M.nilS (α:=(Vector UInt8 32)) NoB noB hM)
    obtain rfl:=Option.some.inj hF7
    have hq22 : Z6 Try.prog _ _ (.cell 4 87) _:=ZD hE rfl Wk rfl hM.rawAt2 cq rfl
    have hM:=M.fst (l:=[_,_]) hM.pull1
    exact wp_ret (ZL (WR hE rfl hq22 (ZV hE rfl) ⟨_,rfl,(Value.slice none 0 0),(Value.slice none 0 0),rfl,hM.outF (X2 (X2 Wy)),hM.kept⟩))
   ·intro hb19
    have hF7:=Zs hF7 hb19
    refine wp_skip (Zw (Zb ?_))
    obtain ⟨r23,e24,hF7⟩:=bind_some hF7
    refine Zy hE rfl jk (UN _  r23 e24) ?_
    rintro v w a ⟨u25,rfl,hFr,hK⟩ hE
    have hM:=hM.add hK hFr
    refine Zd hE rfl fun a hE=>Ws (parts:=[(0,.tmp 30)]) (vs:=[(0,vI r17.1)]) (cs:=cat [[vI r17.1],[(Value.slice none 0 0)],[(Value.slice none 0 0)]]) hE Za ld rfl rfl Wk pl87 (Xm (pre:=[]) (seg:=[vI 0]) (seg':=[vI r17.1]) (post:=[[(Value.slice none 0 0)],[(Value.slice none 0 0)]]) rfl cl0 rfl rfl rfl V5) fun a hE=>Zv hE hM V2 fun b26 w a hM hE=>Zv hE hM Wk ?_; intro b28 w a hM hE
    have hM:=hM.pull1
    refine Zk (seg:=cat [[u25]]) (cs':=cat [[u25]]) hE hM Za rfl rfl rfl V2 cq (Nat.le_of_eq ((Nat.zero_add _).trans (Eq.trans cq (Eq.symm cq)))) (Y2 (cc1 (Rep.cell (hM.ro (pre:=[_,_]) noB)) cc0)) (Zh (Eq.trans cq (Eq.symm cq))) ?_; intro w a hM hE
    have hM:=hM.pull1
    refine Zk (seg:=cat [[vI r17.1],[(Value.slice none 0 0)],[(Value.slice none 0 0)]]) (cs':=cat [[vI r17.1],[(Value.slice none 0 0)],[(Value.slice none 0 0)]]) hE hM Za rfl rfl rfl Wk cq (Nat.le_of_eq ((Nat.zero_add _).trans (Eq.trans cq (Eq.symm cq)))) (Y2 (cc1 (Flat.cell (r17.1 : Int)) (cc1 Ul (cc1 Ul cc0)))) (Zh (Eq.trans cq (Eq.symm cq))) fun w a hM hE=>Ze (wp_seq (Zb (Zd hE rfl fun a hE=>Zl hE rfl rfl rfl fun a hE=>Zd hE rfl fun a hE=>Yx (parts:=[(0,.tmp 33),(1,.tmp 34)]) (vs:=[(0,(vI (wr (r17.1 - 1)))),(1,vI r17.1)]) (cs:=enc (((Vector.replicate 2 (0 : Int)).setIfInBounds 0 (wr (r17.1 - 1))).setIfInBounds 1 r17.1)) hE Za ld rfl rfl ty155 rfl ty3 (Wl (v:=(Vector.replicate 2 (0 : Int))) (x:=wr (r17.1 - 1)) rfl (by decide) rfl (Wl (v:=((Vector.replicate 2 (0 : Int)).setIfInBounds 0 (wr (r17.1 - 1)))) (x:=r17.1) rfl (by decide) rfl Yk)) fun a hE=>Zd hE rfl fun a hE=>Ze ?_)))
    obtain ⟨j30,hl31,hF32⟩:=bind_some hF7
    refine ZW (fun a w=>∃ (u33 : Value) (u35 : Value),Env 64 a [(4,(ptr b3 0)),(9,(ptr b28 0))] ∧ M (Old w0) w0 w [raw b28 (cat [[vI r17.1],[u33],[u35]]),raw b3 (cat [[vI 0],[(Value.slice none 0 0)],[(Value.slice none 0 0)]]),osl NoB (j30.1 : List (Vector UInt8 32)) u33,osl NoB (j30.2 : List (List (Vector UInt8 32))) u35]) ?_ ?_
    ·skip
     refine wp_block ?_
     have hM:=M.fst (l:=[_,_,_,_,_,_]) ((((((M.nilS (α:=(List (Vector UInt8 32))) NoB noB (M.nilS (α:=(Vector UInt8 32)) NoB noB hM)).pull1).pull5).pull5).pull5).pull5)
     refine ZM (fun (s37 : (List (Vector UInt8 32)) × (List (List (Vector UInt8 32))) × Int) a w=>∃ (u38 : Value) (u40 : Value),Env 64 a [(0,v0_1),(4,(ptr b3 0)),(8,(ptr b26 0)),(9,(ptr b28 0)),(35,(Value.agg (enc (((Vector.replicate 2 (0 : Int)).setIfInBounds 0 (wr (r17.1 - 1))).setIfInBounds 1 r17.1)).toArray)),(36,vI s37.2.2)] ∧ M (Old w0) w0 w [raw b28 (cat [[vI r17.1],[u38],[u40]]),raw b26 (cat [[u25]]),own NoB (r23.engine : (Ref Gengine)) [u25],raw b3 (cat [[vI 0],[(Value.slice none 0 0)],[(Value.slice none 0 0)]]),osl NoB (s37.1 : List (Vector UInt8 32)) u38,osl NoB (s37.2.1 : List (List (Vector UInt8 32))) u40]) hl31 ⟨(Value.slice none 0 0),(Value.slice none 0 0),hE.sub ⟨rfl,rfl,rfl,rfl,rfl,rfl,trivial⟩,hM⟩ ?_
     rintro s37 a w ⟨u38,u40,hE,hM⟩ o44 hs42 hx43
     unfold YH at hs42
     refine Zb (Zl hE rfl rfl rfl fun a hE=>Ze (wp_seq ?_))
     refine Zq hE rfl ?_ ?_
     ·intro hb47
      have hs42:=Zt hs42 hb47
      refine wp_skip (Zw ?_)
      obtain ⟨j48,hl49,hF50⟩:=bind_some hs42
      refine ZB (fun a w=>∃ (u51 : Value) (u53 : Value),Env 64 a [(0,v0_1),(4,(ptr b3 0)),(8,(ptr b26 0)),(9,(ptr b28 0)),(35,(Value.agg (enc (((Vector.replicate 2 (0 : Int)).setIfInBounds 0 (wr (r17.1 - 1))).setIfInBounds 1 r17.1)).toArray)),(36,vI s37.2.2)] ∧ M (Old w0) w0 w [raw b28 (cat [[vI r17.1],[u51],[u53]]),raw b26 (cat [[u25]]),own NoB (r23.engine : (Ref Gengine)) [u25],raw b3 (cat [[vI 0],[(Value.slice none 0 0)],[(Value.slice none 0 0)]]),osl NoB (j48.1 : List (Vector UInt8 32)) u51,osl NoB (j48.2 : List (List (Vector UInt8 32))) u53]) ?_ ?_
      ·skip
       refine wp_block (Zb ?_)
       obtain ⟨x55,hi57,hl49⟩:=bvx hl49
       refine To hE Za ld rfl rfl Try.underlying155 ty3 rfl rfl hi57 rfl fun a hE=>Zc hE rfl fun a hE=>Ze (Zb (Zd hE rfl fun a hE=>Zd hE rfl ?_)); intro a hE
       obtain ⟨r58,e59,hl49⟩:=bind_some hl49
       refine Zy hE rfl (cbm Try.func107) (TD _ p0 v0_1 (hM.rdo hv0_1) r58 e59) ?_
       rintro v w a ⟨rfl,hK⟩ hE
       have hM:=hM.keep hK
       refine Zl hE rfl rfl rfl ?_; intro a hE
       obtain ⟨r60,e61,hl49⟩:=bind_some hl49
       refine Zy hE rfl cb56 (UE _ x55 0 (wr (r58 - 1)) r60 e61) ?_
       rintro v w a ⟨rfl,hK⟩ hE
       have hM:=hM.keep hK
       refine Ze ?_
       obtain ⟨j62,hl63,hF64⟩:=bind_some hl49
       refine ZW (fun a w=>∃ (u65 : Value) (u67 : Value),Env 64 a [(0,v0_1),(4,(ptr b3 0)),(8,(ptr b26 0)),(9,(ptr b28 0)),(35,(Value.agg (enc (((Vector.replicate 2 (0 : Int)).setIfInBounds 0 (wr (r17.1 - 1))).setIfInBounds 1 r17.1)).toArray)),(36,vI s37.2.2)] ∧ M (Old w0) w0 w [raw b28 (cat [[vI r17.1],[u65],[u67]]),raw b26 (cat [[u25]]),own NoB (r23.engine : (Ref Gengine)) [u25],raw b3 (cat [[vI 0],[(Value.slice none 0 0)],[(Value.slice none 0 0)]]),osl NoB (j62.1 : List (Vector UInt8 32)) u65,osl NoB (j62.2 : List (List (Vector UInt8 32))) u67]) ?_ ?_
       ·skip
        refine Zq hE rfl ?_ ?_
        ·intro hb69
         have hl63:=Zt hl63 hb69
         obtain ⟨j70,hl71,hF72⟩:=bind_some hl63
         refine ZB (fun a w=>∃ (u73 : Value),Env 64 a [(0,v0_1),(4,(ptr b3 0)),(8,(ptr b26 0)),(9,(ptr b28 0)),(11,vI x55),(35,(Value.agg (enc (((Vector.replicate 2 (0 : Int)).setIfInBounds 0 (wr (r17.1 - 1))).setIfInBounds 1 r17.1)).toArray)),(36,vI s37.2.2)] ∧ M (Old w0) w0 w [raw b28 (cat [[vI r17.1],[u73],[u40]]),raw b26 (cat [[u25]]),own NoB (r23.engine : (Ref Gengine)) [u25],raw b3 (cat [[vI 0],[(Value.slice none 0 0)],[(Value.slice none 0 0)]]),osl NoB (s37.2.1 : List (List (Vector UInt8 32))) u40,osl NoB (j70 : List (Vector UInt8 32)) u73]) ?_ ?_
         ·skip
          obtain ⟨x76,hi78,hl71⟩:=bix hl71
          refine YV (its:=[raw b28 (cat [[vI r17.1],[u38],[u40]]),raw b26 (cat [[u25]]),own NoB (r23.engine : (Ref Gengine)) [u25],raw b3 (cat [[vI 0],[(Value.slice none 0 0)],[(Value.slice none 0 0)]]),osl NoB (s37.1 : List (Vector UInt8 32)) u38,osl NoB (s37.2.1 : List (List (Vector UInt8 32))) u40]) (mk:=([mkO 6 (fun v=>osl NoB (([x76] : List (Vector UInt8 32)) : List (Vector UInt8 32)) v)] : Mk)) [44,45,46,47,48,49,50] Yr rfl rfl (by decide) rfl hE (fun u=>M.qE (M.q0 hM.drew u) emO) (qsP (fun z=>Zo z.E Za ld rfl (WA) (kr0 rfl)) (qsP (v:=u38) ?_ (qsP (fun z=>Zg z.E Za ld rfl (kr0 rfl)) (qsP (fun z=>Zg z.E Za ld rfl (kr0 rfl)) (qsP (v:=(ptr (sb v0_1) (so v0_1 + (x55).toNat * 32))) ?_ (qsP (v:=(Value.agg (enc x76).toArray)) ?_ (qsM (pr:=fun v=>True) ?_ qs0))))))) ?_
          ·intro a w ux75 D z
           have hE:=z.E
           have hM:=z.M
           exact ZQ (v:=u38) hE rfl VT rfl (At.cat (pre:=[[vI r17.1]]) hM.rawAt0 ck) fun a hE=>⟨Kept.refl _ _,_,rfl,hE⟩
          ·intro a w ux75 D z
           have hE:=z.E
           have hM:=z.M
           exact Wx hE rfl rfl Try.underlying80 Zr (hM.rd hv0_1) hi78.1 fun a hE=>⟨Kept.refl _ _,_,rfl,hE⟩
          ·intro a w ux75 D z
           have hE:=z.E
           have hM:=z.M
           exact Zp hE rfl Zr rfl (YA (hM.rd hv0_1) hi78.2) (Flat.len _) fun a hE=>⟨Kept.refl _ _,_,rfl,hE⟩
          ·intro a w ux75 D z
           have hE:=z.E
           have hD : D 6 = false:=z.F
           have hM:=z.M
           exact Z3 (xs:=[.tmp 49]) (l:=([x76] : List (Vector UInt8 32))) (vs:=[(Value.agg (enc x76).toArray)]) hE hM Za ld rfl rfl Try.underlying80 Zr rfl (by decide) rfl fun u79 w a hM hE=>⟨_,_,rfl,hE,M.qFill (mk1:=[]) (mk2:=[]) (f:=(fun v=>osl NoB (([x76] : List (Vector UInt8 32)) : List (Vector UInt8 32)) v)) hM rfl hD,trivial⟩
          ·intro a w ux75 D hE hM hG hall
           have d6:=hall 6 (by decide)
           have hM:=hM.sure (pre:=[_,_,_,_,_,_]) d6
           obtain ⟨l81,e82,hl71⟩:=bind_some hl71
           obtain ⟨e85,rfl⟩:=Yn e82
           have hM:=hM.pull4
           refine Yf hE hM Za ld rfl rfl (hM.sl (pre:=[_,_,_,_,_,_]) noB) Try.underlying80 Zr rfl (by decide) e85 fun u83 w a hM hE=>ZJ hE rfl (WA) ?_; intro a hE
           have hM:=hM.pull1
           refine Zk (seg:=[u83]) hE hM Za rfl rfl (Ve (hM.sl (pre:=[_]) noB)) VT rfl (UF (pre:=[[vI r17.1]]) ck rfl) (Rep.cell (hM.sl (pre:=[_]) noB)) (Ww (pre:=[[vI r17.1]]) ck rfl) fun w a hM hE=>Zi ?_
           obtain rfl:=Option.some.inj hl71
           refine Zj ?_
           have hM:=M.fst (l:=[_,_,_,_,_,_]) hM.pull1.pull5.pull5.pull5.pull5.pull5
           exact ⟨u83,hE.sub ⟨rfl,rfl,rfl,rfl,rfl,rfl,rfl,trivial⟩,hM⟩
         ·skip
          rintro a w ⟨u73,hE,hM⟩
          obtain ⟨r88,e89,hF72⟩:=bind_some hF72
          refine YV (its:=[raw b28 (cat [[vI r17.1],[u73],[u40]]),raw b26 (cat [[u25]]),own NoB (r23.engine : (Ref Gengine)) [u25],raw b3 (cat [[vI 0],[(Value.slice none 0 0)],[(Value.slice none 0 0)]]),osl NoB (s37.2.1 : List (List (Vector UInt8 32))) u40,osl NoB (j70 : List (Vector UInt8 32)) u73]) (mk:=([mkN [(6,fun v=>osl NoB (([r88] : List (List (Vector UInt8 32))) : List (List (Vector UInt8 32))) v),(5,fun v=>osl NoB (r88 : List (Vector UInt8 32)) v)]] : Mk)) [53,54,55,56,57,58,59] Yr rfl rfl (by decide) rfl hE (fun u=>M.qE (M.q0 hM.drew u) emN) (qsP (fun z=>Zo z.E Za ld rfl (UV) (kr0 rfl)) (qsP (v:=u40) ?_ (qsP (v:=(Value.agg (cat [[u25]]).toArray)) ?_ (qsP (fun z=>Zg z.E Za ld rfl (kr0 rfl)) (qsP (fun z=>Zg z.E Za ld rfl (kr0 rfl)) (qsM (pr:=fun v=>True) ?_ (qsM (pr:=fun v=>True) ?_ qs0))))))) ?_
          ·intro a w ux87 D z
           have hE:=z.E
           have hM:=z.M
           exact ZQ (v:=u40) hE rfl Kt rfl (At.cat (pre:=[[vI r17.1],[u73]]) hM.rawAt0 ck) fun a hE=>⟨Kept.refl _ _,_,rfl,hE⟩
          ·intro a w ux87 D z
           have hE:=z.E
           have hM:=z.M
           exact Zp hE rfl V2 rfl hM.rawAt1 cq fun a hE=>⟨Kept.refl _ _,_,rfl,hE⟩
          ·intro a w ux87 D z
           have hE:=z.E
           have hD : D 5 = false:=z.F
           have hM0:=z.M
           have hM:=z.M
           refine Zy hE rfl yq (WZ 64 _ r23 u25 (hM.ro (pre:=[_,_]) noB) p0 v0_1 (hM.rdo hv0_1) x55 r88 e89) ?_
           rintro _ w a ⟨_,rfl,hFr,hK⟩ hE
           have hM:=hM0.add hK hFr
           have hq6 : D 6 = false:=Kv (j:=6) (k:=0) z.c rfl rfl rfl hD
           exact ⟨_,_,rfl,hE,M.qPut (p:=mkN [(6,fun v=>osl NoB (([r88] : List (List (Vector UInt8 32))) : List (List (Vector UInt8 32))) v),(5,fun v=>osl NoB (r88 : List (Vector UInt8 32)) v)]) (its:=[raw b28 (cat [[vI r17.1],[u73],[u40]]),raw b26 (cat [[u25]]),own NoB (r23.engine : (Ref Gengine)) [u25],raw b3 (cat [[vI 0],[(Value.slice none 0 0)],[(Value.slice none 0 0)]]),osl NoB (s37.2.1 : List (List (Vector UInt8 32))) u40,osl NoB (j70 : List (Vector UInt8 32)) u73]) (mk1:=[]) (mk2:=[]) hM rfl (zM (offC hq6 (offC hD offN))) (BJ (l:=[_]) (offC hq6 offN)),trivial⟩
          ·intro a w ux87 D z
           have hE:=z.E
           have hD : D 6 = false:=z.F
           have d5 : D 5 = true:=z.p 0 _ rfl rfl
           have hM:=(z.M.chnF (pre:=[_,_,_,_,_,_]) hD).chnT (pre:=[_,_,_,_,_,_]) d5
           have hc93:=Ve (hM.sl (pre:=[_,_,_,_,_,_]) noB)
           have hM:=hM.pull6
           have hM:=hM.pack1 (it:=own NoB r88 ([(ux87 5)])) (UG noB) (fun f0 q0=>(Ue.sat q0))
           exact Ag (xs:=[.tmp 58]) (seg:=[(ux87 5)]) hE hM noB Za ld rfl hc93 Try.underlying85 VT rfl (by decide) fun u91 w a hM hE=>⟨_,_,rfl,hE,M.qTogS (p:=mkN [(6,fun v=>osl NoB (([r88] : List (List (Vector UInt8 32))) : List (List (Vector UInt8 32))) v),(5,fun v=>osl NoB (r88 : List (Vector UInt8 32)) v)]) (its:=[raw b28 (cat [[vI r17.1],[u73],[u40]]),raw b26 (cat [[u25]]),own NoB (r23.engine : (Ref Gengine)) [u25],raw b3 (cat [[vI 0],[(Value.slice none 0 0)],[(Value.slice none 0 0)]]),osl NoB (s37.2.1 : List (List (Vector UInt8 32))) u40,osl NoB (j70 : List (Vector UInt8 32)) u73]) (mk1:=[]) (mk2:=[]) hM rfl (BJ (l:=[]) offN),trivial⟩
          ·intro a w ux87 D hE hM hG hall
           have d6:=hall 6 (by decide)
           have hM:=hM.chnT (pre:=[_,_,_,_,_,_]) d6
           obtain ⟨l94,e95,hF72⟩:=bind_some hF72
           obtain ⟨e98,rfl⟩:=Yn e95
           have hM:=hM.pull6.pull5
           refine H2 hE hM noB Za ld rfl rfl Try.underlying85 VT rfl (by decide) e98 fun u96 w a hM hE=>ZJ hE rfl (UV) ?_; intro a hE
           have hM:=hM.pull1
           refine Zk (seg:=[u96]) hE hM Za rfl rfl (Ve (hM.sl (pre:=[_]) noB)) Kt rfl (UF (pre:=[[vI r17.1],[u73]]) ck rfl) (Rep.cell (hM.sl (pre:=[_]) noB)) (Ww (pre:=[[vI r17.1],[u73]]) ck rfl) fun w a hM hE=>Zi ?_
           obtain rfl:=Option.some.inj hF72
           refine Zj ?_
           have hM:=hM.pull1.pull5.pull5.pull5.pull5.pull5
           exact ⟨u73,u96,hE.sub ⟨rfl,rfl,rfl,rfl,rfl,rfl,trivial⟩,hM⟩
        ·intro hb69
         have hl63:=Zs hl63 hb69
         refine wp_skip ?_
         obtain rfl:=Option.some.inj hl63
         refine Zj ?_
         exact ⟨u38,u40,hE.sub ⟨rfl,rfl,rfl,rfl,rfl,rfl,trivial⟩,hM⟩
       ·skip
        rintro a w ⟨u65,u67,hE,hM⟩
        refine Yv ?_
        obtain rfl:=Option.some.inj hF64
        refine Zj ?_
        exact ⟨u65,u67,hE.sub ⟨rfl,rfl,rfl,rfl,rfl,rfl,trivial⟩,hM⟩
      ·skip
       rintro a w ⟨u51,u53,hE,hM⟩
       refine wp_region_lit (Zl hE rfl rfl rfl fun a hE=>Zd hE rfl fun a hE=>Zi (Zj ?_))
       exact ⟨_,(ois hF50),u51,u53,hE.sub ⟨rfl,rfl,rfl,rfl,rfl,rfl,trivial⟩,hM⟩
     ·intro hb47
      have hs42:=Zs hs42 hb47
      refine wp_exit (Zn (Zn (Yy ?_)))
      obtain rfl:=hx43 _ (ois hs42)
      refine Zj ?_
      have hM:=M.fst (l:=[_,_,_,_]) hM.pull5.pull5.pull5.pull3
      exact ⟨u38,u40,hE.sub ⟨rfl,rfl,trivial⟩,hM⟩
    ·skip
     rintro a w ⟨u33,u35,hE,hM⟩
     refine Zw (Zb (Zp hE rfl Wk rfl hM.rawAt0 cq ?_)); intro a hE
     have hM:=hM.pull1
     refine Zk (seg:=cat [[vI r17.1],[u33],[u35]]) (cs':=cat [[vI r17.1],[u33],[u35]]) hE hM Za rfl rfl rfl Wk cq (Nat.le_of_eq ((Nat.zero_add _).trans (Eq.trans cq (Eq.symm cq)))) (Y2 (cc1 (Flat.cell (r17.1 : Int)) (cc1 (Rep.cell (hM.sl (pre:=[_,_]) noB)) (cc1 (Rep.cell (hM.sl (pre:=[_,_,_]) noB)) cc0)))) (Zh (Eq.trans cq (Eq.symm cq))) fun w a hM hE=>Zc hE rfl fun a hE=>Ze ?_
     obtain rfl:=Option.some.inj hF32
     have hq103 : Z6 Try.prog _ _ (.cell 4 87) _:=ZD hE rfl Wk rfl hM.rawAt0 cq rfl
     have hM:=M.fst (l:=[_,_]) hM.pull3.pull3
     exact wp_ret (WR hE rfl hq103 (ZV hE rfl) ⟨_,rfl,u33,u35,rfl,hM.outF (X2 (X2 Wy)),hM.kept⟩)
def XY (p0 : (Vector UInt8 32)) (p1 : (Vector UInt8 32)) (s9 : Int) : Option (Fl Int (Fl Unit Bool)) :=
 if (decide (s9 < 32)) = true then (((ZI p0 s9).bind fun x19=>(ZI p1 s9).bind fun x22=>some (x19 != x22) : Option (Bool)).bind fun j14=>if j14 = true then (((ZI p0 s9).bind fun x31=>(ZI p1 s9).bind fun x34=>some (decide (x31 < x34)) : Option (Bool)).bind fun j26=>some (Fl.ex (Fl.ex j26))) else (some (Fl.nx (wr (s9 + 1))))) else (some (Fl.ex (Fl.nx ())))
def Y3 (p0 : (Vector UInt8 32)) (p1 : (Vector UInt8 32)) : Option (Bool) :=
 (ZF (XY p0 p1) 0).bind fun j5=>j5.el (fun s8=>some false) (fun r=>some r)
theorem Wi (w0 : World) (p0 : (Vector UInt8 32)) (p1 : (Vector UInt8 32)) (r : Bool) (hF : Y3 p0 p1 = some r) :
  Calls Try.prog 118 [(Value.agg (enc p0).toArray),(Value.agg (enc p1).toArray)].toArray w0 (Rt w0 (vT r)):=by
 refine ce Try.func118 ?_
 intro a hE
 have hM:=M.start w0
 unfold Y3 at hF
 refine Zb (Z7 (cs:=enc p0) hE hM Za ld rfl rfl fun b1 w a hM hE=>Z7 (cs:=enc p1) hE hM Za ld rfl rfl fun b3 w a hM hE=>Zc hE rfl fun a hE=>Ze (wp_seq (Zb (Zc hE rfl fun a hE=>Ze ?_))))
 obtain ⟨j5,hl6,hF7⟩:=bind_some hF
 refine ZW (fun a w=>∃ s8 : Unit,j5 = Fl.nx s8 ∧ Env 24 a [] ∧ M (Old w0) w0 w []) ?_ ?_
 ·skip
  refine wp_block ?_
  refine ZM (fun (s9 : Int) a w=>Env 24 a [(2,(ptr b1 0)),(3,(ptr b3 0)),(5,vI s9)] ∧ M (Old w0) w0 w [raw b3 (enc p1),raw b1 (enc p0)]) hl6 ⟨hE.sub ⟨rfl,rfl,rfl,trivial⟩,hM⟩ ?_
  rintro s9 a w ⟨hE,hM⟩ o12 hs10 hx11
  unfold XY at hs10
  refine wp_seq (Zb (Zd hE rfl fun a hE=>Zl hE rfl rfl rfl fun a hE=>Ze ?_))
  refine Zq hE rfl ?_ ?_
  ·intro hb13
   have hs10:=Zt hs10 hb13
   refine wp_skip (Zw (wp_seq (wp_block ?_)))
   obtain ⟨j14,hl15,hF16⟩:=bind_some hs10
   refine ZB (fun a w=>Env 24 a [(2,(ptr b1 0)),(3,(ptr b3 0)),(5,vI s9),(16,vT j14)] ∧ M (Old w0) w0 w [raw b3 (enc p1),raw b1 (enc p0)]) ?_ ?_
   ·skip
    obtain ⟨x19,hi18,hl15⟩:=bvx hl15
    obtain ⟨x22,hi21,hl15⟩:=bvx hl15
    refine ZP [10,11,12,13,14,15,16] Yr rfl rfl (by decide) rfl hE hM (qsP (fun z=>Zg z.E Za ld rfl (kr0 rfl)) (qsP (fun z=>ZC z.E Za ld rfl rfl Try.underlying82 ty5 hi18.1 (kr0 rfl)) (qsP (fun z=>ZN (v:=(vB x19)) z.E Za ld rfl ty5 rfl (At.vec (z.M.rawAt1) hi18.2) (kr0 rfl)) (qsP (fun z=>Zg z.E Za ld rfl (kr0 rfl)) (qsP (fun z=>ZC z.E Za ld rfl rfl Try.underlying82 ty5 hi21.1 (kr0 rfl)) (qsP (fun z=>ZN (v:=(vB x22)) z.E Za ld rfl ty5 rfl (At.vec (z.M.rawAt0) hi21.2) (kr0 rfl)) (qsP (fun z=>Z1 z.E Za ld rfl rfl (yC x19 x22) (kr0 rfl)) qs0))))))) ?_
    ·intro a w u hE hM
     refine Zi ?_
     obtain rfl:=Option.some.inj hl15
     refine Zj ?_
     exact ⟨hE.sub ⟨rfl,rfl,rfl,rfl,trivial⟩,hM⟩
   ·skip
    rintro a w ⟨hE,hM⟩
    refine Zq hE rfl ?_ ?_
    ·intro hb25
     have hF16:=Zt hF16 hb25
     obtain ⟨j26,hl27,hF28⟩:=bind_some hF16
     refine ZB (fun a w=>Env 24 a [(4,vT j26)] ∧ M (Old w0) w0 w []) ?_ ?_
     ·skip
      obtain ⟨x31,hi30,hl27⟩:=bvx hl27
      obtain ⟨x34,hi33,hl27⟩:=bvx hl27
      refine ZP [17,18,19,20,21,22,23,4] Yr rfl rfl (by decide) rfl hE hM (qsP (fun z=>Zg z.E Za ld rfl (kr0 rfl)) (qsP (fun z=>ZC z.E Za ld rfl rfl Try.underlying82 ty5 hi30.1 (kr0 rfl)) (qsP (fun z=>ZN (v:=(vB x31)) z.E Za ld rfl ty5 rfl (At.vec (z.M.rawAt1) hi30.2) (kr0 rfl)) (qsP (fun z=>Zg z.E Za ld rfl (kr0 rfl)) (qsP (fun z=>ZC z.E Za ld rfl rfl Try.underlying82 ty5 hi33.1 (kr0 rfl)) (qsP (fun z=>ZN (v:=(vB x34)) z.E Za ld rfl ty5 rfl (At.vec (z.M.rawAt0) hi33.2) (kr0 rfl)) (qsP (fun z=>Z1 z.E Za ld rfl rfl (bB_lss x31 x34) (kr0 rfl)) (qsP (fun z=>VD z.E Za ld rfl (kr0 rfl)) qs0)))))))) ?_
      ·intro a w u hE hM
       refine Zi ?_
       obtain rfl:=Option.some.inj hl27
       refine Zj ?_
       have hM:=M.fst (l:=[]) hM
       exact ⟨hE.sub ⟨rfl,trivial⟩,hM⟩
     ·skip
      rintro a w ⟨hE,hM⟩
      obtain rfl:=hx11 _ (ois hF28)
      obtain rfl:=Option.some.inj hF7
      exact wp_ret (Vj (ZL (ZL (Vj (ZL (ZL (kr1 hE rfl rfl hM.kept)))))))
    ·intro hb25
     have hF16:=Zs hF16 hb25
     refine wp_skip (Yv (Zw (wp_region_lit (Zd hE rfl fun a hE=>Zl hE rfl rfl rfl fun a hE=>Zc hE rfl fun a hE=>Zi (Zj ?_)))))
     exact ⟨_,(ois hF16),hE.sub ⟨rfl,rfl,rfl,trivial⟩,hM⟩
  ·intro hb13
   have hs10:=Zs hs10 hb13
   refine wp_exit (Zn (Zn (Yy ?_)))
   obtain rfl:=hx11 _ (ois hs10)
   refine Zj ?_
   have hM:=M.fst (l:=[]) hM
   exact ⟨(),rfl,hE.sub trivial,hM⟩
 ·skip
  rintro a w ⟨s8,ht,hE,hM⟩
  subst ht
  have hF7:=Ki hF7
  refine Zw (Zb (Zc hE rfl fun a hE=>Ze ?_))
  obtain rfl:=Option.some.inj hF7
  exact wp_ret (kr1 hE rfl rfl hM.kept)
def V4 (p0 : (List (Vector UInt8 32))) (s5 : Int) : Option (Fl Int (Fl Unit Bool)) :=
 if (decide (s5 < (p0.length : Int))) = true then (((idx p0 (wr (s5 - 1))).bind fun x14=>(idx p0 s5).bind fun x17=>(Y3 x14 x17).bind fun r20=>some (!r20) : Option (Bool)).bind fun j10=>if j10 = true then (some (Fl.ex (Fl.ex false))) else (some (Fl.nx (wr (s5 + 1))))) else (some (Fl.ex (Fl.nx ())))
def X0 (p0 : (List (Vector UInt8 32))) : Option (Bool) :=
 (ZF (V4 p0) 1).bind fun j1=>j1.el (fun s4=>some true) (fun r=>some r)
theorem QD (w0 : World) (p0 : (List (Vector UInt8 32))) (v0_1 : Value) (hv0_1 : Ro w0 p0 [v0_1]) (r : Bool) (hF : X0 p0 = some r) :
  Calls Try.prog 109 [v0_1].toArray w0 (Rt w0 (vT r)):=by
 refine ce Try.func109 ?_
 intro a hE
 have hM:=M.start w0
 unfold X0 at hF
 refine Zb (Zc hE rfl fun a hE=>Ze (wp_seq (Zb (Zc hE rfl fun a hE=>Ze ?_))))
 obtain ⟨j1,hl2,hF3⟩:=bind_some hF
 refine ZW (fun a w=>∃ s4 : Unit,j1 = Fl.nx s4 ∧ Env 21 a [] ∧ M (Old w0) w0 w []) ?_ ?_
 ·skip
  refine wp_block ?_
  refine ZM (fun (s5 : Int) a w=>Env 21 a [(0,v0_1),(3,vI s5)] ∧ M (Old w0) w0 w []) hl2 ⟨hE.sub ⟨rfl,rfl,trivial⟩,hM⟩ ?_
  rintro s5 a w ⟨hE,hM⟩ o8 hs6 hx7
  unfold V4 at hs6
  refine wp_seq (Zb (Zd hE rfl fun a hE=>Zd hE rfl fun a hE=>Yq hE rfl Try.underlying80 (hM.rd hv0_1) fun a hE=>Zl hE rfl rfl rfl fun a hE=>Ze ?_))
  refine Zq hE rfl ?_ ?_
  ·intro hb9
   have hs6:=Zt hs6 hb9
   refine wp_skip (Zw (wp_seq (wp_block ?_)))
   obtain ⟨j10,hl11,hF12⟩:=bind_some hs6
   refine ZB (fun a w=>Env 21 a [(0,v0_1),(3,vI s5),(20,vT j10)] ∧ M (Old w0) w0 w []) ?_ ?_
   ·skip
    obtain ⟨x14,hi16,hl11⟩:=bix hl11
    obtain ⟨x17,hi19,hl11⟩:=bix hl11
    obtain ⟨r20,e21,hl11⟩:=bind_some hl11
    refine ZP [10,11,12,13,14,15,16,17,18,19,20] Yr rfl rfl (by decide) rfl hE hM (qsP (fun z=>Zg z.E Za ld rfl (kr0 rfl)) (qsP (fun z=>Zg z.E Za ld rfl (kr0 rfl)) (qsP (v:=(vI (wr (s5 - 1)))) (fun z=>Z1 z.E Za ld rfl rfl rfl (kr0 rfl)) (qsP (fun z=>Yi z.E Za ld rfl rfl Try.underlying80 Zr (z.M.rd hv0_1) hi16.1 (kr0 rfl)) (qsP (fun z=>ZA z.E Za ld rfl Zr rfl (YA (z.M.rd hv0_1) hi16.2) (Flat.len _) (kr0 rfl)) (qsP (fun z=>Zg z.E Za ld rfl (kr0 rfl)) (qsP (fun z=>Zg z.E Za ld rfl (kr0 rfl)) (qsP (fun z=>Yi z.E Za ld rfl rfl Try.underlying80 Zr (z.M.rd hv0_1) hi19.1 (kr0 rfl)) (qsP (fun z=>ZA z.E Za ld rfl Zr rfl (YA (z.M.rd hv0_1) hi19.2) (Flat.len _) (kr0 rfl)) (qsP (fun z=>ZX z.E Za ld rfl JR (Wi _ x14 x17 r20 e21) (kc rfl)) (qsP (fun z=>UY z.E Za ld rfl (kr0 rfl)) qs0))))))))))) ?_
    ·intro a w u hE hM
     refine Zi ?_
     obtain rfl:=Option.some.inj hl11
     refine Zj ?_
     exact ⟨hE.sub ⟨rfl,rfl,rfl,trivial⟩,hM⟩
   ·skip
    rintro a w ⟨hE,hM⟩
    refine Zq hE rfl ?_ ?_
    ·intro hb23
     have hF12:=Zt hF12 hb23
     refine Zb (Zc hE rfl fun a hE=>Ze ?_)
     obtain rfl:=hx7 _ (ois hF12)
     obtain rfl:=Option.some.inj hF3
     exact wp_ret (Vj (ZL (ZL (Vj (ZL (ZL (kr1 hE rfl rfl hM.kept)))))))
    ·intro hb23
     have hF12:=Zs hF12 hb23
     refine wp_skip (Yv (Zw (wp_region_lit (Zd hE rfl fun a hE=>Zl hE rfl rfl rfl fun a hE=>Zc hE rfl fun a hE=>Zi (Zj ?_)))))
     exact ⟨_,(ois hF12),hE.sub ⟨rfl,rfl,trivial⟩,hM⟩
  ·intro hb9
   have hs6:=Zs hs6 hb9
   refine wp_exit (Zn (Zn (Yy ?_)))
   obtain rfl:=hx7 _ (ois hs6)
   refine Zj ?_
   exact ⟨(),rfl,hE.sub trivial,hM⟩
 ·skip
  rintro a w ⟨s4,ht,hE,hM⟩
  subst ht
  have hF3:=Ki hF3
  refine Zw (Zb (Zc hE rfl fun a hE=>Ze ?_))
  obtain rfl:=Option.some.inj hF3
  exact wp_ret (kr1 hE rfl rfl hM.kept)
def X9 (p0 : (List (Vector UInt8 32))) (p1 : (Vector UInt8 32)) (s6 : Int × Int) : Option (Fl (Int × Int) Int) :=
 if (decide (s6.2 < (p0.length : Int))) = true then ((((idx p0 s6.2).bind fun x18=>(Y3 x18 p1).bind fun r21=>some r21 : Option (Bool)).bind fun j14=>(if j14 = true then (some (wr (s6.1 + 1))) else (some s6.1) : Option (Int)).bind fun j24=>some j24 : Option (Int)).bind fun j11=>some (Fl.nx (j11,wr (s6.2 + 1)))) else (some (Fl.ex s6.1))
def Vp (p0 : (List (Vector UInt8 32))) (p1 : (Vector UInt8 32)) : Option (Int) :=
 (ZF (X9 p0 p1) (0,0)).bind fun j3=>some j3
theorem Jo (w0 : World) (p0 : (List (Vector UInt8 32))) (v0_1 : Value) (hv0_1 : Ro w0 p0 [v0_1]) (p1 : (Vector UInt8 32)) (r : Int) (hF : Vp p0 p1 = some r) :
  Calls Try.prog 110 [v0_1,(Value.agg (enc p1).toArray)].toArray w0 (Rt w0 (vI r)):=by
 refine ce Try.func110 ?_
 intro a hE
 have hM:=M.start w0
 unfold Vp at hF
 refine Zb (Z7 (cs:=enc p1) hE hM Za ld rfl rfl fun b1 w a hM hE=>Zc hE rfl fun a hE=>Ze (Zb (Zc hE rfl fun a hE=>Ze (wp_seq (Zb (Zc hE rfl fun a hE=>Ze ?_))))))
 obtain ⟨j3,hl4,hF5⟩:=bind_some hF
 refine ZW (fun a w=>Env 22 a [(5,vI j3)] ∧ M (Old w0) w0 w []) ?_ ?_
 ·skip
  refine wp_block ?_
  refine ZM (fun (s6 : Int × Int) a w=>Env 22 a [(0,v0_1),(3,(ptr b1 0)),(5,vI s6.1),(6,vI s6.2)] ∧ M (Old w0) w0 w [raw b1 (enc p1)]) hl4 ⟨hE.sub ⟨rfl,rfl,rfl,rfl,trivial⟩,hM⟩ ?_
  rintro s6 a w ⟨hE,hM⟩ o9 hs7 hx8
  unfold X9 at hs7
  refine wp_seq (Zb (Zd hE rfl fun a hE=>Zd hE rfl fun a hE=>Yq hE rfl Try.underlying80 (hM.rd hv0_1) fun a hE=>Zl hE rfl rfl rfl fun a hE=>Ze ?_))
  refine Zq hE rfl ?_ ?_
  ·intro hb10
   have hs7:=Zt hs7 hb10
   refine wp_skip (Zw ?_)
   obtain ⟨j11,hl12,hF13⟩:=bind_some hs7
   refine ZB (fun a w=>Env 22 a [(0,v0_1),(3,(ptr b1 0)),(5,vI j11),(6,vI s6.2)] ∧ M (Old w0) w0 w [raw b1 (enc p1)]) ?_ ?_
   ·skip
    refine wp_block ?_
    obtain ⟨j14,hl15,hF16⟩:=bind_some hl12
    refine ZB (fun a w=>Env 22 a [(0,v0_1),(3,(ptr b1 0)),(5,vI s6.1),(6,vI s6.2),(18,vT j14)] ∧ M (Old w0) w0 w [raw b1 (enc p1)]) ?_ ?_
    ·skip
     obtain ⟨x18,hi20,hl15⟩:=bix hl15
     obtain ⟨r21,e22,hl15⟩:=bind_some hl15
     refine ZP [13,14,15,16,17,18] Yr rfl rfl (by decide) rfl hE hM (qsP (fun z=>Zg z.E Za ld rfl (kr0 rfl)) (qsP (fun z=>Zg z.E Za ld rfl (kr0 rfl)) (qsP (fun z=>Yi z.E Za ld rfl rfl Try.underlying80 Zr (z.M.rd hv0_1) hi20.1 (kr0 rfl)) (qsP (fun z=>ZA z.E Za ld rfl Zr rfl (YA (z.M.rd hv0_1) hi20.2) (Flat.len _) (kr0 rfl)) (qsP (fun z=>ZA z.E Za ld rfl Zr rfl (z.M.rawAt0) (Flat.len _) (kr0 rfl)) (qsP (fun z=>ZX z.E Za ld rfl JR (Wi _ x18 p1 r21 e22) (kc rfl)) qs0)))))) ?_
     ·intro a w u hE hM
      refine Zi ?_
      obtain rfl:=Option.some.inj hl15
      refine Zj ?_
      exact ⟨hE.sub ⟨rfl,rfl,rfl,rfl,rfl,trivial⟩,hM⟩
    ·skip
     rintro a w ⟨hE,hM⟩
     obtain ⟨j24,hl25,hF26⟩:=bind_some hF16
     refine ZW (fun a w=>Env 22 a [(0,v0_1),(3,(ptr b1 0)),(5,vI j24),(6,vI s6.2)] ∧ M (Old w0) w0 w [raw b1 (enc p1)]) ?_ ?_
     ·skip
      refine Zq hE rfl ?_ ?_
      ·intro hb27
       have hl25:=Zt hl25 hb27
       refine wp_region_lit (Zd hE rfl fun a hE=>Zl hE rfl rfl rfl fun a hE=>Zc hE rfl fun a hE=>Zi ?_)
       obtain rfl:=Option.some.inj hl25
       refine Zj ?_
       exact ⟨hE.sub ⟨rfl,rfl,rfl,rfl,trivial⟩,hM⟩
      ·intro hb27
       have hl25:=Zs hl25 hb27
       refine wp_skip ?_
       obtain rfl:=Option.some.inj hl25
       refine Zj ?_
       exact ⟨hE.sub ⟨rfl,rfl,rfl,rfl,trivial⟩,hM⟩
     ·skip
      rintro a w ⟨hE,hM⟩
      refine Yv ?_
      obtain rfl:=Option.some.inj hF26
      refine Zj ?_
      exact ⟨hE.sub ⟨rfl,rfl,rfl,rfl,trivial⟩,hM⟩
   ·skip
    rintro a w ⟨hE,hM⟩
    refine wp_region_lit (Zd hE rfl fun a hE=>Zl hE rfl rfl rfl fun a hE=>Zc hE rfl fun a hE=>Zi (Zj ?_))
    exact ⟨_,(ois hF13),hE.sub ⟨rfl,rfl,rfl,rfl,trivial⟩,hM⟩
  ·intro hb10
   have hs7:=Zs hs7 hb10
   refine wp_exit (Zn (Zn (Yy ?_)))
   obtain rfl:=hx8 _ (ois hs7)
   refine Zj ?_
   have hM:=M.fst (l:=[]) hM
   exact ⟨hE.sub ⟨rfl,trivial⟩,hM⟩
 ·skip
  rintro a w ⟨hE,hM⟩
  refine Zw (Zb (Zd hE rfl fun a hE=>Zc hE rfl fun a hE=>Ze ?_))
  obtain rfl:=Option.some.inj hF5
  exact wp_ret (kr1 hE rfl rfl hM.kept)
def Xq (p0 : Int) (s4 : Int) : Option (Fl Int Int) :=
 if (decide ((wr (2 * s4)) < p0)) = true then (some (Fl.nx (wr (2 * s4)))) else (some (Fl.ex s4))
def YI (p0 : Int) : Option (Int) :=
 (ZF (Xq p0) 1).bind fun j1=>some j1
theorem Tm (w0 : World) (p0 : Int) (r : Int) (hF : YI p0 = some r) :
  Calls Try.prog 168 [vI p0].toArray w0 (Rt w0 (vI r)):=by
 refine ce Try.func168 ?_
 intro a hE
 have hM:=M.start w0
 unfold YI at hF
 refine Zb (Zc hE rfl fun a hE=>Ze (Zb (Zc hE rfl fun a hE=>Ze ?_)))
 obtain ⟨j1,hl2,hF3⟩:=bind_some hF
 refine ZB (fun a w=>Env 11 a [(3,vI j1)] ∧ M (Old w0) w0 w []) ?_ ?_
 ·skip
  refine wp_block ?_
  refine ZM (fun (s4 : Int) a w=>Env 11 a [(0,vI p0),(3,vI s4)] ∧ M (Old w0) w0 w []) hl2 ⟨hE.sub ⟨rfl,rfl,trivial⟩,hM⟩ ?_
  rintro s4 a w ⟨hE,hM⟩ o7 hs5 hx6
  unfold Xq at hs5
  refine wp_seq (Zb (Zd hE rfl fun a hE=>Zl hE rfl rfl rfl fun a hE=>Zd hE rfl fun a hE=>Zl hE rfl rfl rfl fun a hE=>Ze ?_))
  refine Zq hE rfl ?_ ?_
  ·intro hb8
   have hs5:=Zt hs5 hb8
   refine wp_skip (Zw (wp_block (wp_region_lit (Zd hE rfl fun a hE=>Zl hE rfl rfl rfl fun a hE=>Zc hE rfl fun a hE=>Zi (Yv (Zj ?_))))))
   exact ⟨_,(ois hs5),hE.sub ⟨rfl,rfl,trivial⟩,hM⟩
  ·intro hb8
   have hs5:=Zs hs5 hb8
   refine wp_exit (Zn (Zn (Yy ?_)))
   obtain rfl:=hx6 _ (ois hs5)
   refine Zj ?_
   exact ⟨hE.sub ⟨rfl,trivial⟩,hM⟩
 ·skip
  rintro a w ⟨hE,hM⟩
  refine Zb (Zd hE rfl fun a hE=>Zc hE rfl fun a hE=>Ze ?_)
  obtain rfl:=Option.some.inj hF3
  exact wp_ret (kr1 hE rfl rfl hM.kept)
def Y9 (p0 : Int) (s4 : Int × Int × Int) : Option (Fl (Int × Int × Int) Int) :=
 if (decide (s4.2.2 > 0)) = true then (((if ((Int.tmod s4.2.2 2) == 1) = true then (some (KY s4.1 s4.2.1)) else (some s4.1) : Option (Int)).bind fun j12=>(if (decide ((wr (s4.2.1 * 2)) ≥ 256)) = true then (some (KY (wr (s4.2.1 * 2)) p0)) else (some (wr (s4.2.1 * 2))) : Option (Int)).bind fun j18=>some (j12,j18) : Option (Int × Int)).bind fun j9=>some (Fl.nx (j9.1,j9.2,wr (Int.tdiv s4.2.2 2)))) else (some (Fl.ex s4.1))
def YQ (p0 : Int) (p1 : UInt8) (p2 : UInt8) : Option (UInt8) :=
 (ZF (Y9 p0) (0,bI p1,bI p2)).bind fun j1=>some (Zz j1)
theorem Vt (w0 : World) (p0 : Int) (p1 : UInt8) (p2 : UInt8) (r : UInt8) (hF : YQ p0 p1 p2 = some r) :
  Calls Try.prog 178 [vI p0,vB p1,vB p2].toArray w0 (Rt w0 (vB r)):=by
 refine ce Try.func178 ?_
 intro a hE
 have hM:=M.start w0
 unfold YQ at hF
 refine Zb (Zc hE rfl fun a hE=>Ze (Zb (Zd hE rfl fun a hE=>Q2 hE Za ld rfl Try.underlying5 Try.underlying2 fun a hE=>Zc hE rfl fun a hE=>Zc hE rfl fun a hE=>Ze (wp_seq (Zb (Zd hE rfl fun a hE=>Q2 hE Za ld rfl Try.underlying5 Try.underlying2 fun a hE=>Zc hE rfl fun a hE=>Ze ?_))))))
 obtain ⟨j1,hl2,hF3⟩:=bind_some hF
 refine ZW (fun a w=>Env 33 a [(7,vI j1)] ∧ M (Old w0) w0 w []) ?_ ?_
 ·skip
  refine wp_block ?_
  refine ZM (fun (s4 : Int × Int × Int) a w=>Env 33 a [(0,vI p0),(7,vI s4.1),(8,vI s4.2.1),(9,vI s4.2.2)] ∧ M (Old w0) w0 w []) hl2 ⟨hE.sub ⟨rfl,rfl,rfl,rfl,trivial⟩,hM⟩ ?_
  rintro s4 a w ⟨hE,hM⟩ o7 hs5 hx6
  unfold Y9 at hs5
  refine wp_seq (Zb (Zd hE rfl fun a hE=>Zl hE rfl rfl rfl fun a hE=>Ze ?_))
  refine Zq hE rfl ?_ ?_
  ·intro hb8
   have hs5:=Zt hs5 hb8
   refine wp_skip (Zw ?_)
   obtain ⟨j9,hl10,hF11⟩:=bind_some hs5
   refine ZB (fun a w=>Env 33 a [(0,vI p0),(7,vI j9.1),(8,vI j9.2),(9,vI s4.2.2)] ∧ M (Old w0) w0 w []) ?_ ?_
   ·skip
    refine wp_block ?_
    obtain ⟨j12,hl13,hF14⟩:=bind_some hl10
    refine ZB (fun a w=>Env 33 a [(0,vI p0),(7,vI j12),(8,vI s4.2.1),(9,vI s4.2.2)] ∧ M (Old w0) w0 w []) ?_ ?_
    ·skip
     refine Zb (Zd hE rfl fun a hE=>Zl hE rfl rfl (Tq _ _ (by decide)) fun a hE=>Zl hE rfl rfl rfl fun a hE=>Ze ?_)
     refine Zq hE rfl ?_ ?_
     ·intro hb15
      have hl13:=Zt hl13 hb15
      refine wp_region_lit (Zd hE rfl fun a hE=>Zd hE rfl fun a hE=>Zl hE rfl rfl rfl fun a hE=>Zc hE rfl fun a hE=>Zi ?_)
      obtain rfl:=Option.some.inj hl13
      refine Zj ?_
      exact ⟨hE.sub ⟨rfl,rfl,rfl,rfl,trivial⟩,hM⟩
     ·intro hb15
      have hl13:=Zs hl13 hb15
      refine wp_skip ?_
      obtain rfl:=Option.some.inj hl13
      refine Zj ?_
      exact ⟨hE.sub ⟨rfl,rfl,rfl,rfl,trivial⟩,hM⟩
    ·skip
     rintro a w ⟨hE,hM⟩
     refine Zb (Zd hE rfl fun a hE=>Zl hE rfl rfl rfl fun a hE=>Zc hE rfl fun a hE=>Ze (Zb (Zd hE rfl fun a hE=>Zl hE rfl rfl rfl fun a hE=>Ze ?_)))
     obtain ⟨j18,hl19,hF20⟩:=bind_some hF14
     refine ZW (fun a w=>Env 33 a [(0,vI p0),(7,vI j12),(8,vI j18),(9,vI s4.2.2)] ∧ M (Old w0) w0 w []) ?_ ?_
     ·skip
      refine Zq hE rfl ?_ ?_
      ·intro hb21
       have hl19:=Zt hl19 hb21
       refine wp_region_lit (Zd hE rfl fun a hE=>Zd hE rfl fun a hE=>Zl hE rfl rfl rfl fun a hE=>Zc hE rfl fun a hE=>Zi ?_)
       obtain rfl:=Option.some.inj hl19
       refine Zj ?_
       exact ⟨hE.sub ⟨rfl,rfl,rfl,rfl,trivial⟩,hM⟩
      ·intro hb21
       have hl19:=Zs hl19 hb21
       refine wp_skip ?_
       obtain rfl:=Option.some.inj hl19
       refine Zj ?_
       exact ⟨hE.sub ⟨rfl,rfl,rfl,rfl,trivial⟩,hM⟩
     ·skip
      rintro a w ⟨hE,hM⟩
      refine Yv ?_
      obtain rfl:=Option.some.inj hF20
      refine Zj ?_
      exact ⟨hE.sub ⟨rfl,rfl,rfl,rfl,trivial⟩,hM⟩
   ·skip
    rintro a w ⟨hE,hM⟩
    refine wp_region_lit (Zd hE rfl fun a hE=>Zl hE rfl rfl (BU _ _ (by decide)) fun a hE=>Zc hE rfl fun a hE=>Zi (Zj ?_))
    exact ⟨_,(ois hF11),hE.sub ⟨rfl,rfl,rfl,rfl,trivial⟩,hM⟩
  ·intro hb8
   have hs5:=Zs hs5 hb8
   refine wp_exit (Zn (Zn (Yy ?_)))
   obtain rfl:=hx6 _ (ois hs5)
   refine Zj ?_
   exact ⟨hE.sub ⟨rfl,trivial⟩,hM⟩
 ·skip
  rintro a w ⟨hE,hM⟩
  refine Zw (Zb (Zd hE rfl fun a hE=>Xc hE Za ld rfl Try.underlying2 Try.underlying5 fun a hE=>Zc hE rfl fun a hE=>Ze ?_))
  obtain rfl:=Option.some.inj hF3
  exact wp_ret (kr1 hE rfl rfl hM.kept)
def Vc (p0 : Int) (s16 : UInt8 × UInt8 × Int) : Option (Fl (UInt8 × UInt8 × Int) UInt8) :=
 if (decide (s16.2.2 > 0)) = true then (((if ((Int.tmod s16.2.2 2) == 1) = true then ((YQ p0 s16.1 s16.2.1).bind fun r28=>some r28) else (some s16.1) : Option (UInt8)).bind fun j24=>(YQ p0 s16.2.1 s16.2.1).bind fun r32=>some (j24,r32) : Option (UInt8 × UInt8)).bind fun j21=>some (Fl.nx (j21.1,j21.2,wr (Int.tdiv s16.2.2 2)))) else (some (Fl.ex s16.1))
def W9 (p0 : Int) (p1 : Int) (s8 : (Vector UInt8 256) × Int) : Option (Fl ((Vector UInt8 256) × Int) (Vector UInt8 256)) :=
 if (decide (s8.2 < 256)) = true then ((ZF (Vc p0) (1,Zz s8.2,p1)).bind fun j13=>(ZI s8.1 s8.2).bind fun x37=>some (Fl.nx ((s8.1.setIfInBounds (s8.2).toNat j13),wr (s8.2 + 1)))) else (some (Fl.ex s8.1))
def Vx (p0 : Int) (p1 : Int) : Option ((Vector UInt8 256)) :=
 (ZF (W9 p0 p1) ((Vector.replicate 256 (0 : UInt8)),0)).bind fun j5=>some j5
theorem Jn (w0 : World) (p0 : Int) (p1 : Int) (r : (Vector UInt8 256)) (hF : Vx p0 p1 = some r) :
  Calls Try.prog 185 [vI p0,vI p1].toArray w0 (Rt w0 (Value.agg (enc r).toArray)):=by
 refine ce Try.func185 ?_
 intro a hE
 have hM:=M.start w0
 unfold Vx at hF
 refine Zb (Zv hE hM VL fun b1 w a hM hE=>Ze (Zb (Yx (parts:=[]) (vs:=[]) (cs:=enc (Vector.replicate 256 (0 : UInt8))) hE Za ld rfl rfl VL rfl ty5 Yk fun a hE=>Zv hE hM VL fun b3 w a hM hE=>Zk (seg:=enc (Vector.replicate 256 (0 : UInt8))) (cs':=enc (Vector.replicate 256 (0 : UInt8))) hE hM Za rfl rfl rfl VL (Flat.len _) (zle flq) (Flat.cell _) (Zh flq) fun w a hM hE=>Ze (wp_seq (Zb (Zc hE rfl fun a hE=>Ze ?_))))))
 obtain ⟨j5,hl6,hF7⟩:=bind_some hF
 refine ZW (fun a w=>Env 37 a [(4,(ptr b1 0)),(5,(ptr b3 0))] ∧ M (Old w0) w0 w [raw b3 (enc j5),raw b1 (enc (Vector.replicate 256 (0 : UInt8)))]) ?_ ?_
 ·skip
  refine wp_block ?_
  refine ZM (fun (s8 : (Vector UInt8 256) × Int) a w=>Env 37 a [(0,vI p0),(1,vI p1),(4,(ptr b1 0)),(5,(ptr b3 0)),(6,vI s8.2)] ∧ M (Old w0) w0 w [raw b3 (enc s8.1),raw b1 (enc (Vector.replicate 256 (0 : UInt8)))]) hl6 ⟨hE.sub ⟨rfl,rfl,rfl,rfl,rfl,trivial⟩,hM⟩ ?_
  rintro s8 a w ⟨hE,hM⟩ o11 hs9 hx10
  unfold W9 at hs9
  refine wp_seq (Zb (Zd hE rfl fun a hE=>Zl hE rfl rfl rfl fun a hE=>Ze ?_))
  refine Zq hE rfl ?_ ?_
  ·intro hb12
   have hs9:=Zt hs9 hb12
   refine wp_skip (Zw (wp_seq (wp_block (Zb (Zd hE rfl fun a hE=>Xc hE Za ld rfl Try.underlying3 Try.underlying5 fun a hE=>Zc hE rfl fun a hE=>Zc hE rfl fun a hE=>Ze (wp_seq (Zb (Zd hE rfl fun a hE=>Zc hE rfl fun a hE=>Ze ?_))))))))
   obtain ⟨j13,hl14,hF15⟩:=bind_some hs9
   refine ZW (fun a w=>Env 37 a [(0,vI p0),(1,vI p1),(4,(ptr b1 0)),(5,(ptr b3 0)),(6,vI s8.2),(7,vB j13)] ∧ M (Old w0) w0 w [raw b3 (enc s8.1),raw b1 (enc (Vector.replicate 256 (0 : UInt8)))]) ?_ ?_
   ·skip
    refine wp_block ?_
    refine ZM (fun (s16 : UInt8 × UInt8 × Int) a w=>Env 37 a [(0,vI p0),(1,vI p1),(4,(ptr b1 0)),(5,(ptr b3 0)),(6,vI s8.2),(7,vB s16.1),(8,vB s16.2.1),(9,vI s16.2.2)] ∧ M (Old w0) w0 w [raw b3 (enc s8.1),raw b1 (enc (Vector.replicate 256 (0 : UInt8)))]) hl14 ⟨hE.sub ⟨rfl,rfl,rfl,rfl,rfl,rfl,rfl,rfl,trivial⟩,hM⟩ ?_
    rintro s16 a w ⟨hE,hM⟩ o19 hs17 hx18
    unfold Vc at hs17
    refine wp_seq (Zb (Zd hE rfl fun a hE=>Zl hE rfl rfl rfl fun a hE=>Ze ?_))
    refine Zq hE rfl ?_ ?_
    ·intro hb20
     have hs17:=Zt hs17 hb20
     refine wp_skip (Zw ?_)
     obtain ⟨j21,hl22,hF23⟩:=bind_some hs17
     refine ZB (fun a w=>Env 37 a [(0,vI p0),(1,vI p1),(4,(ptr b1 0)),(5,(ptr b3 0)),(6,vI s8.2),(7,vB j21.1),(8,vB j21.2),(9,vI s16.2.2)] ∧ M (Old w0) w0 w [raw b3 (enc s8.1),raw b1 (enc (Vector.replicate 256 (0 : UInt8)))]) ?_ ?_
     ·skip
      refine wp_block ?_
      obtain ⟨j24,hl25,hF26⟩:=bind_some hl22
      refine ZB (fun a w=>Env 37 a [(0,vI p0),(1,vI p1),(4,(ptr b1 0)),(5,(ptr b3 0)),(6,vI s8.2),(7,vB j24),(8,vB s16.2.1),(9,vI s16.2.2)] ∧ M (Old w0) w0 w [raw b3 (enc s8.1),raw b1 (enc (Vector.replicate 256 (0 : UInt8)))]) ?_ ?_
      ·skip
       refine Zb (Zd hE rfl fun a hE=>Zl hE rfl rfl (Tq _ _ (by decide)) fun a hE=>Zl hE rfl rfl rfl fun a hE=>Ze ?_)
       refine Zq hE rfl ?_ ?_
       ·intro hb27
        have hl25:=Zt hl25 hb27
        refine wp_region_lit (Zd hE rfl fun a hE=>Zd hE rfl fun a hE=>Zd hE rfl ?_); intro a hE
        obtain ⟨r28,e29,hl25⟩:=bind_some hl25
        refine Zy hE rfl Ap (Vt _ p0 s16.1 s16.2.1 r28 e29) ?_
        rintro v w a ⟨rfl,hK⟩ hE
        have hM:=hM.keep hK
        refine Zc hE rfl fun a hE=>Zi ?_
        obtain rfl:=Option.some.inj hl25
        refine Zj ?_
        exact ⟨hE.sub ⟨rfl,rfl,rfl,rfl,rfl,rfl,rfl,rfl,trivial⟩,hM⟩
       ·intro hb27
        have hl25:=Zs hl25 hb27
        refine wp_skip ?_
        obtain rfl:=Option.some.inj hl25
        refine Zj ?_
        exact ⟨hE.sub ⟨rfl,rfl,rfl,rfl,rfl,rfl,rfl,rfl,trivial⟩,hM⟩
      ·skip
       rintro a w ⟨hE,hM⟩
       refine wp_region_lit (Zd hE rfl fun a hE=>Zd hE rfl fun a hE=>Zd hE rfl ?_); intro a hE
       obtain ⟨r32,e33,hF26⟩:=bind_some hF26
       refine Zy hE rfl Ap (Vt _ p0 s16.2.1 s16.2.1 r32 e33) ?_
       rintro v w a ⟨rfl,hK⟩ hE
       have hM:=hM.keep hK
       refine Zc hE rfl fun a hE=>Zi (Yv ?_)
       obtain rfl:=Option.some.inj hF26
       refine Zj ?_
       exact ⟨hE.sub ⟨rfl,rfl,rfl,rfl,rfl,rfl,rfl,rfl,trivial⟩,hM⟩
     ·skip
      rintro a w ⟨hE,hM⟩
      refine wp_region_lit (Zd hE rfl fun a hE=>Zl hE rfl rfl (BU _ _ (by decide)) fun a hE=>Zc hE rfl fun a hE=>Zi (Zj ?_))
      exact ⟨_,(ois hF23),hE.sub ⟨rfl,rfl,rfl,rfl,rfl,rfl,rfl,rfl,trivial⟩,hM⟩
    ·intro hb20
     have hs17:=Zs hs17 hb20
     refine wp_exit (Zn (Zn (Yy ?_)))
     obtain rfl:=hx18 _ (ois hs17)
     refine Zj ?_
     exact ⟨hE.sub ⟨rfl,rfl,rfl,rfl,rfl,rfl,trivial⟩,hM⟩
   ·skip
    rintro a w ⟨hE,hM⟩
    refine Zw (wp_region_lit (Zd hE rfl fun a hE=>Zd hE rfl ?_)); intro a hE
    obtain ⟨x37,hi36,hF15⟩:=bvx hF15
    refine ZH hE rfl rfl Try.underlying54 ty5 hi36.1 fun a hE=>Zk (seg:=[vB j13]) (cs':=enc (s8.1.setIfInBounds (s8.2).toNat j13)) hE hM Za rfl rfl rfl ty5 rfl (ZR (v:=s8.1) (x:=j13) hi36.1) (Flat.cell (j13 : UInt8)) (ZE (v:=s8.1) (x:=j13) hi36.1) fun w a hM hE=>Zi (Yv (Zw (wp_region_lit (Zd hE rfl fun a hE=>Zl hE rfl rfl rfl fun a hE=>Zc hE rfl fun a hE=>Zi (Zj ?_)))))
    exact ⟨_,(ois hF15),hE.sub ⟨rfl,rfl,rfl,rfl,rfl,trivial⟩,hM⟩
  ·intro hb12
   have hs9:=Zs hs9 hb12
   refine wp_exit (Zn (Zn (Yy ?_)))
   obtain rfl:=hx10 _ (ois hs9)
   refine Zj ?_
   exact ⟨hE.sub ⟨rfl,rfl,trivial⟩,hM⟩
 ·skip
  rintro a w ⟨hE,hM⟩
  refine Zw (Zb (Zp hE rfl VL rfl hM.rawAt0 (Flat.len _) ?_)); intro a hE
  have hM:=hM.pull1
  refine Zk (seg:=enc j5) (cs':=enc j5) hE hM Za rfl rfl rfl VL (Flat.len _) (zle flq) (Flat.cell _) (Zh flq) fun w a hM hE=>Ze ?_
  obtain rfl:=Option.some.inj hF7
  have hq40 : Z6 Try.prog _ _ (.cell 4 54) _:=ZD hE rfl VL rfl hM.rawAt0 (Flat.len _) rfl
  exact wp_ret (ZU hE rfl hq40 ⟨_,rfl,rfl,hM.kept⟩)
def XI (p0 : UInt8) (p1 : Int) : Option (UInt8) :=
 (XE (IntKind.u64.wrap p1)).bind fun _=>some (Zz (JB (orI (HM (bI p0) (IntKind.u64.wrap p1)) (Uy (HM (bI p0) (IntKind.u64.wrap p1)) 8)) 255))
theorem HH (w0 : World) (p0 : UInt8) (p1 : Int) (r : UInt8) (hF : XI p0 p1 = some r) :
  Calls Try.prog 207 [vB p0,vI p1].toArray w0 (Rt w0 (vB r)):=by
 refine ce Try.func207 ?_
 intro a hE
 have hM:=M.start w0
 unfold XI at hF
 refine Zb (Zc hE rfl fun a hE=>Ze (Zb (Zd hE rfl fun a hE=>Q2 hE Za ld rfl Try.underlying5 Try.underlying2 fun a hE=>Zd hE rfl fun a hE=>TL hE Za ld rfl Try.underlying2 Try.underlying45 ?_))); intro a hE
 obtain ⟨_,e1,hF⟩:=bind_some hF
 have e1:=WH e1
 refine JC hE Za ld rfl rfl (zd _ _ e1) fun a hE=>Zc hE rfl fun a hE=>Ze (Zb (Zd hE rfl fun a hE=>Zd hE rfl fun a hE=>JC hE Za ld rfl rfl (Bt _ _ (by decide)) fun a hE=>Zl hE rfl rfl rfl fun a hE=>Zl hE rfl rfl rfl fun a hE=>Xc hE Za ld rfl Try.underlying2 Try.underlying5 fun a hE=>Zc hE rfl fun a hE=>Ze ?_))
 obtain rfl:=Option.some.inj hF
 exact wp_ret (kr1 hE rfl rfl hM.kept)
def Ye (p0 : (List Int)) (s8 : (Vector UInt8 256) × Int) (s16 : UInt8 × Int) : Option (Fl (UInt8 × Int) UInt8) :=
 if (decide (s16.2 < (p0.length : Int))) = true then ((idx p0 s16.2).bind fun x21=>(XI (Zz s8.2) x21).bind fun r24=>some (Fl.nx (s16.1 ^^^ r24,wr (s16.2 + 1)))) else (some (Fl.ex s16.1))
def XF (p0 : (List Int)) (p1 : UInt8) (s8 : (Vector UInt8 256) × Int) : Option (Fl ((Vector UInt8 256) × Int) (Vector UInt8 256)) :=
 if (decide (s8.2 < 256)) = true then ((ZF (Ye p0 s8) (p1,0)).bind fun j13=>(ZI s8.1 s8.2).bind fun x28=>some (Fl.nx ((s8.1.setIfInBounds (s8.2).toNat j13),wr (s8.2 + 1)))) else (some (Fl.ex s8.1))
def X3 (p0 : (List Int)) (p1 : UInt8) : Option ((Vector UInt8 256)) :=
 (ZF (XF p0 p1) ((Vector.replicate 256 (0 : UInt8)),0)).bind fun j5=>some j5
theorem Qz (w0 : World) (p0 : (List Int)) (v0_1 : Value) (hv0_1 : Ro w0 p0 [v0_1]) (p1 : UInt8) (r : (Vector UInt8 256)) (hF : X3 p0 p1 = some r) :
  Calls Try.prog 186 [v0_1,vB p1].toArray w0 (Rt w0 (Value.agg (enc r).toArray)):=by
 refine ce Try.func186 ?_
 intro a hE
 have hM:=M.start w0
 unfold X3 at hF
 refine Zb (Zv hE hM VL fun b1 w a hM hE=>Ze (Zb (Yx (parts:=[]) (vs:=[]) (cs:=enc (Vector.replicate 256 (0 : UInt8))) hE Za ld rfl rfl VL rfl ty5 Yk fun a hE=>Zv hE hM VL fun b3 w a hM hE=>Zk (seg:=enc (Vector.replicate 256 (0 : UInt8))) (cs':=enc (Vector.replicate 256 (0 : UInt8))) hE hM Za rfl rfl rfl VL (Flat.len _) (zle flq) (Flat.cell _) (Zh flq) fun w a hM hE=>Ze (wp_seq (Zb (Zc hE rfl fun a hE=>Ze ?_))))))
 obtain ⟨j5,hl6,hF7⟩:=bind_some hF
 refine ZW (fun a w=>Env 34 a [(4,(ptr b1 0)),(5,(ptr b3 0))] ∧ M (Old w0) w0 w [raw b3 (enc j5),raw b1 (enc (Vector.replicate 256 (0 : UInt8)))]) ?_ ?_
 ·skip
  refine wp_block ?_
  refine ZM (fun (s8 : (Vector UInt8 256) × Int) a w=>Env 34 a [(0,v0_1),(1,vB p1),(4,(ptr b1 0)),(5,(ptr b3 0)),(6,vI s8.2)] ∧ M (Old w0) w0 w [raw b3 (enc s8.1),raw b1 (enc (Vector.replicate 256 (0 : UInt8)))]) hl6 ⟨hE.sub ⟨rfl,rfl,rfl,rfl,rfl,trivial⟩,hM⟩ ?_
  rintro s8 a w ⟨hE,hM⟩ o11 hs9 hx10
  unfold XF at hs9
  refine wp_seq (Zb (Zd hE rfl fun a hE=>Zl hE rfl rfl rfl fun a hE=>Ze ?_))
  refine Zq hE rfl ?_ ?_
  ·intro hb12
   have hs9:=Zt hs9 hb12
   refine wp_skip (Zw (wp_seq (wp_block (Zb (Zd hE rfl fun a hE=>Zc hE rfl fun a hE=>Ze (wp_seq (Zb (Zc hE rfl fun a hE=>Ze ?_))))))))
   obtain ⟨j13,hl14,hF15⟩:=bind_some hs9
   refine ZW (fun a w=>Env 34 a [(0,v0_1),(1,vB p1),(4,(ptr b1 0)),(5,(ptr b3 0)),(6,vI s8.2),(7,vB j13)] ∧ M (Old w0) w0 w [raw b3 (enc s8.1),raw b1 (enc (Vector.replicate 256 (0 : UInt8)))]) ?_ ?_
   ·skip
    refine wp_block ?_
    refine ZM (fun (s16 : UInt8 × Int) a w=>Env 34 a [(0,v0_1),(1,vB p1),(4,(ptr b1 0)),(5,(ptr b3 0)),(6,vI s8.2),(7,vB s16.1),(8,vI s16.2)] ∧ M (Old w0) w0 w [raw b3 (enc s8.1),raw b1 (enc (Vector.replicate 256 (0 : UInt8)))]) hl14 ⟨hE.sub ⟨rfl,rfl,rfl,rfl,rfl,rfl,rfl,trivial⟩,hM⟩ ?_
    rintro s16 a w ⟨hE,hM⟩ o19 hs17 hx18
    unfold Ye at hs17
    refine wp_seq (Zb (Zd hE rfl fun a hE=>Zd hE rfl fun a hE=>Yq hE rfl Try.underlying138 (hM.rd hv0_1) fun a hE=>Zl hE rfl rfl rfl fun a hE=>Ze ?_))
    refine Zq hE rfl ?_ ?_
    ·intro hb20
     have hs17:=Zt hs17 hb20
     refine wp_skip (Zw (wp_seq (wp_block (wp_region_lit (Zd hE rfl fun a hE=>Zd hE rfl fun a hE=>Xc hE Za ld rfl Try.underlying3 Try.underlying5 fun a hE=>Zd hE rfl fun a hE=>Zd hE rfl ?_))))); intro a hE
     obtain ⟨x21,hi23,hs17⟩:=bix hs17
     refine Wx hE rfl rfl Try.underlying138 ty2 (hM.rd hv0_1) hi23.1 fun a hE=>ZQ (v:=(vI x21)) hE rfl ty2 rfl (YA (hM.rd hv0_1) hi23.2) ?_; intro a hE
     obtain ⟨r24,e25,hs17⟩:=bind_some hs17
     refine Zy hE rfl (cbm Try.func207) (HH _ (Zz s8.2) x21 r24 e25) ?_
     rintro v w a ⟨rfl,hK⟩ hE
     have hM:=hM.keep hK
     refine Zl hE rfl rfl (VK s16.1 r24) fun a hE=>Zc hE rfl fun a hE=>Zi (Yv (Zw (wp_region_lit (Zd hE rfl fun a hE=>Zl hE rfl rfl rfl fun a hE=>Zc hE rfl fun a hE=>Zi (Zj ?_)))))
     exact ⟨_,(ois hs17),hE.sub ⟨rfl,rfl,rfl,rfl,rfl,rfl,rfl,trivial⟩,hM⟩
    ·intro hb20
     have hs17:=Zs hs17 hb20
     refine wp_exit (Zn (Zn (Yy ?_)))
     obtain rfl:=hx18 _ (ois hs17)
     refine Zj ?_
     exact ⟨hE.sub ⟨rfl,rfl,rfl,rfl,rfl,rfl,trivial⟩,hM⟩
   ·skip
    rintro a w ⟨hE,hM⟩
    refine Zw (wp_region_lit (Zd hE rfl fun a hE=>Zd hE rfl ?_)); intro a hE
    obtain ⟨x28,hi27,hF15⟩:=bvx hF15
    refine ZH hE rfl rfl Try.underlying54 ty5 hi27.1 fun a hE=>Zk (seg:=[vB j13]) (cs':=enc (s8.1.setIfInBounds (s8.2).toNat j13)) hE hM Za rfl rfl rfl ty5 rfl (ZR (v:=s8.1) (x:=j13) hi27.1) (Flat.cell (j13 : UInt8)) (ZE (v:=s8.1) (x:=j13) hi27.1) fun w a hM hE=>Zi (Yv (Zw (wp_region_lit (Zd hE rfl fun a hE=>Zl hE rfl rfl rfl fun a hE=>Zc hE rfl fun a hE=>Zi (Zj ?_)))))
    exact ⟨_,(ois hF15),hE.sub ⟨rfl,rfl,rfl,rfl,rfl,trivial⟩,hM⟩
  ·intro hb12
   have hs9:=Zs hs9 hb12
   refine wp_exit (Zn (Zn (Yy ?_)))
   obtain rfl:=hx10 _ (ois hs9)
   refine Zj ?_
   exact ⟨hE.sub ⟨rfl,rfl,trivial⟩,hM⟩
 ·skip
  rintro a w ⟨hE,hM⟩
  refine Zw (Zb (Zp hE rfl VL rfl hM.rawAt0 (Flat.len _) ?_)); intro a hE
  have hM:=hM.pull1
  refine Zk (seg:=enc j5) (cs':=enc j5) hE hM Za rfl rfl rfl VL (Flat.len _) (zle flq) (Flat.cell _) (Zh flq) fun w a hM hE=>Ze ?_
  obtain rfl:=Option.some.inj hF7
  have hq31 : Z6 Try.prog _ _ (.cell 4 54) _:=ZD hE rfl VL rfl hM.rawAt0 (Flat.len _) rfl
  exact wp_ret (ZU hE rfl hq31 ⟨_,rfl,rfl,hM.kept⟩)
def VE (p0 : (Vector UInt8 256)) (p1 : (Vector UInt8 256)) (s12 : (Vector UInt8 256) × Int) : Option (Fl ((Vector UInt8 256) × Int) (Vector UInt8 256)) :=
 if (decide (s12.2 < 256)) = true then ((ZI p0 s12.2).bind fun x18=>(ZI p1 (bI x18)).bind fun x21=>(ZI s12.1 s12.2).bind fun x24=>some (Fl.nx ((s12.1.setIfInBounds (s12.2).toNat x21),wr (s12.2 + 1)))) else (some (Fl.ex s12.1))
def VU (p0 : (Vector UInt8 256)) (p1 : (Vector UInt8 256)) : Option ((Vector UInt8 256)) :=
 (ZF (VE p0 p1) ((Vector.replicate 256 (0 : UInt8)),0)).bind fun j9=>some j9
theorem J6 (w0 : World) (p0 : (Vector UInt8 256)) (p1 : (Vector UInt8 256)) (r : (Vector UInt8 256)) (hF : VU p0 p1 = some r) :
  Calls Try.prog 184 [(Value.agg (enc p0).toArray),(Value.agg (enc p1).toArray)].toArray w0 (Rt w0 (Value.agg (enc r).toArray)):=by
 refine ce Try.func184 ?_
 intro a hE
 have hM:=M.start w0
 unfold VU at hF
 refine Zb (Z7 (cs:=enc p0) hE hM Za ld rfl rfl fun b1 w a hM hE=>Z7 (cs:=enc p1) hE hM Za ld rfl rfl fun b3 w a hM hE=>Zv hE hM VL fun b5 w a hM hE=>Ze (Zb (Yx (parts:=[]) (vs:=[]) (cs:=enc (Vector.replicate 256 (0 : UInt8))) hE Za ld rfl rfl VL rfl ty5 Yk fun a hE=>Zv hE hM VL fun b7 w a hM hE=>Zk (seg:=enc (Vector.replicate 256 (0 : UInt8))) (cs':=enc (Vector.replicate 256 (0 : UInt8))) hE hM Za rfl rfl rfl VL (Flat.len _) (zle flq) (Flat.cell _) (Zh flq) fun w a hM hE=>Ze (wp_seq (Zb (Zc hE rfl fun a hE=>Ze ?_))))))
 obtain ⟨j9,hl10,hF11⟩:=bind_some hF
 refine ZW (fun a w=>Env 20 a [(4,(ptr b5 0)),(5,(ptr b7 0))] ∧ M (Old w0) w0 w [raw b7 (enc j9),raw b5 (enc (Vector.replicate 256 (0 : UInt8)))]) ?_ ?_
 ·skip
  refine wp_block ?_
  refine ZM (fun (s12 : (Vector UInt8 256) × Int) a w=>Env 20 a [(2,(ptr b1 0)),(3,(ptr b3 0)),(4,(ptr b5 0)),(5,(ptr b7 0)),(6,vI s12.2)] ∧ M (Old w0) w0 w [raw b7 (enc s12.1),raw b5 (enc (Vector.replicate 256 (0 : UInt8))),raw b3 (enc p1),raw b1 (enc p0)]) hl10 ⟨hE.sub ⟨rfl,rfl,rfl,rfl,rfl,trivial⟩,hM⟩ ?_
  rintro s12 a w ⟨hE,hM⟩ o15 hs13 hx14
  unfold VE at hs13
  refine wp_seq (Zb (Zd hE rfl fun a hE=>Zl hE rfl rfl rfl fun a hE=>Ze ?_))
  refine Zq hE rfl ?_ ?_
  ·intro hb16
   have hs13:=Zt hs13 hb16
   refine wp_skip (Zw (wp_seq (wp_block (wp_region_lit (Zd hE rfl fun a hE=>Zd hE rfl ?_))))); intro a hE
   obtain ⟨x18,hi17,hs13⟩:=bvx hs13
   refine ZH hE rfl rfl Try.underlying54 ty5 hi17.1 fun a hE=>ZQ (v:=(vB x18)) hE rfl ty5 rfl (At.vec hM.rawAt3 hi17.2) ?_; intro a hE
   obtain ⟨x21,hi20,hs13⟩:=bvx hs13
   refine ZH hE rfl rfl Try.underlying54 ty5 hi20.1 fun a hE=>ZQ (v:=(vB x21)) hE rfl ty5 rfl (At.vec hM.rawAt2 hi20.2) ?_; intro a hE
   obtain ⟨x24,hi23,hs13⟩:=bvx hs13
   refine ZH hE rfl rfl Try.underlying54 ty5 hi23.1 fun a hE=>Zk (seg:=[vB x21]) (cs':=enc (s12.1.setIfInBounds (s12.2).toNat x21)) hE hM Za rfl rfl rfl ty5 rfl (ZR (v:=s12.1) (x:=x21) hi23.1) (Flat.cell (x21 : UInt8)) (ZE (v:=s12.1) (x:=x21) hi23.1) fun w a hM hE=>Zi (Yv (Zw (wp_region_lit (Zd hE rfl fun a hE=>Zl hE rfl rfl rfl fun a hE=>Zc hE rfl fun a hE=>Zi (Zj ?_)))))
   exact ⟨_,(ois hs13),hE.sub ⟨rfl,rfl,rfl,rfl,rfl,trivial⟩,hM⟩
  ·intro hb16
   have hs13:=Zs hs13 hb16
   refine wp_exit (Zn (Zn (Yy ?_)))
   obtain rfl:=hx14 _ (ois hs13)
   refine Zj ?_
   have hM:=M.fst (l:=[_,_]) hM.pull1.pull1
   exact ⟨hE.sub ⟨rfl,rfl,trivial⟩,hM⟩
 ·skip
  rintro a w ⟨hE,hM⟩
  refine Zw (Zb (Zp hE rfl VL rfl hM.rawAt0 (Flat.len _) ?_)); intro a hE
  have hM:=hM.pull1
  refine Zk (seg:=enc j9) (cs':=enc j9) hE hM Za rfl rfl rfl VL (Flat.len _) (zle flq) (Flat.cell _) (Zh flq) fun w a hM hE=>Ze ?_
  obtain rfl:=Option.some.inj hF11
  have hq27 : Z6 Try.prog _ _ (.cell 4 54) _:=ZD hE rfl VL rfl hM.rawAt0 (Flat.len _) rfl
  exact wp_ret (ZU hE rfl hq27 ⟨_,rfl,rfl,hM.kept⟩)
def Uc (p0 : Int) (s4 : UInt8 × Int × UInt8) : Option (Fl (UInt8 × Int × UInt8) UInt8) :=
 if (decide (s4.2.1 > 0)) = true then (((if ((Int.tmod s4.2.1 2) == 1) = true then ((YQ p0 s4.2.2 s4.1).bind fun r16=>some r16) else (some s4.2.2) : Option (UInt8)).bind fun j12=>(YQ p0 s4.1 s4.1).bind fun r20=>some (r20,j12) : Option (UInt8 × UInt8)).bind fun j9=>some (Fl.nx (j9.1,wr (Int.tdiv s4.2.1 2),j9.2))) else (some (Fl.ex s4.2.2))
def WF (p0 : Int) (p1 : UInt8) (p2 : Int) : Option (UInt8) :=
 (ZF (Uc p0) (p1,p2,1)).bind fun j1=>some j1
theorem Jw (w0 : World) (p0 : Int) (p1 : UInt8) (p2 : Int) (r : UInt8) (hF : WF p0 p1 p2 = some r) :
  Calls Try.prog 204 [vI p0,vB p1,vI p2].toArray w0 (Rt w0 (vB r)):=by
 refine ce Try.func204 ?_
 intro a hE
 have hM:=M.start w0
 unfold WF at hF
 refine Zb (Zc hE rfl fun a hE=>Ze (Zb (Zc hE rfl fun a hE=>Ze ?_)))
 obtain ⟨j1,hl2,hF3⟩:=bind_some hF
 refine ZB (fun a w=>Env 24 a [(7,vB j1)] ∧ M (Old w0) w0 w []) ?_ ?_
 ·skip
  refine wp_block ?_
  refine ZM (fun (s4 : UInt8 × Int × UInt8) a w=>Env 24 a [(0,vI p0),(1,vB s4.1),(2,vI s4.2.1),(7,vB s4.2.2)] ∧ M (Old w0) w0 w []) hl2 ⟨hE.sub ⟨rfl,rfl,rfl,rfl,trivial⟩,hM⟩ ?_
  rintro s4 a w ⟨hE,hM⟩ o7 hs5 hx6
  unfold Uc at hs5
  refine wp_seq (Zb (Zd hE rfl fun a hE=>Zl hE rfl rfl rfl fun a hE=>Ze ?_))
  refine Zq hE rfl ?_ ?_
  ·intro hb8
   have hs5:=Zt hs5 hb8
   refine wp_skip (Zw ?_)
   obtain ⟨j9,hl10,hF11⟩:=bind_some hs5
   refine ZB (fun a w=>Env 24 a [(0,vI p0),(1,vB j9.1),(2,vI s4.2.1),(7,vB j9.2)] ∧ M (Old w0) w0 w []) ?_ ?_
   ·skip
    refine wp_block ?_
    obtain ⟨j12,hl13,hF14⟩:=bind_some hl10
    refine ZB (fun a w=>Env 24 a [(0,vI p0),(1,vB s4.1),(2,vI s4.2.1),(7,vB j12)] ∧ M (Old w0) w0 w []) ?_ ?_
    ·skip
     refine Zb (Zd hE rfl fun a hE=>Zl hE rfl rfl (Tq _ _ (by decide)) fun a hE=>Zl hE rfl rfl rfl fun a hE=>Ze ?_)
     refine Zq hE rfl ?_ ?_
     ·intro hb15
      have hl13:=Zt hl13 hb15
      refine wp_region_lit (Zd hE rfl fun a hE=>Zd hE rfl fun a hE=>Zd hE rfl ?_); intro a hE
      obtain ⟨r16,e17,hl13⟩:=bind_some hl13
      refine Zy hE rfl Ap (Vt _ p0 s4.2.2 s4.1 r16 e17) ?_
      rintro v w a ⟨rfl,hK⟩ hE
      have hM:=hM.keep hK
      refine Zc hE rfl fun a hE=>Zi ?_
      obtain rfl:=Option.some.inj hl13
      refine Zj ?_
      exact ⟨hE.sub ⟨rfl,rfl,rfl,rfl,trivial⟩,hM⟩
     ·intro hb15
      have hl13:=Zs hl13 hb15
      refine wp_skip ?_
      obtain rfl:=Option.some.inj hl13
      refine Zj ?_
      exact ⟨hE.sub ⟨rfl,rfl,rfl,rfl,trivial⟩,hM⟩
    ·skip
     rintro a w ⟨hE,hM⟩
     refine wp_region_lit (Zd hE rfl fun a hE=>Zd hE rfl fun a hE=>Zd hE rfl ?_); intro a hE
     obtain ⟨r20,e21,hF14⟩:=bind_some hF14
     refine Zy hE rfl Ap (Vt _ p0 s4.1 s4.1 r20 e21) ?_
     rintro v w a ⟨rfl,hK⟩ hE
     have hM:=hM.keep hK
     refine Zc hE rfl fun a hE=>Zi (Yv ?_)
     obtain rfl:=Option.some.inj hF14
     refine Zj ?_
     exact ⟨hE.sub ⟨rfl,rfl,rfl,rfl,trivial⟩,hM⟩
   ·skip
    rintro a w ⟨hE,hM⟩
    refine wp_region_lit (Zd hE rfl fun a hE=>Zl hE rfl rfl (BU _ _ (by decide)) fun a hE=>Zc hE rfl fun a hE=>Zi (Zj ?_))
    exact ⟨_,(ois hF11),hE.sub ⟨rfl,rfl,rfl,rfl,trivial⟩,hM⟩
  ·intro hb8
   have hs5:=Zs hs5 hb8
   refine wp_exit (Zn (Zn (Yy ?_)))
   obtain rfl:=hx6 _ (ois hs5)
   refine Zj ?_
   exact ⟨hE.sub ⟨rfl,trivial⟩,hM⟩
 ·skip
  rintro a w ⟨hE,hM⟩
  refine Zb (Zd hE rfl fun a hE=>Zc hE rfl fun a hE=>Ze ?_)
  obtain rfl:=Option.some.inj hF3
  exact wp_ret (kr1 hE rfl rfl hM.kept)
def WT (p0 : Int) (p1 : UInt8) : Option (UInt8) :=
 (WF p0 p1 254).bind fun r1=>some r1
theorem HI (w0 : World) (p0 : Int) (p1 : UInt8) (r : UInt8) (hF : WT p0 p1 = some r) :
  Calls Try.prog 181 [vI p0,vB p1].toArray w0 (Rt w0 (vB r)):=by
 refine ce Try.func181 ?_
 intro a hE
 have hM:=M.start w0
 unfold WT at hF
 refine Zb (Zc hE rfl fun a hE=>Ze (Zb (Zd hE rfl fun a hE=>Zd hE rfl ?_))); intro a hE
 obtain ⟨r1,e2,hF⟩:=bind_some hF
 refine Zy hE rfl (cbm Try.func204) (Jw _ p0 p1 254 r1 e2) ?_
 rintro v w a ⟨rfl,hK⟩ hE
 have hM:=hM.keep hK
 refine Zc hE rfl fun a hE=>Ze ?_
 obtain rfl:=Option.some.inj hF
 exact wp_ret (kr1 hE rfl rfl hM.kept)
def V7 (s16 : (Vector (Vector UInt8 4) 4) × Int) (s24 : (Vector (Vector UInt8 4) 4) × Int) : Option (Fl ((Vector (Vector UInt8 4) 4) × Int) (Vector (Vector UInt8 4) 4)) :=
 if (decide (s24.2 < 4)) = true then ((WT 285 (Zz (KY s16.2 (wr (4 + s24.2))))).bind fun r30=>(ZI s24.1 s16.2).bind fun x33=>(ZI x33 s24.2).bind fun x36=>some (Fl.nx ((s24.1.setIfInBounds (s16.2).toNat (x33.setIfInBounds (s24.2).toNat r30)),wr (s24.2 + 1)))) else (some (Fl.ex s24.1))
def Ua (s16 : (Vector (Vector UInt8 4) 4) × Int) : Option (Fl ((Vector (Vector UInt8 4) 4) × Int) (Vector (Vector UInt8 4) 4)) :=
 if (decide (s16.2 < 4)) = true then ((ZF (V7 s16) (s16.1,0)).bind fun j21=>some (Fl.nx (j21,wr (s16.2 + 1)))) else (some (Fl.ex s16.1))
def V8 (s43 : (Vector UInt8 16) × Int) : Option (Fl ((Vector UInt8 16) × Int) (Vector UInt8 16)) :=
 if (decide (s43.2 < 16)) = true then ((ZI s43.1 s43.2).bind fun x49=>some (Fl.nx ((s43.1.setIfInBounds (s43.2).toNat (Zz (Int.tmod (wr ((wr (13 * s43.2)) + 4)) 16))),wr (s43.2 + 1)))) else (some (Fl.ex s43.1))
def Vy (p0 : Int) : Option (GCipher) :=
 (Vx 285 254).bind fun r5=>(X3 ([0,1,4] : List Int) 90).bind fun r9=>(VU r5 r9).bind fun r11=>(ZF (Ua) ((Vector.replicate 4 (Vector.replicate 4 (0 : UInt8))),0)).bind fun j13=>(ZF (V8) ((Vector.replicate 16 (0 : UInt8)),0)).bind fun j40=>some (⟨285,r11,j13,j40,p0⟩ : GCipher)
theorem JD (w0 : World) (p0 : Int) (r : GCipher) (hF : Vy p0 = some r) :
  Calls Try.prog 141 [vI p0].toArray w0 (Rt w0 (Value.agg (enc r).toArray)):=by
 refine ce Try.func141 ?_
 intro a hE
 have hM:=M.start w0
 unfold Vy at hF
 refine Zb (Zv hE hM Tl fun b1 w a hM hE=>Ze (Zb (Zd hE rfl fun a hE=>Ws (parts:=[(0,.const (vI 285)),(4,.tmp 7)]) (vs:=[(0,vI 285),(4,vI p0)]) (cs:=cat [[vI 285],enc (Vector.replicate 256 (0 : UInt8)),enc (Vector.replicate 4 (Vector.replicate 4 (0 : UInt8))),enc (Vector.replicate 16 (0 : UInt8)),[vI p0]]) hE Za ld rfl rfl Tl pl61 (Xm (pre:=[]) (seg:=[vI 0]) (seg':=[vI 285]) (post:=[enc (Vector.replicate 256 (0 : UInt8)),enc (Vector.replicate 4 (Vector.replicate 4 (0 : UInt8))),enc (Vector.replicate 16 (0 : UInt8)),[vI 0]]) rfl cl0 rfl rfl rfl (Xm (pre:=[[vI 285],enc (Vector.replicate 256 (0 : UInt8)),enc (Vector.replicate 4 (Vector.replicate 4 (0 : UInt8))),enc (Vector.replicate 16 (0 : UInt8))]) (seg:=[vI 0]) (seg':=[vI p0]) (post:=[]) rfl ck rfl rfl rfl V5)) fun a hE=>Zv hE hM Tl fun b3 w a hM hE=>Zk (seg:=cat [[vI 285],enc (Vector.replicate 256 (0 : UInt8)),enc (Vector.replicate 4 (Vector.replicate 4 (0 : UInt8))),enc (Vector.replicate 16 (0 : UInt8)),[vI p0]]) (cs':=cat [[vI 285],enc (Vector.replicate 256 (0 : UInt8)),enc (Vector.replicate 4 (Vector.replicate 4 (0 : UInt8))),enc (Vector.replicate 16 (0 : UInt8)),[vI p0]]) hE hM Za rfl rfl rfl Tl cq (Nat.le_of_eq ((Nat.zero_add _).trans (Eq.trans cq (Eq.symm cq)))) (Y2 (cc1 (Flat.cell (285 : Int)) (cc1 (Flat.cell _) (cc1 (Flat.cell _) (cc1 (Flat.cell _) (cc1 (Flat.cell (p0 : Int)) cc0)))))) (Zh (Eq.trans cq (Eq.symm cq))) fun w a hM hE=>Ze (Zb ?_))))
 obtain ⟨r5,e6,hF⟩:=bind_some hF
 refine Zy hE rfl (cbm Try.func185) (Jn _ 285 254 r5 e6) ?_
 rintro v w a ⟨rfl,hK⟩ hE
 have hM:=hM.keep hK
 refine Z3 (xs:=[.const (vI 0),.const (vI 1),.const (vI 4)]) (l:=([0,1,4] : List Int)) (vs:=[vI 0,vI 1,vI 4]) hE hM Za ld rfl rfl Try.underlying138 ty2 rfl (by decide) rfl ?_; intro u7 w a hM hE
 obtain ⟨r9,e10,hF⟩:=bind_some hF
 refine Zy hE rfl (cbm Try.func186) (Qz _ ([0,1,4] : List Int) u7 (hM.sl (pre:=[]) noB) 90 r9 e10) ?_
 rintro v w a ⟨rfl,hK⟩ hE
 have hM:=hM.keep hK
 obtain ⟨r11,e12,hF⟩:=bind_some hF
 refine Zy hE rfl (cbm Try.func184) (J6 _ r5 r9 r11 e12) ?_
 rintro v w a ⟨rfl,hK⟩ hE
 have hM:=hM.keep hK
 refine ZJ hE rfl (K4) ?_; intro a hE
 have hM:=hM.pull1
 refine Zk (seg:=enc r11) hE hM Za rfl rfl rfl VL (Flat.len _) (UF (pre:=[[vI 285]]) ck flq) (Flat.cell _) (Ww (pre:=[[vI 285]]) ck flq) fun w a hM hE=>Ze (wp_seq (Zb (Zc hE rfl fun a hE=>Ze ?_)))
 obtain ⟨j13,hl14,hF15⟩:=bind_some hF
 refine ZW (fun a w=>Env 46 a [(2,(ptr b1 0)),(3,(ptr b3 0))] ∧ M (Old w0) w0 w [raw b3 (cat [[vI 285],enc r11,enc j13,enc (Vector.replicate 16 (0 : UInt8)),[vI p0]]),raw b1 (cat [[vI 0],enc (Vector.replicate 256 (0 : UInt8)),enc (Vector.replicate 4 (Vector.replicate 4 (0 : UInt8))),enc (Vector.replicate 16 (0 : UInt8)),[vI 0]])]) ?_ ?_
 ·skip
  refine wp_block ?_
  have hM:=M.fst (l:=[_,_]) hM.pull2.pull1
  refine ZM (fun (s16 : (Vector (Vector UInt8 4) 4) × Int) a w=>Env 46 a [(2,(ptr b1 0)),(3,(ptr b3 0)),(4,vI s16.2)] ∧ M (Old w0) w0 w [raw b3 (cat [[vI 285],enc r11,enc s16.1,enc (Vector.replicate 16 (0 : UInt8)),[vI p0]]),raw b1 (cat [[vI 0],enc (Vector.replicate 256 (0 : UInt8)),enc (Vector.replicate 4 (Vector.replicate 4 (0 : UInt8))),enc (Vector.replicate 16 (0 : UInt8)),[vI 0]])]) hl14 ⟨hE.sub ⟨rfl,rfl,rfl,trivial⟩,hM⟩ ?_
  rintro s16 a w ⟨hE,hM⟩ o19 hs17 hx18
  unfold Ua at hs17
  refine wp_seq (Zb (Zd hE rfl fun a hE=>Zl hE rfl rfl rfl fun a hE=>Ze ?_))
  refine Zq hE rfl ?_ ?_
  ·intro hb20
   have hs17:=Zt hs17 hb20
   refine wp_skip (Zw (wp_seq (wp_block (Zb (Zc hE rfl fun a hE=>Ze ?_)))))
   obtain ⟨j21,hl22,hF23⟩:=bind_some hs17
   refine ZW (fun a w=>Env 46 a [(2,(ptr b1 0)),(3,(ptr b3 0)),(4,vI s16.2)] ∧ M (Old w0) w0 w [raw b3 (cat [[vI 285],enc r11,enc j21,enc (Vector.replicate 16 (0 : UInt8)),[vI p0]]),raw b1 (cat [[vI 0],enc (Vector.replicate 256 (0 : UInt8)),enc (Vector.replicate 4 (Vector.replicate 4 (0 : UInt8))),enc (Vector.replicate 16 (0 : UInt8)),[vI 0]])]) ?_ ?_
   ·skip
    refine wp_block ?_
    refine ZM (fun (s24 : (Vector (Vector UInt8 4) 4) × Int) a w=>Env 46 a [(2,(ptr b1 0)),(3,(ptr b3 0)),(4,vI s16.2),(5,vI s24.2)] ∧ M (Old w0) w0 w [raw b3 (cat [[vI 285],enc r11,enc s24.1,enc (Vector.replicate 16 (0 : UInt8)),[vI p0]]),raw b1 (cat [[vI 0],enc (Vector.replicate 256 (0 : UInt8)),enc (Vector.replicate 4 (Vector.replicate 4 (0 : UInt8))),enc (Vector.replicate 16 (0 : UInt8)),[vI 0]])]) hl22 ⟨hE.sub ⟨rfl,rfl,rfl,rfl,trivial⟩,hM⟩ ?_
    rintro s24 a w ⟨hE,hM⟩ o27 hs25 hx26
    unfold V7 at hs25
    refine wp_seq (Zb (Zd hE rfl fun a hE=>Zl hE rfl rfl rfl fun a hE=>Ze ?_))
    refine Zq hE rfl ?_ ?_
    ·intro hb28
     have hs25:=Zt hs25 hb28
     refine wp_skip (Zw (wp_seq (wp_block ?_)))
     obtain ⟨r30,e31,hs25⟩:=bind_some hs25
     obtain ⟨x33,hi32,hs25⟩:=bvx hs25
     obtain ⟨x36,hi35,hs25⟩:=bvx hs25
     refine ZP [22,23,24,25,26,27,28,29,30,31,32] Yr rfl rfl (by decide) rfl hE hM (qsP (fun z=>Zg z.E Za ld rfl (kr0 rfl)) (qsP (fun z=>Zg z.E Za ld rfl (kr0 rfl)) (qsP (fun z=>Zg z.E Za ld rfl (kr0 rfl)) (qsP (fun z=>Zg z.E Za ld rfl (kr0 rfl)) (qsP (v:=(vI (wr (4 + s24.2)))) (fun z=>Z1 z.E Za ld rfl rfl rfl (kr0 rfl)) (qsP (v:=(vI (KY s16.2 (wr (4 + s24.2))))) (fun z=>Z1 z.E Za ld rfl rfl rfl (kr0 rfl)) (qsP (fun z=>Xc z.E Za ld rfl Try.underlying3 Try.underlying5 (kr0 rfl)) (qsP (fun z=>ZX z.E Za ld rfl (cbm Try.func181) (HI _ 285 (Zz (KY s16.2 (wr (4 + s24.2)))) r30 e31) (kc rfl)) (qsP (fun z=>Zo z.E Za ld rfl (J9) (kr0 rfl)) (qsP (fun z=>ZC z.E Za ld rfl rfl Try.underlying57 VA hi32.1 (kr0 rfl)) (qsP (fun z=>ZC z.E Za ld rfl rfl Try.underlying55 ty5 hi35.1 (kr0 rfl)) qs0))))))))))) ?_
     ·intro a w u hE hM
      refine Zk (seg:=[vB r30]) (cs':=cat [[vI 285],enc r11,enc (s24.1.setIfInBounds (s16.2).toNat (x33.setIfInBounds (s24.2).toNat r30)),enc (Vector.replicate 16 (0 : UInt8)),[vI p0]]) hE hM Za rfl rfl rfl ty5 rfl (Qj (o':=(s16.2).toNat * 4 + (0 + (s24.2).toNat * 1)) (pre:=[[vI 285],enc r11]) (seg:=enc s24.1) (post:=[enc (Vector.replicate 16 (0 : UInt8)),[vI p0]]) ck (Vu (o':=0 + (s24.2).toNat * 1) hi32 (ZR (v:=x33) (x:=r30) hi35.1) (by first | omega | (simp only [Flat.n] <;> omega))) (by first | omega | (simp only [Flat.n] <;> omega))) (Flat.cell (r30 : UInt8)) (U1 (o':=(s16.2).toNat * 4 + (0 + (s24.2).toNat * 1)) (pre:=[[vI 285],enc r11]) (seg:=enc s24.1) (post:=[enc (Vector.replicate 16 (0 : UInt8)),[vI p0]]) ck (Vu (o':=0 + (s24.2).toNat * 1) hi32 (ZR (v:=x33) (x:=r30) hi35.1) (by first | omega | (simp only [Flat.n] <;> omega))) (WM (o':=0 + (s24.2).toNat * 1) hi32 (ZR (v:=x33) (x:=r30) hi35.1) (ZE (v:=x33) (x:=r30) hi35.1) (by first | omega | (simp only [Flat.n] <;> omega))) (by first | omega | (simp only [Flat.n] <;> omega))) fun w a hM hE=>Zi (Yv (Zw (wp_region_lit (Zd hE rfl fun a hE=>Zl hE rfl rfl rfl fun a hE=>Zc hE rfl fun a hE=>Zi (Zj ?_)))))
      exact ⟨_,(ois hs25),hE.sub ⟨rfl,rfl,rfl,rfl,trivial⟩,hM⟩
    ·intro hb28
     have hs25:=Zs hs25 hb28
     refine wp_exit (Zn (Zn (Yy ?_)))
     obtain rfl:=hx26 _ (ois hs25)
     refine Zj ?_
     exact ⟨hE.sub ⟨rfl,rfl,rfl,trivial⟩,hM⟩
   ·skip
    rintro a w ⟨hE,hM⟩
    refine Yv (Zw (wp_region_lit (Zd hE rfl fun a hE=>Zl hE rfl rfl rfl fun a hE=>Zc hE rfl fun a hE=>Zi (Zj ?_))))
    exact ⟨_,(ois hF23),hE.sub ⟨rfl,rfl,rfl,trivial⟩,hM⟩
  ·intro hb20
   have hs17:=Zs hs17 hb20
   refine wp_exit (Zn (Zn (Yy ?_)))
   obtain rfl:=hx18 _ (ois hs17)
   refine Zj ?_
   exact ⟨hE.sub ⟨rfl,rfl,trivial⟩,hM⟩
 ·skip
  rintro a w ⟨hE,hM⟩
  refine Zw (wp_seq (Zb (Zc hE rfl fun a hE=>Ze ?_)))
  obtain ⟨j40,hl41,hF42⟩:=bind_some hF15
  refine ZW (fun a w=>Env 46 a [(2,(ptr b1 0)),(3,(ptr b3 0))] ∧ M (Old w0) w0 w [raw b3 (cat [[vI 285],enc r11,enc j13,enc j40,[vI p0]]),raw b1 (cat [[vI 0],enc (Vector.replicate 256 (0 : UInt8)),enc (Vector.replicate 4 (Vector.replicate 4 (0 : UInt8))),enc (Vector.replicate 16 (0 : UInt8)),[vI 0]])]) ?_ ?_
  ·skip
   refine wp_block ?_
   refine ZM (fun (s43 : (Vector UInt8 16) × Int) a w=>Env 46 a [(2,(ptr b1 0)),(3,(ptr b3 0)),(6,vI s43.2)] ∧ M (Old w0) w0 w [raw b3 (cat [[vI 285],enc r11,enc j13,enc s43.1,[vI p0]]),raw b1 (cat [[vI 0],enc (Vector.replicate 256 (0 : UInt8)),enc (Vector.replicate 4 (Vector.replicate 4 (0 : UInt8))),enc (Vector.replicate 16 (0 : UInt8)),[vI 0]])]) hl41 ⟨hE.sub ⟨rfl,rfl,rfl,trivial⟩,hM⟩ ?_
   rintro s43 a w ⟨hE,hM⟩ o46 hs44 hx45
   unfold V8 at hs44
   refine wp_seq (Zb (Zd hE rfl fun a hE=>Zl hE rfl rfl rfl fun a hE=>Ze ?_))
   refine Zq hE rfl ?_ ?_
   ·intro hb47
    have hs44:=Zt hs44 hb47
    refine wp_skip (Zw (wp_seq (wp_block (wp_region_lit (Zd hE rfl fun a hE=>Zd hE rfl fun a hE=>Zl hE rfl rfl rfl fun a hE=>Zl hE rfl rfl rfl fun a hE=>Zl hE rfl rfl (Tq _ _ (by decide)) fun a hE=>Xc hE Za ld rfl Try.underlying3 Try.underlying5 fun a hE=>ZJ hE rfl (Hc) ?_))))); intro a hE
    obtain ⟨x49,hi48,hs44⟩:=bvx hs44
    refine ZH hE rfl rfl Try.underlying59 ty5 hi48.1 fun a hE=>Zk (seg:=[(vB (Zz (Int.tmod (wr ((wr (13 * s43.2)) + 4)) 16)))]) (cs':=cat [[vI 285],enc r11,enc j13,enc (s43.1.setIfInBounds (s43.2).toNat (Zz (Int.tmod (wr ((wr (13 * s43.2)) + 4)) 16))),[vI p0]]) hE hM Za rfl rfl rfl ty5 rfl (Qj (o':=0 + (s43.2).toNat * 1) (pre:=[[vI 285],enc r11,enc j13]) (seg:=enc s43.1) (post:=[[vI p0]]) ck (ZR (v:=s43.1) (x:=Zz (Int.tmod (wr ((wr (13 * s43.2)) + 4)) 16)) hi48.1) (by first | omega | (simp only [Flat.n] <;> omega))) (Flat.cell (Zz (Int.tmod (wr ((wr (13 * s43.2)) + 4)) 16) : UInt8)) (U1 (o':=0 + (s43.2).toNat * 1) (pre:=[[vI 285],enc r11,enc j13]) (seg:=enc s43.1) (post:=[[vI p0]]) ck (ZR (v:=s43.1) (x:=Zz (Int.tmod (wr ((wr (13 * s43.2)) + 4)) 16)) hi48.1) (ZE (v:=s43.1) (x:=Zz (Int.tmod (wr ((wr (13 * s43.2)) + 4)) 16)) hi48.1) (by first | omega | (simp only [Flat.n] <;> omega))) fun w a hM hE=>Zi (Yv (Zw (wp_region_lit (Zd hE rfl fun a hE=>Zl hE rfl rfl rfl fun a hE=>Zc hE rfl fun a hE=>Zi (Zj ?_)))))
    exact ⟨_,(ois hs44),hE.sub ⟨rfl,rfl,rfl,trivial⟩,hM⟩
   ·intro hb47
    have hs44:=Zs hs44 hb47
    refine wp_exit (Zn (Zn (Yy ?_)))
    obtain rfl:=hx45 _ (ois hs44)
    refine Zj ?_
    exact ⟨hE.sub ⟨rfl,rfl,trivial⟩,hM⟩
  ·skip
   rintro a w ⟨hE,hM⟩
   refine Zw (Zb (Zp hE rfl Tl rfl hM.rawAt0 cq ?_)); intro a hE
   have hM:=hM.pull1
   refine Zk (seg:=cat [[(vI ((⟨285,r11,j13,j40,p0⟩ : GCipher).Field))],enc ((⟨285,r11,j13,j40,p0⟩ : GCipher).Box),enc ((⟨285,r11,j13,j40,p0⟩ : GCipher).Mix),enc ((⟨285,r11,j13,j40,p0⟩ : GCipher).Places),[(vI ((⟨285,r11,j13,j40,p0⟩ : GCipher).Rounds))]]) (cs':=cat [[(vI ((⟨285,r11,j13,j40,p0⟩ : GCipher).Field))],enc ((⟨285,r11,j13,j40,p0⟩ : GCipher).Box),enc ((⟨285,r11,j13,j40,p0⟩ : GCipher).Mix),enc ((⟨285,r11,j13,j40,p0⟩ : GCipher).Places),[(vI ((⟨285,r11,j13,j40,p0⟩ : GCipher).Rounds))]]) hE hM Za rfl rfl rfl Tl cq (Nat.le_of_eq ((Nat.zero_add _).trans (Eq.trans cq (Eq.symm cq)))) (Y2 (cc1 (Flat.cell ((⟨285,r11,j13,j40,p0⟩ : GCipher).Field : Int)) (cc1 (Flat.cell _) (cc1 (Flat.cell _) (cc1 (Flat.cell _) (cc1 (Flat.cell ((⟨285,r11,j13,j40,p0⟩ : GCipher).Rounds : Int)) cc0)))))) (Zh (Eq.trans cq (Eq.symm cq))) fun w a hM hE=>Ze ?_
   obtain rfl:=Option.some.inj hF42
   have hq52 : Z6 Try.prog _ _ (.cell 2 61) _:=ZD hE rfl Tl rfl hM.rawAt0 cq rfl
   exact wp_ret (ZU hE rfl hq52 ⟨_,rfl,rfl,hM.kept⟩)
def V3 (p0 : (List UInt8)) : Option ((List UInt8)) :=
 (app 1 ([] : List UInt8) p0).bind fun l3=>some (([] : List UInt8) ++ p0)
theorem HD (w0 : World) (p0 : (List UInt8)) (v0_1 : Value) (hv0_1 : Ro w0 p0 [v0_1]) (r : (List UInt8)) (hF : V3 p0 = some r) :
  Calls Try.prog 213 [v0_1].toArray w0 (fun en w'=>∃ v,en = .returned v ∧ (∃ (y1 : Value),v = y1 ∧ Fr w0 w' [osl NoB (r : List UInt8) y1] ∧ Kept (Old w0) w0 w')):=by
 refine ce Try.func213 ?_
 intro a hE
 have hM:=M.start w0
 unfold V3 at hF
 refine Zb (Zc hE rfl fun a hE=>Ze (Zb (Z3 (xs:=[]) (l:=([] : List UInt8)) (vs:=[]) hE hM Za ld rfl rfl Try.underlying22 ty5 rfl (by decide) rfl fun u1 w a hM hE=>Zd hE rfl ?_))); intro a hE
 obtain ⟨l3,e4,hF⟩:=bind_some hF
 obtain ⟨e7,rfl⟩:=Yn e4
 refine Yf hE hM Za ld rfl rfl (hM.rd hv0_1) Try.underlying22 ty5 rfl (by decide) e7 fun u5 w a hM hE=>Zc hE rfl fun a hE=>Ze ?_
 obtain rfl:=Option.some.inj hF
 exact wp_ret (ZU hE rfl (ZV hE rfl) ⟨_,rfl,u5,rfl,hM.outF (X2 Wy),hM.kept⟩)
def UD (s16 : (List UInt8)) : Option (Fl (List UInt8) (List UInt8)) :=
 if ((Int.tmod (s16.length : Int) 16) != 8) = true then ((app 1 s16 ([0] : List UInt8)).bind fun l25=>some (Fl.nx (s16 ++ ([0] : List UInt8)))) else (some (Fl.ex s16))
def W3 (p0 : (List UInt8)) (s36 : (List UInt8) × Int) : Option (Fl ((List UInt8) × Int) (List UInt8)) :=
 if (decide (s36.2 ≥ 0)) = true then ((XE (IntKind.u64.wrap (wr (8 * s36.2)))).bind fun _=>(app 1 s36.1 ([Zz (JB (Uy (p0.length : Int) (IntKind.u64.wrap (wr (8 * s36.2)))) 255)] : List UInt8)).bind fun l46=>some (Fl.nx ((s36.1 ++ ([Zz (JB (Uy (p0.length : Int) (IntKind.u64.wrap (wr (8 * s36.2)))) 255)] : List UInt8)),wr (s36.2 - 1)))) else (some (Fl.ex s36.1))
def Uh (p0 : (List UInt8)) : Option ((List UInt8)) :=
 (V3 p0).bind fun r1=>(app 1 r1 ([128] : List UInt8)).bind fun l6=>(ZF (UD) (r1 ++ ([128] : List UInt8))).bind fun j11=>(ZF (W3 p0) (j11,7)).bind fun j31=>some j31
theorem HL (w0 : World) (p0 : (List UInt8)) (v0_1 : Value) (hv0_1 : Ro w0 p0 [v0_1]) (r : (List UInt8)) (hF : Uh p0 = some r) :
  Calls Try.prog 200 [v0_1].toArray w0 (fun en w'=>∃ v,en = .returned v ∧ (∃ (y1 : Value),v = y1 ∧ Fr w0 w' [osl NoB (r : List UInt8) y1] ∧ Kept (Old w0) w0 w')):=by
 refine ce Try.func200 ?_
 intro a hE
 have hM:=M.start w0
 unfold Uh at hF
 refine Zb (Zc hE rfl fun a hE=>Ze (Zb (Zd hE rfl ?_))); intro a hE
 obtain ⟨r1,e2,hF⟩:=bind_some hF
 refine Zy hE rfl (cbm Try.func213) (HD _ p0 v0_1 (hM.rdo hv0_1) r1 e2) ?_
 rintro u3 w a ⟨_,rfl,hFr,hK⟩ hE
 have hM:=hM.add hK hFr
 refine Z3 (xs:=[.const (vB 128)]) (l:=([128] : List UInt8)) (vs:=[vB 128]) hE hM Za ld rfl rfl Try.underlying22 ty5 rfl (by decide) rfl ?_; intro u4 w a hM hE
 obtain ⟨l6,e7,hF⟩:=bind_some hF
 obtain ⟨e10,rfl⟩:=Yn e7
 have hM:=hM.pull1
 refine Yf hE hM Za ld rfl rfl (hM.sl (pre:=[_]) noB) Try.underlying22 ty5 rfl (by decide) e10 fun u8 w a hM hE=>Zc hE rfl fun a hE=>Ze ?_
 obtain ⟨j11,hl12,hF13⟩:=bind_some hF
 refine ZB (fun a w=>∃ (u14 : Value),Env 32 a [(0,v0_1),(3,u14)] ∧ M (Old w0) w0 w [osl NoB (j11 : List UInt8) u14]) ?_ ?_
 ·skip
  refine wp_block ?_
  have hM:=M.fst (l:=[_]) hM
  refine ZM (fun (s16 : (List UInt8)) a w=>∃ (u17 : Value),Env 32 a [(0,v0_1),(3,u17)] ∧ M (Old w0) w0 w [osl NoB (s16 : List UInt8) u17]) hl12 ⟨u8,hE.sub ⟨rfl,rfl,trivial⟩,hM⟩ ?_
  rintro s16 a w ⟨u17,hE,hM⟩ o21 hs19 hx20
  unfold UD at hs19
  refine wp_seq (Zb (Zd hE rfl fun a hE=>Yq hE rfl Try.underlying22 (hM.sl (pre:=[]) noB) fun a hE=>Zl hE rfl rfl (Tq _ _ (by decide)) fun a hE=>Zl hE rfl rfl rfl fun a hE=>Ze ?_))
  refine Zq hE rfl ?_ ?_
  ·intro hb22
   have hs19:=Zt hs19 hb22
   refine wp_skip (Zw (wp_block (wp_region_lit (Zd hE rfl fun a hE=>Z3 (xs:=[.const (vB 0)]) (l:=([0] : List UInt8)) (vs:=[vB 0]) hE hM Za ld rfl rfl Try.underlying22 ty5 rfl (by decide) rfl ?_)))); intro u23 w a hM hE
   obtain ⟨l25,e26,hs19⟩:=bind_some hs19
   obtain ⟨e29,rfl⟩:=Yn e26
   have hM:=hM.pull1
   refine Yf hE hM Za ld rfl rfl (hM.sl (pre:=[_]) noB) Try.underlying22 ty5 rfl (by decide) e29 fun u27 w a hM hE=>Zc hE rfl fun a hE=>Zi (Yv (Zj ?_))
   have hM:=M.fst (l:=[_]) hM
   exact ⟨_,(ois hs19),u27,hE.sub ⟨rfl,rfl,trivial⟩,hM⟩
  ·intro hb22
   have hs19:=Zs hs19 hb22
   refine wp_exit (Zn (Zn (Yy ?_)))
   obtain rfl:=hx20 _ (ois hs19)
   refine Zj ?_
   exact ⟨u17,hE.sub ⟨rfl,rfl,trivial⟩,hM⟩
 ·skip
  rintro a w ⟨u14,hE,hM⟩
  refine wp_seq (Zb (Zc hE rfl fun a hE=>Ze ?_))
  obtain ⟨j31,hl32,hF33⟩:=bind_some hF13
  refine ZW (fun a w=>∃ (u34 : Value),Env 32 a [(3,u34)] ∧ M (Old w0) w0 w [osl NoB (j31 : List UInt8) u34]) ?_ ?_
  ·skip
   refine wp_block ?_
   refine ZM (fun (s36 : (List UInt8) × Int) a w=>∃ (u37 : Value),Env 32 a [(0,v0_1),(3,u37),(4,vI s36.2)] ∧ M (Old w0) w0 w [osl NoB (s36.1 : List UInt8) u37]) hl32 ⟨u14,hE.sub ⟨rfl,rfl,rfl,trivial⟩,hM⟩ ?_
   rintro s36 a w ⟨u37,hE,hM⟩ o41 hs39 hx40
   unfold W3 at hs39
   refine wp_seq (Zb (Zd hE rfl fun a hE=>Zl hE rfl rfl rfl fun a hE=>Ze ?_))
   refine Zq hE rfl ?_ ?_
   ·intro hb42
    have hs39:=Zt hs39 hb42
    refine wp_skip (Zw (wp_seq (wp_block (wp_region_lit (Zd hE rfl fun a hE=>Zd hE rfl fun a hE=>Yq hE rfl Try.underlying22 (hM.rd hv0_1) fun a hE=>Zd hE rfl fun a hE=>Zl hE rfl rfl rfl fun a hE=>TL hE Za ld rfl Try.underlying3 Try.underlying170 ?_))))); intro a hE
    obtain ⟨_,e43,hs39⟩:=bind_some hs39
    have e43:=WH e43
    refine JC hE Za ld rfl rfl (Bt _ _ e43) fun a hE=>Zl hE rfl rfl rfl fun a hE=>Xc hE Za ld rfl Try.underlying3 Try.underlying5 fun a hE=>Z3 (xs:=[.tmp 28]) (l:=([Zz (JB (Uy (p0.length : Int) (IntKind.u64.wrap (wr (8 * s36.2)))) 255)] : List UInt8)) (vs:=[(vB (Zz (JB (Uy (p0.length : Int) (IntKind.u64.wrap (wr (8 * s36.2)))) 255)))]) hE hM Za ld rfl rfl Try.underlying22 ty5 rfl (by decide) rfl ?_; intro u44 w a hM hE
    obtain ⟨l46,e47,hs39⟩:=bind_some hs39
    obtain ⟨e50,rfl⟩:=Yn e47
    have hM:=hM.pull1
    refine Yf hE hM Za ld rfl rfl (hM.sl (pre:=[_]) noB) Try.underlying22 ty5 rfl (by decide) e50 fun u48 w a hM hE=>Zc hE rfl fun a hE=>Zi (Yv (Zw (wp_region_lit (Zd hE rfl fun a hE=>Zl hE rfl rfl rfl fun a hE=>Zc hE rfl fun a hE=>Zi (Zj ?_)))))
    have hM:=M.fst (l:=[_]) hM
    exact ⟨_,(ois hs39),u48,hE.sub ⟨rfl,rfl,rfl,trivial⟩,hM⟩
   ·intro hb42
    have hs39:=Zs hs39 hb42
    refine wp_exit (Zn (Zn (Yy ?_)))
    obtain rfl:=hx40 _ (ois hs39)
    refine Zj ?_
    exact ⟨u37,hE.sub ⟨rfl,trivial⟩,hM⟩
  ·skip
   rintro a w ⟨u34,hE,hM⟩
   refine Zw (Zb (Zd hE rfl fun a hE=>Zc hE rfl fun a hE=>Ze ?_))
   obtain rfl:=Option.some.inj hF33
   exact wp_ret (ZU hE rfl (ZV hE rfl) ⟨_,rfl,u34,rfl,hM.outF (X2 Wy),hM.kept⟩)
def XO (p0 : (List UInt8)) (s8 : (List (Vector UInt8 16)) × Int) (s20 : (Vector UInt8 16) × Int) : Option (Fl ((Vector UInt8 16) × Int) (Vector UInt8 16)) :=
 if (decide (s20.2 < 16)) = true then ((idx p0 (wr (s8.2 + s20.2))).bind fun x25=>(ZI s20.1 s20.2).bind fun x29=>some (Fl.nx ((s20.1.setIfInBounds (s20.2).toNat x25),wr (s20.2 + 1)))) else (some (Fl.ex s20.1))
def XU (p0 : (List UInt8)) (s8 : (List (Vector UInt8 16)) × Int) : Option (Fl ((List (Vector UInt8 16)) × Int) (List (Vector UInt8 16))) :=
 if (decide ((wr (s8.2 + 16)) ≤ (p0.length : Int))) = true then ((ZF (XO p0 s8) ((Vector.replicate 16 (0 : UInt8)),0)).bind fun j17=>(app 16 s8.1 ([j17] : List (Vector UInt8 16))).bind fun l34=>some (Fl.nx ((s8.1 ++ ([j17] : List (Vector UInt8 16))),wr (s8.2 + 16)))) else (some (Fl.ex s8.1))
def W4 (p0 : (List UInt8)) : Option ((List (Vector UInt8 16))) :=
 (ZF (XU p0) (([] : List (Vector UInt8 16)),0)).bind fun j3=>some j3
theorem Jc (w0 : World) (p0 : (List UInt8)) (v0_1 : Value) (hv0_1 : Ro w0 p0 [v0_1]) (r : (List (Vector UInt8 16))) (hF : W4 p0 = some r) :
  Calls Try.prog 199 [v0_1].toArray w0 (fun en w'=>∃ v,en = .returned v ∧ (∃ (y1 : Value),v = y1 ∧ Fr w0 w' [osl NoB (r : List (Vector UInt8 16)) y1] ∧ Kept (Old w0) w0 w')):=by
 refine ce Try.func199 ?_
 intro a hE
 have hM:=M.start w0
 unfold W4 at hF
 refine Zb (Zc hE rfl fun a hE=>Ze (Zb (Z3 (xs:=[]) (l:=([] : List (Vector UInt8 16))) (vs:=[]) hE hM Za ld rfl rfl Try.underlying136 ZK rfl (by decide) rfl fun u1 w a hM hE=>Zc hE rfl fun a hE=>Ze (wp_seq (Zb (Zc hE rfl fun a hE=>Ze ?_))))))
 obtain ⟨j3,hl4,hF5⟩:=bind_some hF
 refine ZW (fun a w=>∃ (u6 : Value),Env 33 a [(3,u6)] ∧ M (Old w0) w0 w [osl NoB (j3 : List (Vector UInt8 16)) u6]) ?_ ?_
 ·skip
  refine wp_block ?_
  refine ZM (fun (s8 : (List (Vector UInt8 16)) × Int) a w=>∃ (u9 : Value),Env 33 a [(0,v0_1),(3,u9),(4,vI s8.2)] ∧ M (Old w0) w0 w [osl NoB (s8.1 : List (Vector UInt8 16)) u9]) hl4 ⟨u1,hE.sub ⟨rfl,rfl,rfl,trivial⟩,hM⟩ ?_
  rintro s8 a w ⟨u9,hE,hM⟩ o13 hs11 hx12
  unfold XU at hs11
  refine wp_seq (Zb (Zd hE rfl fun a hE=>Zl hE rfl rfl rfl fun a hE=>Zd hE rfl fun a hE=>Yq hE rfl Try.underlying22 (hM.rd hv0_1) fun a hE=>Zl hE rfl rfl rfl fun a hE=>Ze ?_))
  refine Zq hE rfl ?_ ?_
  ·intro hb14
   have hs11:=Zt hs11 hb14
   refine wp_skip (Zw (wp_seq (wp_block (Zb (Yx (parts:=[]) (vs:=[]) (cs:=enc (Vector.replicate 16 (0 : UInt8))) hE Za ld rfl rfl ZK rfl ty5 Yk fun a hE=>Zv hE hM ZK fun b15 w a hM hE=>Zk (seg:=enc (Vector.replicate 16 (0 : UInt8))) (cs':=enc (Vector.replicate 16 (0 : UInt8))) hE hM Za rfl rfl rfl ZK (Flat.len _) (zle flq) (Flat.cell _) (Zh flq) fun w a hM hE=>Ze (wp_seq (Zb (Zc hE rfl fun a hE=>Ze ?_))))))))
   obtain ⟨j17,hl18,hF19⟩:=bind_some hs11
   refine ZW (fun a w=>Env 33 a [(0,v0_1),(3,u9),(4,vI s8.2),(5,(ptr b15 0))] ∧ M (Old w0) w0 w [raw b15 (enc j17),osl NoB (s8.1 : List (Vector UInt8 16)) u9]) ?_ ?_
   ·skip
    refine wp_block ?_
    refine ZM (fun (s20 : (Vector UInt8 16) × Int) a w=>Env 33 a [(0,v0_1),(3,u9),(4,vI s8.2),(5,(ptr b15 0)),(6,vI s20.2)] ∧ M (Old w0) w0 w [raw b15 (enc s20.1),osl NoB (s8.1 : List (Vector UInt8 16)) u9]) hl18 ⟨hE.sub ⟨rfl,rfl,rfl,rfl,rfl,trivial⟩,hM⟩ ?_
    rintro s20 a w ⟨hE,hM⟩ o23 hs21 hx22
    unfold XO at hs21
    refine wp_seq (Zb (Zd hE rfl fun a hE=>Zl hE rfl rfl rfl fun a hE=>Ze ?_))
    refine Zq hE rfl ?_ ?_
    ·intro hb24
     have hs21:=Zt hs21 hb24
     refine wp_skip (Zw (wp_seq (wp_block (wp_region_lit (Zd hE rfl fun a hE=>Zd hE rfl fun a hE=>Zd hE rfl fun a hE=>Zd hE rfl fun a hE=>Zl hE rfl rfl rfl ?_))))); intro a hE
     obtain ⟨x25,hi27,hs21⟩:=bix hs21
     refine Wx hE rfl rfl Try.underlying22 ty5 (hM.rd hv0_1) hi27.1 fun a hE=>ZQ (v:=(vB x25)) hE rfl ty5 rfl (YA (hM.rd hv0_1) hi27.2) ?_; intro a hE
     obtain ⟨x29,hi28,hs21⟩:=bvx hs21
     refine ZH hE rfl rfl Try.underlying62 ty5 hi28.1 fun a hE=>Zk (seg:=[vB x25]) (cs':=enc (s20.1.setIfInBounds (s20.2).toNat x25)) hE hM Za rfl rfl rfl ty5 rfl (ZR (v:=s20.1) (x:=x25) hi28.1) (Flat.cell (x25 : UInt8)) (ZE (v:=s20.1) (x:=x25) hi28.1) fun w a hM hE=>Zi (Yv (Zw (wp_region_lit (Zd hE rfl fun a hE=>Zl hE rfl rfl rfl fun a hE=>Zc hE rfl fun a hE=>Zi (Zj ?_)))))
     exact ⟨_,(ois hs21),hE.sub ⟨rfl,rfl,rfl,rfl,rfl,trivial⟩,hM⟩
    ·intro hb24
     have hs21:=Zs hs21 hb24
     refine wp_exit (Zn (Zn (Yy ?_)))
     obtain rfl:=hx22 _ (ois hs21)
     refine Zj ?_
     exact ⟨hE.sub ⟨rfl,rfl,rfl,rfl,trivial⟩,hM⟩
   ·skip
    rintro a w ⟨hE,hM⟩
    refine Zw (wp_region_lit (Zd hE rfl fun a hE=>Zp hE rfl ZK rfl hM.rawAt0 (Flat.len _) fun a hE=>Z3 (xs:=[.tmp 29]) (l:=([j17] : List (Vector UInt8 16))) (vs:=[(Value.agg (enc j17).toArray)]) hE hM Za ld rfl rfl Try.underlying136 ZK rfl (by decide) rfl ?_)); intro u32 w a hM hE
    obtain ⟨l34,e35,hF19⟩:=bind_some hF19
    obtain ⟨e38,rfl⟩:=Yn e35
    have hM:=hM.pull2
    refine Yf hE hM Za ld rfl rfl (hM.sl (pre:=[_]) noB) Try.underlying136 ZK rfl (by decide) e38 fun u36 w a hM hE=>Zc hE rfl fun a hE=>Zi (Yv (Zw (wp_region_lit (Zd hE rfl fun a hE=>Zl hE rfl rfl rfl fun a hE=>Zc hE rfl fun a hE=>Zi (Zj ?_)))))
    have hM:=M.fst (l:=[_]) hM
    exact ⟨_,(ois hF19),u36,hE.sub ⟨rfl,rfl,rfl,trivial⟩,hM⟩
  ·intro hb14
   have hs11:=Zs hs11 hb14
   refine wp_exit (Zn (Zn (Yy ?_)))
   obtain rfl:=hx12 _ (ois hs11)
   refine Zj ?_
   exact ⟨u9,hE.sub ⟨rfl,trivial⟩,hM⟩
 ·skip
  rintro a w ⟨u6,hE,hM⟩
  refine Zw (Zb (Zd hE rfl fun a hE=>Zc hE rfl fun a hE=>Ze ?_))
  obtain rfl:=Option.some.inj hF5
  exact wp_ret (ZU hE rfl (ZV hE rfl) ⟨_,rfl,u6,rfl,hM.outF (X2 Wy),hM.kept⟩)
def X7 (s8 : (Vector UInt8 32) × Int) : Option (Fl ((Vector UInt8 32) × Int) (Vector UInt8 32)) :=
 if (decide (s8.2 < 32)) = true then ((ZI s8.1 s8.2).bind fun x14=>some (Fl.nx ((s8.1.setIfInBounds (s8.2).toNat (Zz (Int.tmod (wr (17 * s8.2)) 256))),wr (s8.2 + 1)))) else (some (Fl.ex s8.1))
def Vw : Option ((Vector UInt8 32)) :=
 (ZF (X7) ((Vector.replicate 32 (0 : UInt8)),0)).bind fun j5=>some j5
theorem JA (w0 : World)  (r : (Vector UInt8 32)) (hF : Vw  = some r) :
  Calls Try.prog 201 [].toArray w0 (Rt w0 (Value.agg (enc r).toArray)):=by
 refine ce Try.func201 ?_
 intro a hE
 have hM:=M.start w0
 unfold Vw at hF
 refine Zb (Zv hE hM Zr fun b1 w a hM hE=>Ze (Zb (Yx (parts:=[]) (vs:=[]) (cs:=enc (Vector.replicate 32 (0 : UInt8))) hE Za ld rfl rfl Zr rfl ty5 Yk fun a hE=>Zv hE hM Zr fun b3 w a hM hE=>Zk (seg:=enc (Vector.replicate 32 (0 : UInt8))) (cs':=enc (Vector.replicate 32 (0 : UInt8))) hE hM Za rfl rfl rfl Zr (Flat.len _) (zle flq) (Flat.cell _) (Zh flq) fun w a hM hE=>Ze (wp_seq (Zb (Zc hE rfl fun a hE=>Ze ?_))))))
 obtain ⟨j5,hl6,hF7⟩:=bind_some hF
 refine ZW (fun a w=>Env 15 a [(0,(ptr b1 0)),(1,(ptr b3 0))] ∧ M (Old w0) w0 w [raw b3 (enc j5),raw b1 (enc (Vector.replicate 32 (0 : UInt8)))]) ?_ ?_
 ·skip
  refine wp_block ?_
  refine ZM (fun (s8 : (Vector UInt8 32) × Int) a w=>Env 15 a [(0,(ptr b1 0)),(1,(ptr b3 0)),(2,vI s8.2)] ∧ M (Old w0) w0 w [raw b3 (enc s8.1),raw b1 (enc (Vector.replicate 32 (0 : UInt8)))]) hl6 ⟨hE.sub ⟨rfl,rfl,rfl,trivial⟩,hM⟩ ?_
  rintro s8 a w ⟨hE,hM⟩ o11 hs9 hx10
  unfold X7 at hs9
  refine wp_seq (Zb (Zd hE rfl fun a hE=>Zl hE rfl rfl rfl fun a hE=>Ze ?_))
  refine Zq hE rfl ?_ ?_
  ·intro hb12
   have hs9:=Zt hs9 hb12
   refine wp_skip (Zw (wp_seq (wp_block (wp_region_lit (Zd hE rfl fun a hE=>Zd hE rfl fun a hE=>Zl hE rfl rfl rfl fun a hE=>Zl hE rfl rfl (Tq _ _ (by decide)) fun a hE=>Xc hE Za ld rfl Try.underlying3 Try.underlying5 ?_))))); intro a hE
   obtain ⟨x14,hi13,hs9⟩:=bvx hs9
   refine ZH hE rfl rfl Try.underlying82 ty5 hi13.1 fun a hE=>Zk (seg:=[(vB (Zz (Int.tmod (wr (17 * s8.2)) 256)))]) (cs':=enc (s8.1.setIfInBounds (s8.2).toNat (Zz (Int.tmod (wr (17 * s8.2)) 256)))) hE hM Za rfl rfl rfl ty5 rfl (ZR (v:=s8.1) (x:=Zz (Int.tmod (wr (17 * s8.2)) 256)) hi13.1) (Flat.cell (Zz (Int.tmod (wr (17 * s8.2)) 256) : UInt8)) (ZE (v:=s8.1) (x:=Zz (Int.tmod (wr (17 * s8.2)) 256)) hi13.1) fun w a hM hE=>Zi (Yv (Zw (wp_region_lit (Zd hE rfl fun a hE=>Zl hE rfl rfl rfl fun a hE=>Zc hE rfl fun a hE=>Zi (Zj ?_)))))
   exact ⟨_,(ois hs9),hE.sub ⟨rfl,rfl,rfl,trivial⟩,hM⟩
  ·intro hb12
   have hs9:=Zs hs9 hb12
   refine wp_exit (Zn (Zn (Yy ?_)))
   obtain rfl:=hx10 _ (ois hs9)
   refine Zj ?_
   exact ⟨hE.sub ⟨rfl,rfl,trivial⟩,hM⟩
 ·skip
  rintro a w ⟨hE,hM⟩
  refine Zw (Zb (Zp hE rfl Zr rfl hM.rawAt0 (Flat.len _) ?_)); intro a hE
  have hM:=hM.pull1
  refine Zk (seg:=enc j5) (cs':=enc j5) hE hM Za rfl rfl rfl Zr (Flat.len _) (zle flq) (Flat.cell _) (Zh flq) fun w a hM hE=>Ze ?_
  obtain rfl:=Option.some.inj hF7
  have hq17 : Z6 Try.prog _ _ (.cell 0 82) _:=ZD hE rfl Zr rfl hM.rawAt0 (Flat.len _) rfl
  exact wp_ret (ZU hE rfl hq17 ⟨_,rfl,rfl,hM.kept⟩)
def XT (p0 : (Vector UInt8 32)) (s14 : (Vector UInt8 16) × (Vector UInt8 16) × Int) : Option (Fl ((Vector UInt8 16) × (Vector UInt8 16) × Int) ((Vector UInt8 16) × (Vector UInt8 16))) :=
 if (decide (s14.2.2 < 16)) = true then ((ZI p0 s14.2.2).bind fun x20=>(ZI s14.2.1 s14.2.2).bind fun x23=>(ZI p0 (wr (16 + s14.2.2))).bind fun x26=>(ZI s14.1 s14.2.2).bind fun x29=>some (Fl.nx ((s14.1.setIfInBounds (s14.2.2).toNat x26),(s14.2.1.setIfInBounds (s14.2.2).toNat x20),wr (s14.2.2 + 1)))) else (some (Fl.ex (s14.1,s14.2.1)))
def W2 (p0 : (Vector UInt8 32)) : Option ((Vector UInt8 16) × (Vector UInt8 16)) :=
 (ZF (XT p0) ((Vector.replicate 16 (0 : UInt8)),(Vector.replicate 16 (0 : UInt8)),0)).bind fun j11=>(some (j11.2,j11.1) : Option ((Vector UInt8 16) × (Vector UInt8 16))).bind fun j32=>some (j32.1,j32.2)
theorem K7 (w0 : World) (p0 : (Vector UInt8 32)) (r : (Vector UInt8 16) × (Vector UInt8 16)) (hF : W2 p0 = some r) :
  Calls Try.prog 214 [(Value.agg (enc p0).toArray)].toArray w0 (Rt w0 (Value.tuple [(Value.agg (enc r.1).toArray),(Value.agg (enc r.2).toArray)].toArray)):=by
 refine ce Try.func214 ?_
 intro a hE
 have hM:=M.start w0
 unfold W2 at hF
 refine Zb (Z7 (cs:=enc p0) hE hM Za ld rfl rfl fun b1 w a hM hE=>Zv hE hM ZK fun b3 w a hM hE=>Zv hE hM ZK fun b5 w a hM hE=>Ze (Zb (Yx (parts:=[]) (vs:=[]) (cs:=enc (Vector.replicate 16 (0 : UInt8))) hE Za ld rfl rfl ZK rfl ty5 Yk fun a hE=>Yx (parts:=[]) (vs:=[]) (cs:=enc (Vector.replicate 16 (0 : UInt8))) hE Za ld rfl rfl ZK rfl ty5 Yk fun a hE=>Zv hE hM ZK fun b7 w a hM hE=>Zv hE hM ZK ?_))); intro b9 w a hM hE
 have hM:=hM.pull1
 refine Zk (seg:=enc (Vector.replicate 16 (0 : UInt8))) (cs':=enc (Vector.replicate 16 (0 : UInt8))) hE hM Za rfl rfl rfl ZK (Flat.len _) (zle flq) (Flat.cell _) (Zh flq) ?_; intro w a hM hE
 have hM:=hM.pull1
 refine Zk (seg:=enc (Vector.replicate 16 (0 : UInt8))) (cs':=enc (Vector.replicate 16 (0 : UInt8))) hE hM Za rfl rfl rfl ZK (Flat.len _) (zle flq) (Flat.cell _) (Zh flq) fun w a hM hE=>Ze (wp_seq (Zb (Zc hE rfl fun a hE=>Ze ?_)))
 obtain ⟨j11,hl12,hF13⟩:=bind_some hF
 refine ZW (fun a w=>Env 26 a [(2,(ptr b3 0)),(3,(ptr b5 0)),(4,(ptr b7 0)),(5,(ptr b9 0))] ∧ M (Old w0) w0 w [raw b9 (enc j11.1),raw b7 (enc j11.2),raw b5 (enc (Vector.replicate 16 (0 : UInt8))),raw b3 (enc (Vector.replicate 16 (0 : UInt8)))]) ?_ ?_
 ·skip
  refine wp_block ?_
  refine ZM (fun (s14 : (Vector UInt8 16) × (Vector UInt8 16) × Int) a w=>Env 26 a [(1,(ptr b1 0)),(2,(ptr b3 0)),(3,(ptr b5 0)),(4,(ptr b7 0)),(5,(ptr b9 0)),(6,vI s14.2.2)] ∧ M (Old w0) w0 w [raw b9 (enc s14.1),raw b7 (enc s14.2.1),raw b5 (enc (Vector.replicate 16 (0 : UInt8))),raw b3 (enc (Vector.replicate 16 (0 : UInt8))),raw b1 (enc p0)]) hl12 ⟨hE.sub ⟨rfl,rfl,rfl,rfl,rfl,rfl,trivial⟩,hM⟩ ?_
  rintro s14 a w ⟨hE,hM⟩ o17 hs15 hx16
  unfold XT at hs15
  refine wp_seq (Zb (Zd hE rfl fun a hE=>Zl hE rfl rfl rfl fun a hE=>Ze ?_))
  refine Zq hE rfl ?_ ?_
  ·intro hb18
   have hs15:=Zt hs15 hb18
   refine wp_skip (Zw (wp_seq (wp_block (Zb (Zd hE rfl fun a hE=>Zd hE rfl ?_))))); intro a hE
   obtain ⟨x20,hi19,hs15⟩:=bvx hs15
   refine ZH hE rfl rfl Try.underlying82 ty5 hi19.1 fun a hE=>ZQ (v:=(vB x20)) hE rfl ty5 rfl (At.vec hM.rawAt4 hi19.2) ?_; intro a hE
   obtain ⟨x23,hi22,hs15⟩:=bvx hs15
   refine ZH hE rfl rfl Try.underlying62 ty5 hi22.1 ?_; intro a hE
   have hM:=hM.pull1
   refine Zk (seg:=[vB x20]) (cs':=enc (s14.2.1.setIfInBounds (s14.2.2).toNat x20)) hE hM Za rfl rfl rfl ty5 rfl (ZR (v:=s14.2.1) (x:=x20) hi22.1) (Flat.cell (x20 : UInt8)) (ZE (v:=s14.2.1) (x:=x20) hi22.1) fun w a hM hE=>Ze (wp_region_lit (Zd hE rfl fun a hE=>Zd hE rfl fun a hE=>Zl hE rfl rfl rfl ?_)); intro a hE
   obtain ⟨x26,hi25,hs15⟩:=bvx hs15
   refine ZH hE rfl rfl Try.underlying82 ty5 hi25.1 fun a hE=>ZQ (v:=(vB x26)) hE rfl ty5 rfl (At.vec hM.rawAt4 hi25.2) ?_; intro a hE
   obtain ⟨x29,hi28,hs15⟩:=bvx hs15
   refine ZH hE rfl rfl Try.underlying62 ty5 hi28.1 ?_; intro a hE
   have hM:=hM.pull1
   refine Zk (seg:=[vB x26]) (cs':=enc (s14.1.setIfInBounds (s14.2.2).toNat x26)) hE hM Za rfl rfl rfl ty5 rfl (ZR (v:=s14.1) (x:=x26) hi28.1) (Flat.cell (x26 : UInt8)) (ZE (v:=s14.1) (x:=x26) hi28.1) fun w a hM hE=>Zi (Yv (Zw (wp_region_lit (Zd hE rfl fun a hE=>Zl hE rfl rfl rfl fun a hE=>Zc hE rfl fun a hE=>Zi (Zj ?_)))))
   exact ⟨_,(ois hs15),hE.sub ⟨rfl,rfl,rfl,rfl,rfl,rfl,trivial⟩,hM⟩
  ·intro hb18
   have hs15:=Zs hs15 hb18
   refine wp_exit (Zn (Zn (Yy ?_)))
   obtain rfl:=hx16 _ (ois hs15)
   refine Zj ?_
   have hM:=M.fst (l:=[_,_,_,_]) hM.pull3.pull3.pull3.pull3
   exact ⟨hE.sub ⟨rfl,rfl,rfl,rfl,trivial⟩,hM⟩
 ·skip
  rintro a w ⟨hE,hM⟩
  refine Zw ?_
  obtain ⟨j32,hl33,hF34⟩:=bind_some hF13
  refine ZB (fun a w=>Env 26 a [(2,(ptr b3 0)),(3,(ptr b5 0))] ∧ M (Old w0) w0 w [raw b5 (enc j32.2),raw b3 (enc j32.1)]) ?_ ?_
  ·skip
   have hM:=hM.pull3
   refine YV (its:=[raw b9 (enc j11.1),raw b7 (enc j11.2),raw b5 (enc (Vector.replicate 16 (0 : UInt8)))]) (mk:=([mkT 2 (raw b3 (enc (Vector.replicate 16 (0 : UInt8)))) (raw b3 (enc j11.2))] : Mk)) [24,25,28] Yr rfl rfl (by decide) rfl hE (fun u=>M.qT (M.q0 hM.drew u)) (qsP (v:=(Value.agg (enc j11.2).toArray)) ?_ (qsP (v:=(Value.agg (enc j11.1).toArray)) ?_ (qsM (pr:=fun v=>True) ?_ qs0))) ?_
   ·intro a w ux35 D z
    have hE:=z.E
    have hD : D 0 = false:=z.F
    have hM:=z.M.togA (pre:=[_,_,_]) (Kv (j:=2) (k:=0) z.c rfl rfl rfl hD)
    exact Zp hE rfl ZK rfl hM.rawAt1 (Flat.len _) fun a hE=>⟨Kept.refl _ _,_,rfl,hE⟩
   ·intro a w ux35 D z
    have hE:=z.E
    have hM:=z.M
    exact Zp hE rfl ZK rfl hM.rawAt0 (Flat.len _) fun a hE=>⟨Kept.refl _ _,_,rfl,hE⟩
   ·intro a w ux35 D z
    have hE:=z.E
    have hD : D 2 = false:=z.F
    have hM:=(z.M.togA (pre:=[_,_,_]) hD).pull3
    exact Zk (seg:=enc j11.2) (cs':=enc j11.2) hE hM Za rfl rfl rfl ZK (Flat.len _) (zle flq) (Flat.cell _) (Zh flq) fun w a hM hE=>⟨undef,_,rfl,Env.dummy hE (by decide),M.qTog (mk1:=[]) (mk2:=[]) hM rfl,trivial⟩
   ·intro a w ux35 D hE hM hG hall
    have d2:=hall 2 (by decide)
    have hM:=(hM.togB (pre:=[_,_,_]) d2).pull2
    refine Zk (seg:=enc j11.1) (cs':=enc j11.1) hE hM Za rfl rfl rfl ZK (Flat.len _) (zle flq) (Flat.cell _) (Zh flq) fun w a hM hE=>Zi ?_
    obtain rfl:=Option.some.inj hl33
    refine Zj ?_
    have hM:=M.fst (l:=[_,_]) hM.pull3.pull1
    exact ⟨hE.sub ⟨rfl,rfl,trivial⟩,hM⟩
  ·skip
   rintro a w ⟨hE,hM⟩
   obtain rfl:=Option.some.inj hF34
   have hq37 : Z6 Try.prog _ _ (.cell 2 62) _:=ZD hE rfl ZK rfl hM.rawAt1 (Flat.len _) rfl
   have hq38 : Z6 Try.prog _ _ (.cell 3 62) _:=ZD hE rfl ZK rfl hM.rawAt0 (Flat.len _) rfl
   exact wp_ret (WR hE rfl hq37 hq38 ⟨_,rfl,rfl,hM.kept⟩)
def W1 (p1 : (Vector UInt8 16)) (s10 : (Vector UInt8 16) × Int) : Option (Fl ((Vector UInt8 16) × Int) (Vector UInt8 16)) :=
 if (decide (s10.2 < 16)) = true then ((ZI s10.1 s10.2).bind fun x17=>(ZI p1 s10.2).bind fun x20=>(ZI s10.1 s10.2).bind fun x23=>some (Fl.nx ((s10.1.setIfInBounds (s10.2).toNat (x17 ^^^ x20)),wr (s10.2 + 1)))) else (some (Fl.ex s10.1))
def Xd (p0 : (Vector UInt8 16)) (p1 : (Vector UInt8 16)) : Option ((Vector UInt8 16)) :=
 (ZF (W1 p1) (p0,0)).bind fun j7=>some j7
theorem VH (w0 : World) (p0 : (Vector UInt8 16)) (p1 : (Vector UInt8 16)) (r : (Vector UInt8 16)) (hF : Xd p0 p1 = some r) :
  Calls Try.prog 154 [(Value.agg (enc p0).toArray),(Value.agg (enc p1).toArray)].toArray w0 (Rt w0 (Value.agg (enc r).toArray)):=by
 refine ce Try.func154 ?_
 intro a hE
 have hM:=M.start w0
 unfold Xd at hF
 refine Zb (Z7 (cs:=enc p0) hE hM Za ld rfl rfl fun b1 w a hM hE=>Z7 (cs:=enc p1) hE hM Za ld rfl rfl fun b3 w a hM hE=>Zv hE hM ZK fun b5 w a hM hE=>Ze (wp_seq (Zb (Zc hE rfl fun a hE=>Ze ?_))))
 obtain ⟨j7,hl8,hF9⟩:=bind_some hF
 refine ZW (fun a w=>Env 20 a [(2,(ptr b1 0)),(4,(ptr b5 0))] ∧ M (Old w0) w0 w [raw b5 (enc (Vector.replicate 16 (0 : UInt8))),raw b1 (enc j7)]) ?_ ?_
 ·skip
  refine wp_block ?_
  refine ZM (fun (s10 : (Vector UInt8 16) × Int) a w=>Env 20 a [(2,(ptr b1 0)),(3,(ptr b3 0)),(4,(ptr b5 0)),(5,vI s10.2)] ∧ M (Old w0) w0 w [raw b5 (enc (Vector.replicate 16 (0 : UInt8))),raw b3 (enc p1),raw b1 (enc s10.1)]) hl8 ⟨hE.sub ⟨rfl,rfl,rfl,rfl,trivial⟩,hM⟩ ?_
  rintro s10 a w ⟨hE,hM⟩ o13 hs11 hx12
  unfold W1 at hs11
  refine wp_seq (Zb (Zd hE rfl fun a hE=>Zl hE rfl rfl rfl fun a hE=>Ze ?_))
  refine Zq hE rfl ?_ ?_
  ·intro hb14
   have hs11:=Zt hs11 hb14
   refine wp_skip (Zw (wp_seq (wp_block ?_)))
   obtain ⟨x17,hi16,hs11⟩:=bvx hs11
   obtain ⟨x20,hi19,hs11⟩:=bvx hs11
   obtain ⟨x23,hi22,hs11⟩:=bvx hs11
   refine ZP [10,11,12,13,14,15,16,17,18] Yr rfl rfl (by decide) rfl hE hM (qsP (fun z=>Zg z.E Za ld rfl (kr0 rfl)) (qsP (fun z=>Zg z.E Za ld rfl (kr0 rfl)) (qsP (fun z=>ZC z.E Za ld rfl rfl Try.underlying62 ty5 hi16.1 (kr0 rfl)) (qsP (fun z=>ZN (v:=(vB x17)) z.E Za ld rfl ty5 rfl (At.vec (z.M.rawAt2) hi16.2) (kr0 rfl)) (qsP (fun z=>Zg z.E Za ld rfl (kr0 rfl)) (qsP (fun z=>ZC z.E Za ld rfl rfl Try.underlying62 ty5 hi19.1 (kr0 rfl)) (qsP (fun z=>ZN (v:=(vB x20)) z.E Za ld rfl ty5 rfl (At.vec (z.M.rawAt1) hi19.2) (kr0 rfl)) (qsP (v:=(vB (x17 ^^^ x20))) (fun z=>Z1 z.E Za ld rfl rfl (VK x17 x20) (kr0 rfl)) (qsP (fun z=>ZC z.E Za ld rfl rfl Try.underlying62 ty5 hi22.1 (kr0 rfl)) qs0))))))))) ?_
   ·intro a w u hE hM
    have hM:=hM.pull2
    refine Zk (seg:=[(vB (x17 ^^^ x20))]) (cs':=enc (s10.1.setIfInBounds (s10.2).toNat (x17 ^^^ x20))) hE hM Za rfl rfl rfl ty5 rfl (ZR (v:=s10.1) (x:=x17 ^^^ x20) hi22.1) (Flat.cell (x17 ^^^ x20 : UInt8)) (ZE (v:=s10.1) (x:=x17 ^^^ x20) hi22.1) fun w a hM hE=>Zi (Yv (Zw (wp_region_lit (Zd hE rfl fun a hE=>Zl hE rfl rfl rfl fun a hE=>Zc hE rfl fun a hE=>Zi (Zj ?_)))))
    have hM:=hM.pull2.pull2
    exact ⟨_,(ois hs11),hE.sub ⟨rfl,rfl,rfl,rfl,trivial⟩,hM⟩
  ·intro hb14
   have hs11:=Zs hs11 hb14
   refine wp_exit (Zn (Zn (Yy ?_)))
   obtain rfl:=hx12 _ (ois hs11)
   refine Zj ?_
   have hM:=M.fst (l:=[_,_]) hM.pull2.pull1
   exact ⟨hE.sub ⟨rfl,rfl,trivial⟩,hM⟩
 ·skip
  rintro a w ⟨hE,hM⟩
  refine Zw (Zb (Zp hE rfl ZK rfl hM.rawAt1 (Flat.len _) fun a hE=>Zk (seg:=enc j7) (cs':=enc j7) hE hM Za rfl rfl rfl ZK (Flat.len _) (zle flq) (Flat.cell _) (Zh flq) fun w a hM hE=>Ze ?_))
  obtain rfl:=Option.some.inj hF9
  have hq26 : Z6 Try.prog _ _ (.cell 4 62) _:=ZD hE rfl ZK rfl hM.rawAt0 (Flat.len _) rfl
  exact wp_ret (ZU hE rfl hq26 ⟨_,rfl,rfl,hM.kept⟩)
def WE (p0 : (Vector UInt8 256)) (p2 : Int) (s10 : (Vector UInt8 16) × Int) : Option (Fl ((Vector UInt8 16) × Int) (Vector UInt8 16)) :=
 if (decide (s10.2 < 16)) = true then (((ZI s10.1 (Int.tmod (wr (s10.2 + 15)) 16)).bind fun x19=>(if (s10.2 == 0) = true then (some (x19 ^^^ (Zz p2))) else (some x19) : Option (UInt8)).bind fun j21=>(ZI s10.1 s10.2).bind fun x29=>(ZI p0 (bI j21)).bind fun x32=>(ZI s10.1 s10.2).bind fun x35=>some (s10.1.setIfInBounds (s10.2).toNat (x29 ^^^ x32)) : Option ((Vector UInt8 16))).bind fun j15=>some (Fl.nx (j15,wr (s10.2 + 1)))) else (some (Fl.ex s10.1))
def V0 (p0 : (Vector UInt8 256)) (p1 : (Vector UInt8 16)) (p2 : Int) : Option ((Vector UInt8 16)) :=
 (ZF (WE p0 p2) (p1,0)).bind fun j7=>some j7
theorem JX (w0 : World) (p0 : (Vector UInt8 256)) (p1 : (Vector UInt8 16)) (p2 : Int) (r : (Vector UInt8 16)) (hF : V0 p0 p1 p2 = some r) :
  Calls Try.prog 190 [(Value.agg (enc p0).toArray),(Value.agg (enc p1).toArray),vI p2].toArray w0 (Rt w0 (Value.agg (enc r).toArray)):=by
 refine ce Try.func190 ?_
 intro a hE
 have hM:=M.start w0
 unfold V0 at hF
 refine Zb (Z7 (cs:=enc p0) hE hM Za ld rfl rfl fun b1 w a hM hE=>Z7 (cs:=enc p1) hE hM Za ld rfl rfl fun b3 w a hM hE=>Zv hE hM ZK fun b5 w a hM hE=>Ze (wp_seq (Zb (Zc hE rfl fun a hE=>Ze ?_))))
 obtain ⟨j7,hl8,hF9⟩:=bind_some hF
 refine ZW (fun a w=>Env 34 a [(4,(ptr b3 0)),(6,(ptr b5 0))] ∧ M (Old w0) w0 w [raw b5 (enc (Vector.replicate 16 (0 : UInt8))),raw b3 (enc j7)]) ?_ ?_
 ·skip
  refine wp_block ?_
  refine ZM (fun (s10 : (Vector UInt8 16) × Int) a w=>Env 34 a [(2,vI p2),(3,(ptr b1 0)),(4,(ptr b3 0)),(6,(ptr b5 0)),(7,vI s10.2)] ∧ M (Old w0) w0 w [raw b5 (enc (Vector.replicate 16 (0 : UInt8))),raw b3 (enc s10.1),raw b1 (enc p0)]) hl8 ⟨hE.sub ⟨rfl,rfl,rfl,rfl,rfl,trivial⟩,hM⟩ ?_
  rintro s10 a w ⟨hE,hM⟩ o13 hs11 hx12
  unfold WE at hs11
  refine wp_seq (Zb (Zd hE rfl fun a hE=>Zl hE rfl rfl rfl fun a hE=>Ze ?_))
  refine Zq hE rfl ?_ ?_
  ·intro hb14
   have hs11:=Zt hs11 hb14
   refine wp_skip (Zw ?_)
   obtain ⟨j15,hl16,hF17⟩:=bind_some hs11
   refine ZB (fun a w=>Env 34 a [(2,vI p2),(3,(ptr b1 0)),(4,(ptr b3 0)),(6,(ptr b5 0)),(7,vI s10.2)] ∧ M (Old w0) w0 w [raw b5 (enc (Vector.replicate 16 (0 : UInt8))),raw b3 (enc j15),raw b1 (enc p0)]) ?_ ?_
   ·skip
    refine wp_block (Zb (Zd hE rfl fun a hE=>Zl hE rfl rfl rfl fun a hE=>Zl hE rfl rfl (Tq _ _ (by decide)) ?_)); intro a hE
    obtain ⟨x19,hi18,hl16⟩:=bvx hl16
    refine ZH hE rfl rfl Try.underlying62 ty5 hi18.1 fun a hE=>ZQ (v:=(vB x19)) hE rfl ty5 rfl (At.vec hM.rawAt1 hi18.2) fun a hE=>Zc hE rfl fun a hE=>Ze ?_
    obtain ⟨j21,hl22,hF23⟩:=bind_some hl16
    refine ZB (fun a w=>Env 34 a [(2,vI p2),(3,(ptr b1 0)),(4,(ptr b3 0)),(6,(ptr b5 0)),(7,vI s10.2),(8,vB j21)] ∧ M (Old w0) w0 w [raw b5 (enc (Vector.replicate 16 (0 : UInt8))),raw b3 (enc s10.1),raw b1 (enc p0)]) ?_ ?_
    ·skip
     refine Zb (Zd hE rfl fun a hE=>Zl hE rfl rfl rfl fun a hE=>Ze ?_)
     refine Zq hE rfl ?_ ?_
     ·intro hb24
      have hl22:=Zt hl22 hb24
      refine wp_region_lit (Zd hE rfl fun a hE=>Zd hE rfl fun a hE=>Xc hE Za ld rfl Try.underlying2 Try.underlying5 fun a hE=>Zl hE rfl rfl (VK x19 (Zz p2)) fun a hE=>Zc hE rfl fun a hE=>Zi ?_)
      obtain rfl:=Option.some.inj hl22
      refine Zj ?_
      exact ⟨hE.sub ⟨rfl,rfl,rfl,rfl,rfl,rfl,trivial⟩,hM⟩
     ·intro hb24
      have hl22:=Zs hl22 hb24
      refine wp_skip ?_
      obtain rfl:=Option.some.inj hl22
      refine Zj ?_
      exact ⟨hE.sub ⟨rfl,rfl,rfl,rfl,rfl,rfl,trivial⟩,hM⟩
    ·skip
     rintro a w ⟨hE,hM⟩
     obtain ⟨x29,hi28,hF23⟩:=bvx hF23
     obtain ⟨x32,hi31,hF23⟩:=bvx hF23
     obtain ⟨x35,hi34,hF23⟩:=bvx hF23
     refine ZP [24,25,26,27,28,29,30,31,32] Yr rfl rfl (by decide) rfl hE hM (qsP (fun z=>Zg z.E Za ld rfl (kr0 rfl)) (qsP (fun z=>Zg z.E Za ld rfl (kr0 rfl)) (qsP (fun z=>ZC z.E Za ld rfl rfl Try.underlying62 ty5 hi28.1 (kr0 rfl)) (qsP (fun z=>ZN (v:=(vB x29)) z.E Za ld rfl ty5 rfl (At.vec (z.M.rawAt1) hi28.2) (kr0 rfl)) (qsP (fun z=>Zg z.E Za ld rfl (kr0 rfl)) (qsP (fun z=>ZC z.E Za ld rfl rfl Try.underlying54 ty5 hi31.1 (kr0 rfl)) (qsP (fun z=>ZN (v:=(vB x32)) z.E Za ld rfl ty5 rfl (At.vec (z.M.rawAt2) hi31.2) (kr0 rfl)) (qsP (v:=(vB (x29 ^^^ x32))) (fun z=>Z1 z.E Za ld rfl rfl (VK x29 x32) (kr0 rfl)) (qsP (fun z=>ZC z.E Za ld rfl rfl Try.underlying62 ty5 hi34.1 (kr0 rfl)) qs0))))))))) ?_
     ·intro a w u hE hM
      have hM:=hM.pull1
      refine Zk (seg:=[(vB (x29 ^^^ x32))]) (cs':=enc (s10.1.setIfInBounds (s10.2).toNat (x29 ^^^ x32))) hE hM Za rfl rfl rfl ty5 rfl (ZR (v:=s10.1) (x:=x29 ^^^ x32) hi34.1) (Flat.cell (x29 ^^^ x32 : UInt8)) (ZE (v:=s10.1) (x:=x29 ^^^ x32) hi34.1) fun w a hM hE=>Zi (Yv ?_)
      obtain rfl:=Option.some.inj hF23
      refine Zj ?_
      have hM:=hM.pull2.pull1.pull2
      exact ⟨hE.sub ⟨rfl,rfl,rfl,rfl,rfl,trivial⟩,hM⟩
   ·skip
    rintro a w ⟨hE,hM⟩
    refine wp_region_lit (Zd hE rfl fun a hE=>Zl hE rfl rfl rfl fun a hE=>Zc hE rfl fun a hE=>Zi (Zj ?_))
    exact ⟨_,(ois hF17),hE.sub ⟨rfl,rfl,rfl,rfl,rfl,trivial⟩,hM⟩
  ·intro hb14
   have hs11:=Zs hs11 hb14
   refine wp_exit (Zn (Zn (Yy ?_)))
   obtain rfl:=hx12 _ (ois hs11)
   refine Zj ?_
   have hM:=M.fst (l:=[_,_]) hM.pull1.pull1
   exact ⟨hE.sub ⟨rfl,rfl,trivial⟩,hM⟩
 ·skip
  rintro a w ⟨hE,hM⟩
  refine Zw (Zb (Zp hE rfl ZK rfl hM.rawAt1 (Flat.len _) fun a hE=>Zk (seg:=enc j7) (cs':=enc j7) hE hM Za rfl rfl rfl ZK (Flat.len _) (zle flq) (Flat.cell _) (Zh flq) fun w a hM hE=>Ze ?_))
  obtain rfl:=Option.some.inj hF9
  have hq39 : Z6 Try.prog _ _ (.cell 6 62) _:=ZD hE rfl ZK rfl hM.rawAt0 (Flat.len _) rfl
  exact wp_ret (ZU hE rfl hq39 ⟨_,rfl,rfl,hM.kept⟩)
def WC (p0 : GCipher) (p2 : Int) (s12 : (Vector UInt8 16) × (List (Vector UInt8 16)) × Int) : Option (Fl ((Vector UInt8 16) × (List (Vector UInt8 16)) × Int) (List (Vector UInt8 16))) :=
 if (decide (s12.2.2 ≤ p2)) = true then ((V0 p0.Box s12.1 s12.2.2).bind fun r19=>(app 16 s12.2.1 ([r19] : List (Vector UInt8 16))).bind fun l23=>some (Fl.nx (r19,(s12.2.1 ++ ([r19] : List (Vector UInt8 16))),wr (s12.2.2 + 1)))) else (some (Fl.ex s12.2.1))
def VZ (p0 : GCipher) (p1 : (Vector UInt8 16)) (p2 : Int) : Option ((List (Vector UInt8 16))) :=
 (ZF (WC p0 p2) (p1,([p1] : List (Vector UInt8 16)),1)).bind fun j7=>some j7
theorem HB (w0 : World) (p0 : GCipher) (p1 : (Vector UInt8 16)) (p2 : Int) (r : (List (Vector UInt8 16))) (hF : VZ p0 p1 p2 = some r) :
  Calls Try.prog 153 [(Value.agg (enc p0).toArray),(Value.agg (enc p1).toArray),vI p2].toArray w0 (fun en w'=>∃ v,en = .returned v ∧ (∃ (y1 : Value),v = y1 ∧ Fr w0 w' [osl NoB (r : List (Vector UInt8 16)) y1] ∧ Kept (Old w0) w0 w')):=by
 refine ce Try.func153 ?_
 intro a hE
 have hM:=M.start w0
 unfold VZ at hF
 refine Zb (Z7 (cs:=cat [[vI p0.Field],enc p0.Box,enc p0.Mix,enc p0.Places,[vI p0.Rounds]]) hE hM Za ld rfl rfl fun b1 w a hM hE=>Z7 (cs:=enc p1) hE hM Za ld rfl rfl fun b3 w a hM hE=>Zc hE rfl fun a hE=>Ze (Zb (Zp hE rfl ZK rfl hM.rawAt0 (Flat.len _) fun a hE=>Z3 (xs:=[.tmp 9]) (l:=([p1] : List (Vector UInt8 16))) (vs:=[(Value.agg (enc p1).toArray)]) hE hM Za ld rfl rfl Try.underlying136 ZK rfl (by decide) rfl fun u5 w a hM hE=>Zc hE rfl fun a hE=>Ze (wp_seq (Zb (Zc hE rfl fun a hE=>Ze ?_))))))
 obtain ⟨j7,hl8,hF9⟩:=bind_some hF
 refine ZW (fun a w=>∃ (u10 : Value),Env 26 a [(7,u10)] ∧ M (Old w0) w0 w [osl NoB (j7 : List (Vector UInt8 16)) u10]) ?_ ?_
 ·skip
  refine wp_block ?_
  have hM:=hM.pull2.pull2
  refine ZM (fun (s12 : (Vector UInt8 16) × (List (Vector UInt8 16)) × Int) a w=>∃ (u13 : Value),Env 26 a [(2,vI p2),(3,(ptr b1 0)),(4,(ptr b3 0)),(7,u13),(8,vI s12.2.2)] ∧ M (Old w0) w0 w [raw b3 (enc s12.1),raw b1 (cat [[vI p0.Field],enc p0.Box,enc p0.Mix,enc p0.Places,[vI p0.Rounds]]),osl NoB (s12.2.1 : List (Vector UInt8 16)) u13]) hl8 ⟨u5,hE.sub ⟨rfl,rfl,rfl,rfl,rfl,trivial⟩,hM⟩ ?_
  rintro s12 a w ⟨u13,hE,hM⟩ o17 hs15 hx16
  unfold WC at hs15
  refine wp_seq (Zb (Zd hE rfl fun a hE=>Zd hE rfl fun a hE=>Zl hE rfl rfl rfl fun a hE=>Ze ?_))
  refine Zq hE rfl ?_ ?_
  ·intro hb18
   have hs15:=Zt hs15 hb18
   refine wp_skip (Zw (wp_seq (wp_block (Zb (ZJ hE rfl (K4) fun a hE=>Zp hE rfl VL rfl (At.cat (pre:=[[vI p0.Field]]) hM.rawAt1 ck) (Flat.len _) fun a hE=>Zp hE rfl ZK rfl hM.rawAt0 (Flat.len _) fun a hE=>Zd hE rfl ?_))))); intro a hE
   obtain ⟨r19,e20,hs15⟩:=bind_some hs15
   refine Zy hE rfl (cbm Try.func190) (JX _ p0.Box s12.1 s12.2.2 r19 e20) ?_
   rintro v w a ⟨rfl,hK⟩ hE
   have hM:=hM.keep hK
   refine Zk (seg:=enc r19) (cs':=enc r19) hE hM Za rfl rfl rfl ZK (Flat.len _) (zle flq) (Flat.cell _) (Zh flq) fun w a hM hE=>Ze (wp_region_lit (Zd hE rfl fun a hE=>Zp hE rfl ZK rfl hM.rawAt0 (Flat.len _) fun a hE=>Z3 (xs:=[.tmp 22]) (l:=([r19] : List (Vector UInt8 16))) (vs:=[(Value.agg (enc r19).toArray)]) hE hM Za ld rfl rfl Try.underlying136 ZK rfl (by decide) rfl ?_)); intro u21 w a hM hE
   obtain ⟨l23,e24,hs15⟩:=bind_some hs15
   obtain ⟨e27,rfl⟩:=Yn e24
   have hM:=hM.pull3
   refine Yf hE hM Za ld rfl rfl (hM.sl (pre:=[_]) noB) Try.underlying136 ZK rfl (by decide) e27 fun u25 w a hM hE=>Zc hE rfl fun a hE=>Zi (Yv (Zw (wp_region_lit (Zd hE rfl fun a hE=>Zl hE rfl rfl rfl fun a hE=>Zc hE rfl fun a hE=>Zi (Zj ?_)))))
   have hM:=M.fst (l:=[_,_,_]) hM.pull3.pull3
   exact ⟨_,(ois hs15),u25,hE.sub ⟨rfl,rfl,rfl,rfl,rfl,trivial⟩,hM⟩
  ·intro hb18
   have hs15:=Zs hs15 hb18
   refine wp_exit (Zn (Zn (Yy ?_)))
   obtain rfl:=hx16 _ (ois hs15)
   refine Zj ?_
   have hM:=M.fst (l:=[_]) hM.pull2
   exact ⟨u13,hE.sub ⟨rfl,trivial⟩,hM⟩
 ·skip
  rintro a w ⟨u10,hE,hM⟩
  refine Zw (Zb (Zd hE rfl fun a hE=>Zc hE rfl fun a hE=>Ze ?_))
  obtain rfl:=Option.some.inj hF9
  exact wp_ret (ZU hE rfl (ZV hE rfl) ⟨_,rfl,u10,rfl,hM.outF (X2 Wy),hM.kept⟩)
def Wh (p0 : (Vector UInt8 256)) (s10 : (Vector UInt8 16) × Int) : Option (Fl ((Vector UInt8 16) × Int) (Vector UInt8 16)) :=
 if (decide (s10.2 < 16)) = true then ((ZI s10.1 s10.2).bind fun x16=>(ZI p0 (bI x16)).bind fun x19=>(ZI s10.1 s10.2).bind fun x22=>some (Fl.nx ((s10.1.setIfInBounds (s10.2).toNat x19),wr (s10.2 + 1)))) else (some (Fl.ex s10.1))
def Vz (p0 : (Vector UInt8 256)) (p1 : (Vector UInt8 16)) : Option ((Vector UInt8 16)) :=
 (ZF (Wh p0) (p1,0)).bind fun j7=>some j7
theorem Jv (w0 : World) (p0 : (Vector UInt8 256)) (p1 : (Vector UInt8 16)) (r : (Vector UInt8 16)) (hF : Vz p0 p1 = some r) :
  Calls Try.prog 156 [(Value.agg (enc p0).toArray),(Value.agg (enc p1).toArray)].toArray w0 (Rt w0 (Value.agg (enc r).toArray)):=by
 refine ce Try.func156 ?_
 intro a hE
 have hM:=M.start w0
 unfold Vz at hF
 refine Zb (Z7 (cs:=enc p0) hE hM Za ld rfl rfl fun b1 w a hM hE=>Z7 (cs:=enc p1) hE hM Za ld rfl rfl fun b3 w a hM hE=>Zv hE hM ZK fun b5 w a hM hE=>Ze (wp_seq (Zb (Zc hE rfl fun a hE=>Ze ?_))))
 obtain ⟨j7,hl8,hF9⟩:=bind_some hF
 refine ZW (fun a w=>Env 18 a [(3,(ptr b3 0)),(4,(ptr b5 0))] ∧ M (Old w0) w0 w [raw b5 (enc (Vector.replicate 16 (0 : UInt8))),raw b3 (enc j7)]) ?_ ?_
 ·skip
  refine wp_block ?_
  refine ZM (fun (s10 : (Vector UInt8 16) × Int) a w=>Env 18 a [(2,(ptr b1 0)),(3,(ptr b3 0)),(4,(ptr b5 0)),(5,vI s10.2)] ∧ M (Old w0) w0 w [raw b5 (enc (Vector.replicate 16 (0 : UInt8))),raw b3 (enc s10.1),raw b1 (enc p0)]) hl8 ⟨hE.sub ⟨rfl,rfl,rfl,rfl,trivial⟩,hM⟩ ?_
  rintro s10 a w ⟨hE,hM⟩ o13 hs11 hx12
  unfold Wh at hs11
  refine wp_seq (Zb (Zd hE rfl fun a hE=>Zl hE rfl rfl rfl fun a hE=>Ze ?_))
  refine Zq hE rfl ?_ ?_
  ·intro hb14
   have hs11:=Zt hs11 hb14
   refine wp_skip (Zw (wp_seq (wp_block (wp_region_lit (Zd hE rfl fun a hE=>Zd hE rfl ?_))))); intro a hE
   obtain ⟨x16,hi15,hs11⟩:=bvx hs11
   refine ZH hE rfl rfl Try.underlying62 ty5 hi15.1 fun a hE=>ZQ (v:=(vB x16)) hE rfl ty5 rfl (At.vec hM.rawAt1 hi15.2) ?_; intro a hE
   obtain ⟨x19,hi18,hs11⟩:=bvx hs11
   refine ZH hE rfl rfl Try.underlying54 ty5 hi18.1 fun a hE=>ZQ (v:=(vB x19)) hE rfl ty5 rfl (At.vec hM.rawAt2 hi18.2) ?_; intro a hE
   obtain ⟨x22,hi21,hs11⟩:=bvx hs11
   refine ZH hE rfl rfl Try.underlying62 ty5 hi21.1 ?_; intro a hE
   have hM:=hM.pull1
   refine Zk (seg:=[vB x19]) (cs':=enc (s10.1.setIfInBounds (s10.2).toNat x19)) hE hM Za rfl rfl rfl ty5 rfl (ZR (v:=s10.1) (x:=x19) hi21.1) (Flat.cell (x19 : UInt8)) (ZE (v:=s10.1) (x:=x19) hi21.1) fun w a hM hE=>Zi (Yv (Zw (wp_region_lit (Zd hE rfl fun a hE=>Zl hE rfl rfl rfl fun a hE=>Zc hE rfl fun a hE=>Zi (Zj ?_)))))
   have hM:=hM.pull2.pull1.pull2
   exact ⟨_,(ois hs11),hE.sub ⟨rfl,rfl,rfl,rfl,trivial⟩,hM⟩
  ·intro hb14
   have hs11:=Zs hs11 hb14
   refine wp_exit (Zn (Zn (Yy ?_)))
   obtain rfl:=hx12 _ (ois hs11)
   refine Zj ?_
   have hM:=M.fst (l:=[_,_]) hM.pull1.pull1
   exact ⟨hE.sub ⟨rfl,rfl,trivial⟩,hM⟩
 ·skip
  rintro a w ⟨hE,hM⟩
  refine Zw (Zb (Zp hE rfl ZK rfl hM.rawAt1 (Flat.len _) fun a hE=>Zk (seg:=enc j7) (cs':=enc j7) hE hM Za rfl rfl rfl ZK (Flat.len _) (zle flq) (Flat.cell _) (Zh flq) fun w a hM hE=>Ze ?_))
  obtain rfl:=Option.some.inj hF9
  have hq25 : Z6 Try.prog _ _ (.cell 4 62) _:=ZD hE rfl ZK rfl hM.rawAt0 (Flat.len _) rfl
  exact wp_ret (ZU hE rfl hq25 ⟨_,rfl,rfl,hM.kept⟩)
def WG (p0 : (Vector UInt8 16)) (p1 : (Vector UInt8 16)) (s12 : (Vector UInt8 16) × Int) : Option (Fl ((Vector UInt8 16) × Int) (Vector UInt8 16)) :=
 if (decide (s12.2 < 16)) = true then ((ZI p0 s12.2).bind fun x18=>(ZI p1 (bI x18)).bind fun x21=>(ZI s12.1 s12.2).bind fun x24=>some (Fl.nx ((s12.1.setIfInBounds (s12.2).toNat x21),wr (s12.2 + 1)))) else (some (Fl.ex s12.1))
def VV (p0 : (Vector UInt8 16)) (p1 : (Vector UInt8 16)) : Option ((Vector UInt8 16)) :=
 (ZF (WG p0 p1) ((Vector.replicate 16 (0 : UInt8)),0)).bind fun j9=>some j9
theorem HC (w0 : World) (p0 : (Vector UInt8 16)) (p1 : (Vector UInt8 16)) (r : (Vector UInt8 16)) (hF : VV p0 p1 = some r) :
  Calls Try.prog 155 [(Value.agg (enc p0).toArray),(Value.agg (enc p1).toArray)].toArray w0 (Rt w0 (Value.agg (enc r).toArray)):=by
 refine ce Try.func155 ?_
 intro a hE
 have hM:=M.start w0
 unfold VV at hF
 refine Zb (Z7 (cs:=enc p0) hE hM Za ld rfl rfl fun b1 w a hM hE=>Z7 (cs:=enc p1) hE hM Za ld rfl rfl fun b3 w a hM hE=>Zv hE hM ZK fun b5 w a hM hE=>Ze (Zb (Yx (parts:=[]) (vs:=[]) (cs:=enc (Vector.replicate 16 (0 : UInt8))) hE Za ld rfl rfl ZK rfl ty5 Yk fun a hE=>Zv hE hM ZK fun b7 w a hM hE=>Zk (seg:=enc (Vector.replicate 16 (0 : UInt8))) (cs':=enc (Vector.replicate 16 (0 : UInt8))) hE hM Za rfl rfl rfl ZK (Flat.len _) (zle flq) (Flat.cell _) (Zh flq) fun w a hM hE=>Ze (wp_seq (Zb (Zc hE rfl fun a hE=>Ze ?_))))))
 obtain ⟨j9,hl10,hF11⟩:=bind_some hF
 refine ZW (fun a w=>Env 20 a [(4,(ptr b5 0)),(5,(ptr b7 0))] ∧ M (Old w0) w0 w [raw b7 (enc j9),raw b5 (enc (Vector.replicate 16 (0 : UInt8)))]) ?_ ?_
 ·skip
  refine wp_block ?_
  refine ZM (fun (s12 : (Vector UInt8 16) × Int) a w=>Env 20 a [(2,(ptr b1 0)),(3,(ptr b3 0)),(4,(ptr b5 0)),(5,(ptr b7 0)),(6,vI s12.2)] ∧ M (Old w0) w0 w [raw b7 (enc s12.1),raw b5 (enc (Vector.replicate 16 (0 : UInt8))),raw b3 (enc p1),raw b1 (enc p0)]) hl10 ⟨hE.sub ⟨rfl,rfl,rfl,rfl,rfl,trivial⟩,hM⟩ ?_
  rintro s12 a w ⟨hE,hM⟩ o15 hs13 hx14
  unfold WG at hs13
  refine wp_seq (Zb (Zd hE rfl fun a hE=>Zl hE rfl rfl rfl fun a hE=>Ze ?_))
  refine Zq hE rfl ?_ ?_
  ·intro hb16
   have hs13:=Zt hs13 hb16
   refine wp_skip (Zw (wp_seq (wp_block (wp_region_lit (Zd hE rfl fun a hE=>Zd hE rfl ?_))))); intro a hE
   obtain ⟨x18,hi17,hs13⟩:=bvx hs13
   refine ZH hE rfl rfl Try.underlying59 ty5 hi17.1 fun a hE=>ZQ (v:=(vB x18)) hE rfl ty5 rfl (At.vec hM.rawAt3 hi17.2) ?_; intro a hE
   obtain ⟨x21,hi20,hs13⟩:=bvx hs13
   refine ZH hE rfl rfl Try.underlying62 ty5 hi20.1 fun a hE=>ZQ (v:=(vB x21)) hE rfl ty5 rfl (At.vec hM.rawAt2 hi20.2) ?_; intro a hE
   obtain ⟨x24,hi23,hs13⟩:=bvx hs13
   refine ZH hE rfl rfl Try.underlying62 ty5 hi23.1 fun a hE=>Zk (seg:=[vB x21]) (cs':=enc (s12.1.setIfInBounds (s12.2).toNat x21)) hE hM Za rfl rfl rfl ty5 rfl (ZR (v:=s12.1) (x:=x21) hi23.1) (Flat.cell (x21 : UInt8)) (ZE (v:=s12.1) (x:=x21) hi23.1) fun w a hM hE=>Zi (Yv (Zw (wp_region_lit (Zd hE rfl fun a hE=>Zl hE rfl rfl rfl fun a hE=>Zc hE rfl fun a hE=>Zi (Zj ?_)))))
   exact ⟨_,(ois hs13),hE.sub ⟨rfl,rfl,rfl,rfl,rfl,trivial⟩,hM⟩
  ·intro hb16
   have hs13:=Zs hs13 hb16
   refine wp_exit (Zn (Zn (Yy ?_)))
   obtain rfl:=hx14 _ (ois hs13)
   refine Zj ?_
   have hM:=M.fst (l:=[_,_]) hM.pull1.pull1
   exact ⟨hE.sub ⟨rfl,rfl,trivial⟩,hM⟩
 ·skip
  rintro a w ⟨hE,hM⟩
  refine Zw (Zb (Zp hE rfl ZK rfl hM.rawAt0 (Flat.len _) ?_)); intro a hE
  have hM:=hM.pull1
  refine Zk (seg:=enc j9) (cs':=enc j9) hE hM Za rfl rfl rfl ZK (Flat.len _) (zle flq) (Flat.cell _) (Zh flq) fun w a hM hE=>Ze ?_
  obtain rfl:=Option.some.inj hF11
  have hq27 : Z6 Try.prog _ _ (.cell 4 62) _:=ZD hE rfl ZK rfl hM.rawAt0 (Flat.len _) rfl
  exact wp_ret (ZU hE rfl hq27 ⟨_,rfl,rfl,hM.kept⟩)
def XN (p0 : Int) (p1 : (Vector (Vector UInt8 4) 4)) (p2 : (Vector UInt8 16)) (s12 : (Vector UInt8 16) × Int) (s20 : (Vector UInt8 16) × Int) (s28 : (Vector UInt8 16) × Int) : Option (Fl ((Vector UInt8 16) × Int) (Vector UInt8 16)) :=
 if (decide (s28.2 < 4)) = true then ((ZI s28.1 (wr ((wr (4 * s12.2)) + s20.2))).bind fun x35=>(ZI p1 s20.2).bind fun x38=>(ZI x38 s28.2).bind fun x41=>(ZI p2 (wr ((wr (4 * s12.2)) + s28.2))).bind fun x44=>(YQ p0 x41 x44).bind fun r46=>(ZI s28.1 (wr ((wr (4 * s12.2)) + s20.2))).bind fun x49=>some (Fl.nx ((s28.1.setIfInBounds ((wr ((wr (4 * s12.2)) + s20.2))).toNat (x35 ^^^ r46)),wr (s28.2 + 1)))) else (some (Fl.ex s28.1))
def Vd (p0 : Int) (p1 : (Vector (Vector UInt8 4) 4)) (p2 : (Vector UInt8 16)) (s12 : (Vector UInt8 16) × Int) (s20 : (Vector UInt8 16) × Int) : Option (Fl ((Vector UInt8 16) × Int) (Vector UInt8 16)) :=
 if (decide (s20.2 < 4)) = true then ((ZF (XN p0 p1 p2 s12 s20) (s20.1,0)).bind fun j25=>some (Fl.nx (j25,wr (s20.2 + 1)))) else (some (Fl.ex s20.1))
def W0 (p0 : Int) (p1 : (Vector (Vector UInt8 4) 4)) (p2 : (Vector UInt8 16)) (s12 : (Vector UInt8 16) × Int) : Option (Fl ((Vector UInt8 16) × Int) (Vector UInt8 16)) :=
 if (decide (s12.2 < 4)) = true then ((ZF (Vd p0 p1 p2 s12) (s12.1,0)).bind fun j17=>some (Fl.nx (j17,wr (s12.2 + 1)))) else (some (Fl.ex s12.1))
def Uj (p0 : Int) (p1 : (Vector (Vector UInt8 4) 4)) (p2 : (Vector UInt8 16)) : Option ((Vector UInt8 16)) :=
 (ZF (W0 p0 p1 p2) ((Vector.replicate 16 (0 : UInt8)),0)).bind fun j9=>some j9
theorem HQ (w0 : World) (p0 : Int) (p1 : (Vector (Vector UInt8 4) 4)) (p2 : (Vector UInt8 16)) (r : (Vector UInt8 16)) (hF : Uj p0 p1 p2 = some r) :
  Calls Try.prog 157 [vI p0,(Value.agg (enc p1).toArray),(Value.agg (enc p2).toArray)].toArray w0 (Rt w0 (Value.agg (enc r).toArray)):=by
 refine ce Try.func157 ?_
 intro a hE
 have hM:=M.start w0
 unfold Uj at hF
 refine Zb (Z7 (cs:=enc p1) hE hM Za ld rfl rfl fun b1 w a hM hE=>Z7 (cs:=enc p2) hE hM Za ld rfl rfl fun b3 w a hM hE=>Zv hE hM ZK fun b5 w a hM hE=>Ze (Zb (Yx (parts:=[]) (vs:=[]) (cs:=enc (Vector.replicate 16 (0 : UInt8))) hE Za ld rfl rfl ZK rfl ty5 Yk fun a hE=>Zv hE hM ZK fun b7 w a hM hE=>Zk (seg:=enc (Vector.replicate 16 (0 : UInt8))) (cs':=enc (Vector.replicate 16 (0 : UInt8))) hE hM Za rfl rfl rfl ZK (Flat.len _) (zle flq) (Flat.cell _) (Zh flq) fun w a hM hE=>Ze (wp_seq (Zb (Zc hE rfl fun a hE=>Ze ?_))))))
 obtain ⟨j9,hl10,hF11⟩:=bind_some hF
 refine ZW (fun a w=>Env 50 a [(6,(ptr b5 0)),(7,(ptr b7 0))] ∧ M (Old w0) w0 w [raw b7 (enc j9),raw b5 (enc (Vector.replicate 16 (0 : UInt8)))]) ?_ ?_
 ·skip
  refine wp_block ?_
  refine ZM (fun (s12 : (Vector UInt8 16) × Int) a w=>Env 50 a [(0,vI p0),(4,(ptr b1 0)),(5,(ptr b3 0)),(6,(ptr b5 0)),(7,(ptr b7 0)),(8,vI s12.2)] ∧ M (Old w0) w0 w [raw b7 (enc s12.1),raw b5 (enc (Vector.replicate 16 (0 : UInt8))),raw b3 (enc p2),raw b1 (enc p1)]) hl10 ⟨hE.sub ⟨rfl,rfl,rfl,rfl,rfl,rfl,trivial⟩,hM⟩ ?_
  rintro s12 a w ⟨hE,hM⟩ o15 hs13 hx14
  unfold W0 at hs13
  refine wp_seq (Zb (Zd hE rfl fun a hE=>Zl hE rfl rfl rfl fun a hE=>Ze ?_))
  refine Zq hE rfl ?_ ?_
  ·intro hb16
   have hs13:=Zt hs13 hb16
   refine wp_skip (Zw (wp_seq (wp_block (Zb (Zc hE rfl fun a hE=>Ze ?_)))))
   obtain ⟨j17,hl18,hF19⟩:=bind_some hs13
   refine ZW (fun a w=>Env 50 a [(0,vI p0),(4,(ptr b1 0)),(5,(ptr b3 0)),(6,(ptr b5 0)),(7,(ptr b7 0)),(8,vI s12.2)] ∧ M (Old w0) w0 w [raw b7 (enc j17),raw b5 (enc (Vector.replicate 16 (0 : UInt8))),raw b3 (enc p2),raw b1 (enc p1)]) ?_ ?_
   ·skip
    refine wp_block ?_
    refine ZM (fun (s20 : (Vector UInt8 16) × Int) a w=>Env 50 a [(0,vI p0),(4,(ptr b1 0)),(5,(ptr b3 0)),(6,(ptr b5 0)),(7,(ptr b7 0)),(8,vI s12.2),(9,vI s20.2)] ∧ M (Old w0) w0 w [raw b7 (enc s20.1),raw b5 (enc (Vector.replicate 16 (0 : UInt8))),raw b3 (enc p2),raw b1 (enc p1)]) hl18 ⟨hE.sub ⟨rfl,rfl,rfl,rfl,rfl,rfl,rfl,trivial⟩,hM⟩ ?_
    rintro s20 a w ⟨hE,hM⟩ o23 hs21 hx22
    unfold Vd at hs21
    refine wp_seq (Zb (Zd hE rfl fun a hE=>Zl hE rfl rfl rfl fun a hE=>Ze ?_))
    refine Zq hE rfl ?_ ?_
    ·intro hb24
     have hs21:=Zt hs21 hb24
     refine wp_skip (Zw (wp_seq (wp_block (Zb (Zc hE rfl fun a hE=>Ze ?_)))))
     obtain ⟨j25,hl26,hF27⟩:=bind_some hs21
     refine ZW (fun a w=>Env 50 a [(0,vI p0),(4,(ptr b1 0)),(5,(ptr b3 0)),(6,(ptr b5 0)),(7,(ptr b7 0)),(8,vI s12.2),(9,vI s20.2)] ∧ M (Old w0) w0 w [raw b7 (enc j25),raw b5 (enc (Vector.replicate 16 (0 : UInt8))),raw b3 (enc p2),raw b1 (enc p1)]) ?_ ?_
     ·skip
      refine wp_block ?_
      refine ZM (fun (s28 : (Vector UInt8 16) × Int) a w=>Env 50 a [(0,vI p0),(4,(ptr b1 0)),(5,(ptr b3 0)),(6,(ptr b5 0)),(7,(ptr b7 0)),(8,vI s12.2),(9,vI s20.2),(10,vI s28.2)] ∧ M (Old w0) w0 w [raw b7 (enc s28.1),raw b5 (enc (Vector.replicate 16 (0 : UInt8))),raw b3 (enc p2),raw b1 (enc p1)]) hl26 ⟨hE.sub ⟨rfl,rfl,rfl,rfl,rfl,rfl,rfl,rfl,trivial⟩,hM⟩ ?_
      rintro s28 a w ⟨hE,hM⟩ o31 hs29 hx30
      unfold XN at hs29
      refine wp_seq (Zb (Zd hE rfl fun a hE=>Zl hE rfl rfl rfl fun a hE=>Ze ?_))
      refine Zq hE rfl ?_ ?_
      ·intro hb32
       have hs29:=Zt hs29 hb32
       refine wp_skip (Zw (wp_seq (wp_block ?_)))
       obtain ⟨x35,hi34,hs29⟩:=bvx hs29
       obtain ⟨x38,hi37,hs29⟩:=bvx hs29
       obtain ⟨x41,hi40,hs29⟩:=bvx hs29
       obtain ⟨x44,hi43,hs29⟩:=bvx hs29
       obtain ⟨r46,e47,hs29⟩:=bind_some hs29
       obtain ⟨x49,hi48,hs29⟩:=bvx hs29
       refine ZP [24,25,26,27,28,29,30,31,32,33,34,35,36,37,38,39,40,41,42,43,44,45,46,47,48] Yr rfl rfl (by decide) rfl hE hM (qsP (fun z=>Zg z.E Za ld rfl (kr0 rfl)) (qsP (v:=(vI (wr (4 * s12.2)))) (fun z=>Z1 z.E Za ld rfl rfl rfl (kr0 rfl)) (qsP (fun z=>Zg z.E Za ld rfl (kr0 rfl)) (qsP (v:=(vI (wr ((wr (4 * s12.2)) + s20.2)))) (fun z=>Z1 z.E Za ld rfl rfl rfl (kr0 rfl)) (qsP (fun z=>Zg z.E Za ld rfl (kr0 rfl)) (qsP (v:=(vI (wr (4 * s12.2)))) (fun z=>Z1 z.E Za ld rfl rfl rfl (kr0 rfl)) (qsP (fun z=>Zg z.E Za ld rfl (kr0 rfl)) (qsP (v:=(vI (wr ((wr (4 * s12.2)) + s20.2)))) (fun z=>Z1 z.E Za ld rfl rfl rfl (kr0 rfl)) (qsP (fun z=>ZC z.E Za ld rfl rfl Try.underlying62 ty5 hi34.1 (kr0 rfl)) (qsP (fun z=>ZN (v:=(vB x35)) z.E Za ld rfl ty5 rfl (At.vec (z.M.rawAt0) hi34.2) (kr0 rfl)) (qsP (fun z=>Zg z.E Za ld rfl (kr0 rfl)) (qsP (fun z=>Zg z.E Za ld rfl (kr0 rfl)) (qsP (fun z=>Zg z.E Za ld rfl (kr0 rfl)) (qsP (fun z=>ZC z.E Za ld rfl rfl Try.underlying57 VA hi37.1 (kr0 rfl)) (qsP (fun z=>ZC z.E Za ld rfl rfl Try.underlying55 ty5 hi40.1 (kr0 rfl)) (qsP (fun z=>ZN (v:=(vB x41)) z.E Za ld rfl ty5 rfl (At.vec (At.vec (z.M.rawAt3) hi37.2) hi40.2) (kr0 rfl)) (qsP (fun z=>Zg z.E Za ld rfl (kr0 rfl)) (qsP (v:=(vI (wr (4 * s12.2)))) (fun z=>Z1 z.E Za ld rfl rfl rfl (kr0 rfl)) (qsP (fun z=>Zg z.E Za ld rfl (kr0 rfl)) (qsP (v:=(vI (wr ((wr (4 * s12.2)) + s28.2)))) (fun z=>Z1 z.E Za ld rfl rfl rfl (kr0 rfl)) (qsP (fun z=>ZC z.E Za ld rfl rfl Try.underlying62 ty5 hi43.1 (kr0 rfl)) (qsP (fun z=>ZN (v:=(vB x44)) z.E Za ld rfl ty5 rfl (At.vec (z.M.rawAt2) hi43.2) (kr0 rfl)) (qsP (fun z=>ZX z.E Za ld rfl Ap (Vt _ p0 x41 x44 r46 e47) (kc rfl)) (qsP (v:=(vB (x35 ^^^ r46))) (fun z=>Z1 z.E Za ld rfl rfl (VK x35 r46) (kr0 rfl)) (qsP (fun z=>ZC z.E Za ld rfl rfl Try.underlying62 ty5 hi48.1 (kr0 rfl)) qs0))))))))))))))))))))))))) ?_
       ·intro a w u hE hM
        refine Zk (seg:=[(vB (x35 ^^^ r46))]) (cs':=enc (s28.1.setIfInBounds ((wr ((wr (4 * s12.2)) + s20.2))).toNat (x35 ^^^ r46))) hE hM Za rfl rfl rfl ty5 rfl (ZR (v:=s28.1) (x:=x35 ^^^ r46) hi48.1) (Flat.cell (x35 ^^^ r46 : UInt8)) (ZE (v:=s28.1) (x:=x35 ^^^ r46) hi48.1) fun w a hM hE=>Zi (Yv (Zw (wp_region_lit (Zd hE rfl fun a hE=>Zl hE rfl rfl rfl fun a hE=>Zc hE rfl fun a hE=>Zi (Zj ?_)))))
        exact ⟨_,(ois hs29),hE.sub ⟨rfl,rfl,rfl,rfl,rfl,rfl,rfl,rfl,trivial⟩,hM⟩
      ·intro hb32
       have hs29:=Zs hs29 hb32
       refine wp_exit (Zn (Zn (Yy ?_)))
       obtain rfl:=hx30 _ (ois hs29)
       refine Zj ?_
       exact ⟨hE.sub ⟨rfl,rfl,rfl,rfl,rfl,rfl,rfl,trivial⟩,hM⟩
     ·skip
      rintro a w ⟨hE,hM⟩
      refine Yv (Zw (wp_region_lit (Zd hE rfl fun a hE=>Zl hE rfl rfl rfl fun a hE=>Zc hE rfl fun a hE=>Zi (Zj ?_))))
      exact ⟨_,(ois hF27),hE.sub ⟨rfl,rfl,rfl,rfl,rfl,rfl,rfl,trivial⟩,hM⟩
    ·intro hb24
     have hs21:=Zs hs21 hb24
     refine wp_exit (Zn (Zn (Yy ?_)))
     obtain rfl:=hx22 _ (ois hs21)
     refine Zj ?_
     exact ⟨hE.sub ⟨rfl,rfl,rfl,rfl,rfl,rfl,trivial⟩,hM⟩
   ·skip
    rintro a w ⟨hE,hM⟩
    refine Yv (Zw (wp_region_lit (Zd hE rfl fun a hE=>Zl hE rfl rfl rfl fun a hE=>Zc hE rfl fun a hE=>Zi (Zj ?_))))
    exact ⟨_,(ois hF19),hE.sub ⟨rfl,rfl,rfl,rfl,rfl,rfl,trivial⟩,hM⟩
  ·intro hb16
   have hs13:=Zs hs13 hb16
   refine wp_exit (Zn (Zn (Yy ?_)))
   obtain rfl:=hx14 _ (ois hs13)
   refine Zj ?_
   have hM:=M.fst (l:=[_,_]) hM.pull1.pull1
   exact ⟨hE.sub ⟨rfl,rfl,trivial⟩,hM⟩
 ·skip
  rintro a w ⟨hE,hM⟩
  refine Zw (Zb (Zp hE rfl ZK rfl hM.rawAt0 (Flat.len _) ?_)); intro a hE
  have hM:=hM.pull1
  refine Zk (seg:=enc j9) (cs':=enc j9) hE hM Za rfl rfl rfl ZK (Flat.len _) (zle flq) (Flat.cell _) (Zh flq) fun w a hM hE=>Ze ?_
  obtain rfl:=Option.some.inj hF11
  have hq54 : Z6 Try.prog _ _ (.cell 6 62) _:=ZD hE rfl ZK rfl hM.rawAt0 (Flat.len _) rfl
  exact wp_ret (ZU hE rfl hq54 ⟨_,rfl,rfl,hM.kept⟩)
def Xj (p0 : GCipher) (p3 : Int) (r9 : (List (Vector UInt8 16))) (s25 : (Vector UInt8 16) × Int) : Option (Fl ((Vector UInt8 16) × Int) (Vector UInt8 16)) :=
 if (decide (s25.2 ≤ p3)) = true then ((((Vz p0.Box s25.1).bind fun r37=>(VV p0.Places r37).bind fun r39=>some r39 : Option ((Vector UInt8 16))).bind fun j33=>(if (decide (s25.2 < p3)) = true then ((Uj p0.Field p0.Mix j33).bind fun r46=>some r46) else (some j33) : Option ((Vector UInt8 16))).bind fun j42=>(idx r9 s25.2).bind fun x51=>(Xd j42 x51).bind fun r54=>some r54 : Option ((Vector UInt8 16))).bind fun j30=>some (Fl.nx (j30,wr (s25.2 + 1)))) else (some (Fl.ex s25.1))
def Y8 (p0 : GCipher) (p1 : (Vector UInt8 16)) (p2 : (Vector UInt8 16)) (p3 : Int) : Option ((Vector UInt8 16)) :=
 (VZ p0 p1 p3).bind fun r9=>((idx r9 (0 : Int)).bind fun x16=>(Xd p2 x16).bind fun r19=>some r19 : Option ((Vector UInt8 16))).bind fun j12=>(ZF (Xj p0 p3 r9) (j12,1)).bind fun j22=>some j22
theorem Tu (w0 : World) (p0 : GCipher) (p1 : (Vector UInt8 16)) (p2 : (Vector UInt8 16)) (p3 : Int) (r : (Vector UInt8 16)) (hF : Y8 p0 p1 p2 p3 = some r) :
  Calls Try.prog 92 [(Value.agg (enc p0).toArray),(Value.agg (enc p1).toArray),(Value.agg (enc p2).toArray),vI p3].toArray w0 (Rt w0 (Value.agg (enc r).toArray)):=by
 refine ce Try.func92 ?_
 intro a hE
 have hM:=M.start w0
 unfold Y8 at hF
 refine Zb (Z7 (cs:=cat [[vI p0.Field],enc p0.Box,enc p0.Mix,enc p0.Places,[vI p0.Rounds]]) hE hM Za ld rfl rfl fun b1 w a hM hE=>Z7 (cs:=enc p1) hE hM Za ld rfl rfl fun b3 w a hM hE=>Z7 (cs:=enc p2) hE hM Za ld rfl rfl fun b5 w a hM hE=>Zv hE hM ZK fun b7 w a hM hE=>Ze (Zb (Zp hE rfl Tl rfl hM.rawAt3 cq fun a hE=>Zp hE rfl ZK rfl hM.rawAt2 (Flat.len _) fun a hE=>Zd hE rfl ?_))); intro a hE
 obtain ⟨r9,e10,hF⟩:=bind_some hF
 refine Zy hE rfl (cbm Try.func153) (HB _ p0 p1 p3 r9 e10) ?_
 rintro u11 w a ⟨_,rfl,hFr,hK⟩ hE
 have hM:=hM.add hK hFr
 refine Zc hE rfl fun a hE=>Ze ?_
 obtain ⟨j12,hl13,hF14⟩:=bind_some hF
 refine ZB (fun a w=>Env 48 a [(3,vI p3),(4,(ptr b1 0)),(6,(ptr b5 0)),(8,(ptr b7 0)),(9,u11)] ∧ M (Old w0) w0 w [osl NoB (r9 : List (Vector UInt8 16)) u11,raw b7 (enc (Vector.replicate 16 (0 : UInt8))),raw b5 (enc j12),raw b1 (cat [[vI p0.Field],enc p0.Box,enc p0.Mix,enc p0.Places,[vI p0.Rounds]])]) ?_ ?_
 ·skip
  obtain ⟨x16,hi18,hl13⟩:=bix hl13
  obtain ⟨r19,e20,hl13⟩:=bind_some hl13
  refine ZP [15,16,17,18,19] Yr rfl rfl (by decide) rfl hE hM (qsP (fun z=>ZA z.E Za ld rfl ZK rfl (z.M.rawAt2) (Flat.len _) (kr0 rfl)) (qsP (fun z=>Zg z.E Za ld rfl (kr0 rfl)) (qsP (fun z=>Yi z.E Za ld rfl rfl Try.underlying136 ZK (z.M.sl (pre:=[]) noB) hi18.1 (kr0 rfl)) (qsP (fun z=>ZA z.E Za ld rfl ZK rfl (YA (z.M.sl (pre:=[]) noB) hi18.2) (Flat.len _) (kr0 rfl)) (qsP (fun z=>ZX z.E Za ld rfl Bo (VH _ p2 x16 r19 e20) (kc rfl)) qs0))))) ?_
  ·intro a w u hE hM
   have hM:=hM.pull2
   refine Zk (seg:=enc r19) (cs':=enc r19) hE hM Za rfl rfl rfl ZK (Flat.len _) (zle flq) (Flat.cell _) (Zh flq) fun w a hM hE=>Zi ?_
   obtain rfl:=Option.some.inj hl13
   refine Zj ?_
   have hM:=M.fst (l:=[_,_,_,_]) hM.pull4.pull1.pull3.pull3
   exact ⟨hE.sub ⟨rfl,rfl,rfl,rfl,rfl,trivial⟩,hM⟩
 ·skip
  rintro a w ⟨hE,hM⟩
  refine wp_seq (Zb (Zc hE rfl fun a hE=>Ze ?_))
  obtain ⟨j22,hl23,hF24⟩:=bind_some hF14
  refine ZW (fun a w=>Env 48 a [(6,(ptr b5 0)),(8,(ptr b7 0))] ∧ M (Old w0) w0 w [raw b7 (enc (Vector.replicate 16 (0 : UInt8))),raw b5 (enc j22)]) ?_ ?_
  ·skip
   refine wp_block ?_
   refine ZM (fun (s25 : (Vector UInt8 16) × Int) a w=>Env 48 a [(3,vI p3),(4,(ptr b1 0)),(6,(ptr b5 0)),(8,(ptr b7 0)),(9,u11),(10,vI s25.2)] ∧ M (Old w0) w0 w [osl NoB (r9 : List (Vector UInt8 16)) u11,raw b7 (enc (Vector.replicate 16 (0 : UInt8))),raw b5 (enc s25.1),raw b1 (cat [[vI p0.Field],enc p0.Box,enc p0.Mix,enc p0.Places,[vI p0.Rounds]])]) hl23 ⟨hE.sub ⟨rfl,rfl,rfl,rfl,rfl,rfl,trivial⟩,hM⟩ ?_
   rintro s25 a w ⟨hE,hM⟩ o28 hs26 hx27
   unfold Xj at hs26
   refine wp_seq (Zb (Zd hE rfl fun a hE=>Zd hE rfl fun a hE=>Zl hE rfl rfl rfl fun a hE=>Ze ?_))
   refine Zq hE rfl ?_ ?_
   ·intro hb29
    have hs26:=Zt hs26 hb29
    refine wp_skip (Zw ?_)
    obtain ⟨j30,hl31,hF32⟩:=bind_some hs26
    refine ZB (fun a w=>Env 48 a [(3,vI p3),(4,(ptr b1 0)),(6,(ptr b5 0)),(8,(ptr b7 0)),(9,u11),(10,vI s25.2)] ∧ M (Old w0) w0 w [osl NoB (r9 : List (Vector UInt8 16)) u11,raw b7 (enc (Vector.replicate 16 (0 : UInt8))),raw b5 (enc j30),raw b1 (cat [[vI p0.Field],enc p0.Box,enc p0.Mix,enc p0.Places,[vI p0.Rounds]])]) ?_ ?_
    ·skip
     refine wp_block ?_
     obtain ⟨j33,hl34,hF35⟩:=bind_some hl31
     refine ZB (fun a w=>Env 48 a [(3,vI p3),(4,(ptr b1 0)),(6,(ptr b5 0)),(8,(ptr b7 0)),(9,u11),(10,vI s25.2)] ∧ M (Old w0) w0 w [osl NoB (r9 : List (Vector UInt8 16)) u11,raw b7 (enc (Vector.replicate 16 (0 : UInt8))),raw b5 (enc j33),raw b1 (cat [[vI p0.Field],enc p0.Box,enc p0.Mix,enc p0.Places,[vI p0.Rounds]])]) ?_ ?_
     ·skip
      obtain ⟨r37,e38,hl34⟩:=bind_some hl34
      obtain ⟨r39,e40,hl34⟩:=bind_some hl34
      refine ZP [25,26,27,28,29,30,31] Yr rfl rfl (by decide) rfl hE hM (qsP (fun z=>Zo z.E Za ld rfl (Hc) (kr0 rfl)) (qsP (fun z=>ZA z.E Za ld rfl QA rfl (At.cat (pre:=[[vI p0.Field],enc p0.Box,enc p0.Mix]) (z.M.rawAt3) ck) (Flat.len _) (kr0 rfl)) (qsP (fun z=>Zo z.E Za ld rfl (K4) (kr0 rfl)) (qsP (fun z=>ZA z.E Za ld rfl VL rfl (At.cat (pre:=[[vI p0.Field]]) (z.M.rawAt3) ck) (Flat.len _) (kr0 rfl)) (qsP (fun z=>ZA z.E Za ld rfl ZK rfl (z.M.rawAt2) (Flat.len _) (kr0 rfl)) (qsP (fun z=>ZX z.E Za ld rfl (cbm Try.func156) (Jv _ p0.Box s25.1 r37 e38) (kc rfl)) (qsP (fun z=>ZX z.E Za ld rfl (cbm Try.func155) (HC _ p0.Places r37 r39 e40) (kc rfl)) qs0))))))) ?_
      ·intro a w u hE hM
       have hM:=hM.pull2
       refine Zk (seg:=enc r39) (cs':=enc r39) hE hM Za rfl rfl rfl ZK (Flat.len _) (zle flq) (Flat.cell _) (Zh flq) fun w a hM hE=>Zi ?_
       obtain rfl:=Option.some.inj hl34
       refine Zj ?_
       have hM:=hM.pull3.pull1.pull3.pull3
       exact ⟨hE.sub ⟨rfl,rfl,rfl,rfl,rfl,rfl,trivial⟩,hM⟩
     ·skip
      rintro a w ⟨hE,hM⟩
      obtain ⟨j42,hl43,hF44⟩:=bind_some hF35
      refine ZB (fun a w=>Env 48 a [(3,vI p3),(4,(ptr b1 0)),(6,(ptr b5 0)),(8,(ptr b7 0)),(9,u11),(10,vI s25.2)] ∧ M (Old w0) w0 w [osl NoB (r9 : List (Vector UInt8 16)) u11,raw b7 (enc (Vector.replicate 16 (0 : UInt8))),raw b5 (enc j42),raw b1 (cat [[vI p0.Field],enc p0.Box,enc p0.Mix,enc p0.Places,[vI p0.Rounds]])]) ?_ ?_
      ·skip
       refine Zb (Zd hE rfl fun a hE=>Zd hE rfl fun a hE=>Zl hE rfl rfl rfl fun a hE=>Ze ?_)
       refine Zq hE rfl ?_ ?_
       ·intro hb45
        have hl43:=Zt hl43 hb45
        refine wp_region_lit (ZJ hE rfl (BW) fun a hE=>ZQ (v:=(vI p0.Field)) hE rfl ty2 rfl (At.cat (pre:=[]) hM.rawAt3 cl0) fun a hE=>ZJ hE rfl (J9) fun a hE=>Zp hE rfl Tx rfl (At.cat (pre:=[[vI p0.Field],enc p0.Box]) hM.rawAt3 ck) (Flat.len _) fun a hE=>Zp hE rfl ZK rfl hM.rawAt2 (Flat.len _) ?_); intro a hE
        obtain ⟨r46,e47,hl43⟩:=bind_some hl43
        refine Zy hE rfl (cbm Try.func157) (HQ _ p0.Field p0.Mix j33 r46 e47) ?_
        rintro v w a ⟨rfl,hK⟩ hE
        have hM:=(hM.keep hK).pull2
        refine Zk (seg:=enc r46) (cs':=enc r46) hE hM Za rfl rfl rfl ZK (Flat.len _) (zle flq) (Flat.cell _) (Zh flq) fun w a hM hE=>Zi ?_
        obtain rfl:=Option.some.inj hl43
        refine Zj ?_
        have hM:=hM.pull3.pull1.pull3.pull3
        exact ⟨hE.sub ⟨rfl,rfl,rfl,rfl,rfl,rfl,trivial⟩,hM⟩
       ·intro hb45
        have hl43:=Zs hl43 hb45
        refine wp_skip ?_
        obtain rfl:=Option.some.inj hl43
        refine Zj ?_
        exact ⟨hE.sub ⟨rfl,rfl,rfl,rfl,rfl,rfl,trivial⟩,hM⟩
      ·skip
       rintro a w ⟨hE,hM⟩
       obtain ⟨x51,hi53,hF44⟩:=bix hF44
       obtain ⟨r54,e55,hF44⟩:=bind_some hF44
       refine ZP [41,42,43,44,45,46] Yr rfl rfl (by decide) rfl hE hM (qsP (fun z=>ZA z.E Za ld rfl ZK rfl (z.M.rawAt2) (Flat.len _) (kr0 rfl)) (qsP (fun z=>Zg z.E Za ld rfl (kr0 rfl)) (qsP (fun z=>Zg z.E Za ld rfl (kr0 rfl)) (qsP (fun z=>Yi z.E Za ld rfl rfl Try.underlying136 ZK (z.M.sl (pre:=[]) noB) hi53.1 (kr0 rfl)) (qsP (fun z=>ZA z.E Za ld rfl ZK rfl (YA (z.M.sl (pre:=[]) noB) hi53.2) (Flat.len _) (kr0 rfl)) (qsP (fun z=>ZX z.E Za ld rfl Bo (VH _ j42 x51 r54 e55) (kc rfl)) qs0)))))) ?_
       ·intro a w u hE hM
        have hM:=hM.pull2
        refine Zk (seg:=enc r54) (cs':=enc r54) hE hM Za rfl rfl rfl ZK (Flat.len _) (zle flq) (Flat.cell _) (Zh flq) fun w a hM hE=>Zi (Yv ?_)
        obtain rfl:=Option.some.inj hF44
        refine Zj ?_
        have hM:=hM.pull3.pull1.pull3.pull3
        exact ⟨hE.sub ⟨rfl,rfl,rfl,rfl,rfl,rfl,trivial⟩,hM⟩
    ·skip
     rintro a w ⟨hE,hM⟩
     refine wp_region_lit (Zd hE rfl fun a hE=>Zl hE rfl rfl rfl fun a hE=>Zc hE rfl fun a hE=>Zi (Zj ?_))
     exact ⟨_,(ois hF32),hE.sub ⟨rfl,rfl,rfl,rfl,rfl,rfl,trivial⟩,hM⟩
   ·intro hb29
    have hs26:=Zs hs26 hb29
    refine wp_exit (Zn (Zn (Yy ?_)))
    obtain rfl:=hx27 _ (ois hs26)
    refine Zj ?_
    have hM:=M.fst (l:=[_,_]) hM.pull2.pull2
    exact ⟨hE.sub ⟨rfl,rfl,trivial⟩,hM⟩
  ·skip
   rintro a w ⟨hE,hM⟩
   refine Zw (Zb (Zp hE rfl ZK rfl hM.rawAt1 (Flat.len _) fun a hE=>Zk (seg:=enc j22) (cs':=enc j22) hE hM Za rfl rfl rfl ZK (Flat.len _) (zle flq) (Flat.cell _) (Zh flq) fun w a hM hE=>Ze ?_))
   obtain rfl:=Option.some.inj hF24
   have hq58 : Z6 Try.prog _ _ (.cell 8 62) _:=ZD hE rfl ZK rfl hM.rawAt0 (Flat.len _) rfl
   exact wp_ret (ZU hE rfl hq58 ⟨_,rfl,rfl,hM.kept⟩)
def XV (r31 : (Vector UInt8 16)) (r40 : (Vector UInt8 16)) (s51 : (Vector UInt8 32) × Int) : Option (Fl ((Vector UInt8 32) × Int) (Vector UInt8 32)) :=
 if (decide (s51.2 < 16)) = true then ((ZI r31 s51.2).bind fun x57=>(ZI s51.1 s51.2).bind fun x60=>(ZI r40 s51.2).bind fun x63=>(ZI (s51.1.setIfInBounds (s51.2).toNat x57) (wr (16 + s51.2))).bind fun x66=>some (Fl.nx (((s51.1.setIfInBounds (s51.2).toNat x57).setIfInBounds ((wr (16 + s51.2))).toNat x63),wr (s51.2 + 1)))) else (some (Fl.ex s51.1))
def X5 (p0 : GCipher) (p1 : (Vector UInt8 32)) (p2 : (Vector UInt8 16)) : Option ((Vector UInt8 32)) :=
 (W2 p1).bind fun r9=>(Xd r9.1 p2).bind fun r16=>(Xd r9.2 p2).bind fun r18=>(Y8 p0 r9.2 r16 p0.Rounds).bind fun r29=>(Xd r29 r16).bind fun r31=>(Y8 p0 r31 r18 p0.Rounds).bind fun r38=>(Xd r38 r18).bind fun r40=>(ZF (XV r31 r40) ((Vector.replicate 32 (0 : UInt8)),0)).bind fun j48=>some j48
theorem KT (w0 : World) (p0 : GCipher) (p1 : (Vector UInt8 32)) (p2 : (Vector UInt8 16)) (r : (Vector UInt8 32)) (hF : X5 p0 p1 p2 = some r) :
  Calls Try.prog 202 [(Value.agg (enc p0).toArray),(Value.agg (enc p1).toArray),(Value.agg (enc p2).toArray)].toArray w0 (Rt w0 (Value.agg (enc r).toArray)):=by
 refine ce Try.func202 ?_
 intro a hE
 have hM:=M.start w0
 unfold X5 at hF
 refine Zb (Z7 (cs:=cat [[vI p0.Field],enc p0.Box,enc p0.Mix,enc p0.Places,[vI p0.Rounds]]) hE hM Za ld rfl rfl fun b1 w a hM hE=>Z7 (cs:=enc p1) hE hM Za ld rfl rfl fun b3 w a hM hE=>Z7 (cs:=enc p2) hE hM Za ld rfl rfl fun b5 w a hM hE=>Zv hE hM Zr fun b7 w a hM hE=>Ze (Zb (Zp hE rfl Zr rfl hM.rawAt2 (Flat.len _) ?_))); intro a hE
 obtain ⟨r9,e10,hF⟩:=bind_some hF
 refine Zy hE rfl (cbm Try.func214) (K7 _ p1 r9 e10) ?_
 rintro v w a ⟨rfl,hK⟩ hE
 have hM:=hM.keep hK
 refine Zd hE rfl fun a hE=>ZZ hE Za ld rfl rfl fun a hE=>ZZ hE Za ld rfl rfl fun a hE=>Zv hE hM ZK fun b11 w a hM hE=>Zv hE hM ZK ?_; intro b13 w a hM hE
 have hM:=hM.pull1
 refine Zk (seg:=enc r9.1) (cs':=enc r9.1) hE hM Za rfl rfl rfl ZK (Flat.len _) (zle flq) (Flat.cell _) (Zh flq) ?_; intro w a hM hE
 have hM:=hM.pull1
 refine Zk (seg:=enc r9.2) (cs':=enc r9.2) hE hM Za rfl rfl rfl ZK (Flat.len _) (zle flq) (Flat.cell _) (Zh flq) fun w a hM hE=>Ze (wp_seq ?_)
 obtain ⟨r16,e17,hF⟩:=bind_some hF
 obtain ⟨r18,e19,hF⟩:=bind_some hF
 refine YV (its:=[raw b13 (enc r9.2),raw b11 (enc r9.1),raw b7 (enc (Vector.replicate 32 (0 : UInt8))),raw b5 (enc p2),raw b3 (enc p1),raw b1 (cat [[vI p0.Field],enc p0.Box,enc p0.Mix,enc p0.Places,[vI p0.Rounds]])]) (mk:=([mkO 6 (fun v=>UM v (enc (Vector.replicate 16 (0 : UInt8)))),mkO 7 (fun v=>UM v (enc (Vector.replicate 16 (0 : UInt8))))] : Mk)) [20,21,22,23,24,25,9,10] Yr rfl rfl (by decide) rfl hE (fun u=>M.qE (M.qE (M.q0 hM.drew u) emO) emO) (qsP (v:=(Value.agg (enc r9.1).toArray)) ?_ (qsP (v:=(Value.agg (enc p2).toArray)) ?_ (qsP (fun z=>ZX z.E Za ld rfl Bo (VH _ r9.1 p2 r16 e17) (kc rfl)) (qsP (v:=(Value.agg (enc r9.2).toArray)) ?_ (qsP (v:=(Value.agg (enc p2).toArray)) ?_ (qsP (fun z=>ZX z.E Za ld rfl Bo (VH _ r9.2 p2 r18 e19) (kc rfl)) (qsM (pr:=fun v=>True) ?_ (qsM (pr:=fun v=>True) ?_ qs0)))))))) ?_
 ·intro a w ux15 D z
  have hE:=z.E
  have hM:=z.M
  exact Zp hE rfl ZK rfl hM.rawAt1 (Flat.len _) fun a hE=>⟨Kept.refl _ _,_,rfl,hE⟩
 ·intro a w ux15 D z
  have hE:=z.E
  have hM:=z.M
  exact Zp hE rfl ZK rfl hM.rawAt3 (Flat.len _) fun a hE=>⟨Kept.refl _ _,_,rfl,hE⟩
 ·intro a w ux15 D z
  have hE:=z.E
  have hM:=z.M
  exact Zp hE rfl ZK rfl hM.rawAt0 (Flat.len _) fun a hE=>⟨Kept.refl _ _,_,rfl,hE⟩
 ·intro a w ux15 D z
  have hE:=z.E
  have hM:=z.M
  exact Zp hE rfl ZK rfl hM.rawAt3 (Flat.len _) fun a hE=>⟨Kept.refl _ _,_,rfl,hE⟩
 ·intro a w ux15 D z
  have hE:=z.E
  have hD : D 6 = false:=z.F
  have hM:=z.M
  refine Zv hE hM ZK ?_; intro b20 w a hM hE
  have hM:=hM.pack1 (it:=UM _ (enc (Vector.replicate 16 (0 : UInt8)))) (fun w w' fp ⟨b',e,k⟩ hb=>⟨b',e,XC w w' fp k hb⟩) (fun fp k=>⟨_,rfl,k⟩)
  exact ⟨_,_,rfl,hE,M.qFill (mk1:=[]) (mk2:=[_]) (f:=fun v=>UM v (enc (Vector.replicate 16 (0 : UInt8)))) hM rfl hD,trivial⟩
 ·intro a w ux15 D z
  have hE:=z.E
  have hD : D 7 = false:=z.F
  have hM:=z.M
  refine Zv hE hM ZK ?_; intro b22 w a hM hE
  have hM:=hM.pack1 (it:=UM _ (enc (Vector.replicate 16 (0 : UInt8)))) (fun w w' fp ⟨b',e,k⟩ hb=>⟨b',e,XC w w' fp k hb⟩) (fun fp k=>⟨_,rfl,k⟩)
  exact ⟨_,_,rfl,hE,M.qFill (mk1:=[_]) (mk2:=[]) (f:=fun v=>UM v (enc (Vector.replicate 16 (0 : UInt8)))) hM rfl hD,trivial⟩
 ·intro a w ux15 D hE hM hG hall
  have d6:=hall 6 (by decide)
  have d7:=hall 7 (by decide)
  have hM:=(hM.sure (pre:=[_,_,_,_,_,_]) d6).pull
  obtain ⟨_,⟨b24,f25,_⟩,_⟩:=hM.head
  have hM:=((hM.pack1 XC (it:=raw b24 (enc (Vector.replicate 16 (0 : UInt8)))) (fun fp ⟨b2,e2,k2⟩=>by rw [f25] at e2; simp [ptr] at e2; subst e2; exact k2)).sure (pre:=[_,_,_,_,_,_,_]) d7).pull
  obtain ⟨_,⟨b26,f27,_⟩,_⟩:=hM.head
  have hM:=hM.pack1 XC (it:=raw b26 (enc (Vector.replicate 16 (0 : UInt8)))) (fun fp ⟨b2,e2,k2⟩=>by rw [f27] at e2; simp [ptr] at e2; subst e2; exact k2)
  have hE:=hE.setq (t:=9) rfl f25
  have hE:=hE.setq (t:=10) rfl f27
  have hM:=hM.pull1
  refine Zk (seg:=enc r16) (cs':=enc r16) hE hM Za rfl rfl rfl ZK (Flat.len _) (zle flq) (Flat.cell _) (Zh flq) ?_; intro w a hM hE
  have hM:=hM.pull1
  refine Zk (seg:=enc r18) (cs':=enc r18) hE hM Za rfl rfl rfl ZK (Flat.len _) (zle flq) (Flat.cell _) (Zh flq) fun w a hM hE=>Zi (Zw (wp_seq ?_))
  obtain ⟨r29,e30,hF⟩:=bind_some hF
  obtain ⟨r31,e32,hF⟩:=bind_some hF
  refine YV (its:=[raw b26 (enc r18),raw b24 (enc r16),raw b13 (enc r9.2),raw b11 (enc r9.1),raw b7 (enc (Vector.replicate 32 (0 : UInt8))),raw b5 (enc p2),raw b3 (enc p1),raw b1 (cat [[vI p0.Field],enc p0.Box,enc p0.Mix,enc p0.Places,[vI p0.Rounds]])]) (mk:=([mkO 8 (fun v=>UM v (enc (Vector.replicate 16 (0 : UInt8))))] : Mk)) [26,27,28,29,30,31,32,33,11] Yr rfl rfl (by decide) rfl hE (fun u=>M.qE (M.q0 hM.drew u) emO) (qsP (v:=(Value.agg (enc p0).toArray)) ?_ (qsP (v:=(Value.agg (enc r9.2).toArray)) ?_ (qsP (v:=(Value.agg (enc r16).toArray)) ?_ (qsP (fun z=>Zo z.E Za ld rfl (AZ) (kr0 rfl)) (qsP (v:=(vI p0.Rounds)) ?_ (qsP (fun z=>ZX z.E Za ld rfl (cbm Try.func92) (Tu _ p0 r9.2 r16 p0.Rounds r29 e30) (kc rfl)) (qsP (v:=(Value.agg (enc r16).toArray)) ?_ (qsP (fun z=>ZX z.E Za ld rfl Bo (VH _ r29 r16 r31 e32) (kc rfl)) (qsM (pr:=fun v=>True) ?_ qs0))))))))) ?_
  ·intro a w ux28 D z
   have hE:=z.E
   have hM:=z.M
   exact Zp hE rfl Tl rfl hM.rawAt7 cq fun a hE=>⟨Kept.refl _ _,_,rfl,hE⟩
  ·intro a w ux28 D z
   have hE:=z.E
   have hM:=z.M
   exact Zp hE rfl ZK rfl hM.rawAt2 (Flat.len _) fun a hE=>⟨Kept.refl _ _,_,rfl,hE⟩
  ·intro a w ux28 D z
   have hE:=z.E
   have hM:=z.M
   exact Zp hE rfl ZK rfl hM.rawAt1 (Flat.len _) fun a hE=>⟨Kept.refl _ _,_,rfl,hE⟩
  ·intro a w ux28 D z
   have hE:=z.E
   have hM:=z.M
   exact ZQ (v:=(vI p0.Rounds)) hE rfl ty2 rfl (At.cat (pre:=[[vI p0.Field],enc p0.Box,enc p0.Mix,enc p0.Places]) hM.rawAt7 ck) fun a hE=>⟨Kept.refl _ _,_,rfl,hE⟩
  ·intro a w ux28 D z
   have hE:=z.E
   have hM:=z.M
   exact Zp hE rfl ZK rfl hM.rawAt1 (Flat.len _) fun a hE=>⟨Kept.refl _ _,_,rfl,hE⟩
  ·intro a w ux28 D z
   have hE:=z.E
   have hD : D 8 = false:=z.F
   have hM:=z.M
   refine Zv hE hM ZK ?_; intro b33 w a hM hE
   have hM:=hM.pack1 (it:=UM _ (enc (Vector.replicate 16 (0 : UInt8)))) (fun w w' fp ⟨b',e,k⟩ hb=>⟨b',e,XC w w' fp k hb⟩) (fun fp k=>⟨_,rfl,k⟩)
   exact ⟨_,_,rfl,hE,M.qFill (mk1:=[]) (mk2:=[]) (f:=fun v=>UM v (enc (Vector.replicate 16 (0 : UInt8)))) hM rfl hD,trivial⟩
  ·intro a w ux28 D hE hM hG hall
   have d8:=hall 8 (by decide)
   have hM:=(hM.sure (pre:=[_,_,_,_,_,_,_,_]) d8).pull
   obtain ⟨_,⟨b35,f36,_⟩,_⟩:=hM.head
   have hM:=hM.pack1 XC (it:=raw b35 (enc (Vector.replicate 16 (0 : UInt8)))) (fun fp ⟨b2,e2,k2⟩=>by rw [f36] at e2; simp [ptr] at e2; subst e2; exact k2)
   have hE:=hE.setq (t:=11) rfl f36
   refine Zk (seg:=enc r31) (cs':=enc r31) hE hM Za rfl rfl rfl ZK (Flat.len _) (zle flq) (Flat.cell _) (Zh flq) fun w a hM hE=>Zi (Zw (wp_seq ?_))
   obtain ⟨r38,e39,hF⟩:=bind_some hF
   obtain ⟨r40,e41,hF⟩:=bind_some hF
   refine YV (its:=[raw b35 (enc r31),raw b26 (enc r18),raw b24 (enc r16),raw b13 (enc r9.2),raw b11 (enc r9.1),raw b7 (enc (Vector.replicate 32 (0 : UInt8))),raw b5 (enc p2),raw b3 (enc p1),raw b1 (cat [[vI p0.Field],enc p0.Box,enc p0.Mix,enc p0.Places,[vI p0.Rounds]])]) (mk:=([mkO 8 (fun v=>UM v (enc (Vector.replicate 16 (0 : UInt8))))] : Mk)) [34,35,36,37,38,39,40,41,12] Yr rfl rfl (by decide) rfl hE (fun u=>M.qE (M.q0 hM.drew u) emO) (qsP (v:=(Value.agg (enc p0).toArray)) ?_ (qsP (v:=(Value.agg (enc r31).toArray)) ?_ (qsP (v:=(Value.agg (enc r18).toArray)) ?_ (qsP (fun z=>Zo z.E Za ld rfl (AZ) (kr0 rfl)) (qsP (v:=(vI p0.Rounds)) ?_ (qsP (fun z=>ZX z.E Za ld rfl (cbm Try.func92) (Tu _ p0 r31 r18 p0.Rounds r38 e39) (kc rfl)) (qsP (v:=(Value.agg (enc r18).toArray)) ?_ (qsP (fun z=>ZX z.E Za ld rfl Bo (VH _ r38 r18 r40 e41) (kc rfl)) (qsM (pr:=fun v=>True) ?_ qs0))))))))) ?_
   ·intro a w ux37 D z
    have hE:=z.E
    have hM:=z.M
    exact Zp hE rfl Tl rfl hM.rawAt8 cq fun a hE=>⟨Kept.refl _ _,_,rfl,hE⟩
   ·intro a w ux37 D z
    have hE:=z.E
    have hM:=z.M
    exact Zp hE rfl ZK rfl hM.rawAt0 (Flat.len _) fun a hE=>⟨Kept.refl _ _,_,rfl,hE⟩
   ·intro a w ux37 D z
    have hE:=z.E
    have hM:=z.M
    exact Zp hE rfl ZK rfl hM.rawAt1 (Flat.len _) fun a hE=>⟨Kept.refl _ _,_,rfl,hE⟩
   ·intro a w ux37 D z
    have hE:=z.E
    have hM:=z.M
    exact ZQ (v:=(vI p0.Rounds)) hE rfl ty2 rfl (At.cat (pre:=[[vI p0.Field],enc p0.Box,enc p0.Mix,enc p0.Places]) hM.rawAt8 ck) fun a hE=>⟨Kept.refl _ _,_,rfl,hE⟩
   ·intro a w ux37 D z
    have hE:=z.E
    have hM:=z.M
    exact Zp hE rfl ZK rfl hM.rawAt1 (Flat.len _) fun a hE=>⟨Kept.refl _ _,_,rfl,hE⟩
   ·intro a w ux37 D z
    have hE:=z.E
    have hD : D 8 = false:=z.F
    have hM:=z.M
    refine Zv hE hM ZK ?_; intro b42 w a hM hE
    have hM:=hM.pack1 (it:=UM _ (enc (Vector.replicate 16 (0 : UInt8)))) (fun w w' fp ⟨b',e,k⟩ hb=>⟨b',e,XC w w' fp k hb⟩) (fun fp k=>⟨_,rfl,k⟩)
    exact ⟨_,_,rfl,hE,M.qFill (mk1:=[]) (mk2:=[]) (f:=fun v=>UM v (enc (Vector.replicate 16 (0 : UInt8)))) hM rfl hD,trivial⟩
   ·intro a w ux37 D hE hM hG hall
    have d8:=hall 8 (by decide)
    have hM:=(hM.sure (pre:=[_,_,_,_,_,_,_,_,_]) d8).pull
    obtain ⟨_,⟨b44,f45,_⟩,_⟩:=hM.head
    have hM:=hM.pack1 XC (it:=raw b44 (enc (Vector.replicate 16 (0 : UInt8)))) (fun fp ⟨b2,e2,k2⟩=>by rw [f45] at e2; simp [ptr] at e2; subst e2; exact k2)
    have hE:=hE.setq (t:=12) rfl f45
    refine Zk (seg:=enc r40) (cs':=enc r40) hE hM Za rfl rfl rfl ZK (Flat.len _) (zle flq) (Flat.cell _) (Zh flq) fun w a hM hE=>Zi (Zw (Zb (Yx (parts:=[]) (vs:=[]) (cs:=enc (Vector.replicate 32 (0 : UInt8))) hE Za ld rfl rfl Zr rfl ty5 Yk fun a hE=>Zv hE hM Zr fun b46 w a hM hE=>Zk (seg:=enc (Vector.replicate 32 (0 : UInt8))) (cs':=enc (Vector.replicate 32 (0 : UInt8))) hE hM Za rfl rfl rfl Zr (Flat.len _) (zle flq) (Flat.cell _) (Zh flq) fun w a hM hE=>Ze (wp_seq (Zb (Zc hE rfl fun a hE=>Ze ?_))))))
    obtain ⟨j48,hl49,hF50⟩:=bind_some hF
    refine ZW (fun a w=>Env 59 a [(6,(ptr b7 0)),(13,(ptr b46 0))] ∧ M (Old w0) w0 w [raw b46 (enc j48),raw b7 (enc (Vector.replicate 32 (0 : UInt8)))]) ?_ ?_
    ·skip
     refine wp_block ?_
     have hM:=M.fst (l:=[_,_,_,_]) hM.pull7.pull3.pull3.pull3
     refine ZM (fun (s51 : (Vector UInt8 32) × Int) a w=>Env 59 a [(6,(ptr b7 0)),(11,(ptr b35 0)),(12,(ptr b44 0)),(13,(ptr b46 0)),(14,vI s51.2)] ∧ M (Old w0) w0 w [raw b46 (enc s51.1),raw b44 (enc r40),raw b35 (enc r31),raw b7 (enc (Vector.replicate 32 (0 : UInt8)))]) hl49 ⟨hE.sub ⟨rfl,rfl,rfl,rfl,rfl,trivial⟩,hM⟩ ?_
     rintro s51 a w ⟨hE,hM⟩ o54 hs52 hx53
     unfold XV at hs52
     refine wp_seq (Zb (Zd hE rfl fun a hE=>Zl hE rfl rfl rfl fun a hE=>Ze ?_))
     refine Zq hE rfl ?_ ?_
     ·intro hb55
      have hs52:=Zt hs52 hb55
      refine wp_skip (Zw (wp_seq (wp_block (Zb (Zd hE rfl fun a hE=>Zd hE rfl ?_))))); intro a hE
      obtain ⟨x57,hi56,hs52⟩:=bvx hs52
      refine ZH hE rfl rfl Try.underlying62 ty5 hi56.1 fun a hE=>ZQ (v:=(vB x57)) hE rfl ty5 rfl (At.vec hM.rawAt2 hi56.2) ?_; intro a hE
      obtain ⟨x60,hi59,hs52⟩:=bvx hs52
      refine ZH hE rfl rfl Try.underlying82 ty5 hi59.1 fun a hE=>Zk (seg:=[vB x57]) (cs':=enc (s51.1.setIfInBounds (s51.2).toNat x57)) hE hM Za rfl rfl rfl ty5 rfl (ZR (v:=s51.1) (x:=x57) hi59.1) (Flat.cell (x57 : UInt8)) (ZE (v:=s51.1) (x:=x57) hi59.1) fun w a hM hE=>Ze (wp_region_lit (Zd hE rfl fun a hE=>Zl hE rfl rfl rfl fun a hE=>Zd hE rfl ?_)); intro a hE
      obtain ⟨x63,hi62,hs52⟩:=bvx hs52
      refine ZH hE rfl rfl Try.underlying62 ty5 hi62.1 fun a hE=>ZQ (v:=(vB x63)) hE rfl ty5 rfl (At.vec hM.rawAt1 hi62.2) ?_; intro a hE
      obtain ⟨x66,hi65,hs52⟩:=bvx hs52
      refine ZH hE rfl rfl Try.underlying82 ty5 hi65.1 fun a hE=>Zk (seg:=[vB x63]) (cs':=enc ((s51.1.setIfInBounds (s51.2).toNat x57).setIfInBounds ((wr (16 + s51.2))).toNat x63)) hE hM Za rfl rfl rfl ty5 rfl (ZR (v:=(s51.1.setIfInBounds (s51.2).toNat x57)) (x:=x63) hi65.1) (Flat.cell (x63 : UInt8)) (ZE (v:=(s51.1.setIfInBounds (s51.2).toNat x57)) (x:=x63) hi65.1) fun w a hM hE=>Zi (Yv (Zw (wp_region_lit (Zd hE rfl fun a hE=>Zl hE rfl rfl rfl fun a hE=>Zc hE rfl fun a hE=>Zi (Zj ?_)))))
      exact ⟨_,(ois hs52),hE.sub ⟨rfl,rfl,rfl,rfl,rfl,trivial⟩,hM⟩
     ·intro hb55
      have hs52:=Zs hs52 hb55
      refine wp_exit (Zn (Zn (Yy ?_)))
      obtain rfl:=hx53 _ (ois hs52)
      refine Zj ?_
      have hM:=M.fst (l:=[_,_]) hM.pull3.pull1
      exact ⟨hE.sub ⟨rfl,rfl,trivial⟩,hM⟩
    ·skip
     rintro a w ⟨hE,hM⟩
     refine Zw (Zb (Zp hE rfl Zr rfl hM.rawAt0 (Flat.len _) ?_)); intro a hE
     have hM:=hM.pull1
     refine Zk (seg:=enc j48) (cs':=enc j48) hE hM Za rfl rfl rfl Zr (Flat.len _) (zle flq) (Flat.cell _) (Zh flq) fun w a hM hE=>Ze ?_
     obtain rfl:=Option.some.inj hF50
     have hq69 : Z6 Try.prog _ _ (.cell 6 82) _:=ZD hE rfl Zr rfl hM.rawAt0 (Flat.len _) rfl
     exact wp_ret (ZU hE rfl hq69 ⟨_,rfl,rfl,hM.kept⟩)
def VI (p0 : GCipher) (r8 : (List (Vector UInt8 16))) (s18 : (Vector UInt8 32) × Int) : Option (Fl ((Vector UInt8 32) × Int) (Vector UInt8 32)) :=
 if (decide (s18.2 < (r8.length : Int))) = true then ((idx r8 s18.2).bind fun x24=>(X5 p0 s18.1 x24).bind fun r27=>some (Fl.nx (r27,wr (s18.2 + 1)))) else (some (Fl.ex s18.1))
def Uz (p0 : GCipher) (p1 : (List UInt8)) : Option ((Vector UInt8 32)) :=
 (Uh p1).bind fun r5=>(W4 r5).bind fun r8=>(Vw).bind fun r11=>(ZF (VI p0 r8) (r11,0)).bind fun j15=>some j15
theorem BP (w0 : World) (p0 : GCipher) (p1 : (List UInt8)) (v1_1 : Value) (hv1_1 : Ro w0 p1 [v1_1]) (r : (Vector UInt8 32)) (hF : Uz p0 p1 = some r) :
  Calls Try.prog 172 [(Value.agg (enc p0).toArray),v1_1].toArray w0 (Rt w0 (Value.agg (enc r).toArray)):=by
 refine ce Try.func172 ?_
 intro a hE
 have hM:=M.start w0
 unfold Uz at hF
 refine Zb (Z7 (cs:=cat [[vI p0.Field],enc p0.Box,enc p0.Mix,enc p0.Places,[vI p0.Rounds]]) hE hM Za ld rfl rfl fun b1 w a hM hE=>Zv hE hM Zr fun b3 w a hM hE=>Ze (Zb (Zd hE rfl ?_))); intro a hE
 obtain ⟨r5,e6,hF⟩:=bind_some hF
 refine Zy hE rfl (cbm Try.func200) (HL _ p1 v1_1 (hM.rdo hv1_1) r5 e6) ?_
 rintro u7 w a ⟨_,rfl,hFr,hK⟩ hE
 have hM:=hM.add hK hFr
 obtain ⟨r8,e9,hF⟩:=bind_some hF
 refine Zy hE rfl (cbm Try.func199) (Jc _ r5 u7 (hM.sl (pre:=[]) noB) r8 e9) ?_
 rintro u10 w a ⟨_,rfl,hFr,hK⟩ hE
 have hM:=hM.add hK hFr
 obtain ⟨r11,e12,hF⟩:=bind_some hF
 refine Zy hE rfl (cbm Try.func201) (JA _  r11 e12) ?_
 rintro v w a ⟨rfl,hK⟩ hE
 have hM:=hM.keep hK
 refine Zv hE hM Zr fun b13 w a hM hE=>Zc hE rfl fun a hE=>Zk (seg:=enc r11) (cs':=enc r11) hE hM Za rfl rfl rfl Zr (Flat.len _) (zle flq) (Flat.cell _) (Zh flq) fun w a hM hE=>Ze (wp_seq (Zb (Zc hE rfl fun a hE=>Ze ?_)))
 obtain ⟨j15,hl16,hF17⟩:=bind_some hF
 refine ZW (fun a w=>Env 26 a [(4,(ptr b3 0)),(6,(ptr b13 0))] ∧ M (Old w0) w0 w [raw b13 (enc j15),raw b3 (enc (Vector.replicate 32 (0 : UInt8)))]) ?_ ?_
 ·skip
  refine wp_block ?_
  have hM:=M.fst (l:=[_,_,_,_]) hM.pull4.pull4.pull3.pull3
  refine ZM (fun (s18 : (Vector UInt8 32) × Int) a w=>Env 26 a [(2,(ptr b1 0)),(4,(ptr b3 0)),(5,u10),(6,(ptr b13 0)),(7,vI s18.2)] ∧ M (Old w0) w0 w [raw b13 (enc s18.1),osl NoB (r8 : List (Vector UInt8 16)) u10,raw b3 (enc (Vector.replicate 32 (0 : UInt8))),raw b1 (cat [[vI p0.Field],enc p0.Box,enc p0.Mix,enc p0.Places,[vI p0.Rounds]])]) hl16 ⟨hE.sub ⟨rfl,rfl,rfl,rfl,rfl,trivial⟩,hM⟩ ?_
  rintro s18 a w ⟨hE,hM⟩ o21 hs19 hx20
  unfold VI at hs19
  refine wp_seq (Zb (Zd hE rfl fun a hE=>Zd hE rfl fun a hE=>Yq hE rfl Try.underlying136 (hM.sl (pre:=[_]) noB) fun a hE=>Zl hE rfl rfl rfl fun a hE=>Ze ?_))
  refine Zq hE rfl ?_ ?_
  ·intro hb22
   have hs19:=Zt hs19 hb22
   refine wp_skip (Zw (wp_seq (wp_block ?_)))
   obtain ⟨x24,hi26,hs19⟩:=bix hs19
   obtain ⟨r27,e28,hs19⟩:=bind_some hs19
   refine ZP [18,19,20,21,22,23,24] Yr rfl rfl (by decide) rfl hE hM (qsP (fun z=>ZA z.E Za ld rfl Tl rfl (z.M.rawAt3) cq (kr0 rfl)) (qsP (fun z=>ZA z.E Za ld rfl Zr rfl (z.M.rawAt0) (Flat.len _) (kr0 rfl)) (qsP (fun z=>Zg z.E Za ld rfl (kr0 rfl)) (qsP (fun z=>Zg z.E Za ld rfl (kr0 rfl)) (qsP (fun z=>Yi z.E Za ld rfl rfl Try.underlying136 ZK (z.M.sl (pre:=[_]) noB) hi26.1 (kr0 rfl)) (qsP (fun z=>ZA z.E Za ld rfl ZK rfl (YA (z.M.sl (pre:=[_]) noB) hi26.2) (Flat.len _) (kr0 rfl)) (qsP (fun z=>ZX z.E Za ld rfl (cbm Try.func202) (KT _ p0 s18.1 x24 r27 e28) (kc rfl)) qs0))))))) ?_
   ·intro a w u hE hM
    refine Zk (seg:=enc r27) (cs':=enc r27) hE hM Za rfl rfl rfl Zr (Flat.len _) (zle flq) (Flat.cell _) (Zh flq) fun w a hM hE=>Zi (Yv (Zw (wp_region_lit (Zd hE rfl fun a hE=>Zl hE rfl rfl rfl fun a hE=>Zc hE rfl fun a hE=>Zi (Zj ?_)))))
    exact ⟨_,(ois hs19),hE.sub ⟨rfl,rfl,rfl,rfl,rfl,trivial⟩,hM⟩
  ·intro hb22
   have hs19:=Zs hs19 hb22
   refine wp_exit (Zn (Zn (Yy ?_)))
   obtain rfl:=hx20 _ (ois hs19)
   refine Zj ?_
   have hM:=M.fst (l:=[_,_]) hM.pull2.pull1
   exact ⟨hE.sub ⟨rfl,rfl,trivial⟩,hM⟩
 ·skip
  rintro a w ⟨hE,hM⟩
  refine Zw (Zb (Zp hE rfl Zr rfl hM.rawAt0 (Flat.len _) ?_)); intro a hE
  have hM:=hM.pull1
  refine Zk (seg:=enc j15) (cs':=enc j15) hE hM Za rfl rfl rfl Zr (Flat.len _) (zle flq) (Flat.cell _) (Zh flq) fun w a hM hE=>Ze ?_
  obtain rfl:=Option.some.inj hF17
  have hq30 : Z6 Try.prog _ _ (.cell 4 82) _:=ZD hE rfl Zr rfl hM.rawAt0 (Flat.len _) rfl
  exact wp_ret (ZU hE rfl hq30 ⟨_,rfl,rfl,hM.kept⟩)
def Xx (p0 : (List UInt8)) : Option ((Vector UInt8 32)) :=
 (Vy 8).bind fun r3=>(Uz r3 p0).bind fun r5=>some r5
theorem UR (w0 : World) (p0 : (List UInt8)) (v0_1 : Value) (hv0_1 : Ro w0 p0 [v0_1]) (r : (Vector UInt8 32)) (hF : Xx p0 = some r) :
  Calls Try.prog 116 [v0_1].toArray w0 (Rt w0 (Value.agg (enc r).toArray)):=by
 refine ce Try.func116 ?_
 intro a hE
 have hM:=M.start w0
 unfold Xx at hF
 refine Zb (Zv hE hM Zr fun b1 w a hM hE=>Ze (Zb ?_))
 obtain ⟨r3,e4,hF⟩:=bind_some hF
 refine Zy hE rfl (cbm Try.func141) (JD _ 8 r3 e4) ?_
 rintro v w a ⟨rfl,hK⟩ hE
 have hM:=hM.keep hK
 refine Zd hE rfl ?_; intro a hE
 obtain ⟨r5,e6,hF⟩:=bind_some hF
 refine Zy hE rfl (cbm Try.func172) (BP _ r3 p0 v0_1 (hM.rdo hv0_1) r5 e6) ?_
 rintro v w a ⟨rfl,hK⟩ hE
 have hM:=hM.keep hK
 refine Zk (seg:=enc r5) (cs':=enc r5) hE hM Za rfl rfl rfl Zr (Flat.len _) (zle flq) (Flat.cell _) (Zh flq) fun w a hM hE=>Ze ?_
 obtain rfl:=Option.some.inj hF
 have hq7 : Z6 Try.prog _ _ (.cell 2 82) _:=ZD hE rfl Zr rfl hM.rawAt0 (Flat.len _) rfl
 exact wp_ret (ZU hE rfl hq7 ⟨_,rfl,rfl,hM.kept⟩)
def Wo (p0 : (Vector UInt8 32)) (p1 : (Vector UInt8 32)) : Option ((Vector UInt8 32)) :=
 (slc p0.toList (0 : Int) (32 : Int)).bind fun l9=>(app 1 ([1] : List UInt8) l9).bind fun l12=>(slc p1.toList (0 : Int) (32 : Int)).bind fun l17=>(app 1 (([1] : List UInt8) ++ l9) l17).bind fun l20=>(Xx ((([1] : List UInt8) ++ l9) ++ l17)).bind fun r25=>some r25
theorem Tv (w0 : World) (p0 : (Vector UInt8 32)) (p1 : (Vector UInt8 32)) (r : (Vector UInt8 32)) (hF : Wo p0 p1 = some r) :
  Calls Try.prog 169 [(Value.agg (enc p0).toArray),(Value.agg (enc p1).toArray)].toArray w0 (Rt w0 (Value.agg (enc r).toArray)):=by
 refine ce Try.func169 ?_
 intro a hE
 have hM:=M.start w0
 unfold Wo at hF
 refine Zb (Z7 (cs:=enc p0) hE hM Za ld rfl rfl fun b1 w a hM hE=>Z7 (cs:=enc p1) hE hM Za ld rfl rfl fun b3 w a hM hE=>Zv hE hM Zr fun b5 w a hM hE=>Ze (Zb (Z3 (xs:=[.const (vB 1)]) (l:=([1] : List UInt8)) (vs:=[vB 1]) hE hM Za ld rfl rfl Try.underlying22 ty5 rfl (by decide) rfl ?_))); intro u7 w a hM hE
 obtain ⟨l9,e10,hF⟩:=bind_some hF
 have hb11:=UB e10 -- ^
 refine Wn (N:=32) hE Za ld rfl rfl rfl rfl rfl Try.underlying82 ty5 hb11 ?_; intro a hE
 obtain ⟨l12,e13,hF⟩:=bind_some hF
 obtain ⟨e16,rfl⟩:=Yn e13
 refine Yf hE hM Za ld rfl rfl (Yg (At.sat hM.rawAt3 (by simp) (by decide)) e10) Try.underlying22 ty5 rfl (by decide) e16 fun u14 w a hM hE=>Zc hE rfl fun a hE=>Ze (Zb (Zd hE rfl ?_)); intro a hE
 obtain ⟨l17,e18,hF⟩:=bind_some hF
 have hb19:=UB e18 -- ^
 refine Wn (N:=32) hE Za ld rfl rfl rfl rfl rfl Try.underlying82 ty5 hb19 ?_; intro a hE
 obtain ⟨l20,e21,hF⟩:=bind_some hF
 obtain ⟨e24,rfl⟩:=Yn e21
 refine Yf hE hM Za ld rfl rfl (Yg (At.sat hM.rawAt2 (by simp) (by decide)) e18) Try.underlying22 ty5 rfl (by decide) e24 ?_; intro u22 w a hM hE
 obtain ⟨r25,e26,hF⟩:=bind_some hF
 refine Zy hE rfl jj (UR _ ((([1] : List UInt8) ++ l9) ++ l17) u22 (hM.sl (pre:=[]) noB) r25 e26) ?_
 rintro v w a ⟨rfl,hK⟩ hE
 have hM:=(hM.keep hK).pull1
 refine Zk (seg:=enc r25) (cs':=enc r25) hE hM Za rfl rfl rfl Zr (Flat.len _) (zle flq) (Flat.cell _) (Zh flq) fun w a hM hE=>Ze ?_
 obtain rfl:=Option.some.inj hF
 have hq27 : Z6 Try.prog _ _ (.cell 4 82) _:=ZD hE rfl Zr rfl hM.rawAt0 (Flat.len _) rfl
 exact wp_ret (ZU hE rfl hq27 ⟨_,rfl,rfl,hM.kept⟩)
def Yc : Nat → (List (Vector UInt8 32)) → Option ((Vector UInt8 32))
 | 0,_=>none
 | fu + 1,p0=>if ((p0.length : Int) == 0) = true then ((Xx ([] : (List UInt8))).bind fun r4=>some r4) else (if ((p0.length : Int) == 1) = true then ((idx p0 (0 : Int)).bind fun x8=>some x8) else ((YI (p0.length : Int)).bind fun r12=>((slc p0 (0 : Int) r12).bind fun l18=>(Yc fu l18).bind fun r21=>(slc p0 r12 (p0.length : Int)).bind fun l23=>(Yc fu l23).bind fun r26=>(Wo r21 r26).bind fun r28=>some r28 : Option ((Vector UInt8 32))).bind fun j14=>some j14))
theorem Wj : ∀ (fu : Nat) (w0 : World) (p0 : (List (Vector UInt8 32))) (v0_1 : Value) (hv0_1 : Ro w0 p0 [v0_1]) (r : (Vector UInt8 32)) (hF : Yc fu p0 = some r),
  Calls Try.prog 113 [v0_1].toArray w0 (Rt w0 (Value.agg (enc r).toArray)):=by
 intro fu
 induction fu with
 | zero=>intros; rename_i hF; unfold Yc at hF; cases hF
 | succ fu ih =>
 have Wj:=fun (_ : Nat)=>ih
 intro w0 p0 v0_1 hv0_1 r hF
 refine ce Try.func113 ?_
 intro a hE
 have hM:=M.start w0
 unfold Yc at hF
 refine Zb (Zv hE hM Zr fun b1 w a hM hE=>Ze (wp_seq (Zb (Zd hE rfl fun a hE=>Yq hE rfl Try.underlying80 (hM.rd hv0_1) fun a hE=>Ze (wp_block (Zb (Zl hE rfl rfl rfl fun a hE=>Zc hE rfl fun a hE=>Ze ?_)))))))
 refine Zq hE rfl ?_ ?_
 ·intro hb3
  have hF:=Zt hF hb3
  refine Zb ?_
  obtain ⟨r4,e5,hF⟩:=bind_some hF
  refine Zy hE rfl jj (UR _ ([] : (List UInt8)) (Value.slice none 0 0) J3 r4 e5) ?_
  rintro v w a ⟨rfl,hK⟩ hE
  have hM:=hM.keep hK
  refine Zk (seg:=enc r4) (cs':=enc r4) hE hM Za rfl rfl rfl Zr (Flat.len _) (zle flq) (Flat.cell _) (Zh flq) fun w a hM hE=>Ze ?_
  obtain rfl:=Option.some.inj hF
  have hq6 : Z6 Try.prog _ _ (.cell 2 82) _:=ZD hE rfl Zr rfl hM.rawAt0 (Flat.len _) rfl
  exact wp_ret (Vj (ZL (ZU hE rfl hq6 ⟨_,rfl,rfl,hM.kept⟩)))
 ·intro hb3
  have hF:=Zs hF hb3
  refine Zb (Zl hE rfl rfl rfl fun a hE=>Zc hE rfl fun a hE=>Ze ?_)
  refine Zq hE rfl ?_ ?_
  ·intro hb7
   have hF:=Zt hF hb7
   refine Zb (Zd hE rfl ?_); intro a hE
   obtain ⟨x8,hi10,hF⟩:=bix hF
   refine Wx hE rfl rfl Try.underlying80 Zr (hM.rd hv0_1) hi10.1 fun a hE=>Zp hE rfl Zr rfl (YA (hM.rd hv0_1) hi10.2) (Flat.len _) fun a hE=>Zk (seg:=enc x8) (cs':=enc x8) hE hM Za rfl rfl rfl Zr (Flat.len _) (zle flq) (Flat.cell _) (Zh flq) fun w a hM hE=>Ze ?_
   obtain rfl:=Option.some.inj hF
   have hq11 : Z6 Try.prog _ _ (.cell 2 82) _:=ZD hE rfl Zr rfl hM.rawAt0 (Flat.len _) rfl
   exact wp_ret (Vj (ZL (ZU hE rfl hq11 ⟨_,rfl,rfl,hM.kept⟩)))
  ·intro hb7
   have hF:=Zs hF hb7
   refine wp_skip (Yv (Zw (Zb (Zd hE rfl fun a hE=>Yq hE rfl Try.underlying80 (hM.rd hv0_1) ?_)))); intro a hE
   obtain ⟨r12,e13,hF⟩:=bind_some hF
   refine Zy hE rfl yO (Tm _ (p0.length : Int) r12 e13) ?_
   rintro v w a ⟨rfl,hK⟩ hE
   have hM:=hM.keep hK
   refine Zc hE rfl fun a hE=>Ze ?_
   obtain ⟨j14,hl15,hF16⟩:=bind_some hF
   refine ZB (fun a w=>Env 26 a [(2,(ptr b1 0))] ∧ M (Old w0) w0 w [raw b1 (enc j14)]) ?_ ?_
   ·skip
    obtain ⟨l18,e19,hl15⟩:=bind_some hl15
    have h20 : Rep.sat (Old w0) w0 l18 [(ZO v0_1 ((0 : Int)).toNat (r12).toNat 32)] []:=Yg hv0_1 e19 -- ^
    obtain ⟨r21,e22,hl15⟩:=bind_some hl15
    obtain ⟨l23,e24,hl15⟩:=bind_some hl15
    have h25 : Rep.sat (Old w0) w0 l23 [(ZO v0_1 (r12).toNat ((p0.length : Int)).toNat 32)] []:=Yg hv0_1 e24 -- ^
    obtain ⟨r26,e27,hl15⟩:=bind_some hl15
    obtain ⟨r28,e29,hl15⟩:=bind_some hl15
    refine ZP [17,18,19,20,21,22,23,24,25] Yr rfl rfl (by decide) rfl hE hM (qsP (fun z=>Zg z.E Za ld rfl (kr0 rfl)) (qsP (fun z=>Zg z.E Za ld rfl (kr0 rfl)) (qsP (fun z=>WK z.E Za ld rfl rfl (XR rfl) rfl rfl Try.underlying80 Zr (z.M.rd hv0_1) e19 (kr0 rfl)) (qsP (fun z=>ZX z.E Za ld rfl H4 (Wj fu _ l18 (ZO v0_1 ((0 : Int)).toNat (r12).toNat 32) (z.M.rdo h20) r21 e22) (kc rfl)) (qsP (fun z=>Zg z.E Za ld rfl (kr0 rfl)) (qsP (fun z=>Zg z.E Za ld rfl (kr0 rfl)) (qsP (fun z=>WK z.E Za ld rfl (XR rfl) rfl rfl rfl Try.underlying80 Zr (z.M.rd hv0_1) e24 (kr0 rfl)) (qsP (fun z=>ZX z.E Za ld rfl H4 (Wj fu _ l23 (ZO v0_1 (r12).toNat ((p0.length : Int)).toNat 32) (z.M.rdo h25) r26 e27) (kc rfl)) (qsP (fun z=>ZX z.E Za ld rfl jl (Tv _ r21 r26 r28 e29) (kc rfl)) qs0))))))))) ?_
    ·intro a w u hE hM
     refine Zk (seg:=enc r28) (cs':=enc r28) hE hM Za rfl rfl rfl Zr (Flat.len _) (zle flq) (Flat.cell _) (Zh flq) fun w a hM hE=>Zi ?_
     obtain rfl:=Option.some.inj hl15
     refine Zj ?_
     exact ⟨hE.sub ⟨rfl,trivial⟩,hM⟩
   ·skip
    rintro a w ⟨hE,hM⟩
    obtain rfl:=Option.some.inj hF16
    have hq31 : Z6 Try.prog _ _ (.cell 2 82) _:=ZD hE rfl Zr rfl hM.rawAt0 (Flat.len _) rfl
    exact wp_ret (ZU hE rfl hq31 ⟨_,rfl,rfl,hM.kept⟩)
def Z4 : Nat → (List (Vector UInt8 32)) → Int → Option ((List (Vector UInt8 32)))
 | 0,_,_=>none
 | fu + 1,p0,p1=>if ((p0.length : Int) == 1) = true then (some ([])) else ((YI (p0.length : Int)).bind fun r3=>if (decide (p1 < r3)) = true then (((slc p0 (0 : Int) r3).bind fun l12=>(Z4 fu l12 p1).bind fun r15=>(slc p0 r3 (p0.length : Int)).bind fun l18=>(Yc 64 l18).bind fun r21=>(app 32 r15 ([r21] : List (Vector UInt8 32))).bind fun l25=>some (r15 ++ ([r21] : List (Vector UInt8 32))) : Option ((List (Vector UInt8 32)))).bind fun j6=>some j6) else (((slc p0 r3 (p0.length : Int)).bind fun l37=>(Z4 fu l37 (wr (p1 - r3))).bind fun r40=>(slc p0 (0 : Int) r3).bind fun l43=>(Yc 64 l43).bind fun r46=>(app 32 r40 ([r46] : List (Vector UInt8 32))).bind fun l50=>some (r40 ++ ([r46] : List (Vector UInt8 32))) : Option ((List (Vector UInt8 32)))).bind fun j31=>some j31))
theorem Un : ∀ (fu : Nat) (w0 : World) (p0 : (List (Vector UInt8 32))) (v0_1 : Value) (hv0_1 : Ro w0 p0 [v0_1]) (p1 : Int) (r : (List (Vector UInt8 32))) (hF : Z4 fu p0 p1 = some r),
  Calls Try.prog 111 [v0_1,vI p1].toArray w0 (fun en w'=>∃ v,en = .returned v ∧ (∃ (y1 : Value),v = y1 ∧ Fr w0 w' [osl NoB (r : List (Vector UInt8 32)) y1] ∧ Kept (Old w0) w0 w')):=by
 intro fu
 induction fu with
 | zero=>intros; rename_i hF; unfold Z4 at hF; cases hF
 | succ fu ih =>
 have Un:=fun (_ : Nat)=>ih
 intro w0 p0 v0_1 hv0_1 p1 r hF
 refine ce Try.func111 ?_
 intro a hE
 have hM:=M.start w0
 unfold Z4 at hF
 refine Zb (Zc hE rfl fun a hE=>Ze (wp_seq (Zb (Zd hE rfl fun a hE=>Yq hE rfl Try.underlying80 (hM.rd hv0_1) fun a hE=>Zl hE rfl rfl rfl fun a hE=>Ze ?_))))
 refine Zq hE rfl ?_ ?_
 ·intro hb1
  have hF:=Zt hF hb1
  refine Zb (Zc hE rfl fun a hE=>Ze ?_)
  have hM:=M.nilS (α:=(Vector UInt8 32)) NoB noB hM
  obtain rfl:=Option.some.inj hF
  exact wp_ret (ZL (ZU hE rfl (ZV hE rfl) ⟨_,rfl,(Value.slice none 0 0),rfl,hM.outF (X2 Wy),hM.kept⟩))
 ·intro hb1
  have hF:=Zs hF hb1
  refine wp_skip (Zw (Zb (Zd hE rfl fun a hE=>Yq hE rfl Try.underlying80 (hM.rd hv0_1) ?_))); intro a hE
  obtain ⟨r3,e4,hF⟩:=bind_some hF
  refine Zy hE rfl yO (Tm _ (p0.length : Int) r3 e4) ?_
  rintro v w a ⟨rfl,hK⟩ hE
  have hM:=hM.keep hK
  refine Zc hE rfl fun a hE=>Ze (wp_seq (Zb (Zd hE rfl fun a hE=>Zd hE rfl fun a hE=>Zl hE rfl rfl rfl fun a hE=>Ze ?_)))
  refine Zq hE rfl ?_ ?_
  ·intro hb5
   have hF:=Zt hF hb5
   obtain ⟨j6,hl7,hF8⟩:=bind_some hF
   refine ZB (fun a w=>∃ (u9 : Value),Env 39 a [(4,u9)] ∧ M (Old w0) w0 w [osl NoB (j6 : List (Vector UInt8 32)) u9]) ?_ ?_
   ·skip
    obtain ⟨l12,e13,hl7⟩:=bind_some hl7
    have h14 : Rep.sat (Old w0) w0 l12 [(ZO v0_1 ((0 : Int)).toNat (r3).toNat 32)] []:=Yg hv0_1 e13 -- ^
    obtain ⟨r15,e16,hl7⟩:=bind_some hl7
    obtain ⟨l18,e19,hl7⟩:=bind_some hl7
    have h20 : Rep.sat (Old w0) w0 l18 [(ZO v0_1 (r3).toNat ((p0.length : Int)).toNat 32)] []:=Yg hv0_1 e19 -- ^
    refine YV (its:=[]) (mk:=([mkO 4 (fun v=>osl NoB (r15 : List (Vector UInt8 32)) v)] : Mk)) [15,16,17,18,19,20,21,22] Yr rfl rfl (by decide) rfl hE (fun u=>M.qE (M.q0 hM.drew u) emO) (qsP (fun z=>Zg z.E Za ld rfl (kr0 rfl)) (qsP (fun z=>Zg z.E Za ld rfl (kr0 rfl)) (qsP (v:=(ZO v0_1 ((0 : Int)).toNat (r3).toNat 32)) ?_ (qsP (fun z=>Zg z.E Za ld rfl (kr0 rfl)) (qsM (pr:=fun v=>True) ?_ (qsP (fun z=>Zg z.E Za ld rfl (kr0 rfl)) (qsP (fun z=>Zg z.E Za ld rfl (kr0 rfl)) (qsP (v:=(ZO v0_1 (r3).toNat ((p0.length : Int)).toNat 32)) ?_ qs0)))))))) ?_
    ·intro a w ux11 D z
     have hE:=z.E
     have hM:=z.M
     exact WK hE Za ld rfl rfl (XR rfl) rfl rfl Try.underlying80 Zr (hM.rd hv0_1) e13 fun a hE=>⟨Kept.refl _ _,_,rfl,hE⟩
    ·intro a w ux11 D z
     have hE:=z.E
     have hD : D 4 = false:=z.F
     have hM0:=z.M
     have hM:=z.M
     refine Zy hE rfl yS (Un fu _ l12 (ZO v0_1 ((0 : Int)).toNat (r3).toNat 32) (hM.rdo h14) p1 r15 e16) ?_
     rintro _ w a ⟨_,rfl,hFr,hK⟩ hE
     have hM:=hM0.add hK hFr
     exact ⟨_,_,rfl,hE,M.qFill (mk1:=[]) (mk2:=[]) (f:=(fun v=>osl NoB (r15 : List (Vector UInt8 32)) v)) hM rfl hD,trivial⟩
    ·intro a w ux11 D z
     have hE:=z.E
     have hM:=z.M
     exact WK hE Za ld rfl (XR rfl) rfl rfl rfl Try.underlying80 Zr (hM.rd hv0_1) e19 fun a hE=>⟨Kept.refl _ _,_,rfl,hE⟩
    ·intro a w ux11 D hE hM hG hall
     have d4:=hall 4 (by decide)
     have hM:=hM.sure (pre:=[]) d4
     obtain ⟨r21,e22,hl7⟩:=bind_some hl7
     refine Zy hE rfl H4 (Wj 64 _ l18 (ZO v0_1 (r3).toNat ((p0.length : Int)).toNat 32) (hM.rdo h20) r21 e22) ?_
     rintro v w a ⟨rfl,hK⟩ hE
     have hM:=hM.keep hK
     refine Z3 (xs:=[.tmp 23]) (l:=([r21] : List (Vector UInt8 32))) (vs:=[(Value.agg (enc r21).toArray)]) hE hM Za ld rfl rfl Try.underlying80 Zr rfl (by decide) rfl ?_; intro u23 w a hM hE
     obtain ⟨l25,e26,hl7⟩:=bind_some hl7
     obtain ⟨e29,rfl⟩:=Yn e26
     have hM:=hM.pull1
     refine Yf hE hM Za ld rfl rfl (hM.sl (pre:=[_]) noB) Try.underlying80 Zr rfl (by decide) e29 fun u27 w a hM hE=>Zc hE rfl fun a hE=>Zi ?_
     obtain rfl:=Option.some.inj hl7
     refine Zj ?_
     have hM:=M.fst (l:=[_]) hM
     exact ⟨u27,hE.sub ⟨rfl,trivial⟩,hM⟩
   ·skip
    rintro a w ⟨u9,hE,hM⟩
    obtain rfl:=Option.some.inj hF8
    exact wp_ret (ZL (ZU hE rfl (ZV hE rfl) ⟨_,rfl,u9,rfl,hM.outF (X2 Wy),hM.kept⟩))
  ·intro hb5
   have hF:=Zs hF hb5
   refine wp_skip (Zw ?_)
   obtain ⟨j31,hl32,hF33⟩:=bind_some hF
   refine ZB (fun a w=>∃ (u34 : Value),Env 39 a [(4,u34)] ∧ M (Old w0) w0 w [osl NoB (j31 : List (Vector UInt8 32)) u34]) ?_ ?_
   ·skip
    obtain ⟨l37,e38,hl32⟩:=bind_some hl32
    have h39 : Rep.sat (Old w0) w0 l37 [(ZO v0_1 (r3).toNat ((p0.length : Int)).toNat 32)] []:=Yg hv0_1 e38 -- ^
    obtain ⟨r40,e41,hl32⟩:=bind_some hl32
    obtain ⟨l43,e44,hl32⟩:=bind_some hl32
    have h45 : Rep.sat (Old w0) w0 l43 [(ZO v0_1 ((0 : Int)).toNat (r3).toNat 32)] []:=Yg hv0_1 e44 -- ^
    refine YV (its:=[]) (mk:=([mkO 6 (fun v=>osl NoB (r40 : List (Vector UInt8 32)) v)] : Mk)) [26,27,28,29,30,31,32,33,34,35] Yr rfl rfl (by decide) rfl hE (fun u=>M.qE (M.q0 hM.drew u) emO) (qsP (fun z=>Zg z.E Za ld rfl (kr0 rfl)) (qsP (fun z=>Zg z.E Za ld rfl (kr0 rfl)) (qsP (v:=(ZO v0_1 (r3).toNat ((p0.length : Int)).toNat 32)) ?_ (qsP (fun z=>Zg z.E Za ld rfl (kr0 rfl)) (qsP (fun z=>Zg z.E Za ld rfl (kr0 rfl)) (qsP (v:=(vI (wr (p1 - r3)))) (fun z=>Z1 z.E Za ld rfl rfl rfl (kr0 rfl)) (qsM (pr:=fun v=>True) ?_ (qsP (fun z=>Zg z.E Za ld rfl (kr0 rfl)) (qsP (fun z=>Zg z.E Za ld rfl (kr0 rfl)) (qsP (v:=(ZO v0_1 ((0 : Int)).toNat (r3).toNat 32)) ?_ qs0)))))))))) ?_
    ·intro a w ux36 D z
     have hE:=z.E
     have hM:=z.M
     exact WK hE Za ld rfl (XR rfl) rfl rfl rfl Try.underlying80 Zr (hM.rd hv0_1) e38 fun a hE=>⟨Kept.refl _ _,_,rfl,hE⟩
    ·intro a w ux36 D z
     have hE:=z.E
     have hD : D 6 = false:=z.F
     have hM0:=z.M
     have hM:=z.M
     refine Zy hE rfl yS (Un fu _ l37 (ZO v0_1 (r3).toNat ((p0.length : Int)).toNat 32) (hM.rdo h39) (wr (p1 - r3)) r40 e41) ?_
     rintro _ w a ⟨_,rfl,hFr,hK⟩ hE
     have hM:=hM0.add hK hFr
     exact ⟨_,_,rfl,hE,M.qFill (mk1:=[]) (mk2:=[]) (f:=(fun v=>osl NoB (r40 : List (Vector UInt8 32)) v)) hM rfl hD,trivial⟩
    ·intro a w ux36 D z
     have hE:=z.E
     have hM:=z.M
     exact WK hE Za ld rfl rfl (XR rfl) rfl rfl Try.underlying80 Zr (hM.rd hv0_1) e44 fun a hE=>⟨Kept.refl _ _,_,rfl,hE⟩
    ·intro a w ux36 D hE hM hG hall
     have d6:=hall 6 (by decide)
     have hM:=hM.sure (pre:=[]) d6
     obtain ⟨r46,e47,hl32⟩:=bind_some hl32
     refine Zy hE rfl H4 (Wj 64 _ l43 (ZO v0_1 ((0 : Int)).toNat (r3).toNat 32) (hM.rdo h45) r46 e47) ?_
     rintro v w a ⟨rfl,hK⟩ hE
     have hM:=hM.keep hK
     refine Z3 (xs:=[.tmp 36]) (l:=([r46] : List (Vector UInt8 32))) (vs:=[(Value.agg (enc r46).toArray)]) hE hM Za ld rfl rfl Try.underlying80 Zr rfl (by decide) rfl ?_; intro u48 w a hM hE
     obtain ⟨l50,e51,hl32⟩:=bind_some hl32
     obtain ⟨e54,rfl⟩:=Yn e51
     have hM:=hM.pull1
     refine Yf hE hM Za ld rfl rfl (hM.sl (pre:=[_]) noB) Try.underlying80 Zr rfl (by decide) e54 fun u52 w a hM hE=>Zc hE rfl fun a hE=>Zi ?_
     obtain rfl:=Option.some.inj hl32
     refine Zj ?_
     have hM:=M.fst (l:=[_]) hM
     exact ⟨u52,hE.sub ⟨rfl,trivial⟩,hM⟩
   ·skip
    rintro a w ⟨u34,hE,hM⟩
    obtain rfl:=Option.some.inj hF33
    exact wp_ret (ZU hE rfl (ZV hE rfl) ⟨_,rfl,u34,rfl,hM.outF (X2 Wy),hM.kept⟩)
def Xg (p0 : (List (Vector UInt8 32))) (r17 : Int) (s42 : (List (Vector UInt8 32)) × (List (List (Vector UInt8 32))) × Int) : Option (Fl ((List (Vector UInt8 32)) × (List (List (Vector UInt8 32))) × Int) ((List (Vector UInt8 32)) × (List (List (Vector UInt8 32))))) :=
 (if (decide (s42.2.2 ≤ r17)) = true then (some (decide (s42.2.2 < (p0.length : Int)))) else (some false) : Option (Bool)).bind fun j52=>if j52 = true then (((idx p0 s42.2.2).bind fun x65=>(app 32 s42.1 ([x65] : List (Vector UInt8 32))).bind fun l70=>some (s42.1 ++ ([x65] : List (Vector UInt8 32))) : Option ((List (Vector UInt8 32)))).bind fun j59=>(Z4 64 p0 s42.2.2).bind fun r77=>(app 24 s42.2.1 ([r77] : List (List (Vector UInt8 32)))).bind fun l83=>some (Fl.nx (j59,(s42.2.1 ++ ([r77] : List (List (Vector UInt8 32)))),wr (s42.2.2 + 1)))) else (some (Fl.ex (s42.1,s42.2.1)))
def Wa (p0 : (List (Vector UInt8 32))) (p1 : (Vector UInt8 32)) : Option (GAbsence × Int) :=
 (if (decide ((p0.length : Int) > 64)) = true then (some true) else ((X0 p0).bind fun r10=>some (!r10)) : Option (Bool)).bind fun j5=>if j5 = true then (some ((⟨0,[],[]⟩ : GAbsence),2)) else ((Vp p0 p1).bind fun r17=>(if (decide (r17 < (p0.length : Int))) = true then ((idx p0 r17).bind fun x26=>some (decide (x26 = p1))) else (some false) : Option (Bool)).bind fun j21=>if j21 = true then (some ((⟨0,[],[]⟩ : GAbsence),5)) else ((ZF (Xg p0 r17) ([],[],(if (wr (r17 - 1)) > 0 then (wr (r17 - 1)) else 0))).bind fun j35=>some ((⟨r17,j35.1,j35.2⟩ : GAbsence),0)))
theorem TO (w0 : World) (p0 : (List (Vector UInt8 32))) (v0_1 : Value) (hv0_1 : Ro w0 p0 [v0_1]) (p1 : (Vector UInt8 32)) (r : GAbsence × Int) (hF : Wa p0 p1 = some r) :
  Calls Try.prog 41 [v0_1,(Value.agg (enc p1).toArray)].toArray w0 (fun en w'=>∃ v,en = .returned v ∧ (∃ (y1 : Value) (y2 : Value),v = (Value.tuple [(Value.agg (cat [[vI r.1.Place],[y1],[y2]]).toArray),vI r.2].toArray) ∧ Fr w0 w' [osl NoB (r.1.Neighbours : List (Vector UInt8 32)) y1,osl NoB (r.1.Proofs : List (List (Vector UInt8 32))) y2] ∧ Kept (Old w0) w0 w')):=by
 refine ce Try.func41 ?_
 intro a hE
 have hM:=M.start w0
 unfold Wa at hF
 refine Zb (Z7 (cs:=enc p1) hE hM Za ld rfl rfl fun b1 w a hM hE=>Zv hE hM Wk fun b3 w a hM hE=>Zc hE rfl fun a hE=>Ze (wp_seq ?_))
 obtain ⟨j5,hl6,hF7⟩:=bind_some hF
 refine ZB (fun a w=>Env 71 a [(0,v0_1),(3,(ptr b1 0)),(4,(ptr b3 0)),(16,vT j5)] ∧ M (Old w0) w0 w [raw b3 (cat [[vI 0],[(Value.slice none 0 0)],[(Value.slice none 0 0)]]),raw b1 (enc p1)]) ?_ ?_
 ·skip
  refine wp_region_lit (Zd hE rfl fun a hE=>Yq hE rfl Try.underlying80 (hM.rd hv0_1) fun a hE=>Zl hE rfl rfl rfl fun a hE=>Zd hE rfl ?_); intro a hE
  refine YP (decide ((p0.length : Int) > 64)) (fun hb8=>?_) (fun hb8=>?_)
  ·have hl6:=Zt hl6 hb8
   refine Zm hE rfl (lkb rfl hb8) rfl (by decide) fun a hE=>Zm hE rfl (lkb rfl hb8) rfl (by decide) fun a hE=>Zm hE rfl (lkb rfl hb8) rfl (by decide) fun a hE=>YY hE (lkb rfl hb8) rfl fun a hE=>Zi ?_
   obtain rfl:=Option.some.inj hl6
   refine Zj ?_
   exact ⟨hE.sub ⟨rfl,rfl,rfl,rfl,trivial⟩,hM⟩
  ·have hl6:=Zs hl6 hb8
   refine Zg hE (Zf hE rfl (lkb rfl hb8)) (by decide) rfl ?_; intro a hE
   obtain ⟨r10,e11,hl6⟩:=bind_some hl6
   refine ZX hE (Zf hE rfl (lkb rfl hb8)) (by decide) rfl (cbm Try.func109) (QD _ p0 v0_1 (hM.rdo hv0_1) r10 e11) ?_
   rintro v w a ⟨rfl,hK⟩ hE
   have hM:=hM.keep hK
   refine UY hE (Zf hE rfl (lkb rfl hb8)) (by decide) rfl fun a hE=>YW hE (lkb rfl hb8) rfl fun a hE=>Zi ?_
   obtain rfl:=Option.some.inj hl6
   refine Zj ?_
   exact ⟨hE.sub ⟨rfl,rfl,rfl,rfl,trivial⟩,hM⟩
 ·skip
  rintro a w ⟨hE,hM⟩
  refine Zq hE rfl ?_ ?_
  ·intro hb13
   have hF7:=Zt hF7 hb13
   refine Zb (Ws (parts:=[]) (vs:=[]) (cs:=cat [[vI 0],[(Value.slice none 0 0)],[(Value.slice none 0 0)]]) hE Za ld rfl rfl Wk pl87 V5 fun a hE=>Zk (seg:=cat [[vI 0],[(Value.slice none 0 0)],[(Value.slice none 0 0)]]) (cs':=cat [[vI 0],[(Value.slice none 0 0)],[(Value.slice none 0 0)]]) hE hM Za rfl rfl rfl Wk cq (Nat.le_of_eq ((Nat.zero_add _).trans (Eq.trans cq (Eq.symm cq)))) (Y2 (cc1 (Flat.cell (0 : Int)) (cc1 Ul (cc1 Ul cc0)))) (Zh (Eq.trans cq (Eq.symm cq))) fun w a hM hE=>Zc hE rfl fun a hE=>Ze ?_)
   have hM:=M.nilS (α:=(List (Vector UInt8 32))) NoB noB (M.nilS (α:=(Vector UInt8 32)) NoB noB hM)
   obtain rfl:=Option.some.inj hF7
   have hq16 : Z6 Try.prog _ _ (.cell 4 87) _:=ZD hE rfl Wk rfl hM.rawAt2 cq rfl
   have hM:=M.fst (l:=[_,_]) hM.pull1
   exact wp_ret (ZL (WR hE rfl hq16 (ZV hE rfl) ⟨_,rfl,(Value.slice none 0 0),(Value.slice none 0 0),rfl,hM.outF (X2 (X2 Wy)),hM.kept⟩))
  ·intro hb13
   have hF7:=Zs hF7 hb13
   refine wp_skip (Zw (Zb (Zd hE rfl fun a hE=>Zp hE rfl Zr rfl hM.rawAt1 (Flat.len _) ?_))); intro a hE
   obtain ⟨r17,e18,hF7⟩:=bind_some hF7
   refine Zy hE rfl (cbm Try.func110) (Jo _ p0 v0_1 (hM.rdo hv0_1) p1 r17 e18) ?_
   rintro v w a ⟨rfl,hK⟩ hE
   have hM:=hM.keep hK
   refine Ws (parts:=[(0,.tmp 20)]) (vs:=[(0,vI r17)]) (cs:=cat [[vI r17],[(Value.slice none 0 0)],[(Value.slice none 0 0)]]) hE Za ld rfl rfl Wk pl87 (Xm (pre:=[]) (seg:=[vI 0]) (seg':=[vI r17]) (post:=[[(Value.slice none 0 0)],[(Value.slice none 0 0)]]) rfl cl0 rfl rfl rfl V5) fun a hE=>Zd hE rfl fun a hE=>Yq hE rfl Try.underlying80 (hM.rd hv0_1) fun a hE=>Zv hE hM Wk fun b19 w a hM hE=>Zk (seg:=cat [[vI r17],[(Value.slice none 0 0)],[(Value.slice none 0 0)]]) (cs':=cat [[vI r17],[(Value.slice none 0 0)],[(Value.slice none 0 0)]]) hE hM Za rfl rfl rfl Wk cq (Nat.le_of_eq ((Nat.zero_add _).trans (Eq.trans cq (Eq.symm cq)))) (Y2 (cc1 (Flat.cell (r17 : Int)) (cc1 Ul (cc1 Ul cc0)))) (Zh (Eq.trans cq (Eq.symm cq))) fun w a hM hE=>Zc hE rfl fun a hE=>Ze (wp_seq ?_)
   obtain ⟨j21,hl22,hF23⟩:=bind_some hF7
   refine ZB (fun a w=>Env 71 a [(0,v0_1),(4,(ptr b3 0)),(6,(ptr b19 0)),(7,(vI (p0.length : Int))),(36,vT j21)] ∧ M (Old w0) w0 w [raw b19 (cat [[vI r17],[(Value.slice none 0 0)],[(Value.slice none 0 0)]]),raw b3 (cat [[vI 0],[(Value.slice none 0 0)],[(Value.slice none 0 0)]])]) ?_ ?_
   ·skip
    refine YP (decide (r17 < (p0.length : Int))) (fun hb25=>?_) (fun hb25=>?_)
    ·have hl22:=Zt hl22 hb25
     obtain ⟨x26,hi28,hl22⟩:=bix hl22
     refine ZP [24,25,26,27,28,29,30,31,32,33,34,35,36] Yr rfl rfl (by decide) rfl hE hM (qsP (fun z=>Zo z.E Za ld rfl (Xv) (kr0 rfl)) (qsP (fun z=>ZN (v:=(vI r17)) z.E Za ld rfl ty2 rfl (At.cat (pre:=[]) (z.M.rawAt0) cl0) (kr0 rfl)) (qsP (fun z=>Zg z.E Za ld rfl (kr0 rfl)) (qsP (fun z=>Z1 z.E Za ld rfl rfl rfl (kr0 rfl)) (qsP (fun z=>Zg z.E Za ld rfl (kr0 rfl)) (qsP (fun z=>Zg z.E (Zf z.E rfl (lkb rfl hb25)) (by decide) rfl (kr0 rfl)) (qsP (fun z=>Zo z.E (Zf z.E rfl (lkb rfl hb25)) (by decide) rfl (Xv) (kr0 rfl)) (qsP (fun z=>ZN (v:=(vI r17)) z.E (Zf z.E rfl (lkb rfl hb25)) (by decide) rfl ty2 rfl (At.cat (pre:=[]) (z.M.rawAt0) cl0) (kr0 rfl)) (qsP (fun z=>Yi z.E (Zf z.E rfl (lkb rfl hb25)) (by decide) rfl rfl Try.underlying80 Zr (z.M.rd hv0_1) hi28.1 (kr0 rfl)) (qsP (fun z=>ZA z.E (Zf z.E rfl (lkb rfl hb25)) (by decide) rfl Zr rfl (YA (z.M.rd hv0_1) hi28.2) (Flat.len _) (kr0 rfl)) (qsP (fun z=>ZA z.E (Zf z.E rfl (lkb rfl hb25)) (by decide) rfl Zr rfl (z.M.rawAt2) (Flat.len _) (kr0 rfl)) (qsP (fun z=>Aw z.E (Zf z.E rfl (lkb rfl hb25)) (by decide) rfl rfl (U4 Try.underlying82 ty5 rfl false rfl (by decide) (Uw Try.underlying5)) (by decide) (by kernel_rfl) (kr0 rfl)) (qsP (fun z=>Vo z.E Za ld (lkb rfl hb25) rfl (kr0 rfl)) qs0))))))))))))) ?_
     ·intro a w u hE hM
      refine Zi ?_
      obtain rfl:=Option.some.inj hl22
      refine Zj ?_
      have hM:=M.fst (l:=[_,_]) hM.pull1.pull1
      exact ⟨hE.sub ⟨rfl,rfl,rfl,rfl,rfl,trivial⟩,hM⟩
    ·have hl22:=Zs hl22 hb25
     refine ZP [24,25,26,27,28,29,30,31,32,33,34,35,36] Yr rfl rfl (by decide) rfl hE hM (qsP (fun z=>Zo z.E Za ld rfl (Xv) (kr0 rfl)) (qsP (fun z=>ZN (v:=(vI r17)) z.E Za ld rfl ty2 rfl (At.cat (pre:=[]) (z.M.rawAt0) cl0) (kr0 rfl)) (qsP (fun z=>Zg z.E Za ld rfl (kr0 rfl)) (qsP (fun z=>Z1 z.E Za ld rfl rfl rfl (kr0 rfl)) (qsP (fun z=>Zg z.E Za ld rfl (kr0 rfl)) (qsP (fun z=>Zm z.E rfl (lkb rfl hb25) rfl (by decide) (kr0 rfl)) (qsP (fun z=>Zm z.E rfl (lkb rfl hb25) rfl (by decide) (kr0 rfl)) (qsP (fun z=>Zm z.E rfl (lkb rfl hb25) rfl (by decide) (kr0 rfl)) (qsP (fun z=>Zm z.E rfl (lkb rfl hb25) rfl (by decide) (kr0 rfl)) (qsP (fun z=>Zm z.E rfl (lkb rfl hb25) rfl (by decide) (kr0 rfl)) (qsP (fun z=>Zm z.E rfl (lkb rfl hb25) rfl (by decide) (kr0 rfl)) (qsP (fun z=>Zm z.E rfl (lkb rfl hb25) rfl (by decide) (kr0 rfl)) (qsP (fun z=>WN z.E Za ld (lkb rfl hb25) rfl (kr0 rfl)) qs0))))))))))))) ?_
     ·intro a w u hE hM
      refine Zi ?_
      obtain rfl:=Option.some.inj hl22
      refine Zj ?_
      have hM:=M.fst (l:=[_,_]) hM.pull1.pull1
      exact ⟨hE.sub ⟨rfl,rfl,rfl,rfl,rfl,trivial⟩,hM⟩
   ·skip
    rintro a w ⟨hE,hM⟩
    refine Zq hE rfl ?_ ?_
    ·intro hb31
     have hF23:=Zt hF23 hb31
     refine Zb (Ws (parts:=[]) (vs:=[]) (cs:=cat [[vI 0],[(Value.slice none 0 0)],[(Value.slice none 0 0)]]) hE Za ld rfl rfl Wk pl87 V5 ?_); intro a hE
     have hM:=hM.pull1
     refine Zk (seg:=cat [[vI 0],[(Value.slice none 0 0)],[(Value.slice none 0 0)]]) (cs':=cat [[vI 0],[(Value.slice none 0 0)],[(Value.slice none 0 0)]]) hE hM Za rfl rfl rfl Wk cq (Nat.le_of_eq ((Nat.zero_add _).trans (Eq.trans cq (Eq.symm cq)))) (Y2 (cc1 (Flat.cell (0 : Int)) (cc1 Ul (cc1 Ul cc0)))) (Zh (Eq.trans cq (Eq.symm cq))) fun w a hM hE=>Zc hE rfl fun a hE=>Ze ?_
     have hM:=M.nilS (α:=(List (Vector UInt8 32))) NoB noB (M.nilS (α:=(Vector UInt8 32)) NoB noB hM)
     obtain rfl:=Option.some.inj hF23
     have hq34 : Z6 Try.prog _ _ (.cell 4 87) _:=ZD hE rfl Wk rfl hM.rawAt2 cq rfl
     have hM:=M.fst (l:=[_,_]) hM.pull1
     exact wp_ret (ZL (WR hE rfl hq34 (ZV hE rfl) ⟨_,rfl,(Value.slice none 0 0),(Value.slice none 0 0),rfl,hM.outF (X2 (X2 Wy)),hM.kept⟩))
    ·intro hb31
     have hF23:=Zs hF23 hb31
     refine wp_skip (Zw (wp_seq (Zb (ZJ hE rfl (Xv) fun a hE=>ZQ (v:=(vI r17)) hE rfl ty2 rfl (At.cat (pre:=[]) hM.rawAt0 cl0) fun a hE=>Zl hE rfl rfl rfl fun a hE=>s_max hE Za ld rfl rfl fun a hE=>Zc hE rfl fun a hE=>Ze ?_))))
     obtain ⟨j35,hl36,hF37⟩:=bind_some hF23
     refine ZW (fun a w=>∃ (u38 : Value) (u40 : Value),Env 71 a [(4,(ptr b3 0)),(6,(ptr b19 0))] ∧ M (Old w0) w0 w [raw b19 (cat [[vI r17],[u38],[u40]]),raw b3 (cat [[vI 0],[(Value.slice none 0 0)],[(Value.slice none 0 0)]]),osl NoB (j35.1 : List (Vector UInt8 32)) u38,osl NoB (j35.2 : List (List (Vector UInt8 32))) u40]) ?_ ?_
     ·skip
      refine wp_block ?_
      have hM:=(((M.nilS (α:=(List (Vector UInt8 32))) NoB noB (M.nilS (α:=(Vector UInt8 32)) NoB noB hM)).pull1).pull3).pull3
      refine ZM (fun (s42 : (List (Vector UInt8 32)) × (List (List (Vector UInt8 32))) × Int) a w=>∃ (u43 : Value) (u45 : Value),Env 71 a [(0,v0_1),(4,(ptr b3 0)),(6,(ptr b19 0)),(7,(vI (p0.length : Int))),(8,vI s42.2.2)] ∧ M (Old w0) w0 w [raw b19 (cat [[vI r17],[u43],[u45]]),raw b3 (cat [[vI 0],[(Value.slice none 0 0)],[(Value.slice none 0 0)]]),osl NoB (s42.1 : List (Vector UInt8 32)) u43,osl NoB (s42.2.1 : List (List (Vector UInt8 32))) u45]) hl36 ⟨(Value.slice none 0 0),(Value.slice none 0 0),hE.sub ⟨rfl,rfl,rfl,rfl,rfl,trivial⟩,hM⟩ ?_
      rintro s42 a w ⟨u43,u45,hE,hM⟩ o49 hs47 hx48
      unfold Xg at hs47
      refine wp_seq ?_
      obtain ⟨j52,hl53,hF54⟩:=bind_some hs47
      refine ZB (fun a w=>Env 71 a [(0,v0_1),(4,(ptr b3 0)),(6,(ptr b19 0)),(7,(vI (p0.length : Int))),(8,vI s42.2.2),(50,vT j52)] ∧ M (Old w0) w0 w [raw b19 (cat [[vI r17],[u43],[u45]]),raw b3 (cat [[vI 0],[(Value.slice none 0 0)],[(Value.slice none 0 0)]]),osl NoB (s42.1 : List (Vector UInt8 32)) u43,osl NoB (s42.2.1 : List (List (Vector UInt8 32))) u45]) ?_ ?_
      ·skip
       refine wp_region_lit (Zd hE rfl fun a hE=>ZJ hE rfl (Xv) fun a hE=>ZQ (v:=(vI r17)) hE rfl ty2 rfl (At.cat (pre:=[]) hM.rawAt0 cl0) fun a hE=>Zl hE rfl rfl rfl fun a hE=>Zd hE rfl ?_); intro a hE
       refine YP (decide (s42.2.2 ≤ r17)) (fun hb55=>?_) (fun hb55=>?_)
       ·have hl53:=Zt hl53 hb55
        refine Zg hE (Zf hE rfl (lkb rfl hb55)) (by decide) rfl fun a hE=>Zg hE (Zf hE rfl (lkb rfl hb55)) (by decide) rfl fun a hE=>Z1 hE (Zf hE rfl (lkb rfl hb55)) (by decide) rfl rfl rfl fun a hE=>YY hE (lkb rfl hb55) rfl fun a hE=>Zi ?_
        obtain rfl:=Option.some.inj hl53
        refine Zj ?_
        exact ⟨hE.sub ⟨rfl,rfl,rfl,rfl,rfl,rfl,trivial⟩,hM⟩
       ·have hl53:=Zs hl53 hb55
        refine Zm hE rfl (lkb rfl hb55) rfl (by decide) fun a hE=>Zm hE rfl (lkb rfl hb55) rfl (by decide) fun a hE=>Zm hE rfl (lkb rfl hb55) rfl (by decide) fun a hE=>YW hE (lkb rfl hb55) rfl fun a hE=>Zi ?_
        obtain rfl:=Option.some.inj hl53
        refine Zj ?_
        exact ⟨hE.sub ⟨rfl,rfl,rfl,rfl,rfl,rfl,trivial⟩,hM⟩
      ·skip
       rintro a w ⟨hE,hM⟩
       refine Zq hE rfl ?_ ?_
       ·intro hb58
        have hF54:=Zt hF54 hb58
        refine wp_skip (Zw (wp_seq (wp_block ?_)))
        obtain ⟨j59,hl60,hF61⟩:=bind_some hF54
        refine ZB (fun a w=>∃ (u62 : Value),Env 71 a [(0,v0_1),(4,(ptr b3 0)),(6,(ptr b19 0)),(7,(vI (p0.length : Int))),(8,vI s42.2.2)] ∧ M (Old w0) w0 w [raw b19 (cat [[vI r17],[u62],[u45]]),raw b3 (cat [[vI 0],[(Value.slice none 0 0)],[(Value.slice none 0 0)]]),osl NoB (s42.2.1 : List (List (Vector UInt8 32))) u45,osl NoB (j59 : List (Vector UInt8 32)) u62]) ?_ ?_
        ·skip
         obtain ⟨x65,hi67,hl60⟩:=bix hl60
         refine YV (its:=[raw b19 (cat [[vI r17],[u43],[u45]]),raw b3 (cat [[vI 0],[(Value.slice none 0 0)],[(Value.slice none 0 0)]]),osl NoB (s42.1 : List (Vector UInt8 32)) u43,osl NoB (s42.2.1 : List (List (Vector UInt8 32))) u45]) (mk:=([mkO 6 (fun v=>osl NoB (([x65] : List (Vector UInt8 32)) : List (Vector UInt8 32)) v)] : Mk)) [53,54,55,56,57,58,59] Yr rfl rfl (by decide) rfl hE (fun u=>M.qE (M.q0 hM.drew u) emO) (qsP (fun z=>Zo z.E Za ld rfl (WA) (kr0 rfl)) (qsP (v:=u43) ?_ (qsP (fun z=>Zg z.E Za ld rfl (kr0 rfl)) (qsP (fun z=>Zg z.E Za ld rfl (kr0 rfl)) (qsP (v:=(ptr (sb v0_1) (so v0_1 + (s42.2.2).toNat * 32))) ?_ (qsP (v:=(Value.agg (enc x65).toArray)) ?_ (qsM (pr:=fun v=>True) ?_ qs0))))))) ?_
         ·intro a w ux64 D z
          have hE:=z.E
          have hM:=z.M
          exact ZQ (v:=u43) hE rfl VT rfl (At.cat (pre:=[[vI r17]]) hM.rawAt0 ck) fun a hE=>⟨Kept.refl _ _,_,rfl,hE⟩
         ·intro a w ux64 D z
          have hE:=z.E
          have hM:=z.M
          exact Wx hE rfl rfl Try.underlying80 Zr (hM.rd hv0_1) hi67.1 fun a hE=>⟨Kept.refl _ _,_,rfl,hE⟩
         ·intro a w ux64 D z
          have hE:=z.E
          have hM:=z.M
          exact Zp hE rfl Zr rfl (YA (hM.rd hv0_1) hi67.2) (Flat.len _) fun a hE=>⟨Kept.refl _ _,_,rfl,hE⟩
         ·intro a w ux64 D z
          have hE:=z.E
          have hD : D 6 = false:=z.F
          have hM:=z.M
          exact Z3 (xs:=[.tmp 58]) (l:=([x65] : List (Vector UInt8 32))) (vs:=[(Value.agg (enc x65).toArray)]) hE hM Za ld rfl rfl Try.underlying80 Zr rfl (by decide) rfl fun u68 w a hM hE=>⟨_,_,rfl,hE,M.qFill (mk1:=[]) (mk2:=[]) (f:=(fun v=>osl NoB (([x65] : List (Vector UInt8 32)) : List (Vector UInt8 32)) v)) hM rfl hD,trivial⟩
         ·intro a w ux64 D hE hM hG hall
          have d6:=hall 6 (by decide)
          have hM:=hM.sure (pre:=[_,_,_,_]) d6
          obtain ⟨l70,e71,hl60⟩:=bind_some hl60
          obtain ⟨e74,rfl⟩:=Yn e71
          have hM:=hM.pull2
          refine Yf hE hM Za ld rfl rfl (hM.sl (pre:=[_,_,_,_]) noB) Try.underlying80 Zr rfl (by decide) e74 fun u72 w a hM hE=>ZJ hE rfl (WA) ?_; intro a hE
          have hM:=hM.pull1
          refine Zk (seg:=[u72]) hE hM Za rfl rfl (Ve (hM.sl (pre:=[_]) noB)) VT rfl (UF (pre:=[[vI r17]]) ck rfl) (Rep.cell (hM.sl (pre:=[_]) noB)) (Ww (pre:=[[vI r17]]) ck rfl) fun w a hM hE=>Zi ?_
          obtain rfl:=Option.some.inj hl60
          refine Zj ?_
          have hM:=M.fst (l:=[_,_,_,_]) hM.pull1.pull3.pull3.pull3
          exact ⟨u72,hE.sub ⟨rfl,rfl,rfl,rfl,rfl,trivial⟩,hM⟩
        ·skip
         rintro a w ⟨u62,hE,hM⟩
         obtain ⟨r77,e78,hF61⟩:=bind_some hF61
         refine YV (its:=[raw b19 (cat [[vI r17],[u62],[u45]]),raw b3 (cat [[vI 0],[(Value.slice none 0 0)],[(Value.slice none 0 0)]]),osl NoB (s42.2.1 : List (List (Vector UInt8 32))) u45,osl NoB (j59 : List (Vector UInt8 32)) u62]) (mk:=([mkN [(5,fun v=>osl NoB (([r77] : List (List (Vector UInt8 32))) : List (List (Vector UInt8 32))) v),(4,fun v=>osl NoB (r77 : List (Vector UInt8 32)) v)]] : Mk)) [62,63,64,65,66,67] Yr rfl rfl (by decide) rfl hE (fun u=>M.qE (M.q0 hM.drew u) emN) (qsP (fun z=>Zo z.E Za ld rfl (UV) (kr0 rfl)) (qsP (v:=u45) ?_ (qsP (fun z=>Zg z.E Za ld rfl (kr0 rfl)) (qsP (fun z=>Zg z.E Za ld rfl (kr0 rfl)) (qsM (pr:=fun v=>True) ?_ (qsM (pr:=fun v=>True) ?_ qs0)))))) ?_
         ·intro a w ux76 D z
          have hE:=z.E
          have hM:=z.M
          exact ZQ (v:=u45) hE rfl Kt rfl (At.cat (pre:=[[vI r17],[u62]]) hM.rawAt0 ck) fun a hE=>⟨Kept.refl _ _,_,rfl,hE⟩
         ·intro a w ux76 D z
          have hE:=z.E
          have hD : D 4 = false:=z.F
          have hM0:=z.M
          have hM:=z.M
          refine Zy hE rfl yS (Un 64 _ p0 v0_1 (hM.rdo hv0_1) s42.2.2 r77 e78) ?_
          rintro _ w a ⟨_,rfl,hFr,hK⟩ hE
          have hM:=hM0.add hK hFr
          have hq5 : D 5 = false:=Kv (j:=5) (k:=0) z.c rfl rfl rfl hD
          exact ⟨_,_,rfl,hE,M.qPut (p:=mkN [(5,fun v=>osl NoB (([r77] : List (List (Vector UInt8 32))) : List (List (Vector UInt8 32))) v),(4,fun v=>osl NoB (r77 : List (Vector UInt8 32)) v)]) (its:=[raw b19 (cat [[vI r17],[u62],[u45]]),raw b3 (cat [[vI 0],[(Value.slice none 0 0)],[(Value.slice none 0 0)]]),osl NoB (s42.2.1 : List (List (Vector UInt8 32))) u45,osl NoB (j59 : List (Vector UInt8 32)) u62]) (mk1:=[]) (mk2:=[]) hM rfl (zM (offC hq5 (offC hD offN))) (BJ (l:=[_]) (offC hq5 offN)),trivial⟩
         ·intro a w ux76 D z
          have hE:=z.E
          have hD : D 5 = false:=z.F
          have d4 : D 4 = true:=z.p 0 _ rfl rfl
          have hM:=(z.M.chnF (pre:=[_,_,_,_]) hD).chnT (pre:=[_,_,_,_]) d4
          have hc82:=Ve (hM.sl (pre:=[_,_,_,_]) noB)
          have hM:=hM.pull4
          have hM:=hM.pack1 (it:=own NoB r77 ([(ux76 4)])) (UG noB) (fun f0 q0=>(Ue.sat q0))
          exact Ag (xs:=[.tmp 66]) (seg:=[(ux76 4)]) hE hM noB Za ld rfl hc82 Try.underlying85 VT rfl (by decide) fun u80 w a hM hE=>⟨_,_,rfl,hE,M.qTogS (p:=mkN [(5,fun v=>osl NoB (([r77] : List (List (Vector UInt8 32))) : List (List (Vector UInt8 32))) v),(4,fun v=>osl NoB (r77 : List (Vector UInt8 32)) v)]) (its:=[raw b19 (cat [[vI r17],[u62],[u45]]),raw b3 (cat [[vI 0],[(Value.slice none 0 0)],[(Value.slice none 0 0)]]),osl NoB (s42.2.1 : List (List (Vector UInt8 32))) u45,osl NoB (j59 : List (Vector UInt8 32)) u62]) (mk1:=[]) (mk2:=[]) hM rfl (BJ (l:=[]) offN),trivial⟩
         ·intro a w ux76 D hE hM hG hall
          have d5:=hall 5 (by decide)
          have hM:=hM.chnT (pre:=[_,_,_,_]) d5
          obtain ⟨l83,e84,hF61⟩:=bind_some hF61
          obtain ⟨e87,rfl⟩:=Yn e84
          have hM:=hM.pull4.pull3
          refine H2 hE hM noB Za ld rfl rfl Try.underlying85 VT rfl (by decide) e87 fun u85 w a hM hE=>ZJ hE rfl (UV) ?_; intro a hE
          have hM:=hM.pull1
          refine Zk (seg:=[u85]) hE hM Za rfl rfl (Ve (hM.sl (pre:=[_]) noB)) Kt rfl (UF (pre:=[[vI r17],[u62]]) ck rfl) (Rep.cell (hM.sl (pre:=[_]) noB)) (Ww (pre:=[[vI r17],[u62]]) ck rfl) fun w a hM hE=>Zi (Yv (Zw (wp_region_lit (Zd hE rfl fun a hE=>Zl hE rfl rfl rfl fun a hE=>Zc hE rfl fun a hE=>Zi (Zj ?_)))))
          have hM:=hM.pull1.pull3.pull3.pull3
          exact ⟨_,(ois hF61),u62,u85,hE.sub ⟨rfl,rfl,rfl,rfl,rfl,trivial⟩,hM⟩
       ·intro hb58
        have hF54:=Zs hF54 hb58
        refine wp_exit (Zn (Zn (Yy ?_)))
        obtain rfl:=hx48 _ (ois hF54)
        refine Zj ?_
        exact ⟨u43,u45,hE.sub ⟨rfl,rfl,trivial⟩,hM⟩
     ·skip
      rintro a w ⟨u38,u40,hE,hM⟩
      refine Zw (Zb (Zp hE rfl Wk rfl hM.rawAt0 cq ?_)); intro a hE
      have hM:=hM.pull1
      refine Zk (seg:=cat [[vI r17],[u38],[u40]]) (cs':=cat [[vI r17],[u38],[u40]]) hE hM Za rfl rfl rfl Wk cq (Nat.le_of_eq ((Nat.zero_add _).trans (Eq.trans cq (Eq.symm cq)))) (Y2 (cc1 (Flat.cell (r17 : Int)) (cc1 (Rep.cell (hM.sl (pre:=[_,_]) noB)) (cc1 (Rep.cell (hM.sl (pre:=[_,_,_]) noB)) cc0)))) (Zh (Eq.trans cq (Eq.symm cq))) fun w a hM hE=>Zc hE rfl fun a hE=>Ze ?_
      obtain rfl:=Option.some.inj hF37
      have hq89 : Z6 Try.prog _ _ (.cell 4 87) _:=ZD hE rfl Wk rfl hM.rawAt0 cq rfl
      have hM:=M.fst (l:=[_,_]) hM.pull3.pull3
      exact wp_ret (WR hE rfl hq89 (ZV hE rfl) ⟨_,rfl,u38,u40,rfl,hM.outF (X2 (X2 Wy)),hM.kept⟩)
def Vg (p0 : (List (Vector UInt8 32))) (p1 : (List (Vector UInt8 32))) (s6 : Int) : Option (Fl Int (Fl Unit Bool)) :=
 if (decide (s6 < (p0.length : Int))) = true then (((idx p0 s6).bind fun x15=>(idx p1 s6).bind fun x18=>some (!decide (x15 = x18)) : Option (Bool)).bind fun j11=>if j11 = true then (some (Fl.ex (Fl.ex false))) else (some (Fl.nx (wr (s6 + 1))))) else (some (Fl.ex (Fl.nx ())))
def WD (p0 : (List (Vector UInt8 32))) (p1 : (List (Vector UInt8 32))) : Option (Bool) :=
 if ((p0.length : Int) != (p1.length : Int)) = true then (some false) else ((ZF (Vg p0 p1) 0).bind fun j2=>j2.el (fun s5=>some true) (fun r=>some r))
theorem T6 (w0 : World) (p0 : (List (Vector UInt8 32))) (v0_1 : Value) (hv0_1 : Ro w0 p0 [v0_1]) (p1 : (List (Vector UInt8 32))) (v1_1 : Value) (hv1_1 : Ro w0 p1 [v1_1]) (r : Bool) (hF : WD p0 p1 = some r) :
  Calls Try.prog 112 [v0_1,v1_1].toArray w0 (Rt w0 (vT r)):=by
 refine ce Try.func112 ?_
 intro a hE
 have hM:=M.start w0
 unfold WD at hF
 refine Zb (Zc hE rfl fun a hE=>Ze (wp_seq (Zb (Zd hE rfl fun a hE=>Yq hE rfl Try.underlying80 (hM.rd hv0_1) fun a hE=>Zd hE rfl fun a hE=>Yq hE rfl Try.underlying80 (hM.rd hv1_1) fun a hE=>Zl hE rfl rfl rfl fun a hE=>Ze ?_))))
 refine Zq hE rfl ?_ ?_
 ·intro hb1
  have hF:=Zt hF hb1
  refine Zb (Zc hE rfl fun a hE=>Ze ?_)
  obtain rfl:=Option.some.inj hF
  exact wp_ret (ZL (kr1 hE rfl rfl hM.kept))
 ·intro hb1
  have hF:=Zs hF hb1
  refine wp_skip (Zw (wp_seq (Zb (Zc hE rfl fun a hE=>Ze ?_))))
  obtain ⟨j2,hl3,hF4⟩:=bind_some hF
  refine ZW (fun a w=>∃ s5 : Unit,j2 = Fl.nx s5 ∧ Env 26 a [] ∧ M (Old w0) w0 w []) ?_ ?_
  ·skip
   refine wp_block ?_
   refine ZM (fun (s6 : Int) a w=>Env 26 a [(0,v0_1),(1,v1_1),(5,vI s6)] ∧ M (Old w0) w0 w []) hl3 ⟨hE.sub ⟨rfl,rfl,rfl,trivial⟩,hM⟩ ?_
   rintro s6 a w ⟨hE,hM⟩ o9 hs7 hx8
   unfold Vg at hs7
   refine wp_seq (Zb (Zd hE rfl fun a hE=>Zd hE rfl fun a hE=>Yq hE rfl Try.underlying80 (hM.rd hv0_1) fun a hE=>Zl hE rfl rfl rfl fun a hE=>Ze ?_))
   refine Zq hE rfl ?_ ?_
   ·intro hb10
    have hs7:=Zt hs7 hb10
    refine wp_skip (Zw (wp_seq (wp_block ?_)))
    obtain ⟨j11,hl12,hF13⟩:=bind_some hs7
    refine ZB (fun a w=>Env 26 a [(0,v0_1),(1,v1_1),(5,vI s6),(25,vT j11)] ∧ M (Old w0) w0 w []) ?_ ?_
    ·skip
     obtain ⟨x15,hi17,hl12⟩:=bix hl12
     obtain ⟨x18,hi20,hl12⟩:=bix hl12
     refine ZP [17,18,19,20,21,22,23,24,25] Yr rfl rfl (by decide) rfl hE hM (qsP (fun z=>Zg z.E Za ld rfl (kr0 rfl)) (qsP (fun z=>Zg z.E Za ld rfl (kr0 rfl)) (qsP (fun z=>Yi z.E Za ld rfl rfl Try.underlying80 Zr (z.M.rd hv0_1) hi17.1 (kr0 rfl)) (qsP (fun z=>ZA z.E Za ld rfl Zr rfl (YA (z.M.rd hv0_1) hi17.2) (Flat.len _) (kr0 rfl)) (qsP (fun z=>Zg z.E Za ld rfl (kr0 rfl)) (qsP (fun z=>Zg z.E Za ld rfl (kr0 rfl)) (qsP (fun z=>Yi z.E Za ld rfl rfl Try.underlying80 Zr (z.M.rd hv1_1) hi20.1 (kr0 rfl)) (qsP (fun z=>ZA z.E Za ld rfl Zr rfl (YA (z.M.rd hv1_1) hi20.2) (Flat.len _) (kr0 rfl)) (qsP (fun z=>jo z.E Za ld rfl rfl (U4 Try.underlying82 ty5 rfl false rfl (by decide) (Uw Try.underlying5)) (by decide) (by kernel_rfl) (kr0 rfl)) qs0))))))))) ?_
     ·intro a w u hE hM
      refine Zi ?_
      obtain rfl:=Option.some.inj hl12
      refine Zj ?_
      exact ⟨hE.sub ⟨rfl,rfl,rfl,rfl,trivial⟩,hM⟩
    ·skip
     rintro a w ⟨hE,hM⟩
     refine Zq hE rfl ?_ ?_
     ·intro hb22
      have hF13:=Zt hF13 hb22
      refine Zb (Zc hE rfl fun a hE=>Ze ?_)
      obtain rfl:=hx8 _ (ois hF13)
      obtain rfl:=Option.some.inj hF4
      exact wp_ret (Vj (ZL (ZL (Vj (ZL (ZL (kr1 hE rfl rfl hM.kept)))))))
     ·intro hb22
      have hF13:=Zs hF13 hb22
      refine wp_skip (Yv (Zw (wp_region_lit (Zd hE rfl fun a hE=>Zl hE rfl rfl rfl fun a hE=>Zc hE rfl fun a hE=>Zi (Zj ?_)))))
      exact ⟨_,(ois hF13),hE.sub ⟨rfl,rfl,rfl,trivial⟩,hM⟩
   ·intro hb10
    have hs7:=Zs hs7 hb10
    refine wp_exit (Zn (Zn (Yy ?_)))
    obtain rfl:=hx8 _ (ois hs7)
    refine Zj ?_
    exact ⟨(),rfl,hE.sub trivial,hM⟩
  ·skip
   rintro a w ⟨s5,ht,hE,hM⟩
   subst ht
   have hF4:=Ki hF4
   refine Zw (Zb (Zc hE rfl fun a hE=>Ze ?_))
   obtain rfl:=Option.some.inj hF4
   exact wp_ret (kr1 hE rfl rfl hM.kept)
def W8 (p0 : GAbsence) (p1 : GAbsence) (s20 : Int) : Option (Fl Int (Fl Unit Bool)) :=
 if (decide (s20 < (p0.Proofs.length : Int))) = true then (((idx p0.Proofs s20).bind fun x29=>(idx p1.Proofs s20).bind fun x37=>(WD x29 x37).bind fun r45=>some (!r45) : Option (Bool)).bind fun j25=>if j25 = true then (some (Fl.ex (Fl.ex false))) else (some (Fl.nx (wr (s20 + 1))))) else (some (Fl.ex (Fl.nx ())))
def Vv (p0 : GAbsence) (p1 : GAbsence) : Option (Bool) :=
 (if (p0.Place != p1.Place) = true then (some true) else ((WD p0.Neighbours p1.Neighbours).bind fun r10=>if (!r10) = true then (some true) else (some ((p0.Proofs.length : Int) != (p1.Proofs.length : Int)))) : Option (Bool)).bind fun j5=>if j5 = true then (some false) else ((ZF (W8 p0 p1) 0).bind fun j16=>j16.el (fun s19=>some true) (fun r=>some r))
theorem Jx (w0 : World) (p0 : GAbsence) (v0_1 : Value) (hv0_1 : Ro w0 p0.Neighbours [v0_1]) (v0_2 : Value) (hv0_2 : Ro w0 p0.Proofs [v0_2]) (p1 : GAbsence) (v1_1 : Value) (hv1_1 : Ro w0 p1.Neighbours [v1_1]) (v1_2 : Value) (hv1_2 : Ro w0 p1.Proofs [v1_2]) (r : Bool) (hF : Vv p0 p1 = some r) :
  Calls Try.prog 42 [(Value.agg (cat [[vI p0.Place],[v0_1],[v0_2]]).toArray),(Value.agg (cat [[vI p1.Place],[v1_1],[v1_2]]).toArray)].toArray w0 (Rt w0 (vT r)):=by
 refine ce Try.func42 ?_
 intro a hE
 have hM:=M.start w0
 unfold Vv at hF
 refine Zb (Z7 (cs:=cat [[vI p0.Place],[v0_1],[v0_2]]) hE hM Za ld rfl rfl fun b1 w a hM hE=>Z7 (cs:=cat [[vI p1.Place],[v1_1],[v1_2]]) hE hM Za ld rfl rfl fun b3 w a hM hE=>Zc hE rfl fun a hE=>Ze (wp_seq ?_))
 obtain ⟨j5,hl6,hF7⟩:=bind_some hF
 refine ZB (fun a w=>Env 47 a [(2,(ptr b1 0)),(3,(ptr b3 0)),(27,vT j5)] ∧ M (Old w0) w0 w [raw b3 (cat [[vI p1.Place],[v1_1],[v1_2]]),raw b1 (cat [[vI p0.Place],[v0_1],[v0_2]])]) ?_ ?_
 ·skip
  refine wp_region_lit (ZJ hE rfl (Xv) fun a hE=>ZQ (v:=(vI p0.Place)) hE rfl ty2 rfl (At.cat (pre:=[]) hM.rawAt1 cl0) fun a hE=>ZJ hE rfl (Xv) fun a hE=>ZQ (v:=(vI p1.Place)) hE rfl ty2 rfl (At.cat (pre:=[]) hM.rawAt0 cl0) fun a hE=>Zl hE rfl rfl rfl fun a hE=>Zd hE rfl ?_); intro a hE
  refine YP (p0.Place != p1.Place) (fun hb8=>?_) (fun hb8=>?_)
  ·have hl6:=Zt hl6 hb8
   refine Zm hE rfl (lkb rfl hb8) rfl (by decide) fun a hE=>Zm hE rfl (lkb rfl hb8) rfl (by decide) fun a hE=>Zm hE rfl (lkb rfl hb8) rfl (by decide) fun a hE=>Zm hE rfl (lkb rfl hb8) rfl (by decide) fun a hE=>Zm hE rfl (lkb rfl hb8) rfl (by decide) fun a hE=>Zm hE rfl (lkb rfl hb8) rfl (by decide) fun a hE=>YY hE (lkb rfl hb8) rfl fun a hE=>Zd hE rfl fun a hE=>Zm hE rfl rfl rfl (by decide) fun a hE=>Zm hE rfl rfl rfl (by decide) fun a hE=>Zm hE rfl rfl rfl (by decide) fun a hE=>Zm hE rfl rfl rfl (by decide) ?_; intro a hE
   refine Zm hE rfl rfl rfl (by decide) fun a hE=>Zm hE rfl rfl rfl (by decide) fun a hE=>Zm hE rfl rfl rfl (by decide) fun a hE=>YY hE rfl rfl fun a hE=>Zi ?_
   obtain rfl:=Option.some.inj hl6
   refine Zj ?_
   exact ⟨hE.sub ⟨rfl,rfl,rfl,trivial⟩,hM⟩
  ·have hl6:=Zs hl6 hb8
   refine Zo hE (Zf hE rfl (lkb rfl hb8)) (by decide) rfl (WA) fun a hE=>ZN (v:=v0_1) hE (Zf hE rfl (lkb rfl hb8)) (by decide) rfl VT rfl (At.cat (pre:=[[vI p0.Place]]) hM.rawAt1 ck) fun a hE=>Zo hE (Zf hE rfl (lkb rfl hb8)) (by decide) rfl (WA) fun a hE=>ZN (v:=v1_1) hE (Zf hE rfl (lkb rfl hb8)) (by decide) rfl VT rfl (At.cat (pre:=[[vI p1.Place]]) hM.rawAt0 ck) ?_; intro a hE
   obtain ⟨r10,e11,hl6⟩:=bind_some hl6
   refine ZX hE (Zf hE rfl (lkb rfl hb8)) (by decide) rfl (cbm Try.func112) (T6 _ p0.Neighbours v0_1 (hM.rdo hv0_1) p1.Neighbours v1_1 (hM.rdo hv1_1) r10 e11) ?_
   rintro v w a ⟨rfl,hK⟩ hE
   have hM:=hM.keep hK
   refine UY hE (Zf hE rfl (lkb rfl hb8)) (by decide) rfl fun a hE=>YW hE (lkb rfl hb8) rfl fun a hE=>Zd hE rfl ?_; intro a hE
   refine YP (!r10) (fun hb12=>?_) (fun hb12=>?_)
   ·have hl6:=Zt hl6 hb12
    refine Zm hE rfl (lkb rfl hb12) rfl (by decide) fun a hE=>Zm hE rfl (lkb rfl hb12) rfl (by decide) fun a hE=>Zm hE rfl (lkb rfl hb12) rfl (by decide) fun a hE=>Zm hE rfl (lkb rfl hb12) rfl (by decide) fun a hE=>Zm hE rfl (lkb rfl hb12) rfl (by decide) fun a hE=>Zm hE rfl (lkb rfl hb12) rfl (by decide) fun a hE=>Zm hE rfl (lkb rfl hb12) rfl (by decide) fun a hE=>YY hE (lkb rfl hb12) rfl fun a hE=>Zi ?_
    obtain rfl:=Option.some.inj hl6
    refine Zj ?_
    exact ⟨hE.sub ⟨rfl,rfl,rfl,trivial⟩,hM⟩
   ·have hl6:=Zs hl6 hb12
    refine Zo hE (Zf hE rfl (lkb rfl hb12)) (by decide) rfl (UV) fun a hE=>ZN (v:=v0_2) hE (Zf hE rfl (lkb rfl hb12)) (by decide) rfl Kt rfl (At.cat (pre:=[[vI p0.Place],[v0_1]]) hM.rawAt1 ck) fun a hE=>T4 hE (Zf hE rfl (lkb rfl hb12)) (by decide) rfl Try.underlying85 (hM.rd hv0_2) fun a hE=>Zo hE (Zf hE rfl (lkb rfl hb12)) (by decide) rfl (UV) fun a hE=>ZN (v:=v1_2) hE (Zf hE rfl (lkb rfl hb12)) (by decide) rfl Kt rfl (At.cat (pre:=[[vI p1.Place],[v1_1]]) hM.rawAt0 ck) fun a hE=>T4 hE (Zf hE rfl (lkb rfl hb12)) (by decide) rfl Try.underlying85 (hM.rd hv1_2) fun a hE=>Z1 hE (Zf hE rfl (lkb rfl hb12)) (by decide) rfl rfl rfl fun a hE=>YW hE (lkb rfl hb12) rfl fun a hE=>Zi ?_
    obtain rfl:=Option.some.inj hl6
    refine Zj ?_
    exact ⟨hE.sub ⟨rfl,rfl,rfl,trivial⟩,hM⟩
 ·skip
  rintro a w ⟨hE,hM⟩
  refine Zq hE rfl ?_ ?_
  ·intro hb15
   have hF7:=Zt hF7 hb15
   refine Zb (Zc hE rfl fun a hE=>Ze ?_)
   obtain rfl:=Option.some.inj hF7
   exact wp_ret (ZL (kr1 hE rfl rfl hM.kept))
  ·intro hb15
   have hF7:=Zs hF7 hb15
   refine wp_skip (Zw (wp_seq (Zb (Zc hE rfl fun a hE=>Ze ?_))))
   obtain ⟨j16,hl17,hF18⟩:=bind_some hF7
   refine ZW (fun a w=>∃ s19 : Unit,j16 = Fl.nx s19 ∧ Env 47 a [] ∧ M (Old w0) w0 w []) ?_ ?_
   ·skip
    refine wp_block ?_
    refine ZM (fun (s20 : Int) a w=>Env 47 a [(2,(ptr b1 0)),(3,(ptr b3 0)),(5,vI s20)] ∧ M (Old w0) w0 w [raw b3 (cat [[vI p1.Place],[v1_1],[v1_2]]),raw b1 (cat [[vI p0.Place],[v0_1],[v0_2]])]) hl17 ⟨hE.sub ⟨rfl,rfl,rfl,trivial⟩,hM⟩ ?_
    rintro s20 a w ⟨hE,hM⟩ o23 hs21 hx22
    unfold W8 at hs21
    refine wp_seq (Zb (Zd hE rfl fun a hE=>ZJ hE rfl (UV) fun a hE=>ZQ (v:=v0_2) hE rfl Kt rfl (At.cat (pre:=[[vI p0.Place],[v0_1]]) hM.rawAt1 ck) fun a hE=>Yq hE rfl Try.underlying85 (hM.rd hv0_2) fun a hE=>Zl hE rfl rfl rfl fun a hE=>Ze ?_))
    refine Zq hE rfl ?_ ?_
    ·intro hb24
     have hs21:=Zt hs21 hb24
     refine wp_skip (Zw (wp_seq (wp_block ?_)))
     obtain ⟨j25,hl26,hF27⟩:=bind_some hs21
     refine ZB (fun a w=>Env 47 a [(2,(ptr b1 0)),(3,(ptr b3 0)),(5,vI s20),(46,vT j25)] ∧ M (Old w0) w0 w [raw b3 (cat [[vI p1.Place],[v1_1],[v1_2]]),raw b1 (cat [[vI p0.Place],[v0_1],[v0_2]])]) ?_ ?_
     ·skip
      obtain ⟨x29,hi31,hl26⟩:=bix hl26
      obtain ⟨cs32,hs33,hA34⟩:=Qt hv0_2 hi31.2 -- ^
      obtain ⟨u35,rfl⟩:=U5 hs33 -- ^
      have h36:=hs33 -- ^
      obtain ⟨x37,hi39,hl26⟩:=bix hl26
      obtain ⟨cs40,hs41,hA42⟩:=Qt hv1_2 hi39.2 -- ^
      obtain ⟨u43,rfl⟩:=U5 hs41 -- ^
      have h44:=hs41 -- ^
      obtain ⟨r45,e46,hl26⟩:=bind_some hl26
      refine ZP [35,36,37,38,39,40,41,42,43,44,45,46] Yr rfl rfl (by decide) rfl hE hM (qsP (fun z=>Zo z.E Za ld rfl (UV) (kr0 rfl)) (qsP (fun z=>ZN (v:=v0_2) z.E Za ld rfl Kt rfl (At.cat (pre:=[[vI p0.Place],[v0_1]]) (z.M.rawAt1) ck) (kr0 rfl)) (qsP (fun z=>Zg z.E Za ld rfl (kr0 rfl)) (qsP (fun z=>Yi z.E Za ld rfl rfl Try.underlying85 VT (z.M.rd hv0_2) hi31.1 (kr0 rfl)) (qsP (fun z=>ZN (v:=u35) z.E Za ld rfl VT rfl (z.M.atk hA34 (KJ hv0_2 hi31.2)) (kr0 rfl)) (qsP (fun z=>Zo z.E Za ld rfl (UV) (kr0 rfl)) (qsP (fun z=>ZN (v:=v1_2) z.E Za ld rfl Kt rfl (At.cat (pre:=[[vI p1.Place],[v1_1]]) (z.M.rawAt0) ck) (kr0 rfl)) (qsP (fun z=>Zg z.E Za ld rfl (kr0 rfl)) (qsP (fun z=>Yi z.E Za ld rfl rfl Try.underlying85 VT (z.M.rd hv1_2) hi39.1 (kr0 rfl)) (qsP (fun z=>ZN (v:=u43) z.E Za ld rfl VT rfl (z.M.atk hA42 (KJ hv1_2 hi39.2)) (kr0 rfl)) (qsP (fun z=>ZX z.E Za ld rfl (cbm Try.func112) (T6 _ x29 u35 (z.M.rdo h36) x37 u43 (z.M.rdo h44) r45 e46) (kc rfl)) (qsP (fun z=>UY z.E Za ld rfl (kr0 rfl)) qs0)))))))))))) ?_
      ·intro a w u hE hM
       refine Zi ?_
       obtain rfl:=Option.some.inj hl26
       refine Zj ?_
       exact ⟨hE.sub ⟨rfl,rfl,rfl,rfl,trivial⟩,hM⟩
     ·skip
      rintro a w ⟨hE,hM⟩
      refine Zq hE rfl ?_ ?_
      ·intro hb48
       have hF27:=Zt hF27 hb48
       refine Zb (Zc hE rfl fun a hE=>Ze ?_)
       obtain rfl:=hx22 _ (ois hF27)
       obtain rfl:=Option.some.inj hF18
       exact wp_ret (Vj (ZL (ZL (Vj (ZL (ZL (kr1 hE rfl rfl hM.kept)))))))
      ·intro hb48
       have hF27:=Zs hF27 hb48
       refine wp_skip (Yv (Zw (wp_region_lit (Zd hE rfl fun a hE=>Zl hE rfl rfl rfl fun a hE=>Zc hE rfl fun a hE=>Zi (Zj ?_)))))
       exact ⟨_,(ois hF27),hE.sub ⟨rfl,rfl,rfl,trivial⟩,hM⟩
    ·intro hb24
     have hs21:=Zs hs21 hb24
     refine wp_exit (Zn (Zn (Yy ?_)))
     obtain rfl:=hx22 _ (ois hs21)
     refine Zj ?_
     have hM:=M.fst (l:=[]) hM
     exact ⟨(),rfl,hE.sub trivial,hM⟩
   ·skip
    rintro a w ⟨s19,ht,hE,hM⟩
    subst ht
    have hF18:=Ki hF18
    refine Zw (Zb (Zc hE rfl fun a hE=>Ze ?_))
    obtain rfl:=Option.some.inj hF18
    exact wp_ret (kr1 hE rfl rfl hM.kept)
def XM (p0 : (List UInt8)) : Option ((Vector UInt8 32) × Int × (Vector UInt8 32) × GAbsence) :=
 (W5 p0).bind fun r7=>(Xa p0).bind fun r11=>(Wa r11.1 r11.2).bind fun r16=>(Yc 64 ([] : (List (Vector UInt8 32)))).bind fun r22=>(if (r16.2 == 0) = true then ((Yc 64 r11.1).bind fun r30=>some r30) else (some r22) : Option ((Vector UInt8 32))).bind fun j26=>((Yb p0 (r7.1,r7.2) 10).bind fun r39=>(if (r39.2 == 0) = true then ((ZI r11.2 (1 : Int)).bind fun x48=>(ZI r11.2 (1 : Int)).bind fun x51=>some ((r11.2.setIfInBounds ((1 : Int)).toNat (x48 + 1)),r16.1.Place,r16.1.Neighbours,(r11.1.length : Int))) else (if (r39.2 == 1) = true then (some (r11.2,wr (r16.1.Place + 1),r16.1.Neighbours,(r11.1.length : Int))) else (if (r39.2 == 2) = true then (some (r11.2,r16.1.Place,r16.1.Neighbours,wr ((r11.1.length : Int) + 1))) else (if (r39.2 == 3) = true then ((app 32 r16.1.Neighbours ([r11.2] : List (Vector UInt8 32))).bind fun l61=>some (r11.2,r16.1.Place,(r16.1.Neighbours ++ ([r11.2] : List (Vector UInt8 32))),(r11.1.length : Int))) else (some (r11.2,r16.1.Place,r16.1.Neighbours,(r11.1.length : Int)))))) : Option ((Vector UInt8 32) × Int × (List (Vector UInt8 32)) × Int)).bind fun j41=>some (j41.1,j41.2.1,j41.2.2.1,j41.2.2.2) : Option ((Vector UInt8 32) × Int × (List (Vector UInt8 32)) × Int)).bind fun j34=>(some (j26,j34.1,j34.2.1,j34.2.2.1,r16.1.Proofs,j34.2.2.2) : Option ((Vector UInt8 32) × (Vector UInt8 32) × Int × (List (Vector UInt8 32)) × (List (List (Vector UInt8 32))) × Int)).bind fun j69=>some (j69.1,j69.2.2.2.2.2,j69.2.1,(⟨j69.2.2.1,j69.2.2.2.1,j69.2.2.2.2.1⟩ : GAbsence))
theorem Qm (w0 : World) (p0 : (List UInt8)) (v0_1 : Value) (hv0_1 : Ro w0 p0 [v0_1]) (r : (Vector UInt8 32) × Int × (Vector UInt8 32) × GAbsence) (hF : XM p0 = some r) :
  Calls Try.prog 43 [v0_1].toArray w0 (fun en w'=>∃ v,en = .returned v ∧ (∃ (y1 : Value) (y2 : Value),v = (Value.tuple [(Value.agg (enc r.1).toArray),vI r.2.1,(Value.agg (enc r.2.2.1).toArray),(Value.agg (cat [[vI r.2.2.2.Place],[y1],[y2]]).toArray)].toArray) ∧ Fr w0 w' [osl NoB (r.2.2.2.Neighbours : List (Vector UInt8 32)) y1,osl NoB (r.2.2.2.Proofs : List (List (Vector UInt8 32))) y2] ∧ Kept (Old w0) w0 w')):=by
 refine ce Try.func43 ?_
 intro a hE
 have hM:=M.start w0
 unfold XM at hF
 refine Zb (Zv hE hM Zr fun b1 w a hM hE=>Zc hE rfl fun a hE=>Zv hE hM Zr fun b3 w a hM hE=>Zv hE hM Wk fun b5 w a hM hE=>Ze (Zb (Zd hE rfl ?_))); intro a hE
 have hM:=M.tailP (m:=[]) hM
 obtain ⟨r7,e8,hF⟩:=bind_some hF
 refine Zy hE rfl (cbm Try.func47) (Qc _ _ _ _ p0 v0_1 hv0_1 hM r7 e8) ?_
 rintro v w a ⟨b9,rfl,hM⟩ hE
 have hM:=M.tailU (m:=[_]) hM
 simp only [List.cons_append,List.nil_append] at hM
 refine Zc hE rfl fun a hE=>Ze (Zb (Zd hE rfl ?_)); intro a hE
 obtain ⟨r11,e12,hF⟩:=bind_some hF
 refine Zy hE rfl (cbm Try.func39) (UZ _ p0 v0_1 (hM.rdo hv0_1) r11 e12) ?_
 rintro v w a ⟨u13,rfl,hFr,hK⟩ hE
 have hM:=hM.add hK hFr
 refine Zd hE rfl fun a hE=>ZZ hE Za ld rfl rfl fun a hE=>ZZ hE Za ld rfl rfl fun a hE=>Zv hE hM Zr fun b14 w a hM hE=>Zc hE rfl fun a hE=>Zk (seg:=enc r11.2) (cs':=enc r11.2) hE hM Za rfl rfl rfl Zr (Flat.len _) (zle flq) (Flat.cell _) (Zh flq) fun w a hM hE=>Ze (Zb (Zd hE rfl fun a hE=>Zp hE rfl Zr rfl hM.rawAt0 (Flat.len _) ?_)); intro a hE
 obtain ⟨r16,e17,hF⟩:=bind_some hF
 refine Zy hE rfl (cbm Try.func41) (TO _ r11.1 u13 (hM.sl (pre:=[_]) noB) r11.2 r16 e17) ?_
 rintro v w a ⟨u18,u19,rfl,hFr,hK⟩ hE
 have hM:=hM.add hK hFr
 refine Zd hE rfl fun a hE=>ZZ hE Za ld rfl rfl fun a hE=>ZZ hE Za ld rfl rfl fun a hE=>Zv hE hM Wk fun b20 w a hM hE=>Zk (seg:=cat [[vI r16.1.Place],[u18],[u19]]) (cs':=cat [[vI r16.1.Place],[u18],[u19]]) hE hM Za rfl rfl rfl Wk cq (Nat.le_of_eq ((Nat.zero_add _).trans (Eq.trans cq (Eq.symm cq)))) (Y2 (cc1 (Flat.cell (r16.1.Place : Int)) (cc1 (Rep.cell (hM.sl (pre:=[_]) noB)) (cc1 (Rep.cell (hM.sl (pre:=[_,_]) noB)) cc0)))) (Zh (Eq.trans cq (Eq.symm cq))) fun w a hM hE=>Zc hE rfl fun a hE=>Ze (Zb ?_)
 obtain ⟨r22,e23,hF⟩:=bind_some hF
 refine Zy hE rfl H4 (Wj 64 _ ([] : (List (Vector UInt8 32))) (Value.slice none 0 0) J3 r22 e23) ?_
 rintro v w a ⟨rfl,hK⟩ hE
 have hM:=hM.keep hK
 refine Zd hE rfl fun a hE=>Yq hE rfl Try.underlying80 (hM.sl (pre:=[_,_,_,_]) noB) fun a hE=>Zv hE hM Zr fun b24 w a hM hE=>Zk (seg:=enc r22) (cs':=enc r22) hE hM Za rfl rfl rfl Zr (Flat.len _) (zle flq) (Flat.cell _) (Zh flq) fun w a hM hE=>Zc hE rfl fun a hE=>Ze ?_
 obtain ⟨j26,hl27,hF28⟩:=bind_some hF
 refine ZB (fun a w=>Env 63 a [(2,(ptr b1 0)),(4,(ptr b3 0)),(5,(ptr b5 0)),(6,(ptr b9 0)),(8,(ptr b14 0)),(9,(ptr b20 0)),(11,(ptr b24 0)),(12,(vI (r11.1.length : Int)))] ∧ M (Old w0) w0 w [raw b24 (enc j26),raw b20 (cat [[vI r16.1.Place],[u18],[u19]]),osl NoB (r16.1.Neighbours : List (Vector UInt8 32)) u18,osl NoB (r16.1.Proofs : List (List (Vector UInt8 32))) u19,raw b14 (enc r11.2),raw b9 (cat [[v0_1],[vI r7.1],[(Value.int .u64 r7.2)]]),raw b5 (cat [[vI 0],[(Value.slice none 0 0)],[(Value.slice none 0 0)]]),raw b3 (enc (Vector.replicate 32 (0 : UInt8))),raw b1 (enc (Vector.replicate 32 (0 : UInt8)))]) ?_ ?_
 ·skip
  refine Zb (Zd hE rfl fun a hE=>Zl hE rfl rfl rfl fun a hE=>Ze ?_)
  refine Zq hE rfl ?_ ?_
  ·intro hb29
   have hl27:=Zt hl27 hb29
   refine wp_region_lit (Zd hE rfl ?_); intro a hE
   obtain ⟨r30,e31,hl27⟩:=bind_some hl27
   refine Zy hE rfl H4 (Wj 64 _ r11.1 u13 (hM.sl (pre:=[_,_,_,_,_]) noB) r30 e31) ?_
   rintro v w a ⟨rfl,hK⟩ hE
   have hM:=hM.keep hK
   refine Zk (seg:=enc r30) (cs':=enc r30) hE hM Za rfl rfl rfl Zr (Flat.len _) (zle flq) (Flat.cell _) (Zh flq) fun w a hM hE=>Zi ?_
   obtain rfl:=Option.some.inj hl27
   refine Zj ?_
   have hM:=M.fst (l:=[_,_,_,_,_,_,_,_,_]) hM.pull9.pull9.pull9.pull9.pull8.pull8.pull8.pull8.pull8
   exact ⟨hE.sub ⟨rfl,rfl,rfl,rfl,rfl,rfl,rfl,rfl,trivial⟩,hM⟩
  ·intro hb29
   have hl27:=Zs hl27 hb29
   refine wp_skip ?_
   obtain rfl:=Option.some.inj hl27
   refine Zj ?_
   have hM:=M.fst (l:=[_,_,_,_,_,_,_,_,_]) hM.pull9.pull9.pull9.pull9.pull8.pull8.pull8.pull8.pull8
   exact ⟨hE.sub ⟨rfl,rfl,rfl,rfl,rfl,rfl,rfl,rfl,trivial⟩,hM⟩
 ·skip
  rintro a w ⟨hE,hM⟩
  obtain ⟨j34,hl35,hF36⟩:=bind_some hF28
  refine ZB (fun a w=>∃ (u37 : Value),Env 63 a [(2,(ptr b1 0)),(4,(ptr b3 0)),(5,(ptr b5 0)),(8,(ptr b14 0)),(9,(ptr b20 0)),(11,(ptr b24 0)),(12,vI j34.2.2.2)] ∧ M (Old w0) w0 w [raw b24 (enc j26),raw b20 (cat [[vI j34.2.1],[u37],[u19]]),osl NoB (r16.1.Proofs : List (List (Vector UInt8 32))) u19,raw b14 (enc j34.1),raw b5 (cat [[vI 0],[(Value.slice none 0 0)],[(Value.slice none 0 0)]]),raw b3 (enc (Vector.replicate 32 (0 : UInt8))),raw b1 (enc (Vector.replicate 32 (0 : UInt8))),osl NoB (j34.2.2.1 : List (Vector UInt8 32)) u37]) ?_ ?_
  ·skip
   refine Zb (Zd hE rfl ?_); intro a hE
   have hM:=M.tailP (m:=[_]) hM.pull5
   obtain ⟨r39,e40,hl35⟩:=bind_some hl35
   refine Zy hE rfl Js (YD _ _ _ _ b9 p0 v0_1 hv0_1 (r7.1,r7.2) 10 hM r39 e40) ?_
   rintro v w a ⟨rfl,hM⟩ hE
   have hM:=M.tailU (m:=[_]) hM
   simp only [List.cons_append,List.nil_append] at hM
   refine Ze (wp_block (Zb (Zl hE rfl rfl rfl fun a hE=>Zc hE rfl fun a hE=>Ze ?_)))
   obtain ⟨j41,hl42,hF43⟩:=bind_some hl35
   refine ZW (fun a w=>∃ (u44 : Value),Env 63 a [(2,(ptr b1 0)),(4,(ptr b3 0)),(5,(ptr b5 0)),(8,(ptr b14 0)),(9,(ptr b20 0)),(11,(ptr b24 0)),(12,vI j41.2.2.2)] ∧ M (Old w0) w0 w [raw b24 (enc j26),raw b20 (cat [[vI j41.2.1],[u44],[u19]]),osl NoB (r16.1.Proofs : List (List (Vector UInt8 32))) u19,raw b14 (enc j41.1),raw b5 (cat [[vI 0],[(Value.slice none 0 0)],[(Value.slice none 0 0)]]),raw b3 (enc (Vector.replicate 32 (0 : UInt8))),raw b1 (enc (Vector.replicate 32 (0 : UInt8))),osl NoB (j41.2.2.1 : List (Vector UInt8 32)) u44]) ?_ ?_
   ·skip
    refine Zq hE rfl ?_ ?_
    ·intro hb46
     have hl42:=Zt hl42 hb46
     refine wp_region_lit ?_
     obtain ⟨x48,hi47,hl42⟩:=bvx hl42
     refine ZH hE rfl rfl Try.underlying82 ty5 hi47.1 fun a hE=>ZQ (v:=(vB x48)) hE rfl ty5 rfl (At.vec hM.rawAt5 hi47.2) fun a hE=>Zl hE rfl rfl (bB_add x48 1) ?_; intro a hE
     obtain ⟨x51,hi50,hl42⟩:=bvx hl42
     refine ZH hE rfl rfl Try.underlying82 ty5 hi50.1 ?_; intro a hE
     have hM:=hM.pull5
     refine Zk (seg:=[(vB (x48 + 1))]) (cs':=enc (r11.2.setIfInBounds ((1 : Int)).toNat (x48 + 1))) hE hM Za rfl rfl rfl ty5 rfl (ZR (v:=r11.2) (x:=x48 + 1) hi50.1) (Flat.cell (x48 + 1 : UInt8)) (ZE (v:=r11.2) (x:=x48 + 1) hi50.1) fun w a hM hE=>Zi ?_
     obtain rfl:=Option.some.inj hl42
     refine Zj ?_
     have hM:=M.fst (l:=[_,_,_,_,_,_,_,_]) hM.pull4.pull8.pull8.pull8.pull4.pull8.pull8.pull8
     exact ⟨u18,hE.sub ⟨rfl,rfl,rfl,rfl,rfl,rfl,rfl,trivial⟩,hM⟩
    ·intro hb46
     have hl42:=Zs hl42 hb46
     refine Zb (Zl hE rfl rfl rfl fun a hE=>Zc hE rfl fun a hE=>Ze ?_)
     refine Zq hE rfl ?_ ?_
     ·intro hb54
      have hl42:=Zt hl42 hb54
      refine wp_region_lit (ZJ hE rfl (Xv) fun a hE=>ZQ (v:=(vI r16.1.Place)) hE rfl ty2 rfl (At.cat (pre:=[]) hM.rawAt2 cl0) fun a hE=>Zl hE rfl rfl rfl fun a hE=>ZJ hE rfl (Xv) ?_); intro a hE
      have hM:=hM.pull2
      refine Zk (seg:=[(vI (wr (r16.1.Place + 1)))]) hE hM Za rfl rfl rfl ty2 rfl (UF (pre:=[]) cl0 rfl) (Flat.cell (wr (r16.1.Place + 1) : Int)) (Ww (pre:=[]) cl0 rfl) fun w a hM hE=>Zi ?_
      obtain rfl:=Option.some.inj hl42
      refine Zj ?_
      have hM:=M.fst (l:=[_,_,_,_,_,_,_,_]) hM.pull3.pull8.pull8.pull8.pull8.pull8.pull6.pull8
      exact ⟨u18,hE.sub ⟨rfl,rfl,rfl,rfl,rfl,rfl,rfl,trivial⟩,hM⟩
     ·intro hb54
      have hl42:=Zs hl42 hb54
      refine Zb (Zl hE rfl rfl rfl fun a hE=>Zc hE rfl fun a hE=>Ze ?_)
      refine Zq hE rfl ?_ ?_
      ·intro hb56
       have hl42:=Zt hl42 hb56
       refine wp_region_lit (Zd hE rfl fun a hE=>Zl hE rfl rfl rfl fun a hE=>Zc hE rfl fun a hE=>Zi ?_)
       obtain rfl:=Option.some.inj hl42
       refine Zj ?_
       have hM:=M.fst (l:=[_,_,_,_,_,_,_,_]) hM.pull3.pull8.pull8.pull8.pull8.pull8.pull8.pull8
       exact ⟨u18,hE.sub ⟨rfl,rfl,rfl,rfl,rfl,rfl,rfl,trivial⟩,hM⟩
      ·intro hb56
       have hl42:=Zs hl42 hb56
       refine Zb (Zl hE rfl rfl rfl fun a hE=>Zc hE rfl fun a hE=>Ze ?_)
       refine Zq hE rfl ?_ ?_
       ·intro hb58
        have hl42:=Zt hl42 hb58
        refine wp_region_lit (ZJ hE rfl (WA) fun a hE=>ZQ (v:=u18) hE rfl VT rfl (At.cat (pre:=[[vI r16.1.Place]]) hM.rawAt2 ck) fun a hE=>Zp hE rfl Zr rfl hM.rawAt5 (Flat.len _) fun a hE=>Z3 (xs:=[.tmp 55]) (l:=([r11.2] : List (Vector UInt8 32))) (vs:=[(Value.agg (enc r11.2).toArray)]) hE hM Za ld rfl rfl Try.underlying80 Zr rfl (by decide) rfl ?_); intro u59 w a hM hE
        obtain ⟨l61,e62,hl42⟩:=bind_some hl42
        obtain ⟨e65,rfl⟩:=Yn e62
        have hM:=hM.pull4
        refine Yf hE hM Za ld rfl rfl (hM.sl (pre:=[_]) noB) Try.underlying80 Zr rfl (by decide) e65 fun u63 w a hM hE=>ZJ hE rfl (WA) ?_; intro a hE
        have hM:=hM.pull4
        refine Zk (seg:=[u63]) hE hM Za rfl rfl (Ve (hM.sl (pre:=[_]) noB)) VT rfl (UF (pre:=[[vI r16.1.Place]]) ck rfl) (Rep.cell (hM.sl (pre:=[_]) noB)) (Ww (pre:=[[vI r16.1.Place]]) ck rfl) fun w a hM hE=>Zi ?_
        obtain rfl:=Option.some.inj hl42
        refine Zj ?_
        have hM:=M.fst (l:=[_,_,_,_,_,_,_,_]) hM.pull1.pull9.pull9.pull9.pull9.pull9.pull6.pull9
        exact ⟨u63,hE.sub ⟨rfl,rfl,rfl,rfl,rfl,rfl,rfl,trivial⟩,hM⟩
       ·intro hb58
        have hl42:=Zs hl42 hb58
        refine wp_skip ?_
        obtain rfl:=Option.some.inj hl42
        refine Zj ?_
        have hM:=M.fst (l:=[_,_,_,_,_,_,_,_]) hM.pull3.pull8.pull8.pull8.pull8.pull8.pull8.pull8
        exact ⟨u18,hE.sub ⟨rfl,rfl,rfl,rfl,rfl,rfl,rfl,trivial⟩,hM⟩
   ·skip
    rintro a w ⟨u44,hE,hM⟩
    refine Yv ?_
    obtain rfl:=Option.some.inj hF43
    refine Zj ?_
    exact ⟨u44,hE.sub ⟨rfl,rfl,rfl,rfl,rfl,rfl,rfl,trivial⟩,hM⟩
  ·skip
   rintro a w ⟨u37,hE,hM⟩
   obtain ⟨j69,hl70,hF71⟩:=bind_some hF36
   refine ZB (fun a w=>∃ (u72 : Value) (u74 : Value),Env 63 a [(2,(ptr b1 0)),(3,vI j69.2.2.2.2.2),(4,(ptr b3 0)),(5,(ptr b5 0))] ∧ M (Old w0) w0 w [raw b5 (cat [[vI j69.2.2.1],[u72],[u74]]),raw b3 (enc j69.2.1),raw b1 (enc j69.1),osl NoB (j69.2.2.2.1 : List (Vector UInt8 32)) u72,osl NoB (j69.2.2.2.2.1 : List (List (Vector UInt8 32))) u74]) ?_ ?_
   ·skip
    have hM:=hM.pull6.pull6
    refine YV (its:=[raw b24 (enc j26),raw b20 (cat [[vI j34.2.1],[u37],[u19]]),osl NoB (r16.1.Proofs : List (List (Vector UInt8 32))) u19,raw b14 (enc j34.1),raw b5 (cat [[vI 0],[(Value.slice none 0 0)],[(Value.slice none 0 0)]]),osl NoB (j34.2.2.1 : List (Vector UInt8 32)) u37]) (mk:=([mkT 4 (raw b1 (enc (Vector.replicate 32 (0 : UInt8)))) (raw b1 (enc j26)),mkT 6 (raw b3 (enc (Vector.replicate 32 (0 : UInt8)))) (raw b3 (enc j34.1))] : Mk)) [59,60,61,62,67,3,69] Yr rfl rfl (by decide) rfl hE (fun u=>M.qT (M.qT (M.q0 hM.drew u))) (qsP (v:=(Value.agg (enc j26).toArray)) ?_ (qsP (fun z=>Zg z.E Za ld rfl (kr0 rfl)) (qsP (v:=(Value.agg (enc j34.1).toArray)) ?_ (qsP (v:=(Value.agg (cat [[vI j34.2.1],[u37],[u19]]).toArray)) ?_ (qsM (pr:=fun v=>True) ?_ (qsP (fun z=>VD z.E Za ld rfl (kr0 rfl)) (qsM (pr:=fun v=>True) ?_ qs0))))))) ?_
    ·intro a w ux76 D z
     have hE:=z.E
     have hD : D 0 = false:=z.F
     have hM:=(z.M.togA (pre:=[_,_,_,_,_,_]) (Kv (j:=4) (k:=0) z.c rfl rfl rfl hD)).togA (pre:=[_,_,_,_,_,_,_]) (Kv (j:=6) (k:=2) z.c rfl rfl rfl hD)
     exact Zp hE rfl Zr rfl hM.rawAt0 (Flat.len _) fun a hE=>⟨Kept.refl _ _,_,rfl,hE⟩
    ·intro a w ux76 D z
     have hE:=z.E
     have hD : D 2 = false:=z.F
     have hM:=z.M.togA (pre:=[_,_,_,_,_,_,_]) (Kv (j:=6) (k:=0) z.c rfl rfl rfl hD)
     exact Zp hE rfl Zr rfl hM.rawAt3 (Flat.len _) fun a hE=>⟨Kept.refl _ _,_,rfl,hE⟩
    ·intro a w ux76 D z
     have hE:=z.E
     have hM:=z.M
     exact Zp hE rfl Wk rfl hM.rawAt1 cq fun a hE=>⟨Kept.refl _ _,_,rfl,hE⟩
    ·intro a w ux76 D z
     have hE:=z.E
     have hD : D 4 = false:=z.F
     have hM:=(z.M.togA (pre:=[_,_,_,_,_,_]) hD).pull6
     exact Zk (seg:=enc j26) (cs':=enc j26) hE hM Za rfl rfl rfl Zr (Flat.len _) (zle flq) (Flat.cell _) (Zh flq) fun w a hM hE=>⟨undef,_,rfl,Env.dummy hE (by decide),M.qTog (mk1:=[]) (mk2:=[_]) hM rfl,trivial⟩
    ·intro a w ux76 D z
     have hE:=z.E
     have hD : D 6 = false:=z.F
     have hM:=(z.M.togA (pre:=[_,_,_,_,_,_,_]) hD).pull7
     exact Zk (seg:=enc j34.1) (cs':=enc j34.1) hE hM Za rfl rfl rfl Zr (Flat.len _) (zle flq) (Flat.cell _) (Zh flq) fun w a hM hE=>⟨undef,_,rfl,Env.dummy hE (by decide),M.qTog (mk1:=[_]) (mk2:=[]) hM rfl,trivial⟩
    ·intro a w ux76 D hE hM hG hall
     have d4:=hall 4 (by decide)
     have d6:=hall 6 (by decide)
     have hM:=((hM.togB (pre:=[_,_,_,_,_,_]) d4).togB (pre:=[_,_,_,_,_,_,_]) d6).pull4
     refine Zk (seg:=cat [[vI j34.2.1],[u37],[u19]]) (cs':=cat [[vI j34.2.1],[u37],[u19]]) hE hM Za rfl rfl rfl Wk cq (Nat.le_of_eq ((Nat.zero_add _).trans (Eq.trans cq (Eq.symm cq)))) (Y2 (cc1 (Flat.cell (j34.2.1 : Int)) (cc1 (Rep.cell (hM.sl (pre:=[_,_,_,_,_]) noB)) (cc1 (Rep.cell (hM.sl (pre:=[_,_,_]) noB)) cc0)))) (Zh (Eq.trans cq (Eq.symm cq))) fun w a hM hE=>Zi ?_
     obtain rfl:=Option.some.inj hl70
     refine Zj ?_
     have hM:=M.fst (l:=[_,_,_,_,_]) hM.pull3.pull5.pull6.pull7.pull4
     exact ⟨u37,u19,hE.sub ⟨rfl,rfl,rfl,rfl,trivial⟩,hM⟩
   ·skip
    rintro a w ⟨u72,u74,hE,hM⟩
    obtain rfl:=Option.some.inj hF71
    have hq78 : Z6 Try.prog _ _ (.cell 2 82) _:=ZD hE rfl Zr rfl hM.rawAt2 (Flat.len _) rfl
    have hq79 : Z6 Try.prog _ _ (.cell 4 82) _:=ZD hE rfl Zr rfl hM.rawAt1 (Flat.len _) rfl
    have hq80 : Z6 Try.prog _ _ (.cell 5 87) _:=ZD hE rfl Wk rfl hM.rawAt0 cq rfl
    have hM:=M.fst (l:=[_,_]) hM.pull4.pull4
    exact wp_ret (k_ret4 hE rfl hq78 (ZV hE rfl) hq79 hq80 ⟨_,rfl,u72,u74,rfl,hM.outF (X2 (X2 Wy)),hM.kept⟩)
def Yu : Nat → Ghasher → (Vector UInt8 32) → Int → Int → (List (Vector UInt8 32)) → Option ((Vector UInt8 32) × Bool)
 | 0,_,_,_,_,_=>none
 | fu + 1,p0,p1,p2,p3,p4=>if (p3 == 1) = true then (some (p1,(p4.length : Int) == 0)) else (if ((p4.length : Int) == 0) = true then (some ((Vector.replicate 32 (0 : UInt8)),false)) else ((VW p3).bind fun r12=>(idx p4 (wr ((p4.length : Int) - 1))).bind fun x14=>(slc p4 (0 : Int) (wr ((p4.length : Int) - 1))).bind fun l21=>if (decide (p2 < r12)) = true then ((Yu fu p0 p1 p2 r12 l21).bind fun r25=>(Y7 p0 r25.1 x14).bind fun r29=>some (r29,r25.2)) else ((Yu fu p0 p1 (wr (p2 - r12)) (wr (p3 - r12)) l21).bind fun r32=>(Y7 p0 x14 r32.1).bind fun r36=>some (r36,r32.2))))
theorem WU : ∀ (fu : Nat) (w0 : World) (p0 : Ghasher) (v0_1 : Value) (hv0_1 : Ro w0 p0.engine [v0_1]) (p1 : (Vector UInt8 32)) (p2 : Int) (p3 : Int) (p4 : (List (Vector UInt8 32))) (v4_1 : Value) (hv4_1 : Ro w0 p4 [v4_1]) (r : (Vector UInt8 32) × Bool) (hF : Yu fu p0 p1 p2 p3 p4 = some r),
  Calls Try.prog 114 [(Value.agg (cat [[v0_1]]).toArray),(Value.agg (enc p1).toArray),vI p2,vI p3,v4_1].toArray w0 (Rt w0 (Value.tuple [(Value.agg (enc r.1).toArray),vT r.2].toArray)):=by
 intro fu
 induction fu with
 | zero=>intros; rename_i hF; unfold Yu at hF; cases hF
 | succ fu ih =>
 have WU:=fun (_ : Nat)=>ih
 intro w0 p0 v0_1 hv0_1 p1 p2 p3 p4 v4_1 hv4_1 r hF
 refine ce Try.func114 ?_
 intro a hE
 have hM:=M.start w0
 unfold Yu at hF
 refine Zb (Z7 (cs:=cat [[v0_1]]) hE hM Za ld rfl rfl fun b1 w a hM hE=>Z7 (cs:=enc p1) hE hM Za ld rfl rfl fun b3 w a hM hE=>Zv hE hM Zr fun b5 w a hM hE=>Zc hE rfl fun a hE=>Ze (wp_seq (Zb (Zd hE rfl fun a hE=>Zl hE rfl rfl rfl fun a hE=>Ze ?_))))
 refine Zq hE rfl ?_ ?_
 ·intro hb7
  have hF:=Zt hF hb7
  refine Zb (Zp hE rfl Zr rfl hM.rawAt1 (Flat.len _) fun a hE=>Zd hE rfl fun a hE=>Yq hE rfl Try.underlying80 (hM.rd hv4_1) fun a hE=>Zl hE rfl rfl rfl fun a hE=>Zk (seg:=enc p1) (cs':=enc p1) hE hM Za rfl rfl rfl Zr (Flat.len _) (zle flq) (Flat.cell _) (Zh flq) fun w a hM hE=>Zc hE rfl fun a hE=>Ze ?_)
  obtain rfl:=Option.some.inj hF
  have hq8 : Z6 Try.prog _ _ (.cell 10 82) _:=ZD hE rfl Zr rfl hM.rawAt0 (Flat.len _) rfl
  exact wp_ret (ZL (WR hE rfl hq8 (ZV hE rfl) ⟨_,rfl,rfl,hM.kept⟩))
 ·intro hb7
  have hF:=Zs hF hb7
  refine wp_skip (Zw (wp_seq (Zb (Zd hE rfl fun a hE=>Yq hE rfl Try.underlying80 (hM.rd hv4_1) fun a hE=>Zl hE rfl rfl rfl fun a hE=>Ze ?_))))
  refine Zq hE rfl ?_ ?_
  ·intro hb9
   have hF:=Zt hF hb9
   refine Zb (Yx (parts:=[]) (vs:=[]) (cs:=enc (Vector.replicate 32 (0 : UInt8))) hE Za ld rfl rfl Zr rfl ty5 Yk fun a hE=>Zk (seg:=enc (Vector.replicate 32 (0 : UInt8))) (cs':=enc (Vector.replicate 32 (0 : UInt8))) hE hM Za rfl rfl rfl Zr (Flat.len _) (zle flq) (Flat.cell _) (Zh flq) fun w a hM hE=>Zc hE rfl fun a hE=>Ze ?_)
   obtain rfl:=Option.some.inj hF
   have hq10 : Z6 Try.prog _ _ (.cell 10 82) _:=ZD hE rfl Zr rfl hM.rawAt0 (Flat.len _) rfl
   exact wp_ret (ZL (WR hE rfl hq10 (ZV hE rfl) ⟨_,rfl,rfl,hM.kept⟩))
  ·intro hb9
   have hF:=Zs hF hb9
   refine wp_skip (Zw (wp_seq ?_))
   obtain ⟨r12,e13,hF⟩:=bind_some hF
   obtain ⟨x14,hi16,hF⟩:=bix hF
   refine YV (its:=[raw b5 (enc (Vector.replicate 32 (0 : UInt8))),raw b3 (enc p1),raw b1 (cat [[v0_1]])]) (mk:=([mkO 8 (fun v=>UM v (enc (Vector.replicate 32 (0 : UInt8))))] : Mk)) [28,29,30,31,32,33,34,35,13,12] Yr rfl rfl (by decide) rfl hE (fun u=>M.qE (M.q0 hM.drew u) emO) (qsP (fun z=>Zg z.E Za ld rfl (kr0 rfl)) (qsP (fun z=>ZX z.E Za ld rfl yz (Qs _ p3 r12 e13) (kc rfl)) (qsP (fun z=>Zg z.E Za ld rfl (kr0 rfl)) (qsP (fun z=>Zg z.E Za ld rfl (kr0 rfl)) (qsP (v:=(vI (p4.length : Int))) ?_ (qsP (v:=(vI (wr ((p4.length : Int) - 1)))) (fun z=>Z1 z.E Za ld rfl rfl rfl (kr0 rfl)) (qsP (v:=(ptr (sb v4_1) (so v4_1 + ((wr ((p4.length : Int) - 1))).toNat * 32))) ?_ (qsP (v:=(Value.agg (enc x14).toArray)) ?_ (qsM (pr:=fun v=>True) ?_ (qsP (fun z=>VD z.E Za ld rfl (kr0 rfl)) qs0)))))))))) ?_
   ·intro a w ux11 D z
    have hE:=z.E
    have hM:=z.M
    exact Yq hE rfl Try.underlying80 (hM.rd hv4_1) fun a hE=>⟨Kept.refl _ _,_,rfl,hE⟩
   ·intro a w ux11 D z
    have hE:=z.E
    have hM:=z.M
    exact Wx hE rfl rfl Try.underlying80 Zr (hM.rd hv4_1) hi16.1 fun a hE=>⟨Kept.refl _ _,_,rfl,hE⟩
   ·intro a w ux11 D z
    have hE:=z.E
    have hM:=z.M
    exact Zp hE rfl Zr rfl (YA (hM.rd hv4_1) hi16.2) (Flat.len _) fun a hE=>⟨Kept.refl _ _,_,rfl,hE⟩
   ·intro a w ux11 D z
    have hE:=z.E
    have hD : D 8 = false:=z.F
    have hM:=z.M
    refine Zv hE hM Zr ?_; intro b17 w a hM hE
    have hM:=hM.pack1 (it:=UM _ (enc (Vector.replicate 32 (0 : UInt8)))) (fun w w' fp ⟨b',e,k⟩ hb=>⟨b',e,XC w w' fp k hb⟩) (fun fp k=>⟨_,rfl,k⟩)
    exact ⟨_,_,rfl,hE,M.qFill (mk1:=[]) (mk2:=[]) (f:=fun v=>UM v (enc (Vector.replicate 32 (0 : UInt8)))) hM rfl hD,trivial⟩
   ·intro a w ux11 D hE hM hG hall
    have d8:=hall 8 (by decide)
    have hM:=(hM.sure (pre:=[_,_,_]) d8).pull
    obtain ⟨_,⟨b19,f20,_⟩,_⟩:=hM.head
    have hM:=hM.pack1 XC (it:=raw b19 (enc (Vector.replicate 32 (0 : UInt8)))) (fun fp ⟨b2,e2,k2⟩=>by rw [f20] at e2; simp [ptr] at e2; subst e2; exact k2)
    have hE:=hE.setq (t:=13) rfl f20
    refine Zk (seg:=enc x14) (cs':=enc x14) hE hM Za rfl rfl rfl Zr (Flat.len _) (zle flq) (Flat.cell _) (Zh flq) fun w a hM hE=>Zi (Zw (Zb (Zd hE rfl fun a hE=>Zd hE rfl fun a hE=>Yq hE rfl Try.underlying80 (hM.rd hv4_1) fun a hE=>Zl hE rfl rfl rfl ?_))); intro a hE
    obtain ⟨l21,e22,hF⟩:=bind_some hF
    refine WK hE Za ld rfl rfl rfl rfl rfl Try.underlying80 Zr (hM.rd hv4_1) e22 ?_; intro a hE
    have h23 : Rep.sat (Old w0) w0 l21 [(ZO v4_1 ((0 : Int)).toNat ((wr ((p4.length : Int) - 1))).toNat 32)] []:=Yg hv4_1 e22 -- ^
    refine Zc hE rfl fun a hE=>Ze (wp_seq (Zb (Zd hE rfl fun a hE=>Zd hE rfl fun a hE=>Zl hE rfl rfl rfl fun a hE=>Ze ?_)))
    refine Zq hE rfl ?_ ?_
    ·intro hb24
     have hF:=Zt hF hb24
     refine Zb (Zp hE rfl V2 rfl hM.rawAt3 cq fun a hE=>Zp hE rfl Zr rfl hM.rawAt2 (Flat.len _) fun a hE=>Zd hE rfl fun a hE=>Zd hE rfl fun a hE=>Zd hE rfl ?_); intro a hE
     obtain ⟨r25,e26,hF⟩:=bind_some hF
     refine Zy hE rfl yo (WU fu _ p0 v0_1 (hM.rdo hv0_1) p1 p2 r12 l21 (ZO v4_1 ((0 : Int)).toNat ((wr ((p4.length : Int) - 1))).toNat 32) (hM.rdo h23) r25 e26) ?_
     rintro v w a ⟨rfl,hK⟩ hE
     have hM:=hM.keep hK
     refine Zd hE rfl fun a hE=>ZZ hE Za ld rfl rfl fun a hE=>ZZ hE Za ld rfl rfl fun a hE=>Zv hE hM Zr fun b27 w a hM hE=>Zk (seg:=enc r25.1) (cs':=enc r25.1) hE hM Za rfl rfl rfl Zr (Flat.len _) (zle flq) (Flat.cell _) (Zh flq) fun w a hM hE=>Zc hE rfl fun a hE=>Ze (Zb (Zp hE rfl V2 rfl hM.rawAt4 cq fun a hE=>Zp hE rfl Zr rfl hM.rawAt0 (Flat.len _) fun a hE=>Zp hE rfl Zr rfl hM.rawAt1 (Flat.len _) ?_)); intro a hE
     obtain ⟨r29,e30,hF⟩:=bind_some hF
     refine Zy hE rfl jf (Ur _ p0 v0_1 (hM.rdo hv0_1) r25.1 x14 r29 e30) ?_
     rintro v w a ⟨rfl,hK⟩ hE
     have hM:=hM.keep hK
     refine Zd hE rfl ?_; intro a hE
     have hM:=hM.pull2
     refine Zk (seg:=enc r29) (cs':=enc r29) hE hM Za rfl rfl rfl Zr (Flat.len _) (zle flq) (Flat.cell _) (Zh flq) fun w a hM hE=>Zc hE rfl fun a hE=>Ze ?_
     obtain rfl:=Option.some.inj hF
     have hq31 : Z6 Try.prog _ _ (.cell 10 82) _:=ZD hE rfl Zr rfl hM.rawAt0 (Flat.len _) rfl
     exact wp_ret (ZL (WR hE rfl hq31 (ZV hE rfl) ⟨_,rfl,rfl,hM.kept⟩))
    ·intro hb24
     have hF:=Zs hF hb24
     refine wp_skip (Zw (Zb (Zp hE rfl V2 rfl hM.rawAt3 cq fun a hE=>Zp hE rfl Zr rfl hM.rawAt2 (Flat.len _) fun a hE=>Zd hE rfl fun a hE=>Zd hE rfl fun a hE=>Zl hE rfl rfl rfl fun a hE=>Zd hE rfl fun a hE=>Zd hE rfl fun a hE=>Zl hE rfl rfl rfl fun a hE=>Zd hE rfl ?_))); intro a hE
     obtain ⟨r32,e33,hF⟩:=bind_some hF
     refine Zy hE rfl yo (WU fu _ p0 v0_1 (hM.rdo hv0_1) p1 (wr (p2 - r12)) (wr (p3 - r12)) l21 (ZO v4_1 ((0 : Int)).toNat ((wr ((p4.length : Int) - 1))).toNat 32) (hM.rdo h23) r32 e33) ?_
     rintro v w a ⟨rfl,hK⟩ hE
     have hM:=hM.keep hK
     refine Zd hE rfl fun a hE=>ZZ hE Za ld rfl rfl fun a hE=>ZZ hE Za ld rfl rfl fun a hE=>Zv hE hM Zr fun b34 w a hM hE=>Zk (seg:=enc r32.1) (cs':=enc r32.1) hE hM Za rfl rfl rfl Zr (Flat.len _) (zle flq) (Flat.cell _) (Zh flq) fun w a hM hE=>Zc hE rfl fun a hE=>Ze (Zb (Zp hE rfl V2 rfl hM.rawAt4 cq fun a hE=>Zp hE rfl Zr rfl hM.rawAt1 (Flat.len _) fun a hE=>Zp hE rfl Zr rfl hM.rawAt0 (Flat.len _) ?_)); intro a hE
     obtain ⟨r36,e37,hF⟩:=bind_some hF
     refine Zy hE rfl jf (Ur _ p0 v0_1 (hM.rdo hv0_1) x14 r32.1 r36 e37) ?_
     rintro v w a ⟨rfl,hK⟩ hE
     have hM:=hM.keep hK
     refine Zd hE rfl ?_; intro a hE
     have hM:=hM.pull2
     refine Zk (seg:=enc r36) (cs':=enc r36) hE hM Za rfl rfl rfl Zr (Flat.len _) (zle flq) (Flat.cell _) (Zh flq) fun w a hM hE=>Zc hE rfl fun a hE=>Ze ?_
     obtain rfl:=Option.some.inj hF
     have hq38 : Z6 Try.prog _ _ (.cell 10 82) _:=ZD hE rfl Zr rfl hM.rawAt0 (Flat.len _) rfl
     exact wp_ret (WR hE rfl hq38 (ZV hE rfl) ⟨_,rfl,rfl,hM.kept⟩)
def YG (p1 : Int) (p3 : GAbsence) (s25 : Int × (List Int)) : Option (Fl (Int × (List Int)) (List Int)) :=
 if (decide (s25.1 < 2)) = true then (((ZI (((Vector.replicate 2 (0 : Int)).setIfInBounds 0 (wr (p3.Place - 1))).setIfInBounds 1 p3.Place) s25.1).bind fun x37=>(XK x37 0 (wr (p1 - 1))).bind fun r40=>(if r40 = true then ((app 8 s25.2 ([x37] : List Int)).bind fun l50=>some (s25.2 ++ ([x37] : List Int))) else (some s25.2) : Option ((List Int))).bind fun j42=>some j42 : Option ((List Int))).bind fun j32=>some (Fl.nx (wr (s25.1 + 1),j32))) else (some (Fl.ex s25.2))
def XS (p0 : (Vector UInt8 32)) (p1 : Int) (p2 : (Vector UInt8 32)) (p3 : GAbsence) (j20 : (List Int)) (r59 : Ghasher) (s75 : Int) : Option (Fl Int (Fl Unit Bool)) :=
 if (decide (s75 < (j20.length : Int))) = true then ((idx j20 s75).bind fun x80=>((idx p3.Neighbours s75).bind fun x87=>(ZT x87 p2).bind fun r90=>some r90 : Option (Int)).bind fun j83=>(if (decide (x80 < p3.Place)) = true then (if (decide (j83 ≥ 0)) = true then (some true) else (if (x80 == p3.Place) = true then (some (decide (j83 ≤ 0))) else (some false))) else (if (x80 == p3.Place) = true then (some (decide (j83 ≤ 0))) else (some false)) : Option (Bool)).bind fun j93=>if j93 = true then (some (Fl.ex (Fl.ex false))) else ((idx p3.Neighbours s75).bind fun x108=>(idx p3.Proofs s75).bind fun x111=>(Yu 64 r59 x108 x80 p1 x111).bind fun r119=>(if (!r119.2) = true then (some true) else (some (!decide (r119.1 = p0))) : Option (Bool)).bind fun j127=>if j127 = true then (some (Fl.ex (Fl.ex false))) else (some (Fl.nx (wr (s75 + 1)))))) else (some (Fl.ex (Fl.nx ())))
def Xy (p0 : (Vector UInt8 32)) (p1 : Int) (p2 : (Vector UInt8 32)) (p3 : GAbsence) : Option (Bool) :=
 ((XK p1 0 64).bind fun r10=>if (!r10) = true then (some true) else ((XK p3.Place 0 p1).bind fun r14=>some (!r14)) : Option (Bool)).bind fun j7=>if j7 = true then (some false) else ((ZF (YG p1 p3) (0,([] : List Int))).bind fun j20=>(XB).bind fun r59=>(if ((p3.Neighbours.length : Int) != (j20.length : Int)) = true then (some true) else (some ((p3.Proofs.length : Int) != (j20.length : Int))) : Option (Bool)).bind fun j64=>if j64 = true then (some false) else ((ZF (XS p0 p1 p2 p3 j20 r59) 0).bind fun j71=>j71.el (fun s74=>(if (decide (p1 > 0)) = true then (some true) else ((Z9 64 r59 ([] : (List (Vector UInt8 32)))).bind fun r142=>some (decide (p0 = r142))) : Option (Bool)).bind fun j136=>some j136) (fun r=>some r)))
end

end Go.Proofs.Ytkajmkegelcfjaa
