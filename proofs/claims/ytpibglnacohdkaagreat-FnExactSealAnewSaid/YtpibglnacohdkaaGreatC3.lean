/- The walk of what the law reaches: contracts of functions. -/
import Derived.Test.YtpibglnacohdkaaGreatC2
set_option linter.unusedVariables false
set_option linter.unusedSimpArgs false
set_option maxRecDepth 20000
set_option maxHeartbeats 400000
namespace Go.Proofs.YtpibglnacohdkaaGreat
open Go
open Flat (enc)
noncomputable section
def X2 (p0 : (Ref Gengine)) (p1 : (Vector UInt8 16)) (p2 : Int) : Option ((Vector UInt8 16)) :=
 ((ZH p1 (0 : Int)).bind fun x10=>(ZH p1 (15 : Int)).bind fun x13=>(ZH p0.v.box (bI (x13 ^^^ (Zp p2)))).bind fun x26=>(ZH p1 (0 : Int)).bind fun x29=>some (p1.setIfInBounds ((0 : Int)).toNat (x10 ^^^ x26)) : Option ((Vector UInt8 16))).bind fun j5=>(ZB (Xd p0) (j5,1)).bind fun j32=>some j32
theorem Js (w0 : World) (p0 : (Ref Gengine)) (v0_1 : Value) (hv0_1 : Ro w0 p0 [v0_1]) (p1 : (Vector UInt8 16)) (p2 : Int) (r : (Vector UInt8 16)) (hF : X2 p0 p1 p2 = some r) :
  Calls Tryz.prog 237 [v0_1,(Value.agg (enc p1).toArray),vI p2].toArray w0 (Rt w0 (Value.agg (enc r).toArray)):=by
 refine ce Tryz.func237 ?_
 intro a hE
 have hM:=M.start w0
 unfold X2 at hF
 refine Zb (ZK (cs:=enc p1) hE hM Za ld rfl rfl fun b1 w a hM hE=>Zz hE hM ZC fun b3 w a hM hE=>Ze ?_)
 obtain ⟨j5,hl6,hF7⟩:=bind_some hF
 refine ZO (fun a w=>Env 41 a [(0,v0_1),(4,(ptr b1 0)),(6,(ptr b3 0))] ∧ M (Old w0) w0 w [raw b3 (enc (Vector.replicate 16 (0 : UInt8))),raw b1 (enc j5)]) ?_ ?_
 ·skip
  obtain ⟨x10,hi9,hl6⟩:=bvx hl6
  obtain ⟨x13,hi12,hl6⟩:=bvx hl6
  obtain ⟨pb15,ds16,hv17,hx18,hA19,hB20⟩:=T9 hv0_1 -- ^
  obtain ⟨u21,u23,rfl,h22,h24⟩:=QU hx18 -- ^
  obtain ⟨x26,hi25,hl6⟩:=bvx hl6
  obtain ⟨x29,hi28,hl6⟩:=bvx hl6
  refine Z9 [8,9,10,11,12,13,14,15,16,17,18,19,20,21] YF rfl rfl (by decide) rfl hE hM (qsP (fun z=>ZG z.E Za ld rfl rfl Tryz.underlying68 ty5 hi9.1 (kr0 rfl)) (qsP (fun z=>ZN (v:=(vB x10)) z.E Za ld rfl ty5 rfl (At.vec (z.M.rawAt1) hi9.2) (kr0 rfl)) (qsP (fun z=>Zu z.E Za ld rfl (kr0 rfl)) (qsP (fun z=>ZG z.E Za ld rfl rfl Tryz.underlying68 ty5 hi12.1 (kr0 rfl)) (qsP (fun z=>ZN (v:=(vB x13)) z.E Za ld rfl ty5 rfl (At.vec (z.M.rawAt1) hi12.2) (kr0 rfl)) (qsP (fun z=>Zu z.E Za ld rfl (kr0 rfl)) (qsP (fun z=>Yg z.E Za ld rfl Tryz.underlying2 Tryz.underlying5 (kr0 rfl)) (qsP (v:=(vB (x13 ^^^ (Zp p2)))) (fun z=>Yt z.E Za ld rfl rfl (Vu x13 (Zp p2)) (kr0 rfl)) (qsP (fun z=>WP z.E Za ld (lk rfl hv17) (kr0 rfl)) (qsP (fun z=>Zj z.E Za ld rfl (jP) (kr0 rfl)) (qsP (fun z=>ZG z.E Za ld rfl rfl Tryz.underlying157 ty5 hi25.1 (kr0 rfl)) (qsP (fun z=>ZN (v:=(vB x26)) z.E Za ld rfl ty5 rfl (At.vec (At.cat (pre:=[]) (z.M.atk hA19 hB20) cl0) hi25.2) (kr0 rfl)) (qsP (v:=(vB (x10 ^^^ x26))) (fun z=>Yt z.E Za ld rfl rfl (Vu x10 x26) (kr0 rfl)) (qsP (fun z=>ZG z.E Za ld rfl rfl Tryz.underlying68 ty5 hi28.1 (kr0 rfl)) qs0)))))))))))))) ?_
  ·intro a w u hE hM
   have hM:=hM.pull1
   refine Zl (seg:=[(vB (x10 ^^^ x26))]) (cs':=enc (p1.setIfInBounds ((0 : Int)).toNat (x10 ^^^ x26))) hE hM Za rfl rfl rfl ty5 rfl (ZQ (v:=p1) (x:=x10 ^^^ x26) hi28.1) (Flat.cell (x10 ^^^ x26 : UInt8)) (ZF (v:=p1) (x:=x10 ^^^ x26) hi28.1) fun w a hM hE=>Zg ?_
   obtain rfl:=Option.some.inj hl6
   refine Zk ?_
   have hM:=hM.pull1
   exact ⟨hE.sub ⟨rfl,rfl,rfl,trivial⟩,hM⟩
 ·skip
  rintro a w ⟨hE,hM⟩
  refine wp_seq (Zb (Zc hE rfl fun a hE=>Ze ?_))
  obtain ⟨j32,hl33,hF34⟩:=bind_some hF7
  refine ZM (fun a w=>Env 41 a [(4,(ptr b1 0)),(6,(ptr b3 0))] ∧ M (Old w0) w0 w [raw b3 (enc (Vector.replicate 16 (0 : UInt8))),raw b1 (enc j32)]) ?_ ?_
  ·skip
   refine wp_block ?_
   refine ZE (fun (s35 : (Vector UInt8 16) × Int) a w=>Env 41 a [(0,v0_1),(4,(ptr b1 0)),(6,(ptr b3 0)),(7,vI s35.2)] ∧ M (Old w0) w0 w [raw b3 (enc (Vector.replicate 16 (0 : UInt8))),raw b1 (enc s35.1)]) hl33 ⟨hE.sub ⟨rfl,rfl,rfl,rfl,trivial⟩,hM⟩ ?_
   rintro s35 a w ⟨hE,hM⟩ o38 hs36 hx37
   unfold Xd at hs36
   refine wp_seq (Zb (Zd hE rfl fun a hE=>Zh hE rfl rfl rfl fun a hE=>Ze ?_))
   refine Zo hE rfl ?_ ?_
   ·intro hb39
    have hs36:=Zw hs36 hb39
    refine wp_skip (Zt (wp_seq (wp_block ?_)))
    obtain ⟨x42,hi41,hs36⟩:=bvx hs36
    obtain ⟨x45,hi44,hs36⟩:=bvx hs36
    obtain ⟨pb47,ds48,hv49,hx50,hA51,hB52⟩:=T9 hv0_1 -- ^
    obtain ⟨u53,u55,rfl,h54,h56⟩:=QU hx50 -- ^
    obtain ⟨x58,hi57,hs36⟩:=bvx hs36
    obtain ⟨x61,hi60,hs36⟩:=bvx hs36
    refine Z9 [26,27,28,29,30,31,32,33,34,35,36,37,38,39] YF rfl rfl (by decide) rfl hE hM (qsP (fun z=>Zu z.E Za ld rfl (kr0 rfl)) (qsP (fun z=>ZG z.E Za ld rfl rfl Tryz.underlying68 ty5 hi41.1 (kr0 rfl)) (qsP (fun z=>ZN (v:=(vB x42)) z.E Za ld rfl ty5 rfl (At.vec (z.M.rawAt1) hi41.2) (kr0 rfl)) (qsP (fun z=>Zu z.E Za ld rfl (kr0 rfl)) (qsP (fun z=>Zu z.E Za ld rfl (kr0 rfl)) (qsP (v:=(vI (wr (s35.2 - 1)))) (fun z=>Yt z.E Za ld rfl rfl rfl (kr0 rfl)) (qsP (fun z=>ZG z.E Za ld rfl rfl Tryz.underlying68 ty5 hi44.1 (kr0 rfl)) (qsP (fun z=>ZN (v:=(vB x45)) z.E Za ld rfl ty5 rfl (At.vec (z.M.rawAt1) hi44.2) (kr0 rfl)) (qsP (fun z=>WP z.E Za ld (lk rfl hv49) (kr0 rfl)) (qsP (fun z=>Zj z.E Za ld rfl (jP) (kr0 rfl)) (qsP (fun z=>ZG z.E Za ld rfl rfl Tryz.underlying157 ty5 hi57.1 (kr0 rfl)) (qsP (fun z=>ZN (v:=(vB x58)) z.E Za ld rfl ty5 rfl (At.vec (At.cat (pre:=[]) (z.M.atk hA51 hB52) cl0) hi57.2) (kr0 rfl)) (qsP (v:=(vB (x42 ^^^ x58))) (fun z=>Yt z.E Za ld rfl rfl (Vu x42 x58) (kr0 rfl)) (qsP (fun z=>ZG z.E Za ld rfl rfl Tryz.underlying68 ty5 hi60.1 (kr0 rfl)) qs0)))))))))))))) ?_
    ·intro a w u hE hM
     have hM:=hM.pull1
     refine Zl (seg:=[(vB (x42 ^^^ x58))]) (cs':=enc (s35.1.setIfInBounds (s35.2).toNat (x42 ^^^ x58))) hE hM Za rfl rfl rfl ty5 rfl (ZQ (v:=s35.1) (x:=x42 ^^^ x58) hi60.1) (Flat.cell (x42 ^^^ x58 : UInt8)) (ZF (v:=s35.1) (x:=x42 ^^^ x58) hi60.1) fun w a hM hE=>Zg (Yb (Zt (wp_region_lit (Zd hE rfl fun a hE=>Zh hE rfl rfl rfl fun a hE=>Zc hE rfl fun a hE=>Zg (Zk ?_)))))
     have hM:=hM.pull1
     exact ⟨_,(ois hs36),hE.sub ⟨rfl,rfl,rfl,rfl,trivial⟩,hM⟩
   ·intro hb39
    have hs36:=Zx hs36 hb39
    refine wp_exit (Zn (Zn (Yd ?_)))
    obtain rfl:=hx37 _ (ois hs36)
    refine Zk ?_
    exact ⟨hE.sub ⟨rfl,rfl,trivial⟩,hM⟩
  ·skip
   rintro a w ⟨hE,hM⟩
   refine Zt (Zb (Zm hE rfl ZC rfl hM.rawAt1 (Flat.len _) fun a hE=>Zl (seg:=enc j32) (cs':=enc j32) hE hM Za rfl rfl rfl ZC (Flat.len _) (zle flq) (Flat.cell _) (Zi flq) fun w a hM hE=>Ze ?_))
   obtain rfl:=Option.some.inj hF34
   have hq64 : Yw Tryz.prog _ _ (.cell 6 68) _:=ZI hE rfl ZC rfl hM.rawAt0 (Flat.len _) rfl
   exact wp_ret (ZJ hE rfl hq64 ⟨_,rfl,rfl,hM.kept⟩)
def XQ (p0 : (Ref Gengine)) (p2 : Int) (s10 : (Vector UInt8 16) × (List (Vector UInt8 16)) × Int) : Option (Fl ((Vector UInt8 16) × (List (Vector UInt8 16)) × Int) (List (Vector UInt8 16))) :=
 if (decide (s10.2.2 ≤ p2)) = true then ((X2 p0 s10.1 s10.2.2).bind fun r17=>(app 16 s10.2.1 ([r17] : List (Vector UInt8 16))).bind fun l21=>some (Fl.nx (r17,(s10.2.1 ++ ([r17] : List (Vector UInt8 16))),wr (s10.2.2 + 1)))) else (some (Fl.ex s10.2.1))
def Vv (p0 : (Ref Gengine)) (p1 : (Vector UInt8 16)) (p2 : Int) : Option ((List (Vector UInt8 16))) :=
 (ZB (XQ p0 p2) (p1,([p1] : List (Vector UInt8 16)),1)).bind fun j5=>some j5
theorem HJ (w0 : World) (p0 : (Ref Gengine)) (v0_1 : Value) (hv0_1 : Ro w0 p0 [v0_1]) (p1 : (Vector UInt8 16)) (p2 : Int) (r : (List (Vector UInt8 16))) (hF : Vv p0 p1 p2 = some r) :
  Calls Tryz.prog 218 [v0_1,(Value.agg (enc p1).toArray),vI p2].toArray w0 (fun en w'=>∃ v,en = .returned v ∧ (∃ (y1 : Value),v = y1 ∧ Fr w0 w' [osl NoB (r : List (Vector UInt8 16)) y1] ∧ Kept (Old w0) w0 w')):=by
 refine ce Tryz.func218 ?_
 intro a hE
 have hM:=M.start w0
 unfold Vv at hF
 refine Zb (ZK (cs:=enc p1) hE hM Za ld rfl rfl fun b1 w a hM hE=>Zc hE rfl fun a hE=>Ze (Zb (Zm hE rfl ZC rfl hM.rawAt0 (Flat.len _) fun a hE=>ZW (xs:=[.tmp 9]) (l:=([p1] : List (Vector UInt8 16))) (vs:=[(Value.agg (enc p1).toArray)]) hE hM Za ld rfl rfl Tryz.underlying54 ZC rfl (by decide) rfl fun u3 w a hM hE=>Zc hE rfl fun a hE=>Ze (wp_seq (Zb (Zc hE rfl fun a hE=>Ze ?_))))))
 obtain ⟨j5,hl6,hF7⟩:=bind_some hF
 refine ZM (fun a w=>∃ (u8 : Value),Env 25 a [(7,u8)] ∧ M (Old w0) w0 w [osl NoB (j5 : List (Vector UInt8 16)) u8]) ?_ ?_
 ·skip
  refine wp_block ?_
  have hM:=hM.pull1
  refine ZE (fun (s10 : (Vector UInt8 16) × (List (Vector UInt8 16)) × Int) a w=>∃ (u11 : Value),Env 25 a [(0,v0_1),(2,vI p2),(4,(ptr b1 0)),(7,u11),(8,vI s10.2.2)] ∧ M (Old w0) w0 w [raw b1 (enc s10.1),osl NoB (s10.2.1 : List (Vector UInt8 16)) u11]) hl6 ⟨u3,hE.sub ⟨rfl,rfl,rfl,rfl,rfl,trivial⟩,hM⟩ ?_
  rintro s10 a w ⟨u11,hE,hM⟩ o15 hs13 hx14
  unfold XQ at hs13
  refine wp_seq (Zb (Zd hE rfl fun a hE=>Zd hE rfl fun a hE=>Zh hE rfl rfl rfl fun a hE=>Ze ?_))
  refine Zo hE rfl ?_ ?_
  ·intro hb16
   have hs13:=Zw hs13 hb16
   refine wp_skip (Zt (wp_seq (wp_block (Zb (Zd hE rfl fun a hE=>Zm hE rfl ZC rfl hM.rawAt0 (Flat.len _) fun a hE=>Zd hE rfl ?_))))); intro a hE
   obtain ⟨r17,e18,hs13⟩:=bind_some hs13
   refine Zv hE rfl (cbm Tryz.func237) (Js _ p0 v0_1 (hM.rdo hv0_1) s10.1 s10.2.2 r17 e18) ?_
   rintro v w a ⟨rfl,hK⟩ hE
   have hM:=hM.keep hK
   refine Zl (seg:=enc r17) (cs':=enc r17) hE hM Za rfl rfl rfl ZC (Flat.len _) (zle flq) (Flat.cell _) (Zi flq) fun w a hM hE=>Ze (wp_region_lit (Zd hE rfl fun a hE=>Zm hE rfl ZC rfl hM.rawAt0 (Flat.len _) fun a hE=>ZW (xs:=[.tmp 21]) (l:=([r17] : List (Vector UInt8 16))) (vs:=[(Value.agg (enc r17).toArray)]) hE hM Za ld rfl rfl Tryz.underlying54 ZC rfl (by decide) rfl ?_)); intro u19 w a hM hE
   obtain ⟨l21,e22,hs13⟩:=bind_some hs13
   obtain ⟨e25,rfl⟩:=Z8 e22
   have hM:=hM.pull2
   refine ZY hE hM Za ld rfl rfl (hM.sl (pre:=[_]) noB) Tryz.underlying54 ZC rfl (by decide) e25 fun u23 w a hM hE=>Zc hE rfl fun a hE=>Zg (Yb (Zt (wp_region_lit (Zd hE rfl fun a hE=>Zh hE rfl rfl rfl fun a hE=>Zc hE rfl fun a hE=>Zg (Zk ?_)))))
   have hM:=M.fst (l:=[_,_]) hM.pull2
   exact ⟨_,(ois hs13),u23,hE.sub ⟨rfl,rfl,rfl,rfl,rfl,trivial⟩,hM⟩
  ·intro hb16
   have hs13:=Zx hs13 hb16
   refine wp_exit (Zn (Zn (Yd ?_)))
   obtain rfl:=hx14 _ (ois hs13)
   refine Zk ?_
   have hM:=M.fst (l:=[_]) hM.pull1
   exact ⟨u11,hE.sub ⟨rfl,trivial⟩,hM⟩
 ·skip
  rintro a w ⟨u8,hE,hM⟩
  refine Zt (Zb (Zd hE rfl fun a hE=>Zc hE rfl fun a hE=>Ze ?_))
  obtain rfl:=Option.some.inj hF7
  exact wp_ret (ZJ hE rfl (ZP hE rfl) ⟨_,rfl,u8,rfl,hM.outF (Yi YO),hM.kept⟩)
def XR (p0 : (Vector UInt8 16)) (p1 : (Vector UInt8 16)) (s12 : (Vector UInt8 16) × Int) : Option (Fl ((Vector UInt8 16) × Int) (Vector UInt8 16)) :=
 if (decide (s12.2 < 16)) = true then ((ZH p0 s12.2).bind fun x17=>(ZH p1 (bI x17)).bind fun x21=>(ZH s12.1 s12.2).bind fun x24=>some (Fl.nx ((s12.1.setIfInBounds (s12.2).toNat x21),wr (s12.2 + 1)))) else (some (Fl.ex s12.1))
def Vt (p0 : (Vector UInt8 16)) (p1 : (Vector UInt8 16)) : Option ((Vector UInt8 16)) :=
 (ZB (XR p0 p1) ((Vector.replicate 16 (0 : UInt8)),0)).bind fun j9=>some j9
theorem HP (w0 : World) (p0 : (Vector UInt8 16)) (p1 : (Vector UInt8 16)) (r : (Vector UInt8 16)) (hF : Vt p0 p1 = some r) :
  Calls Tryz.prog 235 [(Value.agg (enc p0).toArray),(Value.agg (enc p1).toArray)].toArray w0 (Rt w0 (Value.agg (enc r).toArray)):=by
 refine ce Tryz.func235 ?_
 intro a hE
 have hM:=M.start w0
 unfold Vt at hF
 refine Zb (ZK (cs:=enc p0) hE hM Za ld rfl rfl fun b1 w a hM hE=>ZK (cs:=enc p1) hE hM Za ld rfl rfl fun b3 w a hM hE=>Zz hE hM ZC fun b5 w a hM hE=>Ze (Zb (Wl (parts:=[]) (vs:=[]) (cs:=enc (Vector.replicate 16 (0 : UInt8))) hE Za ld rfl rfl ZC rfl ty5 XA fun a hE=>Zz hE hM ZC fun b7 w a hM hE=>Zl (seg:=enc (Vector.replicate 16 (0 : UInt8))) (cs':=enc (Vector.replicate 16 (0 : UInt8))) hE hM Za rfl rfl rfl ZC (Flat.len _) (zle flq) (Flat.cell _) (Zi flq) fun w a hM hE=>Ze (wp_seq (Zb (Zm hE rfl Kd rfl hM.rawAt3 (Flat.len _) fun a hE=>Zd hE rfl fun a hE=>Ze ?_))))))
 obtain ⟨j9,hl10,hF11⟩:=bind_some hF
 refine ZM (fun a w=>Env 21 a [(4,(ptr b5 0)),(5,(ptr b7 0))] ∧ M (Old w0) w0 w [raw b7 (enc j9),raw b5 (enc (Vector.replicate 16 (0 : UInt8)))]) ?_ ?_
 ·skip
  refine wp_block ?_
  have hM:=M.fst (l:=[_,_,_]) hM.pull2.pull2.pull2
  refine ZE (fun (s12 : (Vector UInt8 16) × Int) a w=>Env 21 a [(3,(ptr b3 0)),(4,(ptr b5 0)),(5,(ptr b7 0)),(9,(Value.agg (enc p0).toArray)),(10,vI s12.2)] ∧ M (Old w0) w0 w [raw b7 (enc s12.1),raw b5 (enc (Vector.replicate 16 (0 : UInt8))),raw b3 (enc p1)]) hl10 ⟨hE.sub ⟨rfl,rfl,rfl,rfl,rfl,trivial⟩,hM⟩ ?_
  rintro s12 a w ⟨hE,hM⟩ o15 hs13 hx14
  unfold XR at hs13
  refine Zb (Zh hE rfl rfl rfl fun a hE=>Ze (wp_seq ?_))
  refine Zo hE rfl ?_ ?_
  ·intro hb16
   have hs13:=Zw hs13 hb16
   refine wp_skip (Zt (wp_seq (wp_block (Zb (Zd hE rfl ?_))))); intro a hE
   obtain ⟨x17,hi19,hs13⟩:=bvx hs13
   refine JC hE Za ld rfl rfl Tryz.underlying161 ty5 rfl rfl hi19 rfl fun a hE=>Zc hE rfl fun a hE=>Zc hE rfl fun a hE=>Ze (wp_region_lit (Zd hE rfl fun a hE=>Zd hE rfl ?_)); intro a hE
   obtain ⟨x21,hi20,hs13⟩:=bvx hs13
   refine ZD hE rfl rfl Tryz.underlying68 ty5 hi20.1 fun a hE=>Zy (v:=(vB x21)) hE rfl ty5 rfl (At.vec hM.rawAt2 hi20.2) ?_; intro a hE
   obtain ⟨x24,hi23,hs13⟩:=bvx hs13
   refine ZD hE rfl rfl Tryz.underlying68 ty5 hi23.1 fun a hE=>Zl (seg:=[vB x21]) (cs':=enc (s12.1.setIfInBounds (s12.2).toNat x21)) hE hM Za rfl rfl rfl ty5 rfl (ZQ (v:=s12.1) (x:=x21) hi23.1) (Flat.cell (x21 : UInt8)) (ZF (v:=s12.1) (x:=x21) hi23.1) fun w a hM hE=>Zg (Yb (Zt (wp_region_lit (Zh hE rfl rfl rfl fun a hE=>Zd hE rfl fun a hE=>Zg (Zk ?_)))))
   exact ⟨_,(ois hs13),hE.sub ⟨rfl,rfl,rfl,rfl,rfl,trivial⟩,hM⟩
  ·intro hb16
   have hs13:=Zx hs13 hb16
   refine wp_exit (Zn (Zn (Yd ?_)))
   obtain rfl:=hx14 _ (ois hs13)
   refine Zk ?_
   have hM:=M.fst (l:=[_,_]) hM.pull1.pull1
   exact ⟨hE.sub ⟨rfl,rfl,trivial⟩,hM⟩
 ·skip
  rintro a w ⟨hE,hM⟩
  refine Zt (Zb (Zm hE rfl ZC rfl hM.rawAt0 (Flat.len _) ?_)); intro a hE
  have hM:=hM.pull1
  refine Zl (seg:=enc j9) (cs':=enc j9) hE hM Za rfl rfl rfl ZC (Flat.len _) (zle flq) (Flat.cell _) (Zi flq) fun w a hM hE=>Ze ?_
  obtain rfl:=Option.some.inj hF11
  have hq27 : Yw Tryz.prog _ _ (.cell 4 68) _:=ZI hE rfl ZC rfl hM.rawAt0 (Flat.len _) rfl
  exact wp_ret (ZJ hE rfl hq27 ⟨_,rfl,rfl,hM.kept⟩)
def WI (p0 : (Ref (Vector (Vector (Vector UInt8 256) 4) 4))) (s4 : (Vector UInt8 16) × Int) (j9 : UInt8 × UInt8 × UInt8 × UInt8) (s29 : (Vector UInt8 16) × Int) : Option (Fl ((Vector UInt8 16) × Int) (Vector UInt8 16)) :=
 if (decide (s29.2 < 4)) = true then ((ZH p0.v s29.2).bind fun x42=>(ZH x42 (0 : Int)).bind fun x45=>(ZH x45 (bI j9.1)).bind fun x48=>(ZH p0.v s29.2).bind fun x57=>(ZH x57 (1 : Int)).bind fun x60=>(ZH x60 (bI j9.2.1)).bind fun x63=>(ZH p0.v s29.2).bind fun x72=>(ZH x72 (2 : Int)).bind fun x75=>(ZH x75 (bI j9.2.2.1)).bind fun x78=>(ZH p0.v s29.2).bind fun x87=>(ZH x87 (3 : Int)).bind fun x90=>(ZH x90 (bI j9.2.2.2)).bind fun x93=>(ZH s29.1 (wr (s4.2 + s29.2))).bind fun x95=>some (Fl.nx ((s29.1.setIfInBounds ((wr (s4.2 + s29.2))).toNat (((x48 ^^^ x63) ^^^ x78) ^^^ x93)),wr (s29.2 + 1)))) else (some (Fl.ex s29.1))
def WM (p0 : (Ref (Vector (Vector (Vector UInt8 256) 4) 4))) (s4 : (Vector UInt8 16) × Int) : Option (Fl ((Vector UInt8 16) × Int) (Vector UInt8 16)) :=
 if (decide (s4.2 < (s4.1.toList.length : Int))) = true then (((ZH s4.1 s4.2).bind fun x13=>(ZH s4.1 (wr (s4.2 + 1))).bind fun x16=>(ZH s4.1 (wr (s4.2 + 2))).bind fun x19=>(ZH s4.1 (wr (s4.2 + 3))).bind fun x22=>some (x13,x16,x19,x22) : Option (UInt8 × UInt8 × UInt8 × UInt8)).bind fun j9=>(ZB (WI p0 s4 j9) (s4.1,0)).bind fun j26=>some (Fl.nx (j26,wr (s4.2 + 4)))) else (some (Fl.ex s4.1))
def Uw (p0 : (Ref (Vector (Vector (Vector UInt8 256) 4) 4))) (p1 : (Vector UInt8 16)) : Option ((Vector UInt8 16)) :=
 (ZB (WM p0) (p1,0)).bind fun j1=>some j1
theorem BJ (St : Nat → Prop) (W w0 : World) (its : List Item) (p0 : (Ref (Vector (Vector (Vector UInt8 256) 4) 4))) (v0_1 : Value) (hv0_1 : Rep.sat St W p0 [v0_1] []) (pb1 : Nat) (p1 : (Vector UInt8 16)) (hM : M St W w0 (raw pb1 (enc p1) :: its)) (r : (Vector UInt8 16)) (hF : Uw p0 p1 = some r) :
  Calls Tryz.prog 236 [v0_1,(Value.slice (some ⟨pb1,0,none⟩) 16 16)].toArray w0 (fun en w'=>∃ v,en = .returned v ∧ (v = (Value.tuple [].toArray) ∧ M St W w' (raw pb1 (enc r) :: its))):=by
 refine ce Tryz.func236 ?_
 intro a hE
 unfold Uw at hF
 refine Zb (Zc hE rfl fun a hE=>Ze ?_)
 obtain ⟨j1,hl2,hF3⟩:=bind_some hF
 refine ZM (fun a w=>Env 79 a [(1,(Value.slice (some ⟨pb1,0,none⟩) 16 16))] ∧ M St W w (raw pb1 (enc j1) :: its)) ?_ ?_
 ·skip
  refine wp_block ?_
  refine ZE (fun (s4 : (Vector UInt8 16) × Int) a w=>Env 79 a [(0,v0_1),(1,(Value.slice (some ⟨pb1,0,none⟩) 16 16)),(4,vI s4.2)] ∧ M St W w (raw pb1 (enc s4.1) :: its)) hl2 ⟨hE.sub ⟨rfl,rfl,rfl,trivial⟩,hM⟩ ?_
  rintro s4 a w ⟨hE,hM⟩ o7 hs5 hx6
  unfold WM at hs5
  refine wp_seq (Zb (Zd hE rfl fun a hE=>Zd hE rfl fun a hE=>Yf hE rfl Tryz.underlying40 (Zc4 hM.rawAt0) fun a hE=>Zh hE rfl rfl rfl fun a hE=>Ze ?_))
  refine Zo hE rfl ?_ ?_
  ·intro hb8
   have hs5:=Zw hs5 hb8
   refine wp_skip (Zt (wp_seq (wp_block ?_)))
   obtain ⟨j9,hl10,hF11⟩:=bind_some hs5
   refine ZO (fun a w=>Env 79 a [(0,v0_1),(1,(Value.slice (some ⟨pb1,0,none⟩) 16 16)),(4,vI s4.2),(5,vB j9.1),(6,vB j9.2.1),(7,vB j9.2.2.1),(8,vB j9.2.2.2)] ∧ M St W w (raw pb1 (enc s4.1) :: its)) ?_ ?_
   ·skip
    obtain ⟨x13,hi15,hl10⟩:=bvx hl10
    obtain ⟨x16,hi18,hl10⟩:=bvx hl10
    obtain ⟨x19,hi21,hl10⟩:=bvx hl10
    obtain ⟨x22,hi24,hl10⟩:=bvx hl10
    refine Zb6 (n:=79) (hd:=[_,_,_,_,_,_,_,_,_,_,_,_,_,_,_,_,_,_,_,_,_,_,_]) (tl:=[]) YF rfl rfl [16,17,18,19,20,21,22,23,24,25,26,27,28,29,30,31,32,33,34,5,6,7,8] (by decide) (fun w=>M St W w (raw pb1 (enc s4.1) :: its)) (fun j=>([fun v _=>v = (Value.slice (some ⟨pb1,0,none⟩) 16 16),fun v _=>v = (vI s4.2),fun v _=>v = (ptr pb1 (0 + (s4.2).toNat * 1)),fun v _=>v = (vB x13),fun v _=>v = (Value.slice (some ⟨pb1,0,none⟩) 16 16),fun v _=>v = (vI s4.2),fun v _=>v = (vI (wr (s4.2 + 1))),fun v _=>v = (ptr pb1 (0 + ((wr (s4.2 + 1))).toNat * 1)),fun v _=>v = (vB x16),fun v _=>v = (Value.slice (some ⟨pb1,0,none⟩) 16 16),fun v _=>v = (vI s4.2),fun v _=>v = (vI (wr (s4.2 + 2))),fun v _=>v = (ptr pb1 (0 + ((wr (s4.2 + 2))).toNat * 1)),fun v _=>v = (vB x19),fun v _=>v = (Value.slice (some ⟨pb1,0,none⟩) 16 16),fun v _=>v = (vI s4.2),fun v _=>v = (vI (wr (s4.2 + 3))),fun v _=>v = (ptr pb1 (0 + ((wr (s4.2 + 3))).toNat * 1)),fun v _=>v = (vB x22),fun v _=>v = (vB x13),fun v _=>v = (vB x16),fun v _=>v = (vB x19),fun v _=>v = (vB x22)] : List (Value → World → Prop)).getD j (fun _ _=>True)) (fun _ _ h hk=>h.keep hk) (gup gu23) hE hM.drew (st23 ?_ ?_ ?_ ?_ ?_ ?_ ?_ ?_ ?_ ?_ ?_ ?_ ?_ ?_ ?_ ?_ ?_ ?_ ?_ ?_ ?_ ?_ ?_) ?_
    ·exact qm
    ·exact qm
    ·intro a w ux12 hE hM hp
     have f0 : ux12 0 = (Value.slice (some ⟨pb1,0,none⟩) 16 16):=hp 0 _ rfl rfl
     have f1 : ux12 1 = (vI s4.2):=hp 1 _ rfl rfl
     exact Q1 hE Za ld (lk rfl f0) (lk rfl f1) Tryz.underlying40 ty5 hi15.1 fun a hE=>kq rfl hE rfl
    ·intro a w ux12 hE hM hp
     have f2 : ux12 2 = (ptr pb1 (0 + (s4.2).toNat * 1)):=hp 0 _ rfl rfl
     exact Zy (v:=(vB x13)) hE (lk rfl f2) ty5 rfl (At.vec hM.rawAt0 hi15.2) fun a hE=>kq rfl hE rfl
    ·exact qm
    ·exact qm
    ·intro a w ux12 hE hM hp
     have f5 : ux12 5 = (vI s4.2):=hp 0 _ rfl rfl
     exact Zh hE (lk rfl f5) rfl rfl fun a hE=>kq rfl hE rfl
    ·intro a w ux12 hE hM hp
     have f4 : ux12 4 = (Value.slice (some ⟨pb1,0,none⟩) 16 16):=hp 0 _ rfl rfl
     have f6 : ux12 6 = (vI (wr (s4.2 + 1))):=hp 1 _ rfl rfl
     exact Q1 hE Za ld (lk rfl f4) (lk rfl f6) Tryz.underlying40 ty5 hi18.1 fun a hE=>kq rfl hE rfl
    ·intro a w ux12 hE hM hp
     have f7 : ux12 7 = (ptr pb1 (0 + ((wr (s4.2 + 1))).toNat * 1)):=hp 0 _ rfl rfl
     exact Zy (v:=(vB x16)) hE (lk rfl f7) ty5 rfl (At.vec hM.rawAt0 hi18.2) fun a hE=>kq rfl hE rfl
    ·exact qm
    ·exact qm
    ·intro a w ux12 hE hM hp
     have f10 : ux12 10 = (vI s4.2):=hp 0 _ rfl rfl
     exact Zh hE (lk rfl f10) rfl rfl fun a hE=>kq rfl hE rfl
    ·intro a w ux12 hE hM hp
     have f9 : ux12 9 = (Value.slice (some ⟨pb1,0,none⟩) 16 16):=hp 0 _ rfl rfl
     have f11 : ux12 11 = (vI (wr (s4.2 + 2))):=hp 1 _ rfl rfl
     exact Q1 hE Za ld (lk rfl f9) (lk rfl f11) Tryz.underlying40 ty5 hi21.1 fun a hE=>kq rfl hE rfl
    ·intro a w ux12 hE hM hp
     have f12 : ux12 12 = (ptr pb1 (0 + ((wr (s4.2 + 2))).toNat * 1)):=hp 0 _ rfl rfl
     exact Zy (v:=(vB x19)) hE (lk rfl f12) ty5 rfl (At.vec hM.rawAt0 hi21.2) fun a hE=>kq rfl hE rfl
    ·exact qm
    ·exact qm
    ·intro a w ux12 hE hM hp
     have f15 : ux12 15 = (vI s4.2):=hp 0 _ rfl rfl
     exact Zh hE (lk rfl f15) rfl rfl fun a hE=>kq rfl hE rfl
    ·intro a w ux12 hE hM hp
     have f14 : ux12 14 = (Value.slice (some ⟨pb1,0,none⟩) 16 16):=hp 0 _ rfl rfl
     have f16 : ux12 16 = (vI (wr (s4.2 + 3))):=hp 1 _ rfl rfl
     exact Q1 hE Za ld (lk rfl f14) (lk rfl f16) Tryz.underlying40 ty5 hi24.1 fun a hE=>kq rfl hE rfl
    ·intro a w ux12 hE hM hp
     have f17 : ux12 17 = (ptr pb1 (0 + ((wr (s4.2 + 3))).toNat * 1)):=hp 0 _ rfl rfl
     exact Zy (v:=(vB x22)) hE (lk rfl f17) ty5 rfl (At.vec hM.rawAt0 hi24.2) fun a hE=>kq rfl hE rfl
    ·intro a w ux12 hE hM hp
     have f3 : ux12 3 = (vB x13):=hp 0 _ rfl rfl
     exact Zc hE (lk rfl f3) fun a hE=>kq rfl hE rfl
    ·intro a w ux12 hE hM hp
     have f8 : ux12 8 = (vB x16):=hp 0 _ rfl rfl
     exact Zc hE (lk rfl f8) fun a hE=>kq rfl hE rfl
    ·intro a w ux12 hE hM hp
     have f13 : ux12 13 = (vB x19):=hp 0 _ rfl rfl
     exact Zc hE (lk rfl f13) fun a hE=>kq rfl hE rfl
    ·intro a w ux12 hE hM hp
     have f18 : ux12 18 = (vB x22):=hp 0 _ rfl rfl
     exact Zc hE (lk rfl f18) fun a hE=>kq rfl hE rfl
    ·intro a w ux12 hE hM hg
     have hE:=hE.sub (e':=[(5,vB x13),(6,vB x16),(7,vB x19),(8,vB x22),(0,v0_1),(1,(Value.slice (some ⟨pb1,0,none⟩) 16 16)),(4,vI s4.2),(10,vI s4.2),(11,(Value.slice (some ⟨pb1,0,none⟩) 16 16)),(12,(vI (s4.1.toList.length : Int))),(13,(vT (decide (s4.2 < (s4.1.toList.length : Int)))))]) ⟨lk rfl (hg 19 (by decide)),lk rfl (hg 20 (by decide)),lk rfl (hg 21 (by decide)),lk rfl (hg 22 (by decide)),rfl,rfl,rfl,rfl,rfl,rfl,rfl,trivial⟩
     refine Zg ?_
     obtain rfl:=Option.some.inj hl10
     refine Zk ?_
     exact ⟨hE.sub ⟨rfl,rfl,rfl,rfl,rfl,rfl,rfl,trivial⟩,hM⟩
   ·skip
    rintro a w ⟨hE,hM⟩
    refine Zb (Zd hE rfl fun a hE=>Ze ?_)
    obtain ⟨j26,hl27,hF28⟩:=bind_some hF11
    refine ZM (fun a w=>Env 79 a [(0,v0_1),(1,(Value.slice (some ⟨pb1,0,none⟩) 16 16)),(4,vI s4.2)] ∧ M St W w (raw pb1 (enc j26) :: its)) ?_ ?_
    ·skip
     refine wp_block ?_
     refine ZE (fun (s29 : (Vector UInt8 16) × Int) a w=>Env 79 a [(0,v0_1),(1,(Value.slice (some ⟨pb1,0,none⟩) 16 16)),(4,vI s4.2),(5,vB j9.1),(6,vB j9.2.1),(7,vB j9.2.2.1),(8,vB j9.2.2.2),(35,vI s29.2)] ∧ M St W w (raw pb1 (enc s29.1) :: its)) hl27 ⟨hE.sub ⟨rfl,rfl,rfl,rfl,rfl,rfl,rfl,rfl,trivial⟩,hM⟩ ?_
     rintro s29 a w ⟨hE,hM⟩ o32 hs30 hx31
     unfold WI at hs30
     refine Zb (Zh hE rfl rfl rfl fun a hE=>Ze (wp_seq ?_))
     refine Zo hE rfl ?_ ?_
     ·intro hb33
      have hs30:=Zw hs30 hb33
      refine wp_skip (Zt (wp_seq (wp_block (Zb (Zd hE rfl fun a hE=>Zc hE rfl fun a hE=>Ze ?_)))))
      obtain ⟨pb35,ds36,hv37,hx38,hA39,hB40⟩:=T9 hv0_1 -- ^
      obtain ⟨rfl,_⟩:=Qa.1 hx38 -- ^
      obtain ⟨x42,hi41,hs30⟩:=bvx hs30
      obtain ⟨x45,hi44,hs30⟩:=bvx hs30
      obtain ⟨x48,hi47,hs30⟩:=bvx hs30
      obtain ⟨pb50,ds51,hv52,hx53,hA54,hB55⟩:=T9 hv0_1 -- ^
      obtain ⟨rfl,_⟩:=Qa.1 hx53 -- ^
      obtain ⟨x57,hi56,hs30⟩:=bvx hs30
      obtain ⟨x60,hi59,hs30⟩:=bvx hs30
      obtain ⟨x63,hi62,hs30⟩:=bvx hs30
      obtain ⟨pb65,ds66,hv67,hx68,hA69,hB70⟩:=T9 hv0_1 -- ^
      obtain ⟨rfl,_⟩:=Qa.1 hx68 -- ^
      obtain ⟨x72,hi71,hs30⟩:=bvx hs30
      obtain ⟨x75,hi74,hs30⟩:=bvx hs30
      obtain ⟨x78,hi77,hs30⟩:=bvx hs30
      obtain ⟨pb80,ds81,hv82,hx83,hA84,hB85⟩:=T9 hv0_1 -- ^
      obtain ⟨rfl,_⟩:=Qa.1 hx83 -- ^
      obtain ⟨x87,hi86,hs30⟩:=bvx hs30
      obtain ⟨x90,hi89,hs30⟩:=bvx hs30
      obtain ⟨x93,hi92,hs30⟩:=bvx hs30
      obtain ⟨x95,hi97,hs30⟩:=bvx hs30
      refine Zb6 (n:=79) (hd:=[_,_,_,_,_,_,_,_,_,_,_,_,_,_,_,_,_,_,_,_,_,_,_,_,_,_,_,_,_,_,_,_,_,_,_,_,_,_,_,_]) (tl:=[_]) YF rfl rfl [38,39,40,41,42,43,44,45,46,47,48,49,50,51,52,53,54,55,56,57,58,59,60,61,62,63,64,65,66,67,68,69,70,71,72,73,74,75,76,77] (by decide) (fun w=>M St W w (raw pb1 (enc s29.1) :: its)) (fun j=>([fun v _=>v = (Value.slice (some ⟨pb1,0,none⟩) 16 16),fun v _=>v = (vI s4.2),fun v _=>v = (vI s29.2),fun v _=>v = (vI (wr (s4.2 + s29.2))),fun v _=>v = v0_1,fun v _=>v = (vI s29.2),fun v _=>v = (vB j9.1),fun v _=>v = (ptr pb35 0),fun v _=>v = (ptr pb35 (0 + (s29.2).toNat * 1024)),fun v _=>v = (ptr pb35 (0 + (s29.2).toNat * 1024 + ((0 : Int)).toNat * 256)),fun v _=>v = (ptr pb35 (0 + (s29.2).toNat * 1024 + ((0 : Int)).toNat * 256 + ((bI j9.1)).toNat * 1)),fun v _=>v = (vB x48),fun v _=>v = v0_1,fun v _=>v = (vI s29.2),fun v _=>v = (vB j9.2.1),fun v _=>v = (ptr pb50 0),fun v _=>v = (ptr pb50 (0 + (s29.2).toNat * 1024)),fun v _=>v = (ptr pb50 (0 + (s29.2).toNat * 1024 + ((1 : Int)).toNat * 256)),fun v _=>v = (ptr pb50 (0 + (s29.2).toNat * 1024 + ((1 : Int)).toNat * 256 + ((bI j9.2.1)).toNat * 1)),fun v _=>v = (vB x63),fun v _=>v = (vB (x48 ^^^ x63)),fun v _=>v = v0_1,fun v _=>v = (vI s29.2),fun v _=>v = (vB j9.2.2.1),fun v _=>v = (ptr pb65 0),fun v _=>v = (ptr pb65 (0 + (s29.2).toNat * 1024)),fun v _=>v = (ptr pb65 (0 + (s29.2).toNat * 1024 + ((2 : Int)).toNat * 256)),fun v _=>v = (ptr pb65 (0 + (s29.2).toNat * 1024 + ((2 : Int)).toNat * 256 + ((bI j9.2.2.1)).toNat * 1)),fun v _=>v = (vB x78),fun v _=>v = (vB ((x48 ^^^ x63) ^^^ x78)),fun v _=>v = v0_1,fun v _=>v = (vI s29.2),fun v _=>v = (vB j9.2.2.2),fun v _=>v = (ptr pb80 0),fun v _=>v = (ptr pb80 (0 + (s29.2).toNat * 1024)),fun v _=>v = (ptr pb80 (0 + (s29.2).toNat * 1024 + ((3 : Int)).toNat * 256)),fun v _=>v = (ptr pb80 (0 + (s29.2).toNat * 1024 + ((3 : Int)).toNat * 256 + ((bI j9.2.2.2)).toNat * 1)),fun v _=>v = (vB x93),fun v _=>v = (vB (((x48 ^^^ x63) ^^^ x78) ^^^ x93)),fun v _=>v = (ptr pb1 (0 + ((wr (s4.2 + s29.2))).toNat * 1))] : List (Value → World → Prop)).getD j (fun _ _=>True)) (fun _ _ h hk=>h.keep hk) (gup (Xy (Xy (Xy (Xy (Xy (Xy (Xy (Xy (Xy (Xy (Xy (Xy (Xy (Xy (Xy (Xy (Xy (Xy (Xy (Xy (Xy (Xy (Xy (Xy (Xy (Xy (Xy (Xy (Xy (Xy (Xy (Xy (Xy (Xy (Xy (Xy (Xy (Xy (Xy (Xy gupN))))))))))))))))))))))))))))))))))))))))) hE hM.drew (ki (ZA ?_ (ZA ?_ (ZA ?_ (ZA ?_ (ZA ?_ (ZA ?_ (ZA ?_ (ZA ?_ (ZA ?_ (ZA ?_ (ZA ?_ (ZA ?_ (ZA ?_ (ZA ?_ (ZA ?_ (ZA ?_ (ZA ?_ (ZA ?_ (ZA ?_ (ZA ?_ (ZA ?_ (ZA ?_ (ZA ?_ (ZA ?_ (ZA ?_ (ZA ?_ (ZA ?_ (ZA ?_ (ZA ?_ (ZA ?_ (ZA ?_ (ZA ?_ (ZA ?_ (ZA ?_ (ZA ?_ (ZA ?_ (ZA ?_ (ZA ?_ (ZA ?_ (ZA ?_ yQ))))))))))))))))))))))))))))))))))))))))) ?_
      ·exact qm
      ·exact qm
      ·exact qm
      ·intro a w ux34 hE hM hp
       have f1 : ux34 1 = (vI s4.2):=hp 0 _ rfl rfl
       have f2 : ux34 2 = (vI s29.2):=hp 1 _ rfl rfl
       exact Zh hE (lk rfl f1) (lk rfl f2) rfl fun a hE=>kq rfl hE rfl
      ·exact qm
      ·exact qm
      ·exact qm
      ·intro a w ux34 hE hM hp
       have f4 : ux34 4 = v0_1:=hp 0 _ rfl rfl
       exact WP hE Za ld (lk (lk rfl f4) hv37) fun a hE=>kq rfl hE rfl
      ·intro a w ux34 hE hM hp
       have f5 : ux34 5 = (vI s29.2):=hp 1 _ rfl rfl
       have f7 : ux34 7 = (ptr pb35 0):=hp 0 _ rfl rfl
       exact ZD hE (lk rfl f7) (lk rfl f5) Tryz.underlying265 zj hi41.1 fun a hE=>kq rfl hE rfl
      ·intro a w ux34 hE hM hp
       have f8 : ux34 8 = (ptr pb35 (0 + (s29.2).toNat * 1024)):=hp 0 _ rfl rfl
       exact ZD hE (lk rfl f8) rfl Tryz.underlying263 yG hi44.1 fun a hE=>kq rfl hE rfl
      ·intro a w ux34 hE hM hp
       have f6 : ux34 6 = (vB j9.1):=hp 1 _ rfl rfl
       have f9 : ux34 9 = (ptr pb35 (0 + (s29.2).toNat * 1024 + ((0 : Int)).toNat * 256)):=hp 0 _ rfl rfl
       exact ZD hE (lk rfl f9) (lk rfl f6) Tryz.underlying156 ty5 hi47.1 fun a hE=>kq rfl hE rfl
      ·intro a w ux34 hE hM hp
       have f10 : ux34 10 = (ptr pb35 (0 + (s29.2).toNat * 1024 + ((0 : Int)).toNat * 256 + ((bI j9.1)).toNat * 1)):=hp 0 _ rfl rfl
       exact Zy (v:=(vB x48)) hE (lk rfl f10) ty5 rfl (At.vec (At.vec (At.vec (hM.atk hA39 hB40) hi41.2) hi44.2) hi47.2) fun a hE=>kq rfl hE rfl
      ·exact qm
      ·exact qm
      ·exact qm
      ·intro a w ux34 hE hM hp
       have f12 : ux34 12 = v0_1:=hp 0 _ rfl rfl
       exact WP hE Za ld (lk (lk rfl f12) hv52) fun a hE=>kq rfl hE rfl
      ·intro a w ux34 hE hM hp
       have f13 : ux34 13 = (vI s29.2):=hp 1 _ rfl rfl
       have f15 : ux34 15 = (ptr pb50 0):=hp 0 _ rfl rfl
       exact ZD hE (lk rfl f15) (lk rfl f13) Tryz.underlying265 zj hi56.1 fun a hE=>kq rfl hE rfl
      ·intro a w ux34 hE hM hp
       have f16 : ux34 16 = (ptr pb50 (0 + (s29.2).toNat * 1024)):=hp 0 _ rfl rfl
       exact ZD hE (lk rfl f16) rfl Tryz.underlying263 yG hi59.1 fun a hE=>kq rfl hE rfl
      ·intro a w ux34 hE hM hp
       have f14 : ux34 14 = (vB j9.2.1):=hp 1 _ rfl rfl
       have f17 : ux34 17 = (ptr pb50 (0 + (s29.2).toNat * 1024 + ((1 : Int)).toNat * 256)):=hp 0 _ rfl rfl
       exact ZD hE (lk rfl f17) (lk rfl f14) Tryz.underlying156 ty5 hi62.1 fun a hE=>kq rfl hE rfl
      ·intro a w ux34 hE hM hp
       have f18 : ux34 18 = (ptr pb50 (0 + (s29.2).toNat * 1024 + ((1 : Int)).toNat * 256 + ((bI j9.2.1)).toNat * 1)):=hp 0 _ rfl rfl
       exact Zy (v:=(vB x63)) hE (lk rfl f18) ty5 rfl (At.vec (At.vec (At.vec (hM.atk hA54 hB55) hi56.2) hi59.2) hi62.2) fun a hE=>kq rfl hE rfl
      ·intro a w ux34 hE hM hp
       have f11 : ux34 11 = (vB x48):=hp 0 _ rfl rfl
       have f19 : ux34 19 = (vB x63):=hp 1 _ rfl rfl
       exact Zh hE (lk rfl f11) (lk rfl f19) (Vu x48 x63) fun a hE=>kq rfl hE rfl
      ·exact qm
      ·exact qm
      ·exact qm
      ·intro a w ux34 hE hM hp
       have f21 : ux34 21 = v0_1:=hp 0 _ rfl rfl
       exact WP hE Za ld (lk (lk rfl f21) hv67) fun a hE=>kq rfl hE rfl
      ·intro a w ux34 hE hM hp
       have f22 : ux34 22 = (vI s29.2):=hp 1 _ rfl rfl
       have f24 : ux34 24 = (ptr pb65 0):=hp 0 _ rfl rfl
       exact ZD hE (lk rfl f24) (lk rfl f22) Tryz.underlying265 zj hi71.1 fun a hE=>kq rfl hE rfl
      ·intro a w ux34 hE hM hp
       have f25 : ux34 25 = (ptr pb65 (0 + (s29.2).toNat * 1024)):=hp 0 _ rfl rfl
       exact ZD hE (lk rfl f25) rfl Tryz.underlying263 yG hi74.1 fun a hE=>kq rfl hE rfl
      ·intro a w ux34 hE hM hp
       have f23 : ux34 23 = (vB j9.2.2.1):=hp 1 _ rfl rfl
       have f26 : ux34 26 = (ptr pb65 (0 + (s29.2).toNat * 1024 + ((2 : Int)).toNat * 256)):=hp 0 _ rfl rfl
       exact ZD hE (lk rfl f26) (lk rfl f23) Tryz.underlying156 ty5 hi77.1 fun a hE=>kq rfl hE rfl
      ·intro a w ux34 hE hM hp
       have f27 : ux34 27 = (ptr pb65 (0 + (s29.2).toNat * 1024 + ((2 : Int)).toNat * 256 + ((bI j9.2.2.1)).toNat * 1)):=hp 0 _ rfl rfl
       exact Zy (v:=(vB x78)) hE (lk rfl f27) ty5 rfl (At.vec (At.vec (At.vec (hM.atk hA69 hB70) hi71.2) hi74.2) hi77.2) fun a hE=>kq rfl hE rfl
      ·intro a w ux34 hE hM hp
       have f20 : ux34 20 = (vB (x48 ^^^ x63)):=hp 0 _ rfl rfl
       have f28 : ux34 28 = (vB x78):=hp 1 _ rfl rfl
       exact Zh hE (lk rfl f20) (lk rfl f28) (Vu (x48 ^^^ x63) x78) fun a hE=>kq rfl hE rfl
      ·exact qm
      ·exact qm
      ·exact qm
      ·intro a w ux34 hE hM hp
       have f30 : ux34 30 = v0_1:=hp 0 _ rfl rfl
       exact WP hE Za ld (lk (lk rfl f30) hv82) fun a hE=>kq rfl hE rfl
      ·intro a w ux34 hE hM hp
       have f31 : ux34 31 = (vI s29.2):=hp 1 _ rfl rfl
       have f33 : ux34 33 = (ptr pb80 0):=hp 0 _ rfl rfl
       exact ZD hE (lk rfl f33) (lk rfl f31) Tryz.underlying265 zj hi86.1 fun a hE=>kq rfl hE rfl
      ·intro a w ux34 hE hM hp
       have f34 : ux34 34 = (ptr pb80 (0 + (s29.2).toNat * 1024)):=hp 0 _ rfl rfl
       exact ZD hE (lk rfl f34) rfl Tryz.underlying263 yG hi89.1 fun a hE=>kq rfl hE rfl
      ·intro a w ux34 hE hM hp
       have f32 : ux34 32 = (vB j9.2.2.2):=hp 1 _ rfl rfl
       have f35 : ux34 35 = (ptr pb80 (0 + (s29.2).toNat * 1024 + ((3 : Int)).toNat * 256)):=hp 0 _ rfl rfl
       exact ZD hE (lk rfl f35) (lk rfl f32) Tryz.underlying156 ty5 hi92.1 fun a hE=>kq rfl hE rfl
      ·intro a w ux34 hE hM hp
       have f36 : ux34 36 = (ptr pb80 (0 + (s29.2).toNat * 1024 + ((3 : Int)).toNat * 256 + ((bI j9.2.2.2)).toNat * 1)):=hp 0 _ rfl rfl
       exact Zy (v:=(vB x93)) hE (lk rfl f36) ty5 rfl (At.vec (At.vec (At.vec (hM.atk hA84 hB85) hi86.2) hi89.2) hi92.2) fun a hE=>kq rfl hE rfl
      ·intro a w ux34 hE hM hp
       have f29 : ux34 29 = (vB ((x48 ^^^ x63) ^^^ x78)):=hp 0 _ rfl rfl
       have f37 : ux34 37 = (vB x93):=hp 1 _ rfl rfl
       exact Zh hE (lk rfl f29) (lk rfl f37) (Vu ((x48 ^^^ x63) ^^^ x78) x93) fun a hE=>kq rfl hE rfl
      ·intro a w ux34 hE hM hp
       have f0 : ux34 0 = (Value.slice (some ⟨pb1,0,none⟩) 16 16):=hp 0 _ rfl rfl
       have f3 : ux34 3 = (vI (wr (s4.2 + s29.2))):=hp 1 _ rfl rfl
       exact Q1 hE Za ld (lk rfl f0) (lk rfl f3) Tryz.underlying40 ty5 hi97.1 fun a hE=>kq rfl hE rfl
      ·intro a w ux34 hE hM hg
       have hE:=hE.sub (e':=[(76,(vB (((x48 ^^^ x63) ^^^ x78) ^^^ x93))),(77,(ptr pb1 (0 + ((wr (s4.2 + s29.2))).toNat * 1))),(0,v0_1),(1,(Value.slice (some ⟨pb1,0,none⟩) 16 16)),(4,vI s4.2),(5,vB j9.1),(6,vB j9.2.1),(7,vB j9.2.2.1),(8,vB j9.2.2.2),(9,vI s29.2),(35,vI s29.2),(36,(vT (decide (s29.2 < 4)))),(37,vI s29.2)]) ⟨lk rfl (hg 38 (by decide)),lk rfl (hg 39 (by decide)),rfl,rfl,rfl,rfl,rfl,rfl,rfl,rfl,rfl,rfl,rfl,trivial⟩
       refine Zl (seg:=[(vB (((x48 ^^^ x63) ^^^ x78) ^^^ x93))]) (cs':=enc (s29.1.setIfInBounds ((wr (s4.2 + s29.2))).toNat (((x48 ^^^ x63) ^^^ x78) ^^^ x93))) hE hM Za rfl rfl rfl ty5 rfl (ZQ (v:=s29.1) (x:=((x48 ^^^ x63) ^^^ x78) ^^^ x93) hi97.1) (Flat.cell (((x48 ^^^ x63) ^^^ x78) ^^^ x93 : UInt8)) (ZF (v:=s29.1) (x:=((x48 ^^^ x63) ^^^ x78) ^^^ x93) hi97.1) fun w a hM hE=>Zg (Yb (Zt (wp_region_lit (Zh hE rfl rfl rfl fun a hE=>Zd hE rfl fun a hE=>Zg (Zk ?_)))))
       exact ⟨_,(ois hs30),hE.sub ⟨rfl,rfl,rfl,rfl,rfl,rfl,rfl,rfl,trivial⟩,hM⟩
     ·intro hb33
      have hs30:=Zx hs30 hb33
      refine wp_exit (Zn (Zn (Yd ?_)))
      obtain rfl:=hx31 _ (ois hs30)
      refine Zk ?_
      exact ⟨hE.sub ⟨rfl,rfl,rfl,trivial⟩,hM⟩
    ·skip
     rintro a w ⟨hE,hM⟩
     refine Yb (Zt (wp_region_lit (Zd hE rfl fun a hE=>Zh hE rfl rfl rfl fun a hE=>Zc hE rfl fun a hE=>Zg (Zk ?_))))
     exact ⟨_,(ois hF28),hE.sub ⟨rfl,rfl,rfl,trivial⟩,hM⟩
  ·intro hb8
   have hs5:=Zx hs5 hb8
   refine wp_exit (Zn (Zn (Yd ?_)))
   obtain rfl:=hx6 _ (ois hs5)
   refine Zk ?_
   exact ⟨hE.sub ⟨rfl,trivial⟩,hM⟩
 ·skip
  rintro a w ⟨hE,hM⟩
  obtain rfl:=Option.some.inj hF3
  exact Zdv hE (by rfl) ⟨_,rfl,rfl,hM⟩
def YI (p0 : (Ref Gengine)) (s18 : (Vector UInt8 16) × Int) (s29 : (Vector UInt8 16) × Int) : Option (Fl ((Vector UInt8 16) × Int) (Vector UInt8 16)) :=
 if (decide (s29.2 < 16)) = true then ((ZH s18.1 s29.2).bind fun x34=>(ZH p0.v.box (bI x34)).bind fun x48=>(ZH s29.1 s29.2).bind fun x51=>some (Fl.nx ((s29.1.setIfInBounds (s29.2).toNat x48),wr (s29.2 + 1)))) else (some (Fl.ex s29.1))
def YH (p0 : (Ref Gengine)) (p1 : (List (Vector UInt8 16))) (s18 : (Vector UInt8 16) × Int) : Option (Fl ((Vector UInt8 16) × Int) (Vector UInt8 16)) :=
 if (decide (s18.2 < (p1.length : Int))) = true then (((ZB (YI p0 s18) (s18.1,0)).bind fun j26=>((Vt p0.v.places j26).bind fun r68=>some r68 : Option ((Vector UInt8 16))).bind fun j54=>(if (decide (s18.2 < (wr ((p1.length : Int) - 1)))) = true then ((slc j54.toList (0 : Int) (16 : Int)).bind fun l86=>(Uw p0.v.mixer j54).bind fun r89=>some r89) else (some j54) : Option ((Vector UInt8 16))).bind fun j71=>(idx p1 s18.2).bind fun x94=>(YK j71 x94).bind fun r97=>some r97 : Option ((Vector UInt8 16))).bind fun j23=>some (Fl.nx (j23,wr (s18.2 + 1)))) else (some (Fl.ex s18.1))
def Y8 (p0 : (Ref Gengine)) (p1 : (List (Vector UInt8 16))) (p2 : (Vector UInt8 16)) : Option ((Vector UInt8 16)) :=
 ((idx p1 (0 : Int)).bind fun x9=>(YK p2 x9).bind fun r12=>some r12 : Option ((Vector UInt8 16))).bind fun j5=>(ZB (YH p0 p1) (j5,1)).bind fun j15=>some j15
theorem Ks (w0 : World) (p0 : (Ref Gengine)) (v0_1 : Value) (hv0_1 : Ro w0 p0 [v0_1]) (p1 : (List (Vector UInt8 16))) (v1_1 : Value) (hv1_1 : Ro w0 p1 [v1_1]) (p2 : (Vector UInt8 16)) (r : (Vector UInt8 16)) (hF : Y8 p0 p1 p2 = some r) :
  Calls Tryz.prog 217 [v0_1,v1_1,(Value.agg (enc p2).toArray)].toArray w0 (Rt w0 (Value.agg (enc r).toArray)):=by
 refine ce Tryz.func217 ?_
 intro a hE
 have hM:=M.start w0
 unfold Y8 at hF
 refine Zb (ZK (cs:=enc p2) hE hM Za ld rfl rfl fun b1 w a hM hE=>Zz hE hM ZC fun b3 w a hM hE=>Ze ?_)
 obtain ⟨j5,hl6,hF7⟩:=bind_some hF
 refine ZO (fun a w=>Env 59 a [(0,v0_1),(1,v1_1),(5,(ptr b1 0)),(6,(ptr b3 0))] ∧ M (Old w0) w0 w [raw b3 (enc (Vector.replicate 16 (0 : UInt8))),raw b1 (enc j5)]) ?_ ?_
 ·skip
  obtain ⟨x9,hi11,hl6⟩:=bix hl6
  obtain ⟨r12,e13,hl6⟩:=bind_some hl6
  refine Z9 [10,11,12,13,14] YF rfl rfl (by decide) rfl hE hM (qsP (fun z=>ZX z.E Za ld rfl ZC rfl (z.M.rawAt1) (Flat.len _) (kr0 rfl)) (qsP (fun z=>Zu z.E Za ld rfl (kr0 rfl)) (qsP (fun z=>YR z.E Za ld rfl rfl Tryz.underlying54 ZC (z.M.rd hv1_1) hi11.1 (kr0 rfl)) (qsP (fun z=>ZX z.E Za ld rfl ZC rfl (Y6 (z.M.rd hv1_1) hi11.2) (Flat.len _) (kr0 rfl)) (qsP (fun z=>Z0 z.E Za ld rfl yA (W4 _ p2 x9 r12 e13) (kc rfl)) qs0))))) ?_
  ·intro a w u hE hM
   have hM:=hM.pull1
   refine Zl (seg:=enc r12) (cs':=enc r12) hE hM Za rfl rfl rfl ZC (Flat.len _) (zle flq) (Flat.cell _) (Zi flq) fun w a hM hE=>Zg ?_
   obtain rfl:=Option.some.inj hl6
   refine Zk ?_
   have hM:=hM.pull1
   exact ⟨hE.sub ⟨rfl,rfl,rfl,rfl,trivial⟩,hM⟩
 ·skip
  rintro a w ⟨hE,hM⟩
  refine wp_seq (Zb (Zc hE rfl fun a hE=>Ze ?_))
  obtain ⟨j15,hl16,hF17⟩:=bind_some hF7
  refine ZM (fun a w=>Env 59 a [(5,(ptr b1 0)),(6,(ptr b3 0))] ∧ M (Old w0) w0 w [raw b3 (enc (Vector.replicate 16 (0 : UInt8))),raw b1 (enc j15)]) ?_ ?_
  ·skip
   refine wp_block ?_
   refine ZE (fun (s18 : (Vector UInt8 16) × Int) a w=>Env 59 a [(0,v0_1),(1,v1_1),(5,(ptr b1 0)),(6,(ptr b3 0)),(7,vI s18.2)] ∧ M (Old w0) w0 w [raw b3 (enc (Vector.replicate 16 (0 : UInt8))),raw b1 (enc s18.1)]) hl16 ⟨hE.sub ⟨rfl,rfl,rfl,rfl,rfl,trivial⟩,hM⟩ ?_
   rintro s18 a w ⟨hE,hM⟩ o21 hs19 hx20
   unfold YH at hs19
   refine wp_seq (Zb (Zd hE rfl fun a hE=>Zd hE rfl fun a hE=>Yf hE rfl Tryz.underlying54 (hM.rd hv1_1) fun a hE=>Zh hE rfl rfl rfl fun a hE=>Ze ?_))
   refine Zo hE rfl ?_ ?_
   ·intro hb22
    have hs19:=Zw hs19 hb22
    refine wp_skip (Zt ?_)
    obtain ⟨j23,hl24,hF25⟩:=bind_some hs19
    refine ZO (fun a w=>Env 59 a [(0,v0_1),(1,v1_1),(5,(ptr b1 0)),(6,(ptr b3 0)),(7,vI s18.2)] ∧ M (Old w0) w0 w [raw b3 (enc (Vector.replicate 16 (0 : UInt8))),raw b1 (enc j23)]) ?_ ?_
    ·skip
     refine wp_block (wp_seq (Zb (Zm hE rfl ZC rfl hM.rawAt1 (Flat.len _) fun a hE=>Zd hE rfl fun a hE=>Ze ?_)))
     obtain ⟨j26,hl27,hF28⟩:=bind_some hl24
     refine ZM (fun a w=>Env 59 a [(0,v0_1),(1,v1_1),(5,(ptr b1 0)),(6,(ptr b3 0)),(7,vI s18.2)] ∧ M (Old w0) w0 w [raw b3 (enc (Vector.replicate 16 (0 : UInt8))),raw b1 (enc j26)]) ?_ ?_
     ·skip
      refine wp_block ?_
      refine ZE (fun (s29 : (Vector UInt8 16) × Int) a w=>Env 59 a [(0,v0_1),(1,v1_1),(5,(ptr b1 0)),(6,(ptr b3 0)),(7,vI s18.2),(21,(Value.agg (enc s18.1).toArray)),(22,vI s29.2)] ∧ M (Old w0) w0 w [raw b3 (enc (Vector.replicate 16 (0 : UInt8))),raw b1 (enc s29.1)]) hl27 ⟨hE.sub ⟨rfl,rfl,rfl,rfl,rfl,rfl,rfl,trivial⟩,hM⟩ ?_
      rintro s29 a w ⟨hE,hM⟩ o32 hs30 hx31
      unfold YI at hs30
      refine Zb (Zh hE rfl rfl rfl fun a hE=>Ze (wp_seq ?_))
      refine Zo hE rfl ?_ ?_
      ·intro hb33
       have hs30:=Zw hs30 hb33
       refine wp_skip (Zt (wp_seq (wp_block (Zb (Zd hE rfl ?_))))); intro a hE
       obtain ⟨x34,hi36,hs30⟩:=bvx hs30
       refine JC hE Za ld rfl rfl Tryz.underlying68 ty5 rfl rfl hi36 rfl fun a hE=>Zc hE rfl fun a hE=>Zc hE rfl fun a hE=>Ze (wp_region_lit (Zd hE rfl fun a hE=>Zd hE rfl fun a hE=>Zd hE rfl ?_)); intro a hE
       obtain ⟨pb37,ds38,hv39,hx40,hA41,hB42⟩:=T9 hv0_1 -- ^
       obtain ⟨u43,u45,rfl,h44,h46⟩:=QU hx40 -- ^
       refine WP hE Za ld (lk rfl hv39) fun a hE=>Zf hE rfl (jP) ?_; intro a hE
       obtain ⟨x48,hi47,hs30⟩:=bvx hs30
       refine ZD hE rfl rfl Tryz.underlying157 ty5 hi47.1 fun a hE=>Zy (v:=(vB x48)) hE rfl ty5 rfl (At.vec (At.cat (pre:=[]) (hM.atk hA41 hB42) cl0) hi47.2) ?_; intro a hE
       obtain ⟨x51,hi50,hs30⟩:=bvx hs30
       refine ZD hE rfl rfl Tryz.underlying68 ty5 hi50.1 ?_; intro a hE
       have hM:=hM.pull1
       refine Zl (seg:=[vB x48]) (cs':=enc (s29.1.setIfInBounds (s29.2).toNat x48)) hE hM Za rfl rfl rfl ty5 rfl (ZQ (v:=s29.1) (x:=x48) hi50.1) (Flat.cell (x48 : UInt8)) (ZF (v:=s29.1) (x:=x48) hi50.1) fun w a hM hE=>Zg (Yb (Zt (wp_region_lit (Zh hE rfl rfl rfl fun a hE=>Zd hE rfl fun a hE=>Zg (Zk ?_)))))
       have hM:=hM.pull1
       exact ⟨_,(ois hs30),hE.sub ⟨rfl,rfl,rfl,rfl,rfl,rfl,rfl,trivial⟩,hM⟩
      ·intro hb33
       have hs30:=Zx hs30 hb33
       refine wp_exit (Zn (Zn (Yd ?_)))
       obtain rfl:=hx31 _ (ois hs30)
       refine Zk ?_
       exact ⟨hE.sub ⟨rfl,rfl,rfl,rfl,rfl,trivial⟩,hM⟩
     ·skip
      rintro a w ⟨hE,hM⟩
      refine Zt ?_
      obtain ⟨j54,hl55,hF56⟩:=bind_some hF28
      refine ZO (fun a w=>Env 59 a [(0,v0_1),(1,v1_1),(5,(ptr b1 0)),(6,(ptr b3 0)),(7,vI s18.2)] ∧ M (Old w0) w0 w [raw b3 (enc (Vector.replicate 16 (0 : UInt8))),raw b1 (enc j54)]) ?_ ?_
      ·skip
       obtain ⟨pb58,ds59,hv60,hx61,hA62,hB63⟩:=T9 hv0_1 -- ^
       obtain ⟨u64,u66,rfl,h65,h67⟩:=QU hx61 -- ^
       obtain ⟨r68,e69,hl55⟩:=bind_some hl55
       refine Z9 [35,36,37,38,39,40] YF rfl rfl (by decide) rfl hE hM (qsP (fun z=>Zu z.E Za ld rfl (kr0 rfl)) (qsP (fun z=>WP z.E Za ld (lk rfl hv60) (kr0 rfl)) (qsP (fun z=>Zj z.E Za ld rfl (Zd7) (kr0 rfl)) (qsP (fun z=>ZX z.E Za ld rfl Kd rfl (At.cat (pre:=[enc p0.v.box,enc p0.v.backBox]) (z.M.atk hA62 hB63) ck) (Flat.len _) (kr0 rfl)) (qsP (fun z=>ZX z.E Za ld rfl ZC rfl (z.M.rawAt1) (Flat.len _) (kr0 rfl)) (qsP (fun z=>Z0 z.E Za ld rfl (cbm Tryz.func235) (HP _ p0.v.places j26 r68 e69) (kc rfl)) qs0)))))) ?_
       ·intro a w u hE hM
        have hM:=hM.pull1
        refine Zl (seg:=enc r68) (cs':=enc r68) hE hM Za rfl rfl rfl ZC (Flat.len _) (zle flq) (Flat.cell _) (Zi flq) fun w a hM hE=>Zg ?_
        obtain rfl:=Option.some.inj hl55
        refine Zk ?_
        have hM:=hM.pull1
        exact ⟨hE.sub ⟨rfl,rfl,rfl,rfl,rfl,trivial⟩,hM⟩
      ·skip
       rintro a w ⟨hE,hM⟩
       obtain ⟨j71,hl72,hF73⟩:=bind_some hF56
       refine ZO (fun a w=>Env 59 a [(0,v0_1),(1,v1_1),(5,(ptr b1 0)),(6,(ptr b3 0)),(7,vI s18.2)] ∧ M (Old w0) w0 w [raw b3 (enc (Vector.replicate 16 (0 : UInt8))),raw b1 (enc j71)]) ?_ ?_
       ·skip
        refine Zb (Zd hE rfl fun a hE=>Zd hE rfl fun a hE=>Yf hE rfl Tryz.underlying54 (hM.rd hv1_1) fun a hE=>Zh hE rfl rfl rfl fun a hE=>Zh hE rfl rfl rfl fun a hE=>Ze ?_)
        refine Zo hE rfl ?_ ?_
        ·intro hb74
         have hl72:=Zw hl72 hb74
         obtain ⟨pb76,ds77,hv78,hx79,hA80,hB81⟩:=T9 hv0_1 -- ^
         obtain ⟨u82,u84,rfl,h83,h85⟩:=QU hx79 -- ^
         obtain ⟨l86,e87,hl72⟩:=bind_some hl72
         have hb88:=Ql e87 -- ^
         refine Z9 [46,47,48,49,50] YF rfl rfl (by decide) rfl hE hM (qsP (fun z=>Zu z.E Za ld rfl (kr0 rfl)) (qsP (fun z=>WP z.E Za ld (lk rfl hv78) (kr0 rfl)) (qsP (fun z=>Zj z.E Za ld rfl (Zej) (kr0 rfl)) (qsP (fun z=>ZN (v:=u82) z.E Za ld rfl Zbo rfl (At.cat (pre:=[enc p0.v.box,enc p0.v.backBox,enc p0.v.places,enc p0.v.backPlaces]) (z.M.atk hA80 hB81) ck) (kr0 rfl)) (qsP (fun z=>WQ (N:=16) z.E Za ld rfl rfl rfl rfl rfl Tryz.underlying68 ty5 hb88 (kr0 rfl)) qs0))))) ?_
         ·intro a w u hE hM
          have hM:=hM.pull1
          obtain ⟨r89,e90,hl72⟩:=bind_some hl72
          refine Zv hE rfl (cbm Tryz.func236) (BJ _ _ _ _ p0.v.mixer u82 h83 b1 j54 hM r89 e90) ?_
          rintro v w a ⟨rfl,hM⟩ hE
          refine Zg ?_
          obtain rfl:=Option.some.inj hl72
          refine Zk ?_
          have hM:=hM.pull1
          exact ⟨hE.sub ⟨rfl,rfl,rfl,rfl,rfl,trivial⟩,hM⟩
        ·intro hb74
         have hl72:=Zx hl72 hb74
         refine wp_skip ?_
         obtain rfl:=Option.some.inj hl72
         refine Zk ?_
         exact ⟨hE.sub ⟨rfl,rfl,rfl,rfl,rfl,trivial⟩,hM⟩
       ·skip
        rintro a w ⟨hE,hM⟩
        obtain ⟨x94,hi96,hF73⟩:=bix hF73
        obtain ⟨r97,e98,hF73⟩:=bind_some hF73
        refine Z9 [52,53,54,55,56,57] YF rfl rfl (by decide) rfl hE hM (qsP (fun z=>ZX z.E Za ld rfl ZC rfl (z.M.rawAt1) (Flat.len _) (kr0 rfl)) (qsP (fun z=>Zu z.E Za ld rfl (kr0 rfl)) (qsP (fun z=>Zu z.E Za ld rfl (kr0 rfl)) (qsP (fun z=>YR z.E Za ld rfl rfl Tryz.underlying54 ZC (z.M.rd hv1_1) hi96.1 (kr0 rfl)) (qsP (fun z=>ZX z.E Za ld rfl ZC rfl (Y6 (z.M.rd hv1_1) hi96.2) (Flat.len _) (kr0 rfl)) (qsP (fun z=>Z0 z.E Za ld rfl yA (W4 _ j71 x94 r97 e98) (kc rfl)) qs0)))))) ?_
        ·intro a w u hE hM
         have hM:=hM.pull1
         refine Zl (seg:=enc r97) (cs':=enc r97) hE hM Za rfl rfl rfl ZC (Flat.len _) (zle flq) (Flat.cell _) (Zi flq) fun w a hM hE=>Zg (Yb ?_)
         obtain rfl:=Option.some.inj hF73
         refine Zk ?_
         have hM:=hM.pull1
         exact ⟨hE.sub ⟨rfl,rfl,rfl,rfl,rfl,trivial⟩,hM⟩
    ·skip
     rintro a w ⟨hE,hM⟩
     refine wp_region_lit (Zd hE rfl fun a hE=>Zh hE rfl rfl rfl fun a hE=>Zc hE rfl fun a hE=>Zg (Zk ?_))
     exact ⟨_,(ois hF25),hE.sub ⟨rfl,rfl,rfl,rfl,rfl,trivial⟩,hM⟩
   ·intro hb22
    have hs19:=Zx hs19 hb22
    refine wp_exit (Zn (Zn (Yd ?_)))
    obtain rfl:=hx20 _ (ois hs19)
    refine Zk ?_
    exact ⟨hE.sub ⟨rfl,rfl,trivial⟩,hM⟩
  ·skip
   rintro a w ⟨hE,hM⟩
   refine Zt (Zb (Zm hE rfl ZC rfl hM.rawAt1 (Flat.len _) fun a hE=>Zl (seg:=enc j15) (cs':=enc j15) hE hM Za rfl rfl rfl ZC (Flat.len _) (zle flq) (Flat.cell _) (Zi flq) fun w a hM hE=>Ze ?_))
   obtain rfl:=Option.some.inj hF17
   have hq101 : Yw Tryz.prog _ _ (.cell 6 68) _:=ZI hE rfl ZC rfl hM.rawAt0 (Flat.len _) rfl
   exact wp_ret (ZJ hE rfl hq101 ⟨_,rfl,rfl,hM.kept⟩)
def YQ (p0 : (Ref Gengine)) (p1 : (Vector UInt8 16)) (p2 : (Vector UInt8 16)) : Option ((Vector UInt8 16)) :=
 ((Vv p0 p1 p0.v.rounds).bind fun r21=>(Y8 p0 r21 p2).bind fun r24=>some r24 : Option ((Vector UInt8 16))).bind fun j7=>some j7
theorem QL (w0 : World) (p0 : (Ref Gengine)) (v0_1 : Value) (hv0_1 : Ro w0 p0 [v0_1]) (p1 : (Vector UInt8 16)) (p2 : (Vector UInt8 16)) (r : (Vector UInt8 16)) (hF : YQ p0 p1 p2 = some r) :
  Calls Tryz.prog 183 [v0_1,(Value.agg (enc p1).toArray),(Value.agg (enc p2).toArray)].toArray w0 (Rt w0 (Value.agg (enc r).toArray)):=by
 refine ce Tryz.func183 ?_
 intro a hE
 have hM:=M.start w0
 unfold YQ at hF
 refine Zb (ZK (cs:=enc p1) hE hM Za ld rfl rfl fun b1 w a hM hE=>ZK (cs:=enc p2) hE hM Za ld rfl rfl fun b3 w a hM hE=>Zz hE hM ZC fun b5 w a hM hE=>Ze ?_)
 obtain ⟨j7,hl8,hF9⟩:=bind_some hF
 refine ZO (fun a w=>Env 17 a [(6,(ptr b5 0))] ∧ M (Old w0) w0 w [raw b5 (enc j7)]) ?_ ?_
 ·skip
  obtain ⟨pb11,ds12,hv13,hx14,hA15,hB16⟩:=T9 hv0_1 -- ^
  obtain ⟨u17,u19,rfl,h18,h20⟩:=QU hx14 -- ^
  obtain ⟨r21,e22,hl8⟩:=bind_some hl8
  refine YC (its:=[raw b5 (enc (Vector.replicate 16 (0 : UInt8))),raw b3 (enc p2),raw b1 (enc p1)]) (mk:=([mkO 7 (fun v=>osl NoB (r21 : List (Vector UInt8 16)) v)] : Mk)) [7,8,9,10,11,12,13,14,15] YF rfl rfl (by decide) rfl hE (fun u=>M.qE (M.q0 hM.drew u) emO) (qsP (fun z=>Zu z.E Za ld rfl (kr0 rfl)) (qsP (fun z=>Zu z.E Za ld rfl (kr0 rfl)) (qsP (v:=(Value.agg (enc p1).toArray)) ?_ (qsP (fun z=>Zu z.E Za ld rfl (kr0 rfl)) (qsP (fun z=>WP z.E Za ld (lk rfl hv13) (kr0 rfl)) (qsP (fun z=>Zj z.E Za ld rfl (Zek) (kr0 rfl)) (qsP (v:=(vI p0.v.rounds)) ?_ (qsM (pr:=fun v=>True) ?_ (qsP (v:=(Value.agg (enc p2).toArray)) ?_ qs0))))))))) ?_
  ·intro a w ux10 D z
   have hE:=z.E
   have hM:=z.M
   exact Zm hE rfl ZC rfl hM.rawAt2 (Flat.len _) fun a hE=>⟨Kept.refl _ _,_,rfl,hE⟩
  ·intro a w ux10 D z
   have hE:=z.E
   have hM:=z.M
   exact Zy (v:=(vI p0.v.rounds)) hE rfl ty2 rfl (At.cat (pre:=[enc p0.v.box,enc p0.v.backBox,enc p0.v.places,enc p0.v.backPlaces,[u17],[u19]]) (hM.atk hA15 hB16) ck) fun a hE=>⟨Kept.refl _ _,_,rfl,hE⟩
  ·intro a w ux10 D z
   have hE:=z.E
   have hD : D 7 = false:=z.F
   have hM0:=z.M
   have hM:=z.M
   refine Zv hE rfl (cbm Tryz.func218) (HJ _ p0 v0_1 (hM.rdo hv0_1) p1 p0.v.rounds r21 e22) ?_
   rintro _ w a ⟨_,rfl,hFr,hK⟩ hE
   have hM:=hM0.add hK hFr
   exact ⟨_,_,rfl,hE,M.qFill (mk1:=[]) (mk2:=[]) (f:=(fun v=>osl NoB (r21 : List (Vector UInt8 16)) v)) hM rfl hD,trivial⟩
  ·intro a w ux10 D z
   have hE:=z.E
   have hM:=z.M
   exact Zm hE rfl ZC rfl hM.rawAt1 (Flat.len _) fun a hE=>⟨Kept.refl _ _,_,rfl,hE⟩
  ·intro a w ux10 D hE hM hG hall
   have d7:=hall 7 (by decide)
   have hM:=hM.sure (pre:=[_,_,_]) d7
   obtain ⟨r24,e25,hl8⟩:=bind_some hl8
   refine Zv hE rfl (cbm Tryz.func217) (Ks _ p0 v0_1 (hM.rdo hv0_1) r21 (ux10 7) (hM.sl (pre:=[_,_,_]) noB) p2 r24 e25) ?_
   rintro v w a ⟨rfl,hK⟩ hE
   have hM:=hM.keep hK
   refine Zl (seg:=enc r24) (cs':=enc r24) hE hM Za rfl rfl rfl ZC (Flat.len _) (zle flq) (Flat.cell _) (Zi flq) fun w a hM hE=>Zg ?_
   obtain rfl:=Option.some.inj hl8
   refine Zk ?_
   have hM:=M.fst (l:=[_]) hM
   exact ⟨hE.sub ⟨rfl,trivial⟩,hM⟩
 ·skip
  rintro a w ⟨hE,hM⟩
  obtain rfl:=Option.some.inj hF9
  have hq27 : Yw Tryz.prog _ _ (.cell 6 68) _:=ZI hE rfl ZC rfl hM.rawAt0 (Flat.len _) rfl
  exact wp_ret (ZJ hE rfl hq27 ⟨_,rfl,rfl,hM.kept⟩)
def XC (p0 : (Ref Gengine)) (p1 : (Vector UInt8 32)) (p2 : (Vector UInt8 16)) : Option ((Vector UInt8 32)) :=
 (slc p1.toList (0 : Int) (16 : Int)).bind fun l8=>(QP 16 l8).bind fun x11=>(slc p1.toList (16 : Int) (32 : Int)).bind fun l13=>(QP 16 l13).bind fun x16=>(YK x11 p2).bind fun r26=>((YQ p0 x16 r26).bind fun r34=>(YK r34 r26).bind fun r36=>some r36 : Option ((Vector UInt8 16))).bind fun j30=>(YK x16 p2).bind fun r39=>((YQ p0 j30 r39).bind fun r47=>(YK r47 r39).bind fun r49=>some r49 : Option ((Vector UInt8 16))).bind fun j43=>((slc j30.toList (0 : Int) (16 : Int)).bind fun l56=>(slc j43.toList (0 : Int) (16 : Int)).bind fun l59=>(Ya ([l56,l59] : (List (List UInt8)))).bind fun r64=>(QP 32 r64).bind fun x67=>some x67 : Option ((Vector UInt8 32))).bind fun j52=>some j52
theorem JT (w0 : World) (p0 : (Ref Gengine)) (v0_1 : Value) (hv0_1 : Ro w0 p0 [v0_1]) (p1 : (Vector UInt8 32)) (p2 : (Vector UInt8 16)) (r : (Vector UInt8 32)) (hF : XC p0 p1 p2 = some r) :
  Calls Tryz.prog 134 [v0_1,(Value.agg (enc p1).toArray),(Value.agg (enc p2).toArray)].toArray w0 (Rt w0 (Value.agg (enc r).toArray)):=by
 refine ce Tryz.func134 ?_
 intro a hE
 have hM:=M.start w0
 unfold XC at hF
 refine Zb (ZK (cs:=enc p1) hE hM Za ld rfl rfl fun b1 w a hM hE=>ZK (cs:=enc p2) hE hM Za ld rfl rfl fun b3 w a hM hE=>Zz hE hM Ye fun b5 w a hM hE=>Ze (wp_seq ?_))
 obtain ⟨l8,e9,hF⟩:=bind_some hF
 have hb10:=Ql e9 -- ^
 obtain ⟨x11,e12,hF⟩:=bind_some hF
 obtain ⟨l13,e14,hF⟩:=bind_some hF
 have hb15:=Ql e14 -- ^
 obtain ⟨x16,e17,hF⟩:=bind_some hF
 refine YC (its:=[raw b5 (enc (Vector.replicate 32 (0 : UInt8))),raw b3 (enc p2),raw b1 (enc p1)]) (mk:=([mkO 6 (fun v=>Wy v (enc (Vector.replicate 16 (0 : UInt8)))),mkO 7 (fun v=>Wy v (enc (Vector.replicate 16 (0 : UInt8))))] : Mk)) [11,12,13,14,15,16,7,8] YF rfl rfl (by decide) rfl hE (fun u=>M.qE (M.qE (M.q0 hM.drew u) emO) emO) (qsP (fun z=>WQ (N:=32) z.E Za ld rfl rfl rfl rfl rfl Tryz.underlying35 ty5 hb10 (kr0 rfl)) (qsP (v:=(ptr (sb (Yc (.slice (some ⟨b1,0,none⟩) 32 32) ((0 : Int)).toNat ((16 : Int)).toNat 1)) (so (Yc (.slice (some ⟨b1,0,none⟩) 32 32) ((0 : Int)).toNat ((16 : Int)).toNat 1)))) ?_ (qsP (v:=(Value.agg (enc x11).toArray)) ?_ (qsP (fun z=>WQ (N:=32) z.E Za ld rfl rfl rfl rfl rfl Tryz.underlying35 ty5 hb15 (kr0 rfl)) (qsP (v:=(ptr (sb (Yc (.slice (some ⟨b1,0,none⟩) 32 32) ((16 : Int)).toNat ((32 : Int)).toNat 1)) (so (Yc (.slice (some ⟨b1,0,none⟩) 32 32) ((16 : Int)).toNat ((32 : Int)).toNat 1)))) ?_ (qsP (v:=(Value.agg (enc x16).toArray)) ?_ (qsM (pr:=fun v=>True) ?_ (qsM (pr:=fun v=>True) ?_ qs0)))))))) ?_
 ·intro a w ux7 D z
  have hE:=z.E
  have hM:=z.M
  exact H3 hE Za ld rfl Tryz.underlying68 (Xf (At.sat hM.rawAt2 (by simp) (by decide)) e9) (QV e12).1 (by decide) fun a hE=>⟨Kept.refl _ _,_,rfl,hE⟩
 ·intro a w ux7 D z
  have hE:=z.E
  have hM:=z.M
  exact Zm hE rfl ZC rfl (zG (Xf (At.sat hM.rawAt2 (by simp) (by decide)) e9) e12 (by decide)) (Flat.len _) fun a hE=>⟨Kept.refl _ _,_,rfl,hE⟩
 ·intro a w ux7 D z
  have hE:=z.E
  have hM:=z.M
  exact H3 hE Za ld rfl Tryz.underlying68 (Xf (At.sat hM.rawAt2 (by simp) (by decide)) e14) (QV e17).1 (by decide) fun a hE=>⟨Kept.refl _ _,_,rfl,hE⟩
 ·intro a w ux7 D z
  have hE:=z.E
  have hM:=z.M
  exact Zm hE rfl ZC rfl (zG (Xf (At.sat hM.rawAt2 (by simp) (by decide)) e14) e17 (by decide)) (Flat.len _) fun a hE=>⟨Kept.refl _ _,_,rfl,hE⟩
 ·intro a w ux7 D z
  have hE:=z.E
  have hD : D 6 = false:=z.F
  have hM:=z.M
  refine Zz hE hM ZC ?_; intro b18 w a hM hE
  have hM:=hM.pack1 (it:=Wy _ (enc (Vector.replicate 16 (0 : UInt8)))) (fun w w' fp ⟨b',e,k⟩ hb=>⟨b',e,YD w w' fp k hb⟩) (fun fp k=>⟨_,rfl,k⟩)
  exact ⟨_,_,rfl,hE,M.qFill (mk1:=[]) (mk2:=[_]) (f:=fun v=>Wy v (enc (Vector.replicate 16 (0 : UInt8)))) hM rfl hD,trivial⟩
 ·intro a w ux7 D z
  have hE:=z.E
  have hD : D 7 = false:=z.F
  have hM:=z.M
  refine Zz hE hM ZC ?_; intro b20 w a hM hE
  have hM:=hM.pack1 (it:=Wy _ (enc (Vector.replicate 16 (0 : UInt8)))) (fun w w' fp ⟨b',e,k⟩ hb=>⟨b',e,YD w w' fp k hb⟩) (fun fp k=>⟨_,rfl,k⟩)
  exact ⟨_,_,rfl,hE,M.qFill (mk1:=[_]) (mk2:=[]) (f:=fun v=>Wy v (enc (Vector.replicate 16 (0 : UInt8)))) hM rfl hD,trivial⟩
 ·intro a w ux7 D hE hM hG hall
  have d6:=hall 6 (by decide)
  have d7:=hall 7 (by decide)
  have hM:=(hM.sure (pre:=[_,_,_]) d6).pull
  obtain ⟨_,⟨b22,f23,_⟩,_⟩:=hM.head
  have hM:=((hM.pack1 YD (it:=raw b22 (enc (Vector.replicate 16 (0 : UInt8)))) (fun fp ⟨b2,e2,k2⟩=>by rw [f23] at e2; simp [ptr] at e2; subst e2; exact k2)).sure (pre:=[_,_,_,_]) d7).pull
  obtain ⟨_,⟨b24,f25,_⟩,_⟩:=hM.head
  have hM:=hM.pack1 YD (it:=raw b24 (enc (Vector.replicate 16 (0 : UInt8)))) (fun fp ⟨b2,e2,k2⟩=>by rw [f25] at e2; simp [ptr] at e2; subst e2; exact k2)
  have hE:=hE.setq (t:=7) rfl f23
  have hE:=hE.setq (t:=8) rfl f25
  have hM:=hM.pull1
  refine Zl (seg:=enc x11) (cs':=enc x11) hE hM Za rfl rfl rfl ZC (Flat.len _) (zle flq) (Flat.cell _) (Zi flq) ?_; intro w a hM hE
  have hM:=hM.pull1
  refine Zl (seg:=enc x16) (cs':=enc x16) hE hM Za rfl rfl rfl ZC (Flat.len _) (zle flq) (Flat.cell _) (Zi flq) fun w a hM hE=>Zg (Zt (Zb (Zm hE rfl ZC rfl hM.rawAt1 (Flat.len _) fun a hE=>Zm hE rfl ZC rfl hM.rawAt3 (Flat.len _) ?_))); intro a hE
  obtain ⟨r26,e27,hF⟩:=bind_some hF
  refine Zv hE rfl yA (W4 _ x11 p2 r26 e27) ?_
  rintro v w a ⟨rfl,hK⟩ hE
  have hM:=hM.keep hK
  refine Zz hE hM ZC fun b28 w a hM hE=>Zl (seg:=enc r26) (cs':=enc r26) hE hM Za rfl rfl rfl ZC (Flat.len _) (zle flq) (Flat.cell _) (Zi flq) fun w a hM hE=>Ze ?_
  obtain ⟨j30,hl31,hF32⟩:=bind_some hF
  refine ZO (fun a w=>Env 41 a [(0,v0_1),(5,(ptr b3 0)),(6,(ptr b5 0)),(7,(ptr b22 0)),(8,(ptr b24 0))] ∧ M (Old w0) w0 w [raw b24 (enc x16),raw b22 (enc j30),raw b5 (enc (Vector.replicate 32 (0 : UInt8))),raw b3 (enc p2)]) ?_ ?_
  ·skip
   obtain ⟨r34,e35,hl31⟩:=bind_some hl31
   obtain ⟨r36,e37,hl31⟩:=bind_some hl31
   refine Z9 [20,21,22,23,24,25] YF rfl rfl (by decide) rfl hE hM (qsP (fun z=>Zu z.E Za ld rfl (kr0 rfl)) (qsP (fun z=>ZX z.E Za ld rfl ZC rfl (z.M.rawAt1) (Flat.len _) (kr0 rfl)) (qsP (fun z=>ZX z.E Za ld rfl ZC rfl (z.M.rawAt0) (Flat.len _) (kr0 rfl)) (qsP (fun z=>Z0 z.E Za ld rfl (cbm Tryz.func183) (QL _ p0 v0_1 (z.M.rdo hv0_1) x16 r26 r34 e35) (kc rfl)) (qsP (fun z=>ZX z.E Za ld rfl ZC rfl (z.M.rawAt0) (Flat.len _) (kr0 rfl)) (qsP (fun z=>Z0 z.E Za ld rfl yA (W4 _ r34 r26 r36 e37) (kc rfl)) qs0)))))) ?_
   ·intro a w u hE hM
    have hM:=hM.pull2
    refine Zl (seg:=enc r36) (cs':=enc r36) hE hM Za rfl rfl rfl ZC (Flat.len _) (zle flq) (Flat.cell _) (Zi flq) fun w a hM hE=>Zg ?_
    obtain rfl:=Option.some.inj hl31
    refine Zk ?_
    have hM:=M.fst (l:=[_,_,_,_]) hM.pull4.pull4.pull2.pull4
    exact ⟨hE.sub ⟨rfl,rfl,rfl,rfl,rfl,trivial⟩,hM⟩
  ·skip
   rintro a w ⟨hE,hM⟩
   refine Zb (Zm hE rfl ZC rfl hM.rawAt0 (Flat.len _) fun a hE=>Zm hE rfl ZC rfl hM.rawAt3 (Flat.len _) ?_); intro a hE
   obtain ⟨r39,e40,hF32⟩:=bind_some hF32
   refine Zv hE rfl yA (W4 _ x16 p2 r39 e40) ?_
   rintro v w a ⟨rfl,hK⟩ hE
   have hM:=hM.keep hK
   refine Zz hE hM ZC fun b41 w a hM hE=>Zl (seg:=enc r39) (cs':=enc r39) hE hM Za rfl rfl rfl ZC (Flat.len _) (zle flq) (Flat.cell _) (Zi flq) fun w a hM hE=>Ze ?_
   obtain ⟨j43,hl44,hF45⟩:=bind_some hF32
   refine ZO (fun a w=>Env 41 a [(6,(ptr b5 0)),(7,(ptr b22 0)),(8,(ptr b24 0))] ∧ M (Old w0) w0 w [raw b24 (enc j43),raw b22 (enc j30),raw b5 (enc (Vector.replicate 32 (0 : UInt8)))]) ?_ ?_
   ·skip
    obtain ⟨r47,e48,hl44⟩:=bind_some hl44
    obtain ⟨r49,e50,hl44⟩:=bind_some hl44
    refine Z9 [29,30,31,32,33,34] YF rfl rfl (by decide) rfl hE hM (qsP (fun z=>Zu z.E Za ld rfl (kr0 rfl)) (qsP (fun z=>ZX z.E Za ld rfl ZC rfl (z.M.rawAt2) (Flat.len _) (kr0 rfl)) (qsP (fun z=>ZX z.E Za ld rfl ZC rfl (z.M.rawAt0) (Flat.len _) (kr0 rfl)) (qsP (fun z=>Z0 z.E Za ld rfl (cbm Tryz.func183) (QL _ p0 v0_1 (z.M.rdo hv0_1) j30 r39 r47 e48) (kc rfl)) (qsP (fun z=>ZX z.E Za ld rfl ZC rfl (z.M.rawAt0) (Flat.len _) (kr0 rfl)) (qsP (fun z=>Z0 z.E Za ld rfl yA (W4 _ r47 r39 r49 e50) (kc rfl)) qs0)))))) ?_
    ·intro a w u hE hM
     have hM:=hM.pull1
     refine Zl (seg:=enc r49) (cs':=enc r49) hE hM Za rfl rfl rfl ZC (Flat.len _) (zle flq) (Flat.cell _) (Zi flq) fun w a hM hE=>Zg ?_
     obtain rfl:=Option.some.inj hl44
     refine Zk ?_
     have hM:=M.fst (l:=[_,_,_]) hM.pull3.pull3.pull2
     exact ⟨hE.sub ⟨rfl,rfl,rfl,trivial⟩,hM⟩
   ·skip
    rintro a w ⟨hE,hM⟩
    obtain ⟨j52,hl53,hF54⟩:=bind_some hF45
    refine ZO (fun a w=>Env 41 a [(6,(ptr b5 0))] ∧ M (Old w0) w0 w [raw b5 (enc j52)]) ?_ ?_
    ·skip
     obtain ⟨l56,e57,hl53⟩:=bind_some hl53
     have hb58:=Ql e57 -- ^
     obtain ⟨l59,e60,hl53⟩:=bind_some hl53
     have hb61:=Ql e60 -- ^
     refine Z9 [35,36] YF rfl rfl (by decide) rfl hE hM (qsP (fun z=>WQ (N:=16) z.E Za ld rfl rfl rfl rfl rfl Tryz.underlying68 ty5 hb58 (kr0 rfl)) (qsP (fun z=>WQ (N:=16) z.E Za ld rfl rfl rfl rfl rfl Tryz.underlying68 ty5 hb61 (kr0 rfl)) qs0)) ?_
     ·intro a w u hE hM
      refine Qo (xs:=[.tmp 35,.tmp 36]) (vs:=[(Yc (.slice (some ⟨b22,0,none⟩) 16 16) ((0 : Int)).toNat ((16 : Int)).toNat 1),(Yc (.slice (some ⟨b24,0,none⟩) 16 16) ((0 : Int)).toNat ((16 : Int)).toNat 1)]) hE hM Za ld rfl rfl Tryz.underlying23 Wh (by decide) (WX (Z6 (Xf (At.sat hM.rawAt1 (by simp) (by decide)) e57)) (WX (Z6 (Xf (At.sat hM.rawAt0 (by simp) (by decide)) e60)) HN)) ?_; intro b62 w a hM hE
      obtain ⟨r64,e65,hl53⟩:=bind_some hl53
      refine Zv hE rfl Zca (Vy _ ([l56,l59] : (List (List UInt8))) (Value.slice (some ⟨b62,0,none⟩) 2 2) (Hx hM.rawAt0 (hM.rawLt (pre:=[])) ⟨(Xf (At.sat hM.rawAt2 (by simp) (by decide)) e57),(Xf (At.sat hM.rawAt1 (by simp) (by decide)) e60),trivial⟩ rfl) r64 e65) ?_
      rintro u66 w a ⟨_,rfl,hFr,hK⟩ hE
      have hM:=hM.add hK hFr
      obtain ⟨x67,e68,hl53⟩:=bind_some hl53
      refine H3 hE Za ld rfl Tryz.underlying35 (hM.sl (pre:=[]) noB) (QV e68).1 (by decide) fun a hE=>Zm hE rfl Ye rfl (zG (hM.sl (pre:=[]) noB) e68 (by decide)) (Flat.len _) ?_; intro a hE
      have hM:=hM.pull4
      refine Zl (seg:=enc x67) (cs':=enc x67) hE hM Za rfl rfl rfl Ye (Flat.len _) (zle flq) (Flat.cell _) (Zi flq) fun w a hM hE=>Zg ?_
      obtain rfl:=Option.some.inj hl53
      refine Zk ?_
      have hM:=M.fst (l:=[_]) hM
      exact ⟨hE.sub ⟨rfl,trivial⟩,hM⟩
    ·skip
     rintro a w ⟨hE,hM⟩
     obtain rfl:=Option.some.inj hF54
     have hq70 : Yw Tryz.prog _ _ (.cell 6 35) _:=ZI hE rfl Ye rfl hM.rawAt0 (Flat.len _) rfl
     exact wp_ret (ZJ hE rfl hq70 ⟨_,rfl,rfl,hM.kept⟩)
def Xl (p0 : (Ref Gengine)) (r13 : (List (Vector UInt8 16))) (s19 : (Vector UInt8 32) × Int) : Option (Fl ((Vector UInt8 32) × Int) (Vector UInt8 32)) :=
 if (decide (s19.2 < (r13.length : Int))) = true then ((idx r13 s19.2).bind fun x24=>(XC p0 s19.1 x24).bind fun r29=>some (Fl.nx (r29,wr (s19.2 + 1)))) else (some (Fl.ex s19.1))
def YN (p0 : (Ref Gengine)) (p1 : (List (List UInt8))) : Option ((Vector UInt8 32)) :=
 (Wn).bind fun r3=>(Ya p1).bind fun r7=>(VU r7).bind fun r10=>(UY r10).bind fun r13=>(ZB (Xl p0 r13) (r3,0)).bind fun j16=>some j16
theorem VO (w0 : World) (p0 : (Ref Gengine)) (v0_1 : Value) (hv0_1 : Ro w0 p0 [v0_1]) (p1 : (List (List UInt8))) (v1_1 : Value) (hv1_1 : Ro w0 p1 [v1_1]) (r : (Vector UInt8 32)) (hF : YN p0 p1 = some r) :
  Calls Tryz.prog 69 [v0_1,v1_1].toArray w0 (Rt w0 (Value.agg (enc r).toArray)):=by
 refine ce Tryz.func69 ?_
 intro a hE
 have hM:=M.start w0
 unfold YN at hF
 refine Zb (Zz hE hM Ye fun b1 w a hM hE=>Ze (Zb ?_))
 obtain ⟨r3,e4,hF⟩:=bind_some hF
 refine Zv hE rfl (cbm Tryz.func130) (JO _  r3 e4) ?_
 rintro v w a ⟨rfl,hK⟩ hE
 have hM:=hM.keep hK
 refine Zz hE hM Ye fun b5 w a hM hE=>Zl (seg:=enc r3) (cs':=enc r3) hE hM Za rfl rfl rfl Ye (Flat.len _) (zle flq) (Flat.cell _) (Zi flq) fun w a hM hE=>Ze (wp_seq (Zb (Zd hE rfl ?_))); intro a hE
 obtain ⟨r7,e8,hF⟩:=bind_some hF
 refine Zv hE rfl Zca (Vy _ p1 v1_1 (hM.rdo hv1_1) r7 e8) ?_
 rintro u9 w a ⟨_,rfl,hFr,hK⟩ hE
 have hM:=hM.add hK hFr
 obtain ⟨r10,e11,hF⟩:=bind_some hF
 refine Zv hE rfl (cbm Tryz.func132) (Be _ r7 u9 (hM.sl (pre:=[]) noB) r10 e11) ?_
 rintro u12 w a ⟨_,rfl,hFr,hK⟩ hE
 have hM:=hM.add hK hFr
 obtain ⟨r13,e14,hF⟩:=bind_some hF
 refine Zv hE rfl (cbm Tryz.func131) (Ax _ r10 u12 (hM.sl (pre:=[]) noB) r13 e14) ?_
 rintro u15 w a ⟨_,rfl,hFr,hK⟩ hE
 have hM:=hM.add hK hFr
 refine Yf hE rfl Tryz.underlying54 (hM.sl (pre:=[]) noB) fun a hE=>Zd hE rfl fun a hE=>Ze ?_
 obtain ⟨j16,hl17,hF18⟩:=bind_some hF
 refine ZM (fun a w=>Env 24 a [(4,(ptr b1 0)),(5,(ptr b5 0))] ∧ M (Old w0) w0 w [raw b5 (enc j16),raw b1 (enc (Vector.replicate 32 (0 : UInt8)))]) ?_ ?_
 ·skip
  refine wp_block ?_
  have hM:=M.fst (l:=[_,_,_]) hM.pull4.pull4.pull2
  refine ZE (fun (s19 : (Vector UInt8 32) × Int) a w=>Env 24 a [(0,v0_1),(4,(ptr b1 0)),(5,(ptr b5 0)),(12,u15),(13,(vI (r13.length : Int))),(14,vI s19.2)] ∧ M (Old w0) w0 w [osl NoB (r13 : List (Vector UInt8 16)) u15,raw b5 (enc s19.1),raw b1 (enc (Vector.replicate 32 (0 : UInt8)))]) hl17 ⟨hE.sub ⟨rfl,rfl,rfl,rfl,rfl,rfl,trivial⟩,hM⟩ ?_
  rintro s19 a w ⟨hE,hM⟩ o22 hs20 hx21
  unfold Xl at hs20
  refine Zb (Zh hE rfl rfl rfl fun a hE=>Ze (wp_seq ?_))
  refine Zo hE rfl ?_ ?_
  ·intro hb23
   have hs20:=Zw hs20 hb23
   refine wp_skip (Zt (wp_seq (wp_block (Zb ?_))))
   obtain ⟨x24,hi26,hs20⟩:=bix hs20
   refine ZL hE rfl rfl Tryz.underlying54 ZC (hM.sl (pre:=[]) noB) hi26.1 fun a hE=>Zm hE rfl ZC rfl (Y6 (hM.sl (pre:=[]) noB) hi26.2) (Flat.len _) fun a hE=>Zz hE hM ZC fun b27 w a hM hE=>Zl (seg:=enc x24) (cs':=enc x24) hE hM Za rfl rfl rfl ZC (Flat.len _) (zle flq) (Flat.cell _) (Zi flq) fun w a hM hE=>Ze (wp_region_lit (Zd hE rfl fun a hE=>Zm hE rfl Ye rfl hM.rawAt2 (Flat.len _) fun a hE=>Zm hE rfl ZC rfl hM.rawAt0 (Flat.len _) ?_)); intro a hE
   obtain ⟨r29,e30,hs20⟩:=bind_some hs20
   refine Zv hE rfl (cbm Tryz.func134) (JT _ p0 v0_1 (hM.rdo hv0_1) s19.1 x24 r29 e30) ?_
   rintro v w a ⟨rfl,hK⟩ hE
   have hM:=(hM.keep hK).pull2
   refine Zl (seg:=enc r29) (cs':=enc r29) hE hM Za rfl rfl rfl Ye (Flat.len _) (zle flq) (Flat.cell _) (Zi flq) fun w a hM hE=>Zg (Yb (Zt (wp_region_lit (Zh hE rfl rfl rfl fun a hE=>Zd hE rfl fun a hE=>Zg (Zk ?_)))))
   have hM:=M.fst (l:=[_,_,_]) hM.pull3.pull1.pull3
   exact ⟨_,(ois hs20),hE.sub ⟨rfl,rfl,rfl,rfl,rfl,rfl,trivial⟩,hM⟩
  ·intro hb23
   have hs20:=Zx hs20 hb23
   refine wp_exit (Zn (Zn (Yd ?_)))
   obtain rfl:=hx21 _ (ois hs20)
   refine Zk ?_
   have hM:=M.fst (l:=[_,_]) hM.pull2.pull2
   exact ⟨hE.sub ⟨rfl,rfl,trivial⟩,hM⟩
 ·skip
  rintro a w ⟨hE,hM⟩
  refine Zt (Zb (Zm hE rfl Ye rfl hM.rawAt0 (Flat.len _) ?_)); intro a hE
  have hM:=hM.pull1
  refine Zl (seg:=enc j16) (cs':=enc j16) hE hM Za rfl rfl rfl Ye (Flat.len _) (zle flq) (Flat.cell _) (Zi flq) fun w a hM hE=>Ze ?_
  obtain rfl:=Option.some.inj hF18
  have hq32 : Yw Tryz.prog _ _ (.cell 4 35) _:=ZI hE rfl Ye rfl hM.rawAt0 (Flat.len _) rfl
  exact wp_ret (ZJ hE rfl hq32 ⟨_,rfl,rfl,hM.kept⟩)
def WL (p0 : (Ref Gengine)) (p1 : (Vector UInt8 16)) (p2 : (List (List UInt8))) : Option ((Vector UInt8 32)) :=
 (XK p1 90).bind fun r5=>(Ya p2).bind fun r8=>(YN p0 ([r5,r8] : (List (List UInt8)))).bind fun r13=>((XK p1 165).bind fun r21=>(slc r13.toList (0 : Int) (32 : Int)).bind fun l24=>(YN p0 ([r21,l24] : (List (List UInt8)))).bind fun r31=>some r31 : Option ((Vector UInt8 32))).bind fun j17=>some j17
theorem KD (w0 : World) (p0 : (Ref Gengine)) (v0_1 : Value) (hv0_1 : Ro w0 p0 [v0_1]) (p1 : (Vector UInt8 16)) (p2 : (List (List UInt8))) (v2_1 : Value) (hv2_1 : Ro w0 p2 [v2_1]) (r : (Vector UInt8 32)) (hF : WL p0 p1 p2 = some r) :
  Calls Tryz.prog 165 [v0_1,(Value.agg (enc p1).toArray),v2_1].toArray w0 (Rt w0 (Value.agg (enc r).toArray)):=by
 refine ce Tryz.func165 ?_
 intro a hE
 have hM:=M.start w0
 unfold WL at hF
 refine Zb (ZK (cs:=enc p1) hE hM Za ld rfl rfl fun b1 w a hM hE=>Zz hE hM Ye fun b3 w a hM hE=>Ze (Zb (Zd hE rfl fun a hE=>Zm hE rfl ZC rfl hM.rawAt1 (Flat.len _) ?_))); intro a hE
 obtain ⟨r5,e6,hF⟩:=bind_some hF
 refine Zv hE rfl Zb0 (QA _ p1 90 r5 e6) ?_
 rintro u7 w a ⟨_,rfl,hFr,hK⟩ hE
 have hM:=hM.add hK hFr
 refine Zd hE rfl ?_; intro a hE
 obtain ⟨r8,e9,hF⟩:=bind_some hF
 refine Zv hE rfl Zca (Vy _ p2 v2_1 (hM.rdo hv2_1) r8 e9) ?_
 rintro u10 w a ⟨_,rfl,hFr,hK⟩ hE
 have hM:=hM.add hK hFr
 refine Qo (xs:=[.tmp 10,.tmp 12]) (vs:=[u7,u10]) hE hM Za ld rfl rfl Tryz.underlying23 Wh (by decide) (WX (Z6 (hM.sl (pre:=[_]) noB)) (WX (Z6 (hM.sl (pre:=[]) noB)) HN)) ?_; intro b11 w a hM hE
 obtain ⟨r13,e14,hF⟩:=bind_some hF
 refine Zv hE rfl cb69 (VO _ p0 v0_1 (hM.rdo hv0_1) ([r5,r8] : (List (List UInt8))) (Value.slice (some ⟨b11,0,none⟩) 2 2) (Hx hM.rawAt0 (hM.rawLt (pre:=[])) ⟨(hM.sl (pre:=[_,_]) noB),(hM.sl (pre:=[_]) noB),trivial⟩ rfl) r13 e14) ?_
 rintro v w a ⟨rfl,hK⟩ hE
 have hM:=hM.keep hK
 refine Zz hE hM Ye fun b15 w a hM hE=>Zl (seg:=enc r13) (cs':=enc r13) hE hM Za rfl rfl rfl Ye (Flat.len _) (zle flq) (Flat.cell _) (Zi flq) fun w a hM hE=>Ze ?_
 obtain ⟨j17,hl18,hF19⟩:=bind_some hF
 refine ZO (fun a w=>Env 21 a [(6,(ptr b3 0))] ∧ M (Old w0) w0 w [raw b3 (enc j17)]) ?_ ?_
 ·skip
  obtain ⟨r21,e22,hl18⟩:=bind_some hl18
  obtain ⟨l24,e25,hl18⟩:=bind_some hl18
  have hb26:=Ql e25 -- ^
  refine YC (its:=[raw b15 (enc r13),raw b11 [u7,u10],osl NoB (r8 : List UInt8) u10,osl NoB (r5 : List UInt8) u7,raw b3 (enc (Vector.replicate 32 (0 : UInt8))),raw b1 (enc p1)]) (mk:=([mkO 2 (fun v=>osl NoB (r21 : List UInt8) v),mkL 4 [2] 2 (fun us=>[(us.getD 0 undef),(Yc (.slice (some ⟨b15,0,none⟩) 32 32) ((0 : Int)).toNat ((32 : Int)).toNat 1)])] : Mk)) [15,16,17,18,19] YF rfl rfl (by decide) rfl hE (fun u=>M.qE (M.qE (M.q0 hM.drew u) emL) emO) (qsP (fun z=>Zu z.E Za ld rfl (kr0 rfl)) (qsP (v:=(Value.agg (enc p1).toArray)) ?_ (qsM (pr:=fun v=>True) ?_ (qsP (fun z=>WQ (N:=32) z.E Za ld rfl rfl rfl rfl rfl Tryz.underlying35 ty5 hb26 (kr0 rfl)) (qsM (pr:=fun v=>True) ?_ qs0))))) ?_
  ·intro a w ux20 D z
   have hE:=z.E
   have hM:=z.M
   exact Zm hE rfl ZC rfl hM.rawAt5 (Flat.len _) fun a hE=>⟨Kept.refl _ _,_,rfl,hE⟩
  ·intro a w ux20 D z
   have hE:=z.E
   have hD : D 2 = false:=z.F
   have hsL : D 4 = false:=Q9 (j:=4) (k:=0) z.c rfl rfl rfl hD
   have hM0:=z.M
   have hM:=z.M
   refine Zv hE rfl Zb0 (QA _ p1 165 r21 e22) ?_
   rintro _ w a ⟨_,rfl,hFr,hK⟩ hE
   have hM:=hM0.add hK hFr
   have hM:=M.litOff (its:=_ :: [raw b15 (enc r13),raw b11 [u7,u10],osl NoB (r8 : List UInt8) u10,osl NoB (r5 : List UInt8) u7,raw b3 (enc (Vector.replicate 32 (0 : UInt8))),raw b1 (enc p1)]) (mk:=([mkO 2 (fun v=>osl NoB (r21 : List UInt8) v)] : Mk)) (i:=4) (ds:=[2]) (m:=2) (f:=(fun us=>[(us.getD 0 undef),(Yc (.slice (some ⟨b15,0,none⟩) 32 32) ((0 : Int)).toNat ((32 : Int)).toNat 1)])) hM hsL
   exact ⟨_,_,rfl,hE,(M.litOn (its:=[raw b15 (enc r13),raw b11 [u7,u10],osl NoB (r8 : List UInt8) u10,osl NoB (r5 : List UInt8) u7,raw b3 (enc (Vector.replicate 32 (0 : UInt8))),raw b1 (enc p1)]) (mk:=([mkO 2 (fun v=>osl NoB (r21 : List UInt8) v)] : Mk)) (i:=4) (ds:=[2]) (m:=2) (f:=(fun us=>[(us.getD 0 undef),(Yc (.slice (some ⟨b15,0,none⟩) 32 32) ((0 : Int)).toNat ((32 : Int)).toNat 1)])) (M.qFill (its:=[raw b15 (enc r13),raw b11 [u7,u10],osl NoB (r8 : List UInt8) u10,osl NoB (r5 : List UInt8) u7,raw b3 (enc (Vector.replicate 32 (0 : UInt8))),raw b1 (enc p1)]) (mk1:=[]) (mk2:=[]) (f:=(fun v=>osl NoB (r21 : List UInt8) v)) hM rfl hD) hsL (by decide)),trivial⟩
  ·intro a w ux20 D z
   have hE:=z.E
   have hD : D 4 = false:=z.F
   have d2 : D 2 = true:=z.p 0 _ rfl rfl
   have hM:=z.M.sure (pre:=[_,_,_,_,_,_]) d2
   refine Qo (xs:=[.tmp 17,.tmp 18]) (vs:=[(ux20 2),(Yc (.slice (some ⟨b15,0,none⟩) 32 32) ((0 : Int)).toNat ((32 : Int)).toNat 1)]) hE hM Za ld rfl rfl Tryz.underlying23 Wh (by decide) (WX (Z6 (hM.sl (pre:=[_,_,_,_,_,_]) noB)) (WX (Z6 (Xf (At.sat hM.rawAt0 (by simp) (by decide)) e25)) HN)) ?_; intro b27 w a hM hE
   have hM:=hM.unsure (pre:=[_,_,_,_,_,_,_]) d2
   exact ⟨_,_,rfl,hE,M.litFill (its:=[raw b15 (enc r13),raw b11 [u7,u10],osl NoB (r8 : List UInt8) u10,osl NoB (r5 : List UInt8) u7,raw b3 (enc (Vector.replicate 32 (0 : UInt8))),raw b1 (enc p1)]) (mk:=([mkO 2 (fun v=>osl NoB (r21 : List UInt8) v)] : Mk)) (i:=4) (ds:=[2]) (m:=2) (f:=(fun us=>[(us.getD 0 undef),(Yc (.slice (some ⟨b15,0,none⟩) 32 32) ((0 : Int)).toNat ((32 : Int)).toNat 1)])) hM rfl hD (by decide),trivial⟩
  ·intro a w ux20 D hE hM hG hall
   have d2:=hall 2 (by decide)
   have d4:=hall 4 (by decide)
   have hM:=((hM.sure (pre:=[_,_,_,_,_,_]) d2).sure (pre:=[_,_,_,_,_,_,_]) d4).pull
   obtain ⟨b29,f30,hM⟩:=M.litOpen hM
   have hE:=hE.setq (t:=19) rfl f30
   obtain ⟨r31,e32,hl18⟩:=bind_some hl18
   refine Zv hE rfl cb69 (VO _ p0 v0_1 (hM.rdo hv0_1) ([r21,l24] : (List (List UInt8))) (Value.slice (some ⟨b29,0,none⟩) 2 2) (Hx hM.rawAt0 (hM.rawLt (pre:=[])) ⟨(hM.sl (pre:=[_,_,_,_,_,_,_]) noB),(Xf (At.sat hM.rawAt1 (by simp) (by decide)) e25),trivial⟩ rfl) r31 e32) ?_
   rintro v w a ⟨rfl,hK⟩ hE
   have hM:=(hM.keep hK).pull5
   refine Zl (seg:=enc r31) (cs':=enc r31) hE hM Za rfl rfl rfl Ye (Flat.len _) (zle flq) (Flat.cell _) (Zi flq) fun w a hM hE=>Zg ?_
   obtain rfl:=Option.some.inj hl18
   refine Zk ?_
   have hM:=M.fst (l:=[_]) hM
   exact ⟨hE.sub ⟨rfl,trivial⟩,hM⟩
 ·skip
  rintro a w ⟨hE,hM⟩
  obtain rfl:=Option.some.inj hF19
  have hq34 : Yw Tryz.prog _ _ (.cell 6 35) _:=ZI hE rfl Ye rfl hM.rawAt0 (Flat.len _) rfl
  exact wp_ret (ZJ hE rfl hq34 ⟨_,rfl,rfl,hM.kept⟩)
def YW (p0 : (Ref Gengine)) (p1 : GVault) (p2 : GRecord) : Option ((Vector UInt8 32)) :=
 (idx p1.Keys p2.Version).bind fun x7=>(XK x7 129).bind fun r10=>(QP 16 r10).bind fun x13=>((YU p2.Number 4).bind fun r21=>(slc p2.Nonce.toList (0 : Int) (16 : Int)).bind fun l26=>(WL p0 x13 ([r21,([Zp p2.Version] : List UInt8),l26,([Zp (p2.Label.length : Int)] : List UInt8),p2.Label,p2.Body] : (List (List UInt8)))).bind fun r35=>some r35 : Option ((Vector UInt8 32))).bind fun j17=>some j17
theorem T2 (w0 : World) (p0 : (Ref Gengine)) (v0_1 : Value) (hv0_1 : Ro w0 p0 [v0_1]) (p1 : GVault) (v1_1 : Value) (hv1_1 : Ro w0 p1.Keys [v1_1]) (v1_2 : Value) (hv1_2 : Ro w0 p1.Records [v1_2]) (v1_3 : Value) (hv1_3 : Ro w0 p1.Events [v1_3]) (p2 : GRecord) (v2_1 : Value) (hv2_1 : Ro w0 p2.Label [v2_1]) (v2_2 : Value) (hv2_2 : Ro w0 p2.Body [v2_2]) (r : (Vector UInt8 32)) (hF : YW p0 p1 p2 = some r) :
  Calls Tryz.prog 108 [v0_1,(Value.agg (cat [[v1_1],[vI p1.Next],[v1_2],[v1_3],enc p1.Head]).toArray),(Value.agg (cat [[vI p2.Number],[vI p2.Version],enc p2.Nonce,[v2_1],[v2_2],enc p2.Tag]).toArray)].toArray w0 (Rt w0 (Value.agg (enc r).toArray)):=by
 refine ce Tryz.func108 ?_
 intro a hE
 have hM:=M.start w0
 unfold YW at hF
 refine Zb (ZK (cs:=cat [[v1_1],[vI p1.Next],[v1_2],[v1_3],enc p1.Head]) hE hM Za ld rfl rfl fun b1 w a hM hE=>ZK (cs:=cat [[vI p2.Number],[vI p2.Version],enc p2.Nonce,[v2_1],[v2_2],enc p2.Tag]) hE hM Za ld rfl rfl fun b3 w a hM hE=>Zz hE hM Ye fun b5 w a hM hE=>Ze (Zb (Zf hE rfl (WZ) fun a hE=>Zy (v:=v1_1) hE rfl Q7 rfl (At.cat (pre:=[]) hM.rawAt2 cl0) fun a hE=>Zf hE rfl (WE) fun a hE=>Zy (v:=(vI p2.Version)) hE rfl ty2 rfl (At.cat (pre:=[[vI p2.Number]]) hM.rawAt1 ck) ?_))); intro a hE
 obtain ⟨x7,hi9,hF⟩:=bix hF
 refine ZL hE rfl rfl Tryz.underlying54 ZC (hM.rd hv1_1) hi9.1 fun a hE=>Zm hE rfl ZC rfl (Y6 (hM.rd hv1_1) hi9.2) (Flat.len _) ?_; intro a hE
 obtain ⟨r10,e11,hF⟩:=bind_some hF
 refine Zv hE rfl Zb0 (QA _ x7 129 r10 e11) ?_
 rintro u12 w a ⟨_,rfl,hFr,hK⟩ hE
 have hM:=hM.add hK hFr
 obtain ⟨x13,e14,hF⟩:=bind_some hF
 refine H3 hE Za ld rfl Tryz.underlying68 (hM.sl (pre:=[]) noB) (QV e14).1 (by decide) fun a hE=>Zm hE rfl ZC rfl (zG (hM.sl (pre:=[]) noB) e14 (by decide)) (Flat.len _) fun a hE=>Zz hE hM ZC fun b15 w a hM hE=>Zl (seg:=enc x13) (cs':=enc x13) hE hM Za rfl rfl rfl ZC (Flat.len _) (zle flq) (Flat.cell _) (Zi flq) fun w a hM hE=>Ze ?_
 obtain ⟨j17,hl18,hF19⟩:=bind_some hF
 refine ZO (fun a w=>Env 39 a [(6,(ptr b5 0))] ∧ M (Old w0) w0 w [raw b5 (enc j17)]) ?_ ?_
 ·skip
  obtain ⟨r21,e22,hl18⟩:=bind_some hl18
  obtain ⟨l26,e27,hl18⟩:=bind_some hl18
  have hb28:=Ql e27 -- ^
  refine YC (its:=[raw b15 (enc x13),osl NoB (r10 : List UInt8) u12,raw b5 (enc (Vector.replicate 32 (0 : UInt8))),raw b3 (cat [[vI p2.Number],[vI p2.Version],enc p2.Nonce,[v2_1],[v2_2],enc p2.Tag]),raw b1 (cat [[v1_1],[vI p1.Next],[v1_2],[v1_3],enc p1.Head])]) (mk:=([mkO 4 (fun v=>osl NoB (r21 : List UInt8) v),mkO 8 (fun v=>osl NoB (([Zp p2.Version] : List UInt8) : List UInt8) v),mkO 15 (fun v=>osl NoB (([Zp (p2.Label.length : Int)] : List UInt8) : List UInt8) v),mkL 20 [4,8,15] 6 (fun us=>[(us.getD 0 undef),(us.getD 1 undef),(Yc (.slice (some ⟨b3,0 + 2,none⟩) 16 16) ((0 : Int)).toNat ((16 : Int)).toNat 1),(us.getD 2 undef),v2_1,v2_2])] : Mk)) [17,18,19,20,21,22,23,24,25,26,27,28,29,30,31,32,33,34,35,36,37] YF rfl rfl (by decide) rfl hE (fun u=>M.qE (M.qE (M.qE (M.qE (M.q0 hM.drew u) emL) emO) emO) emO) (qsP (fun z=>Zu z.E Za ld rfl (kr0 rfl)) (qsP (v:=(Value.agg (enc x13).toArray)) ?_ (qsP (fun z=>Zj z.E Za ld rfl (VS) (kr0 rfl)) (qsP (v:=(vI p2.Number)) ?_ (qsM (pr:=fun v=>True) ?_ (qsP (fun z=>Zj z.E Za ld rfl (WE) (kr0 rfl)) (qsP (v:=(vI p2.Version)) ?_ (qsP (fun z=>Yg z.E Za ld rfl Tryz.underlying2 Tryz.underlying5 (kr0 rfl)) (qsM (pr:=fun v=>True) ?_ (qsP (fun z=>Zj z.E Za ld rfl (Qf) (kr0 rfl)) (qsP (fun z=>WQ (N:=16) z.E Za ld rfl rfl rfl rfl rfl Tryz.underlying68 ty5 hb28 (kr0 rfl)) (qsP (fun z=>Zj z.E Za ld rfl (V2) (kr0 rfl)) (qsP (v:=v2_1) ?_ (qsP (v:=(vI (p2.Label.length : Int))) ?_ (qsP (fun z=>Yg z.E Za ld rfl Tryz.underlying3 Tryz.underlying5 (kr0 rfl)) (qsM (pr:=fun v=>True) ?_ (qsP (fun z=>Zj z.E Za ld rfl (V2) (kr0 rfl)) (qsP (v:=v2_1) ?_ (qsP (fun z=>Zj z.E Za ld rfl (V1) (kr0 rfl)) (qsP (v:=v2_2) ?_ (qsM (pr:=fun v=>True) ?_ qs0))))))))))))))))))))) ?_
  ·intro a w ux20 D z
   have hE:=z.E
   have hM:=z.M
   exact Zm hE rfl ZC rfl hM.rawAt0 (Flat.len _) fun a hE=>⟨Kept.refl _ _,_,rfl,hE⟩
  ·intro a w ux20 D z
   have hE:=z.E
   have hM:=z.M
   exact Zy (v:=(vI p2.Number)) hE rfl ty2 rfl (At.cat (pre:=[]) hM.rawAt3 cl0) fun a hE=>⟨Kept.refl _ _,_,rfl,hE⟩
  ·intro a w ux20 D z
   have hE:=z.E
   have hD : D 4 = false:=z.F
   have hsL : D 20 = false:=Q9 (j:=20) (k:=0) z.c rfl rfl rfl hD
   have hM0:=z.M
   have hM:=z.M
   refine Zv hE rfl Zct (QR _ p2.Number 4 r21 e22) ?_
   rintro _ w a ⟨_,rfl,hFr,hK⟩ hE
   have hM:=hM0.add hK hFr
   have hM:=M.litOff (its:=_ :: [raw b15 (enc x13),osl NoB (r10 : List UInt8) u12,raw b5 (enc (Vector.replicate 32 (0 : UInt8))),raw b3 (cat [[vI p2.Number],[vI p2.Version],enc p2.Nonce,[v2_1],[v2_2],enc p2.Tag]),raw b1 (cat [[v1_1],[vI p1.Next],[v1_2],[v1_3],enc p1.Head])]) (mk:=([mkO 4 (fun v=>osl NoB (r21 : List UInt8) v),mkO 8 (fun v=>osl NoB (([Zp p2.Version] : List UInt8) : List UInt8) v),mkO 15 (fun v=>osl NoB (([Zp (p2.Label.length : Int)] : List UInt8) : List UInt8) v)] : Mk)) (i:=20) (ds:=[4,8,15]) (m:=6) (f:=(fun us=>[(us.getD 0 undef),(us.getD 1 undef),(Yc (.slice (some ⟨b3,0 + 2,none⟩) 16 16) ((0 : Int)).toNat ((16 : Int)).toNat 1),(us.getD 2 undef),v2_1,v2_2])) hM hsL
   exact ⟨_,_,rfl,hE,(M.litOn (its:=[raw b15 (enc x13),osl NoB (r10 : List UInt8) u12,raw b5 (enc (Vector.replicate 32 (0 : UInt8))),raw b3 (cat [[vI p2.Number],[vI p2.Version],enc p2.Nonce,[v2_1],[v2_2],enc p2.Tag]),raw b1 (cat [[v1_1],[vI p1.Next],[v1_2],[v1_3],enc p1.Head])]) (mk:=([mkO 4 (fun v=>osl NoB (r21 : List UInt8) v),mkO 8 (fun v=>osl NoB (([Zp p2.Version] : List UInt8) : List UInt8) v),mkO 15 (fun v=>osl NoB (([Zp (p2.Label.length : Int)] : List UInt8) : List UInt8) v)] : Mk)) (i:=20) (ds:=[4,8,15]) (m:=6) (f:=(fun us=>[(us.getD 0 undef),(us.getD 1 undef),(Yc (.slice (some ⟨b3,0 + 2,none⟩) 16 16) ((0 : Int)).toNat ((16 : Int)).toNat 1),(us.getD 2 undef),v2_1,v2_2])) (M.qFill (its:=[raw b15 (enc x13),osl NoB (r10 : List UInt8) u12,raw b5 (enc (Vector.replicate 32 (0 : UInt8))),raw b3 (cat [[vI p2.Number],[vI p2.Version],enc p2.Nonce,[v2_1],[v2_2],enc p2.Tag]),raw b1 (cat [[v1_1],[vI p1.Next],[v1_2],[v1_3],enc p1.Head])]) (mk1:=[]) (mk2:=[_,_]) (f:=(fun v=>osl NoB (r21 : List UInt8) v)) hM rfl hD) hsL (by decide)),trivial⟩
  ·intro a w ux20 D z
   have hE:=z.E
   have hM:=z.M
   exact Zy (v:=(vI p2.Version)) hE rfl ty2 rfl (At.cat (pre:=[[vI p2.Number]]) hM.rawAt3 ck) fun a hE=>⟨Kept.refl _ _,_,rfl,hE⟩
  ·intro a w ux20 D z
   have hE:=z.E
   have hD : D 8 = false:=z.F
   have hsL : D 20 = false:=Q9 (j:=20) (k:=1) z.c rfl rfl rfl hD
   have hM:=z.M
   refine ZW (xs:=[.tmp 24]) (l:=([Zp p2.Version] : List UInt8)) (vs:=[(vB (Zp p2.Version))]) hE hM Za ld rfl rfl Tryz.underlying40 ty5 rfl (by decide) rfl ?_; intro u24 w a hM hE
   have hM:=M.litOff (its:=_ :: [raw b15 (enc x13),osl NoB (r10 : List UInt8) u12,raw b5 (enc (Vector.replicate 32 (0 : UInt8))),raw b3 (cat [[vI p2.Number],[vI p2.Version],enc p2.Nonce,[v2_1],[v2_2],enc p2.Tag]),raw b1 (cat [[v1_1],[vI p1.Next],[v1_2],[v1_3],enc p1.Head])]) (mk:=([mkO 4 (fun v=>osl NoB (r21 : List UInt8) v),mkO 8 (fun v=>osl NoB (([Zp p2.Version] : List UInt8) : List UInt8) v),mkO 15 (fun v=>osl NoB (([Zp (p2.Label.length : Int)] : List UInt8) : List UInt8) v)] : Mk)) (i:=20) (ds:=[4,8,15]) (m:=6) (f:=(fun us=>[(us.getD 0 undef),(us.getD 1 undef),(Yc (.slice (some ⟨b3,0 + 2,none⟩) 16 16) ((0 : Int)).toNat ((16 : Int)).toNat 1),(us.getD 2 undef),v2_1,v2_2])) hM hsL
   exact ⟨_,_,rfl,hE,(M.litOn (its:=[raw b15 (enc x13),osl NoB (r10 : List UInt8) u12,raw b5 (enc (Vector.replicate 32 (0 : UInt8))),raw b3 (cat [[vI p2.Number],[vI p2.Version],enc p2.Nonce,[v2_1],[v2_2],enc p2.Tag]),raw b1 (cat [[v1_1],[vI p1.Next],[v1_2],[v1_3],enc p1.Head])]) (mk:=([mkO 4 (fun v=>osl NoB (r21 : List UInt8) v),mkO 8 (fun v=>osl NoB (([Zp p2.Version] : List UInt8) : List UInt8) v),mkO 15 (fun v=>osl NoB (([Zp (p2.Label.length : Int)] : List UInt8) : List UInt8) v)] : Mk)) (i:=20) (ds:=[4,8,15]) (m:=6) (f:=(fun us=>[(us.getD 0 undef),(us.getD 1 undef),(Yc (.slice (some ⟨b3,0 + 2,none⟩) 16 16) ((0 : Int)).toNat ((16 : Int)).toNat 1),(us.getD 2 undef),v2_1,v2_2])) (M.qFill (its:=[raw b15 (enc x13),osl NoB (r10 : List UInt8) u12,raw b5 (enc (Vector.replicate 32 (0 : UInt8))),raw b3 (cat [[vI p2.Number],[vI p2.Version],enc p2.Nonce,[v2_1],[v2_2],enc p2.Tag]),raw b1 (cat [[v1_1],[vI p1.Next],[v1_2],[v1_3],enc p1.Head])]) (mk1:=[_]) (mk2:=[_]) (f:=(fun v=>osl NoB (([Zp p2.Version] : List UInt8) : List UInt8) v)) hM rfl hD) hsL (by decide)),trivial⟩
  ·intro a w ux20 D z
   have hE:=z.E
   have hM:=z.M
   exact Zy (v:=v2_1) hE rfl Wh rfl (At.cat (pre:=[[vI p2.Number],[vI p2.Version],enc p2.Nonce]) hM.rawAt3 ck) fun a hE=>⟨Kept.refl _ _,_,rfl,hE⟩
  ·intro a w ux20 D z
   have hE:=z.E
   have hM:=z.M
   exact Yf hE rfl Tryz.underlying40 (hM.rd hv2_1) fun a hE=>⟨Kept.refl _ _,_,rfl,hE⟩
  ·intro a w ux20 D z
   have hE:=z.E
   have hD : D 15 = false:=z.F
   have hsL : D 20 = false:=Q9 (j:=20) (k:=3) z.c rfl rfl rfl hD
   have hM:=z.M
   refine ZW (xs:=[.tmp 31]) (l:=([Zp (p2.Label.length : Int)] : List UInt8)) (vs:=[(vB (Zp (p2.Label.length : Int)))]) hE hM Za ld rfl rfl Tryz.underlying40 ty5 rfl (by decide) rfl ?_; intro u29 w a hM hE
   have hM:=M.litOff (its:=_ :: [raw b15 (enc x13),osl NoB (r10 : List UInt8) u12,raw b5 (enc (Vector.replicate 32 (0 : UInt8))),raw b3 (cat [[vI p2.Number],[vI p2.Version],enc p2.Nonce,[v2_1],[v2_2],enc p2.Tag]),raw b1 (cat [[v1_1],[vI p1.Next],[v1_2],[v1_3],enc p1.Head])]) (mk:=([mkO 4 (fun v=>osl NoB (r21 : List UInt8) v),mkO 8 (fun v=>osl NoB (([Zp p2.Version] : List UInt8) : List UInt8) v),mkO 15 (fun v=>osl NoB (([Zp (p2.Label.length : Int)] : List UInt8) : List UInt8) v)] : Mk)) (i:=20) (ds:=[4,8,15]) (m:=6) (f:=(fun us=>[(us.getD 0 undef),(us.getD 1 undef),(Yc (.slice (some ⟨b3,0 + 2,none⟩) 16 16) ((0 : Int)).toNat ((16 : Int)).toNat 1),(us.getD 2 undef),v2_1,v2_2])) hM hsL
   exact ⟨_,_,rfl,hE,(M.litOn (its:=[raw b15 (enc x13),osl NoB (r10 : List UInt8) u12,raw b5 (enc (Vector.replicate 32 (0 : UInt8))),raw b3 (cat [[vI p2.Number],[vI p2.Version],enc p2.Nonce,[v2_1],[v2_2],enc p2.Tag]),raw b1 (cat [[v1_1],[vI p1.Next],[v1_2],[v1_3],enc p1.Head])]) (mk:=([mkO 4 (fun v=>osl NoB (r21 : List UInt8) v),mkO 8 (fun v=>osl NoB (([Zp p2.Version] : List UInt8) : List UInt8) v),mkO 15 (fun v=>osl NoB (([Zp (p2.Label.length : Int)] : List UInt8) : List UInt8) v)] : Mk)) (i:=20) (ds:=[4,8,15]) (m:=6) (f:=(fun us=>[(us.getD 0 undef),(us.getD 1 undef),(Yc (.slice (some ⟨b3,0 + 2,none⟩) 16 16) ((0 : Int)).toNat ((16 : Int)).toNat 1),(us.getD 2 undef),v2_1,v2_2])) (M.qFill (its:=[raw b15 (enc x13),osl NoB (r10 : List UInt8) u12,raw b5 (enc (Vector.replicate 32 (0 : UInt8))),raw b3 (cat [[vI p2.Number],[vI p2.Version],enc p2.Nonce,[v2_1],[v2_2],enc p2.Tag]),raw b1 (cat [[v1_1],[vI p1.Next],[v1_2],[v1_3],enc p1.Head])]) (mk1:=[_,_]) (mk2:=[]) (f:=(fun v=>osl NoB (([Zp (p2.Label.length : Int)] : List UInt8) : List UInt8) v)) hM rfl hD) hsL (by decide)),trivial⟩
  ·intro a w ux20 D z
   have hE:=z.E
   have hM:=z.M
   exact Zy (v:=v2_1) hE rfl Wh rfl (At.cat (pre:=[[vI p2.Number],[vI p2.Version],enc p2.Nonce]) hM.rawAt3 ck) fun a hE=>⟨Kept.refl _ _,_,rfl,hE⟩
  ·intro a w ux20 D z
   have hE:=z.E
   have hM:=z.M
   exact Zy (v:=v2_2) hE rfl Wh rfl (At.cat (pre:=[[vI p2.Number],[vI p2.Version],enc p2.Nonce,[v2_1]]) hM.rawAt3 ck) fun a hE=>⟨Kept.refl _ _,_,rfl,hE⟩
  ·intro a w ux20 D z
   have hE:=z.E
   have hD : D 20 = false:=z.F
   have d4 : D 4 = true:=z.p 0 _ rfl rfl
   have d8 : D 8 = true:=z.p 1 _ rfl rfl
   have d15 : D 15 = true:=z.p 3 _ rfl rfl
   have hM:=((z.M.sure (pre:=[_,_,_,_,_]) d4).sure (pre:=[_,_,_,_,_,_]) d8).sure (pre:=[_,_,_,_,_,_,_]) d15
   refine Qo (xs:=[.tmp 21,.tmp 25,.tmp 27,.tmp 32,.tmp 34,.tmp 36]) (vs:=[(ux20 4),(ux20 8),(Yc (.slice (some ⟨b3,0 + 2,none⟩) 16 16) ((0 : Int)).toNat ((16 : Int)).toNat 1),(ux20 15),v2_1,v2_2]) hE hM Za ld rfl rfl Tryz.underlying23 Wh (by decide) (WX (Z6 (hM.sl (pre:=[_,_,_,_,_]) noB)) (WX (Z6 (hM.sl (pre:=[_,_,_,_,_,_]) noB)) (WX (Z6 (Xf (At.sat (At.cat (pre:=[[vI p2.Number],[vI p2.Version]]) hM.rawAt3 ck) (by simp) (by decide)) e27)) (WX (Z6 (hM.sl (pre:=[_,_,_,_,_,_,_]) noB)) (WX (Z6 (hM.rd hv2_1)) (WX (Z6 (hM.rd hv2_2)) HN)))))) ?_; intro b31 w a hM hE
   have hM:=((hM.unsure (pre:=[_,_,_,_,_,_,_,_]) d15).unsure (pre:=[_,_,_,_,_,_,_]) d8).unsure (pre:=[_,_,_,_,_,_]) d4
   exact ⟨_,_,rfl,hE,M.litFill (its:=[raw b15 (enc x13),osl NoB (r10 : List UInt8) u12,raw b5 (enc (Vector.replicate 32 (0 : UInt8))),raw b3 (cat [[vI p2.Number],[vI p2.Version],enc p2.Nonce,[v2_1],[v2_2],enc p2.Tag]),raw b1 (cat [[v1_1],[vI p1.Next],[v1_2],[v1_3],enc p1.Head])]) (mk:=([mkO 4 (fun v=>osl NoB (r21 : List UInt8) v),mkO 8 (fun v=>osl NoB (([Zp p2.Version] : List UInt8) : List UInt8) v),mkO 15 (fun v=>osl NoB (([Zp (p2.Label.length : Int)] : List UInt8) : List UInt8) v)] : Mk)) (i:=20) (ds:=[4,8,15]) (m:=6) (f:=(fun us=>[(us.getD 0 undef),(us.getD 1 undef),(Yc (.slice (some ⟨b3,0 + 2,none⟩) 16 16) ((0 : Int)).toNat ((16 : Int)).toNat 1),(us.getD 2 undef),v2_1,v2_2])) hM rfl hD (by decide),trivial⟩
  ·intro a w ux20 D hE hM hG hall
   have d4:=hall 4 (by decide)
   have d8:=hall 8 (by decide)
   have d15:=hall 15 (by decide)
   have d20:=hall 20 (by decide)
   have hM:=((((hM.sure (pre:=[_,_,_,_,_]) d4).sure (pre:=[_,_,_,_,_,_]) d8).sure (pre:=[_,_,_,_,_,_,_]) d15).sure (pre:=[_,_,_,_,_,_,_,_]) d20).pull
   obtain ⟨b33,f34,hM⟩:=M.litOpen hM
   have hE:=hE.setq (t:=37) rfl f34
   obtain ⟨r35,e36,hl18⟩:=bind_some hl18
   refine Zv hE rfl (cbm Tryz.func165) (KD _ p0 v0_1 (hM.rdo hv0_1) x13 ([r21,([Zp p2.Version] : List UInt8),l26,([Zp (p2.Label.length : Int)] : List UInt8),p2.Label,p2.Body] : (List (List UInt8))) (Value.slice (some ⟨b33,0,none⟩) 6 6) (Hx hM.rawAt0 (hM.rawLt (pre:=[])) ⟨(hM.sl (pre:=[_,_,_,_,_,_]) noB),(hM.sl (pre:=[_,_,_,_,_,_,_]) noB),(Xf (At.sat (At.cat (pre:=[[vI p2.Number],[vI p2.Version]]) hM.rawAt4 ck) (by simp) (by decide)) e27),(hM.sl (pre:=[_,_,_,_,_,_,_,_]) noB),(hM.rdo hv2_1),(hM.rdo hv2_2),trivial⟩ rfl) r35 e36) ?_
   rintro v w a ⟨rfl,hK⟩ hE
   have hM:=(hM.keep hK).pull3
   refine Zl (seg:=enc r35) (cs':=enc r35) hE hM Za rfl rfl rfl Ye (Flat.len _) (zle flq) (Flat.cell _) (Zi flq) fun w a hM hE=>Zg ?_
   obtain rfl:=Option.some.inj hl18
   refine Zk ?_
   have hM:=M.fst (l:=[_]) hM
   exact ⟨hE.sub ⟨rfl,trivial⟩,hM⟩
 ·skip
  rintro a w ⟨hE,hM⟩
  obtain rfl:=Option.some.inj hF19
  have hq38 : Yw Tryz.prog _ _ (.cell 6 35) _:=ZI hE rfl Ye rfl hM.rawAt0 (Flat.len _) rfl
  exact wp_ret (ZJ hE rfl hq38 ⟨_,rfl,rfl,hM.kept⟩)
def Yk (p0 : (List GRecord)) (p1 : GRecord → Option (Bool)) : Option (Bool) :=
 (ZU p0 p1).bind fun r1=>some (decide (r1 ≥ 0))
theorem Ud (w0 : World) (p0 : (List GRecord)) (v0_1 : Value) (hv0_1 : Ro w0 p0 [v0_1]) (p1 : GRecord → Option (Bool)) (k1 : Nat) (q1 : List Value) (hcb1 : Callable Tryz.prog k1) (hg1 : ∀ (w2 : World),Kept (Old w0) w0 w2 → ∀ (z0 : GRecord) (zu1 : Value) (_ : Ro w2 z0.Label [zu1]) (zu2 : Value) (_ : Ro w2 z0.Body [zu2]) (zr : Bool),p1 z0 = some zr → Calls Tryz.prog k1 ([(Value.agg (cat [[vI z0.Number],[vI z0.Version],enc z0.Nonce,[zu1],[zu2],enc z0.Tag]).toArray)] ++ q1).toArray w2 (fun en w3=>∃ v,en = .returned v ∧ (v = (vT zr) ∧ Kept (Old w2) w2 w3))) (r : Bool) (hF : Yk p0 p1 = some r) :
  Calls Tryz.prog 162 [v0_1,(Value.func (.func k1) #[] q1.toArray)].toArray w0 (Rt w0 (vT r)):=by
 refine ce Tryz.func162 ?_
 intro a hE
 have hM:=M.start w0
 unfold Yk at hF
 refine Zb (Zc hE rfl fun a hE=>Ze (Zb (Zd hE rfl fun a hE=>Zd hE rfl ?_))); intro a hE
 obtain ⟨r1,e2,hF⟩:=bind_some hF
 refine Zv hE rfl (cbm Tryz.func188) (XN _ p0 v0_1 (hM.rdo hv0_1) p1 k1 q1 hcb1 (fun w2 hk2=>hg1 w2 (hM.kept.trans hk2)) r1 e2) ?_
 rintro v w a ⟨rfl,hK⟩ hE
 have hM:=hM.keep hK
 refine Zh hE rfl rfl rfl fun a hE=>Zc hE rfl fun a hE=>Ze ?_
 obtain rfl:=Option.some.inj hF
 exact wp_ret (kr1 hE rfl rfl hM.kept)
def YB (p0 : GRecord) (p1 : GVault) (p2 : (Vector UInt8 16)) : Option (Bool) :=
 ((Z5 p1.Keys).bind fun r7=>if (p0.Version == (wr (r7 - 1))) = true then (some (decide (p0.Nonce = p2))) else (some false) : Option (Bool)).bind fun j3=>some j3
theorem K0 (w0 : World) (p0 : GRecord) (v0_1 : Value) (hv0_1 : Ro w0 p0.Label [v0_1]) (v0_2 : Value) (hv0_2 : Ro w0 p0.Body [v0_2]) (pb1 : Nat) (p1 : GVault) (v1_2 : Value) (hv1_2 : Ro w0 p1.Keys [v1_2]) (v1_3 : Value) (hv1_3 : Ro w0 p1.Records [v1_3]) (v1_4 : Value) (hv1_4 : Ro w0 p1.Events [v1_4]) (hA1 : At w0 pb1 0 (cat [[v1_2],[vI p1.Next],[v1_3],[v1_4],enc p1.Head])) (hB1 : Old w0 pb1) (pb2 : Nat) (p2 : (Vector UInt8 16)) (hA2 : At w0 pb2 0 (enc p2)) (hB2 : Old w0 pb2) (r : Bool) (hF : YB p0 p1 p2 = some r) :
  Calls Tryz.prog 163 [(Value.agg (cat [[vI p0.Number],[vI p0.Version],enc p0.Nonce,[v0_1],[v0_2],enc p0.Tag]).toArray),(ptr pb1 0),(ptr pb2 0)].toArray w0 (Rt w0 (vT r)):=by
 refine ce Tryz.func163 ?_
 intro a hE
 have hM:=M.start w0
 unfold YB at hF
 refine Zb (ZK (cs:=cat [[vI p0.Number],[vI p0.Version],enc p0.Nonce,[v0_1],[v0_2],enc p0.Tag]) hE hM Za ld rfl rfl fun b1 w a hM hE=>Zc hE rfl fun a hE=>Ze ?_)
 obtain ⟨j3,hl4,hF5⟩:=bind_some hF
 refine ZO (fun a w=>Env 18 a [(4,vT j3)] ∧ M (Old w0) w0 w []) ?_ ?_
 ·skip
  obtain ⟨r7,e8,hl4⟩:=bind_some hl4
  refine X1 (p0.Version == (wr (r7 - 1))) (fun hb9=>?_) (fun hb9=>?_)
  ·have hl4:=Zw hl4 hb9
   refine Z9 [5,6,7,8,9,10,11,12,13,14,15,16,17,4] YF rfl rfl (by decide) rfl hE hM (qsP (fun z=>Zj z.E Za ld rfl (WE) (kr0 rfl)) (qsP (fun z=>ZN (v:=(vI p0.Version)) z.E Za ld rfl ty2 rfl (At.cat (pre:=[[vI p0.Number]]) (z.M.rawAt0) ck) (kr0 rfl)) (qsP (fun z=>Zj z.E Za ld rfl (WZ) (kr0 rfl)) (qsP (fun z=>ZN (v:=v1_2) z.E Za ld rfl Q7 rfl (At.cat (pre:=[]) (z.M.atk hA1 hB1) cl0) (kr0 rfl)) (qsP (fun z=>Z0 z.E Za ld rfl yb (YG _ p1.Keys v1_2 (z.M.rdo hv1_2) r7 e8) (kc rfl)) (qsP (v:=(vI (wr (r7 - 1)))) (fun z=>Yt z.E Za ld rfl rfl rfl (kr0 rfl)) (qsP (fun z=>Yt z.E Za ld rfl rfl rfl (kr0 rfl)) (qsP (fun z=>Zu z.E Za ld rfl (kr0 rfl)) (qsP (fun z=>Zj z.E (Zq z.E rfl (lkb rfl hb9)) (by decide) rfl (Qf) (kr0 rfl)) (qsP (fun z=>ZX z.E (Zq z.E rfl (lkb rfl hb9)) (by decide) rfl ZC rfl (At.cat (pre:=[[vI p0.Number],[vI p0.Version]]) (z.M.rawAt0) ck) (Flat.len _) (kr0 rfl)) (qsP (fun z=>ZX z.E (Zq z.E rfl (lkb rfl hb9)) (by decide) rfl ZC rfl (z.M.atk hA2 hB2) (Flat.len _) (kr0 rfl)) (qsP (fun z=>s_eqA z.E (Zq z.E rfl (lkb rfl hb9)) (by decide) rfl rfl (J2 Tryz.underlying68 ty5 rfl false rfl (by decide) (KW Tryz.underlying5)) (by decide) (by kernel_rfl) (kr0 rfl)) (qsP (fun z=>Kh z.E Za ld (lkb rfl hb9) rfl (kr0 rfl)) (qsP (fun z=>KX z.E Za ld rfl (kr0 rfl)) qs0)))))))))))))) ?_
   ·intro a w u hE hM
    refine Zg ?_
    obtain rfl:=Option.some.inj hl4
    refine Zk ?_
    have hM:=M.fst (l:=[]) hM
    exact ⟨hE.sub ⟨rfl,trivial⟩,hM⟩
  ·have hl4:=Zx hl4 hb9
   refine Z9 [5,6,7,8,9,10,11,12,13,14,15,16,17,4] YF rfl rfl (by decide) rfl hE hM (qsP (fun z=>Zj z.E Za ld rfl (WE) (kr0 rfl)) (qsP (fun z=>ZN (v:=(vI p0.Version)) z.E Za ld rfl ty2 rfl (At.cat (pre:=[[vI p0.Number]]) (z.M.rawAt0) ck) (kr0 rfl)) (qsP (fun z=>Zj z.E Za ld rfl (WZ) (kr0 rfl)) (qsP (fun z=>ZN (v:=v1_2) z.E Za ld rfl Q7 rfl (At.cat (pre:=[]) (z.M.atk hA1 hB1) cl0) (kr0 rfl)) (qsP (fun z=>Z0 z.E Za ld rfl yb (YG _ p1.Keys v1_2 (z.M.rdo hv1_2) r7 e8) (kc rfl)) (qsP (v:=(vI (wr (r7 - 1)))) (fun z=>Yt z.E Za ld rfl rfl rfl (kr0 rfl)) (qsP (fun z=>Yt z.E Za ld rfl rfl rfl (kr0 rfl)) (qsP (fun z=>Zu z.E Za ld rfl (kr0 rfl)) (qsP (fun z=>Zr z.E rfl (lkb rfl hb9) rfl (by decide) (kr0 rfl)) (qsP (fun z=>Zr z.E rfl (lkb rfl hb9) rfl (by decide) (kr0 rfl)) (qsP (fun z=>Zr z.E rfl (lkb rfl hb9) rfl (by decide) (kr0 rfl)) (qsP (fun z=>Zr z.E rfl (lkb rfl hb9) rfl (by decide) (kr0 rfl)) (qsP (fun z=>QY z.E Za ld (lkb rfl hb9) rfl (kr0 rfl)) (qsP (fun z=>KX z.E Za ld rfl (kr0 rfl)) qs0)))))))))))))) ?_
   ·intro a w u hE hM
    refine Zg ?_
    obtain rfl:=Option.some.inj hl4
    refine Zk ?_
    have hM:=M.fst (l:=[]) hM
    exact ⟨hE.sub ⟨rfl,trivial⟩,hM⟩
 ·skip
  rintro a w ⟨hE,hM⟩
  obtain rfl:=Option.some.inj hF5
  exact wp_ret (kr1 hE rfl rfl hM.kept)
def X3 (p0 : GVault) (p1 : (Vector UInt8 16)) : Option (Bool) :=
 (Yk p0.Records (fun z0=>YB z0 p0 p1)).bind fun r5=>some r5
theorem Jr (w0 : World) (p0 : GVault) (v0_1 : Value) (hv0_1 : Ro w0 p0.Keys [v0_1]) (v0_2 : Value) (hv0_2 : Ro w0 p0.Records [v0_2]) (v0_3 : Value) (hv0_3 : Ro w0 p0.Events [v0_3]) (p1 : (Vector UInt8 16)) (r : Bool) (hF : X3 p0 p1 = some r) :
  Calls Tryz.prog 104 [(Value.agg (cat [[v0_1],[vI p0.Next],[v0_2],[v0_3],enc p0.Head]).toArray),(Value.agg (enc p1).toArray)].toArray w0 (Rt w0 (vT r)):=by
 refine ce Tryz.func104 ?_
 intro a hE
 have hM:=M.start w0
 unfold X3 at hF
 refine Zb (ZK (cs:=cat [[v0_1],[vI p0.Next],[v0_2],[v0_3],enc p0.Head]) hE hM Za ld rfl rfl fun b1 w a hM hE=>ZK (cs:=enc p1) hE hM Za ld rfl rfl fun b3 w a hM hE=>Zc hE rfl fun a hE=>Ze (Zb (Zf hE rfl (Y2) fun a hE=>Zy (v:=v0_2) hE rfl Tr rfl (At.cat (pre:=[[v0_1],[vI p0.Next]]) hM.rawAt1 ck) fun a hE=>z8 hE Za ld rfl ?_))); intro a hE
 obtain ⟨r5,e6,hF⟩:=bind_some hF
 refine Zv hE rfl (cbm Tryz.func162) (Ud _ p0.Records v0_2 (hM.rdo hv0_2) (fun z0=>YB z0 p0 p1) 163 [(ptr b1 0),(ptr b3 0)] (cbm Tryz.func163) (fun w2 hk2 z0 zu0_0 zh0_0 zu0_1 zh0_1 zr zhr=>K0 w2 z0 zu0_0 zh0_0 zu0_1 zh0_1 b1 p0 v0_1 (z4 (hM.rdo hv0_1) hk2) v0_2 (z4 (hM.rdo hv0_2) hk2) v0_3 (z4 (hM.rdo hv0_3) hk2) (z9 hM.rawAt1 hk2 (by simp [cat])) (JV hM.rawAt1 hk2 (by simp [cat])) b3 p1 (z9 hM.rawAt0 hk2 (Zce (by decide))) (JV hM.rawAt0 hk2 (Zce (by decide))) zr zhr) r5 e6) ?_
 rintro v w a ⟨rfl,hK⟩ hE
 have hM:=hM.keep hK
 refine Zc hE rfl fun a hE=>Ze ?_
 obtain rfl:=Option.some.inj hF
 exact wp_ret (kr1 hE rfl rfl hM.kept)
def Xk (p0 : (Ref Gengine)) (p1 : (Vector UInt8 16)) (p2 : (Vector UInt8 16)) (p3 : Int) (s12 : Int × (List UInt8)) : Option (Fl (Int × (List UInt8)) (List UInt8)) :=
 if (decide ((s12.2.length : Int) < p3)) = true then ((slc p2.toList (0 : Int) (16 : Int)).bind fun l20=>(WL p0 p1 ([l20,([Zp (VA s12.1 8),Zp s12.1] : List UInt8)] : (List (List UInt8)))).bind fun r29=>(slc r29.toList (0 : Int) (32 : Int)).bind fun l37=>(app 1 s12.2 l37).bind fun l40=>some (Fl.nx (wr (s12.1 + 1),(s12.2 ++ l37)))) else (some (Fl.ex s12.2))
def Wo (p0 : (Ref Gengine)) (p1 : (Vector UInt8 16)) (p2 : (Vector UInt8 16)) (p3 : Int) : Option ((List UInt8)) :=
 (ZB (Xk p0 p1 p2 p3) (0,([] : List UInt8))).bind fun j7=>(slc j7 (0 : Int) p3).bind fun l46=>(ZZ l46).bind fun r48=>some r48
theorem JU (w0 : World) (p0 : (Ref Gengine)) (v0_1 : Value) (hv0_1 : Ro w0 p0 [v0_1]) (p1 : (Vector UInt8 16)) (p2 : (Vector UInt8 16)) (p3 : Int) (r : (List UInt8)) (hF : Wo p0 p1 p2 p3 = some r) :
  Calls Tryz.prog 167 [v0_1,(Value.agg (enc p1).toArray),(Value.agg (enc p2).toArray),vI p3].toArray w0 (fun en w'=>∃ v,en = .returned v ∧ (∃ (y1 : Value),v = y1 ∧ Fr w0 w' [osl NoB (r : List UInt8) y1] ∧ Kept (Old w0) w0 w')):=by
 refine ce Tryz.func167 ?_
 intro a hE
 have hM:=M.start w0
 unfold Wo at hF
 refine Zb (ZK (cs:=enc p1) hE hM Za ld rfl rfl fun b1 w a hM hE=>ZK (cs:=enc p2) hE hM Za ld rfl rfl fun b3 w a hM hE=>Zc hE rfl fun a hE=>Ze (Zb (ZW (xs:=[]) (l:=([] : List UInt8)) (vs:=[]) hE hM Za ld rfl rfl Tryz.underlying40 ty5 rfl (by decide) rfl fun u5 w a hM hE=>Zc hE rfl fun a hE=>Ze (wp_seq (Zb (Zc hE rfl fun a hE=>Ze ?_))))))
 obtain ⟨j7,hl8,hF9⟩:=bind_some hF
 refine ZM (fun a w=>∃ (u10 : Value),Env 37 a [(3,vI p3),(9,u10)] ∧ M (Old w0) w0 w [osl NoB (j7 : List UInt8) u10]) ?_ ?_
 ·skip
  refine wp_block ?_
  have hM:=hM.pull2.pull2
  refine ZE (fun (s12 : Int × (List UInt8)) a w=>∃ (u13 : Value),Env 37 a [(0,v0_1),(3,vI p3),(5,(ptr b1 0)),(6,(ptr b3 0)),(9,u13),(10,vI s12.1)] ∧ M (Old w0) w0 w [raw b3 (enc p2),raw b1 (enc p1),osl NoB (s12.2 : List UInt8) u13]) hl8 ⟨u5,hE.sub ⟨rfl,rfl,rfl,rfl,rfl,rfl,trivial⟩,hM⟩ ?_
  rintro s12 a w ⟨u13,hE,hM⟩ o17 hs15 hx16
  unfold Xk at hs15
  refine wp_seq (Zb (Zd hE rfl fun a hE=>Yf hE rfl Tryz.underlying40 (hM.sl (pre:=[_,_]) noB) fun a hE=>Zd hE rfl fun a hE=>Zh hE rfl rfl rfl fun a hE=>Ze ?_))
  refine Zo hE rfl ?_ ?_
  ·intro hb18
   have hs15:=Zw hs15 hb18
   refine wp_skip (Zt (wp_seq (wp_block (wp_seq ?_))))
   obtain ⟨l20,e21,hs15⟩:=bind_some hs15
   have hb22:=Ql e21 -- ^
   obtain ⟨r29,e30,hs15⟩:=bind_some hs15
   refine YC (its:=[raw b3 (enc p2),raw b1 (enc p1),osl NoB (s12.2 : List UInt8) u13]) (mk:=([mkO 8 (fun v=>osl NoB (([Zp (VA s12.1 8),Zp s12.1] : List UInt8) : List UInt8) v),mkO 11 (fun v=>Wy v (enc (Vector.replicate 32 (0 : UInt8)))),mkL 9 [8] 2 (fun us=>[(Yc (.slice (some ⟨b3,0,none⟩) 16 16) ((0 : Int)).toNat ((16 : Int)).toNat 1),(us.getD 0 undef)])] : Mk)) [19,20,21,22,23,24,25,26,27,28,29,11] YF rfl rfl (by decide) rfl hE (fun u=>M.qE (M.qE (M.qE (M.q0 hM.drew u) emL) emO) emO) (qsP (fun z=>Zu z.E Za ld rfl (kr0 rfl)) (qsP (v:=(Value.agg (enc p1).toArray)) ?_ (qsP (fun z=>WQ (N:=16) z.E Za ld rfl rfl rfl rfl rfl Tryz.underlying68 ty5 hb22 (kr0 rfl)) (qsP (fun z=>Zu z.E Za ld rfl (kr0 rfl)) (qsP (v:=(vI (VA s12.1 8))) (fun z=>BC z.E Za ld rfl rfl (JS _ _ (by decide)) (kr0 rfl)) (qsP (fun z=>Yg z.E Za ld rfl Tryz.underlying3 Tryz.underlying5 (kr0 rfl)) (qsP (fun z=>Zu z.E Za ld rfl (kr0 rfl)) (qsP (fun z=>Yg z.E Za ld rfl Tryz.underlying3 Tryz.underlying5 (kr0 rfl)) (qsM (pr:=fun v=>True) ?_ (qsM (pr:=fun v=>True) ?_ (qsP (v:=(Value.agg (enc r29).toArray)) ?_ (qsM (pr:=fun v=>True) ?_ qs0)))))))))))) ?_
   ·intro a w ux19 D z
    have hE:=z.E
    have hM:=z.M
    exact Zm hE rfl ZC rfl hM.rawAt1 (Flat.len _) fun a hE=>⟨Kept.refl _ _,_,rfl,hE⟩
   ·intro a w ux19 D z
    have hE:=z.E
    have hD : D 8 = false:=z.F
    have hsL : D 9 = false:=Q9 (j:=9) (k:=1) z.c rfl rfl rfl hD
    have hM:=z.M
    refine ZW (xs:=[.tmp 24,.tmp 26]) (l:=([Zp (VA s12.1 8),Zp s12.1] : List UInt8)) (vs:=[(vB (Zp (VA s12.1 8))),(vB (Zp s12.1))]) hE hM Za ld rfl rfl Tryz.underlying40 ty5 rfl (by decide) rfl ?_; intro u23 w a hM hE
    have hM:=M.litOff (its:=_ :: [raw b3 (enc p2),raw b1 (enc p1),osl NoB (s12.2 : List UInt8) u13]) (mk:=([mkO 8 (fun v=>osl NoB (([Zp (VA s12.1 8),Zp s12.1] : List UInt8) : List UInt8) v),mkO 11 (fun v=>Wy v (enc (Vector.replicate 32 (0 : UInt8))))] : Mk)) (i:=9) (ds:=[8]) (m:=2) (f:=(fun us=>[(Yc (.slice (some ⟨b3,0,none⟩) 16 16) ((0 : Int)).toNat ((16 : Int)).toNat 1),(us.getD 0 undef)])) hM hsL
    exact ⟨_,_,rfl,hE,(M.litOn (its:=[raw b3 (enc p2),raw b1 (enc p1),osl NoB (s12.2 : List UInt8) u13]) (mk:=([mkO 8 (fun v=>osl NoB (([Zp (VA s12.1 8),Zp s12.1] : List UInt8) : List UInt8) v),mkO 11 (fun v=>Wy v (enc (Vector.replicate 32 (0 : UInt8))))] : Mk)) (i:=9) (ds:=[8]) (m:=2) (f:=(fun us=>[(Yc (.slice (some ⟨b3,0,none⟩) 16 16) ((0 : Int)).toNat ((16 : Int)).toNat 1),(us.getD 0 undef)])) (M.qFill (its:=[raw b3 (enc p2),raw b1 (enc p1),osl NoB (s12.2 : List UInt8) u13]) (mk1:=[]) (mk2:=[_]) (f:=(fun v=>osl NoB (([Zp (VA s12.1 8),Zp s12.1] : List UInt8) : List UInt8) v)) hM rfl hD) hsL (by decide)),trivial⟩
   ·intro a w ux19 D z
    have hE:=z.E
    have hD : D 9 = false:=z.F
    have d8 : D 8 = true:=z.p 1 _ rfl rfl
    have hM:=z.M.sure (pre:=[_,_,_]) d8
    refine Qo (xs:=[.tmp 21,.tmp 27]) (vs:=[(Yc (.slice (some ⟨b3,0,none⟩) 16 16) ((0 : Int)).toNat ((16 : Int)).toNat 1),(ux19 8)]) hE hM Za ld rfl rfl Tryz.underlying23 Wh (by decide) (WX (Z6 (Xf (At.sat hM.rawAt0 (by simp) (by decide)) e21)) (WX (Z6 (hM.sl (pre:=[_,_,_]) noB)) HN)) ?_; intro b25 w a hM hE
    have hM:=hM.unsure (pre:=[_,_,_,_]) d8
    exact ⟨_,_,rfl,hE,M.litFill (its:=[raw b3 (enc p2),raw b1 (enc p1),osl NoB (s12.2 : List UInt8) u13]) (mk:=([mkO 8 (fun v=>osl NoB (([Zp (VA s12.1 8),Zp s12.1] : List UInt8) : List UInt8) v),mkO 11 (fun v=>Wy v (enc (Vector.replicate 32 (0 : UInt8))))] : Mk)) (i:=9) (ds:=[8]) (m:=2) (f:=(fun us=>[(Yc (.slice (some ⟨b3,0,none⟩) 16 16) ((0 : Int)).toNat ((16 : Int)).toNat 1),(us.getD 0 undef)])) hM rfl hD (by decide),trivial⟩
   ·intro a w ux19 D z
    have hE:=z.E
    have d9 : D 9 = true:=z.p 2 _ rfl rfl
    have d8 : D 8 = true:=z.c 9 _ _ rfl (List.mem_of_getElem? (i:=1) rfl) rfl d9
    have hM:=((z.M.sure (pre:=[_,_,_]) d8).sure (pre:=[_,_,_,_,_]) d9).pull
    obtain ⟨b27,f28,hM⟩:=M.litOpen hM
    refine Zv hE (qs (jM rfl (jM rfl (jM (lk rfl f28) evsN)))) (cbm Tryz.func165) (KD _ p0 v0_1 (hM.rdo hv0_1) p1 ([l20,([Zp (VA s12.1 8),Zp s12.1] : List UInt8)] : (List (List UInt8))) (Value.slice (some ⟨b27,0,none⟩) 2 2) (Hx hM.rawAt0 (hM.rawLt (pre:=[])) ⟨(Xf (At.sat hM.rawAt1 (by simp) (by decide)) e21),(hM.sl (pre:=[_,_,_,_]) noB),trivial⟩ rfl) r29 e30) ?_
    rintro v w a ⟨rfl,hK⟩ hE
    exact ⟨hK,_,rfl,hE⟩
   ·intro a w ux19 D z
    have hE:=z.E
    have hD : D 11 = false:=z.F
    have hM:=z.M
    refine Zz hE hM Ye ?_; intro b31 w a hM hE
    have hM:=hM.pack1 (it:=Wy _ (enc (Vector.replicate 32 (0 : UInt8)))) (fun w w' fp ⟨b',e,k⟩ hb=>⟨b',e,YD w w' fp k hb⟩) (fun fp k=>⟨_,rfl,k⟩)
    exact ⟨_,_,rfl,hE,M.qFill (mk1:=[_]) (mk2:=[_]) (f:=fun v=>Wy v (enc (Vector.replicate 32 (0 : UInt8)))) hM rfl hD,trivial⟩
   ·intro a w ux19 D hE hM hG hall
    have d8:=hall 8 (by decide)
    have d9:=hall 9 (by decide)
    have d11:=hall 11 (by decide)
    have hM:=((hM.sure (pre:=[_,_,_]) d8).sure (pre:=[_,_,_,_]) d11).pull
    obtain ⟨_,⟨b33,f34,_⟩,_⟩:=hM.head
    have hM:=((hM.pack1 YD (it:=raw b33 (enc (Vector.replicate 32 (0 : UInt8)))) (fun fp ⟨b2,e2,k2⟩=>by rw [f34] at e2; simp [ptr] at e2; subst e2; exact k2)).sure (pre:=[_,_,_,_,_]) d9).pull
    obtain ⟨b35,f36,hM⟩:=M.litOpen hM
    have hE:=hE.setq (t:=28) rfl f36
    have hE:=hE.setq (t:=11) rfl f34
    have hM:=hM.pull1
    refine Zl (seg:=enc r29) (cs':=enc r29) hE hM Za rfl rfl rfl Ye (Flat.len _) (zle flq) (Flat.cell _) (Zi flq) fun w a hM hE=>Zg (Zt (wp_region_lit (Zd hE rfl ?_))); intro a hE
    obtain ⟨l37,e38,hs15⟩:=bind_some hs15
    have hb39:=Ql e38 -- ^
    refine WQ (N:=32) hE Za ld rfl rfl rfl rfl rfl Tryz.underlying35 ty5 hb39 ?_; intro a hE
    obtain ⟨l40,e41,hs15⟩:=bind_some hs15
    obtain ⟨e44,rfl⟩:=Z8 e41
    have hM:=hM.pull4
    refine ZY hE hM Za ld rfl rfl (Xf (At.sat hM.rawAt1 (by simp) (by decide)) e38) Tryz.underlying40 ty5 rfl (by decide) e44 fun u42 w a hM hE=>Zc hE rfl fun a hE=>Zg (Yb (Zt (wp_region_lit (Zd hE rfl fun a hE=>Zh hE rfl rfl rfl fun a hE=>Zc hE rfl fun a hE=>Zg (Zk ?_)))))
    have hM:=M.fst (l:=[_,_,_]) hM.pull4.pull4
    exact ⟨_,(ois hs15),u42,hE.sub ⟨rfl,rfl,rfl,rfl,rfl,rfl,trivial⟩,hM⟩
  ·intro hb18
   have hs15:=Zx hs15 hb18
   refine wp_exit (Zn (Zn (Yd ?_)))
   obtain rfl:=hx16 _ (ois hs15)
   refine Zk ?_
   have hM:=M.fst (l:=[_]) hM.pull2
   exact ⟨u13,hE.sub ⟨rfl,rfl,trivial⟩,hM⟩
 ·skip
  rintro a w ⟨u10,hE,hM⟩
  refine Zt (Zb (Zd hE rfl fun a hE=>Zd hE rfl ?_)); intro a hE
  obtain ⟨l46,e47,hF9⟩:=bind_some hF9
  refine Bp hE Za ld rfl rfl rfl rfl rfl Tryz.underlying40 ty5 (hM.sl (pre:=[]) noB) e47 ?_; intro a hE
  obtain ⟨r48,e49,hF9⟩:=bind_some hF9
  refine Zv hE rfl cb75 (Xq _ l46 (Yc u10 ((0 : Int)).toNat (p3).toNat 1) (Xf (hM.sl (pre:=[]) noB) e47) r48 e49) ?_
  rintro u50 w a ⟨_,rfl,hFr,hK⟩ hE
  have hM:=hM.add hK hFr
  refine Zc hE rfl fun a hE=>Ze ?_
  obtain rfl:=Option.some.inj hF9
  have hM:=M.fst (l:=[_]) hM
  exact wp_ret (ZJ hE rfl (ZP hE rfl) ⟨_,rfl,u50,rfl,hM.outF (Yi YO),hM.kept⟩)
def Y0 (j8 : (List UInt8) × Int × Int) (s26 : Int × (List UInt8)) : Option (Fl (Int × (List UInt8)) (List UInt8)) :=
 if (decide (s26.1 < j8.2.1)) = true then ((idx j8.1 s26.1).bind fun x33=>(idx s26.2 s26.1).bind fun x36=>(idx s26.2 s26.1).bind fun x39=>some (Fl.nx (wr (s26.1 + 1),(s26.2.set (s26.1).toNat (x36 ^^^ x33))))) else (some (Fl.ex s26.2))
def YP (p0 : (Ref Gengine)) (p1 : GVault) (p2 : GRecord) (p3 : (List UInt8)) : Option ((List UInt8)) :=
 (ZZ p3).bind fun r5=>((idx p1.Keys p2.Version).bind fun x14=>(Wo p0 x14 p2.Nonce (p3.length : Int)).bind fun r17=>some (r17,(r17.length : Int),0) : Option ((List UInt8) × Int × Int)).bind fun j8=>(ZB (Y0 j8) (j8.2.2,r5)).bind fun j21=>some j21
theorem QH (w0 : World) (p0 : (Ref Gengine)) (v0_1 : Value) (hv0_1 : Ro w0 p0 [v0_1]) (p1 : GVault) (v1_1 : Value) (hv1_1 : Ro w0 p1.Keys [v1_1]) (v1_2 : Value) (hv1_2 : Ro w0 p1.Records [v1_2]) (v1_3 : Value) (hv1_3 : Ro w0 p1.Events [v1_3]) (p2 : GRecord) (v2_1 : Value) (hv2_1 : Ro w0 p2.Label [v2_1]) (v2_2 : Value) (hv2_2 : Ro w0 p2.Body [v2_2]) (p3 : (List UInt8)) (v3_1 : Value) (hv3_1 : Ro w0 p3 [v3_1]) (r : (List UInt8)) (hF : YP p0 p1 p2 p3 = some r) :
  Calls Tryz.prog 109 [v0_1,(Value.agg (cat [[v1_1],[vI p1.Next],[v1_2],[v1_3],enc p1.Head]).toArray),(Value.agg (cat [[vI p2.Number],[vI p2.Version],enc p2.Nonce,[v2_1],[v2_2],enc p2.Tag]).toArray),v3_1].toArray w0 (fun en w'=>∃ v,en = .returned v ∧ (∃ (y1 : Value),v = y1 ∧ Fr w0 w' [osl NoB (r : List UInt8) y1] ∧ Kept (Old w0) w0 w')):=by
 refine ce Tryz.func109 ?_
 intro a hE
 have hM:=M.start w0
 unfold YP at hF
 refine Zb (ZK (cs:=cat [[v1_1],[vI p1.Next],[v1_2],[v1_3],enc p1.Head]) hE hM Za ld rfl rfl fun b1 w a hM hE=>ZK (cs:=cat [[vI p2.Number],[vI p2.Version],enc p2.Nonce,[v2_1],[v2_2],enc p2.Tag]) hE hM Za ld rfl rfl fun b3 w a hM hE=>Zc hE rfl fun a hE=>Ze (Zb (Zd hE rfl ?_))); intro a hE
 obtain ⟨r5,e6,hF⟩:=bind_some hF
 refine Zv hE rfl cb75 (Xq _ p3 v3_1 (hM.rdo hv3_1) r5 e6) ?_
 rintro u7 w a ⟨_,rfl,hFr,hK⟩ hE
 have hM:=hM.add hK hFr
 refine Zc hE rfl fun a hE=>Ze (wp_seq ?_)
 obtain ⟨j8,hl9,hF10⟩:=bind_some hF
 refine ZO (fun a w=>∃ (u11 : Value),Env 41 a [(9,u7),(25,u11),(26,vI j8.2.1),(27,vI j8.2.2)] ∧ M (Old w0) w0 w [osl NoB (r5 : List UInt8) u7,osl NoB (j8.1 : List UInt8) u11]) ?_ ?_
 ·skip
  obtain ⟨x14,hi16,hl9⟩:=bix hl9
  obtain ⟨r17,e18,hl9⟩:=bind_some hl9
  refine YC (its:=[osl NoB (r5 : List UInt8) u7,raw b3 (cat [[vI p2.Number],[vI p2.Version],enc p2.Nonce,[v2_1],[v2_2],enc p2.Tag]),raw b1 (cat [[v1_1],[vI p1.Next],[v1_2],[v1_3],enc p1.Head])]) (mk:=([mkO 11 (fun v=>osl NoB (r17 : List UInt8) v)] : Mk)) [14,15,16,17,18,19,20,21,22,23,24,25,26,27] YF rfl rfl (by decide) rfl hE (fun u=>M.qE (M.q0 hM.drew u) emO) (qsP (fun z=>Zu z.E Za ld rfl (kr0 rfl)) (qsP (fun z=>Zj z.E Za ld rfl (WZ) (kr0 rfl)) (qsP (v:=v1_1) ?_ (qsP (fun z=>Zj z.E Za ld rfl (WE) (kr0 rfl)) (qsP (v:=(vI p2.Version)) ?_ (qsP (v:=(ptr (sb v1_1) (so v1_1 + (p2.Version).toNat * 16))) ?_ (qsP (v:=(Value.agg (enc x14).toArray)) ?_ (qsP (fun z=>Zj z.E Za ld rfl (Qf) (kr0 rfl)) (qsP (v:=(Value.agg (enc p2.Nonce).toArray)) ?_ (qsP (fun z=>Zu z.E Za ld rfl (kr0 rfl)) (qsP (v:=(vI (p3.length : Int))) ?_ (qsM (pr:=fun v=>True) ?_ (qsP (v:=(vI (r17.length : Int))) ?_ (qsP (fun z=>Zu z.E Za ld rfl (kr0 rfl)) qs0)))))))))))))) ?_
  ·intro a w ux13 D z
   have hE:=z.E
   have hM:=z.M
   exact Zy (v:=v1_1) hE rfl Q7 rfl (At.cat (pre:=[]) hM.rawAt2 cl0) fun a hE=>⟨Kept.refl _ _,_,rfl,hE⟩
  ·intro a w ux13 D z
   have hE:=z.E
   have hM:=z.M
   exact Zy (v:=(vI p2.Version)) hE rfl ty2 rfl (At.cat (pre:=[[vI p2.Number]]) hM.rawAt1 ck) fun a hE=>⟨Kept.refl _ _,_,rfl,hE⟩
  ·intro a w ux13 D z
   have hE:=z.E
   have hM:=z.M
   exact ZL hE rfl rfl Tryz.underlying54 ZC (hM.rd hv1_1) hi16.1 fun a hE=>⟨Kept.refl _ _,_,rfl,hE⟩
  ·intro a w ux13 D z
   have hE:=z.E
   have hM:=z.M
   exact Zm hE rfl ZC rfl (Y6 (hM.rd hv1_1) hi16.2) (Flat.len _) fun a hE=>⟨Kept.refl _ _,_,rfl,hE⟩
  ·intro a w ux13 D z
   have hE:=z.E
   have hM:=z.M
   exact Zm hE rfl ZC rfl (At.cat (pre:=[[vI p2.Number],[vI p2.Version]]) hM.rawAt1 ck) (Flat.len _) fun a hE=>⟨Kept.refl _ _,_,rfl,hE⟩
  ·intro a w ux13 D z
   have hE:=z.E
   have hM:=z.M
   exact Yf hE rfl Tryz.underlying40 (hM.rd hv3_1) fun a hE=>⟨Kept.refl _ _,_,rfl,hE⟩
  ·intro a w ux13 D z
   have hE:=z.E
   have hD : D 11 = false:=z.F
   have hM0:=z.M
   have hM:=z.M
   refine Zv hE rfl (cbm Tryz.func167) (JU _ p0 v0_1 (hM.rdo hv0_1) x14 p2.Nonce (p3.length : Int) r17 e18) ?_
   rintro _ w a ⟨_,rfl,hFr,hK⟩ hE
   have hM:=hM0.add hK hFr
   exact ⟨_,_,rfl,hE,M.qFill (mk1:=[]) (mk2:=[]) (f:=(fun v=>osl NoB (r17 : List UInt8) v)) hM rfl hD,trivial⟩
  ·intro a w ux13 D z
   have hE:=z.E
   have d11 : D 11 = true:=z.p 0 _ rfl rfl
   have hM:=z.M.sure (pre:=[_,_,_]) d11
   exact Yf hE rfl Tryz.underlying40 (hM.sl (pre:=[_,_,_]) noB) fun a hE=>⟨Kept.refl _ _,_,rfl,hE⟩
  ·intro a w ux13 D hE hM hG hall
   have d11:=hall 11 (by decide)
   have hM:=hM.sure (pre:=[_,_,_]) d11
   refine Zg ?_
   obtain rfl:=Option.some.inj hl9
   refine Zk ?_
   have hM:=M.fst (l:=[_,_]) hM.pull3.pull1
   exact ⟨(ux13 11),hE.sub ⟨rfl,rfl,rfl,rfl,trivial⟩,hM⟩
 ·skip
  rintro a w ⟨u11,hE,hM⟩
  obtain ⟨j21,hl22,hF23⟩:=bind_some hF10
  refine ZM (fun a w=>∃ (u24 : Value),Env 41 a [(9,u24)] ∧ M (Old w0) w0 w [osl NoB (j21 : List UInt8) u24]) ?_ ?_
  ·skip
   refine wp_block ?_
   have hM:=hM.pull1
   refine ZE (fun (s26 : Int × (List UInt8)) a w=>∃ (u27 : Value),Env 41 a [(9,u27),(25,u11),(26,vI j8.2.1),(27,vI s26.1)] ∧ M (Old w0) w0 w [osl NoB (j8.1 : List UInt8) u11,osl NoB (s26.2 : List UInt8) u27]) hl22 ⟨u7,hE.sub ⟨rfl,rfl,rfl,rfl,trivial⟩,hM⟩ ?_
   rintro s26 a w ⟨u27,hE,hM⟩ o31 hs29 hx30
   unfold Y0 at hs29
   refine Zb (Zh hE rfl rfl rfl fun a hE=>Ze (wp_seq ?_))
   refine Zo hE rfl ?_ ?_
   ·intro hb32
    have hs29:=Zw hs29 hb32
    refine wp_skip (Zt (wp_seq (wp_block (Zb (Zd hE rfl ?_))))); intro a hE
    obtain ⟨x33,hi35,hs29⟩:=bix hs29
    refine ZL hE rfl rfl Tryz.underlying40 ty5 (hM.sl (pre:=[]) noB) hi35.1 fun a hE=>Zy (v:=(vB x33)) hE rfl ty5 rfl (Y6 (hM.sl (pre:=[]) noB) hi35.2) fun a hE=>Zc hE rfl fun a hE=>Zc hE rfl fun a hE=>Ze (wp_region_lit (Zd hE rfl fun a hE=>Zd hE rfl ?_)); intro a hE
    obtain ⟨x36,hi38,hs29⟩:=bix hs29
    refine ZL hE rfl rfl Tryz.underlying40 ty5 (hM.sl (pre:=[_]) noB) hi38.1 fun a hE=>Zy (v:=(vB x36)) hE rfl ty5 rfl (Y6 (hM.sl (pre:=[_]) noB) hi38.2) fun a hE=>Zd hE rfl fun a hE=>Zh hE rfl rfl (Vu x36 x33) ?_; intro a hE
    obtain ⟨x39,hi41,hs29⟩:=bix hs29
    refine ZL hE rfl rfl Tryz.underlying40 ty5 (hM.sl (pre:=[_]) noB) hi41.1 ?_; intro a hE
    have hM:=hM.pull1
    refine QE (i:=(s26.1).toNat) (k0:=0) (seg:=[(vB (x36 ^^^ x33))]) (xo:=x39) (xn:=x36 ^^^ x33) hE hM Za rfl rfl rfl ty5 rfl (Flat.cell (x36 ^^^ x33 : UInt8)) hi41.2 (Kg (m:=1) rfl (by decide)) (Zi rfl) fun w a hM hE=>Zg (Yb (Zt (wp_region_lit (Zh hE rfl rfl rfl fun a hE=>Zd hE rfl fun a hE=>Zg (Zk ?_)))))
    have hM:=hM.pull1
    exact ⟨_,(ois hs29),u27,hE.sub ⟨rfl,rfl,rfl,rfl,trivial⟩,hM⟩
   ·intro hb32
    have hs29:=Zx hs29 hb32
    refine wp_exit (Zn (Zn (Yd ?_)))
    obtain rfl:=hx30 _ (ois hs29)
    refine Zk ?_
    have hM:=M.fst (l:=[_]) hM.pull1
    exact ⟨u27,hE.sub ⟨rfl,trivial⟩,hM⟩
  ·skip
   rintro a w ⟨u24,hE,hM⟩
   refine Zt (Zb (Zd hE rfl fun a hE=>Zc hE rfl fun a hE=>Ze ?_))
   obtain rfl:=Option.some.inj hF23
   exact wp_ret (ZJ hE rfl (ZP hE rfl) ⟨_,rfl,u24,rfl,hM.outF (Yi YO),hM.kept⟩)
def Wp (p0 : (Ref Gengine)) (p1 : GVault) (p2 : GRecord) (p3 : (List UInt8)) : Option (GRecord) :=
 (YP p0 p1 p2 p3).bind fun r7=>(YW p0 p1 (⟨p2.Number,p2.Version,p2.Nonce,p2.Label,r7,p2.Tag⟩ : GRecord)).bind fun r10=>some (⟨p2.Number,p2.Version,p2.Nonce,p2.Label,r7,r10⟩ : GRecord)
theorem JR (St : Nat → Prop) (W w0 : World) (its : List Item) (p0 : (Ref Gengine)) (v0_1 : Value) (hv0_1 : Rep.sat St W p0 [v0_1] []) (p1 : GVault) (v1_1 : Value) (hv1_1 : Rep.sat St W p1.Keys [v1_1] []) (v1_2 : Value) (hv1_2 : Rep.sat St W p1.Records [v1_2] []) (v1_3 : Value) (hv1_3 : Rep.sat St W p1.Events [v1_3] []) (p2 : GRecord) (v2_1 : Value) (v2_2 : Value) (p3 : (List UInt8)) (v3_1 : Value) (hv3_1 : Rep.sat St W p3 [v3_1] []) (hM : M St W w0 (own NoB (p2.Label : (List UInt8)) [v2_1] :: own NoB (p2.Body : (List UInt8)) [v2_2] :: its)) (r : GRecord) (hF : Wp p0 p1 p2 p3 = some r) :
  Calls Tryz.prog 105 [v0_1,(Value.agg (cat [[v1_1],[vI p1.Next],[v1_2],[v1_3],enc p1.Head]).toArray),(Value.agg (cat [[vI p2.Number],[vI p2.Version],enc p2.Nonce,[v2_1],[v2_2],enc p2.Tag]).toArray),v3_1].toArray w0 (fun en w'=>∃ v,en = .returned v ∧ (∃ (y1 : Value) (y2 : Value),v = (Value.agg (cat [[vI r.Number],[vI r.Version],enc r.Nonce,[y1],[y2],enc r.Tag]).toArray) ∧ M St W w' (own NoB (r.Label : (List UInt8)) [y1] :: own NoB (r.Body : (List UInt8)) [y2] :: its))):=by
 refine ce Tryz.func105 ?_
 intro a hE
 unfold Wp at hF
 refine Zb (ZK (cs:=cat [[v1_1],[vI p1.Next],[v1_2],[v1_3],enc p1.Head]) hE hM Za ld rfl rfl fun b1 w a hM hE=>ZK (cs:=cat [[vI p2.Number],[vI p2.Version],enc p2.Nonce,[v2_1],[v2_2],enc p2.Tag]) hE hM Za ld rfl rfl fun b3 w a hM hE=>Zz hE hM ZV fun b5 w a hM hE=>Ze (Zb (Zd hE rfl fun a hE=>Zm hE rfl Yn rfl hM.rawAt2 cq fun a hE=>Zm hE rfl ZV rfl hM.rawAt1 cq fun a hE=>Zd hE rfl ?_))); intro a hE
 obtain ⟨r7,e8,hF⟩:=bind_some hF
 refine Zv hE rfl (cbm Tryz.func109) (QH _ p0 v0_1 (hM.rdo hv0_1) p1 v1_1 (hM.rdo hv1_1) v1_2 (hM.rdo hv1_2) v1_3 (hM.rdo hv1_3) p2 v2_1 (hM.ro (pre:=[_,_,_]) noB) v2_2 (hM.ro (pre:=[_,_,_,_]) noB) p3 v3_1 (hM.rdo hv3_1) r7 e8) ?_
 rintro u9 w a ⟨_,rfl,hFr,hK⟩ hE
 have hM:=hM.add hK hFr
 refine Zf hE rfl (V1) ?_; intro a hE
 have hM:=hM.pull2
 refine Zl (seg:=[u9]) hE hM Za rfl rfl (Z6 (hM.sl (pre:=[_]) noB)) Wh rfl (YL (pre:=[[vI p2.Number],[vI p2.Version],enc p2.Nonce,[v2_1]]) ck rfl) (Rep.cell (hM.sl (pre:=[_]) noB)) (ZR (pre:=[[vI p2.Number],[vI p2.Version],enc p2.Nonce,[v2_1]]) ck rfl) fun w a hM hE=>Ze (Zb (Zd hE rfl fun a hE=>Zm hE rfl Yn rfl hM.rawAt3 cq fun a hE=>Zm hE rfl ZV rfl hM.rawAt0 cq ?_)); intro a hE
 obtain ⟨r10,e11,hF⟩:=bind_some hF
 refine Zv hE rfl Zbw (T2 _ p0 v0_1 (hM.rdo hv0_1) p1 v1_1 (hM.rdo hv1_1) v1_2 (hM.rdo hv1_2) v1_3 (hM.rdo hv1_3) (⟨p2.Number,p2.Version,p2.Nonce,p2.Label,r7,p2.Tag⟩ : GRecord) v2_1 (hM.ro (pre:=[_,_,_,_]) noB) u9 (hM.sl (pre:=[_]) noB) r10 e11) ?_
 rintro v w a ⟨rfl,hK⟩ hE
 have hM:=hM.keep hK
 refine Zf hE rfl (Qg) fun a hE=>Zl (seg:=enc r10) hE hM Za rfl rfl rfl Ye (Flat.len _) (YL (pre:=[[vI p2.Number],[vI p2.Version],enc p2.Nonce,[v2_1],[u9]]) ck flq) (Flat.cell _) (ZR (pre:=[[vI p2.Number],[vI p2.Version],enc p2.Nonce,[v2_1],[u9]]) ck flq) fun w a hM hE=>Ze (Zb (Zm hE rfl ZV rfl hM.rawAt0 cq ?_)); intro a hE
 have hM:=hM.pull2
 refine Zl (seg:=cat [[vI p2.Number],[vI p2.Version],enc p2.Nonce,[v2_1],[u9],enc r10]) (cs':=cat [[vI p2.Number],[vI p2.Version],enc p2.Nonce,[v2_1],[u9],enc r10]) hE hM Za rfl rfl rfl ZV cq (Nat.le_of_eq ((Nat.zero_add _).trans (Eq.trans cq (Eq.symm cq)))) (Z1 (cc1 (Flat.cell (p2.Number : Int)) (cc1 (Flat.cell (p2.Version : Int)) (cc1 (Flat.cell _) (cc1 (Rep.cell (hM.ro (pre:=[_,_,_,_]) noB)) (cc1 (Rep.cell (hM.sl (pre:=[_,_]) noB)) (cc1 (Flat.cell _) cc0))))))) (Zi (Eq.trans cq (Eq.symm cq))) fun w a hM hE=>Ze ?_
 have hM:=hM.pull2.toOwn noB
 obtain rfl:=Option.some.inj hF
 have hq12 : Yw Tryz.prog _ _ (.cell 8 127) _:=ZI hE rfl ZV rfl hM.rawAt1 cq rfl
 have hM:=((((hM.pull4.pull5).drop.pull4).drop.pull3).drop.pull2).drop
 exact wp_ret (ZJ hE rfl hq12 ⟨_,rfl,v2_1,u9,rfl,hM⟩)
def XP (p0 : (Ref Gengine)) (p1 : (List GEvent)) (s16 : (Vector UInt8 32) × Int) : Option (Fl ((Vector UInt8 32) × Int) (Vector UInt8 32)) :=
 if (decide (s16.2 < (p1.length : Int))) = true then ((idx p1 s16.2).bind fun x21=>(slc s16.1.toList (0 : Int) (32 : Int)).bind fun l27=>(YU x21.Number 4).bind fun r32=>(slc x21.Tag.toList (0 : Int) (32 : Int)).bind fun l35=>(YN p0 ([l27,([Zp x21.Kind] : List UInt8),r32,l35] : (List (List UInt8)))).bind fun r42=>some (Fl.nx (r42,wr (s16.2 + 1)))) else (some (Fl.ex s16.1))
def Vh (p0 : (Ref Gengine)) (p1 : (List GEvent)) : Option ((Vector UInt8 32)) :=
 (mkS 1 (0 : UInt8) 32).bind fun l3=>(YN p0 ([l3] : (List (List UInt8)))).bind fun r9=>(ZB (XP p0 p1) (r9,0)).bind fun j13=>some j13
theorem HX (w0 : World) (p0 : (Ref Gengine)) (v0_1 : Value) (hv0_1 : Ro w0 p0 [v0_1]) (p1 : (List GEvent)) (v1_1 : Value) (hv1_1 : Ro w0 p1 [v1_1]) (r : (Vector UInt8 32)) (hF : Vh p0 p1 = some r) :
  Calls Tryz.prog 113 [v0_1,v1_1].toArray w0 (Rt w0 (Value.agg (enc r).toArray)):=by
 refine ce Tryz.func113 ?_
 intro a hE
 have hM:=M.start w0
 unfold Vh at hF
 refine Zb (Zz hE hM Ye fun b1 w a hM hE=>Ze (Zb (Zd hE rfl ?_))); intro a hE
 obtain ⟨l3,e4,hF⟩:=bind_some hF
 refine BW hE hM Za ld rfl rfl Tryz.underlying40 ty5 rfl (by decide) (fun _=>Qa.2 ⟨rfl,rfl⟩) e4 fun u5 w a hM hE=>Qo (xs:=[.tmp 9]) (vs:=[u5]) hE hM Za ld rfl rfl Tryz.underlying23 Wh (by decide) (WX (Z6 (hM.sl (pre:=[]) noB)) HN) ?_; intro b7 w a hM hE
 obtain ⟨r9,e10,hF⟩:=bind_some hF
 refine Zv hE rfl cb69 (VO _ p0 v0_1 (hM.rdo hv0_1) ([l3] : (List (List UInt8))) (Value.slice (some ⟨b7,0,none⟩) 1 1) (Hx hM.rawAt0 (hM.rawLt (pre:=[])) ⟨(hM.sl (pre:=[_]) noB),trivial⟩ rfl) r9 e10) ?_
 rintro v w a ⟨rfl,hK⟩ hE
 have hM:=hM.keep hK
 refine Zz hE hM Ye fun b11 w a hM hE=>Zl (seg:=enc r9) (cs':=enc r9) hE hM Za rfl rfl rfl Ye (Flat.len _) (zle flq) (Flat.cell _) (Zi flq) fun w a hM hE=>Ze (wp_seq (Zb (Zd hE rfl fun a hE=>Yf hE rfl Tryz.underlying56 (hM.rd hv1_1) fun a hE=>Zd hE rfl fun a hE=>Ze ?_)))
 obtain ⟨j13,hl14,hF15⟩:=bind_some hF
 refine ZM (fun a w=>Env 33 a [(4,(ptr b1 0)),(5,(ptr b11 0))] ∧ M (Old w0) w0 w [raw b11 (enc j13),raw b1 (enc (Vector.replicate 32 (0 : UInt8)))]) ?_ ?_
 ·skip
  refine wp_block ?_
  have hM:=M.fst (l:=[_,_]) hM.pull3.pull1
  refine ZE (fun (s16 : (Vector UInt8 32) × Int) a w=>Env 33 a [(0,v0_1),(4,(ptr b1 0)),(5,(ptr b11 0)),(12,v1_1),(13,(vI (p1.length : Int))),(14,vI s16.2)] ∧ M (Old w0) w0 w [raw b11 (enc s16.1),raw b1 (enc (Vector.replicate 32 (0 : UInt8)))]) hl14 ⟨hE.sub ⟨rfl,rfl,rfl,rfl,rfl,rfl,trivial⟩,hM⟩ ?_
  rintro s16 a w ⟨hE,hM⟩ o19 hs17 hx18
  unfold XP at hs17
  refine Zb (Zh hE rfl rfl rfl fun a hE=>Ze (wp_seq ?_))
  refine Zo hE rfl ?_ ?_
  ·intro hb20
   have hs17:=Zw hs17 hb20
   refine wp_skip (Zt (wp_seq (wp_block (Zb ?_))))
   obtain ⟨x21,hi23,hs17⟩:=bix hs17
   refine ZL hE rfl rfl Tryz.underlying56 Xp (hM.rd hv1_1) hi23.1 fun a hE=>Zm hE rfl Xp rfl (Y6 (hM.rd hv1_1) hi23.2) cq fun a hE=>Zz hE hM Xp fun b24 w a hM hE=>Zl (seg:=cat [[vI x21.Kind],[vI x21.Number],enc x21.Tag]) (cs':=cat [[vI x21.Kind],[vI x21.Number],enc x21.Tag]) hE hM Za rfl rfl rfl Xp cq (Nat.le_of_eq ((Nat.zero_add _).trans (Eq.trans cq (Eq.symm cq)))) (Z1 (cc1 (Flat.cell (x21.Kind : Int)) (cc1 (Flat.cell (x21.Number : Int)) (cc1 (Flat.cell _) cc0)))) (Zi (Eq.trans cq (Eq.symm cq))) fun w a hM hE=>Ze ?_
   obtain ⟨l27,e28,hs17⟩:=bind_some hs17
   have hb29:=Ql e28 -- ^
   obtain ⟨r32,e33,hs17⟩:=bind_some hs17
   obtain ⟨l35,e36,hs17⟩:=bind_some hs17
   have hb37:=Ql e36 -- ^
   refine YC (its:=[raw b24 (cat [[vI x21.Kind],[vI x21.Number],enc x21.Tag]),raw b11 (enc s16.1),raw b1 (enc (Vector.replicate 32 (0 : UInt8)))]) (mk:=([mkO 5 (fun v=>osl NoB (([Zp x21.Kind] : List UInt8) : List UInt8) v),mkO 8 (fun v=>osl NoB (r32 : List UInt8) v),mkL 11 [5,8] 4 (fun us=>[(Yc (.slice (some ⟨b11,0,none⟩) 32 32) ((0 : Int)).toNat ((32 : Int)).toNat 1),(us.getD 0 undef),(us.getD 1 undef),(Yc (.slice (some ⟨b24,0 + 2,none⟩) 32 32) ((0 : Int)).toNat ((32 : Int)).toNat 1)])] : Mk)) [18,19,20,21,22,23,24,25,26,27,28,29] YF rfl rfl (by decide) rfl hE (fun u=>M.qE (M.qE (M.qE (M.q0 hM.drew u) emL) emO) emO) (qsP (fun z=>Zu z.E Za ld rfl (kr0 rfl)) (qsP (fun z=>WQ (N:=32) z.E Za ld rfl rfl rfl rfl rfl Tryz.underlying35 ty5 hb29 (kr0 rfl)) (qsP (fun z=>Zj z.E Za ld rfl (Ke) (kr0 rfl)) (qsP (v:=(vI x21.Kind)) ?_ (qsP (fun z=>Yg z.E Za ld rfl Tryz.underlying2 Tryz.underlying5 (kr0 rfl)) (qsM (pr:=fun v=>True) ?_ (qsP (fun z=>Zj z.E Za ld rfl (Kl) (kr0 rfl)) (qsP (v:=(vI x21.Number)) ?_ (qsM (pr:=fun v=>True) ?_ (qsP (fun z=>Zj z.E Za ld rfl (K2) (kr0 rfl)) (qsP (fun z=>WQ (N:=32) z.E Za ld rfl rfl rfl rfl rfl Tryz.underlying35 ty5 hb37 (kr0 rfl)) (qsM (pr:=fun v=>True) ?_ qs0)))))))))))) ?_
   ·intro a w ux26 D z
    have hE:=z.E
    have hM:=z.M
    exact Zy (v:=(vI x21.Kind)) hE rfl ty2 rfl (At.cat (pre:=[]) hM.rawAt0 cl0) fun a hE=>⟨Kept.refl _ _,_,rfl,hE⟩
   ·intro a w ux26 D z
    have hE:=z.E
    have hD : D 5 = false:=z.F
    have hsL : D 11 = false:=Q9 (j:=11) (k:=1) z.c rfl rfl rfl hD
    have hM:=z.M
    refine ZW (xs:=[.tmp 22]) (l:=([Zp x21.Kind] : List UInt8)) (vs:=[(vB (Zp x21.Kind))]) hE hM Za ld rfl rfl Tryz.underlying40 ty5 rfl (by decide) rfl ?_; intro u30 w a hM hE
    have hM:=M.litOff (its:=_ :: [raw b24 (cat [[vI x21.Kind],[vI x21.Number],enc x21.Tag]),raw b11 (enc s16.1),raw b1 (enc (Vector.replicate 32 (0 : UInt8)))]) (mk:=([mkO 5 (fun v=>osl NoB (([Zp x21.Kind] : List UInt8) : List UInt8) v),mkO 8 (fun v=>osl NoB (r32 : List UInt8) v)] : Mk)) (i:=11) (ds:=[5,8]) (m:=4) (f:=(fun us=>[(Yc (.slice (some ⟨b11,0,none⟩) 32 32) ((0 : Int)).toNat ((32 : Int)).toNat 1),(us.getD 0 undef),(us.getD 1 undef),(Yc (.slice (some ⟨b24,0 + 2,none⟩) 32 32) ((0 : Int)).toNat ((32 : Int)).toNat 1)])) hM hsL
    exact ⟨_,_,rfl,hE,(M.litOn (its:=[raw b24 (cat [[vI x21.Kind],[vI x21.Number],enc x21.Tag]),raw b11 (enc s16.1),raw b1 (enc (Vector.replicate 32 (0 : UInt8)))]) (mk:=([mkO 5 (fun v=>osl NoB (([Zp x21.Kind] : List UInt8) : List UInt8) v),mkO 8 (fun v=>osl NoB (r32 : List UInt8) v)] : Mk)) (i:=11) (ds:=[5,8]) (m:=4) (f:=(fun us=>[(Yc (.slice (some ⟨b11,0,none⟩) 32 32) ((0 : Int)).toNat ((32 : Int)).toNat 1),(us.getD 0 undef),(us.getD 1 undef),(Yc (.slice (some ⟨b24,0 + 2,none⟩) 32 32) ((0 : Int)).toNat ((32 : Int)).toNat 1)])) (M.qFill (its:=[raw b24 (cat [[vI x21.Kind],[vI x21.Number],enc x21.Tag]),raw b11 (enc s16.1),raw b1 (enc (Vector.replicate 32 (0 : UInt8)))]) (mk1:=[]) (mk2:=[_]) (f:=(fun v=>osl NoB (([Zp x21.Kind] : List UInt8) : List UInt8) v)) hM rfl hD) hsL (by decide)),trivial⟩
   ·intro a w ux26 D z
    have hE:=z.E
    have hM:=z.M
    exact Zy (v:=(vI x21.Number)) hE rfl ty2 rfl (At.cat (pre:=[[vI x21.Kind]]) hM.rawAt0 ck) fun a hE=>⟨Kept.refl _ _,_,rfl,hE⟩
   ·intro a w ux26 D z
    have hE:=z.E
    have hD : D 8 = false:=z.F
    have hsL : D 11 = false:=Q9 (j:=11) (k:=2) z.c rfl rfl rfl hD
    have hM0:=z.M
    have hM:=z.M
    refine Zv hE rfl Zct (QR _ x21.Number 4 r32 e33) ?_
    rintro _ w a ⟨_,rfl,hFr,hK⟩ hE
    have hM:=hM0.add hK hFr
    have hM:=M.litOff (its:=_ :: [raw b24 (cat [[vI x21.Kind],[vI x21.Number],enc x21.Tag]),raw b11 (enc s16.1),raw b1 (enc (Vector.replicate 32 (0 : UInt8)))]) (mk:=([mkO 5 (fun v=>osl NoB (([Zp x21.Kind] : List UInt8) : List UInt8) v),mkO 8 (fun v=>osl NoB (r32 : List UInt8) v)] : Mk)) (i:=11) (ds:=[5,8]) (m:=4) (f:=(fun us=>[(Yc (.slice (some ⟨b11,0,none⟩) 32 32) ((0 : Int)).toNat ((32 : Int)).toNat 1),(us.getD 0 undef),(us.getD 1 undef),(Yc (.slice (some ⟨b24,0 + 2,none⟩) 32 32) ((0 : Int)).toNat ((32 : Int)).toNat 1)])) hM hsL
    exact ⟨_,_,rfl,hE,(M.litOn (its:=[raw b24 (cat [[vI x21.Kind],[vI x21.Number],enc x21.Tag]),raw b11 (enc s16.1),raw b1 (enc (Vector.replicate 32 (0 : UInt8)))]) (mk:=([mkO 5 (fun v=>osl NoB (([Zp x21.Kind] : List UInt8) : List UInt8) v),mkO 8 (fun v=>osl NoB (r32 : List UInt8) v)] : Mk)) (i:=11) (ds:=[5,8]) (m:=4) (f:=(fun us=>[(Yc (.slice (some ⟨b11,0,none⟩) 32 32) ((0 : Int)).toNat ((32 : Int)).toNat 1),(us.getD 0 undef),(us.getD 1 undef),(Yc (.slice (some ⟨b24,0 + 2,none⟩) 32 32) ((0 : Int)).toNat ((32 : Int)).toNat 1)])) (M.qFill (its:=[raw b24 (cat [[vI x21.Kind],[vI x21.Number],enc x21.Tag]),raw b11 (enc s16.1),raw b1 (enc (Vector.replicate 32 (0 : UInt8)))]) (mk1:=[_]) (mk2:=[]) (f:=(fun v=>osl NoB (r32 : List UInt8) v)) hM rfl hD) hsL (by decide)),trivial⟩
   ·intro a w ux26 D z
    have hE:=z.E
    have hD : D 11 = false:=z.F
    have d5 : D 5 = true:=z.p 1 _ rfl rfl
    have d8 : D 8 = true:=z.p 2 _ rfl rfl
    have hM:=(z.M.sure (pre:=[_,_,_]) d5).sure (pre:=[_,_,_,_]) d8
    refine Qo (xs:=[.tmp 19,.tmp 23,.tmp 26,.tmp 28]) (vs:=[(Yc (.slice (some ⟨b11,0,none⟩) 32 32) ((0 : Int)).toNat ((32 : Int)).toNat 1),(ux26 5),(ux26 8),(Yc (.slice (some ⟨b24,0 + 2,none⟩) 32 32) ((0 : Int)).toNat ((32 : Int)).toNat 1)]) hE hM Za ld rfl rfl Tryz.underlying23 Wh (by decide) (WX (Z6 (Xf (At.sat hM.rawAt1 (by simp) (by decide)) e28)) (WX (Z6 (hM.sl (pre:=[_,_,_]) noB)) (WX (Z6 (hM.sl (pre:=[_,_,_,_]) noB)) (WX (Z6 (Xf (At.sat (At.cat (pre:=[[vI x21.Kind],[vI x21.Number]]) hM.rawAt0 ck) (by simp) (by decide)) e36)) HN)))) ?_; intro b38 w a hM hE
    have hM:=(hM.unsure (pre:=[_,_,_,_,_]) d8).unsure (pre:=[_,_,_,_]) d5
    exact ⟨_,_,rfl,hE,M.litFill (its:=[raw b24 (cat [[vI x21.Kind],[vI x21.Number],enc x21.Tag]),raw b11 (enc s16.1),raw b1 (enc (Vector.replicate 32 (0 : UInt8)))]) (mk:=([mkO 5 (fun v=>osl NoB (([Zp x21.Kind] : List UInt8) : List UInt8) v),mkO 8 (fun v=>osl NoB (r32 : List UInt8) v)] : Mk)) (i:=11) (ds:=[5,8]) (m:=4) (f:=(fun us=>[(Yc (.slice (some ⟨b11,0,none⟩) 32 32) ((0 : Int)).toNat ((32 : Int)).toNat 1),(us.getD 0 undef),(us.getD 1 undef),(Yc (.slice (some ⟨b24,0 + 2,none⟩) 32 32) ((0 : Int)).toNat ((32 : Int)).toNat 1)])) hM rfl hD (by decide),trivial⟩
   ·intro a w ux26 D hE hM hG hall
    have d5:=hall 5 (by decide)
    have d8:=hall 8 (by decide)
    have d11:=hall 11 (by decide)
    have hM:=(((hM.sure (pre:=[_,_,_]) d5).sure (pre:=[_,_,_,_]) d8).sure (pre:=[_,_,_,_,_]) d11).pull
    obtain ⟨b40,f41,hM⟩:=M.litOpen hM
    have hE:=hE.setq (t:=29) rfl f41
    obtain ⟨r42,e43,hs17⟩:=bind_some hs17
    refine Zv hE rfl cb69 (VO _ p0 v0_1 (hM.rdo hv0_1) ([l27,([Zp x21.Kind] : List UInt8),r32,l35] : (List (List UInt8))) (Value.slice (some ⟨b40,0,none⟩) 4 4) (Hx hM.rawAt0 (hM.rawLt (pre:=[])) ⟨(Xf (At.sat hM.rawAt2 (by simp) (by decide)) e28),(hM.sl (pre:=[_,_,_,_]) noB),(hM.sl (pre:=[_,_,_,_,_]) noB),(Xf (At.sat (At.cat (pre:=[[vI x21.Kind],[vI x21.Number]]) hM.rawAt1 ck) (by simp) (by decide)) e36),trivial⟩ rfl) r42 e43) ?_
    rintro v w a ⟨rfl,hK⟩ hE
    have hM:=(hM.keep hK).pull2
    refine Zl (seg:=enc r42) (cs':=enc r42) hE hM Za rfl rfl rfl Ye (Flat.len _) (zle flq) (Flat.cell _) (Zi flq) fun w a hM hE=>Zg (Yb (Zt (wp_region_lit (Zh hE rfl rfl rfl fun a hE=>Zd hE rfl fun a hE=>Zg (Zk ?_)))))
    have hM:=M.fst (l:=[_,_]) hM.pull3.pull1
    exact ⟨_,(ois hs17),hE.sub ⟨rfl,rfl,rfl,rfl,rfl,rfl,trivial⟩,hM⟩
  ·intro hb20
   have hs17:=Zx hs17 hb20
   refine wp_exit (Zn (Zn (Yd ?_)))
   obtain rfl:=hx18 _ (ois hs17)
   refine Zk ?_
   exact ⟨hE.sub ⟨rfl,rfl,trivial⟩,hM⟩
 ·skip
  rintro a w ⟨hE,hM⟩
  refine Zt (Zb (Zm hE rfl Ye rfl hM.rawAt0 (Flat.len _) ?_)); intro a hE
  have hM:=hM.pull1
  refine Zl (seg:=enc j13) (cs':=enc j13) hE hM Za rfl rfl rfl Ye (Flat.len _) (zle flq) (Flat.cell _) (Zi flq) fun w a hM hE=>Ze ?_
  obtain rfl:=Option.some.inj hF15
  have hq45 : Yw Tryz.prog _ _ (.cell 4 35) _:=ZI hE rfl Ye rfl hM.rawAt0 (Flat.len _) rfl
  exact wp_ret (ZJ hE rfl hq45 ⟨_,rfl,rfl,hM.kept⟩)
def XO (p0 : (Ref Gengine)) (p1 : GVault) (p2 : GEvent) : Option (GVault) :=
 (app 48 p1.Events ([p2] : List GEvent)).bind fun l9=>(Vh p0 (p1.Events ++ ([p2] : List GEvent))).bind fun r14=>some (⟨p1.Keys,p1.Next,p1.Records,(p1.Events ++ ([p2] : List GEvent)),r14⟩ : GVault)
theorem Hg (St : Nat → Prop) (W w0 : World) (its : List Item) (p0 : (Ref Gengine)) (v0_1 : Value) (hv0_1 : Rep.sat St W p0 [v0_1] []) (p1 : GVault) (v1_1 : Value) (v1_2 : Value) (v1_3 : Value) (p2 : GEvent) (hM : M St W w0 (osl NoB (p1.Keys : List (Vector UInt8 16)) v1_1 :: osl NoB (p1.Records : List GRecord) v1_2 :: osl NoB (p1.Events : List GEvent) v1_3 :: its)) (r : GVault) (hF : XO p0 p1 p2 = some r) :
  Calls Tryz.prog 90 [v0_1,(Value.agg (cat [[v1_1],[vI p1.Next],[v1_2],[v1_3],enc p1.Head]).toArray),(Value.agg (enc p2).toArray)].toArray w0 (fun en w'=>∃ v,en = .returned v ∧ (∃ (y1 : Value) (y2 : Value) (y3 : Value),v = (Value.agg (cat [[y1],[vI r.Next],[y2],[y3],enc r.Head]).toArray) ∧ M St W w' (osl NoB (r.Keys : List (Vector UInt8 16)) y1 :: osl NoB (r.Records : List GRecord) y2 :: osl NoB (r.Events : List GEvent) y3 :: its))):=by
 refine ce Tryz.func90 ?_
 intro a hE
 unfold XO at hF
 refine Zb (ZK (cs:=cat [[v1_1],[vI p1.Next],[v1_2],[v1_3],enc p1.Head]) hE hM Za ld rfl rfl fun b1 w a hM hE=>ZK (cs:=cat [[vI p2.Kind],[vI p2.Number],enc p2.Tag]) hE hM Za ld rfl rfl fun b3 w a hM hE=>Zz hE hM Yn fun b5 w a hM hE=>Ze (Zb (Zf hE rfl (Us) fun a hE=>Zy (v:=v1_3) hE rfl KJ rfl (At.cat (pre:=[[v1_1],[vI p1.Next],[v1_2]]) hM.rawAt2 ck) fun a hE=>Zm hE rfl Xp rfl hM.rawAt1 cq fun a hE=>ZW (xs:=[.tmp 9]) (l:=([p2] : List GEvent)) (vs:=[(Value.agg (enc p2).toArray)]) hE hM Za ld rfl rfl Tryz.underlying56 Xp rfl (by decide) rfl ?_))); intro u7 w a hM hE
 obtain ⟨l9,e10,hF⟩:=bind_some hF
 obtain ⟨e13,rfl⟩:=Z8 e10
 have hM:=hM.pull6
 refine ZY hE hM Za ld rfl rfl (hM.sl (pre:=[_]) noB) Tryz.underlying56 Xp rfl (by decide) e13 fun u11 w a hM hE=>Zf hE rfl (Us) ?_; intro a hE
 have hM:=hM.pull4
 refine Zl (seg:=[u11]) hE hM Za rfl rfl (Z6 (hM.sl (pre:=[_]) noB)) KJ rfl (YL (pre:=[[v1_1],[vI p1.Next],[v1_2]]) ck rfl) (Rep.cell (hM.sl (pre:=[_]) noB)) (ZR (pre:=[[v1_1],[vI p1.Next],[v1_2]]) ck rfl) fun w a hM hE=>Ze (Zb (Zd hE rfl fun a hE=>Zf hE rfl (Us) fun a hE=>Zy (v:=u11) hE rfl KJ rfl (At.cat (pre:=[[v1_1],[vI p1.Next],[v1_2]]) hM.rawAt0 ck) ?_)); intro a hE
 obtain ⟨r14,e15,hF⟩:=bind_some hF
 refine Zv hE rfl (cbm Tryz.func113) (HX _ p0 v0_1 (hM.rdo hv0_1) (p1.Events ++ ([p2] : List GEvent)) u11 (hM.sl (pre:=[_]) noB) r14 e15) ?_
 rintro v w a ⟨rfl,hK⟩ hE
 have hM:=hM.keep hK
 refine Zf hE rfl (HF) fun a hE=>Zl (seg:=enc r14) hE hM Za rfl rfl rfl Ye (Flat.len _) (YL (pre:=[[v1_1],[vI p1.Next],[v1_2],[u11]]) ck flq) (Flat.cell _) (ZR (pre:=[[v1_1],[vI p1.Next],[v1_2],[u11]]) ck flq) fun w a hM hE=>Ze (Zb (Zm hE rfl Yn rfl hM.rawAt0 cq ?_)); intro a hE
 have hM:=hM.pull3
 refine Zl (seg:=cat [[v1_1],[vI p1.Next],[v1_2],[u11],enc r14]) (cs':=cat [[v1_1],[vI p1.Next],[v1_2],[u11],enc r14]) hE hM Za rfl rfl rfl Yn cq (Nat.le_of_eq ((Nat.zero_add _).trans (Eq.trans cq (Eq.symm cq)))) (Z1 (cc1 (Rep.cell (hM.sl (pre:=[_,_,_,_,_]) noB)) (cc1 (Flat.cell (p1.Next : Int)) (cc1 (Rep.cell (hM.sl (pre:=[_,_,_,_,_,_]) noB)) (cc1 (Rep.cell (hM.sl (pre:=[_,_]) noB)) (cc1 (Flat.cell _) cc0)))))) (Zi (Eq.trans cq (Eq.symm cq))) fun w a hM hE=>Ze ?_
 obtain rfl:=Option.some.inj hF
 have hq16 : Yw Tryz.prog _ _ (.cell 6 58) _:=ZI hE rfl Yn rfl hM.rawAt0 cq rfl
 have hM:=((((hM.pull2.pull6.pull6.pull6).drop.pull5).drop.pull4).drop.pull3).drop
 exact wp_ret (ZJ hE rfl hq16 ⟨_,rfl,v1_1,v1_2,u11,rfl,hM⟩)
def VJ (p0 : GVault) (p1 : Int) (p2 : (Vector UInt8 16)) : Option (GVault × Int) :=
 (Vl p0 p1).bind fun r7=>if (r7.2 != 0) = true then (some ((⟨[],0,[],[],(Vector.replicate 32 (0 : UInt8))⟩ : GVault),r7.2)) else ((Vr).bind fun r15=>(Vm p0).bind fun r18=>(idx r18.Records r7.1).bind fun x31=>((YW r15 p0 x31).bind fun r45=>if (!decide (r45 = x31.Tag)) = true then (some true) else ((X3 p0 p2).bind fun r49=>some r49) : Option (Bool)).bind fun j41=>if j41 = true then (some ((⟨[],0,[],[],(Vector.replicate 32 (0 : UInt8))⟩ : GVault),5)) else (if ((p0.Events.length : Int) == 60) = true then (some ((⟨[],0,[],[],(Vector.replicate 32 (0 : UInt8))⟩ : GVault),3)) else ((YP r15 p0 x31 x31.Body).bind fun r62=>((Z5 p0.Keys).bind fun r69=>some (wr (r69 - 1),p2) : Option (Int × (Vector UInt8 16))).bind fun j65=>((Wp r15 p0 (⟨x31.Number,j65.1,j65.2,x31.Label,x31.Body,x31.Tag⟩ : GRecord) r62).bind fun r79=>(idx r18.Records r7.1).bind fun x94=>some (r18.Records.set (r7.1).toNat r79) : Option ((List GRecord))).bind fun j72=>((idx j72 r7.1).bind fun x108=>(XO r15 (⟨r18.Keys,r18.Next,j72,r18.Events,r18.Head⟩ : GVault) (⟨4,p1,x108.Tag⟩ : GEvent)).bind fun r116=>some (r116.Keys,r116.Next,r116.Records,r116.Events,r116.Head,0) : Option ((List (Vector UInt8 16)) × Int × (List GRecord) × (List GEvent) × (Vector UInt8 32) × Int)).bind fun j98=>some ((⟨j98.1,j98.2.1,j98.2.2.1,j98.2.2.2.1,j98.2.2.2.2.1⟩ : GVault),j98.2.2.2.2.2))))
theorem Jp (w0 : World) (p0 : GVault) (v0_1 : Value) (hv0_1 : Ro w0 p0.Keys [v0_1]) (v0_2 : Value) (hv0_2 : Ro w0 p0.Records [v0_2]) (v0_3 : Value) (hv0_3 : Ro w0 p0.Events [v0_3]) (p1 : Int) (p2 : (Vector UInt8 16)) (r : GVault × Int) (hF : VJ p0 p1 p2 = some r) :
  Calls Tryz.prog 34 [(Value.agg (cat [[v0_1],[vI p0.Next],[v0_2],[v0_3],enc p0.Head]).toArray),vI p1,(Value.agg (enc p2).toArray)].toArray w0 (fun en w'=>∃ v,en = .returned v ∧ (∃ (y1 : Value) (y2 : Value) (y3 : Value),v = (Value.tuple [(Value.agg (cat [[y1],[vI r.1.Next],[y2],[y3],enc r.1.Head]).toArray),vI r.2].toArray) ∧ Fr w0 w' [osl NoB (r.1.Keys : List (Vector UInt8 16)) y1,osl NoB (r.1.Records : List GRecord) y2,osl NoB (r.1.Events : List GEvent) y3] ∧ Kept (Old w0) w0 w')):=by
 refine ce Tryz.func34 ?_
 intro a hE
 have hM:=M.start w0
 unfold VJ at hF
 refine Zb (ZK (cs:=cat [[v0_1],[vI p0.Next],[v0_2],[v0_3],enc p0.Head]) hE hM Za ld rfl rfl fun b1 w a hM hE=>ZK (cs:=enc p2) hE hM Za ld rfl rfl fun b3 w a hM hE=>Zz hE hM Yn fun b5 w a hM hE=>Zc hE rfl fun a hE=>Ze (Zb (Zm hE rfl Yn rfl hM.rawAt2 cq fun a hE=>Zd hE rfl ?_))); intro a hE
 obtain ⟨r7,e8,hF⟩:=bind_some hF
 refine Zv hE rfl (cbm Tryz.func86) (HY _ p0 v0_1 (hM.rdo hv0_1) v0_2 (hM.rdo hv0_2) v0_3 (hM.rdo hv0_3) p1 r7 e8) ?_
 rintro v w a ⟨rfl,hK⟩ hE
 have hM:=hM.keep hK
 refine Zd hE rfl fun a hE=>WG hE Za ld rfl rfl fun a hE=>WG hE Za ld rfl rfl fun a hE=>Zc hE rfl fun a hE=>Zc hE rfl fun a hE=>Ze (wp_seq (Zb (Zd hE rfl fun a hE=>Zh hE rfl rfl rfl fun a hE=>Ze ?_)))
 refine Zo hE rfl ?_ ?_
 ·intro hb9
  have hF:=Zw hF hb9
  refine Zb (XG (parts:=[]) (vs:=[]) (cs:=cat [[(Value.slice none 0 0)],[vI 0],[(Value.slice none 0 0)],[(Value.slice none 0 0)],enc (Vector.replicate 32 (0 : UInt8))]) hE Za ld rfl rfl Yn kh V3 fun a hE=>Zd hE rfl fun a hE=>Zl (seg:=cat [[(Value.slice none 0 0)],[vI 0],[(Value.slice none 0 0)],[(Value.slice none 0 0)],enc (Vector.replicate 32 (0 : UInt8))]) (cs':=cat [[(Value.slice none 0 0)],[vI 0],[(Value.slice none 0 0)],[(Value.slice none 0 0)],enc (Vector.replicate 32 (0 : UInt8))]) hE hM Za rfl rfl rfl Yn cq (Nat.le_of_eq ((Nat.zero_add _).trans (Eq.trans cq (Eq.symm cq)))) (Z1 (cc1 Wb (cc1 (Flat.cell (0 : Int)) (cc1 Wb (cc1 Wb (cc1 (Flat.cell _) cc0)))))) (Zi (Eq.trans cq (Eq.symm cq))) fun w a hM hE=>Zc hE rfl fun a hE=>Ze ?_)
  have hM:=M.nilS (α:=GEvent) NoB noB (M.nilS (α:=GRecord) NoB noB (M.nilS (α:=(Vector UInt8 16)) NoB noB hM))
  obtain rfl:=Option.some.inj hF
  have hq13 : Yw Tryz.prog _ _ (.cell 6 58) _:=ZI hE rfl Yn rfl hM.rawAt3 cq rfl
  have hM:=M.fst (l:=[_,_,_]) hM.pull1.pull2
  exact wp_ret (Zs (Th hE rfl hq13 (ZP hE rfl) ⟨_,rfl,(Value.slice none 0 0),(Value.slice none 0 0),(Value.slice none 0 0),rfl,hM.outF (Yi (Yi (Yi YO))),hM.kept⟩))
 ·intro hb9
  have hF:=Zx hF hb9
  refine wp_skip (Zt (wp_seq ?_))
  obtain ⟨r15,e16,hF⟩:=bind_some hF
  obtain ⟨r18,e19,hF⟩:=bind_some hF
  refine YC (its:=[raw b5 (cat [[(Value.slice none 0 0)],[vI 0],[(Value.slice none 0 0)],[(Value.slice none 0 0)],enc (Vector.replicate 32 (0 : UInt8))]),raw b3 (enc p2),raw b1 (cat [[v0_1],[vI p0.Next],[v0_2],[v0_3],enc p0.Head])]) (mk:=([mkO 0 (fun v=>own NoB (r15 : (Ref Gengine)) [v]),mkO 2 (fun v=>own NoB r18 (Value.cells v).toList),mkO 3 (fun v=>Wy v (cat [[(Value.slice none 0 0)],[vI 0],[(Value.slice none 0 0)],[(Value.slice none 0 0)],enc (Vector.replicate 32 (0 : UInt8))]))] : Mk)) [24,25,26,11] YF rfl rfl (by decide) rfl hE (fun u=>M.qE (M.qE (M.qE (M.q0 hM.drew u) emO) emO) emO) (qsM (pr:=fun v=>True) ?_ (qsP (v:=(Value.agg (cat [[v0_1],[vI p0.Next],[v0_2],[v0_3],enc p0.Head]).toArray)) ?_ (qsM (pr:=fun v=>∃ cs,v = .agg cs) ?_ (qsM (pr:=fun v=>True) ?_ qs0)))) ?_
  ·intro a w ux14 D z
   have hE:=z.E
   have hD : D 0 = false:=z.F
   have hM0:=z.M
   have hM:=z.M
   refine Zv hE rfl (cbm Tryz.func89) (HR _  r15 e16) ?_
   rintro _ w a ⟨_,rfl,hFr,hK⟩ hE
   have hM:=hM0.add hK hFr
   exact ⟨_,_,rfl,hE,M.qFill (mk1:=[]) (mk2:=[_,_]) (f:=(fun v=>own NoB (r15 : (Ref Gengine)) [v])) hM rfl hD,trivial⟩
  ·intro a w ux14 D z
   have hE:=z.E
   have hM:=z.M
   exact Zm hE rfl Yn rfl hM.rawAt2 cq fun a hE=>⟨Kept.refl _ _,_,rfl,hE⟩
  ·intro a w ux14 D z
   have hE:=z.E
   have hD : D 2 = false:=z.F
   have hM0:=z.M
   have hM:=z.M
   refine Zv hE rfl (cbm Tryz.func87) (HS _ p0 v0_1 (hM.rdo hv0_1) v0_2 (hM.rdo hv0_2) v0_3 (hM.rdo hv0_3) r18 e19) ?_
   rintro _ w a ⟨u20,u21,u22,rfl,hFr,hK⟩ hE
   have hM:=Qs (x:=r18) (hM0.add hK hFr) sio sio sio
   exact ⟨_,_,rfl,hE,M.qFill (mk1:=[_]) (mk2:=[_]) (f:=(fun v=>own NoB r18 (Value.cells v).toList)) hM rfl hD,⟨_,rfl⟩⟩
  ·intro a w ux14 D z
   have hE:=z.E
   have hD : D 3 = false:=z.F
   have hM:=z.M
   refine Zz hE hM Yn ?_; intro b24 w a hM hE
   have hM:=hM.pack1 (it:=Wy _ (cat [[(Value.slice none 0 0)],[vI 0],[(Value.slice none 0 0)],[(Value.slice none 0 0)],enc (Vector.replicate 32 (0 : UInt8))])) (fun w w' fp ⟨b',e,k⟩ hb=>⟨b',e,YD w w' fp k hb⟩) (fun fp k=>⟨_,rfl,k⟩)
   exact ⟨_,_,rfl,hE,M.qFill (mk1:=[_,_]) (mk2:=[]) (f:=fun v=>Wy v (cat [[(Value.slice none 0 0)],[vI 0],[(Value.slice none 0 0)],[(Value.slice none 0 0)],enc (Vector.replicate 32 (0 : UInt8))])) hM rfl hD,trivial⟩
  ·intro a w ux14 D hE hM hG hall
   have d0:=hall 0 (by decide)
   have d2:=hall 2 (by decide)
   have d3:=hall 3 (by decide)
   have hM:=(((hM.sure (pre:=[_,_,_]) d0).sure (pre:=[_,_,_,_]) d2).sure (pre:=[_,_,_,_,_]) d3).pull
   obtain ⟨_,⟨b26,f27,_⟩,_⟩:=hM.head
   have hM:=hM.pack1 YD (it:=raw b26 (cat [[(Value.slice none 0 0)],[vI 0],[(Value.slice none 0 0)],[(Value.slice none 0 0)],enc (Vector.replicate 32 (0 : UInt8))])) (fun fp ⟨b2,e2,k2⟩=>by rw [f27] at e2; simp [ptr] at e2; subst e2; exact k2)
   obtain ⟨q14_2_0_1,q14_2_0_2,q14_2_0_3,hcz,_,_,_⟩:=WB (hM.ro (pre:=[_,_,_,_,_]) noB)
   have qK23 : (ux14 2) = (Value.agg (cat [[q14_2_0_1],[vI r18.Next],[q14_2_0_2],[q14_2_0_3],enc r18.Head]).toArray):=H1 hcz (hG 2 d2 _ rfl).2
   have hM:=hM.pull5
   have hM:=Qx (hM.recown (congrArg (fun v=>(Value.cells v).toList) qK23))
   have hE:=hE.setq (t:=26) rfl qK23
   have hE:=hE.setq (t:=11) rfl f27
   refine Zc hE rfl ?_; intro a hE
   have hM:=hM.pull3
   refine Zl (seg:=cat [[q14_2_0_1],[vI r18.Next],[q14_2_0_2],[q14_2_0_3],enc r18.Head]) (cs':=cat [[q14_2_0_1],[vI r18.Next],[q14_2_0_2],[q14_2_0_3],enc r18.Head]) hE hM Za rfl rfl rfl Yn cq (Nat.le_of_eq ((Nat.zero_add _).trans (Eq.trans cq (Eq.symm cq)))) (Z1 (cc1 (Rep.cell (hM.ro (pre:=[_]) noB)) (cc1 (Flat.cell (r18.Next : Int)) (cc1 (Rep.cell (hM.ro (pre:=[_,_]) noB)) (cc1 (Rep.cell (hM.ro (pre:=[_,_,_]) noB)) (cc1 (Flat.cell _) cc0)))))) (Zi (Eq.trans cq (Eq.symm cq))) fun w a hM hE=>Zg (Zt (Zb (Zf hE rfl (Y2) fun a hE=>Zy (v:=q14_2_0_2) hE rfl Tr rfl (At.cat (pre:=[[q14_2_0_1],[vI r18.Next]]) hM.rawAt0 ck) fun a hE=>Zd hE rfl ?_))); intro a hE
   obtain ⟨x31,hi33,hF⟩:=bix hF
   refine ZL hE rfl rfl Tryz.underlying55 ZV (hM.ro (pre:=[_,_]) noB) hi33.1 ?_; intro a hE
   have hM:=hM.pull2.toOsl0
   obtain ⟨cs34,hM,_⟩:=hM.open1 noB hi33.2
   obtain ⟨_,hx,_⟩:=hM.head
   obtain ⟨u35,u36,_,_,rfl,_,_,_⟩:=VV hx
   have hM:=HI hM
   refine Zm hE rfl ZV rfl (hM.holeAt (pre:=[_,_])) cq fun a hE=>Zz hE hM ZV fun b39 w a hM hE=>Zl (seg:=cat [[vI x31.Number],[vI x31.Version],enc x31.Nonce,[u35],[u36],enc x31.Tag]) (cs':=cat [[vI x31.Number],[vI x31.Version],enc x31.Nonce,[u35],[u36],enc x31.Tag]) hE hM Za rfl rfl rfl ZV cq (Nat.le_of_eq ((Nat.zero_add _).trans (Eq.trans cq (Eq.symm cq)))) (Z1 (cc1 (Flat.cell (x31.Number : Int)) (cc1 (Flat.cell (x31.Version : Int)) (cc1 (Flat.cell _) (cc1 (Rep.cell (hM.ro (pre:=[_]) noB)) (cc1 (Rep.cell (hM.ro (pre:=[_,_]) noB)) (cc1 (Flat.cell _) cc0))))))) (Zi (Eq.trans cq (Eq.symm cq))) fun w a hM hE=>Ze (wp_seq (wp_block ?_))
   obtain ⟨j41,hl42,hF43⟩:=bind_some hF
   refine ZO (fun a w=>Env 85 a [(1,vI p1),(3,(ptr b1 0)),(5,(ptr b3 0)),(6,(ptr b5 0)),(8,vI r7.1),(10,(ux14 0)),(11,(ptr b26 0)),(12,(ptr b39 0)),(32,vT j41)] ∧ M (Old w0) w0 w [raw b39 (cat [[vI x31.Number],[vI x31.Version],enc x31.Nonce,[u35],[u36],enc x31.Tag]),own NoB (x31.Label : (List UInt8)) [u35],own NoB (x31.Body : (List UInt8)) [u36],Jq NoB (r18.Records : List GRecord) (r7.1).toNat q14_2_0_2 (cat [[vI x31.Number],[vI x31.Version],enc x31.Nonce,[u35],[u36],enc x31.Tag]),raw b26 (cat [[q14_2_0_1],[vI r18.Next],[q14_2_0_2],[q14_2_0_3],enc r18.Head]),own NoB (r18.Keys : (List (Vector UInt8 16))) [q14_2_0_1],own NoB (r18.Events : (List GEvent)) [q14_2_0_3],raw b5 (cat [[(Value.slice none 0 0)],[vI 0],[(Value.slice none 0 0)],[(Value.slice none 0 0)],enc (Vector.replicate 32 (0 : UInt8))]),raw b3 (enc p2),raw b1 (cat [[v0_1],[vI p0.Next],[v0_2],[v0_3],enc p0.Head]),own NoB (r15 : (Ref Gengine)) [(ux14 0)]]) ?_ ?_
   ·skip
    obtain ⟨r45,e46,hl42⟩:=bind_some hl42
    refine X1 (!decide (r45 = x31.Tag)) (fun hb47=>?_) (fun hb47=>?_)
    ·have hl42:=Zw hl42 hb47
     refine Z9 [33,34,35,36,37,38,39,40,41,42,43,44,32] YF rfl rfl (by decide) rfl hE hM (qsP (fun z=>Zu z.E Za ld rfl (kr0 rfl)) (qsP (fun z=>ZX z.E Za ld rfl Yn rfl (z.M.rawAt9) cq (kr0 rfl)) (qsP (fun z=>ZX z.E Za ld rfl ZV rfl (z.M.rawAt0) cq (kr0 rfl)) (qsP (fun z=>Z0 z.E Za ld rfl Zbw (T2 _ r15 (ux14 0) (z.M.ro (pre:=[_,_,_,_,_,_,_,_,_,_]) noB) p0 v0_1 (z.M.rdo hv0_1) v0_2 (z.M.rdo hv0_2) v0_3 (z.M.rdo hv0_3) x31 u35 (z.M.ro (pre:=[_]) noB) u36 (z.M.ro (pre:=[_,_]) noB) r45 e46) (kc rfl)) (qsP (fun z=>Zj z.E Za ld rfl (Qg) (kr0 rfl)) (qsP (fun z=>ZX z.E Za ld rfl Ye rfl (At.cat (pre:=[[vI x31.Number],[vI x31.Version],enc x31.Nonce,[u35],[u36]]) (z.M.rawAt0) ck) (Flat.len _) (kr0 rfl)) (qsP (fun z=>Zcr z.E Za ld rfl rfl (J2 Tryz.underlying35 ty5 rfl false rfl (by decide) (KW Tryz.underlying5)) (by decide) (by kernel_rfl) (kr0 rfl)) (qsP (fun z=>Zu z.E Za ld rfl (kr0 rfl)) (qsP (fun z=>Zr z.E rfl (lkb rfl hb47) rfl (by decide) (kr0 rfl)) (qsP (fun z=>Zr z.E rfl (lkb rfl hb47) rfl (by decide) (kr0 rfl)) (qsP (fun z=>Zr z.E rfl (lkb rfl hb47) rfl (by decide) (kr0 rfl)) (qsP (fun z=>Kh z.E Za ld (lkb rfl hb47) rfl (kr0 rfl)) (qsP (fun z=>KX z.E Za ld rfl (kr0 rfl)) qs0))))))))))))) ?_
     ·intro a w u hE hM
      refine Zg ?_
      obtain rfl:=Option.some.inj hl42
      refine Zk ?_
      exact ⟨hE.sub ⟨rfl,rfl,rfl,rfl,rfl,rfl,rfl,rfl,rfl,trivial⟩,hM⟩
    ·have hl42:=Zx hl42 hb47
     obtain ⟨r49,e50,hl42⟩:=bind_some hl42
     refine Z9 [33,34,35,36,37,38,39,40,41,42,43,44,32] YF rfl rfl (by decide) rfl hE hM (qsP (fun z=>Zu z.E Za ld rfl (kr0 rfl)) (qsP (fun z=>ZX z.E Za ld rfl Yn rfl (z.M.rawAt9) cq (kr0 rfl)) (qsP (fun z=>ZX z.E Za ld rfl ZV rfl (z.M.rawAt0) cq (kr0 rfl)) (qsP (fun z=>Z0 z.E Za ld rfl Zbw (T2 _ r15 (ux14 0) (z.M.ro (pre:=[_,_,_,_,_,_,_,_,_,_]) noB) p0 v0_1 (z.M.rdo hv0_1) v0_2 (z.M.rdo hv0_2) v0_3 (z.M.rdo hv0_3) x31 u35 (z.M.ro (pre:=[_]) noB) u36 (z.M.ro (pre:=[_,_]) noB) r45 e46) (kc rfl)) (qsP (fun z=>Zj z.E Za ld rfl (Qg) (kr0 rfl)) (qsP (fun z=>ZX z.E Za ld rfl Ye rfl (At.cat (pre:=[[vI x31.Number],[vI x31.Version],enc x31.Nonce,[u35],[u36]]) (z.M.rawAt0) ck) (Flat.len _) (kr0 rfl)) (qsP (fun z=>Zcr z.E Za ld rfl rfl (J2 Tryz.underlying35 ty5 rfl false rfl (by decide) (KW Tryz.underlying5)) (by decide) (by kernel_rfl) (kr0 rfl)) (qsP (fun z=>Zu z.E Za ld rfl (kr0 rfl)) (qsP (fun z=>ZX z.E (Zq z.E rfl (lkb rfl hb47)) (by decide) rfl Yn rfl (z.M.rawAt9) cq (kr0 rfl)) (qsP (fun z=>ZX z.E (Zq z.E rfl (lkb rfl hb47)) (by decide) rfl ZC rfl (z.M.rawAt8) (Flat.len _) (kr0 rfl)) (qsP (fun z=>Z0 z.E (Zq z.E rfl (lkb rfl hb47)) (by decide) rfl (cbm Tryz.func104) (Jr _ p0 v0_1 (z.M.rdo hv0_1) v0_2 (z.M.rdo hv0_2) v0_3 (z.M.rdo hv0_3) p2 r49 e50) (kc rfl)) (qsP (fun z=>QY z.E Za ld (lkb rfl hb47) rfl (kr0 rfl)) (qsP (fun z=>KX z.E Za ld rfl (kr0 rfl)) qs0))))))))))))) ?_
     ·intro a w u hE hM
      refine Zg ?_
      obtain rfl:=Option.some.inj hl42
      refine Zk ?_
      exact ⟨hE.sub ⟨rfl,rfl,rfl,rfl,rfl,rfl,rfl,rfl,rfl,trivial⟩,hM⟩
   ·skip
    rintro a w ⟨hE,hM⟩
    refine Zo hE rfl ?_ ?_
    ·intro hb52
     have hF43:=Zw hF43 hb52
     refine Zb (XG (parts:=[]) (vs:=[]) (cs:=cat [[(Value.slice none 0 0)],[vI 0],[(Value.slice none 0 0)],[(Value.slice none 0 0)],enc (Vector.replicate 32 (0 : UInt8))]) hE Za ld rfl rfl Yn kh V3 ?_); intro a hE
     have hM:=hM.pull7
     refine Zl (seg:=cat [[(Value.slice none 0 0)],[vI 0],[(Value.slice none 0 0)],[(Value.slice none 0 0)],enc (Vector.replicate 32 (0 : UInt8))]) (cs':=cat [[(Value.slice none 0 0)],[vI 0],[(Value.slice none 0 0)],[(Value.slice none 0 0)],enc (Vector.replicate 32 (0 : UInt8))]) hE hM Za rfl rfl rfl Yn cq (Nat.le_of_eq ((Nat.zero_add _).trans (Eq.trans cq (Eq.symm cq)))) (Z1 (cc1 Wb (cc1 (Flat.cell (0 : Int)) (cc1 Wb (cc1 Wb (cc1 (Flat.cell _) cc0)))))) (Zi (Eq.trans cq (Eq.symm cq))) fun w a hM hE=>Zc hE rfl fun a hE=>Ze ?_
     have hM:=M.nilS (α:=GEvent) NoB noB (M.nilS (α:=GRecord) NoB noB (M.nilS (α:=(Vector UInt8 16)) NoB noB ((Kq (x:=x31) hM.pull10.pull10.pull10.pull10.pull10.pull10.pull7.pull7.pull10.pull10.pull10 siw siw).close0 noB hi33.2)))
     obtain rfl:=Option.some.inj hF43
     have hq56 : Yw Tryz.prog _ _ (.cell 6 58) _:=ZI hE rfl Yn rfl hM.rawAt4 cq rfl
     have hM:=M.fst (l:=[_,_,_]) hM.pull1.pull2
     exact wp_ret (Yr (Zs (Th hE rfl hq56 (ZP hE rfl) ⟨_,rfl,(Value.slice none 0 0),(Value.slice none 0 0),(Value.slice none 0 0),rfl,hM.outF (Yi (Yi (Yi YO))),hM.kept⟩)))
    ·intro hb52
     have hF43:=Zx hF43 hb52
     refine Zb (Zf hE rfl (Us) fun a hE=>Zy (v:=v0_3) hE rfl KJ rfl (At.cat (pre:=[[v0_1],[vI p0.Next],[v0_2]]) hM.rawAt9 ck) fun a hE=>Yf hE rfl Tryz.underlying56 (hM.rd hv0_3) fun a hE=>Zh hE rfl rfl rfl fun a hE=>Zc hE rfl fun a hE=>Ze ?_)
     refine Zo hE rfl ?_ ?_
     ·intro hb57
      have hF43:=Zw hF43 hb57
      refine Zb (XG (parts:=[]) (vs:=[]) (cs:=cat [[(Value.slice none 0 0)],[vI 0],[(Value.slice none 0 0)],[(Value.slice none 0 0)],enc (Vector.replicate 32 (0 : UInt8))]) hE Za ld rfl rfl Yn kh V3 ?_); intro a hE
      have hM:=hM.pull7
      refine Zl (seg:=cat [[(Value.slice none 0 0)],[vI 0],[(Value.slice none 0 0)],[(Value.slice none 0 0)],enc (Vector.replicate 32 (0 : UInt8))]) (cs':=cat [[(Value.slice none 0 0)],[vI 0],[(Value.slice none 0 0)],[(Value.slice none 0 0)],enc (Vector.replicate 32 (0 : UInt8))]) hE hM Za rfl rfl rfl Yn cq (Nat.le_of_eq ((Nat.zero_add _).trans (Eq.trans cq (Eq.symm cq)))) (Z1 (cc1 Wb (cc1 (Flat.cell (0 : Int)) (cc1 Wb (cc1 Wb (cc1 (Flat.cell _) cc0)))))) (Zi (Eq.trans cq (Eq.symm cq))) fun w a hM hE=>Zc hE rfl fun a hE=>Ze ?_
      have hM:=M.nilS (α:=GEvent) NoB noB (M.nilS (α:=GRecord) NoB noB (M.nilS (α:=(Vector UInt8 16)) NoB noB ((Kq (x:=x31) hM.pull10.pull10.pull10.pull10.pull10.pull10.pull7.pull7.pull10.pull10.pull10 siw siw).close0 noB hi33.2)))
      obtain rfl:=Option.some.inj hF43
      have hq61 : Yw Tryz.prog _ _ (.cell 6 58) _:=ZI hE rfl Yn rfl hM.rawAt4 cq rfl
      have hM:=M.fst (l:=[_,_,_]) hM.pull1.pull2
      exact wp_ret (Yr (Zs (Th hE rfl hq61 (ZP hE rfl) ⟨_,rfl,(Value.slice none 0 0),(Value.slice none 0 0),(Value.slice none 0 0),rfl,hM.outF (Yi (Yi (Yi YO))),hM.kept⟩)))
     ·intro hb57
      have hF43:=Zx hF43 hb57
      refine wp_skip (Yb (Zt (Zb (Zd hE rfl fun a hE=>Zm hE rfl Yn rfl hM.rawAt9 cq fun a hE=>Zm hE rfl ZV rfl hM.rawAt0 cq fun a hE=>Zf hE rfl (V1) fun a hE=>Zy (v:=u36) hE rfl Wh rfl (At.cat (pre:=[[vI x31.Number],[vI x31.Version],enc x31.Nonce,[u35]]) hM.rawAt0 ck) ?_)))); intro a hE
      obtain ⟨r62,e63,hF43⟩:=bind_some hF43
      refine Zv hE rfl (cbm Tryz.func109) (QH _ r15 (ux14 0) (hM.ro (pre:=[_,_,_,_,_,_,_,_,_,_]) noB) p0 v0_1 (hM.rdo hv0_1) v0_2 (hM.rdo hv0_2) v0_3 (hM.rdo hv0_3) x31 u35 (hM.ro (pre:=[_]) noB) u36 (hM.ro (pre:=[_,_]) noB) x31.Body u36 (hM.ro (pre:=[_,_]) noB) r62 e63) ?_
      rintro u64 w a ⟨_,rfl,hFr,hK⟩ hE
      have hM:=hM.add hK hFr
      refine Zc hE rfl fun a hE=>Ze ?_
      obtain ⟨j65,hl66,hF67⟩:=bind_some hF43
      refine ZO (fun a w=>Env 85 a [(1,vI p1),(3,(ptr b1 0)),(6,(ptr b5 0)),(8,vI r7.1),(10,(ux14 0)),(11,(ptr b26 0)),(12,(ptr b39 0)),(13,u64)] ∧ M (Old w0) w0 w [osl NoB (r62 : List UInt8) u64,raw b39 (cat [[vI x31.Number],[vI j65.1],enc j65.2,[u35],[u36],enc x31.Tag]),own NoB (x31.Label : (List UInt8)) [u35],own NoB (x31.Body : (List UInt8)) [u36],Jq NoB (r18.Records : List GRecord) (r7.1).toNat q14_2_0_2 (cat [[vI x31.Number],[vI x31.Version],enc x31.Nonce,[u35],[u36],enc x31.Tag]),raw b26 (cat [[q14_2_0_1],[vI r18.Next],[q14_2_0_2],[q14_2_0_3],enc r18.Head]),own NoB (r18.Keys : (List (Vector UInt8 16))) [q14_2_0_1],own NoB (r18.Events : (List GEvent)) [q14_2_0_3],raw b5 (cat [[(Value.slice none 0 0)],[vI 0],[(Value.slice none 0 0)],[(Value.slice none 0 0)],enc (Vector.replicate 32 (0 : UInt8))]),raw b1 (cat [[v0_1],[vI p0.Next],[v0_2],[v0_3],enc p0.Head]),own NoB (r15 : (Ref Gengine)) [(ux14 0)]]) ?_ ?_
      ·skip
       have hM:=hM.pull1
       obtain ⟨r69,e70,hl66⟩:=bind_some hl66
       refine YC (its:=[osl NoB (r62 : List UInt8) u64,own NoB (x31.Label : (List UInt8)) [u35],own NoB (x31.Body : (List UInt8)) [u36],Jq NoB (r18.Records : List GRecord) (r7.1).toNat q14_2_0_2 (cat [[vI x31.Number],[vI x31.Version],enc x31.Nonce,[u35],[u36],enc x31.Tag]),raw b26 (cat [[q14_2_0_1],[vI r18.Next],[q14_2_0_2],[q14_2_0_3],enc r18.Head]),own NoB (r18.Keys : (List (Vector UInt8 16))) [q14_2_0_1],own NoB (r18.Events : (List GEvent)) [q14_2_0_3],raw b5 (cat [[(Value.slice none 0 0)],[vI 0],[(Value.slice none 0 0)],[(Value.slice none 0 0)],enc (Vector.replicate 32 (0 : UInt8))]),raw b3 (enc p2),raw b1 (cat [[v0_1],[vI p0.Next],[v0_2],[v0_3],enc p0.Head]),own NoB (r15 : (Ref Gengine)) [(ux14 0)]]) (mk:=([mkT 6 (raw b39 (cat [[vI x31.Number],[vI x31.Version],enc x31.Nonce,[u35],[u36],enc x31.Tag])) (raw b39 (cat [[vI x31.Number],[(vI (wr (r69 - 1)))],enc x31.Nonce,[u35],[u36],enc x31.Tag]))] : Mk)) [58,59,60,61,62,63,91] YF rfl rfl (by decide) rfl hE (fun u=>M.qT (M.q0 hM.drew u)) (qsP (fun z=>Zj z.E Za ld rfl (WZ) (kr0 rfl)) (qsP (v:=v0_1) ?_ (qsP (v:=(vI r69)) ?_ (qsP (v:=(vI (wr (r69 - 1)))) (fun z=>Yt z.E Za ld rfl rfl rfl (kr0 rfl)) (qsP (v:=(Value.agg (enc p2).toArray)) ?_ (qsP (fun z=>Zj z.E Za ld rfl (WE) (kr0 rfl)) (qsM (pr:=fun v=>True) ?_ qs0))))))) ?_
       ·intro a w ux68 D z
        have hE:=z.E
        have hD : D 1 = false:=z.F
        have hM:=z.M.togA (pre:=[_,_,_,_,_,_,_,_,_,_,_]) (Q9 (j:=6) (k:=4) z.c rfl rfl rfl hD)
        exact Zy (v:=v0_1) hE rfl Q7 rfl (At.cat (pre:=[]) hM.rawAt9 cl0) fun a hE=>⟨Kept.refl _ _,_,rfl,hE⟩
       ·intro a w ux68 D z
        have hE:=z.E
        have hD : D 2 = false:=z.F
        have hM:=z.M.togA (pre:=[_,_,_,_,_,_,_,_,_,_,_]) (Q9 (j:=6) (k:=2) z.c rfl rfl rfl hD)
        refine Zv hE rfl yb (YG _ p0.Keys v0_1 (hM.rdo hv0_1) r69 e70) ?_
        rintro v w a ⟨rfl,hK⟩ hE
        exact ⟨hK,_,rfl,hE⟩
       ·intro a w ux68 D z
        have hE:=z.E
        have hM:=z.M
        exact Zm hE rfl ZC rfl hM.rawAt8 (Flat.len _) fun a hE=>⟨Kept.refl _ _,_,rfl,hE⟩
       ·intro a w ux68 D z
        have hE:=z.E
        have hD : D 6 = false:=z.F
        have hM:=(z.M.togA (pre:=[_,_,_,_,_,_,_,_,_,_,_]) hD).pull11
        exact Zl (seg:=[(vI (wr (r69 - 1)))]) hE hM Za rfl rfl rfl ty2 rfl (YL (pre:=[[vI x31.Number]]) ck rfl) (Flat.cell (wr (r69 - 1) : Int)) (ZR (pre:=[[vI x31.Number]]) ck rfl) fun w a hM hE=>⟨undef,_,rfl,Env.dummy hE (by decide),M.qTog (mk1:=[]) (mk2:=[]) hM rfl,trivial⟩
       ·intro a w ux68 D hE hM hG hall
        have d6:=hall 6 (by decide)
        have hM:=hM.togB (pre:=[_,_,_,_,_,_,_,_,_,_,_]) d6
        refine Zf hE rfl (Qf) ?_; intro a hE
        have hM:=hM.pull11
        refine Zl (seg:=enc p2) hE hM Za rfl rfl rfl ZC (Flat.len _) (YL (pre:=[[vI x31.Number],[(vI (wr (r69 - 1)))]]) ck flq) (Flat.cell _) (ZR (pre:=[[vI x31.Number],[(vI (wr (r69 - 1)))]]) ck flq) fun w a hM hE=>Zg ?_
        obtain rfl:=Option.some.inj hl66
        refine Zk ?_
        have hM:=M.fst (l:=[_,_,_,_,_,_,_,_,_,_,_]) hM.pull11.pull11.pull10.pull10.pull10.pull10.pull10.pull10.pull10.pull9.pull10
        exact ⟨hE.sub ⟨rfl,rfl,rfl,rfl,rfl,rfl,rfl,rfl,trivial⟩,hM⟩
      ·skip
       rintro a w ⟨hE,hM⟩
       obtain ⟨j72,hl73,hF74⟩:=bind_some hF67
       refine ZO (fun a w=>∃ (u75 : Value),Env 85 a [(1,vI p1),(6,(ptr b5 0)),(8,vI r7.1),(10,(ux14 0)),(11,(ptr b26 0))] ∧ M (Old w0) w0 w [raw b26 (cat [[q14_2_0_1],[vI r18.Next],[u75],[q14_2_0_3],enc r18.Head]),own NoB (r18.Keys : (List (Vector UInt8 16))) [q14_2_0_1],own NoB (r18.Events : (List GEvent)) [q14_2_0_3],raw b5 (cat [[(Value.slice none 0 0)],[vI 0],[(Value.slice none 0 0)],[(Value.slice none 0 0)],enc (Vector.replicate 32 (0 : UInt8))]),own NoB (r15 : (Ref Gengine)) [(ux14 0)],osl NoB (j72 : List GRecord) u75]) ?_ ?_
       ·skip
        have hM:=hM.pull3.pull3
        have hM:=hM.packL (m:=[_,_]) (it:=allI NoB [_,_]) (Zb2.mono noB) (fun fp h=>Xt.reloc h (JX (JX YO)))
        obtain ⟨r79,e80,hl73⟩:=bind_some hl73
        refine YC (its:=[osl NoB (r62 : List UInt8) u64,raw b39 (cat [[vI x31.Number],[vI j65.1],enc j65.2,[u35],[u36],enc x31.Tag]),Jq NoB (r18.Records : List GRecord) (r7.1).toNat q14_2_0_2 (cat [[vI x31.Number],[vI x31.Version],enc x31.Nonce,[u35],[u36],enc x31.Tag]),raw b26 (cat [[q14_2_0_1],[vI r18.Next],[q14_2_0_2],[q14_2_0_3],enc r18.Head]),own NoB (r18.Keys : (List (Vector UInt8 16))) [q14_2_0_1],own NoB (r18.Events : (List GEvent)) [q14_2_0_3],raw b5 (cat [[(Value.slice none 0 0)],[vI 0],[(Value.slice none 0 0)],[(Value.slice none 0 0)],enc (Vector.replicate 32 (0 : UInt8))]),raw b1 (cat [[v0_1],[vI p0.Next],[v0_2],[v0_3],enc p0.Head]),own NoB (r15 : (Ref Gengine)) [(ux14 0)]]) (mk:=([mkU 7 (allI NoB [own NoB (x31.Label : (List UInt8)) [u35],own NoB (x31.Body : (List UInt8)) [u36]]) (fun v=>own NoB r79 (Value.cells v).toList)] : Mk)) [65,66,67,68,69,70,71,72] YF rfl rfl (by decide) rfl hE (fun u=>M.qS (M.q0 hM.drew u) fun _=>rfl) (qsP (fun z=>Zj z.E Za ld rfl (Y2) (kr0 rfl)) (qsP (v:=q14_2_0_2) ?_ (qsP (fun z=>Zu z.E Za ld rfl (kr0 rfl)) (qsP (fun z=>Zu z.E Za ld rfl (kr0 rfl)) (qsP (v:=(Value.agg (cat [[v0_1],[vI p0.Next],[v0_2],[v0_3],enc p0.Head]).toArray)) ?_ (qsP (v:=(Value.agg (cat [[vI x31.Number],[vI j65.1],enc j65.2,[u35],[u36],enc x31.Tag]).toArray)) ?_ (qsP (fun z=>Zu z.E Za ld rfl (kr0 rfl)) (qsM (pr:=fun v=>∃ cs,v = .agg cs) ?_ qs0)))))))) ?_
        ·intro a w ux77 D z
         have hE:=z.E
         have hM:=z.M
         exact Zy (v:=q14_2_0_2) hE rfl Tr rfl (At.cat (pre:=[[q14_2_0_1],[vI r18.Next]]) hM.rawAt3 ck) fun a hE=>⟨Kept.refl _ _,_,rfl,hE⟩
        ·intro a w ux77 D z
         have hE:=z.E
         have hM:=z.M
         exact Zm hE rfl Yn rfl hM.rawAt7 cq fun a hE=>⟨Kept.refl _ _,_,rfl,hE⟩
        ·intro a w ux77 D z
         have hE:=z.E
         have hM:=z.M
         exact Zm hE rfl ZV rfl hM.rawAt1 cq fun a hE=>⟨Kept.refl _ _,_,rfl,hE⟩
        ·intro a w ux77 D z
         have hE:=z.E
         have hD : D 7 = false:=z.F
         have hM0:=z.M
         have hM:=(z.M.togA (pre:=[_,_,_,_,_,_,_,_,_]) hD).pull
         have hM:=hM.unpackL (m:=[_,_]) (fun fp h=>Xt.mono h (fun _ h=>h.elim))
         simp only [List.cons_append,List.nil_append] at hM
         have hM:=((((hM.pull2.toOwn noB).pull2).pull2).pull2).pull10
         have hM0:=hM
         obtain ⟨S81,hs82,hx83,hM,hbk84⟩:=M.freeze [_,_,_] hM noB
         obtain ⟨S85,hs86,hx87,hM,hbk88⟩:=M.freeze [_,_] hM noB
         refine Zv hE rfl (cbm Tryz.func105) (JR _ _ _ _ r15 (ux14 0) (Rep.ro hx83 (fun b hb=>hb.elim (fun h=>by cases h) (hs86 b))) p0 v0_1 (hM0.rdw hv0_1 (fun b hb=>hs86 b (hs82 b (hb)))) v0_2 (hM0.rdw hv0_2 (fun b hb=>hs86 b (hs82 b (hb)))) v0_3 (hM0.rdw hv0_3 (fun b hb=>hs86 b (hs82 b (hb)))) (⟨x31.Number,j65.1,j65.2,x31.Label,x31.Body,x31.Tag⟩ : GRecord) u35 u36 r62 u64 hx87 hM r79 e80) ?_
         rintro v w a ⟨u89,u90,rfl,hM⟩ hE
         have hM:=hbk84 _ [_,_,_] (JX (JX (JX YO))) (hbk88 _ [_,_] (JX (JX YO)) hM)
         simp only [List.cons_append,List.nil_append] at hM
         have hM:=((((((((((Kq (x:=r79) hM.pull1.toOsl0.pull3.pull3 siw siw).pull2).pull9).pull9).pull9).pull9).pull9).pull9).pull9).pull9).pull9
         exact ⟨_,_,rfl,hE,M.qTogS (p:=mkU 7 (allI NoB [own NoB (x31.Label : (List UInt8)) [u35],own NoB (x31.Body : (List UInt8)) [u36]]) (fun v=>own NoB r79 (Value.cells v).toList)) (its:=[osl NoB (r62 : List UInt8) u64,raw b39 (cat [[vI x31.Number],[vI j65.1],enc j65.2,[u35],[u36],enc x31.Tag]),Jq NoB (r18.Records : List GRecord) (r7.1).toNat q14_2_0_2 (cat [[vI x31.Number],[vI x31.Version],enc x31.Nonce,[u35],[u36],enc x31.Tag]),raw b26 (cat [[q14_2_0_1],[vI r18.Next],[q14_2_0_2],[q14_2_0_3],enc r18.Head]),own NoB (r18.Keys : (List (Vector UInt8 16))) [q14_2_0_1],own NoB (r18.Events : (List GEvent)) [q14_2_0_3],raw b5 (cat [[(Value.slice none 0 0)],[vI 0],[(Value.slice none 0 0)],[(Value.slice none 0 0)],enc (Vector.replicate 32 (0 : UInt8))]),raw b1 (cat [[v0_1],[vI p0.Next],[v0_2],[v0_3],enc p0.Head]),own NoB (r15 : (Ref Gengine)) [(ux14 0)]]) (mk1:=([] : Mk)) (mk2:=([] : Mk)) hM rfl mkU_on,⟨_,rfl⟩⟩
        ·intro a w ux77 D hE hM hG hall
         have d7:=hall 7 (by decide)
         have hM:=hM.togB (pre:=[_,_,_,_,_,_,_,_,_]) d7
         obtain ⟨q77_7_0_1,q77_7_0_2,hcz,_,_⟩:=Yp (hM.ro (pre:=[_,_,_,_,_,_,_,_,_]) noB)
         have qK91 : (ux77 7) = (Value.agg (cat [[vI r79.Number],[vI r79.Version],enc r79.Nonce,[q77_7_0_1],[q77_7_0_2],enc r79.Tag]).toArray):=H1 hcz (hG 7 d7 _ rfl).2
         have hM:=hM.pull9
         have hM:=HI (hM.recown (congrArg (fun v=>(Value.cells v).toList) qK91))
         have hE:=hE.setq (t:=72) rfl qK91
         obtain ⟨x94,hi96,hl73⟩:=bix hl73
         refine zp (pre:=[_,_,_,_]) hE hM Za ld rfl rfl Tryz.underlying55 ZV hi96.1 ?_; intro a hE
         have hM:=hM.pull4
         refine km (k0:=0) (seg:=cat [[vI r79.Number],[vI r79.Version],enc r79.Nonce,[q77_7_0_1],[q77_7_0_2],enc r79.Tag]) (cs':=cat [[vI r79.Number],[vI r79.Version],enc r79.Nonce,[q77_7_0_1],[q77_7_0_2],enc r79.Tag]) hE hM noB Za rfl rfl rfl ZV cq (Z1 (cc1 (Flat.cell (r79.Number : Int)) (cc1 (Flat.cell (r79.Version : Int)) (cc1 (Flat.cell _) (cc1 (Rep.cell (hM.ro (pre:=[_]) noB)) (cc1 (Rep.cell (hM.ro (pre:=[_,_]) noB)) (cc1 (Flat.cell _) cc0))))))) (Nat.le_of_eq ((Nat.zero_add _).trans (Eq.trans cq (Eq.symm cq)))) (Zi (Eq.trans cq (Eq.symm cq))) ?_; intro w a hM hE
         have hM:=(Kq (x:=r79) hM.pull10.pull10.pull10.pull10.pull10.pull10.pull10.pull10.pull8.pull10.pull10 siw siw).close1 noB
         refine Zg ?_
         obtain rfl:=Option.some.inj hl73
         refine Zk ?_
         have hM:=M.fst (l:=[_,_,_,_,_,_]) hM.pull8.pull7.pull7.pull7.pull7
         exact ⟨q14_2_0_2,hE.sub ⟨rfl,rfl,rfl,rfl,rfl,trivial⟩,hM⟩
       ·skip
        rintro a w ⟨u75,hE,hM⟩
        obtain ⟨j98,hl99,hF100⟩:=bind_some hF74
        refine ZO (fun a w=>∃ (u101 : Value) (u103 : Value) (u105 : Value),Env 85 a [(6,(ptr b5 0)),(7,vI j98.2.2.2.2.2)] ∧ M (Old w0) w0 w [raw b5 (cat [[u101],[vI j98.2.1],[u103],[u105],enc j98.2.2.2.2.1]),osl NoB (j98.1 : List (Vector UInt8 16)) u101,osl NoB (j98.2.2.1 : List GRecord) u103,osl NoB (j98.2.2.2.1 : List GEvent) u105]) ?_ ?_
        ·skip
         obtain ⟨x108,hi110,hl99⟩:=bix hl99
         refine Z9 [74,75,76,77,78,79,80,81,82,83] YF rfl rfl (by decide) rfl hE hM (qsP (fun z=>Zu z.E Za ld rfl (kr0 rfl)) (qsP (fun z=>ZX z.E Za ld rfl Yn rfl (z.M.rawAt0) cq (kr0 rfl)) (qsP (fun z=>Zu z.E Za ld rfl (kr0 rfl)) (qsP (fun z=>Zj z.E Za ld rfl (Y2) (kr0 rfl)) (qsP (fun z=>ZN (v:=u75) z.E Za ld rfl Tr rfl (At.cat (pre:=[[q14_2_0_1],[vI r18.Next]]) (z.M.rawAt0) ck) (kr0 rfl)) (qsP (fun z=>Zu z.E Za ld rfl (kr0 rfl)) (qsP (fun z=>YR z.E Za ld rfl rfl Tryz.underlying55 ZV (z.M.sl (pre:=[_,_,_,_,_]) noB) hi110.1 (kr0 rfl)) (qsP (fun z=>Zj z.E Za ld rfl (Qg) (kr0 rfl)) (qsP (v:=(Value.agg (enc x108.Tag).toArray)) ?_ (qsP (fun z=>XG (parts:=[(0,.const (vI 4)),(1,.tmp 76),(2,.tmp 82)]) (vs:=[(0,vI 4),(1,vI p1),(2,(Value.agg (enc x108.Tag).toArray))]) (cs:=cat [[vI 4],[vI p1],enc x108.Tag]) z.E Za ld rfl rfl Xp pl131 (Yl (pre:=[]) (seg:=[vI 0]) (seg':=[vI 4]) (post:=[[vI 0],enc (Vector.replicate 32 (0 : UInt8))]) rfl cl0 rfl rfl rfl (Yl (pre:=[[vI 4]]) (seg:=[vI 0]) (seg':=[vI p1]) (post:=[enc (Vector.replicate 32 (0 : UInt8))]) rfl ck rfl rfl rfl (Yl (pre:=[[vI 4],[vI p1]]) (seg:=enc (Vector.replicate 32 (0 : UInt8))) (seg':=enc x108.Tag) (post:=[]) rfl ck (Flat.len _) (Flat.len _) rfl V3))) (kr0 rfl)) qs0)))))))))) ?_
         ·intro a w u D z
          have hE:=z.E
          have hM : M (Old w0) w0 w [raw b26 (cat [[q14_2_0_1],[vI r18.Next],[u75],[q14_2_0_3],enc r18.Head]),own NoB (r18.Keys : (List (Vector UInt8 16))) [q14_2_0_1],own NoB (r18.Events : (List GEvent)) [q14_2_0_3],raw b5 (cat [[(Value.slice none 0 0)],[vI 0],[(Value.slice none 0 0)],[(Value.slice none 0 0)],enc (Vector.replicate 32 (0 : UInt8))]),own NoB (r15 : (Ref Gengine)) [(ux14 0)],osl NoB (j72 : List GRecord) u75]:=z.M
          obtain ⟨cs111,hs112,hA113⟩:=Xj (hM.sl (pre:=[_,_,_,_,_]) noB) hi110.2
          obtain ⟨u114,u115,rfl,_,_⟩:=Yp hs112
          exact Zm hE rfl Ye rfl (At.cat (pre:=[[vI x108.Number],[vI x108.Version],enc x108.Nonce,[u114],[u115]]) hA113 ck) (Flat.len _) fun a hE=>⟨Kept.refl _ _,_,rfl,hE⟩
         ·intro a w u hE hM
          have hM:=hM.pull1.toOsl0.pull2.toOsl0.pull5.pull2.pull5
          have hM0:=hM
          obtain ⟨S118,hs119,hx120,hM,hbk121⟩:=M.freeze [_,_,_] hM noB
          obtain ⟨r116,e117,hl99⟩:=bind_some hl99
          refine Zv hE rfl (cbm Tryz.func90) (Hg _ _ _ _ r15 (ux14 0) hx120 (⟨r18.Keys,r18.Next,j72,r18.Events,r18.Head⟩ : GVault) q14_2_0_1 u75 q14_2_0_3 (⟨4,p1,x108.Tag⟩ : GEvent) hM r116 e117) ?_
          rintro v w a ⟨u122,u123,u124,rfl,hM⟩ hE
          have hM:=hbk121 _ [_,_,_] (Yi (Yi (Yi YO))) hM
          simp only [List.cons_append,List.nil_append] at hM
          have hM:=hM.pull5
          refine Zl (seg:=cat [[u122],[vI r116.Next],[u123],[u124],enc r116.Head]) (cs':=cat [[u122],[vI r116.Next],[u123],[u124],enc r116.Head]) hE hM Za rfl rfl rfl Yn cq (Nat.le_of_eq ((Nat.zero_add _).trans (Eq.trans cq (Eq.symm cq)))) (Z1 (cc1 (Rep.cell (hM.sl (pre:=[_,_]) noB)) (cc1 (Flat.cell (r116.Next : Int)) (cc1 (Rep.cell (hM.sl (pre:=[_,_,_]) noB)) (cc1 (Rep.cell (hM.sl (pre:=[_,_,_,_]) noB)) (cc1 (Flat.cell _) cc0)))))) (Zi (Eq.trans cq (Eq.symm cq))) fun w a hM hE=>Zc hE rfl fun a hE=>Zg ?_
          obtain rfl:=Option.some.inj hl99
          refine Zk ?_
          have hM:=M.fst (l:=[_,_,_,_]) hM.pull4.pull4.pull4.pull3
          exact ⟨u122,u123,u124,hE.sub ⟨rfl,rfl,trivial⟩,hM⟩
        ·skip
         rintro a w ⟨u101,u103,u105,hE,hM⟩
         obtain rfl:=Option.some.inj hF100
         have hq126 : Yw Tryz.prog _ _ (.cell 6 58) _:=ZI hE rfl Yn rfl hM.rawAt0 cq rfl
         have hM:=M.fst (l:=[_,_,_]) hM.pull3.pull3.pull3
         exact wp_ret (Th hE rfl hq126 (ZP hE rfl) ⟨_,rfl,u101,u103,u105,rfl,hM.outF (Yi (Yi (Yi YO))),hM.kept⟩)
def Qi (p0 : (Vector UInt8 16)) (p1 : (Vector UInt8 16)) (s9 : Int) : Option (Fl Int (Fl Unit Bool)) :=
 if (decide (s9 < 16)) = true then (((ZH p0 s9).bind fun x19=>(ZH p1 s9).bind fun x22=>some (x19 != x22) : Option (Bool)).bind fun j14=>if j14 = true then (some (Fl.ex (Fl.ex false))) else (some (Fl.nx (wr (s9 + 1))))) else (some (Fl.ex (Fl.nx ())))
def Vq (p0 : (Vector UInt8 16)) (p1 : (Vector UInt8 16)) : Option (Bool) :=
 (ZB (Qi p0 p1) 0).bind fun j5=>j5.el (fun s8=>some true) (fun r=>some r)
theorem JM (w0 : World) (p0 : (Vector UInt8 16)) (p1 : (Vector UInt8 16)) (r : Bool) (hF : Vq p0 p1 = some r) :
  Calls Tryz.prog 150 [(Value.agg (enc p0).toArray),(Value.agg (enc p1).toArray)].toArray w0 (Rt w0 (vT r)):=by
 refine ce Tryz.func150 ?_
 intro a hE
 have hM:=M.start w0
 unfold Vq at hF
 refine Zb (ZK (cs:=enc p0) hE hM Za ld rfl rfl fun b1 w a hM hE=>ZK (cs:=enc p1) hE hM Za ld rfl rfl fun b3 w a hM hE=>Zc hE rfl fun a hE=>Ze (wp_seq (Zb (Zc hE rfl fun a hE=>Ze ?_))))
 obtain ⟨j5,hl6,hF7⟩:=bind_some hF
 refine ZM (fun a w=>∃ s8 : Unit,j5 = Fl.nx s8 ∧ Env 17 a [] ∧ M (Old w0) w0 w []) ?_ ?_
 ·skip
  refine wp_block ?_
  refine ZE (fun (s9 : Int) a w=>Env 17 a [(2,(ptr b1 0)),(3,(ptr b3 0)),(5,vI s9)] ∧ M (Old w0) w0 w [raw b3 (enc p1),raw b1 (enc p0)]) hl6 ⟨hE.sub ⟨rfl,rfl,rfl,trivial⟩,hM⟩ ?_
  rintro s9 a w ⟨hE,hM⟩ o12 hs10 hx11
  unfold Qi at hs10
  refine wp_seq (Zb (Zd hE rfl fun a hE=>Zh hE rfl rfl rfl fun a hE=>Ze ?_))
  refine Zo hE rfl ?_ ?_
  ·intro hb13
   have hs10:=Zw hs10 hb13
   refine wp_skip (Zt (wp_seq (wp_block ?_)))
   obtain ⟨j14,hl15,hF16⟩:=bind_some hs10
   refine ZO (fun a w=>Env 17 a [(2,(ptr b1 0)),(3,(ptr b3 0)),(5,vI s9),(16,vT j14)] ∧ M (Old w0) w0 w [raw b3 (enc p1),raw b1 (enc p0)]) ?_ ?_
   ·skip
    obtain ⟨x19,hi18,hl15⟩:=bvx hl15
    obtain ⟨x22,hi21,hl15⟩:=bvx hl15
    refine Z9 [10,11,12,13,14,15,16] YF rfl rfl (by decide) rfl hE hM (qsP (fun z=>Zu z.E Za ld rfl (kr0 rfl)) (qsP (fun z=>ZG z.E Za ld rfl rfl Tryz.underlying68 ty5 hi18.1 (kr0 rfl)) (qsP (fun z=>ZN (v:=(vB x19)) z.E Za ld rfl ty5 rfl (At.vec (z.M.rawAt1) hi18.2) (kr0 rfl)) (qsP (fun z=>Zu z.E Za ld rfl (kr0 rfl)) (qsP (fun z=>ZG z.E Za ld rfl rfl Tryz.underlying68 ty5 hi21.1 (kr0 rfl)) (qsP (fun z=>ZN (v:=(vB x22)) z.E Za ld rfl ty5 rfl (At.vec (z.M.rawAt0) hi21.2) (kr0 rfl)) (qsP (fun z=>Yt z.E Za ld rfl rfl (K6 x19 x22) (kr0 rfl)) qs0))))))) ?_
    ·intro a w u hE hM
     refine Zg ?_
     obtain rfl:=Option.some.inj hl15
     refine Zk ?_
     exact ⟨hE.sub ⟨rfl,rfl,rfl,rfl,trivial⟩,hM⟩
   ·skip
    rintro a w ⟨hE,hM⟩
    refine Zo hE rfl ?_ ?_
    ·intro hb25
     have hF16:=Zw hF16 hb25
     refine Zb (Zc hE rfl fun a hE=>Ze ?_)
     obtain rfl:=hx11 _ (ois hF16)
     obtain rfl:=Option.some.inj hF7
     exact wp_ret (Yr (Zs (Zs (Yr (Zs (Zs (kr1 hE rfl rfl hM.kept)))))))
    ·intro hb25
     have hF16:=Zx hF16 hb25
     refine wp_skip (Yb (Zt (wp_region_lit (Zd hE rfl fun a hE=>Zh hE rfl rfl rfl fun a hE=>Zc hE rfl fun a hE=>Zg (Zk ?_)))))
     exact ⟨_,(ois hF16),hE.sub ⟨rfl,rfl,rfl,trivial⟩,hM⟩
  ·intro hb13
   have hs10:=Zx hs10 hb13
   refine wp_exit (Zn (Zn (Yd ?_)))
   obtain rfl:=hx11 _ (ois hs10)
   refine Zk ?_
   have hM:=M.fst (l:=[]) hM
   exact ⟨(),rfl,hE.sub trivial,hM⟩
 ·skip
  rintro a w ⟨s8,ht,hE,hM⟩
  subst ht
  have hF7:=TG hF7
  refine Zt (Zb (Zc hE rfl fun a hE=>Ze ?_))
  obtain rfl:=Option.some.inj hF7
  exact wp_ret (kr1 hE rfl rfl hM.kept)
def TS (p0 : (List (Vector UInt8 16))) (p1 : (List (Vector UInt8 16))) (s6 : Int) : Option (Fl Int (Fl Unit Bool)) :=
 if (decide (s6 < (p0.length : Int))) = true then (((idx p0 s6).bind fun x15=>(idx p1 s6).bind fun x18=>(Vq x15 x18).bind fun r21=>some (!r21) : Option (Bool)).bind fun j11=>if j11 = true then (some (Fl.ex (Fl.ex false))) else (some (Fl.nx (wr (s6 + 1))))) else (some (Fl.ex (Fl.nx ())))
def Tb (p0 : (List (Vector UInt8 16))) (p1 : (List (Vector UInt8 16))) : Option (Bool) :=
 if ((p0.length : Int) != (p1.length : Int)) = true then (some false) else ((ZB (TS p0 p1) 0).bind fun j2=>j2.el (fun s5=>some true) (fun r=>some r))
theorem AJ (w0 : World) (p0 : (List (Vector UInt8 16))) (v0_1 : Value) (hv0_1 : Ro w0 p0 [v0_1]) (p1 : (List (Vector UInt8 16))) (v1_1 : Value) (hv1_1 : Ro w0 p1 [v1_1]) (r : Bool) (hF : Tb p0 p1 = some r) :
  Calls Tryz.prog 91 [v0_1,v1_1].toArray w0 (Rt w0 (vT r)):=by
 refine ce Tryz.func91 ?_
 intro a hE
 have hM:=M.start w0
 unfold Tb at hF
 refine Zb (Zc hE rfl fun a hE=>Ze (wp_seq (Zb (Zd hE rfl fun a hE=>Yf hE rfl Tryz.underlying54 (hM.rd hv0_1) fun a hE=>Zd hE rfl fun a hE=>Yf hE rfl Tryz.underlying54 (hM.rd hv1_1) fun a hE=>Zh hE rfl rfl rfl fun a hE=>Ze ?_))))
 refine Zo hE rfl ?_ ?_
 ·intro hb1
  have hF:=Zw hF hb1
  refine Zb (Zc hE rfl fun a hE=>Ze ?_)
  obtain rfl:=Option.some.inj hF
  exact wp_ret (Zs (kr1 hE rfl rfl hM.kept))
 ·intro hb1
  have hF:=Zx hF hb1
  refine wp_skip (Zt (wp_seq (Zb (Zc hE rfl fun a hE=>Ze ?_))))
  obtain ⟨j2,hl3,hF4⟩:=bind_some hF
  refine ZM (fun a w=>∃ s5 : Unit,j2 = Fl.nx s5 ∧ Env 27 a [] ∧ M (Old w0) w0 w []) ?_ ?_
  ·skip
   refine wp_block ?_
   refine ZE (fun (s6 : Int) a w=>Env 27 a [(0,v0_1),(1,v1_1),(5,vI s6)] ∧ M (Old w0) w0 w []) hl3 ⟨hE.sub ⟨rfl,rfl,rfl,trivial⟩,hM⟩ ?_
   rintro s6 a w ⟨hE,hM⟩ o9 hs7 hx8
   unfold TS at hs7
   refine wp_seq (Zb (Zd hE rfl fun a hE=>Zd hE rfl fun a hE=>Yf hE rfl Tryz.underlying54 (hM.rd hv0_1) fun a hE=>Zh hE rfl rfl rfl fun a hE=>Ze ?_))
   refine Zo hE rfl ?_ ?_
   ·intro hb10
    have hs7:=Zw hs7 hb10
    refine wp_skip (Zt (wp_seq (wp_block ?_)))
    obtain ⟨j11,hl12,hF13⟩:=bind_some hs7
    refine ZO (fun a w=>Env 27 a [(0,v0_1),(1,v1_1),(5,vI s6),(26,vT j11)] ∧ M (Old w0) w0 w []) ?_ ?_
    ·skip
     obtain ⟨x15,hi17,hl12⟩:=bix hl12
     obtain ⟨x18,hi20,hl12⟩:=bix hl12
     obtain ⟨r21,e22,hl12⟩:=bind_some hl12
     refine Z9 [17,18,19,20,21,22,23,24,25,26] YF rfl rfl (by decide) rfl hE hM (qsP (fun z=>Zu z.E Za ld rfl (kr0 rfl)) (qsP (fun z=>Zu z.E Za ld rfl (kr0 rfl)) (qsP (fun z=>YR z.E Za ld rfl rfl Tryz.underlying54 ZC (z.M.rd hv0_1) hi17.1 (kr0 rfl)) (qsP (fun z=>ZX z.E Za ld rfl ZC rfl (Y6 (z.M.rd hv0_1) hi17.2) (Flat.len _) (kr0 rfl)) (qsP (fun z=>Zu z.E Za ld rfl (kr0 rfl)) (qsP (fun z=>Zu z.E Za ld rfl (kr0 rfl)) (qsP (fun z=>YR z.E Za ld rfl rfl Tryz.underlying54 ZC (z.M.rd hv1_1) hi20.1 (kr0 rfl)) (qsP (fun z=>ZX z.E Za ld rfl ZC rfl (Y6 (z.M.rd hv1_1) hi20.2) (Flat.len _) (kr0 rfl)) (qsP (fun z=>Z0 z.E Za ld rfl (cbm Tryz.func150) (JM _ x15 x18 r21 e22) (kc rfl)) (qsP (fun z=>KA z.E Za ld rfl (kr0 rfl)) qs0)))))))))) ?_
     ·intro a w u hE hM
      refine Zg ?_
      obtain rfl:=Option.some.inj hl12
      refine Zk ?_
      exact ⟨hE.sub ⟨rfl,rfl,rfl,rfl,trivial⟩,hM⟩
    ·skip
     rintro a w ⟨hE,hM⟩
     refine Zo hE rfl ?_ ?_
     ·intro hb24
      have hF13:=Zw hF13 hb24
      refine Zb (Zc hE rfl fun a hE=>Ze ?_)
      obtain rfl:=hx8 _ (ois hF13)
      obtain rfl:=Option.some.inj hF4
      exact wp_ret (Yr (Zs (Zs (Yr (Zs (Zs (kr1 hE rfl rfl hM.kept)))))))
     ·intro hb24
      have hF13:=Zx hF13 hb24
      refine wp_skip (Yb (Zt (wp_region_lit (Zd hE rfl fun a hE=>Zh hE rfl rfl rfl fun a hE=>Zc hE rfl fun a hE=>Zg (Zk ?_)))))
      exact ⟨_,(ois hF13),hE.sub ⟨rfl,rfl,rfl,trivial⟩,hM⟩
   ·intro hb10
    have hs7:=Zx hs7 hb10
    refine wp_exit (Zn (Zn (Yd ?_)))
    obtain rfl:=hx8 _ (ois hs7)
    refine Zk ?_
    exact ⟨(),rfl,hE.sub trivial,hM⟩
  ·skip
   rintro a w ⟨s5,ht,hE,hM⟩
   subst ht
   have hF4:=TG hF4
   refine Zt (Zb (Zc hE rfl fun a hE=>Ze ?_))
   obtain rfl:=Option.some.inj hF4
   exact wp_ret (kr1 hE rfl rfl hM.kept)
def Qd (p0 : (List UInt8)) (p1 : (List UInt8)) (s6 : Int) : Option (Fl Int (Fl Unit Bool)) :=
 if (decide (s6 < (p0.length : Int))) = true then (((idx p0 s6).bind fun x15=>(idx p1 s6).bind fun x18=>some (x15 != x18) : Option (Bool)).bind fun j11=>if j11 = true then (some (Fl.ex (Fl.ex false))) else (some (Fl.nx (wr (s6 + 1))))) else (some (Fl.ex (Fl.nx ())))
def UF (p0 : (List UInt8)) (p1 : (List UInt8)) : Option (Bool) :=
 if ((p0.length : Int) != (p1.length : Int)) = true then (some false) else ((ZB (Qd p0 p1) 0).bind fun j2=>j2.el (fun s5=>some true) (fun r=>some r))
theorem JP (w0 : World) (p0 : (List UInt8)) (v0_1 : Value) (hv0_1 : Ro w0 p0 [v0_1]) (p1 : (List UInt8)) (v1_1 : Value) (hv1_1 : Ro w0 p1 [v1_1]) (r : Bool) (hF : UF p0 p1 = some r) :
  Calls Tryz.prog 21 [v0_1,v1_1].toArray w0 (Rt w0 (vT r)):=by
 refine ce Tryz.func21 ?_
 intro a hE
 have hM:=M.start w0
 unfold UF at hF
 refine Zb (Zc hE rfl fun a hE=>Ze (wp_seq (Zb (Zd hE rfl fun a hE=>Yf hE rfl Tryz.underlying40 (hM.rd hv0_1) fun a hE=>Zd hE rfl fun a hE=>Yf hE rfl Tryz.underlying40 (hM.rd hv1_1) fun a hE=>Zh hE rfl rfl rfl fun a hE=>Ze ?_))))
 refine Zo hE rfl ?_ ?_
 ·intro hb1
  have hF:=Zw hF hb1
  refine Zb (Zc hE rfl fun a hE=>Ze ?_)
  obtain rfl:=Option.some.inj hF
  exact wp_ret (Zs (kr1 hE rfl rfl hM.kept))
 ·intro hb1
  have hF:=Zx hF hb1
  refine wp_skip (Zt (wp_seq (Zb (Zc hE rfl fun a hE=>Ze ?_))))
  obtain ⟨j2,hl3,hF4⟩:=bind_some hF
  refine ZM (fun a w=>∃ s5 : Unit,j2 = Fl.nx s5 ∧ Env 26 a [] ∧ M (Old w0) w0 w []) ?_ ?_
  ·skip
   refine wp_block ?_
   refine ZE (fun (s6 : Int) a w=>Env 26 a [(0,v0_1),(1,v1_1),(5,vI s6)] ∧ M (Old w0) w0 w []) hl3 ⟨hE.sub ⟨rfl,rfl,rfl,trivial⟩,hM⟩ ?_
   rintro s6 a w ⟨hE,hM⟩ o9 hs7 hx8
   unfold Qd at hs7
   refine wp_seq (Zb (Zd hE rfl fun a hE=>Zd hE rfl fun a hE=>Yf hE rfl Tryz.underlying40 (hM.rd hv0_1) fun a hE=>Zh hE rfl rfl rfl fun a hE=>Ze ?_))
   refine Zo hE rfl ?_ ?_
   ·intro hb10
    have hs7:=Zw hs7 hb10
    refine wp_skip (Zt (wp_seq (wp_block ?_)))
    obtain ⟨j11,hl12,hF13⟩:=bind_some hs7
    refine ZO (fun a w=>Env 26 a [(0,v0_1),(1,v1_1),(5,vI s6),(25,vT j11)] ∧ M (Old w0) w0 w []) ?_ ?_
    ·skip
     obtain ⟨x15,hi17,hl12⟩:=bix hl12
     obtain ⟨x18,hi20,hl12⟩:=bix hl12
     refine Z9 [17,18,19,20,21,22,23,24,25] YF rfl rfl (by decide) rfl hE hM (qsP (fun z=>Zu z.E Za ld rfl (kr0 rfl)) (qsP (fun z=>Zu z.E Za ld rfl (kr0 rfl)) (qsP (fun z=>YR z.E Za ld rfl rfl Tryz.underlying40 ty5 (z.M.rd hv0_1) hi17.1 (kr0 rfl)) (qsP (fun z=>ZN (v:=(vB x15)) z.E Za ld rfl ty5 rfl (Y6 (z.M.rd hv0_1) hi17.2) (kr0 rfl)) (qsP (fun z=>Zu z.E Za ld rfl (kr0 rfl)) (qsP (fun z=>Zu z.E Za ld rfl (kr0 rfl)) (qsP (fun z=>YR z.E Za ld rfl rfl Tryz.underlying40 ty5 (z.M.rd hv1_1) hi20.1 (kr0 rfl)) (qsP (fun z=>ZN (v:=(vB x18)) z.E Za ld rfl ty5 rfl (Y6 (z.M.rd hv1_1) hi20.2) (kr0 rfl)) (qsP (fun z=>Yt z.E Za ld rfl rfl (K6 x15 x18) (kr0 rfl)) qs0))))))))) ?_
     ·intro a w u hE hM
      refine Zg ?_
      obtain rfl:=Option.some.inj hl12
      refine Zk ?_
      exact ⟨hE.sub ⟨rfl,rfl,rfl,rfl,trivial⟩,hM⟩
    ·skip
     rintro a w ⟨hE,hM⟩
     refine Zo hE rfl ?_ ?_
     ·intro hb22
      have hF13:=Zw hF13 hb22
      refine Zb (Zc hE rfl fun a hE=>Ze ?_)
      obtain rfl:=hx8 _ (ois hF13)
      obtain rfl:=Option.some.inj hF4
      exact wp_ret (Yr (Zs (Zs (Yr (Zs (Zs (kr1 hE rfl rfl hM.kept)))))))
     ·intro hb22
      have hF13:=Zx hF13 hb22
      refine wp_skip (Yb (Zt (wp_region_lit (Zd hE rfl fun a hE=>Zh hE rfl rfl rfl fun a hE=>Zc hE rfl fun a hE=>Zg (Zk ?_)))))
      exact ⟨_,(ois hF13),hE.sub ⟨rfl,rfl,rfl,trivial⟩,hM⟩
   ·intro hb10
    have hs7:=Zx hs7 hb10
    refine wp_exit (Zn (Zn (Yd ?_)))
    obtain rfl:=hx8 _ (ois hs7)
    refine Zk ?_
    exact ⟨(),rfl,hE.sub trivial,hM⟩
  ·skip
   rintro a w ⟨s5,ht,hE,hM⟩
   subst ht
   have hF4:=TG hF4
   refine Zt (Zb (Zc hE rfl fun a hE=>Ze ?_))
   obtain rfl:=Option.some.inj hF4
   exact wp_ret (kr1 hE rfl rfl hM.kept)
def TT (p0 : (Vector UInt8 32)) (p1 : (Vector UInt8 32)) (s9 : Int) : Option (Fl Int (Fl Unit Bool)) :=
 if (decide (s9 < 32)) = true then (((ZH p0 s9).bind fun x19=>(ZH p1 s9).bind fun x22=>some (x19 != x22) : Option (Bool)).bind fun j14=>if j14 = true then (some (Fl.ex (Fl.ex false))) else (some (Fl.nx (wr (s9 + 1))))) else (some (Fl.ex (Fl.nx ())))
def WS (p0 : (Vector UInt8 32)) (p1 : (Vector UInt8 32)) : Option (Bool) :=
 (ZB (TT p0 p1) 0).bind fun j5=>j5.el (fun s8=>some true) (fun r=>some r)
theorem Q6 (w0 : World) (p0 : (Vector UInt8 32)) (p1 : (Vector UInt8 32)) (r : Bool) (hF : WS p0 p1 = some r) :
  Calls Tryz.prog 20 [(Value.agg (enc p0).toArray),(Value.agg (enc p1).toArray)].toArray w0 (Rt w0 (vT r)):=by
 refine ce Tryz.func20 ?_
 intro a hE
 have hM:=M.start w0
 unfold WS at hF
 refine Zb (ZK (cs:=enc p0) hE hM Za ld rfl rfl fun b1 w a hM hE=>ZK (cs:=enc p1) hE hM Za ld rfl rfl fun b3 w a hM hE=>Zc hE rfl fun a hE=>Ze (wp_seq (Zb (Zc hE rfl fun a hE=>Ze ?_))))
 obtain ⟨j5,hl6,hF7⟩:=bind_some hF
 refine ZM (fun a w=>∃ s8 : Unit,j5 = Fl.nx s8 ∧ Env 17 a [] ∧ M (Old w0) w0 w []) ?_ ?_
 ·skip
  refine wp_block ?_
  refine ZE (fun (s9 : Int) a w=>Env 17 a [(2,(ptr b1 0)),(3,(ptr b3 0)),(5,vI s9)] ∧ M (Old w0) w0 w [raw b3 (enc p1),raw b1 (enc p0)]) hl6 ⟨hE.sub ⟨rfl,rfl,rfl,trivial⟩,hM⟩ ?_
  rintro s9 a w ⟨hE,hM⟩ o12 hs10 hx11
  unfold TT at hs10
  refine wp_seq (Zb (Zd hE rfl fun a hE=>Zh hE rfl rfl rfl fun a hE=>Ze ?_))
  refine Zo hE rfl ?_ ?_
  ·intro hb13
   have hs10:=Zw hs10 hb13
   refine wp_skip (Zt (wp_seq (wp_block ?_)))
   obtain ⟨j14,hl15,hF16⟩:=bind_some hs10
   refine ZO (fun a w=>Env 17 a [(2,(ptr b1 0)),(3,(ptr b3 0)),(5,vI s9),(16,vT j14)] ∧ M (Old w0) w0 w [raw b3 (enc p1),raw b1 (enc p0)]) ?_ ?_
   ·skip
    obtain ⟨x19,hi18,hl15⟩:=bvx hl15
    obtain ⟨x22,hi21,hl15⟩:=bvx hl15
    refine Z9 [10,11,12,13,14,15,16] YF rfl rfl (by decide) rfl hE hM (qsP (fun z=>Zu z.E Za ld rfl (kr0 rfl)) (qsP (fun z=>ZG z.E Za ld rfl rfl Tryz.underlying35 ty5 hi18.1 (kr0 rfl)) (qsP (fun z=>ZN (v:=(vB x19)) z.E Za ld rfl ty5 rfl (At.vec (z.M.rawAt1) hi18.2) (kr0 rfl)) (qsP (fun z=>Zu z.E Za ld rfl (kr0 rfl)) (qsP (fun z=>ZG z.E Za ld rfl rfl Tryz.underlying35 ty5 hi21.1 (kr0 rfl)) (qsP (fun z=>ZN (v:=(vB x22)) z.E Za ld rfl ty5 rfl (At.vec (z.M.rawAt0) hi21.2) (kr0 rfl)) (qsP (fun z=>Yt z.E Za ld rfl rfl (K6 x19 x22) (kr0 rfl)) qs0))))))) ?_
    ·intro a w u hE hM
     refine Zg ?_
     obtain rfl:=Option.some.inj hl15
     refine Zk ?_
     exact ⟨hE.sub ⟨rfl,rfl,rfl,rfl,trivial⟩,hM⟩
   ·skip
    rintro a w ⟨hE,hM⟩
    refine Zo hE rfl ?_ ?_
    ·intro hb25
     have hF16:=Zw hF16 hb25
     refine Zb (Zc hE rfl fun a hE=>Ze ?_)
     obtain rfl:=hx11 _ (ois hF16)
     obtain rfl:=Option.some.inj hF7
     exact wp_ret (Yr (Zs (Zs (Yr (Zs (Zs (kr1 hE rfl rfl hM.kept)))))))
    ·intro hb25
     have hF16:=Zx hF16 hb25
     refine wp_skip (Yb (Zt (wp_region_lit (Zd hE rfl fun a hE=>Zh hE rfl rfl rfl fun a hE=>Zc hE rfl fun a hE=>Zg (Zk ?_)))))
     exact ⟨_,(ois hF16),hE.sub ⟨rfl,rfl,rfl,trivial⟩,hM⟩
  ·intro hb13
   have hs10:=Zx hs10 hb13
   refine wp_exit (Zn (Zn (Yd ?_)))
   obtain rfl:=hx11 _ (ois hs10)
   refine Zk ?_
   have hM:=M.fst (l:=[]) hM
   exact ⟨(),rfl,hE.sub trivial,hM⟩
 ·skip
  rintro a w ⟨s8,ht,hE,hM⟩
  subst ht
  have hF7:=TG hF7
  refine Zt (Zb (Zc hE rfl fun a hE=>Ze ?_))
  obtain rfl:=Option.some.inj hF7
  exact wp_ret (kr1 hE rfl rfl hM.kept)
def VN (p0 : GRecord) (p1 : GRecord) : Option (Bool) :=
 if (p0.Number != p1.Number) = true then (some false) else (if (p0.Version != p1.Version) = true then (some false) else ((Vq p0.Nonce p1.Nonce).bind fun r7=>if (!r7) = true then (some false) else ((UF p0.Label p1.Label).bind fun r10=>if (!r10) = true then (some false) else ((UF p0.Body p1.Body).bind fun r13=>if (!r13) = true then (some false) else ((WS p0.Tag p1.Tag).bind fun r16=>if (!r16) = true then (some false) else (some true))))))
theorem Az (w0 : World) (p0 : GRecord) (v0_1 : Value) (hv0_1 : Ro w0 p0.Label [v0_1]) (v0_2 : Value) (hv0_2 : Ro w0 p0.Body [v0_2]) (p1 : GRecord) (v1_1 : Value) (hv1_1 : Ro w0 p1.Label [v1_1]) (v1_2 : Value) (hv1_2 : Ro w0 p1.Body [v1_2]) (r : Bool) (hF : VN p0 p1 = some r) :
  Calls Tryz.prog 151 [(Value.agg (cat [[vI p0.Number],[vI p0.Version],enc p0.Nonce,[v0_1],[v0_2],enc p0.Tag]).toArray),(Value.agg (cat [[vI p1.Number],[vI p1.Version],enc p1.Nonce,[v1_1],[v1_2],enc p1.Tag]).toArray)].toArray w0 (Rt w0 (vT r)):=by
 refine ce Tryz.func151 ?_
 intro a hE
 have hM:=M.start w0
 unfold VN at hF
 refine Zb (ZK (cs:=cat [[vI p0.Number],[vI p0.Version],enc p0.Nonce,[v0_1],[v0_2],enc p0.Tag]) hE hM Za ld rfl rfl fun b1 w a hM hE=>ZK (cs:=cat [[vI p1.Number],[vI p1.Version],enc p1.Nonce,[v1_1],[v1_2],enc p1.Tag]) hE hM Za ld rfl rfl fun b3 w a hM hE=>Zc hE rfl fun a hE=>Ze (wp_seq (Zb (Zf hE rfl (VS) fun a hE=>Zy (v:=(vI p0.Number)) hE rfl ty2 rfl (At.cat (pre:=[]) hM.rawAt1 cl0) fun a hE=>Zf hE rfl (VS) fun a hE=>Zy (v:=(vI p1.Number)) hE rfl ty2 rfl (At.cat (pre:=[]) hM.rawAt0 cl0) fun a hE=>Zh hE rfl rfl rfl fun a hE=>Ze ?_))))
 refine Zo hE rfl ?_ ?_
 ·intro hb5
  have hF:=Zw hF hb5
  refine Zb (Zc hE rfl fun a hE=>Ze ?_)
  obtain rfl:=Option.some.inj hF
  exact wp_ret (Zs (kr1 hE rfl rfl hM.kept))
 ·intro hb5
  have hF:=Zx hF hb5
  refine wp_skip (Zt (wp_seq (Zb (Zf hE rfl (WE) fun a hE=>Zy (v:=(vI p0.Version)) hE rfl ty2 rfl (At.cat (pre:=[[vI p0.Number]]) hM.rawAt1 ck) fun a hE=>Zf hE rfl (WE) fun a hE=>Zy (v:=(vI p1.Version)) hE rfl ty2 rfl (At.cat (pre:=[[vI p1.Number]]) hM.rawAt0 ck) fun a hE=>Zh hE rfl rfl rfl fun a hE=>Ze ?_))))
  refine Zo hE rfl ?_ ?_
  ·intro hb6
   have hF:=Zw hF hb6
   refine Zb (Zc hE rfl fun a hE=>Ze ?_)
   obtain rfl:=Option.some.inj hF
   exact wp_ret (Zs (kr1 hE rfl rfl hM.kept))
  ·intro hb6
   have hF:=Zx hF hb6
   refine wp_skip (Zt (wp_seq (Zb (Zf hE rfl (Qf) fun a hE=>Zm hE rfl ZC rfl (At.cat (pre:=[[vI p0.Number],[vI p0.Version]]) hM.rawAt1 ck) (Flat.len _) fun a hE=>Zf hE rfl (Qf) fun a hE=>Zm hE rfl ZC rfl (At.cat (pre:=[[vI p1.Number],[vI p1.Version]]) hM.rawAt0 ck) (Flat.len _) ?_)))); intro a hE
   obtain ⟨r7,e8,hF⟩:=bind_some hF
   refine Zv hE rfl (cbm Tryz.func150) (JM _ p0.Nonce p1.Nonce r7 e8) ?_
   rintro v w a ⟨rfl,hK⟩ hE
   have hM:=hM.keep hK
   refine QO hE rfl fun a hE=>Ze ?_
   refine Zo hE rfl ?_ ?_
   ·intro hb9
    have hF:=Zw hF hb9
    refine Zb (Zc hE rfl fun a hE=>Ze ?_)
    obtain rfl:=Option.some.inj hF
    exact wp_ret (Zs (kr1 hE rfl rfl hM.kept))
   ·intro hb9
    have hF:=Zx hF hb9
    refine wp_skip (Zt (wp_seq (Zb (Zf hE rfl (V2) fun a hE=>Zy (v:=v0_1) hE rfl Wh rfl (At.cat (pre:=[[vI p0.Number],[vI p0.Version],enc p0.Nonce]) hM.rawAt1 ck) fun a hE=>Zf hE rfl (V2) fun a hE=>Zy (v:=v1_1) hE rfl Wh rfl (At.cat (pre:=[[vI p1.Number],[vI p1.Version],enc p1.Nonce]) hM.rawAt0 ck) ?_)))); intro a hE
    obtain ⟨r10,e11,hF⟩:=bind_some hF
    refine Zv hE rfl (cbm Tryz.func21) (JP _ p0.Label v0_1 (hM.rdo hv0_1) p1.Label v1_1 (hM.rdo hv1_1) r10 e11) ?_
    rintro v w a ⟨rfl,hK⟩ hE
    have hM:=hM.keep hK
    refine QO hE rfl fun a hE=>Ze ?_
    refine Zo hE rfl ?_ ?_
    ·intro hb12
     have hF:=Zw hF hb12
     refine Zb (Zc hE rfl fun a hE=>Ze ?_)
     obtain rfl:=Option.some.inj hF
     exact wp_ret (Zs (kr1 hE rfl rfl hM.kept))
    ·intro hb12
     have hF:=Zx hF hb12
     refine wp_skip (Zt (wp_seq (Zb (Zf hE rfl (V1) fun a hE=>Zy (v:=v0_2) hE rfl Wh rfl (At.cat (pre:=[[vI p0.Number],[vI p0.Version],enc p0.Nonce,[v0_1]]) hM.rawAt1 ck) fun a hE=>Zf hE rfl (V1) fun a hE=>Zy (v:=v1_2) hE rfl Wh rfl (At.cat (pre:=[[vI p1.Number],[vI p1.Version],enc p1.Nonce,[v1_1]]) hM.rawAt0 ck) ?_)))); intro a hE
     obtain ⟨r13,e14,hF⟩:=bind_some hF
     refine Zv hE rfl (cbm Tryz.func21) (JP _ p0.Body v0_2 (hM.rdo hv0_2) p1.Body v1_2 (hM.rdo hv1_2) r13 e14) ?_
     rintro v w a ⟨rfl,hK⟩ hE
     have hM:=hM.keep hK
     refine QO hE rfl fun a hE=>Ze ?_
     refine Zo hE rfl ?_ ?_
     ·intro hb15
      have hF:=Zw hF hb15
      refine Zb (Zc hE rfl fun a hE=>Ze ?_)
      obtain rfl:=Option.some.inj hF
      exact wp_ret (Zs (kr1 hE rfl rfl hM.kept))
     ·intro hb15
      have hF:=Zx hF hb15
      refine wp_skip (Zt (wp_seq (Zb (Zf hE rfl (Qg) fun a hE=>Zm hE rfl Ye rfl (At.cat (pre:=[[vI p0.Number],[vI p0.Version],enc p0.Nonce,[v0_1],[v0_2]]) hM.rawAt1 ck) (Flat.len _) fun a hE=>Zf hE rfl (Qg) fun a hE=>Zm hE rfl Ye rfl (At.cat (pre:=[[vI p1.Number],[vI p1.Version],enc p1.Nonce,[v1_1],[v1_2]]) hM.rawAt0 ck) (Flat.len _) ?_)))); intro a hE
      obtain ⟨r16,e17,hF⟩:=bind_some hF
      refine Zv hE rfl cb20 (Q6 _ p0.Tag p1.Tag r16 e17) ?_
      rintro v w a ⟨rfl,hK⟩ hE
      have hM:=hM.keep hK
      refine QO hE rfl fun a hE=>Ze ?_
      refine Zo hE rfl ?_ ?_
      ·intro hb18
       have hF:=Zw hF hb18
       refine Zb (Zc hE rfl fun a hE=>Ze ?_)
       obtain rfl:=Option.some.inj hF
       exact wp_ret (Zs (kr1 hE rfl rfl hM.kept))
      ·intro hb18
       have hF:=Zx hF hb18
       refine wp_skip (Zt (Zb (Zc hE rfl fun a hE=>Ze ?_)))
       obtain rfl:=Option.some.inj hF
       exact wp_ret (kr1 hE rfl rfl hM.kept)
def Tj (p0 : (List GRecord)) (p1 : (List GRecord)) (s6 : Int) : Option (Fl Int (Fl Unit Bool)) :=
 if (decide (s6 < (p0.length : Int))) = true then (((idx p0 s6).bind fun x15=>(idx p1 s6).bind fun x25=>(VN x15 x25).bind fun r35=>some (!r35) : Option (Bool)).bind fun j11=>if j11 = true then (some (Fl.ex (Fl.ex false))) else (some (Fl.nx (wr (s6 + 1))))) else (some (Fl.ex (Fl.nx ())))
def Up (p0 : (List GRecord)) (p1 : (List GRecord)) : Option (Bool) :=
 if ((p0.length : Int) != (p1.length : Int)) = true then (some false) else ((ZB (Tj p0 p1) 0).bind fun j2=>j2.el (fun s5=>some true) (fun r=>some r))
theorem B4 (w0 : World) (p0 : (List GRecord)) (v0_1 : Value) (hv0_1 : Ro w0 p0 [v0_1]) (p1 : (List GRecord)) (v1_1 : Value) (hv1_1 : Ro w0 p1 [v1_1]) (r : Bool) (hF : Up p0 p1 = some r) :
  Calls Tryz.prog 92 [v0_1,v1_1].toArray w0 (Rt w0 (vT r)):=by
 refine ce Tryz.func92 ?_
 intro a hE
 have hM:=M.start w0
 unfold Up at hF
 refine Zb (Zc hE rfl fun a hE=>Ze (wp_seq (Zb (Zd hE rfl fun a hE=>Yf hE rfl Tryz.underlying55 (hM.rd hv0_1) fun a hE=>Zd hE rfl fun a hE=>Yf hE rfl Tryz.underlying55 (hM.rd hv1_1) fun a hE=>Zh hE rfl rfl rfl fun a hE=>Ze ?_))))
 refine Zo hE rfl ?_ ?_
 ·intro hb1
  have hF:=Zw hF hb1
  refine Zb (Zc hE rfl fun a hE=>Ze ?_)
  obtain rfl:=Option.some.inj hF
  exact wp_ret (Zs (kr1 hE rfl rfl hM.kept))
 ·intro hb1
  have hF:=Zx hF hb1
  refine wp_skip (Zt (wp_seq (Zb (Zc hE rfl fun a hE=>Ze ?_))))
  obtain ⟨j2,hl3,hF4⟩:=bind_some hF
  refine ZM (fun a w=>∃ s5 : Unit,j2 = Fl.nx s5 ∧ Env 27 a [] ∧ M (Old w0) w0 w []) ?_ ?_
  ·skip
   refine wp_block ?_
   refine ZE (fun (s6 : Int) a w=>Env 27 a [(0,v0_1),(1,v1_1),(5,vI s6)] ∧ M (Old w0) w0 w []) hl3 ⟨hE.sub ⟨rfl,rfl,rfl,trivial⟩,hM⟩ ?_
   rintro s6 a w ⟨hE,hM⟩ o9 hs7 hx8
   unfold Tj at hs7
   refine wp_seq (Zb (Zd hE rfl fun a hE=>Zd hE rfl fun a hE=>Yf hE rfl Tryz.underlying55 (hM.rd hv0_1) fun a hE=>Zh hE rfl rfl rfl fun a hE=>Ze ?_))
   refine Zo hE rfl ?_ ?_
   ·intro hb10
    have hs7:=Zw hs7 hb10
    refine wp_skip (Zt (wp_seq (wp_block ?_)))
    obtain ⟨j11,hl12,hF13⟩:=bind_some hs7
    refine ZO (fun a w=>Env 27 a [(0,v0_1),(1,v1_1),(5,vI s6),(26,vT j11)] ∧ M (Old w0) w0 w []) ?_ ?_
    ·skip
     obtain ⟨x15,hi17,hl12⟩:=bix hl12
     obtain ⟨cs18,hs19,hA20⟩:=Xj hv0_1 hi17.2 -- ^
     obtain ⟨u21,u23,rfl,h22,h24⟩:=Yp hs19 -- ^
     obtain ⟨x25,hi27,hl12⟩:=bix hl12
     obtain ⟨cs28,hs29,hA30⟩:=Xj hv1_1 hi27.2 -- ^
     obtain ⟨u31,u33,rfl,h32,h34⟩:=Yp hs29 -- ^
     obtain ⟨r35,e36,hl12⟩:=bind_some hl12
     refine Z9 [17,18,19,20,21,22,23,24,25,26] YF rfl rfl (by decide) rfl hE hM (qsP (fun z=>Zu z.E Za ld rfl (kr0 rfl)) (qsP (fun z=>Zu z.E Za ld rfl (kr0 rfl)) (qsP (fun z=>YR z.E Za ld rfl rfl Tryz.underlying55 ZV (z.M.rd hv0_1) hi17.1 (kr0 rfl)) (qsP (fun z=>ZX z.E Za ld rfl ZV rfl (z.M.atk hA20 (Wu hv0_1 hi17.2)) cq (kr0 rfl)) (qsP (fun z=>Zu z.E Za ld rfl (kr0 rfl)) (qsP (fun z=>Zu z.E Za ld rfl (kr0 rfl)) (qsP (fun z=>YR z.E Za ld rfl rfl Tryz.underlying55 ZV (z.M.rd hv1_1) hi27.1 (kr0 rfl)) (qsP (fun z=>ZX z.E Za ld rfl ZV rfl (z.M.atk hA30 (Wu hv1_1 hi27.2)) cq (kr0 rfl)) (qsP (fun z=>Z0 z.E Za ld rfl (cbm Tryz.func151) (Az _ x15 u21 (z.M.rdo h22) u23 (z.M.rdo h24) x25 u31 (z.M.rdo h32) u33 (z.M.rdo h34) r35 e36) (kc rfl)) (qsP (fun z=>KA z.E Za ld rfl (kr0 rfl)) qs0)))))))))) ?_
     ·intro a w u hE hM
      refine Zg ?_
      obtain rfl:=Option.some.inj hl12
      refine Zk ?_
      exact ⟨hE.sub ⟨rfl,rfl,rfl,rfl,trivial⟩,hM⟩
    ·skip
     rintro a w ⟨hE,hM⟩
     refine Zo hE rfl ?_ ?_
     ·intro hb38
      have hF13:=Zw hF13 hb38
      refine Zb (Zc hE rfl fun a hE=>Ze ?_)
      obtain rfl:=hx8 _ (ois hF13)
      obtain rfl:=Option.some.inj hF4
      exact wp_ret (Yr (Zs (Zs (Yr (Zs (Zs (kr1 hE rfl rfl hM.kept)))))))
     ·intro hb38
      have hF13:=Zx hF13 hb38
      refine wp_skip (Yb (Zt (wp_region_lit (Zd hE rfl fun a hE=>Zh hE rfl rfl rfl fun a hE=>Zc hE rfl fun a hE=>Zg (Zk ?_)))))
      exact ⟨_,(ois hF13),hE.sub ⟨rfl,rfl,rfl,trivial⟩,hM⟩
   ·intro hb10
    have hs7:=Zx hs7 hb10
    refine wp_exit (Zn (Zn (Yd ?_)))
    obtain rfl:=hx8 _ (ois hs7)
    refine Zk ?_
    exact ⟨(),rfl,hE.sub trivial,hM⟩
  ·skip
   rintro a w ⟨s5,ht,hE,hM⟩
   subst ht
   have hF4:=TG hF4
   refine Zt (Zb (Zc hE rfl fun a hE=>Ze ?_))
   obtain rfl:=Option.some.inj hF4
   exact wp_ret (kr1 hE rfl rfl hM.kept)
def UC (p0 : GEvent) (p1 : GEvent) : Option (Bool) :=
 if (p0.Kind != p1.Kind) = true then (some false) else (if (p0.Number != p1.Number) = true then (some false) else ((WS p0.Tag p1.Tag).bind fun r7=>if (!r7) = true then (some false) else (some true)))
theorem zq (w0 : World) (p0 : GEvent) (p1 : GEvent) (r : Bool) (hF : UC p0 p1 = some r) :
  Calls Tryz.prog 152 [(Value.agg (enc p0).toArray),(Value.agg (enc p1).toArray)].toArray w0 (Rt w0 (vT r)):=by
 refine ce Tryz.func152 ?_
 intro a hE
 have hM:=M.start w0
 unfold UC at hF
 refine Zb (ZK (cs:=cat [[vI p0.Kind],[vI p0.Number],enc p0.Tag]) hE hM Za ld rfl rfl fun b1 w a hM hE=>ZK (cs:=cat [[vI p1.Kind],[vI p1.Number],enc p1.Tag]) hE hM Za ld rfl rfl fun b3 w a hM hE=>Zc hE rfl fun a hE=>Ze (wp_seq (Zb (Zf hE rfl (Ke) fun a hE=>Zy (v:=(vI p0.Kind)) hE rfl ty2 rfl (At.cat (pre:=[]) hM.rawAt1 cl0) fun a hE=>Zf hE rfl (Ke) fun a hE=>Zy (v:=(vI p1.Kind)) hE rfl ty2 rfl (At.cat (pre:=[]) hM.rawAt0 cl0) fun a hE=>Zh hE rfl rfl rfl fun a hE=>Ze ?_))))
 refine Zo hE rfl ?_ ?_
 ·intro hb5
  have hF:=Zw hF hb5
  refine Zb (Zc hE rfl fun a hE=>Ze ?_)
  obtain rfl:=Option.some.inj hF
  exact wp_ret (Zs (kr1 hE rfl rfl hM.kept))
 ·intro hb5
  have hF:=Zx hF hb5
  refine wp_skip (Zt (wp_seq (Zb (Zf hE rfl (Kl) fun a hE=>Zy (v:=(vI p0.Number)) hE rfl ty2 rfl (At.cat (pre:=[[vI p0.Kind]]) hM.rawAt1 ck) fun a hE=>Zf hE rfl (Kl) fun a hE=>Zy (v:=(vI p1.Number)) hE rfl ty2 rfl (At.cat (pre:=[[vI p1.Kind]]) hM.rawAt0 ck) fun a hE=>Zh hE rfl rfl rfl fun a hE=>Ze ?_))))
  refine Zo hE rfl ?_ ?_
  ·intro hb6
   have hF:=Zw hF hb6
   refine Zb (Zc hE rfl fun a hE=>Ze ?_)
   obtain rfl:=Option.some.inj hF
   exact wp_ret (Zs (kr1 hE rfl rfl hM.kept))
  ·intro hb6
   have hF:=Zx hF hb6
   refine wp_skip (Zt (wp_seq (Zb (Zf hE rfl (K2) fun a hE=>Zm hE rfl Ye rfl (At.cat (pre:=[[vI p0.Kind],[vI p0.Number]]) hM.rawAt1 ck) (Flat.len _) fun a hE=>Zf hE rfl (K2) fun a hE=>Zm hE rfl Ye rfl (At.cat (pre:=[[vI p1.Kind],[vI p1.Number]]) hM.rawAt0 ck) (Flat.len _) ?_)))); intro a hE
   obtain ⟨r7,e8,hF⟩:=bind_some hF
   refine Zv hE rfl cb20 (Q6 _ p0.Tag p1.Tag r7 e8) ?_
   rintro v w a ⟨rfl,hK⟩ hE
   have hM:=hM.keep hK
   refine QO hE rfl fun a hE=>Ze ?_
   refine Zo hE rfl ?_ ?_
   ·intro hb9
    have hF:=Zw hF hb9
    refine Zb (Zc hE rfl fun a hE=>Ze ?_)
    obtain rfl:=Option.some.inj hF
    exact wp_ret (Zs (kr1 hE rfl rfl hM.kept))
   ·intro hb9
    have hF:=Zx hF hb9
    refine wp_skip (Zt (Zb (Zc hE rfl fun a hE=>Ze ?_)))
    obtain rfl:=Option.some.inj hF
    exact wp_ret (kr1 hE rfl rfl hM.kept)
def TO (p0 : (List GEvent)) (p1 : (List GEvent)) (s6 : Int) : Option (Fl Int (Fl Unit Bool)) :=
 if (decide (s6 < (p0.length : Int))) = true then (((idx p0 s6).bind fun x15=>(idx p1 s6).bind fun x18=>(UC x15 x18).bind fun r21=>some (!r21) : Option (Bool)).bind fun j11=>if j11 = true then (some (Fl.ex (Fl.ex false))) else (some (Fl.nx (wr (s6 + 1))))) else (some (Fl.ex (Fl.nx ())))
def U6 (p0 : (List GEvent)) (p1 : (List GEvent)) : Option (Bool) :=
 if ((p0.length : Int) != (p1.length : Int)) = true then (some false) else ((ZB (TO p0 p1) 0).bind fun j2=>j2.el (fun s5=>some true) (fun r=>some r))
theorem AF (w0 : World) (p0 : (List GEvent)) (v0_1 : Value) (hv0_1 : Ro w0 p0 [v0_1]) (p1 : (List GEvent)) (v1_1 : Value) (hv1_1 : Ro w0 p1 [v1_1]) (r : Bool) (hF : U6 p0 p1 = some r) :
  Calls Tryz.prog 93 [v0_1,v1_1].toArray w0 (Rt w0 (vT r)):=by
 refine ce Tryz.func93 ?_
 intro a hE
 have hM:=M.start w0
 unfold U6 at hF
 refine Zb (Zc hE rfl fun a hE=>Ze (wp_seq (Zb (Zd hE rfl fun a hE=>Yf hE rfl Tryz.underlying56 (hM.rd hv0_1) fun a hE=>Zd hE rfl fun a hE=>Yf hE rfl Tryz.underlying56 (hM.rd hv1_1) fun a hE=>Zh hE rfl rfl rfl fun a hE=>Ze ?_))))
 refine Zo hE rfl ?_ ?_
 ·intro hb1
  have hF:=Zw hF hb1
  refine Zb (Zc hE rfl fun a hE=>Ze ?_)
  obtain rfl:=Option.some.inj hF
  exact wp_ret (Zs (kr1 hE rfl rfl hM.kept))
 ·intro hb1
  have hF:=Zx hF hb1
  refine wp_skip (Zt (wp_seq (Zb (Zc hE rfl fun a hE=>Ze ?_))))
  obtain ⟨j2,hl3,hF4⟩:=bind_some hF
  refine ZM (fun a w=>∃ s5 : Unit,j2 = Fl.nx s5 ∧ Env 27 a [] ∧ M (Old w0) w0 w []) ?_ ?_
  ·skip
   refine wp_block ?_
   refine ZE (fun (s6 : Int) a w=>Env 27 a [(0,v0_1),(1,v1_1),(5,vI s6)] ∧ M (Old w0) w0 w []) hl3 ⟨hE.sub ⟨rfl,rfl,rfl,trivial⟩,hM⟩ ?_
   rintro s6 a w ⟨hE,hM⟩ o9 hs7 hx8
   unfold TO at hs7
   refine wp_seq (Zb (Zd hE rfl fun a hE=>Zd hE rfl fun a hE=>Yf hE rfl Tryz.underlying56 (hM.rd hv0_1) fun a hE=>Zh hE rfl rfl rfl fun a hE=>Ze ?_))
   refine Zo hE rfl ?_ ?_
   ·intro hb10
    have hs7:=Zw hs7 hb10
    refine wp_skip (Zt (wp_seq (wp_block ?_)))
    obtain ⟨j11,hl12,hF13⟩:=bind_some hs7
    refine ZO (fun a w=>Env 27 a [(0,v0_1),(1,v1_1),(5,vI s6),(26,vT j11)] ∧ M (Old w0) w0 w []) ?_ ?_
    ·skip
     obtain ⟨x15,hi17,hl12⟩:=bix hl12
     obtain ⟨x18,hi20,hl12⟩:=bix hl12
     obtain ⟨r21,e22,hl12⟩:=bind_some hl12
     refine Z9 [17,18,19,20,21,22,23,24,25,26] YF rfl rfl (by decide) rfl hE hM (qsP (fun z=>Zu z.E Za ld rfl (kr0 rfl)) (qsP (fun z=>Zu z.E Za ld rfl (kr0 rfl)) (qsP (fun z=>YR z.E Za ld rfl rfl Tryz.underlying56 Xp (z.M.rd hv0_1) hi17.1 (kr0 rfl)) (qsP (fun z=>ZX z.E Za ld rfl Xp rfl (Y6 (z.M.rd hv0_1) hi17.2) cq (kr0 rfl)) (qsP (fun z=>Zu z.E Za ld rfl (kr0 rfl)) (qsP (fun z=>Zu z.E Za ld rfl (kr0 rfl)) (qsP (fun z=>YR z.E Za ld rfl rfl Tryz.underlying56 Xp (z.M.rd hv1_1) hi20.1 (kr0 rfl)) (qsP (fun z=>ZX z.E Za ld rfl Xp rfl (Y6 (z.M.rd hv1_1) hi20.2) cq (kr0 rfl)) (qsP (fun z=>Z0 z.E Za ld rfl (cbm Tryz.func152) (zq _ x15 x18 r21 e22) (kc rfl)) (qsP (fun z=>KA z.E Za ld rfl (kr0 rfl)) qs0)))))))))) ?_
     ·intro a w u hE hM
      refine Zg ?_
      obtain rfl:=Option.some.inj hl12
      refine Zk ?_
      exact ⟨hE.sub ⟨rfl,rfl,rfl,rfl,trivial⟩,hM⟩
    ·skip
     rintro a w ⟨hE,hM⟩
     refine Zo hE rfl ?_ ?_
     ·intro hb24
      have hF13:=Zw hF13 hb24
      refine Zb (Zc hE rfl fun a hE=>Ze ?_)
      obtain rfl:=hx8 _ (ois hF13)
      obtain rfl:=Option.some.inj hF4
      exact wp_ret (Yr (Zs (Zs (Yr (Zs (Zs (kr1 hE rfl rfl hM.kept)))))))
     ·intro hb24
      have hF13:=Zx hF13 hb24
      refine wp_skip (Yb (Zt (wp_region_lit (Zd hE rfl fun a hE=>Zh hE rfl rfl rfl fun a hE=>Zc hE rfl fun a hE=>Zg (Zk ?_)))))
      exact ⟨_,(ois hF13),hE.sub ⟨rfl,rfl,rfl,trivial⟩,hM⟩
   ·intro hb10
    have hs7:=Zx hs7 hb10
    refine wp_exit (Zn (Zn (Yd ?_)))
    obtain rfl:=hx8 _ (ois hs7)
    refine Zk ?_
    exact ⟨(),rfl,hE.sub trivial,hM⟩
  ·skip
   rintro a w ⟨s5,ht,hE,hM⟩
   subst ht
   have hF4:=TG hF4
   refine Zt (Zb (Zc hE rfl fun a hE=>Ze ?_))
   obtain rfl:=Option.some.inj hF4
   exact wp_ret (kr1 hE rfl rfl hM.kept)
def Wj (p0 : GVault) (p1 : GVault) : Option (Bool) :=
 (Tb p0.Keys p1.Keys).bind fun r5=>if (!r5) = true then (some false) else (if (p0.Next != p1.Next) = true then (some false) else ((Up p0.Records p1.Records).bind fun r9=>if (!r9) = true then (some false) else ((U6 p0.Events p1.Events).bind fun r12=>if (!r12) = true then (some false) else ((WS p0.Head p1.Head).bind fun r15=>if (!r15) = true then (some false) else (some true)))))
theorem QG (w0 : World) (p0 : GVault) (v0_1 : Value) (hv0_1 : Ro w0 p0.Keys [v0_1]) (v0_2 : Value) (hv0_2 : Ro w0 p0.Records [v0_2]) (v0_3 : Value) (hv0_3 : Ro w0 p0.Events [v0_3]) (p1 : GVault) (v1_1 : Value) (hv1_1 : Ro w0 p1.Keys [v1_1]) (v1_2 : Value) (hv1_2 : Ro w0 p1.Records [v1_2]) (v1_3 : Value) (hv1_3 : Ro w0 p1.Events [v1_3]) (r : Bool) (hF : Wj p0 p1 = some r) :
  Calls Tryz.prog 27 [(Value.agg (cat [[v0_1],[vI p0.Next],[v0_2],[v0_3],enc p0.Head]).toArray),(Value.agg (cat [[v1_1],[vI p1.Next],[v1_2],[v1_3],enc p1.Head]).toArray)].toArray w0 (Rt w0 (vT r)):=by
 refine ce Tryz.func27 ?_
 intro a hE
 have hM:=M.start w0
 unfold Wj at hF
 refine Zb (ZK (cs:=cat [[v0_1],[vI p0.Next],[v0_2],[v0_3],enc p0.Head]) hE hM Za ld rfl rfl fun b1 w a hM hE=>ZK (cs:=cat [[v1_1],[vI p1.Next],[v1_2],[v1_3],enc p1.Head]) hE hM Za ld rfl rfl fun b3 w a hM hE=>Zc hE rfl fun a hE=>Ze (wp_seq (Zb (Zf hE rfl (WZ) fun a hE=>Zy (v:=v0_1) hE rfl Q7 rfl (At.cat (pre:=[]) hM.rawAt1 cl0) fun a hE=>Zf hE rfl (WZ) fun a hE=>Zy (v:=v1_1) hE rfl Q7 rfl (At.cat (pre:=[]) hM.rawAt0 cl0) ?_)))); intro a hE
 obtain ⟨r5,e6,hF⟩:=bind_some hF
 refine Zv hE rfl (cbm Tryz.func91) (AJ _ p0.Keys v0_1 (hM.rdo hv0_1) p1.Keys v1_1 (hM.rdo hv1_1) r5 e6) ?_
 rintro v w a ⟨rfl,hK⟩ hE
 have hM:=hM.keep hK
 refine QO hE rfl fun a hE=>Ze ?_
 refine Zo hE rfl ?_ ?_
 ·intro hb7
  have hF:=Zw hF hb7
  refine Zb (Zc hE rfl fun a hE=>Ze ?_)
  obtain rfl:=Option.some.inj hF
  exact wp_ret (Zs (kr1 hE rfl rfl hM.kept))
 ·intro hb7
  have hF:=Zx hF hb7
  refine wp_skip (Zt (wp_seq (Zb (Zf hE rfl (Ky) fun a hE=>Zy (v:=(vI p0.Next)) hE rfl ty2 rfl (At.cat (pre:=[[v0_1]]) hM.rawAt1 ck) fun a hE=>Zf hE rfl (Ky) fun a hE=>Zy (v:=(vI p1.Next)) hE rfl ty2 rfl (At.cat (pre:=[[v1_1]]) hM.rawAt0 ck) fun a hE=>Zh hE rfl rfl rfl fun a hE=>Ze ?_))))
  refine Zo hE rfl ?_ ?_
  ·intro hb8
   have hF:=Zw hF hb8
   refine Zb (Zc hE rfl fun a hE=>Ze ?_)
   obtain rfl:=Option.some.inj hF
   exact wp_ret (Zs (kr1 hE rfl rfl hM.kept))
  ·intro hb8
   have hF:=Zx hF hb8
   refine wp_skip (Zt (wp_seq (Zb (Zf hE rfl (Y2) fun a hE=>Zy (v:=v0_2) hE rfl Tr rfl (At.cat (pre:=[[v0_1],[vI p0.Next]]) hM.rawAt1 ck) fun a hE=>Zf hE rfl (Y2) fun a hE=>Zy (v:=v1_2) hE rfl Tr rfl (At.cat (pre:=[[v1_1],[vI p1.Next]]) hM.rawAt0 ck) ?_)))); intro a hE
   obtain ⟨r9,e10,hF⟩:=bind_some hF
   refine Zv hE rfl (cbm Tryz.func92) (B4 _ p0.Records v0_2 (hM.rdo hv0_2) p1.Records v1_2 (hM.rdo hv1_2) r9 e10) ?_
   rintro v w a ⟨rfl,hK⟩ hE
   have hM:=hM.keep hK
   refine QO hE rfl fun a hE=>Ze ?_
   refine Zo hE rfl ?_ ?_
   ·intro hb11
    have hF:=Zw hF hb11
    refine Zb (Zc hE rfl fun a hE=>Ze ?_)
    obtain rfl:=Option.some.inj hF
    exact wp_ret (Zs (kr1 hE rfl rfl hM.kept))
   ·intro hb11
    have hF:=Zx hF hb11
    refine wp_skip (Zt (wp_seq (Zb (Zf hE rfl (Us) fun a hE=>Zy (v:=v0_3) hE rfl KJ rfl (At.cat (pre:=[[v0_1],[vI p0.Next],[v0_2]]) hM.rawAt1 ck) fun a hE=>Zf hE rfl (Us) fun a hE=>Zy (v:=v1_3) hE rfl KJ rfl (At.cat (pre:=[[v1_1],[vI p1.Next],[v1_2]]) hM.rawAt0 ck) ?_)))); intro a hE
    obtain ⟨r12,e13,hF⟩:=bind_some hF
    refine Zv hE rfl (cbm Tryz.func93) (AF _ p0.Events v0_3 (hM.rdo hv0_3) p1.Events v1_3 (hM.rdo hv1_3) r12 e13) ?_
    rintro v w a ⟨rfl,hK⟩ hE
    have hM:=hM.keep hK
    refine QO hE rfl fun a hE=>Ze ?_
    refine Zo hE rfl ?_ ?_
    ·intro hb14
     have hF:=Zw hF hb14
     refine Zb (Zc hE rfl fun a hE=>Ze ?_)
     obtain rfl:=Option.some.inj hF
     exact wp_ret (Zs (kr1 hE rfl rfl hM.kept))
    ·intro hb14
     have hF:=Zx hF hb14
     refine wp_skip (Zt (wp_seq (Zb (Zf hE rfl (HF) fun a hE=>Zm hE rfl Ye rfl (At.cat (pre:=[[v0_1],[vI p0.Next],[v0_2],[v0_3]]) hM.rawAt1 ck) (Flat.len _) fun a hE=>Zf hE rfl (HF) fun a hE=>Zm hE rfl Ye rfl (At.cat (pre:=[[v1_1],[vI p1.Next],[v1_2],[v1_3]]) hM.rawAt0 ck) (Flat.len _) ?_)))); intro a hE
     obtain ⟨r15,e16,hF⟩:=bind_some hF
     refine Zv hE rfl cb20 (Q6 _ p0.Head p1.Head r15 e16) ?_
     rintro v w a ⟨rfl,hK⟩ hE
     have hM:=hM.keep hK
     refine QO hE rfl fun a hE=>Ze ?_
     refine Zo hE rfl ?_ ?_
     ·intro hb17
      have hF:=Zw hF hb17
      refine Zb (Zc hE rfl fun a hE=>Ze ?_)
      obtain rfl:=Option.some.inj hF
      exact wp_ret (Zs (kr1 hE rfl rfl hM.kept))
     ·intro hb17
      have hF:=Zx hF hb17
      refine wp_skip (Zt (Zb (Zc hE rfl fun a hE=>Ze ?_)))
      obtain rfl:=Option.some.inj hF
      exact wp_ret (kr1 hE rfl rfl hM.kept)
def UQ (s4 : (List (Vector UInt8 16)) × Int × Int) (s12 : (List (Vector UInt8 16)) × Int × Int) : Option (Fl ((List (Vector UInt8 16)) × Int × Int) ((List (Vector UInt8 16)) × Int)) :=
 if (decide (s12.2.2 < 16)) = true then ((idx s12.1 s4.2.2).bind fun x17=>(ZH x17 s12.2.2).bind fun x21=>some (Fl.nx ((s12.1.set (s4.2.2).toNat (x17.setIfInBounds (s12.2.2).toNat (Zp s12.2.1))),wr (s12.2.1 + 1),wr (s12.2.2 + 1)))) else (some (Fl.ex (s12.1,s12.2.1)))
def Y1 (s4 : (List (Vector UInt8 16)) × Int × Int) : Option (Fl ((List (Vector UInt8 16)) × Int × Int) ((List (Vector UInt8 16)) × Int)) :=
 if (decide (s4.2.2 < (s4.1.length : Int))) = true then ((ZB (UQ s4) (s4.1,s4.2.1,0)).bind fun j9=>some (Fl.nx (j9.1,j9.2,wr (s4.2.2 + 1)))) else (some (Fl.ex (s4.1,s4.2.1)))
def XM (p0 : (List (Vector UInt8 16))) (p1 : Int) : Option ((List (Vector UInt8 16)) × Int) :=
 (ZB (Y1) (p0,p1,0)).bind fun j1=>some (j1.1,j1.2)
theorem BD (St : Nat → Prop) (W w0 : World) (its : List Item) (p0 : (List (Vector UInt8 16))) (v0_1 : Value) (p1 : Int) (hM : M St W w0 (own NoB (p0 : (List (Vector UInt8 16))) [v0_1] :: its)) (r : (List (Vector UInt8 16)) × Int) (hF : XM p0 p1 = some r) :
  Calls Tryz.prog 94 [v0_1,vI p1].toArray w0 (fun en w'=>∃ v,en = .returned v ∧ (v = (vI r.2) ∧ M St W w' (own NoB (r.1 : (List (Vector UInt8 16))) [v0_1] :: its))):=by
 refine ce Tryz.func94 ?_
 intro a hE
 unfold XM at hF
 refine Zb (Zc hE rfl fun a hE=>Ze (wp_seq (Zb (Zc hE rfl fun a hE=>Ze ?_))))
 obtain ⟨j1,hl2,hF3⟩:=bind_some hF
 refine ZM (fun a w=>Env 27 a [(0,v0_1),(1,vI j1.2)] ∧ M St W w (own NoB (j1.1 : (List (Vector UInt8 16))) [v0_1] :: its)) ?_ ?_
 ·skip
  refine wp_block ?_
  refine ZE (fun (s4 : (List (Vector UInt8 16)) × Int × Int) a w=>Env 27 a [(0,v0_1),(1,vI s4.2.1),(5,vI s4.2.2)] ∧ M St W w (own NoB (s4.1 : (List (Vector UInt8 16))) [v0_1] :: its)) hl2 ⟨hE.sub ⟨rfl,rfl,rfl,trivial⟩,hM⟩ ?_
  rintro s4 a w ⟨hE,hM⟩ o7 hs5 hx6
  unfold Y1 at hs5
  refine wp_seq (Zb (Zd hE rfl fun a hE=>Zd hE rfl fun a hE=>Yf hE rfl Tryz.underlying54 (hM.ro (pre:=[]) noB) fun a hE=>Zh hE rfl rfl rfl fun a hE=>Ze ?_))
  refine Zo hE rfl ?_ ?_
  ·intro hb8
   have hs5:=Zw hs5 hb8
   refine wp_skip (Zt (wp_seq (wp_block (Zb (Zc hE rfl fun a hE=>Ze ?_)))))
   obtain ⟨j9,hl10,hF11⟩:=bind_some hs5
   refine ZM (fun a w=>Env 27 a [(0,v0_1),(1,vI j9.2),(5,vI s4.2.2)] ∧ M St W w (own NoB (j9.1 : (List (Vector UInt8 16))) [v0_1] :: its)) ?_ ?_
   ·skip
    refine wp_block ?_
    refine ZE (fun (s12 : (List (Vector UInt8 16)) × Int × Int) a w=>Env 27 a [(0,v0_1),(1,vI s12.2.1),(5,vI s4.2.2),(6,vI s12.2.2)] ∧ M St W w (own NoB (s12.1 : (List (Vector UInt8 16))) [v0_1] :: its)) hl10 ⟨hE.sub ⟨rfl,rfl,rfl,rfl,trivial⟩,hM⟩ ?_
    rintro s12 a w ⟨hE,hM⟩ o15 hs13 hx14
    unfold UQ at hs13
    refine wp_seq (Zb (Zd hE rfl fun a hE=>Zh hE rfl rfl rfl fun a hE=>Ze ?_))
    refine Zo hE rfl ?_ ?_
    ·intro hb16
     have hs13:=Zw hs13 hb16
     refine wp_skip (Zt (wp_seq (wp_block (Zb (Zd hE rfl fun a hE=>Zd hE rfl fun a hE=>Zd hE rfl fun a hE=>Zd hE rfl fun a hE=>Yg hE Za ld rfl Tryz.underlying3 Tryz.underlying5 ?_))))); intro a hE
     obtain ⟨x17,hi19,hs13⟩:=bix hs13
     refine ZL hE rfl rfl Tryz.underlying54 ZC (hM.ro (pre:=[]) noB) hi19.1 ?_; intro a hE
     obtain ⟨x21,hi20,hs13⟩:=bvx hs13
     refine ZD hE rfl rfl Tryz.underlying68 ty5 hi20.1 ?_; intro a hE
     have hM:=hM.toOsl (List.getElem?_eq_some_iff.1 hi19.2).1
     refine QE (i:=(s4.2.2).toNat) (k0:=0 + (s12.2.2).toNat * 1) (seg:=[(vB (Zp s12.2.1))]) (xo:=x17) (xn:=(x17.setIfInBounds (s12.2.2).toNat (Zp s12.2.1))) hE hM Za (A3 rfl (by show _ = _ + _ * 16 + _; omega)) rfl rfl ty5 rfl (Flat.cell (Zp s12.2.1 : UInt8)) hi19.2 (Zcv (x:=Zp s12.2.1) hi20.1) (ZF (v:=x17) (x:=Zp s12.2.1) hi20.1) ?_; intro w a hM hE
     have hM:=hM.toOwn noB
     refine Ze (wp_region_lit (Zd hE rfl fun a hE=>Zh hE rfl rfl rfl fun a hE=>Zc hE rfl fun a hE=>Zg (Yb (Zt (wp_region_lit (Zd hE rfl fun a hE=>Zh hE rfl rfl rfl fun a hE=>Zc hE rfl fun a hE=>Zg (Zk ?_)))))))
     exact ⟨_,(ois hs13),hE.sub ⟨rfl,rfl,rfl,rfl,trivial⟩,hM⟩
    ·intro hb16
     have hs13:=Zx hs13 hb16
     refine wp_exit (Zn (Zn (Yd ?_)))
     obtain rfl:=hx14 _ (ois hs13)
     refine Zk ?_
     exact ⟨hE.sub ⟨rfl,rfl,rfl,trivial⟩,hM⟩
   ·skip
    rintro a w ⟨hE,hM⟩
    refine Yb (Zt (wp_region_lit (Zd hE rfl fun a hE=>Zh hE rfl rfl rfl fun a hE=>Zc hE rfl fun a hE=>Zg (Zk ?_))))
    exact ⟨_,(ois hF11),hE.sub ⟨rfl,rfl,rfl,trivial⟩,hM⟩
  ·intro hb8
   have hs5:=Zx hs5 hb8
   refine wp_exit (Zn (Zn (Yd ?_)))
   obtain rfl:=hx6 _ (ois hs5)
   refine Zk ?_
   exact ⟨hE.sub ⟨rfl,rfl,trivial⟩,hM⟩
 ·skip
  rintro a w ⟨hE,hM⟩
  refine Zt (Zb (Zd hE rfl fun a hE=>Zc hE rfl fun a hE=>Ze ?_))
  obtain rfl:=Option.some.inj hF3
  exact wp_ret (ZJ hE (by rfl) (ZP hE rfl) ⟨_,rfl,rfl,hM⟩)
def Xi (s4 : (List UInt8) × Int × Int) : Option (Fl ((List UInt8) × Int × Int) ((List UInt8) × Int)) :=
 if (decide (s4.2.2 < (s4.1.length : Int))) = true then ((idx s4.1 s4.2.2).bind fun x9=>some (Fl.nx ((s4.1.set (s4.2.2).toNat (Zp s4.2.1)),wr (s4.2.1 + 1),wr (s4.2.2 + 1)))) else (some (Fl.ex (s4.1,s4.2.1)))
def YT (p0 : (List UInt8)) (p1 : Int) : Option ((List UInt8) × Int) :=
 (ZB (Xi) (p0,p1,0)).bind fun j1=>some (j1.1,j1.2)
theorem KU (St : Nat → Prop) (W w0 : World) (its : List Item) (p0 : (List UInt8)) (v0_1 : Value) (p1 : Int) (hM : M St W w0 (own NoB (p0 : (List UInt8)) [v0_1] :: its)) (r : (List UInt8) × Int) (hF : YT p0 p1 = some r) :
  Calls Tryz.prog 22 [v0_1,vI p1].toArray w0 (fun en w'=>∃ v,en = .returned v ∧ (v = (vI r.2) ∧ M St W w' (own NoB (r.1 : (List UInt8)) [v0_1] :: its))):=by
 refine ce Tryz.func22 ?_
 intro a hE
 unfold YT at hF
 refine Zb (Zc hE rfl fun a hE=>Ze (wp_seq (Zb (Zc hE rfl fun a hE=>Ze ?_))))
 obtain ⟨j1,hl2,hF3⟩:=bind_some hF
 refine ZM (fun a w=>Env 20 a [(0,v0_1),(1,vI j1.2)] ∧ M St W w (own NoB (j1.1 : (List UInt8)) [v0_1] :: its)) ?_ ?_
 ·skip
  refine wp_block ?_
  refine ZE (fun (s4 : (List UInt8) × Int × Int) a w=>Env 20 a [(0,v0_1),(1,vI s4.2.1),(5,vI s4.2.2)] ∧ M St W w (own NoB (s4.1 : (List UInt8)) [v0_1] :: its)) hl2 ⟨hE.sub ⟨rfl,rfl,rfl,trivial⟩,hM⟩ ?_
  rintro s4 a w ⟨hE,hM⟩ o7 hs5 hx6
  unfold Xi at hs5
  refine wp_seq (Zb (Zd hE rfl fun a hE=>Zd hE rfl fun a hE=>Yf hE rfl Tryz.underlying40 (hM.ro (pre:=[]) noB) fun a hE=>Zh hE rfl rfl rfl fun a hE=>Ze ?_))
  refine Zo hE rfl ?_ ?_
  ·intro hb8
   have hs5:=Zw hs5 hb8
   refine wp_skip (Zt (wp_seq (wp_block (Zb (Zd hE rfl fun a hE=>Zd hE rfl fun a hE=>Zd hE rfl fun a hE=>Yg hE Za ld rfl Tryz.underlying3 Tryz.underlying5 ?_))))); intro a hE
   obtain ⟨x9,hi11,hs5⟩:=bix hs5
   refine ZL hE rfl rfl Tryz.underlying40 ty5 (hM.ro (pre:=[]) noB) hi11.1 ?_; intro a hE
   have hM:=hM.toOsl (List.getElem?_eq_some_iff.1 hi11.2).1
   refine QE (i:=(s4.2.2).toNat) (k0:=0) (seg:=[(vB (Zp s4.2.1))]) (xo:=x9) (xn:=Zp s4.2.1) hE hM Za rfl rfl rfl ty5 rfl (Flat.cell (Zp s4.2.1 : UInt8)) hi11.2 (Kg (m:=1) rfl (by decide)) (Zi rfl) ?_; intro w a hM hE
   have hM:=hM.toOwn noB
   refine Ze (wp_region_lit (Zd hE rfl fun a hE=>Zh hE rfl rfl rfl fun a hE=>Zc hE rfl fun a hE=>Zg (Yb (Zt (wp_region_lit (Zd hE rfl fun a hE=>Zh hE rfl rfl rfl fun a hE=>Zc hE rfl fun a hE=>Zg (Zk ?_)))))))
   exact ⟨_,(ois hs5),hE.sub ⟨rfl,rfl,rfl,trivial⟩,hM⟩
  ·intro hb8
   have hs5:=Zx hs5 hb8
   refine wp_exit (Zn (Zn (Yd ?_)))
   obtain rfl:=hx6 _ (ois hs5)
   refine Zk ?_
   exact ⟨hE.sub ⟨rfl,rfl,trivial⟩,hM⟩
 ·skip
  rintro a w ⟨hE,hM⟩
  refine Zt (Zb (Zd hE rfl fun a hE=>Zc hE rfl fun a hE=>Ze ?_))
  obtain rfl:=Option.some.inj hF3
  exact wp_ret (ZJ hE (by rfl) (ZP hE rfl) ⟨_,rfl,rfl,hM⟩)
def Ui (s4 : (List GRecord) × Int × Int) (s18 : (List GRecord) × Int × Int) : Option (Fl ((List GRecord) × Int × Int) ((List GRecord) × Int)) :=
 if (decide (s18.2.2 < 16)) = true then ((idx s18.1 s4.2.2).bind fun x23=>(ZH x23.Nonce s18.2.2).bind fun x27=>some (Fl.nx ((s18.1.set (s4.2.2).toNat (⟨x23.Number,x23.Version,(x23.Nonce.setIfInBounds (s18.2.2).toNat (Zp s18.2.1)),x23.Label,x23.Body,x23.Tag⟩ : GRecord)),wr (s18.2.1 + 1),wr (s18.2.2 + 1)))) else (some (Fl.ex (s18.1,s18.2.1)))
def Uk (s4 : (List GRecord) × Int × Int) (s55 : (List GRecord) × Int × Int) : Option (Fl ((List GRecord) × Int × Int) ((List GRecord) × Int)) :=
 if (decide (s55.2.2 < 32)) = true then ((idx s55.1 s4.2.2).bind fun x60=>(ZH x60.Tag s55.2.2).bind fun x64=>some (Fl.nx ((s55.1.set (s4.2.2).toNat (⟨x60.Number,x60.Version,x60.Nonce,x60.Label,x60.Body,(x60.Tag.setIfInBounds (s55.2.2).toNat (Zp s55.2.1))⟩ : GRecord)),wr (s55.2.1 + 1),wr (s55.2.2 + 1)))) else (some (Fl.ex (s55.1,s55.2.1)))
def YV (s4 : (List GRecord) × Int × Int) : Option (Fl ((List GRecord) × Int × Int) ((List GRecord) × Int)) :=
 if (decide (s4.2.2 < (s4.1.length : Int))) = true then ((idx s4.1 s4.2.2).bind fun x9=>(idx (s4.1.set (s4.2.2).toNat (⟨s4.2.1,x9.Version,x9.Nonce,x9.Label,x9.Body,x9.Tag⟩ : GRecord)) s4.2.2).bind fun x12=>(ZB (Ui s4) (((s4.1.set (s4.2.2).toNat (⟨s4.2.1,x9.Version,x9.Nonce,x9.Label,x9.Body,x9.Tag⟩ : GRecord)).set (s4.2.2).toNat (⟨x12.Number,wr (s4.2.1 + 1),x12.Nonce,x12.Label,x12.Body,x12.Tag⟩ : GRecord)),wr ((wr (s4.2.1 + 1)) + 1),0)).bind fun j15=>(idx j15.1 s4.2.2).bind fun x30=>(YT x30.Label j15.2).bind fun r39=>(idx (j15.1.set (s4.2.2).toNat (⟨x30.Number,x30.Version,x30.Nonce,r39.1,x30.Body,x30.Tag⟩ : GRecord)) s4.2.2).bind fun x41=>(YT x41.Body r39.2).bind fun r50=>(ZB (Uk s4) (((j15.1.set (s4.2.2).toNat (⟨x30.Number,x30.Version,x30.Nonce,r39.1,x30.Body,x30.Tag⟩ : GRecord)).set (s4.2.2).toNat (⟨x41.Number,x41.Version,x41.Nonce,x41.Label,r50.1,x41.Tag⟩ : GRecord)),r50.2,0)).bind fun j52=>some (Fl.nx (j52.1,j52.2,wr (s4.2.2 + 1)))) else (some (Fl.ex (s4.1,s4.2.1)))
def Xv (p0 : (List GRecord)) (p1 : Int) : Option ((List GRecord) × Int) :=
 (ZB (YV) (p0,p1,0)).bind fun j1=>some (j1.1,j1.2)
theorem HU (St : Nat → Prop) (W w0 : World) (its : List Item) (p0 : (List GRecord)) (v0_1 : Value) (p1 : Int) (hM : M St W w0 (own NoB (p0 : (List GRecord)) [v0_1] :: its)) (r : (List GRecord) × Int) (hF : Xv p0 p1 = some r) :
  Calls Tryz.prog 95 [v0_1,vI p1].toArray w0 (fun en w'=>∃ v,en = .returned v ∧ (v = (vI r.2) ∧ M St W w' (own NoB (r.1 : (List GRecord)) [v0_1] :: its))):=by
 refine ce Tryz.func95 ?_
 intro a hE
 unfold Xv at hF
 refine Zb (Zc hE rfl fun a hE=>Ze (wp_seq (Zb (Zc hE rfl fun a hE=>Ze ?_))))
 obtain ⟨j1,hl2,hF3⟩:=bind_some hF
 refine ZM (fun a w=>Env 71 a [(0,v0_1),(1,vI j1.2)] ∧ M St W w (own NoB (j1.1 : (List GRecord)) [v0_1] :: its)) ?_ ?_
 ·skip
  refine wp_block ?_
  refine ZE (fun (s4 : (List GRecord) × Int × Int) a w=>Env 71 a [(0,v0_1),(1,vI s4.2.1),(5,vI s4.2.2)] ∧ M St W w (own NoB (s4.1 : (List GRecord)) [v0_1] :: its)) hl2 ⟨hE.sub ⟨rfl,rfl,rfl,trivial⟩,hM⟩ ?_
  rintro s4 a w ⟨hE,hM⟩ o7 hs5 hx6
  unfold YV at hs5
  refine wp_seq (Zb (Zd hE rfl fun a hE=>Zd hE rfl fun a hE=>Yf hE rfl Tryz.underlying55 (hM.ro (pre:=[]) noB) fun a hE=>Zh hE rfl rfl rfl fun a hE=>Ze ?_))
  refine Zo hE rfl ?_ ?_
  ·intro hb8
   have hs5:=Zw hs5 hb8
   refine wp_skip (Zt (wp_seq (wp_block (Zb (Zd hE rfl fun a hE=>Zd hE rfl fun a hE=>Zd hE rfl ?_))))); intro a hE
   obtain ⟨x9,hi11,hs5⟩:=bix hs5
   refine ZL hE rfl rfl Tryz.underlying55 ZV (hM.ro (pre:=[]) noB) hi11.1 fun a hE=>Zf hE rfl (VS) ?_; intro a hE
   have hM:=hM.toOsl (List.getElem?_eq_some_iff.1 hi11.2).1
   refine Hb (i:=(s4.2.2).toNat) (k0:=0 + 0) (seg:=[vI s4.2.1]) (xo:=x9) (xn:=(⟨s4.2.1,x9.Version,x9.Nonce,x9.Label,x9.Body,x9.Tag⟩ : GRecord)) hE hM noB Za rfl rfl rfl ty2 rfl (Flat.cell (s4.2.1 : Int)) hi11.2 (Kg (m:=1) rfl (by decide)) (fun S w cs f h=>by obtain ⟨y1,y2,_,_,rfl,rfl,s1,s2⟩:=VV h; exact Bt (ZR (pre:=[]) cl0 rfl) (Vg s1 s2 (by simp))) ?_; intro w a hM hE
   have hM:=hM.toOwn noB
   refine Ze (Zb (Zd hE rfl fun a hE=>Zh hE rfl rfl rfl fun a hE=>Zc hE rfl fun a hE=>Ze (Zb (Zd hE rfl fun a hE=>Zd hE rfl fun a hE=>Zd hE rfl ?_)))); intro a hE
   obtain ⟨x12,hi14,hs5⟩:=bix hs5
   refine ZL hE rfl rfl Tryz.underlying55 ZV (hM.ro (pre:=[]) noB) hi14.1 fun a hE=>Zf hE rfl (WE) ?_; intro a hE
   have hM:=hM.toOsl (List.getElem?_eq_some_iff.1 hi14.2).1
   refine Hb (i:=(s4.2.2).toNat) (k0:=0 + 1) (seg:=[(vI (wr (s4.2.1 + 1)))]) (xo:=x12) (xn:=(⟨x12.Number,wr (s4.2.1 + 1),x12.Nonce,x12.Label,x12.Body,x12.Tag⟩ : GRecord)) hE hM noB Za rfl rfl rfl ty2 rfl (Flat.cell (wr (s4.2.1 + 1) : Int)) hi14.2 (Kg (m:=1) rfl (by decide)) (fun S w cs f h=>by obtain ⟨y1,y2,_,_,rfl,rfl,s1,s2⟩:=VV h; exact Bt (ZR (pre:=[[vI x12.Number]]) ck rfl) (Vg s1 s2 (by simp))) ?_; intro w a hM hE
   have hM:=hM.toOwn noB
   refine Ze (Zb (Zd hE rfl fun a hE=>Zh hE rfl rfl rfl fun a hE=>Zc hE rfl fun a hE=>Ze (wp_seq (Zb (Zc hE rfl fun a hE=>Ze ?_)))))
   obtain ⟨j15,hl16,hF17⟩:=bind_some hs5
   refine ZM (fun a w=>Env 71 a [(0,v0_1),(1,vI j15.2),(5,vI s4.2.2)] ∧ M St W w (own NoB (j15.1 : (List GRecord)) [v0_1] :: its)) ?_ ?_
   ·skip
    refine wp_block ?_
    refine ZE (fun (s18 : (List GRecord) × Int × Int) a w=>Env 71 a [(0,v0_1),(1,vI s18.2.1),(5,vI s4.2.2),(6,vI s18.2.2)] ∧ M St W w (own NoB (s18.1 : (List GRecord)) [v0_1] :: its)) hl16 ⟨hE.sub ⟨rfl,rfl,rfl,rfl,trivial⟩,hM⟩ ?_
    rintro s18 a w ⟨hE,hM⟩ o21 hs19 hx20
    unfold Ui at hs19
    refine wp_seq (Zb (Zd hE rfl fun a hE=>Zh hE rfl rfl rfl fun a hE=>Ze ?_))
    refine Zo hE rfl ?_ ?_
    ·intro hb22
     have hs19:=Zw hs19 hb22
     refine wp_skip (Zt (wp_seq (wp_block (Zb (Zd hE rfl fun a hE=>Zd hE rfl fun a hE=>Zd hE rfl fun a hE=>Zd hE rfl fun a hE=>Yg hE Za ld rfl Tryz.underlying3 Tryz.underlying5 ?_))))); intro a hE
     obtain ⟨x23,hi25,hs19⟩:=bix hs19
     refine ZL hE rfl rfl Tryz.underlying55 ZV (hM.ro (pre:=[]) noB) hi25.1 fun a hE=>Zf hE rfl (Qf) ?_; intro a hE
     obtain ⟨x27,hi26,hs19⟩:=bvx hs19
     refine ZD hE rfl rfl Tryz.underlying68 ty5 hi26.1 ?_; intro a hE
     have hM:=hM.toOsl (List.getElem?_eq_some_iff.1 hi25.2).1
     refine Hb (i:=(s4.2.2).toNat) (k0:=0 + 2 + (s18.2.2).toNat * 1) (seg:=[(vB (Zp s18.2.1))]) (xo:=x23) (xn:=(⟨x23.Number,x23.Version,(x23.Nonce.setIfInBounds (s18.2.2).toNat (Zp s18.2.1)),x23.Label,x23.Body,x23.Tag⟩ : GRecord)) hE hM noB Za (A3 rfl (by show _ = _ + _ * 52 + _; omega)) rfl rfl ty5 rfl (Flat.cell (Zp s18.2.1 : UInt8)) hi25.2 (zB (m:=1) hi26.1 rfl (by decide)) (fun S w cs f h=>by obtain ⟨y1,y2,_,_,rfl,rfl,s1,s2⟩:=VV h; exact Bt (UM (o':=0 + (s18.2.2).toNat * 1) (pre:=[[vI x23.Number],[vI x23.Version]]) (seg:=enc x23.Nonce) (post:=[[y1],[y2],enc x23.Tag]) ck (ZQ (v:=x23.Nonce) (x:=Zp s18.2.1) hi26.1) (ZF (v:=x23.Nonce) (x:=Zp s18.2.1) hi26.1) (by first | omega | (simp only [Flat.n] <;> omega))) (Vg s1 s2 (by simp))) ?_; intro w a hM hE
     have hM:=hM.toOwn noB
     refine Ze (wp_region_lit (Zd hE rfl fun a hE=>Zh hE rfl rfl rfl fun a hE=>Zc hE rfl fun a hE=>Zg (Yb (Zt (wp_region_lit (Zd hE rfl fun a hE=>Zh hE rfl rfl rfl fun a hE=>Zc hE rfl fun a hE=>Zg (Zk ?_)))))))
     exact ⟨_,(ois hs19),hE.sub ⟨rfl,rfl,rfl,rfl,trivial⟩,hM⟩
    ·intro hb22
     have hs19:=Zx hs19 hb22
     refine wp_exit (Zn (Zn (Yd ?_)))
     obtain rfl:=hx20 _ (ois hs19)
     refine Zk ?_
     exact ⟨hE.sub ⟨rfl,rfl,rfl,trivial⟩,hM⟩
   ·skip
    rintro a w ⟨hE,hM⟩
    refine Zt (Zb (Zd hE rfl fun a hE=>Zd hE rfl ?_)); intro a hE
    obtain ⟨x30,hi32,hF17⟩:=bix hF17
    refine ZL hE rfl rfl Tryz.underlying55 ZV (hM.ro (pre:=[]) noB) hi32.1 fun a hE=>Zf hE rfl (V2) ?_; intro a hE
    have hM:=(hM.toOsl (List.getElem?_eq_some_iff.1 hi32.2).1).open1 noB hi32.2
    obtain ⟨cs33,hM,hA34⟩:=hM
    obtain ⟨_,hx,_⟩:=hM.head
    obtain ⟨u35,u36,_,_,rfl,_,_,_⟩:=VV hx
    have hM:=hM.unpackL (m:=[own NoB (x30.Label : (List UInt8)) [u35],own NoB (x30.Body : (List UInt8)) [u36]]) (fun fp h=>by obtain ⟨_,_,rfl,s1,s2⟩:=JJ h; exact (Xt.cons (XH noB) s1 (Xt.one (XH noB) s2)))
    simp only [List.cons_append,List.nil_append] at hM
    refine Zy (v:=u35) hE rfl Wh rfl (At.cat (pre:=[[vI x30.Number],[vI x30.Version],enc x30.Nonce]) hA34 ck) fun a hE=>Zd hE rfl ?_; intro a hE
    obtain ⟨r39,e40,hF17⟩:=bind_some hF17
    refine Zv hE rfl (cbm Tryz.func22) (KU _ _ _ _ x30.Label u35 j15.2 hM r39 e40) ?_
    rintro v w a ⟨rfl,hM⟩ hE
    have hM:=hM.pull2.pull2.pull2
    have hM:=hM.packL (m:=[own NoB (r39.1 : (List UInt8)) [u35],own NoB (x30.Body : (List UInt8)) [u36]]) (it:=own NoB (⟨x30.Number,x30.Version,x30.Nonce,r39.1,x30.Body,x30.Tag⟩ : GRecord) (cat [[vI x30.Number],[vI x30.Version],enc x30.Nonce,[u35],[u36],enc x30.Tag])) (XH noB) (fun fp h=>by obtain ⟨_,_,rfl,_,s1,_,_,rfl,_,s2,rfl⟩:=h; exact Vg s1 s2 (by simp))
    have hM:=(hM.close1 noB).toOwn noB
    refine Zc hE rfl fun a hE=>Ze (Zb (Zd hE rfl fun a hE=>Zd hE rfl ?_)); intro a hE
    obtain ⟨x41,hi43,hF17⟩:=bix hF17
    refine ZL hE rfl rfl Tryz.underlying55 ZV (hM.ro (pre:=[]) noB) hi43.1 fun a hE=>Zf hE rfl (V1) ?_; intro a hE
    have hM:=(hM.toOsl (List.getElem?_eq_some_iff.1 hi43.2).1).open1 noB hi43.2
    obtain ⟨cs44,hM,hA45⟩:=hM
    obtain ⟨_,hx,_⟩:=hM.head
    obtain ⟨u46,u47,_,_,rfl,_,_,_⟩:=VV hx
    have hM:=hM.unpackL (m:=[own NoB (x41.Label : (List UInt8)) [u46],own NoB (x41.Body : (List UInt8)) [u47]]) (fun fp h=>by obtain ⟨_,_,rfl,s1,s2⟩:=JJ h; exact (Xt.cons (XH noB) s1 (Xt.one (XH noB) s2)))
    simp only [List.cons_append,List.nil_append] at hM
    refine Zy (v:=u47) hE rfl Wh rfl (At.cat (pre:=[[vI x41.Number],[vI x41.Version],enc x41.Nonce,[u46]]) hA45 ck) fun a hE=>Zd hE rfl ?_; intro a hE
    have hM:=hM.pull1
    obtain ⟨r50,e51,hF17⟩:=bind_some hF17
    refine Zv hE rfl (cbm Tryz.func22) (KU _ _ _ _ x41.Body u47 r39.2 hM r50 e51) ?_
    rintro v w a ⟨rfl,hM⟩ hE
    have hM:=hM.pull2.pull1.pull2
    have hM:=hM.packL (m:=[own NoB (x41.Label : (List UInt8)) [u46],own NoB (r50.1 : (List UInt8)) [u47]]) (it:=own NoB (⟨x41.Number,x41.Version,x41.Nonce,x41.Label,r50.1,x41.Tag⟩ : GRecord) (cat [[vI x41.Number],[vI x41.Version],enc x41.Nonce,[u46],[u47],enc x41.Tag])) (XH noB) (fun fp h=>by obtain ⟨_,_,rfl,_,s1,_,_,rfl,_,s2,rfl⟩:=h; exact Vg s1 s2 (by simp))
    have hM:=(hM.close1 noB).toOwn noB
    refine Zc hE rfl fun a hE=>Ze (Zb (Zc hE rfl fun a hE=>Ze ?_))
    obtain ⟨j52,hl53,hF54⟩:=bind_some hF17
    refine ZM (fun a w=>Env 71 a [(0,v0_1),(1,vI j52.2),(5,vI s4.2.2)] ∧ M St W w (own NoB (j52.1 : (List GRecord)) [v0_1] :: its)) ?_ ?_
    ·skip
     refine wp_block ?_
     refine ZE (fun (s55 : (List GRecord) × Int × Int) a w=>Env 71 a [(0,v0_1),(1,vI s55.2.1),(5,vI s4.2.2),(7,vI s55.2.2)] ∧ M St W w (own NoB (s55.1 : (List GRecord)) [v0_1] :: its)) hl53 ⟨hE.sub ⟨rfl,rfl,rfl,rfl,trivial⟩,hM⟩ ?_
     rintro s55 a w ⟨hE,hM⟩ o58 hs56 hx57
     unfold Uk at hs56
     refine wp_seq (Zb (Zd hE rfl fun a hE=>Zh hE rfl rfl rfl fun a hE=>Ze ?_))
     refine Zo hE rfl ?_ ?_
     ·intro hb59
      have hs56:=Zw hs56 hb59
      refine wp_skip (Zt (wp_seq (wp_block (Zb (Zd hE rfl fun a hE=>Zd hE rfl fun a hE=>Zd hE rfl fun a hE=>Zd hE rfl fun a hE=>Yg hE Za ld rfl Tryz.underlying3 Tryz.underlying5 ?_))))); intro a hE
      obtain ⟨x60,hi62,hs56⟩:=bix hs56
      refine ZL hE rfl rfl Tryz.underlying55 ZV (hM.ro (pre:=[]) noB) hi62.1 fun a hE=>Zf hE rfl (Qg) ?_; intro a hE
      obtain ⟨x64,hi63,hs56⟩:=bvx hs56
      refine ZD hE rfl rfl Tryz.underlying35 ty5 hi63.1 ?_; intro a hE
      have hM:=hM.toOsl (List.getElem?_eq_some_iff.1 hi62.2).1
      refine Hb (i:=(s4.2.2).toNat) (k0:=0 + 20 + (s55.2.2).toNat * 1) (seg:=[(vB (Zp s55.2.1))]) (xo:=x60) (xn:=(⟨x60.Number,x60.Version,x60.Nonce,x60.Label,x60.Body,(x60.Tag.setIfInBounds (s55.2.2).toNat (Zp s55.2.1))⟩ : GRecord)) hE hM noB Za (A3 rfl (by show _ = _ + _ * 52 + _; omega)) rfl rfl ty5 rfl (Flat.cell (Zp s55.2.1 : UInt8)) hi62.2 (zB (m:=1) hi63.1 rfl (by decide)) (fun S w cs f h=>by obtain ⟨y1,y2,_,_,rfl,rfl,s1,s2⟩:=VV h; exact Bt (UM (o':=0 + (s55.2.2).toNat * 1) (pre:=[[vI x60.Number],[vI x60.Version],enc x60.Nonce,[y1],[y2]]) (seg:=enc x60.Tag) (post:=[]) ck (ZQ (v:=x60.Tag) (x:=Zp s55.2.1) hi63.1) (ZF (v:=x60.Tag) (x:=Zp s55.2.1) hi63.1) (by first | omega | (simp only [Flat.n] <;> omega))) (Vg s1 s2 (by simp))) ?_; intro w a hM hE
      have hM:=hM.toOwn noB
      refine Ze (wp_region_lit (Zd hE rfl fun a hE=>Zh hE rfl rfl rfl fun a hE=>Zc hE rfl fun a hE=>Zg (Yb (Zt (wp_region_lit (Zd hE rfl fun a hE=>Zh hE rfl rfl rfl fun a hE=>Zc hE rfl fun a hE=>Zg (Zk ?_)))))))
      exact ⟨_,(ois hs56),hE.sub ⟨rfl,rfl,rfl,rfl,trivial⟩,hM⟩
     ·intro hb59
      have hs56:=Zx hs56 hb59
      refine wp_exit (Zn (Zn (Yd ?_)))
      obtain rfl:=hx57 _ (ois hs56)
      refine Zk ?_
      exact ⟨hE.sub ⟨rfl,rfl,rfl,trivial⟩,hM⟩
    ·skip
     rintro a w ⟨hE,hM⟩
     refine Yb (Zt (wp_region_lit (Zd hE rfl fun a hE=>Zh hE rfl rfl rfl fun a hE=>Zc hE rfl fun a hE=>Zg (Zk ?_))))
     exact ⟨_,(ois hF54),hE.sub ⟨rfl,rfl,rfl,trivial⟩,hM⟩
  ·intro hb8
   have hs5:=Zx hs5 hb8
   refine wp_exit (Zn (Zn (Yd ?_)))
   obtain rfl:=hx6 _ (ois hs5)
   refine Zk ?_
   exact ⟨hE.sub ⟨rfl,rfl,trivial⟩,hM⟩
 ·skip
  rintro a w ⟨hE,hM⟩
  refine Zt (Zb (Zd hE rfl fun a hE=>Zc hE rfl fun a hE=>Ze ?_))
  obtain rfl:=Option.some.inj hF3
  exact wp_ret (ZJ hE (by rfl) (ZP hE rfl) ⟨_,rfl,rfl,hM⟩)
def UV (s4 : (List GEvent) × Int × Int) (s18 : (List GEvent) × Int × Int) : Option (Fl ((List GEvent) × Int × Int) ((List GEvent) × Int)) :=
 if (decide (s18.2.2 < 32)) = true then ((idx s18.1 s4.2.2).bind fun x23=>(ZH x23.Tag s18.2.2).bind fun x27=>some (Fl.nx ((s18.1.set (s4.2.2).toNat (⟨x23.Kind,x23.Number,(x23.Tag.setIfInBounds (s18.2.2).toNat (Zp s18.2.1))⟩ : GEvent)),wr (s18.2.1 + 1),wr (s18.2.2 + 1)))) else (some (Fl.ex (s18.1,s18.2.1)))
def Y4 (s4 : (List GEvent) × Int × Int) : Option (Fl ((List GEvent) × Int × Int) ((List GEvent) × Int)) :=
 if (decide (s4.2.2 < (s4.1.length : Int))) = true then ((idx s4.1 s4.2.2).bind fun x9=>(idx (s4.1.set (s4.2.2).toNat (⟨s4.2.1,x9.Number,x9.Tag⟩ : GEvent)) s4.2.2).bind fun x12=>(ZB (UV s4) (((s4.1.set (s4.2.2).toNat (⟨s4.2.1,x9.Number,x9.Tag⟩ : GEvent)).set (s4.2.2).toNat (⟨x12.Kind,wr (s4.2.1 + 1),x12.Tag⟩ : GEvent)),wr ((wr (s4.2.1 + 1)) + 1),0)).bind fun j15=>some (Fl.nx (j15.1,j15.2,wr (s4.2.2 + 1)))) else (some (Fl.ex (s4.1,s4.2.1)))
def XI (p0 : (List GEvent)) (p1 : Int) : Option ((List GEvent) × Int) :=
 (ZB (Y4) (p0,p1,0)).bind fun j1=>some (j1.1,j1.2)
theorem Ba (St : Nat → Prop) (W w0 : World) (its : List Item) (p0 : (List GEvent)) (v0_1 : Value) (p1 : Int) (hM : M St W w0 (own NoB (p0 : (List GEvent)) [v0_1] :: its)) (r : (List GEvent) × Int) (hF : XI p0 p1 = some r) :
  Calls Tryz.prog 96 [v0_1,vI p1].toArray w0 (fun en w'=>∃ v,en = .returned v ∧ (v = (vI r.2) ∧ M St W w' (own NoB (r.1 : (List GEvent)) [v0_1] :: its))):=by
 refine ce Tryz.func96 ?_
 intro a hE
 unfold XI at hF
 refine Zb (Zc hE rfl fun a hE=>Ze (wp_seq (Zb (Zc hE rfl fun a hE=>Ze ?_))))
 obtain ⟨j1,hl2,hF3⟩:=bind_some hF
 refine ZM (fun a w=>Env 42 a [(0,v0_1),(1,vI j1.2)] ∧ M St W w (own NoB (j1.1 : (List GEvent)) [v0_1] :: its)) ?_ ?_
 ·skip
  refine wp_block ?_
  refine ZE (fun (s4 : (List GEvent) × Int × Int) a w=>Env 42 a [(0,v0_1),(1,vI s4.2.1),(5,vI s4.2.2)] ∧ M St W w (own NoB (s4.1 : (List GEvent)) [v0_1] :: its)) hl2 ⟨hE.sub ⟨rfl,rfl,rfl,trivial⟩,hM⟩ ?_
  rintro s4 a w ⟨hE,hM⟩ o7 hs5 hx6
  unfold Y4 at hs5
  refine wp_seq (Zb (Zd hE rfl fun a hE=>Zd hE rfl fun a hE=>Yf hE rfl Tryz.underlying56 (hM.ro (pre:=[]) noB) fun a hE=>Zh hE rfl rfl rfl fun a hE=>Ze ?_))
  refine Zo hE rfl ?_ ?_
  ·intro hb8
   have hs5:=Zw hs5 hb8
   refine wp_skip (Zt (wp_seq (wp_block (Zb (Zd hE rfl fun a hE=>Zd hE rfl fun a hE=>Zd hE rfl ?_))))); intro a hE
   obtain ⟨x9,hi11,hs5⟩:=bix hs5
   refine ZL hE rfl rfl Tryz.underlying56 Xp (hM.ro (pre:=[]) noB) hi11.1 fun a hE=>Zf hE rfl (Ke) ?_; intro a hE
   have hM:=hM.toOsl (List.getElem?_eq_some_iff.1 hi11.2).1
   refine QE (i:=(s4.2.2).toNat) (k0:=0 + 0) (seg:=[vI s4.2.1]) (xo:=x9) (xn:=(⟨s4.2.1,x9.Number,x9.Tag⟩ : GEvent)) hE hM Za rfl rfl rfl ty2 rfl (Flat.cell (s4.2.1 : Int)) hi11.2 (Kg (m:=1) rfl (by decide)) (ZR (pre:=[]) cl0 rfl) ?_; intro w a hM hE
   have hM:=hM.toOwn noB
   refine Ze (Zb (Zd hE rfl fun a hE=>Zh hE rfl rfl rfl fun a hE=>Zc hE rfl fun a hE=>Ze (Zb (Zd hE rfl fun a hE=>Zd hE rfl fun a hE=>Zd hE rfl ?_)))); intro a hE
   obtain ⟨x12,hi14,hs5⟩:=bix hs5
   refine ZL hE rfl rfl Tryz.underlying56 Xp (hM.ro (pre:=[]) noB) hi14.1 fun a hE=>Zf hE rfl (Kl) ?_; intro a hE
   have hM:=hM.toOsl (List.getElem?_eq_some_iff.1 hi14.2).1
   refine QE (i:=(s4.2.2).toNat) (k0:=0 + 1) (seg:=[(vI (wr (s4.2.1 + 1)))]) (xo:=x12) (xn:=(⟨x12.Kind,wr (s4.2.1 + 1),x12.Tag⟩ : GEvent)) hE hM Za rfl rfl rfl ty2 rfl (Flat.cell (wr (s4.2.1 + 1) : Int)) hi14.2 (Kg (m:=1) rfl (by decide)) (ZR (pre:=[[vI x12.Kind]]) ck rfl) ?_; intro w a hM hE
   have hM:=hM.toOwn noB
   refine Ze (Zb (Zd hE rfl fun a hE=>Zh hE rfl rfl rfl fun a hE=>Zc hE rfl fun a hE=>Ze (Zb (Zc hE rfl fun a hE=>Ze ?_))))
   obtain ⟨j15,hl16,hF17⟩:=bind_some hs5
   refine ZM (fun a w=>Env 42 a [(0,v0_1),(1,vI j15.2),(5,vI s4.2.2)] ∧ M St W w (own NoB (j15.1 : (List GEvent)) [v0_1] :: its)) ?_ ?_
   ·skip
    refine wp_block ?_
    refine ZE (fun (s18 : (List GEvent) × Int × Int) a w=>Env 42 a [(0,v0_1),(1,vI s18.2.1),(5,vI s4.2.2),(6,vI s18.2.2)] ∧ M St W w (own NoB (s18.1 : (List GEvent)) [v0_1] :: its)) hl16 ⟨hE.sub ⟨rfl,rfl,rfl,rfl,trivial⟩,hM⟩ ?_
    rintro s18 a w ⟨hE,hM⟩ o21 hs19 hx20
    unfold UV at hs19
    refine wp_seq (Zb (Zd hE rfl fun a hE=>Zh hE rfl rfl rfl fun a hE=>Ze ?_))
    refine Zo hE rfl ?_ ?_
    ·intro hb22
     have hs19:=Zw hs19 hb22
     refine wp_skip (Zt (wp_seq (wp_block (Zb (Zd hE rfl fun a hE=>Zd hE rfl fun a hE=>Zd hE rfl fun a hE=>Zd hE rfl fun a hE=>Yg hE Za ld rfl Tryz.underlying3 Tryz.underlying5 ?_))))); intro a hE
     obtain ⟨x23,hi25,hs19⟩:=bix hs19
     refine ZL hE rfl rfl Tryz.underlying56 Xp (hM.ro (pre:=[]) noB) hi25.1 fun a hE=>Zf hE rfl (K2) ?_; intro a hE
     obtain ⟨x27,hi26,hs19⟩:=bvx hs19
     refine ZD hE rfl rfl Tryz.underlying35 ty5 hi26.1 ?_; intro a hE
     have hM:=hM.toOsl (List.getElem?_eq_some_iff.1 hi25.2).1
     refine QE (i:=(s4.2.2).toNat) (k0:=0 + 2 + (s18.2.2).toNat * 1) (seg:=[(vB (Zp s18.2.1))]) (xo:=x23) (xn:=(⟨x23.Kind,x23.Number,(x23.Tag.setIfInBounds (s18.2.2).toNat (Zp s18.2.1))⟩ : GEvent)) hE hM Za (A3 rfl (by show _ = _ + _ * 34 + _; omega)) rfl rfl ty5 rfl (Flat.cell (Zp s18.2.1 : UInt8)) hi25.2 (zB (m:=1) hi26.1 rfl (by decide)) (UM (o':=0 + (s18.2.2).toNat * 1) (pre:=[[vI x23.Kind],[vI x23.Number]]) (seg:=enc x23.Tag) (post:=[]) ck (ZQ (v:=x23.Tag) (x:=Zp s18.2.1) hi26.1) (ZF (v:=x23.Tag) (x:=Zp s18.2.1) hi26.1) (by first | omega | (simp only [Flat.n] <;> omega))) ?_; intro w a hM hE
     have hM:=hM.toOwn noB
     refine Ze (wp_region_lit (Zd hE rfl fun a hE=>Zh hE rfl rfl rfl fun a hE=>Zc hE rfl fun a hE=>Zg (Yb (Zt (wp_region_lit (Zd hE rfl fun a hE=>Zh hE rfl rfl rfl fun a hE=>Zc hE rfl fun a hE=>Zg (Zk ?_)))))))
     exact ⟨_,(ois hs19),hE.sub ⟨rfl,rfl,rfl,rfl,trivial⟩,hM⟩
    ·intro hb22
     have hs19:=Zx hs19 hb22
     refine wp_exit (Zn (Zn (Yd ?_)))
     obtain rfl:=hx20 _ (ois hs19)
     refine Zk ?_
     exact ⟨hE.sub ⟨rfl,rfl,rfl,trivial⟩,hM⟩
   ·skip
    rintro a w ⟨hE,hM⟩
    refine Yb (Zt (wp_region_lit (Zd hE rfl fun a hE=>Zh hE rfl rfl rfl fun a hE=>Zc hE rfl fun a hE=>Zg (Zk ?_))))
    exact ⟨_,(ois hF17),hE.sub ⟨rfl,rfl,rfl,trivial⟩,hM⟩
  ·intro hb8
   have hs5:=Zx hs5 hb8
   refine wp_exit (Zn (Zn (Yd ?_)))
   obtain rfl:=hx6 _ (ois hs5)
   refine Zk ?_
   exact ⟨hE.sub ⟨rfl,rfl,trivial⟩,hM⟩
 ·skip
  rintro a w ⟨hE,hM⟩
  refine Zt (Zb (Zd hE rfl fun a hE=>Zc hE rfl fun a hE=>Ze ?_))
  obtain rfl:=Option.some.inj hF3
  exact wp_ret (ZJ hE (by rfl) (ZP hE rfl) ⟨_,rfl,rfl,hM⟩)
def XB (p0 : GVault) (p1 : Int) : Option (GVault × Int) :=
 (XM p0.Keys p1).bind fun r3=>(Xv p0.Records r3.2).bind fun r5=>(XI p0.Events r5.2).bind fun r7=>some ((⟨r3.1,p0.Next,r5.1,r7.1,p0.Head⟩ : GVault),r7.2)
theorem KP (St : Nat → Prop) (W w0 : World) (its : List Item) (p0 : GVault) (v0_1 : Value) (v0_2 : Value) (v0_3 : Value) (p1 : Int) (hM : M St W w0 (own NoB (p0.Keys : (List (Vector UInt8 16))) [v0_1] :: own NoB (p0.Records : (List GRecord)) [v0_2] :: own NoB (p0.Events : (List GEvent)) [v0_3] :: its)) (r : GVault × Int) (hF : XB p0 p1 = some r) :
  Calls Tryz.prog 28 [(Value.agg (cat [[v0_1],[vI p0.Next],[v0_2],[v0_3],enc p0.Head]).toArray),vI p1].toArray w0 (fun en w'=>∃ v,en = .returned v ∧ (v = (vI r.2) ∧ M St W w' (own NoB (r.1.Keys : (List (Vector UInt8 16))) [v0_1] :: own NoB (r.1.Records : (List GRecord)) [v0_2] :: own NoB (r.1.Events : (List GEvent)) [v0_3] :: its))):=by
 refine ce Tryz.func28 ?_
 intro a hE
 unfold XB at hF
 refine Zb (ZK (cs:=cat [[v0_1],[vI p0.Next],[v0_2],[v0_3],enc p0.Head]) hE hM Za ld rfl rfl fun b1 w a hM hE=>Zc hE rfl fun a hE=>Ze (Zb (Zf hE rfl (WZ) fun a hE=>Zy (v:=v0_1) hE rfl Q7 rfl (At.cat (pre:=[]) hM.rawAt0 cl0) fun a hE=>Zd hE rfl ?_))); intro a hE
 have hM:=hM.pull1
 obtain ⟨r3,e4,hF⟩:=bind_some hF
 refine Zv hE rfl (cbm Tryz.func94) (BD _ _ _ _ p0.Keys v0_1 p1 hM r3 e4) ?_
 rintro v w a ⟨rfl,hM⟩ hE
 refine Zc hE rfl fun a hE=>Ze (Zb (Zf hE rfl (Y2) fun a hE=>Zy (v:=v0_2) hE rfl Tr rfl (At.cat (pre:=[[v0_1],[vI p0.Next]]) hM.rawAt1 ck) fun a hE=>Zd hE rfl ?_)); intro a hE
 have hM:=hM.pull2
 obtain ⟨r5,e6,hF⟩:=bind_some hF
 refine Zv hE rfl (cbm Tryz.func95) (HU _ _ _ _ p0.Records v0_2 r3.2 hM r5 e6) ?_
 rintro v w a ⟨rfl,hM⟩ hE
 refine Zc hE rfl fun a hE=>Ze (Zb (Zf hE rfl (Us) fun a hE=>Zy (v:=v0_3) hE rfl KJ rfl (At.cat (pre:=[[v0_1],[vI p0.Next],[v0_2]]) hM.rawAt2 ck) fun a hE=>Zd hE rfl ?_)); intro a hE
 have hM:=hM.pull3
 obtain ⟨r7,e8,hF⟩:=bind_some hF
 refine Zv hE rfl (cbm Tryz.func96) (Ba _ _ _ _ p0.Events v0_3 r5.2 hM r7 e8) ?_
 rintro v w a ⟨rfl,hM⟩ hE
 refine Zc hE rfl fun a hE=>Ze (Zb (Zd hE rfl fun a hE=>Zc hE rfl fun a hE=>Ze ?_))
 obtain rfl:=Option.some.inj hF
 have hM:=(hM.pull1.pull2.pull3).drop
 exact wp_ret (ZJ hE (by rfl) (ZP hE rfl) ⟨_,rfl,rfl,hM⟩)
def US (p0 : (List (Vector UInt8 16))) (s5 : Int × Int) (s14 : Int × Int) : Option (Fl (Int × Int) (Fl Int Int)) :=
 if (decide (s14.2 < 16)) = true then ((idx p0 s5.2).bind fun x19=>(ZH x19 s14.2).bind fun x23=>if (x23 != (Zp s14.1)) = true then (some (Fl.ex (Fl.ex (-1)))) else (some (Fl.nx (wr (s14.1 + 1),wr (s14.2 + 1))))) else (some (Fl.ex (Fl.nx s14.1)))
def Vs (p0 : (List (Vector UInt8 16))) (s5 : Int × Int) : Option (Fl (Int × Int) (Fl Int Int)) :=
 if (decide (s5.2 < (p0.length : Int))) = true then ((ZB (US p0 s5) (s5.1,0)).bind fun j10=>j10.el (fun s13=>some (Fl.nx (s13,wr (s5.2 + 1)))) (fun r=>some (Fl.ex (Fl.ex r)))) else (some (Fl.ex (Fl.nx s5.1)))
def VY (p0 : (List (Vector UInt8 16))) (p1 : Int) : Option (Int) :=
 (ZB (Vs p0) (p1,0)).bind fun j1=>j1.el (fun s4=>some s4) (fun r=>some r)
theorem H2 (w0 : World) (p0 : (List (Vector UInt8 16))) (v0_1 : Value) (hv0_1 : Ro w0 p0 [v0_1]) (p1 : Int) (r : Int) (hF : VY p0 p1 = some r) :
  Calls Tryz.prog 97 [v0_1,vI p1].toArray w0 (Rt w0 (vI r)):=by
 refine ce Tryz.func97 ?_
 intro a hE
 have hM:=M.start w0
 unfold VY at hF
 refine Zb (Zc hE rfl fun a hE=>Ze (wp_seq (Zb (Zc hE rfl fun a hE=>Ze ?_))))
 obtain ⟨j1,hl2,hF3⟩:=bind_some hF
 refine ZM (fun a w=>∃ s4 : Int,j1 = Fl.nx s4 ∧ Env 29 a [(1,vI s4)] ∧ M (Old w0) w0 w []) ?_ ?_
 ·skip
  refine wp_block ?_
  refine ZE (fun (s5 : Int × Int) a w=>Env 29 a [(0,v0_1),(1,vI s5.1),(5,vI s5.2)] ∧ M (Old w0) w0 w []) hl2 ⟨hE.sub ⟨rfl,rfl,rfl,trivial⟩,hM⟩ ?_
  rintro s5 a w ⟨hE,hM⟩ o8 hs6 hx7
  unfold Vs at hs6
  refine wp_seq (Zb (Zd hE rfl fun a hE=>Zd hE rfl fun a hE=>Yf hE rfl Tryz.underlying54 (hM.rd hv0_1) fun a hE=>Zh hE rfl rfl rfl fun a hE=>Ze ?_))
  refine Zo hE rfl ?_ ?_
  ·intro hb9
   have hs6:=Zw hs6 hb9
   refine wp_skip (Zt (wp_seq (wp_block (Zb (Zc hE rfl fun a hE=>Ze ?_)))))
   obtain ⟨j10,hl11,hF12⟩:=bind_some hs6
   refine ZM (fun a w=>∃ s13 : Int,j10 = Fl.nx s13 ∧ Env 29 a [(0,v0_1),(1,vI s13),(5,vI s5.2)] ∧ M (Old w0) w0 w []) ?_ ?_
   ·skip
    refine wp_block ?_
    refine ZE (fun (s14 : Int × Int) a w=>Env 29 a [(0,v0_1),(1,vI s14.1),(5,vI s5.2),(6,vI s14.2)] ∧ M (Old w0) w0 w []) hl11 ⟨hE.sub ⟨rfl,rfl,rfl,rfl,trivial⟩,hM⟩ ?_
    rintro s14 a w ⟨hE,hM⟩ o17 hs15 hx16
    unfold US at hs15
    refine wp_seq (Zb (Zd hE rfl fun a hE=>Zh hE rfl rfl rfl fun a hE=>Ze ?_))
    refine Zo hE rfl ?_ ?_
    ·intro hb18
     have hs15:=Zw hs15 hb18
     refine wp_skip (Zt (wp_seq (wp_block (wp_seq (Zb (Zd hE rfl fun a hE=>Zd hE rfl fun a hE=>Zd hE rfl ?_)))))); intro a hE
     obtain ⟨x19,hi21,hs15⟩:=bix hs15
     refine ZL hE rfl rfl Tryz.underlying54 ZC (hM.rd hv0_1) hi21.1 ?_; intro a hE
     obtain ⟨x23,hi22,hs15⟩:=bvx hs15
     refine ZD hE rfl rfl Tryz.underlying68 ty5 hi22.1 fun a hE=>Zy (v:=(vB x23)) hE rfl ty5 rfl (At.vec (Y6 (hM.rd hv0_1) hi21.2) hi22.2) fun a hE=>Zd hE rfl fun a hE=>Yg hE Za ld rfl Tryz.underlying3 Tryz.underlying5 fun a hE=>Zh hE rfl rfl (K6 x23 (Zp s14.1)) fun a hE=>Ze ?_
     refine Zo hE rfl ?_ ?_
     ·intro hb25
      have hs15:=Zw hs15 hb25
      refine Zb (Zc hE rfl fun a hE=>Ze ?_)
      obtain rfl:=hx16 _ (ois hs15)
      obtain rfl:=hx7 _ (ois hF12)
      obtain rfl:=Option.some.inj hF3
      exact wp_ret (Zs (Yr (Zs (Zs (Yr (Zs (Yr (Zs (Zs (Yr (Zs (Zs (kr1 hE rfl rfl hM.kept)))))))))))))
     ·intro hb25
      have hs15:=Zx hs15 hb25
      refine wp_skip (Zt (wp_region_lit (Zd hE rfl fun a hE=>Zh hE rfl rfl rfl fun a hE=>Zc hE rfl fun a hE=>Zg (Yb (Zt (wp_region_lit (Zd hE rfl fun a hE=>Zh hE rfl rfl rfl fun a hE=>Zc hE rfl fun a hE=>Zg (Zk ?_))))))))
      exact ⟨_,(ois hs15),hE.sub ⟨rfl,rfl,rfl,rfl,trivial⟩,hM⟩
    ·intro hb18
     have hs15:=Zx hs15 hb18
     refine wp_exit (Zn (Zn (Yd ?_)))
     obtain rfl:=hx16 _ (ois hs15)
     refine Zk ?_
     exact ⟨s14.1,rfl,hE.sub ⟨rfl,rfl,rfl,trivial⟩,hM⟩
   ·skip
    rintro a w ⟨s13,ht,hE,hM⟩
    subst ht
    have hF12:=TG hF12
    refine Yb (Zt (wp_region_lit (Zd hE rfl fun a hE=>Zh hE rfl rfl rfl fun a hE=>Zc hE rfl fun a hE=>Zg (Zk ?_))))
    exact ⟨_,(ois hF12),hE.sub ⟨rfl,rfl,rfl,trivial⟩,hM⟩
  ·intro hb9
   have hs6:=Zx hs6 hb9
   refine wp_exit (Zn (Zn (Yd ?_)))
   obtain rfl:=hx7 _ (ois hs6)
   refine Zk ?_
   exact ⟨s5.1,rfl,hE.sub ⟨rfl,trivial⟩,hM⟩
 ·skip
  rintro a w ⟨s4,ht,hE,hM⟩
  subst ht
  have hF3:=TG hF3
  refine Zt (Zb (Zd hE rfl fun a hE=>Zc hE rfl fun a hE=>Ze ?_))
  obtain rfl:=Option.some.inj hF3
  exact wp_ret (kr1 hE rfl rfl hM.kept)
def VT (p0 : (List UInt8)) (s5 : Int × Int) : Option (Fl (Int × Int) (Fl Int Int)) :=
 if (decide (s5.2 < (p0.length : Int))) = true then ((idx p0 s5.2).bind fun x10=>if (x10 != (Zp s5.1)) = true then (some (Fl.ex (Fl.ex (-1)))) else (some (Fl.nx (wr (s5.1 + 1),wr (s5.2 + 1))))) else (some (Fl.ex (Fl.nx s5.1)))
def W5 (p0 : (List UInt8)) (p1 : Int) : Option (Int) :=
 (ZB (VT p0) (p1,0)).bind fun j1=>j1.el (fun s4=>some s4) (fun r=>some r)
theorem KT (w0 : World) (p0 : (List UInt8)) (v0_1 : Value) (hv0_1 : Ro w0 p0 [v0_1]) (p1 : Int) (r : Int) (hF : W5 p0 p1 = some r) :
  Calls Tryz.prog 123 [v0_1,vI p1].toArray w0 (Rt w0 (vI r)):=by
 refine ce Tryz.func123 ?_
 intro a hE
 have hM:=M.start w0
 unfold W5 at hF
 refine Zb (Zc hE rfl fun a hE=>Ze (wp_seq (Zb (Zc hE rfl fun a hE=>Ze ?_))))
 obtain ⟨j1,hl2,hF3⟩:=bind_some hF
 refine ZM (fun a w=>∃ s4 : Int,j1 = Fl.nx s4 ∧ Env 22 a [(1,vI s4)] ∧ M (Old w0) w0 w []) ?_ ?_
 ·skip
  refine wp_block ?_
  refine ZE (fun (s5 : Int × Int) a w=>Env 22 a [(0,v0_1),(1,vI s5.1),(5,vI s5.2)] ∧ M (Old w0) w0 w []) hl2 ⟨hE.sub ⟨rfl,rfl,rfl,trivial⟩,hM⟩ ?_
  rintro s5 a w ⟨hE,hM⟩ o8 hs6 hx7
  unfold VT at hs6
  refine wp_seq (Zb (Zd hE rfl fun a hE=>Zd hE rfl fun a hE=>Yf hE rfl Tryz.underlying40 (hM.rd hv0_1) fun a hE=>Zh hE rfl rfl rfl fun a hE=>Ze ?_))
  refine Zo hE rfl ?_ ?_
  ·intro hb9
   have hs6:=Zw hs6 hb9
   refine wp_skip (Zt (wp_seq (wp_block (wp_seq (Zb (Zd hE rfl fun a hE=>Zd hE rfl ?_)))))); intro a hE
   obtain ⟨x10,hi12,hs6⟩:=bix hs6
   refine ZL hE rfl rfl Tryz.underlying40 ty5 (hM.rd hv0_1) hi12.1 fun a hE=>Zy (v:=(vB x10)) hE rfl ty5 rfl (Y6 (hM.rd hv0_1) hi12.2) fun a hE=>Zd hE rfl fun a hE=>Yg hE Za ld rfl Tryz.underlying3 Tryz.underlying5 fun a hE=>Zh hE rfl rfl (K6 x10 (Zp s5.1)) fun a hE=>Ze ?_
   refine Zo hE rfl ?_ ?_
   ·intro hb13
    have hs6:=Zw hs6 hb13
    refine Zb (Zc hE rfl fun a hE=>Ze ?_)
    obtain rfl:=hx7 _ (ois hs6)
    obtain rfl:=Option.some.inj hF3
    exact wp_ret (Zs (Yr (Zs (Zs (Yr (Zs (Zs (kr1 hE rfl rfl hM.kept))))))))
   ·intro hb13
    have hs6:=Zx hs6 hb13
    refine wp_skip (Zt (wp_region_lit (Zd hE rfl fun a hE=>Zh hE rfl rfl rfl fun a hE=>Zc hE rfl fun a hE=>Zg (Yb (Zt (wp_region_lit (Zd hE rfl fun a hE=>Zh hE rfl rfl rfl fun a hE=>Zc hE rfl fun a hE=>Zg (Zk ?_))))))))
    exact ⟨_,(ois hs6),hE.sub ⟨rfl,rfl,rfl,trivial⟩,hM⟩
  ·intro hb9
   have hs6:=Zx hs6 hb9
   refine wp_exit (Zn (Zn (Yd ?_)))
   obtain rfl:=hx7 _ (ois hs6)
   refine Zk ?_
   exact ⟨s5.1,rfl,hE.sub ⟨rfl,trivial⟩,hM⟩
 ·skip
  rintro a w ⟨s4,ht,hE,hM⟩
  subst ht
  have hF3:=TG hF3
  refine Zt (Zb (Zd hE rfl fun a hE=>Zc hE rfl fun a hE=>Ze ?_))
  obtain rfl:=Option.some.inj hF3
  exact wp_ret (kr1 hE rfl rfl hM.kept)
def Uj (p0 : (List GRecord)) (s5 : Int × Int) (s38 : Int × Int) : Option (Fl (Int × Int) (Fl Int Int)) :=
 if (decide (s38.2 < 16)) = true then ((idx p0 s5.2).bind fun x43=>(ZH x43.Nonce s38.2).bind fun x54=>if (x54 != (Zp s38.1)) = true then (some (Fl.ex (Fl.ex (-1)))) else (some (Fl.nx (wr (s38.1 + 1),wr (s38.2 + 1))))) else (some (Fl.ex (Fl.nx s38.1)))
def Uh (p0 : (List GRecord)) (s5 : Int × Int) (s92 : Int × Int) : Option (Fl (Int × Int) (Fl Int Int)) :=
 if (decide (s92.2 < 32)) = true then ((idx p0 s5.2).bind fun x97=>(ZH x97.Tag s92.2).bind fun x108=>if (x108 != (Zp s92.1)) = true then (some (Fl.ex (Fl.ex (-1)))) else (some (Fl.nx (wr (s92.1 + 1),wr (s92.2 + 1))))) else (some (Fl.ex (Fl.nx s92.1)))
def WV (p0 : (List GRecord)) (s5 : Int × Int) : Option (Fl (Int × Int) (Fl Int Int)) :=
 if (decide (s5.2 < (p0.length : Int))) = true then ((idx p0 s5.2).bind fun x10=>if (x10.Number != s5.1) = true then (some (Fl.ex (Fl.ex (-1)))) else ((idx p0 s5.2).bind fun x22=>if (x22.Version != (wr (s5.1 + 1))) = true then (some (Fl.ex (Fl.ex (-1)))) else ((ZB (Uj p0 s5) (wr ((wr (s5.1 + 1)) + 1),0)).bind fun j34=>j34.el (fun s37=>(idx p0 s5.2).bind fun x60=>(W5 x60.Label s37).bind fun r70=>if (decide (r70 < 0)) = true then (some (Fl.ex (Fl.ex (-1)))) else ((idx p0 s5.2).bind fun x74=>(W5 x74.Body r70).bind fun r84=>if (decide (r84 < 0)) = true then (some (Fl.ex (Fl.ex (-1)))) else ((ZB (Uh p0 s5) (r84,0)).bind fun j88=>j88.el (fun s91=>some (Fl.nx (s91,wr (s5.2 + 1)))) (fun r=>some (Fl.ex (Fl.ex r)))))) (fun r=>some (Fl.ex (Fl.ex r)))))) else (some (Fl.ex (Fl.nx s5.1)))
def Vp (p0 : (List GRecord)) (p1 : Int) : Option (Int) :=
 (ZB (WV p0) (p1,0)).bind fun j1=>j1.el (fun s4=>some s4) (fun r=>some r)
theorem HQ (w0 : World) (p0 : (List GRecord)) (v0_1 : Value) (hv0_1 : Ro w0 p0 [v0_1]) (p1 : Int) (r : Int) (hF : Vp p0 p1 = some r) :
  Calls Tryz.prog 98 [v0_1,vI p1].toArray w0 (Rt w0 (vI r)):=by
 refine ce Tryz.func98 ?_
 intro a hE
 have hM:=M.start w0
 unfold Vp at hF
 refine Zb (Zc hE rfl fun a hE=>Ze (wp_seq (Zb (Zc hE rfl fun a hE=>Ze ?_))))
 obtain ⟨j1,hl2,hF3⟩:=bind_some hF
 refine ZM (fun a w=>∃ s4 : Int,j1 = Fl.nx s4 ∧ Env 83 a [(1,vI s4)] ∧ M (Old w0) w0 w []) ?_ ?_
 ·skip
  refine wp_block ?_
  refine ZE (fun (s5 : Int × Int) a w=>Env 83 a [(0,v0_1),(1,vI s5.1),(5,vI s5.2)] ∧ M (Old w0) w0 w []) hl2 ⟨hE.sub ⟨rfl,rfl,rfl,trivial⟩,hM⟩ ?_
  rintro s5 a w ⟨hE,hM⟩ o8 hs6 hx7
  unfold WV at hs6
  refine wp_seq (Zb (Zd hE rfl fun a hE=>Zd hE rfl fun a hE=>Yf hE rfl Tryz.underlying55 (hM.rd hv0_1) fun a hE=>Zh hE rfl rfl rfl fun a hE=>Ze ?_))
  refine Zo hE rfl ?_ ?_
  ·intro hb9
   have hs6:=Zw hs6 hb9
   refine wp_skip (Zt (wp_seq (wp_block (wp_seq (Zb (Zd hE rfl fun a hE=>Zd hE rfl ?_)))))); intro a hE
   obtain ⟨x10,hi12,hs6⟩:=bix hs6
   refine ZL hE rfl rfl Tryz.underlying55 ZV (hM.rd hv0_1) hi12.1 fun a hE=>Zf hE rfl (VS) ?_; intro a hE
   obtain ⟨cs13,hs14,hA15⟩:=Xj hv0_1 hi12.2 -- ^
   obtain ⟨u16,u18,rfl,h17,h19⟩:=Yp hs14 -- ^
   refine Zy (v:=(vI x10.Number)) hE rfl ty2 rfl (At.cat (pre:=[]) (hM.atk hA15 (Wu hv0_1 hi12.2)) cl0) fun a hE=>Zd hE rfl fun a hE=>Zh hE rfl rfl rfl fun a hE=>Ze ?_
   refine Zo hE rfl ?_ ?_
   ·intro hb20
    have hs6:=Zw hs6 hb20
    refine Zb (Zc hE rfl fun a hE=>Ze ?_)
    obtain rfl:=hx7 _ (ois hs6)
    obtain rfl:=Option.some.inj hF3
    exact wp_ret (Zs (Yr (Zs (Zs (Yr (Zs (Zs (kr1 hE rfl rfl hM.kept))))))))
   ·intro hb20
    have hs6:=Zx hs6 hb20
    refine wp_skip (Zt (Zb (Zd hE rfl fun a hE=>Zh hE rfl rfl rfl fun a hE=>Zc hE rfl fun a hE=>Ze (wp_seq (Zb (Zd hE rfl fun a hE=>Zd hE rfl ?_)))))); intro a hE
    obtain ⟨x22,hi24,hs6⟩:=bix hs6
    refine ZL hE rfl rfl Tryz.underlying55 ZV (hM.rd hv0_1) hi24.1 fun a hE=>Zf hE rfl (WE) ?_; intro a hE
    obtain ⟨cs25,hs26,hA27⟩:=Xj hv0_1 hi24.2 -- ^
    obtain ⟨u28,u30,rfl,h29,h31⟩:=Yp hs26 -- ^
    refine Zy (v:=(vI x22.Version)) hE rfl ty2 rfl (At.cat (pre:=[[vI x22.Number]]) (hM.atk hA27 (Wu hv0_1 hi24.2)) ck) fun a hE=>Zd hE rfl fun a hE=>Zh hE rfl rfl rfl fun a hE=>Ze ?_
    refine Zo hE rfl ?_ ?_
    ·intro hb32
     have hs6:=Zw hs6 hb32
     refine Zb (Zc hE rfl fun a hE=>Ze ?_)
     obtain rfl:=hx7 _ (ois hs6)
     obtain rfl:=Option.some.inj hF3
     exact wp_ret (Zs (Yr (Zs (Zs (Yr (Zs (Zs (kr1 hE rfl rfl hM.kept))))))))
    ·intro hb32
     have hs6:=Zx hs6 hb32
     refine wp_skip (Zt (Zb (Zd hE rfl fun a hE=>Zh hE rfl rfl rfl fun a hE=>Zc hE rfl fun a hE=>Ze (wp_seq (Zb (Zc hE rfl fun a hE=>Ze ?_))))))
     obtain ⟨j34,hl35,hF36⟩:=bind_some hs6
     refine ZM (fun a w=>∃ s37 : Int,j34 = Fl.nx s37 ∧ Env 83 a [(0,v0_1),(1,vI s37),(5,vI s5.2)] ∧ M (Old w0) w0 w []) ?_ ?_
     ·skip
      refine wp_block ?_
      refine ZE (fun (s38 : Int × Int) a w=>Env 83 a [(0,v0_1),(1,vI s38.1),(5,vI s5.2),(6,vI s38.2)] ∧ M (Old w0) w0 w []) hl35 ⟨hE.sub ⟨rfl,rfl,rfl,rfl,trivial⟩,hM⟩ ?_
      rintro s38 a w ⟨hE,hM⟩ o41 hs39 hx40
      unfold Uj at hs39
      refine wp_seq (Zb (Zd hE rfl fun a hE=>Zh hE rfl rfl rfl fun a hE=>Ze ?_))
      refine Zo hE rfl ?_ ?_
      ·intro hb42
       have hs39:=Zw hs39 hb42
       refine wp_skip (Zt (wp_seq (wp_block (wp_seq (Zb (Zd hE rfl fun a hE=>Zd hE rfl fun a hE=>Zd hE rfl ?_)))))); intro a hE
       obtain ⟨x43,hi45,hs39⟩:=bix hs39
       refine ZL hE rfl rfl Tryz.underlying55 ZV (hM.rd hv0_1) hi45.1 fun a hE=>Zf hE rfl (Qf) ?_; intro a hE
       obtain ⟨cs46,hs47,hA48⟩:=Xj hv0_1 hi45.2 -- ^
       obtain ⟨u49,u51,rfl,h50,h52⟩:=Yp hs47 -- ^
       obtain ⟨x54,hi53,hs39⟩:=bvx hs39
       refine ZD hE rfl rfl Tryz.underlying68 ty5 hi53.1 fun a hE=>Zy (v:=(vB x54)) hE rfl ty5 rfl (At.vec (At.cat (pre:=[[vI x43.Number],[vI x43.Version]]) (hM.atk hA48 (Wu hv0_1 hi45.2)) ck) hi53.2) fun a hE=>Zd hE rfl fun a hE=>Yg hE Za ld rfl Tryz.underlying3 Tryz.underlying5 fun a hE=>Zh hE rfl rfl (K6 x54 (Zp s38.1)) fun a hE=>Ze ?_
       refine Zo hE rfl ?_ ?_
       ·intro hb56
        have hs39:=Zw hs39 hb56
        refine Zb (Zc hE rfl fun a hE=>Ze ?_)
        obtain rfl:=hx40 _ (ois hs39)
        obtain rfl:=hx7 _ (ois hF36)
        obtain rfl:=Option.some.inj hF3
        exact wp_ret (Zs (Yr (Zs (Zs (Yr (Zs (Zs (Yr (Zs (Zs (Yr (Zs (Zs (kr1 hE rfl rfl hM.kept))))))))))))))
       ·intro hb56
        have hs39:=Zx hs39 hb56
        refine wp_skip (Zt (wp_region_lit (Zd hE rfl fun a hE=>Zh hE rfl rfl rfl fun a hE=>Zc hE rfl fun a hE=>Zg (Yb (Zt (wp_region_lit (Zd hE rfl fun a hE=>Zh hE rfl rfl rfl fun a hE=>Zc hE rfl fun a hE=>Zg (Zk ?_))))))))
        exact ⟨_,(ois hs39),hE.sub ⟨rfl,rfl,rfl,rfl,trivial⟩,hM⟩
      ·intro hb42
       have hs39:=Zx hs39 hb42
       refine wp_exit (Zn (Zn (Yd ?_)))
       obtain rfl:=hx40 _ (ois hs39)
       refine Zk ?_
       exact ⟨s38.1,rfl,hE.sub ⟨rfl,rfl,rfl,trivial⟩,hM⟩
     ·skip
      rintro a w ⟨s37,ht,hE,hM⟩
      subst ht
      have hF36:=TG hF36
      refine Zt (Zb (Zd hE rfl fun a hE=>Zd hE rfl ?_)); intro a hE
      obtain ⟨x60,hi62,hF36⟩:=bix hF36
      refine ZL hE rfl rfl Tryz.underlying55 ZV (hM.rd hv0_1) hi62.1 fun a hE=>Zf hE rfl (V2) ?_; intro a hE
      obtain ⟨cs63,hs64,hA65⟩:=Xj hv0_1 hi62.2 -- ^
      obtain ⟨u66,u68,rfl,h67,h69⟩:=Yp hs64 -- ^
      refine Zy (v:=u66) hE rfl Wh rfl (At.cat (pre:=[[vI x60.Number],[vI x60.Version],enc x60.Nonce]) (hM.atk hA65 (Wu hv0_1 hi62.2)) ck) fun a hE=>Zd hE rfl ?_; intro a hE
      obtain ⟨r70,e71,hF36⟩:=bind_some hF36
      refine Zv hE rfl (cbm Tryz.func123) (KT _ x60.Label u66 (hM.rdo h67) s37 r70 e71) ?_
      rintro v w a ⟨rfl,hK⟩ hE
      have hM:=hM.keep hK
      refine Zc hE rfl fun a hE=>Ze (wp_seq (Zb (Zd hE rfl fun a hE=>Zh hE rfl rfl rfl fun a hE=>Ze ?_)))
      refine Zo hE rfl ?_ ?_
      ·intro hb72
       have hF36:=Zw hF36 hb72
       refine Zb (Zc hE rfl fun a hE=>Ze ?_)
       obtain rfl:=hx7 _ (ois hF36)
       obtain rfl:=Option.some.inj hF3
       exact wp_ret (Zs (Yr (Zs (Zs (Yr (Zs (Zs (kr1 hE rfl rfl hM.kept))))))))
      ·intro hb72
       have hF36:=Zx hF36 hb72
       refine wp_skip (Zt (Zb (Zd hE rfl fun a hE=>Zd hE rfl ?_))); intro a hE
       obtain ⟨x74,hi76,hF36⟩:=bix hF36
       refine ZL hE rfl rfl Tryz.underlying55 ZV (hM.rd hv0_1) hi76.1 fun a hE=>Zf hE rfl (V1) ?_; intro a hE
       obtain ⟨cs77,hs78,hA79⟩:=Xj hv0_1 hi76.2 -- ^
       obtain ⟨u80,u82,rfl,h81,h83⟩:=Yp hs78 -- ^
       refine Zy (v:=u82) hE rfl Wh rfl (At.cat (pre:=[[vI x74.Number],[vI x74.Version],enc x74.Nonce,[u80]]) (hM.atk hA79 (Wu hv0_1 hi76.2)) ck) fun a hE=>Zd hE rfl ?_; intro a hE
       obtain ⟨r84,e85,hF36⟩:=bind_some hF36
       refine Zv hE rfl (cbm Tryz.func123) (KT _ x74.Body u82 (hM.rdo h83) r70 r84 e85) ?_
       rintro v w a ⟨rfl,hK⟩ hE
       have hM:=hM.keep hK
       refine Zc hE rfl fun a hE=>Ze (wp_seq (Zb (Zd hE rfl fun a hE=>Zh hE rfl rfl rfl fun a hE=>Ze ?_)))
       refine Zo hE rfl ?_ ?_
       ·intro hb86
        have hF36:=Zw hF36 hb86
        refine Zb (Zc hE rfl fun a hE=>Ze ?_)
        obtain rfl:=hx7 _ (ois hF36)
        obtain rfl:=Option.some.inj hF3
        exact wp_ret (Zs (Yr (Zs (Zs (Yr (Zs (Zs (kr1 hE rfl rfl hM.kept))))))))
       ·intro hb86
        have hF36:=Zx hF36 hb86
        refine wp_skip (Zt (Zb (Zc hE rfl fun a hE=>Ze ?_)))
        obtain ⟨j88,hl89,hF90⟩:=bind_some hF36
        refine ZM (fun a w=>∃ s91 : Int,j88 = Fl.nx s91 ∧ Env 83 a [(0,v0_1),(1,vI s91),(5,vI s5.2)] ∧ M (Old w0) w0 w []) ?_ ?_
        ·skip
         refine wp_block ?_
         refine ZE (fun (s92 : Int × Int) a w=>Env 83 a [(0,v0_1),(1,vI s92.1),(5,vI s5.2),(7,vI s92.2)] ∧ M (Old w0) w0 w []) hl89 ⟨hE.sub ⟨rfl,rfl,rfl,rfl,trivial⟩,hM⟩ ?_
         rintro s92 a w ⟨hE,hM⟩ o95 hs93 hx94
         unfold Uh at hs93
         refine wp_seq (Zb (Zd hE rfl fun a hE=>Zh hE rfl rfl rfl fun a hE=>Ze ?_))
         refine Zo hE rfl ?_ ?_
         ·intro hb96
          have hs93:=Zw hs93 hb96
          refine wp_skip (Zt (wp_seq (wp_block (wp_seq (Zb (Zd hE rfl fun a hE=>Zd hE rfl fun a hE=>Zd hE rfl ?_)))))); intro a hE
          obtain ⟨x97,hi99,hs93⟩:=bix hs93
          refine ZL hE rfl rfl Tryz.underlying55 ZV (hM.rd hv0_1) hi99.1 fun a hE=>Zf hE rfl (Qg) ?_; intro a hE
          obtain ⟨cs100,hs101,hA102⟩:=Xj hv0_1 hi99.2 -- ^
          obtain ⟨u103,u105,rfl,h104,h106⟩:=Yp hs101 -- ^
          obtain ⟨x108,hi107,hs93⟩:=bvx hs93
          refine ZD hE rfl rfl Tryz.underlying35 ty5 hi107.1 fun a hE=>Zy (v:=(vB x108)) hE rfl ty5 rfl (At.vec (At.cat (pre:=[[vI x97.Number],[vI x97.Version],enc x97.Nonce,[u103],[u105]]) (hM.atk hA102 (Wu hv0_1 hi99.2)) ck) hi107.2) fun a hE=>Zd hE rfl fun a hE=>Yg hE Za ld rfl Tryz.underlying3 Tryz.underlying5 fun a hE=>Zh hE rfl rfl (K6 x108 (Zp s92.1)) fun a hE=>Ze ?_
          refine Zo hE rfl ?_ ?_
          ·intro hb110
           have hs93:=Zw hs93 hb110
           refine Zb (Zc hE rfl fun a hE=>Ze ?_)
           obtain rfl:=hx94 _ (ois hs93)
           obtain rfl:=hx7 _ (ois hF90)
           obtain rfl:=Option.some.inj hF3
           exact wp_ret (Zs (Yr (Zs (Zs (Yr (Zs (Yr (Zs (Zs (Yr (Zs (Zs (kr1 hE rfl rfl hM.kept)))))))))))))
          ·intro hb110
           have hs93:=Zx hs93 hb110
           refine wp_skip (Zt (wp_region_lit (Zd hE rfl fun a hE=>Zh hE rfl rfl rfl fun a hE=>Zc hE rfl fun a hE=>Zg (Yb (Zt (wp_region_lit (Zd hE rfl fun a hE=>Zh hE rfl rfl rfl fun a hE=>Zc hE rfl fun a hE=>Zg (Zk ?_))))))))
           exact ⟨_,(ois hs93),hE.sub ⟨rfl,rfl,rfl,rfl,trivial⟩,hM⟩
         ·intro hb96
          have hs93:=Zx hs93 hb96
          refine wp_exit (Zn (Zn (Yd ?_)))
          obtain rfl:=hx94 _ (ois hs93)
          refine Zk ?_
          exact ⟨s92.1,rfl,hE.sub ⟨rfl,rfl,rfl,trivial⟩,hM⟩
        ·skip
         rintro a w ⟨s91,ht,hE,hM⟩
         subst ht
         have hF90:=TG hF90
         refine Yb (Zt (wp_region_lit (Zd hE rfl fun a hE=>Zh hE rfl rfl rfl fun a hE=>Zc hE rfl fun a hE=>Zg (Zk ?_))))
         exact ⟨_,(ois hF90),hE.sub ⟨rfl,rfl,rfl,trivial⟩,hM⟩
  ·intro hb9
   have hs6:=Zx hs6 hb9
   refine wp_exit (Zn (Zn (Yd ?_)))
   obtain rfl:=hx7 _ (ois hs6)
   refine Zk ?_
   exact ⟨s5.1,rfl,hE.sub ⟨rfl,trivial⟩,hM⟩
 ·skip
  rintro a w ⟨s4,ht,hE,hM⟩
  subst ht
  have hF3:=TG hF3
  refine Zt (Zb (Zd hE rfl fun a hE=>Zc hE rfl fun a hE=>Ze ?_))
  obtain rfl:=Option.some.inj hF3
  exact wp_ret (kr1 hE rfl rfl hM.kept)
def UU (p0 : (List GEvent)) (s5 : Int × Int) (s24 : Int × Int) : Option (Fl (Int × Int) (Fl Int Int)) :=
 if (decide (s24.2 < 32)) = true then ((idx p0 s5.2).bind fun x29=>(ZH x29.Tag s24.2).bind fun x33=>if (x33 != (Zp s24.1)) = true then (some (Fl.ex (Fl.ex (-1)))) else (some (Fl.nx (wr (s24.1 + 1),wr (s24.2 + 1))))) else (some (Fl.ex (Fl.nx s24.1)))
def Vi (p0 : (List GEvent)) (s5 : Int × Int) : Option (Fl (Int × Int) (Fl Int Int)) :=
 if (decide (s5.2 < (p0.length : Int))) = true then ((idx p0 s5.2).bind fun x10=>if (x10.Kind != s5.1) = true then (some (Fl.ex (Fl.ex (-1)))) else ((idx p0 s5.2).bind fun x15=>if (x15.Number != (wr (s5.1 + 1))) = true then (some (Fl.ex (Fl.ex (-1)))) else ((ZB (UU p0 s5) (wr ((wr (s5.1 + 1)) + 1),0)).bind fun j20=>j20.el (fun s23=>some (Fl.nx (s23,wr (s5.2 + 1)))) (fun r=>some (Fl.ex (Fl.ex r)))))) else (some (Fl.ex (Fl.nx s5.1)))
def VZ (p0 : (List GEvent)) (p1 : Int) : Option (Int) :=
 (ZB (Vi p0) (p1,0)).bind fun j1=>j1.el (fun s4=>some s4) (fun r=>some r)
theorem BI (w0 : World) (p0 : (List GEvent)) (v0_1 : Value) (hv0_1 : Ro w0 p0 [v0_1]) (p1 : Int) (r : Int) (hF : VZ p0 p1 = some r) :
  Calls Tryz.prog 99 [v0_1,vI p1].toArray w0 (Rt w0 (vI r)):=by
 refine ce Tryz.func99 ?_
 intro a hE
 have hM:=M.start w0
 unfold VZ at hF
 refine Zb (Zc hE rfl fun a hE=>Ze (wp_seq (Zb (Zc hE rfl fun a hE=>Ze ?_))))
 obtain ⟨j1,hl2,hF3⟩:=bind_some hF
 refine ZM (fun a w=>∃ s4 : Int,j1 = Fl.nx s4 ∧ Env 48 a [(1,vI s4)] ∧ M (Old w0) w0 w []) ?_ ?_
 ·skip
  refine wp_block ?_
  refine ZE (fun (s5 : Int × Int) a w=>Env 48 a [(0,v0_1),(1,vI s5.1),(5,vI s5.2)] ∧ M (Old w0) w0 w []) hl2 ⟨hE.sub ⟨rfl,rfl,rfl,trivial⟩,hM⟩ ?_
  rintro s5 a w ⟨hE,hM⟩ o8 hs6 hx7
  unfold Vi at hs6
  refine wp_seq (Zb (Zd hE rfl fun a hE=>Zd hE rfl fun a hE=>Yf hE rfl Tryz.underlying56 (hM.rd hv0_1) fun a hE=>Zh hE rfl rfl rfl fun a hE=>Ze ?_))
  refine Zo hE rfl ?_ ?_
  ·intro hb9
   have hs6:=Zw hs6 hb9
   refine wp_skip (Zt (wp_seq (wp_block (wp_seq (Zb (Zd hE rfl fun a hE=>Zd hE rfl ?_)))))); intro a hE
   obtain ⟨x10,hi12,hs6⟩:=bix hs6
   refine ZL hE rfl rfl Tryz.underlying56 Xp (hM.rd hv0_1) hi12.1 fun a hE=>Zf hE rfl (Ke) fun a hE=>Zy (v:=(vI x10.Kind)) hE rfl ty2 rfl (At.cat (pre:=[]) (Y6 (hM.rd hv0_1) hi12.2) cl0) fun a hE=>Zd hE rfl fun a hE=>Zh hE rfl rfl rfl fun a hE=>Ze ?_
   refine Zo hE rfl ?_ ?_
   ·intro hb13
    have hs6:=Zw hs6 hb13
    refine Zb (Zc hE rfl fun a hE=>Ze ?_)
    obtain rfl:=hx7 _ (ois hs6)
    obtain rfl:=Option.some.inj hF3
    exact wp_ret (Zs (Yr (Zs (Zs (Yr (Zs (Zs (kr1 hE rfl rfl hM.kept))))))))
   ·intro hb13
    have hs6:=Zx hs6 hb13
    refine wp_skip (Zt (Zb (Zd hE rfl fun a hE=>Zh hE rfl rfl rfl fun a hE=>Zc hE rfl fun a hE=>Ze (wp_seq (Zb (Zd hE rfl fun a hE=>Zd hE rfl ?_)))))); intro a hE
    obtain ⟨x15,hi17,hs6⟩:=bix hs6
    refine ZL hE rfl rfl Tryz.underlying56 Xp (hM.rd hv0_1) hi17.1 fun a hE=>Zf hE rfl (Kl) fun a hE=>Zy (v:=(vI x15.Number)) hE rfl ty2 rfl (At.cat (pre:=[[vI x15.Kind]]) (Y6 (hM.rd hv0_1) hi17.2) ck) fun a hE=>Zd hE rfl fun a hE=>Zh hE rfl rfl rfl fun a hE=>Ze ?_
    refine Zo hE rfl ?_ ?_
    ·intro hb18
     have hs6:=Zw hs6 hb18
     refine Zb (Zc hE rfl fun a hE=>Ze ?_)
     obtain rfl:=hx7 _ (ois hs6)
     obtain rfl:=Option.some.inj hF3
     exact wp_ret (Zs (Yr (Zs (Zs (Yr (Zs (Zs (kr1 hE rfl rfl hM.kept))))))))
    ·intro hb18
     have hs6:=Zx hs6 hb18
     refine wp_skip (Zt (Zb (Zd hE rfl fun a hE=>Zh hE rfl rfl rfl fun a hE=>Zc hE rfl fun a hE=>Ze (Zb (Zc hE rfl fun a hE=>Ze ?_)))))
     obtain ⟨j20,hl21,hF22⟩:=bind_some hs6
     refine ZM (fun a w=>∃ s23 : Int,j20 = Fl.nx s23 ∧ Env 48 a [(0,v0_1),(1,vI s23),(5,vI s5.2)] ∧ M (Old w0) w0 w []) ?_ ?_
     ·skip
      refine wp_block ?_
      refine ZE (fun (s24 : Int × Int) a w=>Env 48 a [(0,v0_1),(1,vI s24.1),(5,vI s5.2),(6,vI s24.2)] ∧ M (Old w0) w0 w []) hl21 ⟨hE.sub ⟨rfl,rfl,rfl,rfl,trivial⟩,hM⟩ ?_
      rintro s24 a w ⟨hE,hM⟩ o27 hs25 hx26
      unfold UU at hs25
      refine wp_seq (Zb (Zd hE rfl fun a hE=>Zh hE rfl rfl rfl fun a hE=>Ze ?_))
      refine Zo hE rfl ?_ ?_
      ·intro hb28
       have hs25:=Zw hs25 hb28
       refine wp_skip (Zt (wp_seq (wp_block (wp_seq (Zb (Zd hE rfl fun a hE=>Zd hE rfl fun a hE=>Zd hE rfl ?_)))))); intro a hE
       obtain ⟨x29,hi31,hs25⟩:=bix hs25
       refine ZL hE rfl rfl Tryz.underlying56 Xp (hM.rd hv0_1) hi31.1 fun a hE=>Zf hE rfl (K2) ?_; intro a hE
       obtain ⟨x33,hi32,hs25⟩:=bvx hs25
       refine ZD hE rfl rfl Tryz.underlying35 ty5 hi32.1 fun a hE=>Zy (v:=(vB x33)) hE rfl ty5 rfl (At.vec (At.cat (pre:=[[vI x29.Kind],[vI x29.Number]]) (Y6 (hM.rd hv0_1) hi31.2) ck) hi32.2) fun a hE=>Zd hE rfl fun a hE=>Yg hE Za ld rfl Tryz.underlying3 Tryz.underlying5 fun a hE=>Zh hE rfl rfl (K6 x33 (Zp s24.1)) fun a hE=>Ze ?_
       refine Zo hE rfl ?_ ?_
       ·intro hb35
        have hs25:=Zw hs25 hb35
        refine Zb (Zc hE rfl fun a hE=>Ze ?_)
        obtain rfl:=hx26 _ (ois hs25)
        obtain rfl:=hx7 _ (ois hF22)
        obtain rfl:=Option.some.inj hF3
        exact wp_ret (Zs (Yr (Zs (Zs (Yr (Zs (Yr (Zs (Zs (Yr (Zs (Zs (kr1 hE rfl rfl hM.kept)))))))))))))
       ·intro hb35
        have hs25:=Zx hs25 hb35
        refine wp_skip (Zt (wp_region_lit (Zd hE rfl fun a hE=>Zh hE rfl rfl rfl fun a hE=>Zc hE rfl fun a hE=>Zg (Yb (Zt (wp_region_lit (Zd hE rfl fun a hE=>Zh hE rfl rfl rfl fun a hE=>Zc hE rfl fun a hE=>Zg (Zk ?_))))))))
        exact ⟨_,(ois hs25),hE.sub ⟨rfl,rfl,rfl,rfl,trivial⟩,hM⟩
      ·intro hb28
       have hs25:=Zx hs25 hb28
       refine wp_exit (Zn (Zn (Yd ?_)))
       obtain rfl:=hx26 _ (ois hs25)
       refine Zk ?_
       exact ⟨s24.1,rfl,hE.sub ⟨rfl,rfl,rfl,trivial⟩,hM⟩
     ·skip
      rintro a w ⟨s23,ht,hE,hM⟩
      subst ht
      have hF22:=TG hF22
      refine Yb (Zt (wp_region_lit (Zd hE rfl fun a hE=>Zh hE rfl rfl rfl fun a hE=>Zc hE rfl fun a hE=>Zg (Zk ?_))))
      exact ⟨_,(ois hF22),hE.sub ⟨rfl,rfl,rfl,trivial⟩,hM⟩
  ·intro hb9
   have hs6:=Zx hs6 hb9
   refine wp_exit (Zn (Zn (Yd ?_)))
   obtain rfl:=hx7 _ (ois hs6)
   refine Zk ?_
   exact ⟨s5.1,rfl,hE.sub ⟨rfl,trivial⟩,hM⟩
 ·skip
  rintro a w ⟨s4,ht,hE,hM⟩
  subst ht
  have hF3:=TG hF3
  refine Zt (Zb (Zd hE rfl fun a hE=>Zc hE rfl fun a hE=>Ze ?_))
  obtain rfl:=Option.some.inj hF3
  exact wp_ret (kr1 hE rfl rfl hM.kept)
def Vf (p0 : GVault) (p1 : Int) : Option (Int) :=
 (VY p0.Keys p1).bind fun r3=>if (decide (r3 < 0)) = true then (some (-1)) else ((Vp p0.Records r3).bind fun r6=>if (decide (r6 < 0)) = true then (some (-1)) else ((VZ p0.Events r6).bind fun r9=>if (decide (r9 < 0)) = true then (some (-1)) else (some r9)))
theorem KO (w0 : World) (p0 : GVault) (v0_1 : Value) (hv0_1 : Ro w0 p0.Keys [v0_1]) (v0_2 : Value) (hv0_2 : Ro w0 p0.Records [v0_2]) (v0_3 : Value) (hv0_3 : Ro w0 p0.Events [v0_3]) (p1 : Int) (r : Int) (hF : Vf p0 p1 = some r) :
  Calls Tryz.prog 29 [(Value.agg (cat [[v0_1],[vI p0.Next],[v0_2],[v0_3],enc p0.Head]).toArray),vI p1].toArray w0 (Rt w0 (vI r)):=by
 refine ce Tryz.func29 ?_
 intro a hE
 have hM:=M.start w0
 unfold Vf at hF
 refine Zb (ZK (cs:=cat [[v0_1],[vI p0.Next],[v0_2],[v0_3],enc p0.Head]) hE hM Za ld rfl rfl fun b1 w a hM hE=>Zc hE rfl fun a hE=>Ze (Zb (Zf hE rfl (WZ) fun a hE=>Zy (v:=v0_1) hE rfl Q7 rfl (At.cat (pre:=[]) hM.rawAt0 cl0) fun a hE=>Zd hE rfl ?_))); intro a hE
 obtain ⟨r3,e4,hF⟩:=bind_some hF
 refine Zv hE rfl (cbm Tryz.func97) (H2 _ p0.Keys v0_1 (hM.rdo hv0_1) p1 r3 e4) ?_
 rintro v w a ⟨rfl,hK⟩ hE
 have hM:=hM.keep hK
 refine Zc hE rfl fun a hE=>Ze (wp_seq (Zb (Zd hE rfl fun a hE=>Zh hE rfl rfl rfl fun a hE=>Ze ?_)))
 refine Zo hE rfl ?_ ?_
 ·intro hb5
  have hF:=Zw hF hb5
  refine Zb (Zc hE rfl fun a hE=>Ze ?_)
  obtain rfl:=Option.some.inj hF
  exact wp_ret (Zs (kr1 hE rfl rfl hM.kept))
 ·intro hb5
  have hF:=Zx hF hb5
  refine wp_skip (Zt (Zb (Zf hE rfl (Y2) fun a hE=>Zy (v:=v0_2) hE rfl Tr rfl (At.cat (pre:=[[v0_1],[vI p0.Next]]) hM.rawAt0 ck) fun a hE=>Zd hE rfl ?_))); intro a hE
  obtain ⟨r6,e7,hF⟩:=bind_some hF
  refine Zv hE rfl (cbm Tryz.func98) (HQ _ p0.Records v0_2 (hM.rdo hv0_2) r3 r6 e7) ?_
  rintro v w a ⟨rfl,hK⟩ hE
  have hM:=hM.keep hK
  refine Zc hE rfl fun a hE=>Ze (wp_seq (Zb (Zd hE rfl fun a hE=>Zh hE rfl rfl rfl fun a hE=>Ze ?_)))
  refine Zo hE rfl ?_ ?_
  ·intro hb8
   have hF:=Zw hF hb8
   refine Zb (Zc hE rfl fun a hE=>Ze ?_)
   obtain rfl:=Option.some.inj hF
   exact wp_ret (Zs (kr1 hE rfl rfl hM.kept))
  ·intro hb8
   have hF:=Zx hF hb8
   refine wp_skip (Zt (Zb (Zf hE rfl (Us) fun a hE=>Zy (v:=v0_3) hE rfl KJ rfl (At.cat (pre:=[[v0_1],[vI p0.Next],[v0_2]]) hM.rawAt0 ck) fun a hE=>Zd hE rfl ?_))); intro a hE
   obtain ⟨r9,e10,hF⟩:=bind_some hF
   refine Zv hE rfl (cbm Tryz.func99) (BI _ p0.Events v0_3 (hM.rdo hv0_3) r6 r9 e10) ?_
   rintro v w a ⟨rfl,hK⟩ hE
   have hM:=hM.keep hK
   refine Zc hE rfl fun a hE=>Ze (wp_seq (Zb (Zd hE rfl fun a hE=>Zh hE rfl rfl rfl fun a hE=>Ze ?_)))
   refine Zo hE rfl ?_ ?_
   ·intro hb11
    have hF:=Zw hF hb11
    refine Zb (Zc hE rfl fun a hE=>Ze ?_)
    obtain rfl:=Option.some.inj hF
    exact wp_ret (Zs (kr1 hE rfl rfl hM.kept))
   ·intro hb11
    have hF:=Zx hF hb11
    refine wp_skip (Zt (Zb (Zd hE rfl fun a hE=>Zc hE rfl fun a hE=>Ze ?_)))
    obtain rfl:=Option.some.inj hF
    exact wp_ret (kr1 hE rfl rfl hM.kept)
def W0 (p0 : GVault) (p1 : Int) (p2 : (Vector UInt8 16)) : Option (Bool) :=
 (QB p0 1048576).bind fun r5=>if (decide (r5 < 0)) = true then (some true) else ((Wm p0).bind fun r9=>(Xr p2).bind fun r15=>(Ta r9 p1 r15).bind fun r17=>(Wm p0).bind fun r35=>(Xr p2).bind fun r43=>(VJ r35 p1 r43).bind fun r45=>((Wj r45.1 r17.1).bind fun r63=>if (!r63) = true then (some true) else (some (r45.2 != r17.2)) : Option (Bool)).bind fun j60=>if j60 = true then (some false) else (((Wm p0).bind fun r73=>(Wj r35 r73).bind fun r82=>some (!r82) : Option (Bool)).bind fun j69=>if j69 = true then (some false) else ((XB r35 1).bind fun r86=>(if (decide (r86.2 < 0)) = true then (some true) else ((Wj r45.1 r17.1).bind fun r93=>if (!r93) = true then (some true) else (some (r45.2 != r17.2))) : Option (Bool)).bind fun j88=>if j88 = true then (some false) else ((XB r45.1 1).bind fun r99=>(Vf (⟨r99.1.Keys,r45.1.Next,r99.1.Records,r99.1.Events,r45.1.Head⟩ : GVault) 1).bind fun r101=>if (decide (r101 < 0)) = true then (some false) else (if (r101 != r99.2) = true then (some false) else ((Wm p0).bind fun r106=>(Xr p2).bind fun r112=>(VJ r106 p1 r112).bind fun r114=>((Wj r114.1 r17.1).bind fun r135=>if (!r135) = true then (some true) else (some (r114.2 != r17.2)) : Option (Bool)).bind fun j132=>if j132 = true then (some false) else ((Vf (⟨r99.1.Keys,r45.1.Next,r99.1.Records,r99.1.Events,r45.1.Head⟩ : GVault) 1).bind fun r141=>if (decide (r141 < 0)) = true then (some false) else (if (r141 != r99.2) = true then (some false) else (some true)))))))))
end

end Go.Proofs.YtpibglnacohdkaaGreat
