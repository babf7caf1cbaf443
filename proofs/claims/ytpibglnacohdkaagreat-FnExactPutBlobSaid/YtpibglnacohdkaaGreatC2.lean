/- The walk of what the law reaches: contracts of functions. -/
import Derived.Test.YtpibglnacohdkaaGreatC1
set_option linter.unusedVariables false
set_option linter.unusedSimpArgs false
set_option maxRecDepth 20000
set_option maxHeartbeats 400000
namespace Go.Proofs.YtpibglnacohdkaaGreat
open Go
open Flat (enc)
noncomputable section
theorem YI (w0 : World) (p0 : Int) (p1 : UInt8) (p2 : UInt8) (r : UInt8) (hF : Z3 p0 p1 p2 = some r) :
  Calls Tryz.prog 233 [vI p0,vB p1,vB p2].toArray w0 (Rt w0 (vB r)):=by
 refine ce Tryz.func233 ?_
 intro a hE
 have hM:=M.start w0
 unfold Z3 at hF
 refine Zb (Zc hE rfl fun a hE=>Ze (Zb (Zc hE rfl fun a hE=>Ze (wp_seq (Zb (Zd hE rfl fun a hE=>Ze ?_))))))
 obtain ⟨j1,hl2,hF3⟩:=bind_some hF
 refine ZO (fun a w=>Env 28 a [(0,vI p0),(7,vI j1)] ∧ M (Old w0) w0 w []) ?_ ?_
 ·skip
  refine wp_block ?_
  refine ZE (fun (s4 : Int × Int) a w=>Env 28 a [(0,vI p0),(1,vB p1),(2,vB p2),(7,vI s4.1),(9,vI s4.2)] ∧ M (Old w0) w0 w []) hl2 ⟨hE.sub ⟨rfl,rfl,rfl,rfl,rfl,trivial⟩,hM⟩ ?_
  rintro s4 a w ⟨hE,hM⟩ o7 hs5 hx6
  unfold Xw at hs5
  refine Zb (Zi hE rfl rfl rfl fun a hE=>Ze (wp_seq ?_))
  refine Zo hE rfl ?_ ?_
  ·intro hb8
   have hs5:=Zt hs5 hb8
   refine wp_skip (Zp ?_)
   obtain ⟨j9,hl10,hF11⟩:=bind_some hs5
   refine ZN (fun a w=>Env 28 a [(0,vI p0),(1,vB p1),(2,vB p2),(7,vI j9),(9,vI s4.2)] ∧ M (Old w0) w0 w []) ?_ ?_
   ·skip
    refine wp_block (Zb (Zd hE rfl fun a hE=>Zc hE rfl fun a hE=>Ze (Zb (Zd hE rfl fun a hE=>Zd hE rfl ?_)))); intro a hE
    obtain ⟨_,e12,hl10⟩:=bind_some hl10
    have e12:=W9 e12
    refine Br hE Za ld rfl rfl (kC _ _ e12) fun a hE=>Zi hE rfl rfl (bB_and (HR p2 s4.2) 1) fun a hE=>Zi hE rfl rfl (jW ((HR p2 s4.2) &&& 1) 1) fun a hE=>Ze ?_
    obtain ⟨j13,hl14,hF15⟩:=bind_some hl10
    refine ZO (fun a w=>Env 28 a [(0,vI p0),(1,vB p1),(2,vB p2),(7,vI j13),(9,vI s4.2)] ∧ M (Old w0) w0 w []) ?_ ?_
    ·skip
     refine Zo hE rfl ?_ ?_
     ·intro hb16
      have hl14:=Zt hl14 hb16
      refine wp_region_lit (Zd hE rfl fun a hE=>Zd hE rfl fun a hE=>HA hE Za ld rfl Tryz.underlying5 Tryz.underlying2 fun a hE=>Zd hE rfl ?_); intro a hE
      obtain ⟨_,e17,hl14⟩:=bind_some hl14
      have e17:=W9 e17
      refine Br hE Za ld rfl rfl (yz _ _ e17) fun a hE=>Zi hE rfl rfl rfl fun a hE=>Zc hE rfl fun a hE=>Zg ?_
      obtain rfl:=Option.some.inj hl14
      refine Zk ?_
      exact ⟨hE.sub ⟨rfl,rfl,rfl,rfl,rfl,trivial⟩,hM⟩
     ·intro hb16
      have hl14:=Zs hl14 hb16
      refine wp_skip ?_
      obtain rfl:=Option.some.inj hl14
      refine Zk ?_
      exact ⟨hE.sub ⟨rfl,rfl,rfl,rfl,rfl,trivial⟩,hM⟩
    ·skip
     rintro a w ⟨hE,hM⟩
     refine Yb ?_
     obtain rfl:=Option.some.inj hF15
     refine Zk ?_
     exact ⟨hE.sub ⟨rfl,rfl,rfl,rfl,rfl,trivial⟩,hM⟩
   ·skip
    rintro a w ⟨hE,hM⟩
    refine wp_region_lit (Zi hE rfl rfl rfl fun a hE=>Zd hE rfl fun a hE=>Zg (Zk ?_))
    exact ⟨_,(ois hF11),hE.sub ⟨rfl,rfl,rfl,rfl,rfl,trivial⟩,hM⟩
  ·intro hb8
   have hs5:=Zs hs5 hb8
   refine wp_exit (Zn (Zn (Ye ?_)))
   obtain rfl:=hx6 _ (ois hs5)
   refine Zk ?_
   exact ⟨hE.sub ⟨rfl,rfl,trivial⟩,hM⟩
 ·skip
  rintro a w ⟨hE,hM⟩
  refine Zp (Zb (Zd hE rfl fun a hE=>Zd hE rfl ?_)); intro a hE
  obtain ⟨r22,e23,hF3⟩:=bind_some hF3
  refine Zx hE rfl (cbm Tryz.func240) (A4 _ j1 p0 8 r22 e23) ?_
  rintro v w a ⟨rfl,hK⟩ hE
  have hM:=hM.keep hK
  refine Xo hE Za ld rfl Tryz.underlying2 Tryz.underlying5 fun a hE=>Zc hE rfl fun a hE=>Ze ?_
  obtain rfl:=Option.some.inj hF3
  exact wp_ret (kr1 hE rfl rfl hM.kept)
def Vj (p0 : Int) (s4 : UInt8 × Int × UInt8) : Option (Fl (UInt8 × Int × UInt8) UInt8) :=
 if (decide (s4.2.1 > 0)) = true then (((if ((Int.tmod s4.2.1 2) == 1) = true then ((Z3 p0 s4.2.2 s4.1).bind fun r16=>some r16) else (some s4.2.2) : Option (UInt8)).bind fun j12=>(Z3 p0 s4.1 s4.1).bind fun r20=>some (r20,j12) : Option (UInt8 × UInt8)).bind fun j9=>some (Fl.nx (j9.1,wr (Int.tdiv s4.2.1 2),j9.2))) else (some (Fl.ex s4.2.2))
def XK (p0 : Int) (p1 : UInt8) (p2 : Int) : Option (UInt8) :=
 (ZA (Vj p0) (p1,p2,1)).bind fun j1=>some j1
theorem KB (w0 : World) (p0 : Int) (p1 : UInt8) (p2 : Int) (r : UInt8) (hF : XK p0 p1 p2 = some r) :
  Calls Tryz.prog 234 [vI p0,vB p1,vI p2].toArray w0 (Rt w0 (vB r)):=by
 refine ce Tryz.func234 ?_
 intro a hE
 have hM:=M.start w0
 unfold XK at hF
 refine Zb (Zc hE rfl fun a hE=>Ze (Zb (Zc hE rfl fun a hE=>Ze ?_)))
 obtain ⟨j1,hl2,hF3⟩:=bind_some hF
 refine ZN (fun a w=>Env 24 a [(7,vB j1)] ∧ M (Old w0) w0 w []) ?_ ?_
 ·skip
  refine wp_block ?_
  refine ZE (fun (s4 : UInt8 × Int × UInt8) a w=>Env 24 a [(0,vI p0),(1,vB s4.1),(2,vI s4.2.1),(7,vB s4.2.2)] ∧ M (Old w0) w0 w []) hl2 ⟨hE.sub ⟨rfl,rfl,rfl,rfl,trivial⟩,hM⟩ ?_
  rintro s4 a w ⟨hE,hM⟩ o7 hs5 hx6
  unfold Vj at hs5
  refine wp_seq (Zb (Zd hE rfl fun a hE=>Zi hE rfl rfl rfl fun a hE=>Ze ?_))
  refine Zo hE rfl ?_ ?_
  ·intro hb8
   have hs5:=Zt hs5 hb8
   refine wp_skip (Zp ?_)
   obtain ⟨j9,hl10,hF11⟩:=bind_some hs5
   refine ZN (fun a w=>Env 24 a [(0,vI p0),(1,vB j9.1),(2,vI s4.2.1),(7,vB j9.2)] ∧ M (Old w0) w0 w []) ?_ ?_
   ·skip
    refine wp_block ?_
    obtain ⟨j12,hl13,hF14⟩:=bind_some hl10
    refine ZN (fun a w=>Env 24 a [(0,vI p0),(1,vB s4.1),(2,vI s4.2.1),(7,vB j12)] ∧ M (Old w0) w0 w []) ?_ ?_
    ·skip
     refine Zb (Zd hE rfl fun a hE=>Zi hE rfl rfl (Qi _ _ (by decide)) fun a hE=>Zi hE rfl rfl rfl fun a hE=>Ze ?_)
     refine Zo hE rfl ?_ ?_
     ·intro hb15
      have hl13:=Zt hl13 hb15
      refine wp_region_lit (Zd hE rfl fun a hE=>Zd hE rfl fun a hE=>Zd hE rfl ?_); intro a hE
      obtain ⟨r16,e17,hl13⟩:=bind_some hl13
      refine Zx hE rfl JU (YI _ p0 s4.2.2 s4.1 r16 e17) ?_
      rintro v w a ⟨rfl,hK⟩ hE
      have hM:=hM.keep hK
      refine Zc hE rfl fun a hE=>Zg ?_
      obtain rfl:=Option.some.inj hl13
      refine Zk ?_
      exact ⟨hE.sub ⟨rfl,rfl,rfl,rfl,trivial⟩,hM⟩
     ·intro hb15
      have hl13:=Zs hl13 hb15
      refine wp_skip ?_
      obtain rfl:=Option.some.inj hl13
      refine Zk ?_
      exact ⟨hE.sub ⟨rfl,rfl,rfl,rfl,trivial⟩,hM⟩
    ·skip
     rintro a w ⟨hE,hM⟩
     refine wp_region_lit (Zd hE rfl fun a hE=>Zd hE rfl fun a hE=>Zd hE rfl ?_); intro a hE
     obtain ⟨r20,e21,hF14⟩:=bind_some hF14
     refine Zx hE rfl JU (YI _ p0 s4.1 s4.1 r20 e21) ?_
     rintro v w a ⟨rfl,hK⟩ hE
     have hM:=hM.keep hK
     refine Zc hE rfl fun a hE=>Zg (Yb ?_)
     obtain rfl:=Option.some.inj hF14
     refine Zk ?_
     exact ⟨hE.sub ⟨rfl,rfl,rfl,rfl,trivial⟩,hM⟩
   ·skip
    rintro a w ⟨hE,hM⟩
    refine wp_region_lit (Zd hE rfl fun a hE=>Zi hE rfl rfl (Ap _ _ (by decide)) fun a hE=>Zc hE rfl fun a hE=>Zg (Zk ?_))
    exact ⟨_,(ois hF11),hE.sub ⟨rfl,rfl,rfl,rfl,trivial⟩,hM⟩
  ·intro hb8
   have hs5:=Zs hs5 hb8
   refine wp_exit (Zn (Zn (Ye ?_)))
   obtain rfl:=hx6 _ (ois hs5)
   refine Zk ?_
   exact ⟨hE.sub ⟨rfl,trivial⟩,hM⟩
 ·skip
  rintro a w ⟨hE,hM⟩
  refine Zb (Zd hE rfl fun a hE=>Zc hE rfl fun a hE=>Ze ?_)
  obtain rfl:=Option.some.inj hF3
  exact wp_ret (kr1 hE rfl rfl hM.kept)
def Yh (p0 : Int) (p1 : UInt8) : Option (UInt8) :=
 (XK p0 p1 254).bind fun r1=>some r1
theorem Uo (w0 : World) (p0 : Int) (p1 : UInt8) (r : UInt8) (hF : Yh p0 p1 = some r) :
  Calls Tryz.prog 215 [vI p0,vB p1].toArray w0 (Rt w0 (vB r)):=by
 refine ce Tryz.func215 ?_
 intro a hE
 have hM:=M.start w0
 unfold Yh at hF
 refine Zb (Zc hE rfl fun a hE=>Ze (Zb (Zd hE rfl fun a hE=>Zd hE rfl ?_))); intro a hE
 obtain ⟨r1,e2,hF⟩:=bind_some hF
 refine Zx hE rfl (cbm Tryz.func234) (KB _ p0 p1 254 r1 e2) ?_
 rintro v w a ⟨rfl,hK⟩ hE
 have hM:=hM.keep hK
 refine Zc hE rfl fun a hE=>Ze ?_
 obtain rfl:=Option.some.inj hF
 exact wp_ret (kr1 hE rfl rfl hM.kept)
def Yc (p0 : UInt8) (p1 : Int) : Option (UInt8) :=
 (XW (wru (BitVec.ofInt 64 (IntKind.u64.wrap p1) &&& BitVec.ofInt 64 7).toNat)).bind fun _=>(XW (IntKind.u64.wrap (8 - (wru (BitVec.ofInt 64 (IntKind.u64.wrap p1) &&& BitVec.ofInt 64 7).toNat)))).bind fun _=>some ((shlB p0 (wru (BitVec.ofInt 64 (IntKind.u64.wrap p1) &&& BitVec.ofInt 64 7).toNat)) ||| (HR p0 (IntKind.u64.wrap (8 - (wru (BitVec.ofInt 64 (IntKind.u64.wrap p1) &&& BitVec.ofInt 64 7).toNat)))))
theorem U5 (w0 : World) (p0 : UInt8) (p1 : Int) (r : UInt8) (hF : Yc p0 p1 = some r) :
  Calls Tryz.prog 216 [vB p0,vI p1].toArray w0 (Rt w0 (vB r)):=by
 refine ce Tryz.func216 ?_
 intro a hE
 have hM:=M.start w0
 unfold Yc at hF
 refine Zb (Zc hE rfl fun a hE=>Ze (Zb (Zd hE rfl fun a hE=>KC hE Za ld rfl Tryz.underlying3 Tryz.underlying171 fun a hE=>Zi hE rfl rfl rfl fun a hE=>Zc hE rfl fun a hE=>Ze (Zb (Zd hE rfl fun a hE=>Zd hE rfl ?_))))); intro a hE
 obtain ⟨_,e1,hF⟩:=bind_some hF
 have e1:=W9 e1
 refine Br hE Za ld rfl rfl (bB_shl _ _ e1) fun a hE=>Zd hE rfl fun a hE=>Zd hE rfl fun a hE=>Zi hE rfl rfl rfl ?_; intro a hE
 obtain ⟨_,e2,hF⟩:=bind_some hF
 have e2:=W9 e2
 refine Br hE Za ld rfl rfl (kC _ _ e2) fun a hE=>Zi hE rfl rfl (bB_or (shlB p0 (wru (BitVec.ofInt 64 (IntKind.u64.wrap p1) &&& BitVec.ofInt 64 7).toNat)) (HR p0 (IntKind.u64.wrap (8 - (wru (BitVec.ofInt 64 (IntKind.u64.wrap p1) &&& BitVec.ofInt 64 7).toNat))))) fun a hE=>Zc hE rfl fun a hE=>Ze ?_
 obtain rfl:=Option.some.inj hF
 exact wp_ret (kr1 hE rfl rfl hM.kept)
def Wj (s8 : (Vector UInt8 256) × Int) : Option (Fl ((Vector UInt8 256) × Int) (Vector UInt8 256)) :=
 if (decide (s8.2 < 256)) = true then ((Yh 285 (ZG s8.2)).bind fun r13=>(Yc r13 1).bind fun r15=>(Yc r13 4).bind fun r17=>(ZI s8.1 s8.2).bind fun x20=>some (Fl.nx ((s8.1.setIfInBounds (s8.2).toNat (((r13 ^^^ r15) ^^^ r17) ^^^ 90)),wr (s8.2 + 1)))) else (some (Fl.ex s8.1))
def Vh (s26 : (Vector (Vector UInt8 4) 4) × Int) (s34 : (Vector (Vector UInt8 4) 4) × Int) : Option (Fl ((Vector (Vector UInt8 4) 4) × Int) (Vector (Vector UInt8 4) 4)) :=
 if (decide (s34.2 < 4)) = true then ((Yh 285 (ZG (JD s26.2 (wr (4 + s34.2))))).bind fun r40=>(ZI s34.1 s26.2).bind fun x43=>(ZI x43 s34.2).bind fun x46=>some (Fl.nx ((s34.1.setIfInBounds (s26.2).toNat (x43.setIfInBounds (s34.2).toNat r40)),wr (s34.2 + 1)))) else (some (Fl.ex s34.1))
def Vg (s26 : (Vector (Vector UInt8 4) 4) × Int) : Option (Fl ((Vector (Vector UInt8 4) 4) × Int) (Vector (Vector UInt8 4) 4)) :=
 if (decide (s26.2 < 4)) = true then ((ZA (Vh s26) (s26.1,0)).bind fun j31=>some (Fl.nx (j31,wr (s26.2 + 1)))) else (some (Fl.ex s26.1))
def Vf (s53 : (Vector UInt8 16) × Int) : Option (Fl ((Vector UInt8 16) × Int) (Vector UInt8 16)) :=
 if (decide (s53.2 < 16)) = true then ((ZI s53.1 s53.2).bind fun x59=>some (Fl.nx ((s53.1.setIfInBounds (s53.2).toNat (ZG (Int.tmod (wr ((wr (13 * s53.2)) + 4)) 16))),wr (s53.2 + 1)))) else (some (Fl.ex s53.1))
def WM (p0 : Int) : Option (GCipher) :=
 (ZA (Wj) ((Vector.replicate 256 (0 : UInt8)),0)).bind fun j5=>(ZA (Vg) ((Vector.replicate 4 (Vector.replicate 4 (0 : UInt8))),0)).bind fun j23=>(ZA (Vf) ((Vector.replicate 16 (0 : UInt8)),0)).bind fun j50=>some (⟨285,j5,j23,j50,p0⟩ : GCipher)
theorem KJ (w0 : World) (p0 : Int) (r : GCipher) (hF : WM p0 = some r) :
  Calls Tryz.prog 180 [vI p0].toArray w0 (Rt w0 (Value.agg (enc r).toArray)):=by
 refine ce Tryz.func180 ?_
 intro a hE
 have hM:=M.start w0
 unfold WM at hF
 refine Zb (Zz hE hM Up fun b1 w a hM hE=>Ze (Zb (Zd hE rfl fun a hE=>XM (parts:=[(0,.const (vI 285)),(4,.tmp 9)]) (vs:=[(0,vI 285),(4,vI p0)]) (cs:=cat [[vI 285],enc (Vector.replicate 256 (0 : UInt8)),enc (Vector.replicate 4 (Vector.replicate 4 (0 : UInt8))),enc (Vector.replicate 16 (0 : UInt8)),[vI p0]]) hE Za ld rfl rfl Up pl163 (Xx (pre:=[]) (seg:=[vI 0]) (seg':=[vI 285]) (post:=[enc (Vector.replicate 256 (0 : UInt8)),enc (Vector.replicate 4 (Vector.replicate 4 (0 : UInt8))),enc (Vector.replicate 16 (0 : UInt8)),[vI 0]]) rfl cl0 rfl rfl rfl (Xx (pre:=[[vI 285],enc (Vector.replicate 256 (0 : UInt8)),enc (Vector.replicate 4 (Vector.replicate 4 (0 : UInt8))),enc (Vector.replicate 16 (0 : UInt8))]) (seg:=[vI 0]) (seg':=[vI p0]) (post:=[]) rfl ck rfl rfl rfl Vv)) fun a hE=>Zz hE hM Up fun b3 w a hM hE=>Zm (seg:=cat [[vI 285],enc (Vector.replicate 256 (0 : UInt8)),enc (Vector.replicate 4 (Vector.replicate 4 (0 : UInt8))),enc (Vector.replicate 16 (0 : UInt8)),[vI p0]]) (cs':=cat [[vI 285],enc (Vector.replicate 256 (0 : UInt8)),enc (Vector.replicate 4 (Vector.replicate 4 (0 : UInt8))),enc (Vector.replicate 16 (0 : UInt8)),[vI p0]]) hE hM Za rfl rfl rfl Up cq (Nat.le_of_eq ((Nat.zero_add _).trans (Eq.trans cq (Eq.symm cq)))) (Yq (cc1 (Flat.cell (285 : Int)) (cc1 (Flat.cell _) (cc1 (Flat.cell _) (cc1 (Flat.cell _) (cc1 (Flat.cell (p0 : Int)) cc0)))))) (Zh (Eq.trans cq (Eq.symm cq))) fun w a hM hE=>Ze (wp_seq (Zb (Zd hE rfl fun a hE=>Ze ?_))))))
 obtain ⟨j5,hl6,hF7⟩:=bind_some hF
 refine ZO (fun a w=>Env 61 a [(2,(ptr b1 0)),(3,(ptr b3 0))] ∧ M (Old w0) w0 w [raw b3 (cat [[vI 285],enc j5,enc (Vector.replicate 4 (Vector.replicate 4 (0 : UInt8))),enc (Vector.replicate 16 (0 : UInt8)),[vI p0]]),raw b1 (cat [[vI 0],enc (Vector.replicate 256 (0 : UInt8)),enc (Vector.replicate 4 (Vector.replicate 4 (0 : UInt8))),enc (Vector.replicate 16 (0 : UInt8)),[vI 0]])]) ?_ ?_
 ·skip
  refine wp_block ?_
  refine ZE (fun (s8 : (Vector UInt8 256) × Int) a w=>Env 61 a [(2,(ptr b1 0)),(3,(ptr b3 0)),(11,vI s8.2)] ∧ M (Old w0) w0 w [raw b3 (cat [[vI 285],enc s8.1,enc (Vector.replicate 4 (Vector.replicate 4 (0 : UInt8))),enc (Vector.replicate 16 (0 : UInt8)),[vI p0]]),raw b1 (cat [[vI 0],enc (Vector.replicate 256 (0 : UInt8)),enc (Vector.replicate 4 (Vector.replicate 4 (0 : UInt8))),enc (Vector.replicate 16 (0 : UInt8)),[vI 0]])]) hl6 ⟨hE.sub ⟨rfl,rfl,rfl,trivial⟩,hM⟩ ?_
  rintro s8 a w ⟨hE,hM⟩ o11 hs9 hx10
  unfold Wj at hs9
  refine Zb (Zi hE rfl rfl rfl fun a hE=>Ze (wp_seq ?_))
  refine Zo hE rfl ?_ ?_
  ·intro hb12
   have hs9:=Zt hs9 hb12
   refine wp_skip (Zp (wp_seq (wp_block (Zb (Zd hE rfl fun a hE=>Zc hE rfl fun a hE=>Ze (Zb (Zd hE rfl fun a hE=>Xo hE Za ld rfl Tryz.underlying3 Tryz.underlying5 ?_))))))); intro a hE
   obtain ⟨r13,e14,hs9⟩:=bind_some hs9
   refine Zx hE rfl jU (Uo _ 285 (ZG s8.2) r13 e14) ?_
   rintro v w a ⟨rfl,hK⟩ hE
   have hM:=hM.keep hK
   refine Zc hE rfl fun a hE=>Ze (wp_region_lit (Zd hE rfl fun a hE=>Zd hE rfl fun a hE=>Zd hE rfl ?_)); intro a hE
   obtain ⟨r15,e16,hs9⟩:=bind_some hs9
   refine Zx hE rfl (cbm Tryz.func216) (U5 _ r13 1 r15 e16) ?_
   rintro v w a ⟨rfl,hK⟩ hE
   have hM:=hM.keep hK
   refine Zi hE rfl rfl (V0 r13 r15) fun a hE=>Zd hE rfl ?_; intro a hE
   obtain ⟨r17,e18,hs9⟩:=bind_some hs9
   refine Zx hE rfl (cbm Tryz.func216) (U5 _ r13 4 r17 e18) ?_
   rintro v w a ⟨rfl,hK⟩ hE
   have hM:=hM.keep hK
   refine Zi hE rfl rfl (V0 (r13 ^^^ r15) r17) fun a hE=>Zi hE rfl rfl (V0 ((r13 ^^^ r15) ^^^ r17) 90) fun a hE=>Zy hE rfl (Kb) ?_; intro a hE
   obtain ⟨x20,hi19,hs9⟩:=bvx hs9
   refine ZF hE rfl rfl Tryz.underlying157 ty5 hi19.1 fun a hE=>Zm (seg:=[(vB (((r13 ^^^ r15) ^^^ r17) ^^^ 90))]) (cs':=cat [[vI 285],enc (s8.1.setIfInBounds (s8.2).toNat (((r13 ^^^ r15) ^^^ r17) ^^^ 90)),enc (Vector.replicate 4 (Vector.replicate 4 (0 : UInt8))),enc (Vector.replicate 16 (0 : UInt8)),[vI p0]]) hE hM Za rfl rfl rfl ty5 rfl (Q2 (o':=0 + (s8.2).toNat * 1) (pre:=[[vI 285]]) (seg:=enc s8.1) (post:=[enc (Vector.replicate 4 (Vector.replicate 4 (0 : UInt8))),enc (Vector.replicate 16 (0 : UInt8)),[vI p0]]) ck (ZS (v:=s8.1) (x:=((r13 ^^^ r15) ^^^ r17) ^^^ 90) hi19.1) (by first | omega | (simp only [Flat.n] <;> omega))) (Flat.cell (((r13 ^^^ r15) ^^^ r17) ^^^ 90 : UInt8)) (TE (o':=0 + (s8.2).toNat * 1) (pre:=[[vI 285]]) (seg:=enc s8.1) (post:=[enc (Vector.replicate 4 (Vector.replicate 4 (0 : UInt8))),enc (Vector.replicate 16 (0 : UInt8)),[vI p0]]) ck (ZS (v:=s8.1) (x:=((r13 ^^^ r15) ^^^ r17) ^^^ 90) hi19.1) (ZD (v:=s8.1) (x:=((r13 ^^^ r15) ^^^ r17) ^^^ 90) hi19.1) (by first | omega | (simp only [Flat.n] <;> omega))) fun w a hM hE=>Zg (Yb (Zp (wp_region_lit (Zi hE rfl rfl rfl fun a hE=>Zd hE rfl fun a hE=>Zg (Zk ?_)))))
   exact ⟨_,(ois hs9),hE.sub ⟨rfl,rfl,rfl,trivial⟩,hM⟩
  ·intro hb12
   have hs9:=Zs hs9 hb12
   refine wp_exit (Zn (Zn (Ye ?_)))
   obtain rfl:=hx10 _ (ois hs9)
   refine Zk ?_
   exact ⟨hE.sub ⟨rfl,rfl,trivial⟩,hM⟩
 ·skip
  rintro a w ⟨hE,hM⟩
  refine Zp (wp_seq (Zb (Zd hE rfl fun a hE=>Ze ?_)))
  obtain ⟨j23,hl24,hF25⟩:=bind_some hF7
  refine ZO (fun a w=>Env 61 a [(2,(ptr b1 0)),(3,(ptr b3 0))] ∧ M (Old w0) w0 w [raw b3 (cat [[vI 285],enc j5,enc j23,enc (Vector.replicate 16 (0 : UInt8)),[vI p0]]),raw b1 (cat [[vI 0],enc (Vector.replicate 256 (0 : UInt8)),enc (Vector.replicate 4 (Vector.replicate 4 (0 : UInt8))),enc (Vector.replicate 16 (0 : UInt8)),[vI 0]])]) ?_ ?_
  ·skip
   refine wp_block ?_
   refine ZE (fun (s26 : (Vector (Vector UInt8 4) 4) × Int) a w=>Env 61 a [(2,(ptr b1 0)),(3,(ptr b3 0)),(29,vI s26.2)] ∧ M (Old w0) w0 w [raw b3 (cat [[vI 285],enc j5,enc s26.1,enc (Vector.replicate 16 (0 : UInt8)),[vI p0]]),raw b1 (cat [[vI 0],enc (Vector.replicate 256 (0 : UInt8)),enc (Vector.replicate 4 (Vector.replicate 4 (0 : UInt8))),enc (Vector.replicate 16 (0 : UInt8)),[vI 0]])]) hl24 ⟨hE.sub ⟨rfl,rfl,rfl,trivial⟩,hM⟩ ?_
   rintro s26 a w ⟨hE,hM⟩ o29 hs27 hx28
   unfold Vg at hs27
   refine Zb (Zi hE rfl rfl rfl fun a hE=>Ze (wp_seq ?_))
   refine Zo hE rfl ?_ ?_
   ·intro hb30
    have hs27:=Zt hs27 hb30
    refine wp_skip (Zp (wp_seq (wp_block (Zb (Zd hE rfl fun a hE=>Zc hE rfl fun a hE=>Ze (Zb (Zd hE rfl fun a hE=>Ze ?_)))))))
    obtain ⟨j31,hl32,hF33⟩:=bind_some hs27
    refine ZO (fun a w=>Env 61 a [(2,(ptr b1 0)),(3,(ptr b3 0)),(29,vI s26.2)] ∧ M (Old w0) w0 w [raw b3 (cat [[vI 285],enc j5,enc j31,enc (Vector.replicate 16 (0 : UInt8)),[vI p0]]),raw b1 (cat [[vI 0],enc (Vector.replicate 256 (0 : UInt8)),enc (Vector.replicate 4 (Vector.replicate 4 (0 : UInt8))),enc (Vector.replicate 16 (0 : UInt8)),[vI 0]])]) ?_ ?_
    ·skip
     refine wp_block ?_
     refine ZE (fun (s34 : (Vector (Vector UInt8 4) 4) × Int) a w=>Env 61 a [(2,(ptr b1 0)),(3,(ptr b3 0)),(6,vI s26.2),(29,vI s26.2),(32,vI s34.2)] ∧ M (Old w0) w0 w [raw b3 (cat [[vI 285],enc j5,enc s34.1,enc (Vector.replicate 16 (0 : UInt8)),[vI p0]]),raw b1 (cat [[vI 0],enc (Vector.replicate 256 (0 : UInt8)),enc (Vector.replicate 4 (Vector.replicate 4 (0 : UInt8))),enc (Vector.replicate 16 (0 : UInt8)),[vI 0]])]) hl32 ⟨hE.sub ⟨rfl,rfl,rfl,rfl,rfl,trivial⟩,hM⟩ ?_
     rintro s34 a w ⟨hE,hM⟩ o37 hs35 hx36
     unfold Vh at hs35
     refine Zb (Zi hE rfl rfl rfl fun a hE=>Ze (wp_seq ?_))
     refine Zo hE rfl ?_ ?_
     ·intro hb38
      have hs35:=Zt hs35 hb38
      refine wp_skip (Zp (wp_seq (wp_block (Zb (Zd hE rfl fun a hE=>Zc hE rfl fun a hE=>Ze ?_)))))
      obtain ⟨r40,e41,hs35⟩:=bind_some hs35
      obtain ⟨x43,hi42,hs35⟩:=bvx hs35
      obtain ⟨x46,hi45,hs35⟩:=bvx hs35
      refine ZX [35,36,37,38,39,40,41,42,43,44,45] Yu rfl rfl (by decide) rfl hE hM (qsP (fun z=>Zj z.E Za ld rfl (kr0 rfl)) (qsP (fun z=>Zj z.E Za ld rfl (kr0 rfl)) (qsP (fun z=>Zj z.E Za ld rfl (kr0 rfl)) (qsP (fun z=>Zj z.E Za ld rfl (kr0 rfl)) (qsP (v:=(vI (wr (4 + s34.2)))) (fun z=>Z9 z.E Za ld rfl rfl rfl (kr0 rfl)) (qsP (v:=(vI (JD s26.2 (wr (4 + s34.2))))) (fun z=>Z9 z.E Za ld rfl rfl rfl (kr0 rfl)) (qsP (fun z=>Xo z.E Za ld rfl Tryz.underlying3 Tryz.underlying5 (kr0 rfl)) (qsP (fun z=>Yk z.E Za ld rfl jU (Uo _ 285 (ZG (JD s26.2 (wr (4 + s34.2)))) r40 e41) (kc rfl)) (qsP (fun z=>Zq z.E Za ld rfl (Jg) (kr0 rfl)) (qsP (fun z=>ZC z.E Za ld rfl rfl Tryz.underlying160 XB hi42.1 (kr0 rfl)) (qsP (fun z=>ZC z.E Za ld rfl rfl Tryz.underlying158 ty5 hi45.1 (kr0 rfl)) qs0))))))))))) ?_
      ·intro a w u hE hM
       refine Zm (seg:=[vB r40]) (cs':=cat [[vI 285],enc j5,enc (s34.1.setIfInBounds (s26.2).toNat (x43.setIfInBounds (s34.2).toNat r40)),enc (Vector.replicate 16 (0 : UInt8)),[vI p0]]) hE hM Za rfl rfl rfl ty5 rfl (Q2 (o':=(s26.2).toNat * 4 + (0 + (s34.2).toNat * 1)) (pre:=[[vI 285],enc j5]) (seg:=enc s34.1) (post:=[enc (Vector.replicate 16 (0 : UInt8)),[vI p0]]) ck (VJ (o':=0 + (s34.2).toNat * 1) hi42 (ZS (v:=x43) (x:=r40) hi45.1) (by first | omega | (simp only [Flat.n] <;> omega))) (by first | omega | (simp only [Flat.n] <;> omega))) (Flat.cell (r40 : UInt8)) (TE (o':=(s26.2).toNat * 4 + (0 + (s34.2).toNat * 1)) (pre:=[[vI 285],enc j5]) (seg:=enc s34.1) (post:=[enc (Vector.replicate 16 (0 : UInt8)),[vI p0]]) ck (VJ (o':=0 + (s34.2).toNat * 1) hi42 (ZS (v:=x43) (x:=r40) hi45.1) (by first | omega | (simp only [Flat.n] <;> omega))) (W5 (o':=0 + (s34.2).toNat * 1) hi42 (ZS (v:=x43) (x:=r40) hi45.1) (ZD (v:=x43) (x:=r40) hi45.1) (by first | omega | (simp only [Flat.n] <;> omega))) (by first | omega | (simp only [Flat.n] <;> omega))) fun w a hM hE=>Zg (Yb (Zp (wp_region_lit (Zi hE rfl rfl rfl fun a hE=>Zd hE rfl fun a hE=>Zg (Zk ?_)))))
       exact ⟨_,(ois hs35),hE.sub ⟨rfl,rfl,rfl,rfl,rfl,trivial⟩,hM⟩
     ·intro hb38
      have hs35:=Zs hs35 hb38
      refine wp_exit (Zn (Zn (Ye ?_)))
      obtain rfl:=hx36 _ (ois hs35)
      refine Zk ?_
      exact ⟨hE.sub ⟨rfl,rfl,rfl,trivial⟩,hM⟩
    ·skip
     rintro a w ⟨hE,hM⟩
     refine Yb (Zp (wp_region_lit (Zi hE rfl rfl rfl fun a hE=>Zd hE rfl fun a hE=>Zg (Zk ?_))))
     exact ⟨_,(ois hF33),hE.sub ⟨rfl,rfl,rfl,trivial⟩,hM⟩
   ·intro hb30
    have hs27:=Zs hs27 hb30
    refine wp_exit (Zn (Zn (Ye ?_)))
    obtain rfl:=hx28 _ (ois hs27)
    refine Zk ?_
    exact ⟨hE.sub ⟨rfl,rfl,trivial⟩,hM⟩
  ·skip
   rintro a w ⟨hE,hM⟩
   refine Zp (wp_seq (Zb (Zd hE rfl fun a hE=>Ze ?_)))
   obtain ⟨j50,hl51,hF52⟩:=bind_some hF25
   refine ZO (fun a w=>Env 61 a [(2,(ptr b1 0)),(3,(ptr b3 0))] ∧ M (Old w0) w0 w [raw b3 (cat [[vI 285],enc j5,enc j23,enc j50,[vI p0]]),raw b1 (cat [[vI 0],enc (Vector.replicate 256 (0 : UInt8)),enc (Vector.replicate 4 (Vector.replicate 4 (0 : UInt8))),enc (Vector.replicate 16 (0 : UInt8)),[vI 0]])]) ?_ ?_
   ·skip
    refine wp_block ?_
    refine ZE (fun (s53 : (Vector UInt8 16) × Int) a w=>Env 61 a [(2,(ptr b1 0)),(3,(ptr b3 0)),(48,vI s53.2)] ∧ M (Old w0) w0 w [raw b3 (cat [[vI 285],enc j5,enc j23,enc s53.1,[vI p0]]),raw b1 (cat [[vI 0],enc (Vector.replicate 256 (0 : UInt8)),enc (Vector.replicate 4 (Vector.replicate 4 (0 : UInt8))),enc (Vector.replicate 16 (0 : UInt8)),[vI 0]])]) hl51 ⟨hE.sub ⟨rfl,rfl,rfl,trivial⟩,hM⟩ ?_
    rintro s53 a w ⟨hE,hM⟩ o56 hs54 hx55
    unfold Vf at hs54
    refine Zb (Zi hE rfl rfl rfl fun a hE=>Ze (wp_seq ?_))
    refine Zo hE rfl ?_ ?_
    ·intro hb57
     have hs54:=Zt hs54 hb57
     refine wp_skip (Zp (wp_seq (wp_block (Zb (Zd hE rfl fun a hE=>Zc hE rfl fun a hE=>Ze (wp_region_lit (Zd hE rfl fun a hE=>Zd hE rfl fun a hE=>Zi hE rfl rfl rfl fun a hE=>Zi hE rfl rfl rfl fun a hE=>Zi hE rfl rfl (Qi _ _ (by decide)) fun a hE=>Xo hE Za ld rfl Tryz.underlying3 Tryz.underlying5 fun a hE=>Zy hE rfl (KZ) ?_))))))); intro a hE
     obtain ⟨x59,hi58,hs54⟩:=bvx hs54
     refine ZF hE rfl rfl Tryz.underlying161 ty5 hi58.1 fun a hE=>Zm (seg:=[(vB (ZG (Int.tmod (wr ((wr (13 * s53.2)) + 4)) 16)))]) (cs':=cat [[vI 285],enc j5,enc j23,enc (s53.1.setIfInBounds (s53.2).toNat (ZG (Int.tmod (wr ((wr (13 * s53.2)) + 4)) 16))),[vI p0]]) hE hM Za rfl rfl rfl ty5 rfl (Q2 (o':=0 + (s53.2).toNat * 1) (pre:=[[vI 285],enc j5,enc j23]) (seg:=enc s53.1) (post:=[[vI p0]]) ck (ZS (v:=s53.1) (x:=ZG (Int.tmod (wr ((wr (13 * s53.2)) + 4)) 16)) hi58.1) (by first | omega | (simp only [Flat.n] <;> omega))) (Flat.cell (ZG (Int.tmod (wr ((wr (13 * s53.2)) + 4)) 16) : UInt8)) (TE (o':=0 + (s53.2).toNat * 1) (pre:=[[vI 285],enc j5,enc j23]) (seg:=enc s53.1) (post:=[[vI p0]]) ck (ZS (v:=s53.1) (x:=ZG (Int.tmod (wr ((wr (13 * s53.2)) + 4)) 16)) hi58.1) (ZD (v:=s53.1) (x:=ZG (Int.tmod (wr ((wr (13 * s53.2)) + 4)) 16)) hi58.1) (by first | omega | (simp only [Flat.n] <;> omega))) fun w a hM hE=>Zg (Yb (Zp (wp_region_lit (Zi hE rfl rfl rfl fun a hE=>Zd hE rfl fun a hE=>Zg (Zk ?_)))))
     exact ⟨_,(ois hs54),hE.sub ⟨rfl,rfl,rfl,trivial⟩,hM⟩
    ·intro hb57
     have hs54:=Zs hs54 hb57
     refine wp_exit (Zn (Zn (Ye ?_)))
     obtain rfl:=hx55 _ (ois hs54)
     refine Zk ?_
     exact ⟨hE.sub ⟨rfl,rfl,trivial⟩,hM⟩
   ·skip
    rintro a w ⟨hE,hM⟩
    refine Zp (Zb (Zr hE rfl Up rfl hM.rawAt0 cq ?_)); intro a hE
    have hM:=hM.pull1
    refine Zm (seg:=cat [[(vI ((⟨285,j5,j23,j50,p0⟩ : GCipher).Field))],enc ((⟨285,j5,j23,j50,p0⟩ : GCipher).Box),enc ((⟨285,j5,j23,j50,p0⟩ : GCipher).Mix),enc ((⟨285,j5,j23,j50,p0⟩ : GCipher).Places),[(vI ((⟨285,j5,j23,j50,p0⟩ : GCipher).Rounds))]]) (cs':=cat [[(vI ((⟨285,j5,j23,j50,p0⟩ : GCipher).Field))],enc ((⟨285,j5,j23,j50,p0⟩ : GCipher).Box),enc ((⟨285,j5,j23,j50,p0⟩ : GCipher).Mix),enc ((⟨285,j5,j23,j50,p0⟩ : GCipher).Places),[(vI ((⟨285,j5,j23,j50,p0⟩ : GCipher).Rounds))]]) hE hM Za rfl rfl rfl Up cq (Nat.le_of_eq ((Nat.zero_add _).trans (Eq.trans cq (Eq.symm cq)))) (Yq (cc1 (Flat.cell ((⟨285,j5,j23,j50,p0⟩ : GCipher).Field : Int)) (cc1 (Flat.cell _) (cc1 (Flat.cell _) (cc1 (Flat.cell _) (cc1 (Flat.cell ((⟨285,j5,j23,j50,p0⟩ : GCipher).Rounds : Int)) cc0)))))) (Zh (Eq.trans cq (Eq.symm cq))) fun w a hM hE=>Ze ?_
    obtain rfl:=Option.some.inj hF52
    have hq62 : Z6 Tryz.prog _ _ (.cell 2 163) _:=ZK hE rfl Up rfl hM.rawAt0 cq rfl
    exact wp_ret (ZP hE rfl hq62 ⟨_,rfl,rfl,hM.kept⟩)
def U1 (s8 : (Vector (Vector UInt8 4) 4) × Int) : Option (Fl ((Vector (Vector UInt8 4) 4) × Int) (Vector (Vector UInt8 4) 4)) :=
 if (decide (s8.2 < 4)) = true then ((ZI s8.1 s8.2).bind fun x14=>(ZI x14 s8.2).bind fun x17=>some (Fl.nx ((s8.1.setIfInBounds (s8.2).toNat (x14.setIfInBounds (s8.2).toNat 1)),wr (s8.2 + 1)))) else (some (Fl.ex s8.1))
def W6 : Option ((Vector (Vector UInt8 4) 4)) :=
 (ZA (U1) ((Vector.replicate 4 (Vector.replicate 4 (0 : UInt8))),0)).bind fun j5=>some j5
theorem KN (w0 : World)  (r : (Vector (Vector UInt8 4) 4)) (hF : W6  = some r) :
  Calls Tryz.prog 232 [].toArray w0 (Rt w0 (Value.agg (enc r).toArray)):=by
 refine ce Tryz.func232 ?_
 intro a hE
 have hM:=M.start w0
 unfold W6 at hF
 refine Zb (Zz hE hM Ua fun b1 w a hM hE=>Ze (Zb (YB (parts:=[]) (vs:=[]) (cs:=enc (Vector.replicate 4 (Vector.replicate 4 (0 : UInt8)))) hE Za ld rfl rfl Ua rfl XB Yp fun a hE=>Zz hE hM Ua fun b3 w a hM hE=>Zm (seg:=enc (Vector.replicate 4 (Vector.replicate 4 (0 : UInt8)))) (cs':=enc (Vector.replicate 4 (Vector.replicate 4 (0 : UInt8)))) hE hM Za rfl rfl rfl Ua (Flat.len _) (zle flq) (Flat.cell _) (Zh flq) fun w a hM hE=>Ze (wp_seq (Zb (Zd hE rfl fun a hE=>Ze ?_))))))
 obtain ⟨j5,hl6,hF7⟩:=bind_some hF
 refine ZO (fun a w=>Env 13 a [(0,(ptr b1 0)),(1,(ptr b3 0))] ∧ M (Old w0) w0 w [raw b3 (enc j5),raw b1 (enc (Vector.replicate 4 (Vector.replicate 4 (0 : UInt8))))]) ?_ ?_
 ·skip
  refine wp_block ?_
  refine ZE (fun (s8 : (Vector (Vector UInt8 4) 4) × Int) a w=>Env 13 a [(0,(ptr b1 0)),(1,(ptr b3 0)),(4,vI s8.2)] ∧ M (Old w0) w0 w [raw b3 (enc s8.1),raw b1 (enc (Vector.replicate 4 (Vector.replicate 4 (0 : UInt8))))]) hl6 ⟨hE.sub ⟨rfl,rfl,rfl,trivial⟩,hM⟩ ?_
  rintro s8 a w ⟨hE,hM⟩ o11 hs9 hx10
  unfold U1 at hs9
  refine Zb (Zi hE rfl rfl rfl fun a hE=>Ze (wp_seq ?_))
  refine Zo hE rfl ?_ ?_
  ·intro hb12
   have hs9:=Zt hs9 hb12
   refine wp_skip (Zp (wp_seq (wp_block (Zb (Zd hE rfl fun a hE=>Zc hE rfl fun a hE=>Ze (wp_region_lit (Zd hE rfl fun a hE=>Zd hE rfl ?_))))))); intro a hE
   obtain ⟨x14,hi13,hs9⟩:=bvx hs9
   refine ZF hE rfl rfl Tryz.underlying160 XB hi13.1 ?_; intro a hE
   obtain ⟨x17,hi16,hs9⟩:=bvx hs9
   refine ZF hE rfl rfl Tryz.underlying158 ty5 hi16.1 fun a hE=>Zm (seg:=[vB 1]) (cs':=enc (s8.1.setIfInBounds (s8.2).toNat (x14.setIfInBounds (s8.2).toNat 1))) hE hM Za rfl rfl rfl ty5 rfl (VJ (o':=0 + (s8.2).toNat * 1) hi13 (ZS (v:=x14) (x:=1) hi16.1) (by first | omega | (simp only [Flat.n] <;> omega))) (Flat.cell (1 : UInt8)) (W5 (o':=0 + (s8.2).toNat * 1) hi13 (ZS (v:=x14) (x:=1) hi16.1) (ZD (v:=x14) (x:=1) hi16.1) (by first | omega | (simp only [Flat.n] <;> omega))) fun w a hM hE=>Zg (Yb (Zp (wp_region_lit (Zi hE rfl rfl rfl fun a hE=>Zd hE rfl fun a hE=>Zg (Zk ?_)))))
   exact ⟨_,(ois hs9),hE.sub ⟨rfl,rfl,rfl,trivial⟩,hM⟩
  ·intro hb12
   have hs9:=Zs hs9 hb12
   refine wp_exit (Zn (Zn (Ye ?_)))
   obtain rfl:=hx10 _ (ois hs9)
   refine Zk ?_
   exact ⟨hE.sub ⟨rfl,rfl,trivial⟩,hM⟩
 ·skip
  rintro a w ⟨hE,hM⟩
  refine Zp (Zb (Zr hE rfl Ua rfl hM.rawAt0 (Flat.len _) ?_)); intro a hE
  have hM:=hM.pull1
  refine Zm (seg:=enc j5) (cs':=enc j5) hE hM Za rfl rfl rfl Ua (Flat.len _) (zle flq) (Flat.cell _) (Zh flq) fun w a hM hE=>Ze ?_
  obtain rfl:=Option.some.inj hF7
  have hq20 : Z6 Tryz.prog _ _ (.cell 0 160) _:=ZK hE rfl Ua rfl hM.rawAt0 (Flat.len _) rfl
  exact wp_ret (ZP hE rfl hq20 ⟨_,rfl,rfl,hM.kept⟩)
def Uk (s13 : (Vector (Vector UInt8 4) 4) × (Vector (Vector UInt8 4) 4) × Int × UInt8) (s21 : Int) : Option (Fl Int Int) :=
 (if (decide (s21 < 4)) = true then ((ZI s13.1 s21).bind fun x30=>(ZI x30 s13.2.2.1).bind fun x33=>some (x33 == 0)) else (some false) : Option (Bool)).bind fun j25=>if j25 = true then (some (Fl.nx (wr (s21 + 1)))) else (some (Fl.ex s21))
def X1 (p0 : Int) (s13 : (Vector (Vector UInt8 4) 4) × (Vector (Vector UInt8 4) 4) × Int × UInt8) (r90 : UInt8) (s95 : (Vector (Vector UInt8 4) 4) × (Vector (Vector UInt8 4) 4) × Int) : Option (Fl ((Vector (Vector UInt8 4) 4) × (Vector (Vector UInt8 4) 4) × Int) ((Vector (Vector UInt8 4) 4) × (Vector (Vector UInt8 4) 4))) :=
 if (decide (s95.2.2 < 4)) = true then ((ZI s95.1 s13.2.2.1).bind fun x102=>(ZI x102 s95.2.2).bind fun x105=>(Z3 p0 x105 r90).bind fun r107=>(ZI s95.2.1 s13.2.2.1).bind fun x110=>(ZI x110 s95.2.2).bind fun x113=>(Z3 p0 x113 r90).bind fun r115=>(ZI s95.1 s13.2.2.1).bind fun x118=>(ZI x118 s95.2.2).bind fun x121=>(ZI s95.2.1 s13.2.2.1).bind fun x124=>(ZI x124 s95.2.2).bind fun x127=>some (Fl.nx ((s95.1.setIfInBounds (s13.2.2.1).toNat (x118.setIfInBounds (s95.2.2).toNat r107)),(s95.2.1.setIfInBounds (s13.2.2.1).toNat (x124.setIfInBounds (s95.2.2).toNat r115)),wr (s95.2.2 + 1)))) else (some (Fl.ex (s95.1,s95.2.1)))
def XZ (p0 : Int) (s13 : (Vector (Vector UInt8 4) 4) × (Vector (Vector UInt8 4) 4) × Int × UInt8) (s133 : (Vector (Vector UInt8 4) 4) × (Vector (Vector UInt8 4) 4) × Int) (x145 : UInt8) (s160 : (Vector (Vector UInt8 4) 4) × (Vector (Vector UInt8 4) 4) × Int) : Option (Fl ((Vector (Vector UInt8 4) 4) × (Vector (Vector UInt8 4) 4) × Int) ((Vector (Vector UInt8 4) 4) × (Vector (Vector UInt8 4) 4))) :=
 if (decide (s160.2.2 < 4)) = true then (((ZI s160.1 s133.2.2).bind fun x170=>(ZI x170 s160.2.2).bind fun x173=>(ZI s160.1 s13.2.2.1).bind fun x176=>(ZI x176 s160.2.2).bind fun x179=>(Z3 p0 x145 x179).bind fun r181=>(ZI s160.1 s133.2.2).bind fun x184=>(ZI x184 s160.2.2).bind fun x187=>some (s160.1.setIfInBounds (s133.2.2).toNat (x184.setIfInBounds (s160.2.2).toNat (x173 ^^^ r181))) : Option ((Vector (Vector UInt8 4) 4))).bind fun j165=>(ZI s160.2.1 s133.2.2).bind fun x192=>(ZI x192 s160.2.2).bind fun x195=>(ZI s160.2.1 s13.2.2.1).bind fun x198=>(ZI x198 s160.2.2).bind fun x201=>(Z3 p0 x145 x201).bind fun r203=>(ZI s160.2.1 s133.2.2).bind fun x206=>(ZI x206 s160.2.2).bind fun x209=>some (Fl.nx (j165,(s160.2.1.setIfInBounds (s133.2.2).toNat (x206.setIfInBounds (s160.2.2).toNat (x195 ^^^ r203))),wr (s160.2.2 + 1)))) else (some (Fl.ex (s160.1,s160.2.1)))
def XT (p0 : Int) (s13 : (Vector (Vector UInt8 4) 4) × (Vector (Vector UInt8 4) 4) × Int × UInt8) (s133 : (Vector (Vector UInt8 4) 4) × (Vector (Vector UInt8 4) 4) × Int) : Option (Fl ((Vector (Vector UInt8 4) 4) × (Vector (Vector UInt8 4) 4) × Int) ((Vector (Vector UInt8 4) 4) × (Vector (Vector UInt8 4) 4))) :=
 if (decide (s133.2.2 < 4)) = true then (((ZI s133.1 s133.2.2).bind fun x142=>(ZI x142 s13.2.2.1).bind fun x145=>(if (s133.2.2 != s13.2.2.1) = true then (some (x145 != 0)) else (some false) : Option (Bool)).bind fun j147=>(if j147 = true then ((ZA (XZ p0 s13 s133 x145) (s133.1,s133.2.1,0)).bind fun j157=>some (j157.1,j157.2)) else (some (s133.1,s133.2.1)) : Option ((Vector (Vector UInt8 4) 4) × (Vector (Vector UInt8 4) 4))).bind fun j153=>some (j153.1,j153.2) : Option ((Vector (Vector UInt8 4) 4) × (Vector (Vector UInt8 4) 4))).bind fun j138=>some (Fl.nx (j138.1,j138.2,wr (s133.2.2 + 1)))) else (some (Fl.ex (s133.1,s133.2.1)))
def YG (p0 : Int) (s13 : (Vector (Vector UInt8 4) 4) × (Vector (Vector UInt8 4) 4) × Int × UInt8) : Option (Fl ((Vector (Vector UInt8 4) 4) × (Vector (Vector UInt8 4) 4) × Int × UInt8) (Fl ((Vector (Vector UInt8 4) 4) × UInt8) (UInt8 × (Vector (Vector UInt8 4) 4)))) :=
 if (decide (s13.2.2.1 < 4)) = true then ((ZA (Uk s13) s13.2.2.1).bind fun j18=>if (j18 == 4) = true then (some (Fl.ex (Fl.ex (0,(Vector.replicate 4 (Vector.replicate 4 (0 : UInt8))))))) else (((ZI s13.1 s13.2.2.1).bind fun x47=>(ZI s13.1 j18).bind fun x50=>(ZI s13.1 j18).bind fun x53=>(ZI (s13.1.setIfInBounds (j18).toNat x47) s13.2.2.1).bind fun x56=>some ((s13.1.setIfInBounds (j18).toNat x47).setIfInBounds (s13.2.2.1).toNat x50) : Option ((Vector (Vector UInt8 4) 4))).bind fun j42=>((ZI s13.2.1 s13.2.2.1).bind fun x64=>(ZI s13.2.1 j18).bind fun x67=>(ZI s13.2.1 j18).bind fun x70=>(ZI (s13.2.1.setIfInBounds (j18).toNat x64) s13.2.2.1).bind fun x73=>some ((s13.2.1.setIfInBounds (j18).toNat x64).setIfInBounds (s13.2.2.1).toNat x67) : Option ((Vector (Vector UInt8 4) 4))).bind fun j59=>(ZI j42 s13.2.2.1).bind fun x77=>(ZI x77 s13.2.2.1).bind fun x80=>(Z3 p0 s13.2.2.2 x80).bind fun r82=>(ZI j42 s13.2.2.1).bind fun x85=>(ZI x85 s13.2.2.1).bind fun x88=>(Yh p0 x88).bind fun r90=>(ZA (X1 p0 s13 r90) (j42,j59,0)).bind fun j92=>(ZA (XT p0 s13) (j92.1,j92.2,0)).bind fun j130=>some (Fl.nx (j130.1,j130.2,wr (s13.2.2.1 + 1),r82)))) else (some (Fl.ex (Fl.nx (s13.2.1,s13.2.2.2))))
def Xv (p0 : Int) (p1 : (Vector (Vector UInt8 4) 4)) : Option (UInt8 × (Vector (Vector UInt8 4) 4)) :=
 (W6).bind fun r5=>(ZA (YG p0) (p1,r5,0,1)).bind fun j9=>j9.el (fun s12=>(some (s12.1,s12.2) : Option ((Vector (Vector UInt8 4) 4) × UInt8)).bind fun j217=>some (j217.2,j217.1)) (fun r=>some r)
theorem Kj (w0 : World) (p0 : Int) (p1 : (Vector (Vector UInt8 4) 4)) (r : UInt8 × (Vector (Vector UInt8 4) 4)) (hF : Xv p0 p1 = some r) :
  Calls Tryz.prog 211 [vI p0,(Value.agg (enc p1).toArray)].toArray w0 (Rt w0 (Value.tuple [vB r.1,(Value.agg (enc r.2).toArray)].toArray)):=by
 refine ce Tryz.func211 ?_
 intro a hE
 have hM:=M.start w0
 unfold Xv at hF
 refine Zb (Ya (cs:=enc p1) hE hM Za ld rfl rfl fun b1 w a hM hE=>Zc hE rfl fun a hE=>Zz hE hM Ua fun b3 w a hM hE=>Ze (Zb ?_))
 obtain ⟨r5,e6,hF⟩:=bind_some hF
 refine Zx hE rfl (cbm Tryz.func232) (KN _  r5 e6) ?_
 rintro v w a ⟨rfl,hK⟩ hE
 have hM:=hM.keep hK
 refine Zz hE hM Ua fun b7 w a hM hE=>Zm (seg:=enc r5) (cs':=enc r5) hE hM Za rfl rfl rfl Ua (Flat.len _) (zle flq) (Flat.cell _) (Zh flq) fun w a hM hE=>Zc hE rfl fun a hE=>Ze (wp_seq (Zb (Zd hE rfl fun a hE=>Ze ?_)))
 obtain ⟨j9,hl10,hF11⟩:=bind_some hF
 refine ZO (fun a w=>∃ s12 : (Vector (Vector UInt8 4) 4) × UInt8,j9 = Fl.nx s12 ∧ Env 153 a [(5,(ptr b3 0)),(6,(ptr b7 0)),(7,vB s12.2)] ∧ M (Old w0) w0 w [raw b7 (enc s12.1),raw b3 (enc (Vector.replicate 4 (Vector.replicate 4 (0 : UInt8))))]) ?_ ?_
 ·skip
  refine wp_block ?_
  refine ZE (fun (s13 : (Vector (Vector UInt8 4) 4) × (Vector (Vector UInt8 4) 4) × Int × UInt8) a w=>Env 153 a [(0,vI p0),(3,(ptr b1 0)),(5,(ptr b3 0)),(6,(ptr b7 0)),(7,vB s13.2.2.2),(16,vI s13.2.2.1)] ∧ M (Old w0) w0 w [raw b7 (enc s13.2.1),raw b3 (enc (Vector.replicate 4 (Vector.replicate 4 (0 : UInt8)))),raw b1 (enc s13.1)]) hl10 ⟨hE.sub ⟨rfl,rfl,rfl,rfl,rfl,rfl,trivial⟩,hM⟩ ?_
  rintro s13 a w ⟨hE,hM⟩ o16 hs14 hx15
  unfold YG at hs14
  refine Zb (Zi hE rfl rfl rfl fun a hE=>Ze (wp_seq ?_))
  refine Zo hE rfl ?_ ?_
  ·intro hb17
   have hs14:=Zt hs14 hb17
   refine wp_skip (Zp (wp_seq (wp_block (Zb (Zd hE rfl fun a hE=>Zc hE rfl fun a hE=>Ze (Zb (Zd hE rfl fun a hE=>Zc hE rfl fun a hE=>Ze ?_)))))))
   obtain ⟨j18,hl19,hF20⟩:=bind_some hs14
   refine ZN (fun a w=>Env 153 a [(0,vI p0),(3,(ptr b1 0)),(5,(ptr b3 0)),(6,(ptr b7 0)),(7,vB s13.2.2.2),(8,vI s13.2.2.1),(9,vI j18),(16,vI s13.2.2.1)] ∧ M (Old w0) w0 w [raw b7 (enc s13.2.1),raw b3 (enc (Vector.replicate 4 (Vector.replicate 4 (0 : UInt8)))),raw b1 (enc s13.1)]) ?_ ?_
   ·skip
    refine wp_block ?_
    refine ZE (fun (s21 : Int) a w=>Env 153 a [(0,vI p0),(3,(ptr b1 0)),(5,(ptr b3 0)),(6,(ptr b7 0)),(7,vB s13.2.2.2),(8,vI s13.2.2.1),(9,vI s21),(16,vI s13.2.2.1)] ∧ M (Old w0) w0 w [raw b7 (enc s13.2.1),raw b3 (enc (Vector.replicate 4 (Vector.replicate 4 (0 : UInt8)))),raw b1 (enc s13.1)]) hl19 ⟨hE.sub ⟨rfl,rfl,rfl,rfl,rfl,rfl,rfl,rfl,trivial⟩,hM⟩ ?_
    rintro s21 a w ⟨hE,hM⟩ o24 hs22 hx23
    unfold Uk at hs22
    refine wp_seq ?_
    obtain ⟨j25,hl26,hF27⟩:=bind_some hs22
    refine ZN (fun a w=>Env 153 a [(0,vI p0),(3,(ptr b1 0)),(5,(ptr b3 0)),(6,(ptr b7 0)),(7,vB s13.2.2.2),(8,vI s13.2.2.1),(9,vI s21),(16,vI s13.2.2.1),(29,vT j25)] ∧ M (Old w0) w0 w [raw b7 (enc s13.2.1),raw b3 (enc (Vector.replicate 4 (Vector.replicate 4 (0 : UInt8)))),raw b1 (enc s13.1)]) ?_ ?_
    ·skip
     refine wp_region_lit (Zd hE rfl fun a hE=>Zi hE rfl rfl rfl fun a hE=>Zd hE rfl ?_); intro a hE
     refine Wc (decide (s21 < 4)) (fun hb28=>?_) (fun hb28=>?_)
     ·have hl26:=Zt hl26 hb28
      refine Zj hE (Zf hE rfl (lkb rfl hb28)) (by decide) rfl fun a hE=>Zj hE (Zf hE rfl (lkb rfl hb28)) (by decide) rfl ?_; intro a hE
      obtain ⟨x30,hi29,hl26⟩:=bvx hl26
      refine ZC hE (Zf hE rfl (lkb rfl hb28)) (by decide) rfl rfl Tryz.underlying160 XB hi29.1 ?_; intro a hE
      obtain ⟨x33,hi32,hl26⟩:=bvx hl26
      refine ZC hE (Zf hE rfl (lkb rfl hb28)) (by decide) rfl rfl Tryz.underlying158 ty5 hi32.1 fun a hE=>ZM (v:=(vB x33)) hE (Zf hE rfl (lkb rfl hb28)) (by decide) rfl ty5 rfl (At.vec (At.vec hM.rawAt2 hi29.2) hi32.2) fun a hE=>Z9 hE (Zf hE rfl (lkb rfl hb28)) (by decide) rfl rfl (jW x33 0) fun a hE=>Yx hE (lkb rfl hb28) rfl fun a hE=>Zg ?_
      obtain rfl:=Option.some.inj hl26
      refine Zk ?_
      exact ⟨hE.sub ⟨rfl,rfl,rfl,rfl,rfl,rfl,rfl,rfl,rfl,trivial⟩,hM⟩
     ·have hl26:=Zs hl26 hb28
      refine Zl hE rfl (lkb rfl hb28) rfl (by decide) fun a hE=>Zl hE rfl (lkb rfl hb28) rfl (by decide) fun a hE=>Zl hE rfl (lkb rfl hb28) rfl (by decide) fun a hE=>Zl hE rfl (lkb rfl hb28) rfl (by decide) fun a hE=>Zl hE rfl (lkb rfl hb28) rfl (by decide) fun a hE=>Zl hE rfl (lkb rfl hb28) rfl (by decide) fun a hE=>X9 hE (lkb rfl hb28) rfl fun a hE=>Zg ?_
      obtain rfl:=Option.some.inj hl26
      refine Zk ?_
      exact ⟨hE.sub ⟨rfl,rfl,rfl,rfl,rfl,rfl,rfl,rfl,rfl,trivial⟩,hM⟩
    ·skip
     rintro a w ⟨hE,hM⟩
     refine Zo hE rfl ?_ ?_
     ·intro hb37
      have hF27:=Zt hF27 hb37
      refine wp_skip (Zp (wp_block (wp_region_lit (Zd hE rfl fun a hE=>Zi hE rfl rfl rfl fun a hE=>Zc hE rfl fun a hE=>Zg (Yb (Zk ?_))))))
      exact ⟨_,(ois hF27),hE.sub ⟨rfl,rfl,rfl,rfl,rfl,rfl,rfl,rfl,trivial⟩,hM⟩
     ·intro hb37
      have hF27:=Zs hF27 hb37
      refine wp_exit (Zn (Zn (Ye ?_)))
      obtain rfl:=hx23 _ (ois hF27)
      refine Zk ?_
      exact ⟨hE.sub ⟨rfl,rfl,rfl,rfl,rfl,rfl,rfl,rfl,trivial⟩,hM⟩
   ·skip
    rintro a w ⟨hE,hM⟩
    refine wp_seq (Zb (Zd hE rfl fun a hE=>Zi hE rfl rfl rfl fun a hE=>Ze ?_))
    refine Zo hE rfl ?_ ?_
    ·intro hb39
     have hF20:=Zt hF20 hb39
     refine Zb (YB (parts:=[]) (vs:=[]) (cs:=enc (Vector.replicate 4 (Vector.replicate 4 (0 : UInt8)))) hE Za ld rfl rfl Ua rfl XB Yp fun a hE=>Zc hE rfl ?_); intro a hE
     have hM:=hM.pull1
     refine Zm (seg:=enc (Vector.replicate 4 (Vector.replicate 4 (0 : UInt8)))) (cs':=enc (Vector.replicate 4 (Vector.replicate 4 (0 : UInt8)))) hE hM Za rfl rfl rfl Ua (Flat.len _) (zle flq) (Flat.cell _) (Zh flq) fun w a hM hE=>Ze ?_
     obtain rfl:=hx15 _ (ois hF20)
     obtain rfl:=Option.some.inj hF11
     have hq41 : Z6 Tryz.prog _ _ (.cell 5 160) _:=ZK hE rfl Ua rfl hM.rawAt0 (Flat.len _) rfl
     exact wp_ret (Zv (Xk (Zv (Zv (Xk (Zv (Zv (AX hE rfl (ZU hE rfl) hq41 ⟨_,rfl,rfl,hM.kept⟩))))))))
    ·intro hb39
     have hF20:=Zs hF20 hb39
     refine wp_skip (Zp ?_)
     obtain ⟨j42,hl43,hF44⟩:=bind_some hF20
     refine ZN (fun a w=>Env 153 a [(0,vI p0),(3,(ptr b1 0)),(5,(ptr b3 0)),(6,(ptr b7 0)),(7,vB s13.2.2.2),(8,vI s13.2.2.1),(9,vI j18),(16,vI s13.2.2.1)] ∧ M (Old w0) w0 w [raw b7 (enc s13.2.1),raw b3 (enc (Vector.replicate 4 (Vector.replicate 4 (0 : UInt8)))),raw b1 (enc j42)]) ?_ ?_
     ·skip
      have hM:=hM.pull2
      obtain ⟨x47,hi46,hl43⟩:=bvx hl43
      obtain ⟨x50,hi49,hl43⟩:=bvx hl43
      obtain ⟨x53,hi52,hl43⟩:=bvx hl43
      refine Yz (its:=[raw b7 (enc s13.2.1),raw b3 (enc (Vector.replicate 4 (Vector.replicate 4 (0 : UInt8))))]) (mk:=([mkT 9 (raw b1 (enc s13.1)) (raw b1 (enc (s13.1.setIfInBounds (j18).toNat x47)))] : Mk)) [35,36,37,38,39,40,41,42,43,162] Yu rfl rfl (by decide) rfl hE (fun u=>M.qT (M.q0 hM.drew u)) (qsP (fun z=>Zj z.E Za ld rfl (kr0 rfl)) (qsP (fun z=>Zj z.E Za ld rfl (kr0 rfl)) (qsP (fun z=>Zj z.E Za ld rfl (kr0 rfl)) (qsP (fun z=>ZC z.E Za ld rfl rfl Tryz.underlying160 XB hi46.1 (kr0 rfl)) (qsP (v:=(Value.agg (enc x47).toArray)) ?_ (qsP (fun z=>Zj z.E Za ld rfl (kr0 rfl)) (qsP (fun z=>ZC z.E Za ld rfl rfl Tryz.underlying160 XB hi49.1 (kr0 rfl)) (qsP (v:=(Value.agg (enc x50).toArray)) ?_ (qsP (fun z=>ZC z.E Za ld rfl rfl Tryz.underlying160 XB hi52.1 (kr0 rfl)) (qsM (pr:=fun v=>True) ?_ qs0)))))))))) ?_
      ·intro a w ux45 D z
       have hE:=z.E
       have hD : D 4 = false:=z.F
       have hM:=z.M.togA (pre:=[_,_]) (Qg (j:=9) (k:=1) z.c rfl rfl rfl hD)
       exact Zr hE rfl XB rfl (At.vec hM.rawAt2 hi46.2) (Flat.len _) fun a hE=>⟨Kept.refl _ _,_,rfl,hE⟩
      ·intro a w ux45 D z
       have hE:=z.E
       have hD : D 7 = false:=z.F
       have hM:=z.M.togA (pre:=[_,_]) (Qg (j:=9) (k:=9) z.c rfl rfl rfl hD)
       exact Zr hE rfl XB rfl (At.vec hM.rawAt2 hi49.2) (Flat.len _) fun a hE=>⟨Kept.refl _ _,_,rfl,hE⟩
      ·intro a w ux45 D z
       have hE:=z.E
       have hD : D 9 = false:=z.F
       have hM:=(z.M.togA (pre:=[_,_]) hD).pull2
       exact Zm (seg:=enc x47) (cs':=enc (s13.1.setIfInBounds (j18).toNat x47)) hE hM Za rfl rfl rfl XB (Flat.len _) (ZS (v:=s13.1) (x:=x47) hi52.1) (Flat.cell _) (ZD (v:=s13.1) (x:=x47) hi52.1) fun w a hM hE=>⟨undef,_,rfl,Env.dummy hE (by decide),M.qTog (mk1:=[]) (mk2:=[]) hM rfl,trivial⟩
      ·intro a w ux45 D hE hM hG hall
       have d9:=hall 9 (by decide)
       have hM:=hM.togB (pre:=[_,_]) d9
       obtain ⟨x56,hi55,hl43⟩:=bvx hl43
       refine ZF hE rfl rfl Tryz.underlying160 XB hi55.1 ?_; intro a hE
       have hM:=hM.pull2
       refine Zm (seg:=enc x50) (cs':=enc ((s13.1.setIfInBounds (j18).toNat x47).setIfInBounds (s13.2.2.1).toNat x50)) hE hM Za rfl rfl rfl XB (Flat.len _) (ZS (v:=(s13.1.setIfInBounds (j18).toNat x47)) (x:=x50) hi55.1) (Flat.cell _) (ZD (v:=(s13.1.setIfInBounds (j18).toNat x47)) (x:=x50) hi55.1) fun w a hM hE=>Zg ?_
       obtain rfl:=Option.some.inj hl43
       refine Zk ?_
       have hM:=hM.pull2.pull2
       exact ⟨hE.sub ⟨rfl,rfl,rfl,rfl,rfl,rfl,rfl,rfl,trivial⟩,hM⟩
     ·skip
      rintro a w ⟨hE,hM⟩
      obtain ⟨j59,hl60,hF61⟩:=bind_some hF44
      refine ZN (fun a w=>Env 153 a [(0,vI p0),(3,(ptr b1 0)),(5,(ptr b3 0)),(6,(ptr b7 0)),(7,vB s13.2.2.2),(8,vI s13.2.2.1),(16,vI s13.2.2.1)] ∧ M (Old w0) w0 w [raw b7 (enc j59),raw b3 (enc (Vector.replicate 4 (Vector.replicate 4 (0 : UInt8)))),raw b1 (enc j42)]) ?_ ?_
      ·skip
       obtain ⟨x64,hi63,hl60⟩:=bvx hl60
       obtain ⟨x67,hi66,hl60⟩:=bvx hl60
       obtain ⟨x70,hi69,hl60⟩:=bvx hl60
       refine Yz (its:=[raw b3 (enc (Vector.replicate 4 (Vector.replicate 4 (0 : UInt8)))),raw b1 (enc j42)]) (mk:=([mkT 9 (raw b7 (enc s13.2.1)) (raw b7 (enc (s13.2.1.setIfInBounds (j18).toNat x64)))] : Mk)) [45,46,47,48,49,50,51,52,53,162] Yu rfl rfl (by decide) rfl hE (fun u=>M.qT (M.q0 hM.drew u)) (qsP (fun z=>Zj z.E Za ld rfl (kr0 rfl)) (qsP (fun z=>Zj z.E Za ld rfl (kr0 rfl)) (qsP (fun z=>Zj z.E Za ld rfl (kr0 rfl)) (qsP (fun z=>ZC z.E Za ld rfl rfl Tryz.underlying160 XB hi63.1 (kr0 rfl)) (qsP (v:=(Value.agg (enc x64).toArray)) ?_ (qsP (fun z=>Zj z.E Za ld rfl (kr0 rfl)) (qsP (fun z=>ZC z.E Za ld rfl rfl Tryz.underlying160 XB hi66.1 (kr0 rfl)) (qsP (v:=(Value.agg (enc x67).toArray)) ?_ (qsP (fun z=>ZC z.E Za ld rfl rfl Tryz.underlying160 XB hi69.1 (kr0 rfl)) (qsM (pr:=fun v=>True) ?_ qs0)))))))))) ?_
       ·intro a w ux62 D z
        have hE:=z.E
        have hD : D 4 = false:=z.F
        have hM:=z.M.togA (pre:=[_,_]) (Qg (j:=9) (k:=1) z.c rfl rfl rfl hD)
        exact Zr hE rfl XB rfl (At.vec hM.rawAt2 hi63.2) (Flat.len _) fun a hE=>⟨Kept.refl _ _,_,rfl,hE⟩
       ·intro a w ux62 D z
        have hE:=z.E
        have hD : D 7 = false:=z.F
        have hM:=z.M.togA (pre:=[_,_]) (Qg (j:=9) (k:=9) z.c rfl rfl rfl hD)
        exact Zr hE rfl XB rfl (At.vec hM.rawAt2 hi66.2) (Flat.len _) fun a hE=>⟨Kept.refl _ _,_,rfl,hE⟩
       ·intro a w ux62 D z
        have hE:=z.E
        have hD : D 9 = false:=z.F
        have hM:=(z.M.togA (pre:=[_,_]) hD).pull2
        exact Zm (seg:=enc x64) (cs':=enc (s13.2.1.setIfInBounds (j18).toNat x64)) hE hM Za rfl rfl rfl XB (Flat.len _) (ZS (v:=s13.2.1) (x:=x64) hi69.1) (Flat.cell _) (ZD (v:=s13.2.1) (x:=x64) hi69.1) fun w a hM hE=>⟨undef,_,rfl,Env.dummy hE (by decide),M.qTog (mk1:=[]) (mk2:=[]) hM rfl,trivial⟩
       ·intro a w ux62 D hE hM hG hall
        have d9:=hall 9 (by decide)
        have hM:=hM.togB (pre:=[_,_]) d9
        obtain ⟨x73,hi72,hl60⟩:=bvx hl60
        refine ZF hE rfl rfl Tryz.underlying160 XB hi72.1 ?_; intro a hE
        have hM:=hM.pull2
        refine Zm (seg:=enc x67) (cs':=enc ((s13.2.1.setIfInBounds (j18).toNat x64).setIfInBounds (s13.2.2.1).toNat x67)) hE hM Za rfl rfl rfl XB (Flat.len _) (ZS (v:=(s13.2.1.setIfInBounds (j18).toNat x64)) (x:=x67) hi72.1) (Flat.cell _) (ZD (v:=(s13.2.1.setIfInBounds (j18).toNat x64)) (x:=x67) hi72.1) fun w a hM hE=>Zg ?_
        obtain rfl:=Option.some.inj hl60
        refine Zk ?_
        exact ⟨hE.sub ⟨rfl,rfl,rfl,rfl,rfl,rfl,rfl,trivial⟩,hM⟩
      ·skip
       rintro a w ⟨hE,hM⟩
       refine Zb (Zd hE rfl fun a hE=>Zd hE rfl fun a hE=>Zd hE rfl fun a hE=>Zd hE rfl ?_); intro a hE
       obtain ⟨x77,hi76,hF61⟩:=bvx hF61
       refine ZF hE rfl rfl Tryz.underlying160 XB hi76.1 ?_; intro a hE
       obtain ⟨x80,hi79,hF61⟩:=bvx hF61
       refine ZF hE rfl rfl Tryz.underlying158 ty5 hi79.1 fun a hE=>ZB (v:=(vB x80)) hE rfl ty5 rfl (At.vec (At.vec hM.rawAt2 hi76.2) hi79.2) ?_; intro a hE
       obtain ⟨r82,e83,hF61⟩:=bind_some hF61
       refine Zx hE rfl JU (YI _ p0 s13.2.2.2 x80 r82 e83) ?_
       rintro v w a ⟨rfl,hK⟩ hE
       have hM:=hM.keep hK
       refine Zc hE rfl fun a hE=>Ze (Zb (Zd hE rfl fun a hE=>Zd hE rfl fun a hE=>Zd hE rfl ?_)); intro a hE
       obtain ⟨x85,hi84,hF61⟩:=bvx hF61
       refine ZF hE rfl rfl Tryz.underlying160 XB hi84.1 ?_; intro a hE
       obtain ⟨x88,hi87,hF61⟩:=bvx hF61
       refine ZF hE rfl rfl Tryz.underlying158 ty5 hi87.1 fun a hE=>ZB (v:=(vB x88)) hE rfl ty5 rfl (At.vec (At.vec hM.rawAt2 hi84.2) hi87.2) ?_; intro a hE
       obtain ⟨r90,e91,hF61⟩:=bind_some hF61
       refine Zx hE rfl jU (Uo _ p0 x88 r90 e91) ?_
       rintro v w a ⟨rfl,hK⟩ hE
       have hM:=hM.keep hK
       refine Zc hE rfl fun a hE=>Ze (wp_seq (Zb (Zd hE rfl fun a hE=>Ze ?_)))
       obtain ⟨j92,hl93,hF94⟩:=bind_some hF61
       refine ZO (fun a w=>Env 153 a [(0,vI p0),(3,(ptr b1 0)),(5,(ptr b3 0)),(6,(ptr b7 0)),(7,vB r82),(8,vI s13.2.2.1),(16,vI s13.2.2.1)] ∧ M (Old w0) w0 w [raw b7 (enc j92.2),raw b3 (enc (Vector.replicate 4 (Vector.replicate 4 (0 : UInt8)))),raw b1 (enc j92.1)]) ?_ ?_
       ·skip
        refine wp_block ?_
        refine ZE (fun (s95 : (Vector (Vector UInt8 4) 4) × (Vector (Vector UInt8 4) 4) × Int) a w=>Env 153 a [(0,vI p0),(3,(ptr b1 0)),(5,(ptr b3 0)),(6,(ptr b7 0)),(7,vB r82),(8,vI s13.2.2.1),(10,vB r90),(16,vI s13.2.2.1),(70,vI s95.2.2)] ∧ M (Old w0) w0 w [raw b7 (enc s95.2.1),raw b3 (enc (Vector.replicate 4 (Vector.replicate 4 (0 : UInt8)))),raw b1 (enc s95.1)]) hl93 ⟨hE.sub ⟨rfl,rfl,rfl,rfl,rfl,rfl,rfl,rfl,rfl,trivial⟩,hM⟩ ?_
        rintro s95 a w ⟨hE,hM⟩ o98 hs96 hx97
        unfold X1 at hs96
        refine Zb (Zi hE rfl rfl rfl fun a hE=>Ze (wp_seq ?_))
        refine Zo hE rfl ?_ ?_
        ·intro hb99
         have hs96:=Zt hs96 hb99
         refine wp_skip (Zp (wp_seq (wp_block (Zb (Zd hE rfl fun a hE=>Zc hE rfl fun a hE=>Ze ?_)))))
         have hM:=hM.pull2
         obtain ⟨x102,hi101,hs96⟩:=bvx hs96
         obtain ⟨x105,hi104,hs96⟩:=bvx hs96
         obtain ⟨r107,e108,hs96⟩:=bind_some hs96
         obtain ⟨x110,hi109,hs96⟩:=bvx hs96
         obtain ⟨x113,hi112,hs96⟩:=bvx hs96
         obtain ⟨r115,e116,hs96⟩:=bind_some hs96
         obtain ⟨x118,hi117,hs96⟩:=bvx hs96
         obtain ⟨x121,hi120,hs96⟩:=bvx hs96
         obtain ⟨x124,hi123,hs96⟩:=bvx hs96
         refine Yz (its:=[raw b7 (enc s95.2.1),raw b3 (enc (Vector.replicate 4 (Vector.replicate 4 (0 : UInt8))))]) (mk:=([mkT 22 (raw b1 (enc s95.1)) (raw b1 (enc (s95.1.setIfInBounds (s13.2.2.1).toNat (x118.setIfInBounds (s95.2.2).toNat r107))))] : Mk)) [73,74,75,76,77,78,79,80,81,82,83,84,85,86,87,88,89,90,91,92,93,94,175,95] Yu rfl rfl (by decide) rfl hE (fun u=>M.qT (M.q0 hM.drew u)) (qsP (fun z=>Zj z.E Za ld rfl (kr0 rfl)) (qsP (fun z=>Zj z.E Za ld rfl (kr0 rfl)) (qsP (fun z=>Zj z.E Za ld rfl (kr0 rfl)) (qsP (fun z=>Zj z.E Za ld rfl (kr0 rfl)) (qsP (fun z=>Zj z.E Za ld rfl (kr0 rfl)) (qsP (fun z=>Zj z.E Za ld rfl (kr0 rfl)) (qsP (fun z=>Zj z.E Za ld rfl (kr0 rfl)) (qsP (fun z=>ZC z.E Za ld rfl rfl Tryz.underlying160 XB hi101.1 (kr0 rfl)) (qsP (fun z=>ZC z.E Za ld rfl rfl Tryz.underlying158 ty5 hi104.1 (kr0 rfl)) (qsP (v:=(vB x105)) ?_ (qsP (fun z=>Zj z.E Za ld rfl (kr0 rfl)) (qsP (fun z=>Yk z.E Za ld rfl JU (YI _ p0 x105 r90 r107 e108) (kc rfl)) (qsP (fun z=>Zj z.E Za ld rfl (kr0 rfl)) (qsP (fun z=>Zj z.E Za ld rfl (kr0 rfl)) (qsP (fun z=>Zj z.E Za ld rfl (kr0 rfl)) (qsP (fun z=>ZC z.E Za ld rfl rfl Tryz.underlying160 XB hi109.1 (kr0 rfl)) (qsP (fun z=>ZC z.E Za ld rfl rfl Tryz.underlying158 ty5 hi112.1 (kr0 rfl)) (qsP (v:=(vB x113)) ?_ (qsP (fun z=>Zj z.E Za ld rfl (kr0 rfl)) (qsP (fun z=>Yk z.E Za ld rfl JU (YI _ p0 x113 r90 r115 e116) (kc rfl)) (qsP (fun z=>ZC z.E Za ld rfl rfl Tryz.underlying160 XB hi117.1 (kr0 rfl)) (qsP (fun z=>ZC z.E Za ld rfl rfl Tryz.underlying158 ty5 hi120.1 (kr0 rfl)) (qsM (pr:=fun v=>True) ?_ (qsP (fun z=>ZC z.E Za ld rfl rfl Tryz.underlying160 XB hi123.1 (kr0 rfl)) qs0)))))))))))))))))))))))) ?_
         ·intro a w ux100 D z
          have hE:=z.E
          have hD : D 9 = false:=z.F
          have hM:=z.M.togA (pre:=[_,_]) (Qg (j:=22) (k:=12) z.c rfl rfl rfl hD)
          exact ZB (v:=(vB x105)) hE rfl ty5 rfl (At.vec (At.vec hM.rawAt2 hi101.2) hi104.2) fun a hE=>⟨Kept.refl _ _,_,rfl,hE⟩
         ·intro a w ux100 D z
          have hE:=z.E
          have hM:=z.M
          exact ZB (v:=(vB x113)) hE rfl ty5 rfl (At.vec (At.vec hM.rawAt0 hi109.2) hi112.2) fun a hE=>⟨Kept.refl _ _,_,rfl,hE⟩
         ·intro a w ux100 D z
          have hE:=z.E
          have hD : D 22 = false:=z.F
          have hM:=(z.M.togA (pre:=[_,_]) hD).pull2
          exact Zm (seg:=[vB r107]) (cs':=enc (s95.1.setIfInBounds (s13.2.2.1).toNat (x118.setIfInBounds (s95.2.2).toNat r107))) hE hM Za rfl rfl rfl ty5 rfl (VJ (o':=0 + (s95.2.2).toNat * 1) hi117 (ZS (v:=x118) (x:=r107) hi120.1) (by first | omega | (simp only [Flat.n] <;> omega))) (Flat.cell (r107 : UInt8)) (W5 (o':=0 + (s95.2.2).toNat * 1) hi117 (ZS (v:=x118) (x:=r107) hi120.1) (ZD (v:=x118) (x:=r107) hi120.1) (by first | omega | (simp only [Flat.n] <;> omega))) fun w a hM hE=>⟨undef,_,rfl,Env.dummy hE (by decide),M.qTog (mk1:=[]) (mk2:=[]) hM rfl,trivial⟩
         ·intro a w ux100 D hE hM hG hall
          have d22:=hall 22 (by decide)
          have hM:=hM.togB (pre:=[_,_]) d22
          obtain ⟨x127,hi126,hs96⟩:=bvx hs96
          refine ZF hE rfl rfl Tryz.underlying158 ty5 hi126.1 fun a hE=>Zm (seg:=[vB r115]) (cs':=enc (s95.2.1.setIfInBounds (s13.2.2.1).toNat (x124.setIfInBounds (s95.2.2).toNat r115))) hE hM Za rfl rfl rfl ty5 rfl (VJ (o':=0 + (s95.2.2).toNat * 1) hi123 (ZS (v:=x124) (x:=r115) hi126.1) (by first | omega | (simp only [Flat.n] <;> omega))) (Flat.cell (r115 : UInt8)) (W5 (o':=0 + (s95.2.2).toNat * 1) hi123 (ZS (v:=x124) (x:=r115) hi126.1) (ZD (v:=x124) (x:=r115) hi126.1) (by first | omega | (simp only [Flat.n] <;> omega))) fun w a hM hE=>Zg (Yb (Zp (wp_region_lit (Zi hE rfl rfl rfl fun a hE=>Zd hE rfl fun a hE=>Zg (Zk ?_)))))
          exact ⟨_,(ois hs96),hE.sub ⟨rfl,rfl,rfl,rfl,rfl,rfl,rfl,rfl,rfl,trivial⟩,hM⟩
        ·intro hb99
         have hs96:=Zs hs96 hb99
         refine wp_exit (Zn (Zn (Ye ?_)))
         obtain rfl:=hx97 _ (ois hs96)
         refine Zk ?_
         exact ⟨hE.sub ⟨rfl,rfl,rfl,rfl,rfl,rfl,rfl,trivial⟩,hM⟩
       ·skip
        rintro a w ⟨hE,hM⟩
        refine Zp (Zb (Zd hE rfl fun a hE=>Ze ?_))
        obtain ⟨j130,hl131,hF132⟩:=bind_some hF94
        refine ZO (fun a w=>Env 153 a [(0,vI p0),(3,(ptr b1 0)),(5,(ptr b3 0)),(6,(ptr b7 0)),(7,vB r82),(16,vI s13.2.2.1)] ∧ M (Old w0) w0 w [raw b7 (enc j130.2),raw b3 (enc (Vector.replicate 4 (Vector.replicate 4 (0 : UInt8)))),raw b1 (enc j130.1)]) ?_ ?_
        ·skip
         refine wp_block ?_
         refine ZE (fun (s133 : (Vector (Vector UInt8 4) 4) × (Vector (Vector UInt8 4) 4) × Int) a w=>Env 153 a [(0,vI p0),(3,(ptr b1 0)),(5,(ptr b3 0)),(6,(ptr b7 0)),(7,vB r82),(8,vI s13.2.2.1),(16,vI s13.2.2.1),(98,vI s133.2.2)] ∧ M (Old w0) w0 w [raw b7 (enc s133.2.1),raw b3 (enc (Vector.replicate 4 (Vector.replicate 4 (0 : UInt8)))),raw b1 (enc s133.1)]) hl131 ⟨hE.sub ⟨rfl,rfl,rfl,rfl,rfl,rfl,rfl,rfl,trivial⟩,hM⟩ ?_
         rintro s133 a w ⟨hE,hM⟩ o136 hs134 hx135
         unfold XT at hs134
         refine Zb (Zi hE rfl rfl rfl fun a hE=>Ze (wp_seq ?_))
         refine Zo hE rfl ?_ ?_
         ·intro hb137
          have hs134:=Zt hs134 hb137
          refine wp_skip (Zp ?_)
          obtain ⟨j138,hl139,hF140⟩:=bind_some hs134
          refine ZN (fun a w=>Env 153 a [(0,vI p0),(3,(ptr b1 0)),(5,(ptr b3 0)),(6,(ptr b7 0)),(7,vB r82),(8,vI s13.2.2.1),(16,vI s13.2.2.1),(98,vI s133.2.2)] ∧ M (Old w0) w0 w [raw b7 (enc j138.2),raw b3 (enc (Vector.replicate 4 (Vector.replicate 4 (0 : UInt8)))),raw b1 (enc j138.1)]) ?_ ?_
          ·skip
           refine wp_block (Zb (Zd hE rfl fun a hE=>Zc hE rfl fun a hE=>Ze (Zb (Zd hE rfl fun a hE=>Zd hE rfl ?_)))); intro a hE
           obtain ⟨x142,hi141,hl139⟩:=bvx hl139
           refine ZF hE rfl rfl Tryz.underlying160 XB hi141.1 ?_; intro a hE
           obtain ⟨x145,hi144,hl139⟩:=bvx hl139
           refine ZF hE rfl rfl Tryz.underlying158 ty5 hi144.1 fun a hE=>ZB (v:=(vB x145)) hE rfl ty5 rfl (At.vec (At.vec hM.rawAt2 hi141.2) hi144.2) fun a hE=>Zc hE rfl fun a hE=>Ze ?_
           obtain ⟨j147,hl148,hF149⟩:=bind_some hl139
           refine ZN (fun a w=>Env 153 a [(0,vI p0),(3,(ptr b1 0)),(5,(ptr b3 0)),(6,(ptr b7 0)),(7,vB r82),(8,vI s13.2.2.1),(12,vI s133.2.2),(13,vB x145),(16,vI s13.2.2.1),(98,vI s133.2.2),(112,vT j147)] ∧ M (Old w0) w0 w [raw b7 (enc s133.2.1),raw b3 (enc (Vector.replicate 4 (Vector.replicate 4 (0 : UInt8)))),raw b1 (enc s133.1)]) ?_ ?_
           ·skip
            refine wp_region_lit (Zd hE rfl fun a hE=>Zd hE rfl fun a hE=>Zi hE rfl rfl rfl fun a hE=>Zd hE rfl ?_); intro a hE
            refine Wc (s133.2.2 != s13.2.2.1) (fun hb150=>?_) (fun hb150=>?_)
            ·have hl148:=Zt hl148 hb150
             refine Zj hE (Zf hE rfl (lkb rfl hb150)) (by decide) rfl fun a hE=>Z9 hE (Zf hE rfl (lkb rfl hb150)) (by decide) rfl rfl (JH x145 0) fun a hE=>Yx hE (lkb rfl hb150) rfl fun a hE=>Zg ?_
             obtain rfl:=Option.some.inj hl148
             refine Zk ?_
             exact ⟨hE.sub ⟨rfl,rfl,rfl,rfl,rfl,rfl,rfl,rfl,rfl,rfl,rfl,trivial⟩,hM⟩
            ·have hl148:=Zs hl148 hb150
             refine Zl hE rfl (lkb rfl hb150) rfl (by decide) fun a hE=>Zl hE rfl (lkb rfl hb150) rfl (by decide) fun a hE=>X9 hE (lkb rfl hb150) rfl fun a hE=>Zg ?_
             obtain rfl:=Option.some.inj hl148
             refine Zk ?_
             exact ⟨hE.sub ⟨rfl,rfl,rfl,rfl,rfl,rfl,rfl,rfl,rfl,rfl,rfl,trivial⟩,hM⟩
           ·skip
            rintro a w ⟨hE,hM⟩
            obtain ⟨j153,hl154,hF155⟩:=bind_some hF149
            refine ZO (fun a w=>Env 153 a [(0,vI p0),(3,(ptr b1 0)),(5,(ptr b3 0)),(6,(ptr b7 0)),(7,vB r82),(8,vI s13.2.2.1),(16,vI s13.2.2.1),(98,vI s133.2.2)] ∧ M (Old w0) w0 w [raw b7 (enc j153.2),raw b3 (enc (Vector.replicate 4 (Vector.replicate 4 (0 : UInt8)))),raw b1 (enc j153.1)]) ?_ ?_
            ·skip
             refine Zo hE rfl ?_ ?_
             ·intro hb156
              have hl154:=Zt hl154 hb156
              refine Zb (Zd hE rfl fun a hE=>Ze ?_)
              obtain ⟨j157,hl158,hF159⟩:=bind_some hl154
              refine ZO (fun a w=>Env 153 a [(0,vI p0),(3,(ptr b1 0)),(5,(ptr b3 0)),(6,(ptr b7 0)),(7,vB r82),(8,vI s13.2.2.1),(16,vI s13.2.2.1),(98,vI s133.2.2)] ∧ M (Old w0) w0 w [raw b7 (enc j157.2),raw b3 (enc (Vector.replicate 4 (Vector.replicate 4 (0 : UInt8)))),raw b1 (enc j157.1)]) ?_ ?_
              ·skip
               refine wp_block ?_
               refine ZE (fun (s160 : (Vector (Vector UInt8 4) 4) × (Vector (Vector UInt8 4) 4) × Int) a w=>Env 153 a [(0,vI p0),(3,(ptr b1 0)),(5,(ptr b3 0)),(6,(ptr b7 0)),(7,vB r82),(8,vI s13.2.2.1),(12,vI s133.2.2),(13,vB x145),(16,vI s13.2.2.1),(98,vI s133.2.2),(113,vI s160.2.2)] ∧ M (Old w0) w0 w [raw b7 (enc s160.2.1),raw b3 (enc (Vector.replicate 4 (Vector.replicate 4 (0 : UInt8)))),raw b1 (enc s160.1)]) hl158 ⟨hE.sub ⟨rfl,rfl,rfl,rfl,rfl,rfl,rfl,rfl,rfl,rfl,rfl,trivial⟩,hM⟩ ?_
               rintro s160 a w ⟨hE,hM⟩ o163 hs161 hx162
               unfold XZ at hs161
               refine Zb (Zi hE rfl rfl rfl fun a hE=>Ze (wp_seq ?_))
               refine Zo hE rfl ?_ ?_
               ·intro hb164
                have hs161:=Zt hs161 hb164
                refine wp_skip (Zp (wp_seq (wp_block (Zb (Zd hE rfl fun a hE=>Zc hE rfl fun a hE=>Ze ?_)))))
                obtain ⟨j165,hl166,hF167⟩:=bind_some hs161
                refine ZN (fun a w=>Env 153 a [(0,vI p0),(3,(ptr b1 0)),(5,(ptr b3 0)),(6,(ptr b7 0)),(7,vB r82),(8,vI s13.2.2.1),(12,vI s133.2.2),(13,vB x145),(14,vI s160.2.2),(16,vI s13.2.2.1),(98,vI s133.2.2),(113,vI s160.2.2)] ∧ M (Old w0) w0 w [raw b7 (enc s160.2.1),raw b3 (enc (Vector.replicate 4 (Vector.replicate 4 (0 : UInt8)))),raw b1 (enc j165)]) ?_ ?_
                ·skip
                 obtain ⟨x170,hi169,hl166⟩:=bvx hl166
                 obtain ⟨x173,hi172,hl166⟩:=bvx hl166
                 obtain ⟨x176,hi175,hl166⟩:=bvx hl166
                 obtain ⟨x179,hi178,hl166⟩:=bvx hl166
                 obtain ⟨r181,e182,hl166⟩:=bind_some hl166
                 obtain ⟨x184,hi183,hl166⟩:=bvx hl166
                 obtain ⟨x187,hi186,hl166⟩:=bvx hl166
                 refine ZX [116,117,118,119,120,121,122,123,124,125,126,127,128,129,130,131] Yu rfl rfl (by decide) rfl hE hM (qsP (fun z=>Zj z.E Za ld rfl (kr0 rfl)) (qsP (fun z=>Zj z.E Za ld rfl (kr0 rfl)) (qsP (fun z=>ZC z.E Za ld rfl rfl Tryz.underlying160 XB hi169.1 (kr0 rfl)) (qsP (fun z=>ZC z.E Za ld rfl rfl Tryz.underlying158 ty5 hi172.1 (kr0 rfl)) (qsP (fun z=>ZM (v:=(vB x173)) z.E Za ld rfl ty5 rfl (At.vec (At.vec (z.M.rawAt2) hi169.2) hi172.2) (kr0 rfl)) (qsP (fun z=>Zj z.E Za ld rfl (kr0 rfl)) (qsP (fun z=>Zj z.E Za ld rfl (kr0 rfl)) (qsP (fun z=>Zj z.E Za ld rfl (kr0 rfl)) (qsP (fun z=>Zj z.E Za ld rfl (kr0 rfl)) (qsP (fun z=>ZC z.E Za ld rfl rfl Tryz.underlying160 XB hi175.1 (kr0 rfl)) (qsP (fun z=>ZC z.E Za ld rfl rfl Tryz.underlying158 ty5 hi178.1 (kr0 rfl)) (qsP (fun z=>ZM (v:=(vB x179)) z.E Za ld rfl ty5 rfl (At.vec (At.vec (z.M.rawAt2) hi175.2) hi178.2) (kr0 rfl)) (qsP (fun z=>Yk z.E Za ld rfl JU (YI _ p0 x145 x179 r181 e182) (kc rfl)) (qsP (v:=(vB (x173 ^^^ r181))) (fun z=>Z9 z.E Za ld rfl rfl (V0 x173 r181) (kr0 rfl)) (qsP (fun z=>ZC z.E Za ld rfl rfl Tryz.underlying160 XB hi183.1 (kr0 rfl)) (qsP (fun z=>ZC z.E Za ld rfl rfl Tryz.underlying158 ty5 hi186.1 (kr0 rfl)) qs0)))))))))))))))) ?_
                 ·intro a w u hE hM
                  have hM:=hM.pull2
                  refine Zm (seg:=[(vB (x173 ^^^ r181))]) (cs':=enc (s160.1.setIfInBounds (s133.2.2).toNat (x184.setIfInBounds (s160.2.2).toNat (x173 ^^^ r181)))) hE hM Za rfl rfl rfl ty5 rfl (VJ (o':=0 + (s160.2.2).toNat * 1) hi183 (ZS (v:=x184) (x:=x173 ^^^ r181) hi186.1) (by first | omega | (simp only [Flat.n] <;> omega))) (Flat.cell (x173 ^^^ r181 : UInt8)) (W5 (o':=0 + (s160.2.2).toNat * 1) hi183 (ZS (v:=x184) (x:=x173 ^^^ r181) hi186.1) (ZD (v:=x184) (x:=x173 ^^^ r181) hi186.1) (by first | omega | (simp only [Flat.n] <;> omega))) fun w a hM hE=>Zg ?_
                  obtain rfl:=Option.some.inj hl166
                  refine Zk ?_
                  have hM:=hM.pull2.pull2
                  exact ⟨hE.sub ⟨rfl,rfl,rfl,rfl,rfl,rfl,rfl,rfl,rfl,rfl,rfl,rfl,trivial⟩,hM⟩
                ·skip
                 rintro a w ⟨hE,hM⟩
                 obtain ⟨x192,hi191,hF167⟩:=bvx hF167
                 obtain ⟨x195,hi194,hF167⟩:=bvx hF167
                 obtain ⟨x198,hi197,hF167⟩:=bvx hF167
                 obtain ⟨x201,hi200,hF167⟩:=bvx hF167
                 obtain ⟨r203,e204,hF167⟩:=bind_some hF167
                 obtain ⟨x206,hi205,hF167⟩:=bvx hF167
                 obtain ⟨x209,hi208,hF167⟩:=bvx hF167
                 refine ZX [132,133,134,135,136,137,138,139,140,141,142,143,144,145,146,147] Yu rfl rfl (by decide) rfl hE hM (qsP (fun z=>Zj z.E Za ld rfl (kr0 rfl)) (qsP (fun z=>Zj z.E Za ld rfl (kr0 rfl)) (qsP (fun z=>ZC z.E Za ld rfl rfl Tryz.underlying160 XB hi191.1 (kr0 rfl)) (qsP (fun z=>ZC z.E Za ld rfl rfl Tryz.underlying158 ty5 hi194.1 (kr0 rfl)) (qsP (fun z=>ZM (v:=(vB x195)) z.E Za ld rfl ty5 rfl (At.vec (At.vec (z.M.rawAt0) hi191.2) hi194.2) (kr0 rfl)) (qsP (fun z=>Zj z.E Za ld rfl (kr0 rfl)) (qsP (fun z=>Zj z.E Za ld rfl (kr0 rfl)) (qsP (fun z=>Zj z.E Za ld rfl (kr0 rfl)) (qsP (fun z=>Zj z.E Za ld rfl (kr0 rfl)) (qsP (fun z=>ZC z.E Za ld rfl rfl Tryz.underlying160 XB hi197.1 (kr0 rfl)) (qsP (fun z=>ZC z.E Za ld rfl rfl Tryz.underlying158 ty5 hi200.1 (kr0 rfl)) (qsP (fun z=>ZM (v:=(vB x201)) z.E Za ld rfl ty5 rfl (At.vec (At.vec (z.M.rawAt0) hi197.2) hi200.2) (kr0 rfl)) (qsP (fun z=>Yk z.E Za ld rfl JU (YI _ p0 x145 x201 r203 e204) (kc rfl)) (qsP (v:=(vB (x195 ^^^ r203))) (fun z=>Z9 z.E Za ld rfl rfl (V0 x195 r203) (kr0 rfl)) (qsP (fun z=>ZC z.E Za ld rfl rfl Tryz.underlying160 XB hi205.1 (kr0 rfl)) (qsP (fun z=>ZC z.E Za ld rfl rfl Tryz.underlying158 ty5 hi208.1 (kr0 rfl)) qs0)))))))))))))))) ?_
                 ·intro a w u hE hM
                  refine Zm (seg:=[(vB (x195 ^^^ r203))]) (cs':=enc (s160.2.1.setIfInBounds (s133.2.2).toNat (x206.setIfInBounds (s160.2.2).toNat (x195 ^^^ r203)))) hE hM Za rfl rfl rfl ty5 rfl (VJ (o':=0 + (s160.2.2).toNat * 1) hi205 (ZS (v:=x206) (x:=x195 ^^^ r203) hi208.1) (by first | omega | (simp only [Flat.n] <;> omega))) (Flat.cell (x195 ^^^ r203 : UInt8)) (W5 (o':=0 + (s160.2.2).toNat * 1) hi205 (ZS (v:=x206) (x:=x195 ^^^ r203) hi208.1) (ZD (v:=x206) (x:=x195 ^^^ r203) hi208.1) (by first | omega | (simp only [Flat.n] <;> omega))) fun w a hM hE=>Zg (Yb (Zp (wp_region_lit (Zi hE rfl rfl rfl fun a hE=>Zd hE rfl fun a hE=>Zg (Zk ?_)))))
                  exact ⟨_,(ois hF167),hE.sub ⟨rfl,rfl,rfl,rfl,rfl,rfl,rfl,rfl,rfl,rfl,rfl,trivial⟩,hM⟩
               ·intro hb164
                have hs161:=Zs hs161 hb164
                refine wp_exit (Zn (Zn (Ye ?_)))
                obtain rfl:=hx162 _ (ois hs161)
                refine Zk ?_
                exact ⟨hE.sub ⟨rfl,rfl,rfl,rfl,rfl,rfl,rfl,rfl,trivial⟩,hM⟩
              ·skip
               rintro a w ⟨hE,hM⟩
               obtain rfl:=Option.some.inj hF159
               refine Zk ?_
               exact ⟨hE.sub ⟨rfl,rfl,rfl,rfl,rfl,rfl,rfl,rfl,trivial⟩,hM⟩
             ·intro hb156
              have hl154:=Zs hl154 hb156
              refine wp_skip ?_
              obtain rfl:=Option.some.inj hl154
              refine Zk ?_
              exact ⟨hE.sub ⟨rfl,rfl,rfl,rfl,rfl,rfl,rfl,rfl,trivial⟩,hM⟩
            ·skip
             rintro a w ⟨hE,hM⟩
             refine Yb ?_
             obtain rfl:=Option.some.inj hF155
             refine Zk ?_
             exact ⟨hE.sub ⟨rfl,rfl,rfl,rfl,rfl,rfl,rfl,rfl,trivial⟩,hM⟩
          ·skip
           rintro a w ⟨hE,hM⟩
           refine wp_region_lit (Zi hE rfl rfl rfl fun a hE=>Zd hE rfl fun a hE=>Zg (Zk ?_))
           exact ⟨_,(ois hF140),hE.sub ⟨rfl,rfl,rfl,rfl,rfl,rfl,rfl,rfl,trivial⟩,hM⟩
         ·intro hb137
          have hs134:=Zs hs134 hb137
          refine wp_exit (Zn (Zn (Ye ?_)))
          obtain rfl:=hx135 _ (ois hs134)
          refine Zk ?_
          exact ⟨hE.sub ⟨rfl,rfl,rfl,rfl,rfl,rfl,trivial⟩,hM⟩
        ·skip
         rintro a w ⟨hE,hM⟩
         refine Yb (Zp (wp_region_lit (Zi hE rfl rfl rfl fun a hE=>Zd hE rfl fun a hE=>Zg (Zk ?_))))
         exact ⟨_,(ois hF132),hE.sub ⟨rfl,rfl,rfl,rfl,rfl,rfl,trivial⟩,hM⟩
  ·intro hb17
   have hs14:=Zs hs14 hb17
   refine wp_exit (Zn (Zn (Ye ?_)))
   obtain rfl:=hx15 _ (ois hs14)
   refine Zk ?_
   have hM:=M.fst (l:=[_,_]) hM.pull1.pull1
   exact ⟨(s13.2.1,s13.2.2.2),rfl,hE.sub ⟨rfl,rfl,rfl,trivial⟩,hM⟩
 ·skip
  rintro a w ⟨s12,ht,hE,hM⟩
  subst ht
  have hF11:=Ta hF11
  refine Zp ?_
  obtain ⟨j217,hl218,hF219⟩:=bind_some hF11
  refine ZN (fun a w=>Env 153 a [(4,vB j217.2),(5,(ptr b3 0))] ∧ M (Old w0) w0 w [raw b3 (enc j217.1)]) ?_ ?_
  ·skip
   refine ZX [151,152,4] Yu rfl rfl (by decide) rfl hE hM (qsP (fun z=>Zj z.E Za ld rfl (kr0 rfl)) (qsP (fun z=>ZW z.E Za ld rfl Ua rfl (z.M.rawAt0) (Flat.len _) (kr0 rfl)) (qsP (fun z=>Qo z.E Za ld rfl (kr0 rfl)) qs0))) ?_
   ·intro a w u hE hM
    have hM:=hM.pull1
    refine Zm (seg:=enc s12.1) (cs':=enc s12.1) hE hM Za rfl rfl rfl Ua (Flat.len _) (zle flq) (Flat.cell _) (Zh flq) fun w a hM hE=>Zg ?_
    obtain rfl:=Option.some.inj hl218
    refine Zk ?_
    have hM:=M.fst (l:=[_]) hM
    exact ⟨hE.sub ⟨rfl,rfl,trivial⟩,hM⟩
  ·skip
   rintro a w ⟨hE,hM⟩
   obtain rfl:=Option.some.inj hF219
   have hq222 : Z6 Tryz.prog _ _ (.cell 5 160) _:=ZK hE rfl Ua rfl hM.rawAt0 (Flat.len _) rfl
   exact wp_ret (AX hE rfl (ZU hE rfl) hq222 ⟨_,rfl,rfl,hM.kept⟩)
def Xy (p0 : (Vector UInt8 256)) (s10 : (Vector UInt8 256) × Int) : Option (Fl ((Vector UInt8 256) × Int) (Vector UInt8 256)) :=
 if (decide (s10.2 < 256)) = true then ((ZI p0 s10.2).bind fun x15=>(ZI s10.1 (bI x15)).bind fun x19=>some (Fl.nx ((s10.1.setIfInBounds ((bI x15)).toNat (ZG s10.2)),wr (s10.2 + 1)))) else (some (Fl.ex s10.1))
def WT (p0 : (Vector UInt8 256)) : Option ((Vector UInt8 256)) :=
 (ZA (Xy p0) ((Vector.replicate 256 (0 : UInt8)),0)).bind fun j7=>some j7
theorem Kr (w0 : World) (p0 : (Vector UInt8 256)) (r : (Vector UInt8 256)) (hF : WT p0 = some r) :
  Calls Tryz.prog 212 [(Value.agg (enc p0).toArray)].toArray w0 (Rt w0 (Value.agg (enc r).toArray)):=by
 refine ce Tryz.func212 ?_
 intro a hE
 have hM:=M.start w0
 unfold WT at hF
 refine Zb (Ya (cs:=enc p0) hE hM Za ld rfl rfl fun b1 w a hM hE=>Zz hE hM XI fun b3 w a hM hE=>Ze (Zb (YB (parts:=[]) (vs:=[]) (cs:=enc (Vector.replicate 256 (0 : UInt8))) hE Za ld rfl rfl XI rfl ty5 Yp fun a hE=>Zz hE hM XI fun b5 w a hM hE=>Zm (seg:=enc (Vector.replicate 256 (0 : UInt8))) (cs':=enc (Vector.replicate 256 (0 : UInt8))) hE hM Za rfl rfl rfl XI (Flat.len _) (zle flq) (Flat.cell _) (Zh flq) fun w a hM hE=>Ze (wp_seq (Zb (Zr hE rfl XI rfl hM.rawAt2 (Flat.len _) fun a hE=>Zd hE rfl fun a hE=>Ze ?_))))))
 obtain ⟨j7,hl8,hF9⟩:=bind_some hF
 refine ZO (fun a w=>Env 18 a [(2,(ptr b3 0)),(3,(ptr b5 0))] ∧ M (Old w0) w0 w [raw b5 (enc j7),raw b3 (enc (Vector.replicate 256 (0 : UInt8)))]) ?_ ?_
 ·skip
  refine wp_block ?_
  have hM:=M.fst (l:=[_,_]) hM.pull1.pull1
  refine ZE (fun (s10 : (Vector UInt8 256) × Int) a w=>Env 18 a [(2,(ptr b3 0)),(3,(ptr b5 0)),(7,(Value.agg (enc p0).toArray)),(8,vI s10.2)] ∧ M (Old w0) w0 w [raw b5 (enc s10.1),raw b3 (enc (Vector.replicate 256 (0 : UInt8)))]) hl8 ⟨hE.sub ⟨rfl,rfl,rfl,rfl,trivial⟩,hM⟩ ?_
  rintro s10 a w ⟨hE,hM⟩ o13 hs11 hx12
  unfold Xy at hs11
  refine Zb (Zi hE rfl rfl rfl fun a hE=>Ze (wp_seq ?_))
  refine Zo hE rfl ?_ ?_
  ·intro hb14
   have hs11:=Zt hs11 hb14
   refine wp_skip (Zp (wp_seq (wp_block (Zb (Zd hE rfl ?_))))); intro a hE
   obtain ⟨x15,hi17,hs11⟩:=bvx hs11
   refine Q3 hE Za ld rfl rfl Tryz.underlying157 ty5 rfl rfl hi17 rfl fun a hE=>Zc hE rfl fun a hE=>Zc hE rfl fun a hE=>Ze (wp_region_lit (Zd hE rfl fun a hE=>Zd hE rfl fun a hE=>Xo hE Za ld rfl Tryz.underlying3 Tryz.underlying5 ?_)); intro a hE
   obtain ⟨x19,hi18,hs11⟩:=bvx hs11
   refine ZF hE rfl rfl Tryz.underlying157 ty5 hi18.1 fun a hE=>Zm (seg:=[(vB (ZG s10.2))]) (cs':=enc (s10.1.setIfInBounds ((bI x15)).toNat (ZG s10.2))) hE hM Za rfl rfl rfl ty5 rfl (ZS (v:=s10.1) (x:=ZG s10.2) hi18.1) (Flat.cell (ZG s10.2 : UInt8)) (ZD (v:=s10.1) (x:=ZG s10.2) hi18.1) fun w a hM hE=>Zg (Yb (Zp (wp_region_lit (Zi hE rfl rfl rfl fun a hE=>Zd hE rfl fun a hE=>Zg (Zk ?_)))))
   exact ⟨_,(ois hs11),hE.sub ⟨rfl,rfl,rfl,rfl,trivial⟩,hM⟩
  ·intro hb14
   have hs11:=Zs hs11 hb14
   refine wp_exit (Zn (Zn (Ye ?_)))
   obtain rfl:=hx12 _ (ois hs11)
   refine Zk ?_
   exact ⟨hE.sub ⟨rfl,rfl,trivial⟩,hM⟩
 ·skip
  rintro a w ⟨hE,hM⟩
  refine Zp (Zb (Zr hE rfl XI rfl hM.rawAt0 (Flat.len _) ?_)); intro a hE
  have hM:=hM.pull1
  refine Zm (seg:=enc j7) (cs':=enc j7) hE hM Za rfl rfl rfl XI (Flat.len _) (zle flq) (Flat.cell _) (Zh flq) fun w a hM hE=>Ze ?_
  obtain rfl:=Option.some.inj hF9
  have hq22 : Z6 Tryz.prog _ _ (.cell 2 157) _:=ZK hE rfl XI rfl hM.rawAt0 (Flat.len _) rfl
  exact wp_ret (ZP hE rfl hq22 ⟨_,rfl,rfl,hM.kept⟩)
def YQ (p0 : (Vector UInt8 16)) (s10 : (Vector UInt8 16) × Int) : Option (Fl ((Vector UInt8 16) × Int) (Vector UInt8 16)) :=
 if (decide (s10.2 < 16)) = true then ((ZI p0 s10.2).bind fun x15=>(ZI s10.1 (bI x15)).bind fun x19=>some (Fl.nx ((s10.1.setIfInBounds ((bI x15)).toNat (ZG s10.2)),wr (s10.2 + 1)))) else (some (Fl.ex s10.1))
def XF (p0 : (Vector UInt8 16)) : Option ((Vector UInt8 16)) :=
 (ZA (YQ p0) ((Vector.replicate 16 (0 : UInt8)),0)).bind fun j7=>some j7
theorem QQ (w0 : World) (p0 : (Vector UInt8 16)) (r : (Vector UInt8 16)) (hF : XF p0 = some r) :
  Calls Tryz.prog 213 [(Value.agg (enc p0).toArray)].toArray w0 (Rt w0 (Value.agg (enc r).toArray)):=by
 refine ce Tryz.func213 ?_
 intro a hE
 have hM:=M.start w0
 unfold XF at hF
 refine Zb (Ya (cs:=enc p0) hE hM Za ld rfl rfl fun b1 w a hM hE=>Zz hE hM TN fun b3 w a hM hE=>Ze (Zb (YB (parts:=[]) (vs:=[]) (cs:=enc (Vector.replicate 16 (0 : UInt8))) hE Za ld rfl rfl TN rfl ty5 Yp fun a hE=>Zz hE hM TN fun b5 w a hM hE=>Zm (seg:=enc (Vector.replicate 16 (0 : UInt8))) (cs':=enc (Vector.replicate 16 (0 : UInt8))) hE hM Za rfl rfl rfl TN (Flat.len _) (zle flq) (Flat.cell _) (Zh flq) fun w a hM hE=>Ze (wp_seq (Zb (Zr hE rfl TN rfl hM.rawAt2 (Flat.len _) fun a hE=>Zd hE rfl fun a hE=>Ze ?_))))))
 obtain ⟨j7,hl8,hF9⟩:=bind_some hF
 refine ZO (fun a w=>Env 18 a [(2,(ptr b3 0)),(3,(ptr b5 0))] ∧ M (Old w0) w0 w [raw b5 (enc j7),raw b3 (enc (Vector.replicate 16 (0 : UInt8)))]) ?_ ?_
 ·skip
  refine wp_block ?_
  have hM:=M.fst (l:=[_,_]) hM.pull1.pull1
  refine ZE (fun (s10 : (Vector UInt8 16) × Int) a w=>Env 18 a [(2,(ptr b3 0)),(3,(ptr b5 0)),(7,(Value.agg (enc p0).toArray)),(8,vI s10.2)] ∧ M (Old w0) w0 w [raw b5 (enc s10.1),raw b3 (enc (Vector.replicate 16 (0 : UInt8)))]) hl8 ⟨hE.sub ⟨rfl,rfl,rfl,rfl,trivial⟩,hM⟩ ?_
  rintro s10 a w ⟨hE,hM⟩ o13 hs11 hx12
  unfold YQ at hs11
  refine Zb (Zi hE rfl rfl rfl fun a hE=>Ze (wp_seq ?_))
  refine Zo hE rfl ?_ ?_
  ·intro hb14
   have hs11:=Zt hs11 hb14
   refine wp_skip (Zp (wp_seq (wp_block (Zb (Zd hE rfl ?_))))); intro a hE
   obtain ⟨x15,hi17,hs11⟩:=bvx hs11
   refine Q3 hE Za ld rfl rfl Tryz.underlying161 ty5 rfl rfl hi17 rfl fun a hE=>Zc hE rfl fun a hE=>Zc hE rfl fun a hE=>Ze (wp_region_lit (Zd hE rfl fun a hE=>Zd hE rfl fun a hE=>Xo hE Za ld rfl Tryz.underlying3 Tryz.underlying5 ?_)); intro a hE
   obtain ⟨x19,hi18,hs11⟩:=bvx hs11
   refine ZF hE rfl rfl Tryz.underlying161 ty5 hi18.1 fun a hE=>Zm (seg:=[(vB (ZG s10.2))]) (cs':=enc (s10.1.setIfInBounds ((bI x15)).toNat (ZG s10.2))) hE hM Za rfl rfl rfl ty5 rfl (ZS (v:=s10.1) (x:=ZG s10.2) hi18.1) (Flat.cell (ZG s10.2 : UInt8)) (ZD (v:=s10.1) (x:=ZG s10.2) hi18.1) fun w a hM hE=>Zg (Yb (Zp (wp_region_lit (Zi hE rfl rfl rfl fun a hE=>Zd hE rfl fun a hE=>Zg (Zk ?_)))))
   exact ⟨_,(ois hs11),hE.sub ⟨rfl,rfl,rfl,rfl,trivial⟩,hM⟩
  ·intro hb14
   have hs11:=Zs hs11 hb14
   refine wp_exit (Zn (Zn (Ye ?_)))
   obtain rfl:=hx12 _ (ois hs11)
   refine Zk ?_
   exact ⟨hE.sub ⟨rfl,rfl,trivial⟩,hM⟩
 ·skip
  rintro a w ⟨hE,hM⟩
  refine Zp (Zb (Zr hE rfl TN rfl hM.rawAt0 (Flat.len _) ?_)); intro a hE
  have hM:=hM.pull1
  refine Zm (seg:=enc j7) (cs':=enc j7) hE hM Za rfl rfl rfl TN (Flat.len _) (zle flq) (Flat.cell _) (Zh flq) fun w a hM hE=>Ze ?_
  obtain rfl:=Option.some.inj hF9
  have hq22 : Z6 Tryz.prog _ _ (.cell 2 161) _:=ZK hE rfl TN rfl hM.rawAt0 (Flat.len _) rfl
  exact wp_ret (ZP hE rfl hq22 ⟨_,rfl,rfl,hM.kept⟩)
def WD (s8 : (Vector (Vector (Vector UInt8 256) 4) 4) × Int) (s19 : (Vector (Vector (Vector UInt8 256) 4) 4) × Int) (s30 : (Vector (Vector (Vector UInt8 256) 4) 4) × Int) (r35 : UInt8) (s40 : (Vector (Vector (Vector UInt8 256) 4) 4) × Int) : Option (Fl ((Vector (Vector (Vector UInt8 256) 4) 4) × Int) (Vector (Vector (Vector UInt8 256) 4) 4)) :=
 if (decide (s40.2 < s30.2)) = true then ((ZI s40.1 s8.2).bind fun x47=>(ZI x47 s19.2).bind fun x50=>(ZI x50 s40.2).bind fun x53=>(ZI s40.1 s8.2).bind fun x56=>(ZI x56 s19.2).bind fun x59=>(ZI x59 (orI s30.2 s40.2)).bind fun x62=>some (Fl.nx ((s40.1.setIfInBounds (s8.2).toNat (x56.setIfInBounds (s19.2).toNat (x59.setIfInBounds ((orI s30.2 s40.2)).toNat (r35 ^^^ x53)))),wr (s40.2 + 1)))) else (some (Fl.ex s40.1))
def Wo (p0 : Int) (s8 : (Vector (Vector (Vector UInt8 256) 4) 4) × Int) (s19 : (Vector (Vector (Vector UInt8 256) 4) 4) × Int) (x24 : UInt8) (s30 : (Vector (Vector (Vector UInt8 256) 4) 4) × Int) : Option (Fl ((Vector (Vector (Vector UInt8 256) 4) 4) × Int) (Vector (Vector (Vector UInt8 256) 4) 4)) :=
 if (decide (s30.2 < 256)) = true then ((Z3 p0 x24 (ZG s30.2)).bind fun r35=>(ZA (WD s8 s19 s30 r35) (s30.1,0)).bind fun j37=>some (Fl.nx (j37,wr (s30.2 * 2)))) else (some (Fl.ex s30.1))
def WA (p0 : Int) (s8 : (Vector (Vector (Vector UInt8 256) 4) 4) × Int) (x14 : (Vector UInt8 4)) (s19 : (Vector (Vector (Vector UInt8 256) 4) 4) × Int) : Option (Fl ((Vector (Vector (Vector UInt8 256) 4) 4) × Int) (Vector (Vector (Vector UInt8 256) 4) 4)) :=
 if (decide (s19.2 < 4)) = true then ((ZI x14 s19.2).bind fun x24=>(ZA (Wo p0 s8 s19 x24) (s19.1,1)).bind fun j27=>some (Fl.nx (j27,wr (s19.2 + 1)))) else (some (Fl.ex s19.1))
def Wp (p0 : Int) (p1 : (Vector (Vector UInt8 4) 4)) (s8 : (Vector (Vector (Vector UInt8 256) 4) 4) × Int) : Option (Fl ((Vector (Vector (Vector UInt8 256) 4) 4) × Int) (Vector (Vector (Vector UInt8 256) 4) 4)) :=
 if (decide (s8.2 < 4)) = true then ((ZI p1 s8.2).bind fun x14=>(ZA (WA p0 s8 x14) (s8.1,0)).bind fun j16=>some (Fl.nx (j16,wr (s8.2 + 1)))) else (some (Fl.ex s8.1))
def W0 (p0 : Int) (p1 : (Vector (Vector UInt8 4) 4)) : Option ((Ref (Vector (Vector (Vector UInt8 256) 4) 4))) :=
 (ZA (Wp p0 p1) ((Vector.replicate 4 (Vector.replicate 4 (Vector.replicate 256 (0 : UInt8)))),0)).bind fun j5=>some (⟨j5⟩ : (Ref (Vector (Vector (Vector UInt8 256) 4) 4)))
theorem QN (w0 : World) (p0 : Int) (p1 : (Vector (Vector UInt8 4) 4)) (r : (Ref (Vector (Vector (Vector UInt8 256) 4) 4))) (hF : W0 p0 p1 = some r) :
  Calls Tryz.prog 214 [vI p0,(Value.agg (enc p1).toArray)].toArray w0 (fun en w'=>∃ v,en = .returned v ∧ (∃ (y1 : Value),v = y1 ∧ Fr w0 w' [own NoB (r : (Ref (Vector (Vector (Vector UInt8 256) 4) 4))) [y1]] ∧ Kept (Old w0) w0 w')):=by
 refine ce Tryz.func214 ?_
 intro a hE
 have hM:=M.start w0
 unfold W0 at hF
 refine Zb (Ya (cs:=enc p1) hE hM Za ld rfl rfl fun b1 w a hM hE=>Zc hE rfl fun a hE=>Ze (Zb (YB (parts:=[]) (vs:=[]) (cs:=enc (Vector.replicate 4 (Vector.replicate 4 (Vector.replicate 256 (0 : UInt8))))) hE Za ld rfl rfl ty265 rfl HF Yp fun a hE=>Ya (cs:=enc (Vector.replicate 4 (Vector.replicate 4 (Vector.replicate 256 (0 : UInt8))))) hE hM Za ld rfl rfl fun b3 w a hM hE=>Zc hE rfl fun a hE=>Ze (wp_seq (Zb (Zd hE rfl fun a hE=>Ze ?_))))))
 obtain ⟨j5,hl6,hF7⟩:=bind_some hF
 refine ZO (fun a w=>Env 62 a [(5,(ptr b3 0))] ∧ M (Old w0) w0 w [raw b3 (enc j5)]) ?_ ?_
 ·skip
  refine wp_block ?_
  refine ZE (fun (s8 : (Vector (Vector (Vector UInt8 256) 4) 4) × Int) a w=>Env 62 a [(0,vI p0),(3,(ptr b1 0)),(5,(ptr b3 0)),(14,vI s8.2)] ∧ M (Old w0) w0 w [raw b3 (enc s8.1),raw b1 (enc p1)]) hl6 ⟨hE.sub ⟨rfl,rfl,rfl,rfl,trivial⟩,hM⟩ ?_
  rintro s8 a w ⟨hE,hM⟩ o11 hs9 hx10
  unfold Wp at hs9
  refine Zb (Zi hE rfl rfl rfl fun a hE=>Ze (wp_seq ?_))
  refine Zo hE rfl ?_ ?_
  ·intro hb12
   have hs9:=Zt hs9 hb12
   refine wp_skip (Zp (wp_seq (wp_block (Zb (Zd hE rfl fun a hE=>Zc hE rfl fun a hE=>Ze (Zb (Zd hE rfl ?_))))))); intro a hE
   obtain ⟨x14,hi13,hs9⟩:=bvx hs9
   refine ZF hE rfl rfl Tryz.underlying160 XB hi13.1 fun a hE=>Zr hE rfl XB rfl (At.vec hM.rawAt1 hi13.2) (Flat.len _) fun a hE=>Zd hE rfl fun a hE=>Ze ?_
   obtain ⟨j16,hl17,hF18⟩:=bind_some hs9
   refine ZO (fun a w=>Env 62 a [(0,vI p0),(3,(ptr b1 0)),(5,(ptr b3 0)),(14,vI s8.2)] ∧ M (Old w0) w0 w [raw b3 (enc j16),raw b1 (enc p1)]) ?_ ?_
   ·skip
    refine wp_block ?_
    refine ZE (fun (s19 : (Vector (Vector (Vector UInt8 256) 4) 4) × Int) a w=>Env 62 a [(0,vI p0),(3,(ptr b1 0)),(5,(ptr b3 0)),(6,vI s8.2),(14,vI s8.2),(19,(Value.agg (enc x14).toArray)),(20,vI s19.2)] ∧ M (Old w0) w0 w [raw b3 (enc s19.1),raw b1 (enc p1)]) hl17 ⟨hE.sub ⟨rfl,rfl,rfl,rfl,rfl,rfl,rfl,trivial⟩,hM⟩ ?_
    rintro s19 a w ⟨hE,hM⟩ o22 hs20 hx21
    unfold WA at hs20
    refine Zb (Zi hE rfl rfl rfl fun a hE=>Ze (wp_seq ?_))
    refine Zo hE rfl ?_ ?_
    ·intro hb23
     have hs20:=Zt hs20 hb23
     refine wp_skip (Zp (wp_seq (wp_block (Zb (Zd hE rfl ?_))))); intro a hE
     obtain ⟨x24,hi26,hs20⟩:=bvx hs20
     refine Q3 hE Za ld rfl rfl Tryz.underlying158 ty5 rfl rfl hi26 rfl fun a hE=>Zc hE rfl fun a hE=>Zc hE rfl fun a hE=>Ze (Zb (Zc hE rfl fun a hE=>Ze ?_))
     obtain ⟨j27,hl28,hF29⟩:=bind_some hs20
     refine ZO (fun a w=>Env 62 a [(0,vI p0),(3,(ptr b1 0)),(5,(ptr b3 0)),(6,vI s8.2),(14,vI s8.2),(19,(Value.agg (enc x14).toArray)),(20,vI s19.2)] ∧ M (Old w0) w0 w [raw b3 (enc j27),raw b1 (enc p1)]) ?_ ?_
     ·skip
      refine wp_block ?_
      refine ZE (fun (s30 : (Vector (Vector (Vector UInt8 256) 4) 4) × Int) a w=>Env 62 a [(0,vI p0),(3,(ptr b1 0)),(5,(ptr b3 0)),(6,vI s8.2),(7,vI s19.2),(8,vB x24),(9,vI s30.2),(14,vI s8.2),(19,(Value.agg (enc x14).toArray)),(20,vI s19.2)] ∧ M (Old w0) w0 w [raw b3 (enc s30.1),raw b1 (enc p1)]) hl28 ⟨hE.sub ⟨rfl,rfl,rfl,rfl,rfl,rfl,rfl,rfl,rfl,rfl,trivial⟩,hM⟩ ?_
      rintro s30 a w ⟨hE,hM⟩ o33 hs31 hx32
      unfold Wo at hs31
      refine wp_seq (Zb (Zd hE rfl fun a hE=>Zi hE rfl rfl rfl fun a hE=>Ze ?_))
      refine Zo hE rfl ?_ ?_
      ·intro hb34
       have hs31:=Zt hs31 hb34
       refine wp_skip (Zp (wp_seq (wp_block (Zb (Zd hE rfl fun a hE=>Zd hE rfl fun a hE=>Zd hE rfl fun a hE=>Xo hE Za ld rfl Tryz.underlying3 Tryz.underlying5 ?_))))); intro a hE
       obtain ⟨r35,e36,hs31⟩:=bind_some hs31
       refine Zx hE rfl JU (YI _ p0 x24 (ZG s30.2) r35 e36) ?_
       rintro v w a ⟨rfl,hK⟩ hE
       have hM:=hM.keep hK
       refine Zc hE rfl fun a hE=>Ze (Zb (Zd hE rfl fun a hE=>Zd hE rfl fun a hE=>Ze ?_))
       obtain ⟨j37,hl38,hF39⟩:=bind_some hs31
       refine ZO (fun a w=>Env 62 a [(0,vI p0),(3,(ptr b1 0)),(5,(ptr b3 0)),(6,vI s8.2),(7,vI s19.2),(8,vB x24),(9,vI s30.2),(14,vI s8.2),(19,(Value.agg (enc x14).toArray)),(20,vI s19.2)] ∧ M (Old w0) w0 w [raw b3 (enc j37),raw b1 (enc p1)]) ?_ ?_
       ·skip
        refine wp_block ?_
        refine ZE (fun (s40 : (Vector (Vector (Vector UInt8 256) 4) 4) × Int) a w=>Env 62 a [(0,vI p0),(3,(ptr b1 0)),(5,(ptr b3 0)),(6,vI s8.2),(7,vI s19.2),(8,vB x24),(9,vI s30.2),(10,vB r35),(14,vI s8.2),(19,(Value.agg (enc x14).toArray)),(20,vI s19.2),(33,vI s30.2),(34,vI s40.2)] ∧ M (Old w0) w0 w [raw b3 (enc s40.1),raw b1 (enc p1)]) hl38 ⟨hE.sub ⟨rfl,rfl,rfl,rfl,rfl,rfl,rfl,rfl,rfl,rfl,rfl,rfl,rfl,trivial⟩,hM⟩ ?_
        rintro s40 a w ⟨hE,hM⟩ o43 hs41 hx42
        unfold WD at hs41
        refine Zb (Zi hE rfl rfl rfl fun a hE=>Ze (wp_seq ?_))
        refine Zo hE rfl ?_ ?_
        ·intro hb44
         have hs41:=Zt hs41 hb44
         refine wp_skip (Zp (wp_seq (wp_block (Zb (Zd hE rfl fun a hE=>Zc hE rfl fun a hE=>Ze ?_)))))
         obtain ⟨x47,hi46,hs41⟩:=bvx hs41
         obtain ⟨x50,hi49,hs41⟩:=bvx hs41
         obtain ⟨x53,hi52,hs41⟩:=bvx hs41
         obtain ⟨x56,hi55,hs41⟩:=bvx hs41
         obtain ⟨x59,hi58,hs41⟩:=bvx hs41
         obtain ⟨x62,hi61,hs41⟩:=bvx hs41
         refine ZX [37,38,39,40,41,42,43,44,45,46,47,48,49,50,51,52,53,54,55,56,57] Yu rfl rfl (by decide) rfl hE hM (qsP (fun z=>Zj z.E Za ld rfl (kr0 rfl)) (qsP (fun z=>Zj z.E Za ld rfl (kr0 rfl)) (qsP (fun z=>Zj z.E Za ld rfl (kr0 rfl)) (qsP (fun z=>Zj z.E Za ld rfl (kr0 rfl)) (qsP (fun z=>Zj z.E Za ld rfl (kr0 rfl)) (qsP (v:=(vI (orI s30.2 s40.2))) (fun z=>Z9 z.E Za ld rfl rfl rfl (kr0 rfl)) (qsP (fun z=>Zj z.E Za ld rfl (kr0 rfl)) (qsP (fun z=>Zj z.E Za ld rfl (kr0 rfl)) (qsP (fun z=>Zj z.E Za ld rfl (kr0 rfl)) (qsP (fun z=>Zj z.E Za ld rfl (kr0 rfl)) (qsP (fun z=>Zj z.E Za ld rfl (kr0 rfl)) (qsP (fun z=>Wg z.E Za ld rfl (kr0 rfl)) (qsP (fun z=>ZC z.E Za ld rfl rfl Tryz.underlying265 HF hi46.1 (kr0 rfl)) (qsP (fun z=>ZC z.E Za ld rfl rfl Tryz.underlying263 Aj hi49.1 (kr0 rfl)) (qsP (fun z=>ZC z.E Za ld rfl rfl Tryz.underlying156 ty5 hi52.1 (kr0 rfl)) (qsP (fun z=>ZM (v:=(vB x53)) z.E Za ld rfl ty5 rfl (At.vec (At.vec (At.vec (z.M.rawAt0) hi46.2) hi49.2) hi52.2) (kr0 rfl)) (qsP (v:=(vB (r35 ^^^ x53))) (fun z=>Z9 z.E Za ld rfl rfl (V0 r35 x53) (kr0 rfl)) (qsP (fun z=>Wg z.E Za ld rfl (kr0 rfl)) (qsP (fun z=>ZC z.E Za ld rfl rfl Tryz.underlying265 HF hi55.1 (kr0 rfl)) (qsP (fun z=>ZC z.E Za ld rfl rfl Tryz.underlying263 Aj hi58.1 (kr0 rfl)) (qsP (fun z=>ZC z.E Za ld rfl rfl Tryz.underlying156 ty5 hi61.1 (kr0 rfl)) qs0))))))))))))))))))))) ?_
         ·intro a w u hE hM
          refine Zm (seg:=[(vB (r35 ^^^ x53))]) (cs':=enc (s40.1.setIfInBounds (s8.2).toNat (x56.setIfInBounds (s19.2).toNat (x59.setIfInBounds ((orI s30.2 s40.2)).toNat (r35 ^^^ x53))))) hE hM Za rfl rfl rfl ty5 rfl (VJ (o':=(s19.2).toNat * 256 + (0 + ((orI s30.2 s40.2)).toNat * 1)) hi55 (VJ (o':=0 + ((orI s30.2 s40.2)).toNat * 1) hi58 (ZS (v:=x59) (x:=r35 ^^^ x53) hi61.1) (by first | omega | (simp only [Flat.n] <;> omega))) (by first | omega | (simp only [Flat.n] <;> omega))) (Flat.cell (r35 ^^^ x53 : UInt8)) (W5 (o':=(s19.2).toNat * 256 + (0 + ((orI s30.2 s40.2)).toNat * 1)) hi55 (VJ (o':=0 + ((orI s30.2 s40.2)).toNat * 1) hi58 (ZS (v:=x59) (x:=r35 ^^^ x53) hi61.1) (by first | omega | (simp only [Flat.n] <;> omega))) (W5 (o':=0 + ((orI s30.2 s40.2)).toNat * 1) hi58 (ZS (v:=x59) (x:=r35 ^^^ x53) hi61.1) (ZD (v:=x59) (x:=r35 ^^^ x53) hi61.1) (by first | omega | (simp only [Flat.n] <;> omega))) (by first | omega | (simp only [Flat.n] <;> omega))) fun w a hM hE=>Zg (Yb (Zp (wp_region_lit (Zi hE rfl rfl rfl fun a hE=>Zd hE rfl fun a hE=>Zg (Zk ?_)))))
          exact ⟨_,(ois hs41),hE.sub ⟨rfl,rfl,rfl,rfl,rfl,rfl,rfl,rfl,rfl,rfl,rfl,rfl,rfl,trivial⟩,hM⟩
        ·intro hb44
         have hs41:=Zs hs41 hb44
         refine wp_exit (Zn (Zn (Ye ?_)))
         obtain rfl:=hx42 _ (ois hs41)
         refine Zk ?_
         exact ⟨hE.sub ⟨rfl,rfl,rfl,rfl,rfl,rfl,rfl,rfl,rfl,rfl,trivial⟩,hM⟩
       ·skip
        rintro a w ⟨hE,hM⟩
        refine Yb (Zp (wp_region_lit (Zd hE rfl fun a hE=>Zi hE rfl rfl rfl fun a hE=>Zc hE rfl fun a hE=>Zg (Zk ?_))))
        exact ⟨_,(ois hF39),hE.sub ⟨rfl,rfl,rfl,rfl,rfl,rfl,rfl,rfl,rfl,rfl,trivial⟩,hM⟩
      ·intro hb34
       have hs31:=Zs hs31 hb34
       refine wp_exit (Zn (Zn (Ye ?_)))
       obtain rfl:=hx32 _ (ois hs31)
       refine Zk ?_
       exact ⟨hE.sub ⟨rfl,rfl,rfl,rfl,rfl,rfl,rfl,trivial⟩,hM⟩
     ·skip
      rintro a w ⟨hE,hM⟩
      refine Yb (Zp (wp_region_lit (Zi hE rfl rfl rfl fun a hE=>Zd hE rfl fun a hE=>Zg (Zk ?_))))
      exact ⟨_,(ois hF29),hE.sub ⟨rfl,rfl,rfl,rfl,rfl,rfl,rfl,trivial⟩,hM⟩
    ·intro hb23
     have hs20:=Zs hs20 hb23
     refine wp_exit (Zn (Zn (Ye ?_)))
     obtain rfl:=hx21 _ (ois hs20)
     refine Zk ?_
     exact ⟨hE.sub ⟨rfl,rfl,rfl,rfl,trivial⟩,hM⟩
   ·skip
    rintro a w ⟨hE,hM⟩
    refine Yb (Zp (wp_region_lit (Zi hE rfl rfl rfl fun a hE=>Zd hE rfl fun a hE=>Zg (Zk ?_))))
    exact ⟨_,(ois hF18),hE.sub ⟨rfl,rfl,rfl,rfl,trivial⟩,hM⟩
  ·intro hb12
   have hs9:=Zs hs9 hb12
   refine wp_exit (Zn (Zn (Ye ?_)))
   obtain rfl:=hx10 _ (ois hs9)
   refine Zk ?_
   have hM:=M.fst (l:=[_]) hM
   exact ⟨hE.sub ⟨rfl,trivial⟩,hM⟩
 ·skip
  rintro a w ⟨hE,hM⟩
  refine Zp (Zb (Zd hE rfl fun a hE=>Zc hE rfl fun a hE=>Ze ?_))
  have hM:=M.toRefF (x:=j5) hM
  obtain rfl:=Option.some.inj hF7
  exact wp_ret (ZP hE rfl (ZU hE rfl) ⟨_,rfl,(ptr b3 0),rfl,hM.outF (BZ Xi),hM.kept⟩)
def Vn (p0 : GCipher) : Option ((Ref Gengine)) :=
 (Xv p0.Field p0.Mix).bind fun r3=>(WT p0.Box).bind fun r8=>(XF p0.Places).bind fun r10=>(W0 p0.Field p0.Mix).bind fun r12=>(W0 p0.Field r3.2).bind fun r15=>some (⟨(⟨p0.Box,r8,p0.Places,r10,r12,r15,p0.Rounds⟩ : Gengine)⟩ : (Ref Gengine))
theorem Js (w0 : World) (p0 : GCipher) (r : (Ref Gengine)) (hF : Vn p0 = some r) :
  Calls Tryz.prog 179 [(Value.agg (enc p0).toArray)].toArray w0 (fun en w'=>∃ v,en = .returned v ∧ (∃ (y1 : Value),v = y1 ∧ Fr w0 w' [own NoB (r : (Ref Gengine)) [y1]] ∧ Kept (Old w0) w0 w')):=by
 refine ce Tryz.func179 ?_
 intro a hE
 have hM:=M.start w0
 unfold Vn at hF
 refine Zb (Ya (cs:=cat [[vI p0.Field],enc p0.Box,enc p0.Mix,enc p0.Places,[vI p0.Rounds]]) hE hM Za ld rfl rfl fun b1 w a hM hE=>Zc hE rfl fun a hE=>Ze (Zb (Zy hE rfl (Hv) fun a hE=>ZB (v:=(vI p0.Field)) hE rfl ty2 rfl (At.cat (pre:=[]) hM.rawAt0 cl0) fun a hE=>Zy hE rfl (Jg) fun a hE=>Zr hE rfl Ua rfl (At.cat (pre:=[[vI p0.Field],enc p0.Box]) hM.rawAt0 ck) (Flat.len _) ?_))); intro a hE
 obtain ⟨r3,e4,hF⟩:=bind_some hF
 refine Zx hE rfl (cbm Tryz.func211) (Kj _ p0.Field p0.Mix r3 e4) ?_
 rintro v w a ⟨rfl,hK⟩ hE
 have hM:=hM.keep hK
 refine Zd hE rfl fun a hE=>XN hE Za ld rfl rfl fun a hE=>XN hE Za ld rfl rfl fun a hE=>Zz hE hM Ua fun b5 w a hM hE=>Zc hE rfl fun a hE=>Zm (seg:=enc r3.2) (cs':=enc r3.2) hE hM Za rfl rfl rfl Ua (Flat.len _) (zle flq) (Flat.cell _) (Zh flq) fun w a hM hE=>Ze (wp_seq ?_)
 obtain ⟨r8,e9,hF⟩:=bind_some hF
 obtain ⟨r10,e11,hF⟩:=bind_some hF
 obtain ⟨r12,e13,hF⟩:=bind_some hF
 obtain ⟨r15,e16,hF⟩:=bind_some hF
 refine Yz (its:=[raw b5 (enc r3.2),raw b1 (cat [[vI p0.Field],enc p0.Box,enc p0.Mix,enc p0.Places,[vI p0.Rounds]])]) (mk:=([mkO 14 (fun v=>own NoB (r12 : (Ref (Vector (Vector (Vector UInt8 256) 4) 4))) [v]),mkO 18 (fun v=>own NoB (r15 : (Ref (Vector (Vector (Vector UInt8 256) 4) 4))) [v])] : Mk)) [13,14,15,16,17,18,19,20,21,22,23,24,25,26,27,28,29,30,31,32,33] Yu rfl rfl (by decide) rfl hE (fun u=>M.qE (M.qE (M.q0 hM.drew u) emO) emO) (qsP (fun z=>Zq z.E Za ld rfl (Kb) (kr0 rfl)) (qsP (v:=(Value.agg (enc p0.Box).toArray)) ?_ (qsP (fun z=>Zq z.E Za ld rfl (Kb) (kr0 rfl)) (qsP (v:=(Value.agg (enc p0.Box).toArray)) ?_ (qsP (fun z=>Yk z.E Za ld rfl (cbm Tryz.func212) (Kr _ p0.Box r8 e9) (kc rfl)) (qsP (fun z=>Zq z.E Za ld rfl (KZ) (kr0 rfl)) (qsP (v:=(Value.agg (enc p0.Places).toArray)) ?_ (qsP (fun z=>Zq z.E Za ld rfl (KZ) (kr0 rfl)) (qsP (v:=(Value.agg (enc p0.Places).toArray)) ?_ (qsP (fun z=>Yk z.E Za ld rfl (cbm Tryz.func213) (QQ _ p0.Places r10 e11) (kc rfl)) (qsP (fun z=>Zq z.E Za ld rfl (Hv) (kr0 rfl)) (qsP (v:=(vI p0.Field)) ?_ (qsP (fun z=>Zq z.E Za ld rfl (Jg) (kr0 rfl)) (qsP (v:=(Value.agg (enc p0.Mix).toArray)) ?_ (qsM (pr:=fun v=>True) ?_ (qsP (fun z=>Zq z.E Za ld rfl (Hv) (kr0 rfl)) (qsP (v:=(vI p0.Field)) ?_ (qsP (v:=(Value.agg (enc r3.2).toArray)) ?_ (qsM (pr:=fun v=>True) ?_ (qsP (fun z=>Zq z.E Za ld rfl (As) (kr0 rfl)) (qsP (v:=(vI p0.Rounds)) ?_ qs0))))))))))))))))))))) ?_
 ·intro a w ux7 D z
  have hE:=z.E
  have hM:=z.M
  exact Zr hE rfl XI rfl (At.cat (pre:=[[vI p0.Field]]) hM.rawAt1 ck) (Flat.len _) fun a hE=>⟨Kept.refl _ _,_,rfl,hE⟩
 ·intro a w ux7 D z
  have hE:=z.E
  have hM:=z.M
  exact Zr hE rfl XI rfl (At.cat (pre:=[[vI p0.Field]]) hM.rawAt1 ck) (Flat.len _) fun a hE=>⟨Kept.refl _ _,_,rfl,hE⟩
 ·intro a w ux7 D z
  have hE:=z.E
  have hM:=z.M
  exact Zr hE rfl TN rfl (At.cat (pre:=[[vI p0.Field],enc p0.Box,enc p0.Mix]) hM.rawAt1 ck) (Flat.len _) fun a hE=>⟨Kept.refl _ _,_,rfl,hE⟩
 ·intro a w ux7 D z
  have hE:=z.E
  have hM:=z.M
  exact Zr hE rfl TN rfl (At.cat (pre:=[[vI p0.Field],enc p0.Box,enc p0.Mix]) hM.rawAt1 ck) (Flat.len _) fun a hE=>⟨Kept.refl _ _,_,rfl,hE⟩
 ·intro a w ux7 D z
  have hE:=z.E
  have hM:=z.M
  exact ZB (v:=(vI p0.Field)) hE rfl ty2 rfl (At.cat (pre:=[]) hM.rawAt1 cl0) fun a hE=>⟨Kept.refl _ _,_,rfl,hE⟩
 ·intro a w ux7 D z
  have hE:=z.E
  have hM:=z.M
  exact Zr hE rfl Ua rfl (At.cat (pre:=[[vI p0.Field],enc p0.Box]) hM.rawAt1 ck) (Flat.len _) fun a hE=>⟨Kept.refl _ _,_,rfl,hE⟩
 ·intro a w ux7 D z
  have hE:=z.E
  have hD : D 14 = false:=z.F
  have hM0:=z.M
  have hM:=z.M
  refine Zx hE rfl (cbm Tryz.func214) (QN _ p0.Field p0.Mix r12 e13) ?_
  rintro _ w a ⟨_,rfl,hFr,hK⟩ hE
  have hM:=hM0.add hK hFr
  exact ⟨_,_,rfl,hE,M.qFill (mk1:=[]) (mk2:=[_]) (f:=(fun v=>own NoB (r12 : (Ref (Vector (Vector (Vector UInt8 256) 4) 4))) [v])) hM rfl hD,trivial⟩
 ·intro a w ux7 D z
  have hE:=z.E
  have hM:=z.M
  exact ZB (v:=(vI p0.Field)) hE rfl ty2 rfl (At.cat (pre:=[]) hM.rawAt1 cl0) fun a hE=>⟨Kept.refl _ _,_,rfl,hE⟩
 ·intro a w ux7 D z
  have hE:=z.E
  have hM:=z.M
  exact Zr hE rfl Ua rfl hM.rawAt0 (Flat.len _) fun a hE=>⟨Kept.refl _ _,_,rfl,hE⟩
 ·intro a w ux7 D z
  have hE:=z.E
  have hD : D 18 = false:=z.F
  have hM0:=z.M
  have hM:=z.M
  refine Zx hE rfl (cbm Tryz.func214) (QN _ p0.Field r3.2 r15 e16) ?_
  rintro _ w a ⟨_,rfl,hFr,hK⟩ hE
  have hM:=hM0.add hK hFr
  exact ⟨_,_,rfl,hE,M.qFill (mk1:=[_]) (mk2:=[]) (f:=(fun v=>own NoB (r15 : (Ref (Vector (Vector (Vector UInt8 256) 4) 4))) [v])) hM rfl hD,trivial⟩
 ·intro a w ux7 D z
  have hE:=z.E
  have hM:=z.M
  exact ZB (v:=(vI p0.Rounds)) hE rfl ty2 rfl (At.cat (pre:=[[vI p0.Field],enc p0.Box,enc p0.Mix,enc p0.Places]) hM.rawAt1 ck) fun a hE=>⟨Kept.refl _ _,_,rfl,hE⟩
 ·intro a w ux7 D hE hM hG hall
  have d14:=hall 14 (by decide)
  have d18:=hall 18 (by decide)
  have hM:=(hM.sure (pre:=[_,_]) d14).sure (pre:=[_,_,_]) d18
  refine XM (parts:=[(0,.tmp 14),(1,.tmp 17),(2,.tmp 19),(3,.tmp 22),(4,.tmp 27),(5,.tmp 31),(6,.tmp 33)]) (vs:=[(0,(Value.agg (enc p0.Box).toArray)),(1,(Value.agg (enc r8).toArray)),(2,(Value.agg (enc p0.Places).toArray)),(3,(Value.agg (enc r10).toArray)),(4,(ux7 14)),(5,(ux7 18)),(6,vI p0.Rounds)]) (cs:=cat [enc p0.Box,enc r8,enc p0.Places,enc r10,[(ux7 14)],[(ux7 18)],[vI p0.Rounds]]) hE Za ld rfl rfl J3 pl244 (Xx (pre:=[]) (seg:=enc (Vector.replicate 256 (0 : UInt8))) (seg':=enc p0.Box) (post:=[enc (Vector.replicate 256 (0 : UInt8)),enc (Vector.replicate 16 (0 : UInt8)),enc (Vector.replicate 16 (0 : UInt8)),[(Value.pointer none)],[(Value.pointer none)],[vI 0]]) rfl cl0 (Flat.len _) (Flat.len _) rfl (Xx (pre:=[enc p0.Box]) (seg:=enc (Vector.replicate 256 (0 : UInt8))) (seg':=enc r8) (post:=[enc (Vector.replicate 16 (0 : UInt8)),enc (Vector.replicate 16 (0 : UInt8)),[(Value.pointer none)],[(Value.pointer none)],[vI 0]]) rfl ck (Flat.len _) (Flat.len _) rfl (Xx (pre:=[enc p0.Box,enc r8]) (seg:=enc (Vector.replicate 16 (0 : UInt8))) (seg':=enc p0.Places) (post:=[enc (Vector.replicate 16 (0 : UInt8)),[(Value.pointer none)],[(Value.pointer none)],[vI 0]]) rfl ck (Flat.len _) (Flat.len _) rfl (Xx (pre:=[enc p0.Box,enc r8,enc p0.Places]) (seg:=enc (Vector.replicate 16 (0 : UInt8))) (seg':=enc r10) (post:=[[(Value.pointer none)],[(Value.pointer none)],[vI 0]]) rfl ck (Flat.len _) (Flat.len _) rfl (Xx (pre:=[enc p0.Box,enc r8,enc p0.Places,enc r10]) (seg:=[(Value.pointer none)]) (seg':=[(ux7 14)]) (post:=[[(Value.pointer none)],[vI 0]]) rfl ck rfl rfl (JL (hM.ro (pre:=[_,_]) noB)) (Xx (pre:=[enc p0.Box,enc r8,enc p0.Places,enc r10,[(ux7 14)]]) (seg:=[(Value.pointer none)]) (seg':=[(ux7 18)]) (post:=[[vI 0]]) rfl ck rfl rfl (JL (hM.ro (pre:=[_,_,_]) noB)) (Xx (pre:=[enc p0.Box,enc r8,enc p0.Places,enc r10,[(ux7 14)],[(ux7 18)]]) (seg:=[vI 0]) (seg':=[vI p0.Rounds]) (post:=[]) rfl ck rfl rfl rfl Vv))))))) fun a hE=>Ya (cs:=cat [enc p0.Box,enc r8,enc p0.Places,enc r10,[(ux7 14)],[(ux7 18)],[vI p0.Rounds]]) hE hM Za ld rfl rfl fun b18 w a hM hE=>Zc hE rfl fun a hE=>Zg (Zp ?_)
  have hM:=hM.pull4.pull4
  have hM:=(((hM.pack2 (it:=own NoB (⟨p0.Box,r8,p0.Places,r10,r12,r15,p0.Rounds⟩ : Gengine) (cat [enc p0.Box,enc r8,enc p0.Places,enc r10,[(ux7 14)],[(ux7 18)],[vI p0.Rounds]])) (V5 noB) (fun f0 f1 q0 q1=>(yw q0 q1 (by simp)))).pull1).pull1).pull1
  have hM:=M.toRef hM noB
  obtain rfl:=Option.some.inj hF
  have hM:=M.fst (l:=[_]) hM
  exact wp_ret (ZP hE rfl (ZU hE rfl) ⟨_,rfl,(ptr b18 0),rfl,hM.outF (BZ Xi),hM.kept⟩)
def Tj (p0 : Int) : Option ((Ref Gengine)) :=
 (WM p0).bind fun r1=>(Vn r1).bind fun r3=>some r3
theorem AU (w0 : World) (p0 : Int) (r : (Ref Gengine)) (hF : Tj p0 = some r) :
  Calls Tryz.prog 127 [vI p0].toArray w0 (fun en w'=>∃ v,en = .returned v ∧ (∃ (y1 : Value),v = y1 ∧ Fr w0 w' [own NoB (r : (Ref Gengine)) [y1]] ∧ Kept (Old w0) w0 w')):=by
 refine ce Tryz.func127 ?_
 intro a hE
 have hM:=M.start w0
 unfold Tj at hF
 refine Zb (Zc hE rfl fun a hE=>Ze (Zb (Zd hE rfl ?_))); intro a hE
 obtain ⟨r1,e2,hF⟩:=bind_some hF
 refine Zx hE rfl (cbm Tryz.func180) (KJ _ p0 r1 e2) ?_
 rintro v w a ⟨rfl,hK⟩ hE
 have hM:=hM.keep hK
 obtain ⟨r3,e4,hF⟩:=bind_some hF
 refine Zx hE rfl (cbm Tryz.func179) (Js _ r1 r3 e4) ?_
 rintro u5 w a ⟨_,rfl,hFr,hK⟩ hE
 have hM:=hM.add hK hFr
 refine Zc hE rfl fun a hE=>Ze ?_
 obtain rfl:=Option.some.inj hF
 exact wp_ret (ZP hE rfl (ZU hE rfl) ⟨_,rfl,u5,rfl,hM.outF (BZ Xi),hM.kept⟩)
def Vm : Option (Ghasher) :=
 (Tj 8).bind fun r3=>some (⟨r3⟩ : Ghasher)
theorem JM (w0 : World)  (r : Ghasher) (hF : Vm  = some r) :
  Calls Tryz.prog 66 [].toArray w0 (fun en w'=>∃ v,en = .returned v ∧ (∃ (y1 : Value),v = (Value.agg (cat [[y1]]).toArray) ∧ Fr w0 w' [own NoB (r.engine : (Ref Gengine)) [y1]] ∧ Kept (Old w0) w0 w')):=by
 refine ce Tryz.func66 ?_
 intro a hE
 have hM:=M.start w0
 unfold Vm at hF
 refine Zb (Zz hE hM J1 fun b1 w a hM hE=>Ze (Zb ?_))
 obtain ⟨r3,e4,hF⟩:=bind_some hF
 refine Zx hE rfl (cbm Tryz.func127) (AU _ 8 r3 e4) ?_
 rintro u5 w a ⟨_,rfl,hFr,hK⟩ hE
 have hM:=hM.add hK hFr
 refine XM (parts:=[(0,.tmp 1)]) (vs:=[(0,u5)]) (cs:=cat [[u5]]) hE Za ld rfl rfl J1 pl102 (Xx (pre:=[]) (seg:=[(Value.pointer none)]) (seg':=[u5]) (post:=[]) rfl cl0 rfl rfl (JL (hM.ro (pre:=[]) noB)) Vv) ?_; intro a hE
 have hM:=hM.pull1
 refine Zm (seg:=cat [[u5]]) (cs':=cat [[u5]]) hE hM Za rfl rfl rfl J1 cq (Nat.le_of_eq ((Nat.zero_add _).trans (Eq.trans cq (Eq.symm cq)))) (Yq (cc1 (Rep.cell (hM.ro (pre:=[_]) noB)) cc0)) (Zh (Eq.trans cq (Eq.symm cq))) fun w a hM hE=>Ze ?_
 obtain rfl:=Option.some.inj hF
 have hq6 : Z6 Tryz.prog _ _ (.cell 0 102) _:=ZK hE rfl J1 rfl hM.rawAt0 cq rfl
 have hM:=M.fst (l:=[_]) hM.pull1
 exact wp_ret (ZP hE rfl hq6 ⟨_,rfl,u5,rfl,hM.outF (BZ Xi),hM.kept⟩)
def UX (p0 : (List UInt8)) (p1 : (List UInt8)) : Option (Int) :=
 some (UK p0 p1)
theorem J5 (w0 : World) (p0 : (List UInt8)) (v0_1 : Value) (hv0_1 : Ro w0 p0 [v0_1]) (p1 : (List UInt8)) (v1_1 : Value) (hv1_1 : Ro w0 p1 [v1_1]) (r : Int) (hF : UX p0 p1 = some r) :
  Calls Tryz.prog 135 [v0_1,v1_1].toArray w0 (Rt w0 (vI r)):=by
 refine ce Tryz.func135 ?_
 intro a hE
 have hM:=M.start w0
 unfold UX at hF
 refine Zb (Zc hE rfl fun a hE=>Ze (Zb (Zd hE rfl fun a hE=>Zd hE rfl fun a hE=>Bn (xs:=[.tmp 5,.tmp 6]) hE Za ld rfl Tryz.func184 rfl (by decide) (by kernel_rfl) (by kernel_rfl) (hM.rd hv0_1) (hM.rd hv1_1) fun a hE=>Zc hE rfl fun a hE=>Ze ?_)))
 obtain rfl:=Option.some.inj hF
 exact wp_ret (kr1 hE rfl rfl hM.kept)
def ZV (p0 : (Vector UInt8 32)) (p1 : (Vector UInt8 32)) : Option (Int) :=
 ((slc p0.toList (0 : Int) (32 : Int)).bind fun l9=>(slc p1.toList (0 : Int) (32 : Int)).bind fun l12=>(UX l9 l12).bind fun r15=>some r15 : Option (Int)).bind fun j5=>some j5
theorem Tp (w0 : World) (p0 : (Vector UInt8 32)) (p1 : (Vector UInt8 32)) (r : Int) (hF : ZV p0 p1 = some r) :
  Calls Tryz.prog 71 [(Value.agg (enc p0).toArray),(Value.agg (enc p1).toArray)].toArray w0 (Rt w0 (vI r)):=by
 refine ce Tryz.func71 ?_
 intro a hE
 have hM:=M.start w0
 unfold ZV at hF
 refine Zb (Ya (cs:=enc p0) hE hM Za ld rfl rfl fun b1 w a hM hE=>Ya (cs:=enc p1) hE hM Za ld rfl rfl fun b3 w a hM hE=>Zc hE rfl fun a hE=>Ze ?_)
 obtain ⟨j5,hl6,hF7⟩:=bind_some hF
 refine ZN (fun a w=>Env 8 a [(4,vI j5)] ∧ M (Old w0) w0 w []) ?_ ?_
 ·skip
  obtain ⟨l9,e10,hl6⟩:=bind_some hl6
  have hb11:=QA e10 -- ^
  obtain ⟨l12,e13,hl6⟩:=bind_some hl6
  have hb14:=QA e13 -- ^
  obtain ⟨r15,e16,hl6⟩:=bind_some hl6
  refine ZX [5,6,7,4] Yu rfl rfl (by decide) rfl hE hM (qsP (fun z=>U0 (N:=32) z.E Za ld rfl rfl rfl rfl rfl Tryz.underlying35 ty5 hb11 (kr0 rfl)) (qsP (fun z=>U0 (N:=32) z.E Za ld rfl rfl rfl rfl rfl Tryz.underlying35 ty5 hb14 (kr0 rfl)) (qsP (fun z=>Yk z.E Za ld rfl (cbm Tryz.func135) (J5 _ l9 (Y0 (.slice (some ⟨b1,0,none⟩) 32 32) ((0 : Int)).toNat ((32 : Int)).toNat 1) (Xa (At.sat (z.M.rawAt1) (by simp) (by decide)) e10) l12 (Y0 (.slice (some ⟨b3,0,none⟩) 32 32) ((0 : Int)).toNat ((32 : Int)).toNat 1) (Xa (At.sat (z.M.rawAt0) (by simp) (by decide)) e13) r15 e16) (kc rfl)) (qsP (fun z=>Qo z.E Za ld rfl (kr0 rfl)) qs0)))) ?_
  ·intro a w u hE hM
   refine Zg ?_
   obtain rfl:=Option.some.inj hl6
   refine Zk ?_
   have hM:=M.fst (l:=[]) hM
   exact ⟨hE.sub ⟨rfl,trivial⟩,hM⟩
 ·skip
  rintro a w ⟨hE,hM⟩
  obtain rfl:=Option.some.inj hF7
  exact wp_ret (kr1 hE rfl rfl hM.kept)
def TI (p0 : (List (Vector UInt8 32))) (s5 : Int) : Option (Fl Int (Fl Unit Bool)) :=
 if (decide (s5 < (p0.length : Int))) = true then (((idx p0 (wr (s5 - 1))).bind fun x14=>(idx p0 s5).bind fun x17=>(ZV x14 x17).bind fun r20=>some (decide (r20 ≥ 0)) : Option (Bool)).bind fun j10=>if j10 = true then (some (Fl.ex (Fl.ex false))) else (some (Fl.nx (wr (s5 + 1))))) else (some (Fl.ex (Fl.nx ())))
def Uj (p0 : (List (Vector UInt8 32))) : Option (Bool) :=
 (ZA (TI p0) 1).bind fun j1=>j1.el (fun s4=>some true) (fun r=>some r)
theorem Ba (w0 : World) (p0 : (List (Vector UInt8 32))) (v0_1 : Value) (hv0_1 : Ro w0 p0 [v0_1]) (r : Bool) (hF : Uj p0 = some r) :
  Calls Tryz.prog 128 [v0_1].toArray w0 (Rt w0 (vT r)):=by
 refine ce Tryz.func128 ?_
 intro a hE
 have hM:=M.start w0
 unfold Uj at hF
 refine Zb (Zc hE rfl fun a hE=>Ze (wp_seq (Zb (Zc hE rfl fun a hE=>Ze ?_))))
 obtain ⟨j1,hl2,hF3⟩:=bind_some hF
 refine ZO (fun a w=>∃ s4 : Unit,j1 = Fl.nx s4 ∧ Env 21 a [] ∧ M (Old w0) w0 w []) ?_ ?_
 ·skip
  refine wp_block ?_
  refine ZE (fun (s5 : Int) a w=>Env 21 a [(0,v0_1),(3,vI s5)] ∧ M (Old w0) w0 w []) hl2 ⟨hE.sub ⟨rfl,rfl,trivial⟩,hM⟩ ?_
  rintro s5 a w ⟨hE,hM⟩ o8 hs6 hx7
  unfold TI at hs6
  refine wp_seq (Zb (Zd hE rfl fun a hE=>Zd hE rfl fun a hE=>Z5 hE rfl Tryz.underlying29 (hM.rd hv0_1) fun a hE=>Zi hE rfl rfl rfl fun a hE=>Ze ?_))
  refine Zo hE rfl ?_ ?_
  ·intro hb9
   have hs6:=Zt hs6 hb9
   refine wp_skip (Zp (wp_seq (wp_block ?_)))
   obtain ⟨j10,hl11,hF12⟩:=bind_some hs6
   refine ZN (fun a w=>Env 21 a [(0,v0_1),(3,vI s5),(20,vT j10)] ∧ M (Old w0) w0 w []) ?_ ?_
   ·skip
    obtain ⟨x14,hi16,hl11⟩:=bix hl11
    obtain ⟨x17,hi19,hl11⟩:=bix hl11
    obtain ⟨r20,e21,hl11⟩:=bind_some hl11
    refine ZX [10,11,12,13,14,15,16,17,18,19,20] Yu rfl rfl (by decide) rfl hE hM (qsP (fun z=>Zj z.E Za ld rfl (kr0 rfl)) (qsP (fun z=>Zj z.E Za ld rfl (kr0 rfl)) (qsP (v:=(vI (wr (s5 - 1)))) (fun z=>Z9 z.E Za ld rfl rfl rfl (kr0 rfl)) (qsP (fun z=>ZZ z.E Za ld rfl rfl Tryz.underlying29 ZL (z.M.rd hv0_1) hi16.1 (kr0 rfl)) (qsP (fun z=>ZW z.E Za ld rfl ZL rfl (Yt (z.M.rd hv0_1) hi16.2) (Flat.len _) (kr0 rfl)) (qsP (fun z=>Zj z.E Za ld rfl (kr0 rfl)) (qsP (fun z=>Zj z.E Za ld rfl (kr0 rfl)) (qsP (fun z=>ZZ z.E Za ld rfl rfl Tryz.underlying29 ZL (z.M.rd hv0_1) hi19.1 (kr0 rfl)) (qsP (fun z=>ZW z.E Za ld rfl ZL rfl (Yt (z.M.rd hv0_1) hi19.2) (Flat.len _) (kr0 rfl)) (qsP (fun z=>Yk z.E Za ld rfl (cbm Tryz.func71) (Tp _ x14 x17 r20 e21) (kc rfl)) (qsP (fun z=>Z9 z.E Za ld rfl rfl rfl (kr0 rfl)) qs0))))))))))) ?_
    ·intro a w u hE hM
     refine Zg ?_
     obtain rfl:=Option.some.inj hl11
     refine Zk ?_
     exact ⟨hE.sub ⟨rfl,rfl,rfl,trivial⟩,hM⟩
   ·skip
    rintro a w ⟨hE,hM⟩
    refine Zo hE rfl ?_ ?_
    ·intro hb23
     have hF12:=Zt hF12 hb23
     refine Zb (Zc hE rfl fun a hE=>Ze ?_)
     obtain rfl:=hx7 _ (ois hF12)
     obtain rfl:=Option.some.inj hF3
     exact wp_ret (Xk (Zv (Zv (Xk (Zv (Zv (kr1 hE rfl rfl hM.kept)))))))
    ·intro hb23
     have hF12:=Zs hF12 hb23
     refine wp_skip (Yb (Zp (wp_region_lit (Zd hE rfl fun a hE=>Zi hE rfl rfl rfl fun a hE=>Zc hE rfl fun a hE=>Zg (Zk ?_)))))
     exact ⟨_,(ois hF12),hE.sub ⟨rfl,rfl,trivial⟩,hM⟩
  ·intro hb9
   have hs6:=Zs hs6 hb9
   refine wp_exit (Zn (Zn (Ye ?_)))
   obtain rfl:=hx7 _ (ois hs6)
   refine Zk ?_
   exact ⟨(),rfl,hE.sub trivial,hM⟩
 ·skip
  rintro a w ⟨s4,ht,hE,hM⟩
  subst ht
  have hF3:=Ta hF3
  refine Zp (Zb (Zc hE rfl fun a hE=>Ze ?_))
  obtain rfl:=Option.some.inj hF3
  exact wp_ret (kr1 hE rfl rfl hM.kept)
def VW (p0 : (List UInt8)) : Option (Bool) :=
 some (decide ((p0.length : Int) ≤ 2000))
theorem Tw (w0 : World) (p0 : (List UInt8)) (v0_1 : Value) (hv0_1 : Ro w0 p0 [v0_1]) (r : Bool) (hF : VW p0 = some r) :
  Calls Tryz.prog 68 [v0_1].toArray w0 (Rt w0 (vT r)):=by
 refine ce Tryz.func68 ?_
 intro a hE
 have hM:=M.start w0
 unfold VW at hF
 refine Zb (Zc hE rfl fun a hE=>Ze (Zb (Zd hE rfl fun a hE=>Z5 hE rfl Tryz.underlying40 (hM.rd hv0_1) fun a hE=>Zi hE rfl rfl rfl fun a hE=>Zc hE rfl fun a hE=>Ze ?_)))
 obtain rfl:=Option.some.inj hF
 exact wp_ret (kr1 hE rfl rfl hM.kept)
def Uf (p0 : Int) (p1 : Int) (p2 : Int) : Option (Bool) :=
 (if (decide (p1 ≤ p0)) = true then (some (decide (p0 ≤ p2))) else (some false) : Option (Bool)).bind fun j1=>some j1
theorem QX (w0 : World) (p0 : Int) (p1 : Int) (p2 : Int) (r : Bool) (hF : Uf p0 p1 p2 = some r) :
  Calls Tryz.prog 129 [vI p0,vI p1,vI p2].toArray w0 (Rt w0 (vT r)):=by
 refine ce Tryz.func129 ?_
 intro a hE
 have hM:=M.start w0
 unfold Uf at hF
 refine Zb (Zc hE rfl fun a hE=>Ze ?_)
 obtain ⟨j1,hl2,hF3⟩:=bind_some hF
 refine ZN (fun a w=>Env 15 a [(6,vT j1)] ∧ M (Old w0) w0 w []) ?_ ?_
 ·skip
  refine wp_region_lit (Zd hE rfl fun a hE=>Zd hE rfl fun a hE=>Zi hE rfl rfl rfl fun a hE=>Zd hE rfl ?_); intro a hE
  refine Wc (decide (p1 ≤ p0)) (fun hb4=>?_) (fun hb4=>?_)
  ·have hl2:=Zt hl2 hb4
   refine Zj hE (Zf hE rfl (lkb rfl hb4)) (by decide) rfl fun a hE=>Zj hE (Zf hE rfl (lkb rfl hb4)) (by decide) rfl fun a hE=>Z9 hE (Zf hE rfl (lkb rfl hb4)) (by decide) rfl rfl rfl fun a hE=>Yx hE (lkb rfl hb4) rfl fun a hE=>Zc hE rfl fun a hE=>Zg ?_
   obtain rfl:=Option.some.inj hl2
   refine Zk ?_
   exact ⟨hE.sub ⟨rfl,trivial⟩,hM⟩
  ·have hl2:=Zs hl2 hb4
   refine Zl hE rfl (lkb rfl hb4) rfl (by decide) fun a hE=>Zl hE rfl (lkb rfl hb4) rfl (by decide) fun a hE=>Zl hE rfl (lkb rfl hb4) rfl (by decide) fun a hE=>X9 hE (lkb rfl hb4) rfl fun a hE=>Zc hE rfl fun a hE=>Zg ?_
   obtain rfl:=Option.some.inj hl2
   refine Zk ?_
   exact ⟨hE.sub ⟨rfl,trivial⟩,hM⟩
 ·skip
  rintro a w ⟨hE,hM⟩
  obtain rfl:=Option.some.inj hF3
  exact wp_ret (kr1 hE rfl rfl hM.kept)
def YY (s8 : (Vector UInt8 32) × Int) : Option (Fl ((Vector UInt8 32) × Int) (Vector UInt8 32)) :=
 if (decide (s8.2 < 32)) = true then ((ZI s8.1 s8.2).bind fun x14=>some (Fl.nx ((s8.1.setIfInBounds (s8.2).toNat (ZG (wr (17 * s8.2)))),wr (s8.2 + 1)))) else (some (Fl.ex s8.1))
def XR : Option ((Vector UInt8 32)) :=
 (ZA (YY) ((Vector.replicate 32 (0 : UInt8)),0)).bind fun j5=>some j5
theorem QU (w0 : World)  (r : (Vector UInt8 32)) (hF : XR  = some r) :
  Calls Tryz.prog 130 [].toArray w0 (Rt w0 (Value.agg (enc r).toArray)):=by
 refine ce Tryz.func130 ?_
 intro a hE
 have hM:=M.start w0
 unfold XR at hF
 refine Zb (Zz hE hM ZL fun b1 w a hM hE=>Ze (Zb (YB (parts:=[]) (vs:=[]) (cs:=enc (Vector.replicate 32 (0 : UInt8))) hE Za ld rfl rfl ZL rfl ty5 Yp fun a hE=>Zz hE hM ZL fun b3 w a hM hE=>Zm (seg:=enc (Vector.replicate 32 (0 : UInt8))) (cs':=enc (Vector.replicate 32 (0 : UInt8))) hE hM Za rfl rfl rfl ZL (Flat.len _) (zle flq) (Flat.cell _) (Zh flq) fun w a hM hE=>Ze (wp_seq (Zb (Zd hE rfl fun a hE=>Ze ?_))))))
 obtain ⟨j5,hl6,hF7⟩:=bind_some hF
 refine ZO (fun a w=>Env 14 a [(0,(ptr b1 0)),(1,(ptr b3 0))] ∧ M (Old w0) w0 w [raw b3 (enc j5),raw b1 (enc (Vector.replicate 32 (0 : UInt8)))]) ?_ ?_
 ·skip
  refine wp_block ?_
  refine ZE (fun (s8 : (Vector UInt8 32) × Int) a w=>Env 14 a [(0,(ptr b1 0)),(1,(ptr b3 0)),(4,vI s8.2)] ∧ M (Old w0) w0 w [raw b3 (enc s8.1),raw b1 (enc (Vector.replicate 32 (0 : UInt8)))]) hl6 ⟨hE.sub ⟨rfl,rfl,rfl,trivial⟩,hM⟩ ?_
  rintro s8 a w ⟨hE,hM⟩ o11 hs9 hx10
  unfold YY at hs9
  refine Zb (Zi hE rfl rfl rfl fun a hE=>Ze (wp_seq ?_))
  refine Zo hE rfl ?_ ?_
  ·intro hb12
   have hs9:=Zt hs9 hb12
   refine wp_skip (Zp (wp_seq (wp_block (Zb (Zd hE rfl fun a hE=>Zc hE rfl fun a hE=>Ze (wp_region_lit (Zd hE rfl fun a hE=>Zd hE rfl fun a hE=>Zi hE rfl rfl rfl fun a hE=>Xo hE Za ld rfl Tryz.underlying3 Tryz.underlying5 ?_))))))); intro a hE
   obtain ⟨x14,hi13,hs9⟩:=bvx hs9
   refine ZF hE rfl rfl Tryz.underlying35 ty5 hi13.1 fun a hE=>Zm (seg:=[(vB (ZG (wr (17 * s8.2))))]) (cs':=enc (s8.1.setIfInBounds (s8.2).toNat (ZG (wr (17 * s8.2))))) hE hM Za rfl rfl rfl ty5 rfl (ZS (v:=s8.1) (x:=ZG (wr (17 * s8.2))) hi13.1) (Flat.cell (ZG (wr (17 * s8.2)) : UInt8)) (ZD (v:=s8.1) (x:=ZG (wr (17 * s8.2))) hi13.1) fun w a hM hE=>Zg (Yb (Zp (wp_region_lit (Zi hE rfl rfl rfl fun a hE=>Zd hE rfl fun a hE=>Zg (Zk ?_)))))
   exact ⟨_,(ois hs9),hE.sub ⟨rfl,rfl,rfl,trivial⟩,hM⟩
  ·intro hb12
   have hs9:=Zs hs9 hb12
   refine wp_exit (Zn (Zn (Ye ?_)))
   obtain rfl:=hx10 _ (ois hs9)
   refine Zk ?_
   exact ⟨hE.sub ⟨rfl,rfl,trivial⟩,hM⟩
 ·skip
  rintro a w ⟨hE,hM⟩
  refine Zp (Zb (Zr hE rfl ZL rfl hM.rawAt0 (Flat.len _) ?_)); intro a hE
  have hM:=hM.pull1
  refine Zm (seg:=enc j5) (cs':=enc j5) hE hM Za rfl rfl rfl ZL (Flat.len _) (zle flq) (Flat.cell _) (Zh flq) fun w a hM hE=>Ze ?_
  obtain rfl:=Option.some.inj hF7
  have hq17 : Z6 Tryz.prog _ _ (.cell 0 35) _:=ZK hE rfl ZL rfl hM.rawAt0 (Flat.len _) rfl
  exact wp_ret (ZP hE rfl hq17 ⟨_,rfl,rfl,hM.kept⟩)
def YD (p1 : Int) : Option ((List UInt8)) :=
 (if (decide (p1 < 0)) = true then (none) else (some ()) : Option (Unit)).bind fun j1=>(if (decide ((wr (p1 - (wr (0 - 0)))) > 0)) = true then ((mkS 1 (0 : UInt8) (wr (p1 - (wr (0 - 0))))).bind fun l14=>(slc l14 (0 : Int) (0 : Int)).bind fun l16=>some l16) else (some ([])) : Option ((List UInt8))).bind fun j6=>some j6
theorem TT (w0 : World) (p1 : Int) (r : (List UInt8)) (hF : YD p1 = some r) :
  Calls Tryz.prog 181 [(Value.slice none 0 0),vI p1].toArray w0 (fun en w'=>∃ v,en = .returned v ∧ (∃ (y1 : Value),v = y1 ∧ Fr w0 w' [osl NoB (r : List UInt8) y1] ∧ Kept (Old w0) w0 w')):=by
 refine ce Tryz.func181 ?_
 intro a hE
 have hM:=M.start w0
 unfold YD at hF
 refine Zb (Zc hE rfl fun a hE=>Ze ?_)
 obtain ⟨j1,hl2,hF3⟩:=bind_some hF
 refine ZN (fun a w=>Env 27 a [(0,(Value.slice none 0 0)),(1,vI p1)] ∧ M (Old w0) w0 w []) ?_ ?_
 ·skip
  refine Zb (Zd hE rfl fun a hE=>Zi hE rfl rfl rfl fun a hE=>Ze ?_)
  refine Zo hE rfl ?_ ?_
  ·intro hb4
   have hl2:=Zt hl2 hb4
   cases hl2
  ·intro hb4
   have hl2:=Zs hl2 hb4
   refine wp_skip ?_
   obtain rfl:=Option.some.inj hl2
   refine Zk ?_
   exact ⟨hE.sub ⟨rfl,rfl,trivial⟩,hM⟩
 ·skip
  rintro a w ⟨hE,hM⟩
  obtain ⟨j6,hl7,hF8⟩:=bind_some hF3
  refine ZN (fun a w=>∃ (u9 : Value),Env 27 a [(0,u9)] ∧ M (Old w0) w0 w [osl NoB (j6 : List UInt8) u9]) ?_ ?_
  ·skip
   refine Zb (Zd hE rfl fun a hE=>Zd hE rfl fun a hE=>zi hE Za ld rfl Tryz.underlying40 fun a hE=>Zd hE rfl fun a hE=>zX hE Za ld rfl Tryz.underlying40 fun a hE=>Zi hE rfl rfl rfl fun a hE=>Zi hE rfl rfl rfl fun a hE=>Zc hE rfl fun a hE=>Ze (Zb (Zd hE rfl fun a hE=>Zi hE rfl rfl rfl fun a hE=>Ze ?_)))
   refine Zo hE rfl ?_ ?_
   ·intro hb11
    have hl7:=Zt hl7 hb11
    refine wp_region_lit (Zd hE rfl fun a hE=>Zd hE rfl fun a hE=>zi hE Za ld rfl Tryz.underlying40 fun a hE=>ye hE Za ld rfl rfl Tryz.underlying40 ty5 fun a hE=>Zd hE rfl ?_); intro a hE
    obtain ⟨l14,e15,hl7⟩:=bind_some hl7
    refine ju hE hM Za ld rfl rfl Tryz.underlying40 Tryz.underlying3 ty5 rfl (by decide) (by decide) (fun _=>TG.2 ⟨rfl,rfl⟩) e15 fun u12 w a hM hE=>Zd hE rfl fun a hE=>zX hE Za ld rfl Tryz.underlying40 ?_; intro a hE
    obtain ⟨l16,e17,hl7⟩:=bind_some hl7
    refine Xf hE Za ld rfl rfl rfl rfl rfl Tryz.underlying40 ty5 (hM.sl (pre:=[]) noB) e17 ?_; intro a hE
    have hM:=hM.cut noB e17
    refine Zc hE rfl fun a hE=>Zg ?_
    obtain rfl:=Option.some.inj hl7
    refine Zk ?_
    exact ⟨(Y0 u12 ((0 : Int)).toNat ((0 : Int)).toNat 1),hE.sub ⟨rfl,trivial⟩,hM⟩
   ·intro hb11
    have hl7:=Zs hl7 hb11
    refine wp_skip ?_
    obtain rfl:=Option.some.inj hl7
    refine Zk ?_
    have hM:=M.nilS (α:=UInt8) NoB noB hM
    exact ⟨(Value.slice none 0 0),hE.sub ⟨rfl,trivial⟩,hM⟩
  ·skip
   rintro a w ⟨u9,hE,hM⟩
   refine Zb (Zd hE rfl fun a hE=>Zc hE rfl fun a hE=>Ze ?_)
   obtain rfl:=Option.some.inj hF8
   exact wp_ret (ZP hE rfl (ZU hE rfl) ⟨_,rfl,u9,rfl,hM.outF (Yf Xi),hM.kept⟩)
def Xl (p0 : (List (List UInt8))) (s4 : Int × Int) : Option (Fl (Int × Int) Int) :=
 if (decide (s4.1 < (p0.length : Int))) = true then (((idx p0 s4.1).bind fun x12=>(if (decide ((wr (s4.2 + (x12.length : Int))) < 0)) = true then (none) else (some ()) : Option (Unit)).bind fun j20=>some (wr (s4.2 + (x12.length : Int))) : Option (Int)).bind fun j9=>some (Fl.nx (wr (s4.1 + 1),j9))) else (some (Fl.ex s4.2))
def Xr (p0 : (List (List UInt8))) (s35 : Int × (List UInt8)) : Option (Fl (Int × (List UInt8)) (List UInt8)) :=
 if (decide (s35.1 < (p0.length : Int))) = true then ((idx p0 s35.1).bind fun x42=>(app 1 s35.2 x42).bind fun l50=>some (Fl.nx (wr (s35.1 + 1),(s35.2 ++ x42)))) else (some (Fl.ex s35.2))
def Z4 (p0 : (List (List UInt8))) : Option ((List UInt8)) :=
 (ZA (Xl p0) (0,0)).bind fun j1=>(YD j1).bind fun r27=>(ZA (Xr p0) (0,r27)).bind fun j30=>some j30
theorem UH (w0 : World) (p0 : (List (List UInt8))) (v0_1 : Value) (hv0_1 : Ro w0 p0 [v0_1]) (r : (List UInt8)) (hF : Z4 p0 = some r) :
  Calls Tryz.prog 133 [v0_1].toArray w0 (fun en w'=>∃ v,en = .returned v ∧ (∃ (y1 : Value),v = y1 ∧ Fr w0 w' [osl NoB (r : List UInt8) y1] ∧ Kept (Old w0) w0 w')):=by
 refine ce Tryz.func133 ?_
 intro a hE
 have hM:=M.start w0
 unfold Z4 at hF
 refine Zb (Zc hE rfl fun a hE=>Ze (Zb (Zc hE rfl fun a hE=>Ze (wp_seq (Zb (Zd hE rfl fun a hE=>Z5 hE rfl Tryz.underlying23 (hM.rd hv0_1) fun a hE=>Zd hE rfl fun a hE=>Ze ?_))))))
 obtain ⟨j1,hl2,hF3⟩:=bind_some hF
 refine ZO (fun a w=>Env 36 a [(0,v0_1),(3,vI j1)] ∧ M (Old w0) w0 w []) ?_ ?_
 ·skip
  refine wp_block ?_
  refine ZE (fun (s4 : Int × Int) a w=>Env 36 a [(0,v0_1),(3,vI s4.2),(9,v0_1),(10,(vI (p0.length : Int))),(11,vI s4.1)] ∧ M (Old w0) w0 w []) hl2 ⟨hE.sub ⟨rfl,rfl,rfl,rfl,rfl,trivial⟩,hM⟩ ?_
  rintro s4 a w ⟨hE,hM⟩ o7 hs5 hx6
  unfold Xl at hs5
  refine Zb (Zi hE rfl rfl rfl fun a hE=>Ze (wp_seq ?_))
  refine Zo hE rfl ?_ ?_
  ·intro hb8
   have hs5:=Zt hs5 hb8
   refine wp_skip (Zp ?_)
   obtain ⟨j9,hl10,hF11⟩:=bind_some hs5
   refine ZN (fun a w=>Env 36 a [(0,v0_1),(3,vI j9),(9,v0_1),(10,(vI (p0.length : Int))),(11,vI s4.1)] ∧ M (Old w0) w0 w []) ?_ ?_
   ·skip
    refine wp_block (Zb ?_)
    obtain ⟨x12,hi14,hl10⟩:=bix hl10
    refine Yd hE rfl rfl Tryz.underlying23 YU (hM.rd hv0_1) hi14.1 ?_; intro a hE
    obtain ⟨cs15,hs16,hA17⟩:=US hv0_1 hi14.2 -- ^
    obtain ⟨u18,rfl⟩:=VE hs16 -- ^
    have h19:=hs16 -- ^
    refine ZB (v:=u18) hE rfl YU rfl (hM.atk hA17 (UY hv0_1 hi14.2)) fun a hE=>Zc hE rfl fun a hE=>Ze (Zb (Zd hE rfl fun a hE=>Zd hE rfl fun a hE=>Z5 hE rfl Tryz.underlying40 (hM.rd h19) fun a hE=>Zi hE rfl rfl rfl fun a hE=>Zc hE rfl fun a hE=>Ze (Zb (Zd hE rfl fun a hE=>Zi hE rfl rfl rfl fun a hE=>Ze ?_))))
    obtain ⟨j20,hl21,hF22⟩:=bind_some hl10
    refine ZO (fun a w=>Env 36 a [(0,v0_1),(3,(vI (wr (s4.2 + (x12.length : Int))))),(9,v0_1),(10,(vI (p0.length : Int))),(11,vI s4.1)] ∧ M (Old w0) w0 w []) ?_ ?_
    ·skip
     refine Zo hE rfl ?_ ?_
     ·intro hb23
      have hl21:=Zt hl21 hb23
      cases hl21
     ·intro hb23
      have hl21:=Zs hl21 hb23
      refine wp_skip ?_
      obtain rfl:=Option.some.inj hl21
      refine Zk ?_
      exact ⟨hE.sub ⟨rfl,rfl,rfl,rfl,rfl,trivial⟩,hM⟩
    ·skip
     rintro a w ⟨hE,hM⟩
     refine Yb ?_
     obtain rfl:=Option.some.inj hF22
     refine Zk ?_
     exact ⟨hE.sub ⟨rfl,rfl,rfl,rfl,rfl,trivial⟩,hM⟩
   ·skip
    rintro a w ⟨hE,hM⟩
    refine wp_region_lit (Zi hE rfl rfl rfl fun a hE=>Zd hE rfl fun a hE=>Zg (Zk ?_))
    exact ⟨_,(ois hF11),hE.sub ⟨rfl,rfl,rfl,rfl,rfl,trivial⟩,hM⟩
  ·intro hb8
   have hs5:=Zs hs5 hb8
   refine wp_exit (Zn (Zn (Ye ?_)))
   obtain rfl:=hx6 _ (ois hs5)
   refine Zk ?_
   exact ⟨hE.sub ⟨rfl,rfl,trivial⟩,hM⟩
 ·skip
  rintro a w ⟨hE,hM⟩
  refine Zp (Zb (Zd hE rfl ?_)); intro a hE
  obtain ⟨r27,e28,hF3⟩:=bind_some hF3
  refine Zx hE rfl (cbm Tryz.func181) (TT _ j1 r27 e28) ?_
  rintro u29 w a ⟨_,rfl,hFr,hK⟩ hE
  have hM:=hM.add hK hFr
  refine Zc hE rfl fun a hE=>Ze (wp_seq (Zb (Zd hE rfl fun a hE=>Z5 hE rfl Tryz.underlying23 (hM.rd hv0_1) fun a hE=>Zd hE rfl fun a hE=>Ze ?_)))
  obtain ⟨j30,hl31,hF32⟩:=bind_some hF3
  refine ZO (fun a w=>∃ (u33 : Value),Env 36 a [(6,u33)] ∧ M (Old w0) w0 w [osl NoB (j30 : List UInt8) u33]) ?_ ?_
  ·skip
   refine wp_block ?_
   refine ZE (fun (s35 : Int × (List UInt8)) a w=>∃ (u36 : Value),Env 36 a [(6,u36),(25,v0_1),(26,(vI (p0.length : Int))),(27,vI s35.1)] ∧ M (Old w0) w0 w [osl NoB (s35.2 : List UInt8) u36]) hl31 ⟨u29,hE.sub ⟨rfl,rfl,rfl,rfl,trivial⟩,hM⟩ ?_
   rintro s35 a w ⟨u36,hE,hM⟩ o40 hs38 hx39
   unfold Xr at hs38
   refine Zb (Zi hE rfl rfl rfl fun a hE=>Ze (wp_seq ?_))
   refine Zo hE rfl ?_ ?_
   ·intro hb41
    have hs38:=Zt hs38 hb41
    refine wp_skip (Zp (wp_seq (wp_block (Zb ?_))))
    obtain ⟨x42,hi44,hs38⟩:=bix hs38
    refine Yd hE rfl rfl Tryz.underlying23 YU (hM.rd hv0_1) hi44.1 ?_; intro a hE
    obtain ⟨cs45,hs46,hA47⟩:=US hv0_1 hi44.2 -- ^
    obtain ⟨u48,rfl⟩:=VE hs46 -- ^
    have h49:=hs46 -- ^
    refine ZB (v:=u48) hE rfl YU rfl (hM.atk hA47 (UY hv0_1 hi44.2)) fun a hE=>Zc hE rfl fun a hE=>Ze (wp_region_lit (Zd hE rfl fun a hE=>Zd hE rfl ?_)); intro a hE
    obtain ⟨l50,e51,hs38⟩:=bind_some hs38
    obtain ⟨e54,rfl⟩:=Yj e51
    refine Z2 hE hM Za ld rfl rfl (hM.rd h49) Tryz.underlying40 ty5 rfl (by decide) e54 fun u52 w a hM hE=>Zc hE rfl fun a hE=>Zg (Yb (Zp (wp_region_lit (Zi hE rfl rfl rfl fun a hE=>Zd hE rfl fun a hE=>Zg (Zk ?_)))))
    exact ⟨_,(ois hs38),u52,hE.sub ⟨rfl,rfl,rfl,rfl,trivial⟩,hM⟩
   ·intro hb41
    have hs38:=Zs hs38 hb41
    refine wp_exit (Zn (Zn (Ye ?_)))
    obtain rfl:=hx39 _ (ois hs38)
    refine Zk ?_
    exact ⟨u36,hE.sub ⟨rfl,trivial⟩,hM⟩
  ·skip
   rintro a w ⟨u33,hE,hM⟩
   refine Zp (Zb (Zd hE rfl fun a hE=>Zc hE rfl fun a hE=>Ze ?_))
   obtain rfl:=Option.some.inj hF32
   exact wp_ret (ZP hE rfl (ZU hE rfl) ⟨_,rfl,u33,rfl,hM.outF (Yf Xi),hM.kept⟩)
def Ym (p0 : (List UInt8)) : Option ((List UInt8)) :=
 (app 1 ([] : List UInt8) p0).bind fun l7=>some (([] : List UInt8) ++ p0)
theorem Ve (w0 : World) (p0 : (List UInt8)) (v0_1 : Value) (hv0_1 : Ro w0 p0 [v0_1]) (r : (List UInt8)) (hF : Ym p0 = some r) :
  Calls Tryz.prog 75 [v0_1].toArray w0 (fun en w'=>∃ v,en = .returned v ∧ (∃ (y1 : Value),v = y1 ∧ Fr w0 w' [osl NoB (r : List UInt8) y1] ∧ Kept (Old w0) w0 w')):=by
 refine ce Tryz.func75 ?_
 intro a hE
 have hM:=M.start w0
 unfold Ym at hF
 refine Zb (Zc hE rfl fun a hE=>Ze (wp_seq (Zb (Zd hE rfl fun a hE=>Aq hE Za ld rfl rfl Tryz.underlying40 (hM.rd hv0_1) fun bn1 a hn2 hE=>Ze ?_))))
 refine Zo hE rfl ?_ ?_
 ·intro hb3
  have h0:=hn2 hb3
  have hF : some ([]) = some r:=by rw [h0] at hF; simpa [app] using hF
  refine Zb (Zc hE rfl fun a hE=>Ze ?_)
  have hM:=M.nilS (α:=UInt8) NoB noB hM
  obtain rfl:=Option.some.inj hF
  exact wp_ret (Zv (ZP hE rfl (ZU hE rfl) ⟨_,rfl,(Value.slice none 0 0),rfl,hM.outF (Yf Xi),hM.kept⟩))
 ·intro hb3
  refine wp_skip (Zp (Zb (Yr (xs:=[]) (l:=([] : List UInt8)) (vs:=[]) hE hM Za ld rfl rfl Tryz.underlying40 ty5 rfl (by decide) rfl fun u5 w a hM hE=>Zd hE rfl ?_))); intro a hE
  obtain ⟨l7,e8,hF⟩:=bind_some hF
  have e11:=(Yj e8).1
  refine Z2 hE hM Za ld rfl rfl (hM.rd hv0_1) Tryz.underlying40 ty5 rfl (by decide) e11 fun u9 w a hM hE=>Zc hE rfl fun a hE=>Ze ?_
  obtain rfl:=Option.some.inj hF
  exact wp_ret (ZP hE rfl (ZU hE rfl) ⟨_,rfl,u9,rfl,hM.outF (Yf Xi),hM.kept⟩)
def W8 (p0 : Int) (s8 : (List UInt8) × Int) : Option (Fl ((List UInt8) × Int) (List UInt8)) :=
 if (decide (s8.2 ≥ 0)) = true then ((XW (wr (8 * s8.2))).bind fun _=>(app 1 s8.1 ([ZG (TJ p0 (wr (8 * s8.2)))] : List UInt8)).bind fun l18=>some (Fl.nx ((s8.1 ++ ([ZG (TJ p0 (wr (8 * s8.2)))] : List UInt8)),wr (s8.2 - 1)))) else (some (Fl.ex s8.1))
def Wu (p0 : Int) (p1 : Int) : Option ((List UInt8)) :=
 (ZA (W8 p0) (([] : List UInt8),wr (p1 - 1))).bind fun j3=>some j3
theorem Jo (w0 : World) (p0 : Int) (p1 : Int) (r : (List UInt8)) (hF : Wu p0 p1 = some r) :
  Calls Tryz.prog 166 [vI p0,vI p1].toArray w0 (fun en w'=>∃ v,en = .returned v ∧ (∃ (y1 : Value),v = y1 ∧ Fr w0 w' [osl NoB (r : List UInt8) y1] ∧ Kept (Old w0) w0 w')):=by
 refine ce Tryz.func166 ?_
 intro a hE
 have hM:=M.start w0
 unfold Wu at hF
 refine Zb (Zc hE rfl fun a hE=>Ze (Zb (Yr (xs:=[]) (l:=([] : List UInt8)) (vs:=[]) hE hM Za ld rfl rfl Tryz.underlying40 ty5 rfl (by decide) rfl fun u1 w a hM hE=>Zc hE rfl fun a hE=>Ze (wp_seq (Zb (Zd hE rfl fun a hE=>Zi hE rfl rfl rfl fun a hE=>Zc hE rfl fun a hE=>Ze ?_))))))
 obtain ⟨j3,hl4,hF5⟩:=bind_some hF
 refine ZO (fun a w=>∃ (u6 : Value),Env 23 a [(5,u6)] ∧ M (Old w0) w0 w [osl NoB (j3 : List UInt8) u6]) ?_ ?_
 ·skip
  refine wp_block ?_
  refine ZE (fun (s8 : (List UInt8) × Int) a w=>∃ (u9 : Value),Env 23 a [(0,vI p0),(5,u9),(6,vI s8.2)] ∧ M (Old w0) w0 w [osl NoB (s8.1 : List UInt8) u9]) hl4 ⟨u1,hE.sub ⟨rfl,rfl,rfl,trivial⟩,hM⟩ ?_
  rintro s8 a w ⟨u9,hE,hM⟩ o13 hs11 hx12
  unfold W8 at hs11
  refine wp_seq (Zb (Zd hE rfl fun a hE=>Zi hE rfl rfl rfl fun a hE=>Ze ?_))
  refine Zo hE rfl ?_ ?_
  ·intro hb14
   have hs11:=Zt hs11 hb14
   refine wp_skip (Zp (wp_seq (wp_block (wp_region_lit (Zd hE rfl fun a hE=>Zd hE rfl fun a hE=>Zd hE rfl fun a hE=>Zi hE rfl rfl rfl ?_))))); intro a hE
   obtain ⟨_,e15,hs11⟩:=bind_some hs11
   have e15:=W9 e15
   refine Br hE Za ld rfl rfl (AO _ _ e15) fun a hE=>Xo hE Za ld rfl Tryz.underlying2 Tryz.underlying5 fun a hE=>Yr (xs:=[.tmp 19]) (l:=([ZG (TJ p0 (wr (8 * s8.2)))] : List UInt8)) (vs:=[(vB (ZG (TJ p0 (wr (8 * s8.2)))))]) hE hM Za ld rfl rfl Tryz.underlying40 ty5 rfl (by decide) rfl ?_; intro u16 w a hM hE
   obtain ⟨l18,e19,hs11⟩:=bind_some hs11
   obtain ⟨e22,rfl⟩:=Yj e19
   have hM:=hM.pull1
   refine Z2 hE hM Za ld rfl rfl (hM.sl (pre:=[_]) noB) Tryz.underlying40 ty5 rfl (by decide) e22 fun u20 w a hM hE=>Zc hE rfl fun a hE=>Zg (Yb (Zp (wp_region_lit (Zd hE rfl fun a hE=>Zi hE rfl rfl rfl fun a hE=>Zc hE rfl fun a hE=>Zg (Zk ?_)))))
   have hM:=M.fst (l:=[_]) hM
   exact ⟨_,(ois hs11),u20,hE.sub ⟨rfl,rfl,rfl,trivial⟩,hM⟩
  ·intro hb14
   have hs11:=Zs hs11 hb14
   refine wp_exit (Zn (Zn (Ye ?_)))
   obtain rfl:=hx12 _ (ois hs11)
   refine Zk ?_
   exact ⟨u9,hE.sub ⟨rfl,trivial⟩,hM⟩
 ·skip
  rintro a w ⟨u6,hE,hM⟩
  refine Zp (Zb (Zd hE rfl fun a hE=>Zc hE rfl fun a hE=>Ze ?_))
  obtain rfl:=Option.some.inj hF5
  exact wp_ret (ZP hE rfl (ZU hE rfl) ⟨_,rfl,u6,rfl,hM.outF (Yf Xi),hM.kept⟩)
def VF (s16 : (List UInt8)) : Option (Fl (List UInt8) (List UInt8)) :=
 if ((Int.tmod (s16.length : Int) 16) != 8) = true then ((app 1 s16 ([0] : List UInt8)).bind fun l25=>some (Fl.nx (s16 ++ ([0] : List UInt8)))) else (some (Fl.ex s16))
def W4 (p0 : (List UInt8)) : Option ((List UInt8)) :=
 (Ym p0).bind fun r1=>(app 1 r1 ([128] : List UInt8)).bind fun l6=>(ZA (VF) (r1 ++ ([128] : List UInt8))).bind fun j11=>(Wu (p0.length : Int) 8).bind fun r31=>(app 1 j11 r31).bind fun l34=>some (j11 ++ r31)
theorem K0 (w0 : World) (p0 : (List UInt8)) (v0_1 : Value) (hv0_1 : Ro w0 p0 [v0_1]) (r : (List UInt8)) (hF : W4 p0 = some r) :
  Calls Tryz.prog 132 [v0_1].toArray w0 (fun en w'=>∃ v,en = .returned v ∧ (∃ (y1 : Value),v = y1 ∧ Fr w0 w' [osl NoB (r : List UInt8) y1] ∧ Kept (Old w0) w0 w')):=by
 refine ce Tryz.func132 ?_
 intro a hE
 have hM:=M.start w0
 unfold W4 at hF
 refine Zb (Zc hE rfl fun a hE=>Ze (Zb (Zd hE rfl ?_))); intro a hE
 obtain ⟨r1,e2,hF⟩:=bind_some hF
 refine Zx hE rfl cb75 (Ve _ p0 v0_1 (hM.rdo hv0_1) r1 e2) ?_
 rintro u3 w a ⟨_,rfl,hFr,hK⟩ hE
 have hM:=hM.add hK hFr
 refine Yr (xs:=[.const (vB 128)]) (l:=([128] : List UInt8)) (vs:=[vB 128]) hE hM Za ld rfl rfl Tryz.underlying40 ty5 rfl (by decide) rfl ?_; intro u4 w a hM hE
 obtain ⟨l6,e7,hF⟩:=bind_some hF
 obtain ⟨e10,rfl⟩:=Yj e7
 have hM:=hM.pull1
 refine Z2 hE hM Za ld rfl rfl (hM.sl (pre:=[_]) noB) Tryz.underlying40 ty5 rfl (by decide) e10 fun u8 w a hM hE=>Zc hE rfl fun a hE=>Ze ?_
 obtain ⟨j11,hl12,hF13⟩:=bind_some hF
 refine ZN (fun a w=>∃ (u14 : Value),Env 20 a [(0,v0_1),(3,u14)] ∧ M (Old w0) w0 w [osl NoB (j11 : List UInt8) u14]) ?_ ?_
 ·skip
  refine wp_block ?_
  have hM:=M.fst (l:=[_]) hM
  refine ZE (fun (s16 : (List UInt8)) a w=>∃ (u17 : Value),Env 20 a [(0,v0_1),(3,u17)] ∧ M (Old w0) w0 w [osl NoB (s16 : List UInt8) u17]) hl12 ⟨u8,hE.sub ⟨rfl,rfl,trivial⟩,hM⟩ ?_
  rintro s16 a w ⟨u17,hE,hM⟩ o21 hs19 hx20
  unfold VF at hs19
  refine wp_seq (Zb (Zd hE rfl fun a hE=>Z5 hE rfl Tryz.underlying40 (hM.sl (pre:=[]) noB) fun a hE=>Zi hE rfl rfl (Qi _ _ (by decide)) fun a hE=>Zi hE rfl rfl rfl fun a hE=>Ze ?_))
  refine Zo hE rfl ?_ ?_
  ·intro hb22
   have hs19:=Zt hs19 hb22
   refine wp_skip (Zp (wp_block (wp_region_lit (Zd hE rfl fun a hE=>Yr (xs:=[.const (vB 0)]) (l:=([0] : List UInt8)) (vs:=[vB 0]) hE hM Za ld rfl rfl Tryz.underlying40 ty5 rfl (by decide) rfl ?_)))); intro u23 w a hM hE
   obtain ⟨l25,e26,hs19⟩:=bind_some hs19
   obtain ⟨e29,rfl⟩:=Yj e26
   have hM:=hM.pull1
   refine Z2 hE hM Za ld rfl rfl (hM.sl (pre:=[_]) noB) Tryz.underlying40 ty5 rfl (by decide) e29 fun u27 w a hM hE=>Zc hE rfl fun a hE=>Zg (Yb (Zk ?_))
   have hM:=M.fst (l:=[_]) hM
   exact ⟨_,(ois hs19),u27,hE.sub ⟨rfl,rfl,trivial⟩,hM⟩
  ·intro hb22
   have hs19:=Zs hs19 hb22
   refine wp_exit (Zn (Zn (Ye ?_)))
   obtain rfl:=hx20 _ (ois hs19)
   refine Zk ?_
   exact ⟨u17,hE.sub ⟨rfl,rfl,trivial⟩,hM⟩
 ·skip
  rintro a w ⟨u14,hE,hM⟩
  refine Zb (Zd hE rfl fun a hE=>Zd hE rfl fun a hE=>Z5 hE rfl Tryz.underlying40 (hM.rd hv0_1) ?_); intro a hE
  obtain ⟨r31,e32,hF13⟩:=bind_some hF13
  refine Zx hE rfl (cbm Tryz.func166) (Jo _ (p0.length : Int) 8 r31 e32) ?_
  rintro u33 w a ⟨_,rfl,hFr,hK⟩ hE
  have hM:=hM.add hK hFr
  obtain ⟨l34,e35,hF13⟩:=bind_some hF13
  obtain ⟨e38,rfl⟩:=Yj e35
  have hM:=hM.pull1
  refine Z2 hE hM Za ld rfl rfl (hM.sl (pre:=[_]) noB) Tryz.underlying40 ty5 rfl (by decide) e38 fun u36 w a hM hE=>Zc hE rfl fun a hE=>Ze ?_
  obtain rfl:=Option.some.inj hF13
  have hM:=M.fst (l:=[_]) hM
  exact wp_ret (ZP hE rfl (ZU hE rfl) ⟨_,rfl,u36,rfl,hM.outF (Yf Xi),hM.kept⟩)
def Wx (p0 : (List UInt8)) (s8 : (List (Vector UInt8 16)) × Int) : Option (Fl ((List (Vector UInt8 16)) × Int) (List (Vector UInt8 16))) :=
 if (decide (s8.2 < (p0.length : Int))) = true then ((slc p0 s8.2 (wr (s8.2 + 16))).bind fun l15=>(T4 16 l15).bind fun x18=>(app 16 s8.1 ([x18] : List (Vector UInt8 16))).bind fun l22=>some (Fl.nx ((s8.1 ++ ([x18] : List (Vector UInt8 16))),wr (s8.2 + 16)))) else (some (Fl.ex s8.1))
def VS (p0 : (List UInt8)) : Option ((List (Vector UInt8 16))) :=
 (ZA (Wx p0) (([] : List (Vector UInt8 16)),0)).bind fun j3=>some j3
theorem Ha (w0 : World) (p0 : (List UInt8)) (v0_1 : Value) (hv0_1 : Ro w0 p0 [v0_1]) (r : (List (Vector UInt8 16))) (hF : VS p0 = some r) :
  Calls Tryz.prog 131 [v0_1].toArray w0 (fun en w'=>∃ v,en = .returned v ∧ (∃ (y1 : Value),v = y1 ∧ Fr w0 w' [osl NoB (r : List (Vector UInt8 16)) y1] ∧ Kept (Old w0) w0 w')):=by
 refine ce Tryz.func131 ?_
 intro a hE
 have hM:=M.start w0
 unfold VS at hF
 refine Zb (Zc hE rfl fun a hE=>Ze (Zb (Yr (xs:=[]) (l:=([] : List (Vector UInt8 16))) (vs:=[]) hE hM Za ld rfl rfl Tryz.underlying54 ZJ rfl (by decide) rfl fun u1 w a hM hE=>Zc hE rfl fun a hE=>Ze (wp_seq (Zb (Zc hE rfl fun a hE=>Ze ?_))))))
 obtain ⟨j3,hl4,hF5⟩:=bind_some hF
 refine ZO (fun a w=>∃ (u6 : Value),Env 23 a [(3,u6)] ∧ M (Old w0) w0 w [osl NoB (j3 : List (Vector UInt8 16)) u6]) ?_ ?_
 ·skip
  refine wp_block ?_
  refine ZE (fun (s8 : (List (Vector UInt8 16)) × Int) a w=>∃ (u9 : Value),Env 23 a [(0,v0_1),(3,u9),(4,vI s8.2)] ∧ M (Old w0) w0 w [osl NoB (s8.1 : List (Vector UInt8 16)) u9]) hl4 ⟨u1,hE.sub ⟨rfl,rfl,rfl,trivial⟩,hM⟩ ?_
  rintro s8 a w ⟨u9,hE,hM⟩ o13 hs11 hx12
  unfold Wx at hs11
  refine wp_seq (Zb (Zd hE rfl fun a hE=>Zd hE rfl fun a hE=>Z5 hE rfl Tryz.underlying40 (hM.rd hv0_1) fun a hE=>Zi hE rfl rfl rfl fun a hE=>Ze ?_))
  refine Zo hE rfl ?_ ?_
  ·intro hb14
   have hs11:=Zt hs11 hb14
   refine wp_skip (Zp (wp_seq (wp_block (wp_region_lit (Zd hE rfl fun a hE=>Zd hE rfl fun a hE=>Zd hE rfl fun a hE=>Zd hE rfl fun a hE=>Zi hE rfl rfl rfl ?_))))); intro a hE
   obtain ⟨l15,e16,hs11⟩:=bind_some hs11
   refine Xf hE Za ld rfl rfl rfl rfl rfl Tryz.underlying40 ty5 (hM.rd hv0_1) e16 ?_; intro a hE
   have h17 : Rep.sat (Old w0) w0 l15 [(Y0 v0_1 (s8.2).toNat ((wr (s8.2 + 16))).toNat 1)] []:=Xa hv0_1 e16 -- ^
   obtain ⟨x18,e19,hs11⟩:=bind_some hs11
   refine HE hE Za ld rfl Tryz.underlying68 (hM.rd h17) (T2 e19).1 (by decide) fun a hE=>Zr hE rfl ZJ rfl (AQ (hM.rd h17) e19 (by decide)) (Flat.len _) fun a hE=>Yr (xs:=[.tmp 19]) (l:=([x18] : List (Vector UInt8 16))) (vs:=[(Value.agg (enc x18).toArray)]) hE hM Za ld rfl rfl Tryz.underlying54 ZJ rfl (by decide) rfl ?_; intro u20 w a hM hE
   obtain ⟨l22,e23,hs11⟩:=bind_some hs11
   obtain ⟨e26,rfl⟩:=Yj e23
   have hM:=hM.pull1
   refine Z2 hE hM Za ld rfl rfl (hM.sl (pre:=[_]) noB) Tryz.underlying54 ZJ rfl (by decide) e26 fun u24 w a hM hE=>Zc hE rfl fun a hE=>Zg (Yb (Zp (wp_region_lit (Zd hE rfl fun a hE=>Zi hE rfl rfl rfl fun a hE=>Zc hE rfl fun a hE=>Zg (Zk ?_)))))
   have hM:=M.fst (l:=[_]) hM
   exact ⟨_,(ois hs11),u24,hE.sub ⟨rfl,rfl,rfl,trivial⟩,hM⟩
  ·intro hb14
   have hs11:=Zs hs11 hb14
   refine wp_exit (Zn (Zn (Ye ?_)))
   obtain rfl:=hx12 _ (ois hs11)
   refine Zk ?_
   exact ⟨u9,hE.sub ⟨rfl,trivial⟩,hM⟩
 ·skip
  rintro a w ⟨u6,hE,hM⟩
  refine Zp (Zb (Zd hE rfl fun a hE=>Zc hE rfl fun a hE=>Ze ?_))
  obtain rfl:=Option.some.inj hF5
  exact wp_ret (ZP hE rfl (ZU hE rfl) ⟨_,rfl,u6,rfl,hM.outF (Yf Xi),hM.kept⟩)
def X3 (p1 : (Vector UInt8 16)) (s10 : (Vector UInt8 16) × Int) : Option (Fl ((Vector UInt8 16) × Int) (Vector UInt8 16)) :=
 if (decide (s10.2 < 16)) = true then ((ZI s10.1 s10.2).bind fun x17=>(ZI p1 s10.2).bind fun x20=>(ZI s10.1 s10.2).bind fun x23=>some (Fl.nx ((s10.1.setIfInBounds (s10.2).toNat (x17 ^^^ x20)),wr (s10.2 + 1)))) else (some (Fl.ex s10.1))
def Ys (p0 : (Vector UInt8 16)) (p1 : (Vector UInt8 16)) : Option ((Vector UInt8 16)) :=
 (ZA (X3 p1) (p0,0)).bind fun j7=>some j7
theorem Wv (w0 : World) (p0 : (Vector UInt8 16)) (p1 : (Vector UInt8 16)) (r : (Vector UInt8 16)) (hF : Ys p0 p1 = some r) :
  Calls Tryz.prog 182 [(Value.agg (enc p0).toArray),(Value.agg (enc p1).toArray)].toArray w0 (Rt w0 (Value.agg (enc r).toArray)):=by
 refine ce Tryz.func182 ?_
 intro a hE
 have hM:=M.start w0
 unfold Ys at hF
 refine Zb (Ya (cs:=enc p0) hE hM Za ld rfl rfl fun b1 w a hM hE=>Ya (cs:=enc p1) hE hM Za ld rfl rfl fun b3 w a hM hE=>Zz hE hM ZJ fun b5 w a hM hE=>Ze (wp_seq (Zb (Zd hE rfl fun a hE=>Ze ?_))))
 obtain ⟨j7,hl8,hF9⟩:=bind_some hF
 refine ZO (fun a w=>Env 19 a [(2,(ptr b1 0)),(4,(ptr b5 0))] ∧ M (Old w0) w0 w [raw b5 (enc (Vector.replicate 16 (0 : UInt8))),raw b1 (enc j7)]) ?_ ?_
 ·skip
  refine wp_block ?_
  refine ZE (fun (s10 : (Vector UInt8 16) × Int) a w=>Env 19 a [(2,(ptr b1 0)),(3,(ptr b3 0)),(4,(ptr b5 0)),(6,vI s10.2)] ∧ M (Old w0) w0 w [raw b5 (enc (Vector.replicate 16 (0 : UInt8))),raw b3 (enc p1),raw b1 (enc s10.1)]) hl8 ⟨hE.sub ⟨rfl,rfl,rfl,rfl,trivial⟩,hM⟩ ?_
  rintro s10 a w ⟨hE,hM⟩ o13 hs11 hx12
  unfold X3 at hs11
  refine Zb (Zi hE rfl rfl rfl fun a hE=>Ze (wp_seq ?_))
  refine Zo hE rfl ?_ ?_
  ·intro hb14
   have hs11:=Zt hs11 hb14
   refine wp_skip (Zp (wp_seq (wp_block (Zb (Zd hE rfl fun a hE=>Zc hE rfl fun a hE=>Ze ?_)))))
   obtain ⟨x17,hi16,hs11⟩:=bvx hs11
   obtain ⟨x20,hi19,hs11⟩:=bvx hs11
   obtain ⟨x23,hi22,hs11⟩:=bvx hs11
   refine ZX [9,10,11,12,13,14,15,16] Yu rfl rfl (by decide) rfl hE hM (qsP (fun z=>Zj z.E Za ld rfl (kr0 rfl)) (qsP (fun z=>ZC z.E Za ld rfl rfl Tryz.underlying68 ty5 hi16.1 (kr0 rfl)) (qsP (fun z=>ZM (v:=(vB x17)) z.E Za ld rfl ty5 rfl (At.vec (z.M.rawAt2) hi16.2) (kr0 rfl)) (qsP (fun z=>Zj z.E Za ld rfl (kr0 rfl)) (qsP (fun z=>ZC z.E Za ld rfl rfl Tryz.underlying68 ty5 hi19.1 (kr0 rfl)) (qsP (fun z=>ZM (v:=(vB x20)) z.E Za ld rfl ty5 rfl (At.vec (z.M.rawAt1) hi19.2) (kr0 rfl)) (qsP (v:=(vB (x17 ^^^ x20))) (fun z=>Z9 z.E Za ld rfl rfl (V0 x17 x20) (kr0 rfl)) (qsP (fun z=>ZC z.E Za ld rfl rfl Tryz.underlying68 ty5 hi22.1 (kr0 rfl)) qs0)))))))) ?_
   ·intro a w u hE hM
    have hM:=hM.pull2
    refine Zm (seg:=[(vB (x17 ^^^ x20))]) (cs':=enc (s10.1.setIfInBounds (s10.2).toNat (x17 ^^^ x20))) hE hM Za rfl rfl rfl ty5 rfl (ZS (v:=s10.1) (x:=x17 ^^^ x20) hi22.1) (Flat.cell (x17 ^^^ x20 : UInt8)) (ZD (v:=s10.1) (x:=x17 ^^^ x20) hi22.1) fun w a hM hE=>Zg (Yb (Zp (wp_region_lit (Zi hE rfl rfl rfl fun a hE=>Zd hE rfl fun a hE=>Zg (Zk ?_)))))
    have hM:=hM.pull2.pull2
    exact ⟨_,(ois hs11),hE.sub ⟨rfl,rfl,rfl,rfl,trivial⟩,hM⟩
  ·intro hb14
   have hs11:=Zs hs11 hb14
   refine wp_exit (Zn (Zn (Ye ?_)))
   obtain rfl:=hx12 _ (ois hs11)
   refine Zk ?_
   have hM:=M.fst (l:=[_,_]) hM.pull2.pull1
   exact ⟨hE.sub ⟨rfl,rfl,trivial⟩,hM⟩
 ·skip
  rintro a w ⟨hE,hM⟩
  refine Zp (Zb (Zr hE rfl ZJ rfl hM.rawAt1 (Flat.len _) fun a hE=>Zm (seg:=enc j7) (cs':=enc j7) hE hM Za rfl rfl rfl ZJ (Flat.len _) (zle flq) (Flat.cell _) (Zh flq) fun w a hM hE=>Ze ?_))
  obtain rfl:=Option.some.inj hF9
  have hq26 : Z6 Tryz.prog _ _ (.cell 4 68) _:=ZK hE rfl ZJ rfl hM.rawAt0 (Flat.len _) rfl
  exact wp_ret (ZP hE rfl hq26 ⟨_,rfl,rfl,hM.kept⟩)
def YR (p0 : (Ref Gengine)) (s35 : (Vector UInt8 16) × Int) : Option (Fl ((Vector UInt8 16) × Int) (Vector UInt8 16)) :=
 if (decide (s35.2 < 16)) = true then ((ZI s35.1 s35.2).bind fun x42=>(ZI s35.1 (wr (s35.2 - 1))).bind fun x45=>(ZI p0.v.box (bI x45)).bind fun x58=>(ZI s35.1 s35.2).bind fun x61=>some (Fl.nx ((s35.1.setIfInBounds (s35.2).toNat (x42 ^^^ x58)),wr (s35.2 + 1)))) else (some (Fl.ex s35.1))
def XJ (p0 : (Ref Gengine)) (p1 : (Vector UInt8 16)) (p2 : Int) : Option ((Vector UInt8 16)) :=
 ((ZI p1 (0 : Int)).bind fun x10=>(ZI p1 (15 : Int)).bind fun x13=>(ZI p0.v.box (bI (x13 ^^^ (ZG p2)))).bind fun x26=>(ZI p1 (0 : Int)).bind fun x29=>some (p1.setIfInBounds ((0 : Int)).toNat (x10 ^^^ x26)) : Option ((Vector UInt8 16))).bind fun j5=>(ZA (YR p0) (j5,1)).bind fun j32=>some j32
theorem QP (w0 : World) (p0 : (Ref Gengine)) (v0_1 : Value) (hv0_1 : Ro w0 p0 [v0_1]) (p1 : (Vector UInt8 16)) (p2 : Int) (r : (Vector UInt8 16)) (hF : XJ p0 p1 p2 = some r) :
  Calls Tryz.prog 237 [v0_1,(Value.agg (enc p1).toArray),vI p2].toArray w0 (Rt w0 (Value.agg (enc r).toArray)):=by
 refine ce Tryz.func237 ?_
 intro a hE
 have hM:=M.start w0
 unfold XJ at hF
 refine Zb (Ya (cs:=enc p1) hE hM Za ld rfl rfl fun b1 w a hM hE=>Zz hE hM ZJ fun b3 w a hM hE=>Ze ?_)
 obtain ⟨j5,hl6,hF7⟩:=bind_some hF
 refine ZN (fun a w=>Env 41 a [(0,v0_1),(4,(ptr b1 0)),(6,(ptr b3 0))] ∧ M (Old w0) w0 w [raw b3 (enc (Vector.replicate 16 (0 : UInt8))),raw b1 (enc j5)]) ?_ ?_
 ·skip
  obtain ⟨x10,hi9,hl6⟩:=bvx hl6
  obtain ⟨x13,hi12,hl6⟩:=bvx hl6
  obtain ⟨pb15,ds16,hv17,hx18,hA19,hB20⟩:=UQ hv0_1 -- ^
  obtain ⟨u21,u23,rfl,h22,h24⟩:=Tr hx18 -- ^
  obtain ⟨x26,hi25,hl6⟩:=bvx hl6
  obtain ⟨x29,hi28,hl6⟩:=bvx hl6
  refine ZX [8,9,10,11,12,13,14,15,16,17,18,19,20,21] Yu rfl rfl (by decide) rfl hE hM (qsP (fun z=>ZC z.E Za ld rfl rfl Tryz.underlying68 ty5 hi9.1 (kr0 rfl)) (qsP (fun z=>ZM (v:=(vB x10)) z.E Za ld rfl ty5 rfl (At.vec (z.M.rawAt1) hi9.2) (kr0 rfl)) (qsP (fun z=>Zj z.E Za ld rfl (kr0 rfl)) (qsP (fun z=>ZC z.E Za ld rfl rfl Tryz.underlying68 ty5 hi12.1 (kr0 rfl)) (qsP (fun z=>ZM (v:=(vB x13)) z.E Za ld rfl ty5 rfl (At.vec (z.M.rawAt1) hi12.2) (kr0 rfl)) (qsP (fun z=>Zj z.E Za ld rfl (kr0 rfl)) (qsP (fun z=>Xo z.E Za ld rfl Tryz.underlying2 Tryz.underlying5 (kr0 rfl)) (qsP (v:=(vB (x13 ^^^ (ZG p2)))) (fun z=>Z9 z.E Za ld rfl rfl (V0 x13 (ZG p2)) (kr0 rfl)) (qsP (fun z=>Wg z.E Za ld (lk rfl hv17) (kr0 rfl)) (qsP (fun z=>Zq z.E Za ld rfl (AM) (kr0 rfl)) (qsP (fun z=>ZC z.E Za ld rfl rfl Tryz.underlying157 ty5 hi25.1 (kr0 rfl)) (qsP (fun z=>ZM (v:=(vB x26)) z.E Za ld rfl ty5 rfl (At.vec (At.cat (pre:=[]) (z.M.atk hA19 hB20) cl0) hi25.2) (kr0 rfl)) (qsP (v:=(vB (x10 ^^^ x26))) (fun z=>Z9 z.E Za ld rfl rfl (V0 x10 x26) (kr0 rfl)) (qsP (fun z=>ZC z.E Za ld rfl rfl Tryz.underlying68 ty5 hi28.1 (kr0 rfl)) qs0)))))))))))))) ?_
  ·intro a w u hE hM
   have hM:=hM.pull1
   refine Zm (seg:=[(vB (x10 ^^^ x26))]) (cs':=enc (p1.setIfInBounds ((0 : Int)).toNat (x10 ^^^ x26))) hE hM Za rfl rfl rfl ty5 rfl (ZS (v:=p1) (x:=x10 ^^^ x26) hi28.1) (Flat.cell (x10 ^^^ x26 : UInt8)) (ZD (v:=p1) (x:=x10 ^^^ x26) hi28.1) fun w a hM hE=>Zg ?_
   obtain rfl:=Option.some.inj hl6
   refine Zk ?_
   have hM:=hM.pull1
   exact ⟨hE.sub ⟨rfl,rfl,rfl,trivial⟩,hM⟩
 ·skip
  rintro a w ⟨hE,hM⟩
  refine wp_seq (Zb (Zc hE rfl fun a hE=>Ze ?_))
  obtain ⟨j32,hl33,hF34⟩:=bind_some hF7
  refine ZO (fun a w=>Env 41 a [(4,(ptr b1 0)),(6,(ptr b3 0))] ∧ M (Old w0) w0 w [raw b3 (enc (Vector.replicate 16 (0 : UInt8))),raw b1 (enc j32)]) ?_ ?_
  ·skip
   refine wp_block ?_
   refine ZE (fun (s35 : (Vector UInt8 16) × Int) a w=>Env 41 a [(0,v0_1),(4,(ptr b1 0)),(6,(ptr b3 0)),(7,vI s35.2)] ∧ M (Old w0) w0 w [raw b3 (enc (Vector.replicate 16 (0 : UInt8))),raw b1 (enc s35.1)]) hl33 ⟨hE.sub ⟨rfl,rfl,rfl,rfl,trivial⟩,hM⟩ ?_
   rintro s35 a w ⟨hE,hM⟩ o38 hs36 hx37
   unfold YR at hs36
   refine wp_seq (Zb (Zd hE rfl fun a hE=>Zi hE rfl rfl rfl fun a hE=>Ze ?_))
   refine Zo hE rfl ?_ ?_
   ·intro hb39
    have hs36:=Zt hs36 hb39
    refine wp_skip (Zp (wp_seq (wp_block ?_)))
    obtain ⟨x42,hi41,hs36⟩:=bvx hs36
    obtain ⟨x45,hi44,hs36⟩:=bvx hs36
    obtain ⟨pb47,ds48,hv49,hx50,hA51,hB52⟩:=UQ hv0_1 -- ^
    obtain ⟨u53,u55,rfl,h54,h56⟩:=Tr hx50 -- ^
    obtain ⟨x58,hi57,hs36⟩:=bvx hs36
    obtain ⟨x61,hi60,hs36⟩:=bvx hs36
    refine ZX [26,27,28,29,30,31,32,33,34,35,36,37,38,39] Yu rfl rfl (by decide) rfl hE hM (qsP (fun z=>Zj z.E Za ld rfl (kr0 rfl)) (qsP (fun z=>ZC z.E Za ld rfl rfl Tryz.underlying68 ty5 hi41.1 (kr0 rfl)) (qsP (fun z=>ZM (v:=(vB x42)) z.E Za ld rfl ty5 rfl (At.vec (z.M.rawAt1) hi41.2) (kr0 rfl)) (qsP (fun z=>Zj z.E Za ld rfl (kr0 rfl)) (qsP (fun z=>Zj z.E Za ld rfl (kr0 rfl)) (qsP (v:=(vI (wr (s35.2 - 1)))) (fun z=>Z9 z.E Za ld rfl rfl rfl (kr0 rfl)) (qsP (fun z=>ZC z.E Za ld rfl rfl Tryz.underlying68 ty5 hi44.1 (kr0 rfl)) (qsP (fun z=>ZM (v:=(vB x45)) z.E Za ld rfl ty5 rfl (At.vec (z.M.rawAt1) hi44.2) (kr0 rfl)) (qsP (fun z=>Wg z.E Za ld (lk rfl hv49) (kr0 rfl)) (qsP (fun z=>Zq z.E Za ld rfl (AM) (kr0 rfl)) (qsP (fun z=>ZC z.E Za ld rfl rfl Tryz.underlying157 ty5 hi57.1 (kr0 rfl)) (qsP (fun z=>ZM (v:=(vB x58)) z.E Za ld rfl ty5 rfl (At.vec (At.cat (pre:=[]) (z.M.atk hA51 hB52) cl0) hi57.2) (kr0 rfl)) (qsP (v:=(vB (x42 ^^^ x58))) (fun z=>Z9 z.E Za ld rfl rfl (V0 x42 x58) (kr0 rfl)) (qsP (fun z=>ZC z.E Za ld rfl rfl Tryz.underlying68 ty5 hi60.1 (kr0 rfl)) qs0)))))))))))))) ?_
    ·intro a w u hE hM
     have hM:=hM.pull1
     refine Zm (seg:=[(vB (x42 ^^^ x58))]) (cs':=enc (s35.1.setIfInBounds (s35.2).toNat (x42 ^^^ x58))) hE hM Za rfl rfl rfl ty5 rfl (ZS (v:=s35.1) (x:=x42 ^^^ x58) hi60.1) (Flat.cell (x42 ^^^ x58 : UInt8)) (ZD (v:=s35.1) (x:=x42 ^^^ x58) hi60.1) fun w a hM hE=>Zg (Yb (Zp (wp_region_lit (Zd hE rfl fun a hE=>Zi hE rfl rfl rfl fun a hE=>Zc hE rfl fun a hE=>Zg (Zk ?_)))))
     have hM:=hM.pull1
     exact ⟨_,(ois hs36),hE.sub ⟨rfl,rfl,rfl,rfl,trivial⟩,hM⟩
   ·intro hb39
    have hs36:=Zs hs36 hb39
    refine wp_exit (Zn (Zn (Ye ?_)))
    obtain rfl:=hx37 _ (ois hs36)
    refine Zk ?_
    exact ⟨hE.sub ⟨rfl,rfl,trivial⟩,hM⟩
  ·skip
   rintro a w ⟨hE,hM⟩
   refine Zp (Zb (Zr hE rfl ZJ rfl hM.rawAt1 (Flat.len _) fun a hE=>Zm (seg:=enc j32) (cs':=enc j32) hE hM Za rfl rfl rfl ZJ (Flat.len _) (zle flq) (Flat.cell _) (Zh flq) fun w a hM hE=>Ze ?_))
   obtain rfl:=Option.some.inj hF34
   have hq64 : Z6 Tryz.prog _ _ (.cell 6 68) _:=ZK hE rfl ZJ rfl hM.rawAt0 (Flat.len _) rfl
   exact wp_ret (ZP hE rfl hq64 ⟨_,rfl,rfl,hM.kept⟩)
def Xt (p0 : (Ref Gengine)) (p2 : Int) (s10 : (Vector UInt8 16) × (List (Vector UInt8 16)) × Int) : Option (Fl ((Vector UInt8 16) × (List (Vector UInt8 16)) × Int) (List (Vector UInt8 16))) :=
 if (decide (s10.2.2 ≤ p2)) = true then ((XJ p0 s10.1 s10.2.2).bind fun r17=>(app 16 s10.2.1 ([r17] : List (Vector UInt8 16))).bind fun l21=>some (Fl.nx (r17,(s10.2.1 ++ ([r17] : List (Vector UInt8 16))),wr (s10.2.2 + 1)))) else (some (Fl.ex s10.2.1))
def WO (p0 : (Ref Gengine)) (p1 : (Vector UInt8 16)) (p2 : Int) : Option ((List (Vector UInt8 16))) :=
 (ZA (Xt p0 p2) (p1,([p1] : List (Vector UInt8 16)),1)).bind fun j5=>some j5
theorem Kq (w0 : World) (p0 : (Ref Gengine)) (v0_1 : Value) (hv0_1 : Ro w0 p0 [v0_1]) (p1 : (Vector UInt8 16)) (p2 : Int) (r : (List (Vector UInt8 16))) (hF : WO p0 p1 p2 = some r) :
  Calls Tryz.prog 218 [v0_1,(Value.agg (enc p1).toArray),vI p2].toArray w0 (fun en w'=>∃ v,en = .returned v ∧ (∃ (y1 : Value),v = y1 ∧ Fr w0 w' [osl NoB (r : List (Vector UInt8 16)) y1] ∧ Kept (Old w0) w0 w')):=by
 refine ce Tryz.func218 ?_
 intro a hE
 have hM:=M.start w0
 unfold WO at hF
 refine Zb (Ya (cs:=enc p1) hE hM Za ld rfl rfl fun b1 w a hM hE=>Zc hE rfl fun a hE=>Ze (Zb (Zr hE rfl ZJ rfl hM.rawAt0 (Flat.len _) fun a hE=>Yr (xs:=[.tmp 9]) (l:=([p1] : List (Vector UInt8 16))) (vs:=[(Value.agg (enc p1).toArray)]) hE hM Za ld rfl rfl Tryz.underlying54 ZJ rfl (by decide) rfl fun u3 w a hM hE=>Zc hE rfl fun a hE=>Ze (wp_seq (Zb (Zc hE rfl fun a hE=>Ze ?_))))))
 obtain ⟨j5,hl6,hF7⟩:=bind_some hF
 refine ZO (fun a w=>∃ (u8 : Value),Env 25 a [(7,u8)] ∧ M (Old w0) w0 w [osl NoB (j5 : List (Vector UInt8 16)) u8]) ?_ ?_
 ·skip
  refine wp_block ?_
  have hM:=hM.pull1
  refine ZE (fun (s10 : (Vector UInt8 16) × (List (Vector UInt8 16)) × Int) a w=>∃ (u11 : Value),Env 25 a [(0,v0_1),(2,vI p2),(4,(ptr b1 0)),(7,u11),(8,vI s10.2.2)] ∧ M (Old w0) w0 w [raw b1 (enc s10.1),osl NoB (s10.2.1 : List (Vector UInt8 16)) u11]) hl6 ⟨u3,hE.sub ⟨rfl,rfl,rfl,rfl,rfl,trivial⟩,hM⟩ ?_
  rintro s10 a w ⟨u11,hE,hM⟩ o15 hs13 hx14
  unfold Xt at hs13
  refine wp_seq (Zb (Zd hE rfl fun a hE=>Zd hE rfl fun a hE=>Zi hE rfl rfl rfl fun a hE=>Ze ?_))
  refine Zo hE rfl ?_ ?_
  ·intro hb16
   have hs13:=Zt hs13 hb16
   refine wp_skip (Zp (wp_seq (wp_block (Zb (Zd hE rfl fun a hE=>Zr hE rfl ZJ rfl hM.rawAt0 (Flat.len _) fun a hE=>Zd hE rfl ?_))))); intro a hE
   obtain ⟨r17,e18,hs13⟩:=bind_some hs13
   refine Zx hE rfl (cbm Tryz.func237) (QP _ p0 v0_1 (hM.rdo hv0_1) s10.1 s10.2.2 r17 e18) ?_
   rintro v w a ⟨rfl,hK⟩ hE
   have hM:=hM.keep hK
   refine Zm (seg:=enc r17) (cs':=enc r17) hE hM Za rfl rfl rfl ZJ (Flat.len _) (zle flq) (Flat.cell _) (Zh flq) fun w a hM hE=>Ze (wp_region_lit (Zd hE rfl fun a hE=>Zr hE rfl ZJ rfl hM.rawAt0 (Flat.len _) fun a hE=>Yr (xs:=[.tmp 21]) (l:=([r17] : List (Vector UInt8 16))) (vs:=[(Value.agg (enc r17).toArray)]) hE hM Za ld rfl rfl Tryz.underlying54 ZJ rfl (by decide) rfl ?_)); intro u19 w a hM hE
   obtain ⟨l21,e22,hs13⟩:=bind_some hs13
   obtain ⟨e25,rfl⟩:=Yj e22
   have hM:=hM.pull2
   refine Z2 hE hM Za ld rfl rfl (hM.sl (pre:=[_]) noB) Tryz.underlying54 ZJ rfl (by decide) e25 fun u23 w a hM hE=>Zc hE rfl fun a hE=>Zg (Yb (Zp (wp_region_lit (Zd hE rfl fun a hE=>Zi hE rfl rfl rfl fun a hE=>Zc hE rfl fun a hE=>Zg (Zk ?_)))))
   have hM:=M.fst (l:=[_,_]) hM.pull2
   exact ⟨_,(ois hs13),u23,hE.sub ⟨rfl,rfl,rfl,rfl,rfl,trivial⟩,hM⟩
  ·intro hb16
   have hs13:=Zs hs13 hb16
   refine wp_exit (Zn (Zn (Ye ?_)))
   obtain rfl:=hx14 _ (ois hs13)
   refine Zk ?_
   have hM:=M.fst (l:=[_]) hM.pull1
   exact ⟨u11,hE.sub ⟨rfl,trivial⟩,hM⟩
 ·skip
  rintro a w ⟨u8,hE,hM⟩
  refine Zp (Zb (Zd hE rfl fun a hE=>Zc hE rfl fun a hE=>Ze ?_))
  obtain rfl:=Option.some.inj hF7
  exact wp_ret (ZP hE rfl (ZU hE rfl) ⟨_,rfl,u8,rfl,hM.outF (Yf Xi),hM.kept⟩)
def Xz (p0 : (Vector UInt8 16)) (p1 : (Vector UInt8 16)) (s12 : (Vector UInt8 16) × Int) : Option (Fl ((Vector UInt8 16) × Int) (Vector UInt8 16)) :=
 if (decide (s12.2 < 16)) = true then ((ZI p0 s12.2).bind fun x17=>(ZI p1 (bI x17)).bind fun x21=>(ZI s12.1 s12.2).bind fun x24=>some (Fl.nx ((s12.1.setIfInBounds (s12.2).toNat x21),wr (s12.2 + 1)))) else (some (Fl.ex s12.1))
def WS (p0 : (Vector UInt8 16)) (p1 : (Vector UInt8 16)) : Option ((Vector UInt8 16)) :=
 (ZA (Xz p0 p1) ((Vector.replicate 16 (0 : UInt8)),0)).bind fun j9=>some j9
theorem KI (w0 : World) (p0 : (Vector UInt8 16)) (p1 : (Vector UInt8 16)) (r : (Vector UInt8 16)) (hF : WS p0 p1 = some r) :
  Calls Tryz.prog 235 [(Value.agg (enc p0).toArray),(Value.agg (enc p1).toArray)].toArray w0 (Rt w0 (Value.agg (enc r).toArray)):=by
 refine ce Tryz.func235 ?_
 intro a hE
 have hM:=M.start w0
 unfold WS at hF
 refine Zb (Ya (cs:=enc p0) hE hM Za ld rfl rfl fun b1 w a hM hE=>Ya (cs:=enc p1) hE hM Za ld rfl rfl fun b3 w a hM hE=>Zz hE hM ZJ fun b5 w a hM hE=>Ze (Zb (YB (parts:=[]) (vs:=[]) (cs:=enc (Vector.replicate 16 (0 : UInt8))) hE Za ld rfl rfl ZJ rfl ty5 Yp fun a hE=>Zz hE hM ZJ fun b7 w a hM hE=>Zm (seg:=enc (Vector.replicate 16 (0 : UInt8))) (cs':=enc (Vector.replicate 16 (0 : UInt8))) hE hM Za rfl rfl rfl ZJ (Flat.len _) (zle flq) (Flat.cell _) (Zh flq) fun w a hM hE=>Ze (wp_seq (Zb (Zr hE rfl TN rfl hM.rawAt3 (Flat.len _) fun a hE=>Zd hE rfl fun a hE=>Ze ?_))))))
 obtain ⟨j9,hl10,hF11⟩:=bind_some hF
 refine ZO (fun a w=>Env 21 a [(4,(ptr b5 0)),(5,(ptr b7 0))] ∧ M (Old w0) w0 w [raw b7 (enc j9),raw b5 (enc (Vector.replicate 16 (0 : UInt8)))]) ?_ ?_
 ·skip
  refine wp_block ?_
  have hM:=M.fst (l:=[_,_,_]) hM.pull2.pull2.pull2
  refine ZE (fun (s12 : (Vector UInt8 16) × Int) a w=>Env 21 a [(3,(ptr b3 0)),(4,(ptr b5 0)),(5,(ptr b7 0)),(9,(Value.agg (enc p0).toArray)),(10,vI s12.2)] ∧ M (Old w0) w0 w [raw b7 (enc s12.1),raw b5 (enc (Vector.replicate 16 (0 : UInt8))),raw b3 (enc p1)]) hl10 ⟨hE.sub ⟨rfl,rfl,rfl,rfl,rfl,trivial⟩,hM⟩ ?_
  rintro s12 a w ⟨hE,hM⟩ o15 hs13 hx14
  unfold Xz at hs13
  refine Zb (Zi hE rfl rfl rfl fun a hE=>Ze (wp_seq ?_))
  refine Zo hE rfl ?_ ?_
  ·intro hb16
   have hs13:=Zt hs13 hb16
   refine wp_skip (Zp (wp_seq (wp_block (Zb (Zd hE rfl ?_))))); intro a hE
   obtain ⟨x17,hi19,hs13⟩:=bvx hs13
   refine Q3 hE Za ld rfl rfl Tryz.underlying161 ty5 rfl rfl hi19 rfl fun a hE=>Zc hE rfl fun a hE=>Zc hE rfl fun a hE=>Ze (wp_region_lit (Zd hE rfl fun a hE=>Zd hE rfl ?_)); intro a hE
   obtain ⟨x21,hi20,hs13⟩:=bvx hs13
   refine ZF hE rfl rfl Tryz.underlying68 ty5 hi20.1 fun a hE=>ZB (v:=(vB x21)) hE rfl ty5 rfl (At.vec hM.rawAt2 hi20.2) ?_; intro a hE
   obtain ⟨x24,hi23,hs13⟩:=bvx hs13
   refine ZF hE rfl rfl Tryz.underlying68 ty5 hi23.1 fun a hE=>Zm (seg:=[vB x21]) (cs':=enc (s12.1.setIfInBounds (s12.2).toNat x21)) hE hM Za rfl rfl rfl ty5 rfl (ZS (v:=s12.1) (x:=x21) hi23.1) (Flat.cell (x21 : UInt8)) (ZD (v:=s12.1) (x:=x21) hi23.1) fun w a hM hE=>Zg (Yb (Zp (wp_region_lit (Zi hE rfl rfl rfl fun a hE=>Zd hE rfl fun a hE=>Zg (Zk ?_)))))
   exact ⟨_,(ois hs13),hE.sub ⟨rfl,rfl,rfl,rfl,rfl,trivial⟩,hM⟩
  ·intro hb16
   have hs13:=Zs hs13 hb16
   refine wp_exit (Zn (Zn (Ye ?_)))
   obtain rfl:=hx14 _ (ois hs13)
   refine Zk ?_
   have hM:=M.fst (l:=[_,_]) hM.pull1.pull1
   exact ⟨hE.sub ⟨rfl,rfl,trivial⟩,hM⟩
 ·skip
  rintro a w ⟨hE,hM⟩
  refine Zp (Zb (Zr hE rfl ZJ rfl hM.rawAt0 (Flat.len _) ?_)); intro a hE
  have hM:=hM.pull1
  refine Zm (seg:=enc j9) (cs':=enc j9) hE hM Za rfl rfl rfl ZJ (Flat.len _) (zle flq) (Flat.cell _) (Zh flq) fun w a hM hE=>Ze ?_
  obtain rfl:=Option.some.inj hF11
  have hq27 : Z6 Tryz.prog _ _ (.cell 4 68) _:=ZK hE rfl ZJ rfl hM.rawAt0 (Flat.len _) rfl
  exact wp_ret (ZP hE rfl hq27 ⟨_,rfl,rfl,hM.kept⟩)
def X4 (p0 : (Ref (Vector (Vector (Vector UInt8 256) 4) 4))) (s4 : (Vector UInt8 16) × Int) (j9 : UInt8 × UInt8 × UInt8 × UInt8) (s29 : (Vector UInt8 16) × Int) : Option (Fl ((Vector UInt8 16) × Int) (Vector UInt8 16)) :=
 if (decide (s29.2 < 4)) = true then ((ZI p0.v s29.2).bind fun x42=>(ZI x42 (0 : Int)).bind fun x45=>(ZI x45 (bI j9.1)).bind fun x48=>(ZI p0.v s29.2).bind fun x57=>(ZI x57 (1 : Int)).bind fun x60=>(ZI x60 (bI j9.2.1)).bind fun x63=>(ZI p0.v s29.2).bind fun x72=>(ZI x72 (2 : Int)).bind fun x75=>(ZI x75 (bI j9.2.2.1)).bind fun x78=>(ZI p0.v s29.2).bind fun x87=>(ZI x87 (3 : Int)).bind fun x90=>(ZI x90 (bI j9.2.2.2)).bind fun x93=>(ZI s29.1 (wr (s4.2 + s29.2))).bind fun x95=>some (Fl.nx ((s29.1.setIfInBounds ((wr (s4.2 + s29.2))).toNat (((x48 ^^^ x63) ^^^ x78) ^^^ x93)),wr (s29.2 + 1)))) else (some (Fl.ex s29.1))
def X2 (p0 : (Ref (Vector (Vector (Vector UInt8 256) 4) 4))) (s4 : (Vector UInt8 16) × Int) : Option (Fl ((Vector UInt8 16) × Int) (Vector UInt8 16)) :=
 if (decide (s4.2 < (s4.1.toList.length : Int))) = true then (((ZI s4.1 s4.2).bind fun x13=>(ZI s4.1 (wr (s4.2 + 1))).bind fun x16=>(ZI s4.1 (wr (s4.2 + 2))).bind fun x19=>(ZI s4.1 (wr (s4.2 + 3))).bind fun x22=>some (x13,x16,x19,x22) : Option (UInt8 × UInt8 × UInt8 × UInt8)).bind fun j9=>(ZA (X4 p0 s4 j9) (s4.1,0)).bind fun j26=>some (Fl.nx (j26,wr (s4.2 + 4)))) else (some (Fl.ex s4.1))
def Vt (p0 : (Ref (Vector (Vector (Vector UInt8 256) 4) 4))) (p1 : (Vector UInt8 16)) : Option ((Vector UInt8 16)) :=
 (ZA (X2 p0) (p1,0)).bind fun j1=>some j1
theorem Jr (St : Nat → Prop) (W w0 : World) (its : List Item) (p0 : (Ref (Vector (Vector (Vector UInt8 256) 4) 4))) (v0_1 : Value) (hv0_1 : Rep.sat St W p0 [v0_1] []) (pb1 : Nat) (p1 : (Vector UInt8 16)) (hM : M St W w0 (raw pb1 (enc p1) :: its)) (r : (Vector UInt8 16)) (hF : Vt p0 p1 = some r) :
  Calls Tryz.prog 236 [v0_1,(Value.slice (some ⟨pb1,0,none⟩) 16 16)].toArray w0 (fun en w'=>∃ v,en = .returned v ∧ (v = (Value.tuple [].toArray) ∧ M St W w' (raw pb1 (enc r) :: its))):=by
 refine ce Tryz.func236 ?_
 intro a hE
 unfold Vt at hF
 refine Zb (Zc hE rfl fun a hE=>Ze ?_)
 obtain ⟨j1,hl2,hF3⟩:=bind_some hF
 refine ZO (fun a w=>Env 79 a [(1,(Value.slice (some ⟨pb1,0,none⟩) 16 16))] ∧ M St W w (raw pb1 (enc j1) :: its)) ?_ ?_
 ·skip
  refine wp_block ?_
  refine ZE (fun (s4 : (Vector UInt8 16) × Int) a w=>Env 79 a [(0,v0_1),(1,(Value.slice (some ⟨pb1,0,none⟩) 16 16)),(4,vI s4.2)] ∧ M St W w (raw pb1 (enc s4.1) :: its)) hl2 ⟨hE.sub ⟨rfl,rfl,rfl,trivial⟩,hM⟩ ?_
  rintro s4 a w ⟨hE,hM⟩ o7 hs5 hx6
  unfold X2 at hs5
  refine wp_seq (Zb (Zd hE rfl fun a hE=>Zd hE rfl fun a hE=>Z5 hE rfl Tryz.underlying40 (jL hM.rawAt0) fun a hE=>Zi hE rfl rfl rfl fun a hE=>Ze ?_))
  refine Zo hE rfl ?_ ?_
  ·intro hb8
   have hs5:=Zt hs5 hb8
   refine wp_skip (Zp (wp_seq (wp_block ?_)))
   obtain ⟨j9,hl10,hF11⟩:=bind_some hs5
   refine ZN (fun a w=>Env 79 a [(0,v0_1),(1,(Value.slice (some ⟨pb1,0,none⟩) 16 16)),(4,vI s4.2),(5,vB j9.1),(6,vB j9.2.1),(7,vB j9.2.2.1),(8,vB j9.2.2.2)] ∧ M St W w (raw pb1 (enc s4.1) :: its)) ?_ ?_
   ·skip
    obtain ⟨x13,hi15,hl10⟩:=bvx hl10
    obtain ⟨x16,hi18,hl10⟩:=bvx hl10
    obtain ⟨x19,hi21,hl10⟩:=bvx hl10
    obtain ⟨x22,hi24,hl10⟩:=bvx hl10
    refine jS (n:=79) (hd:=[_,_,_,_,_,_,_,_,_,_,_,_,_,_,_,_,_,_,_,_,_,_,_]) (tl:=[]) Yu rfl rfl [16,17,18,19,20,21,22,23,24,25,26,27,28,29,30,31,32,33,34,5,6,7,8] (by decide) (fun w=>M St W w (raw pb1 (enc s4.1) :: its)) (fun j=>([fun v _=>v = (Value.slice (some ⟨pb1,0,none⟩) 16 16),fun v _=>v = (vI s4.2),fun v _=>v = (ptr pb1 (0 + (s4.2).toNat * 1)),fun v _=>v = (vB x13),fun v _=>v = (Value.slice (some ⟨pb1,0,none⟩) 16 16),fun v _=>v = (vI s4.2),fun v _=>v = (vI (wr (s4.2 + 1))),fun v _=>v = (ptr pb1 (0 + ((wr (s4.2 + 1))).toNat * 1)),fun v _=>v = (vB x16),fun v _=>v = (Value.slice (some ⟨pb1,0,none⟩) 16 16),fun v _=>v = (vI s4.2),fun v _=>v = (vI (wr (s4.2 + 2))),fun v _=>v = (ptr pb1 (0 + ((wr (s4.2 + 2))).toNat * 1)),fun v _=>v = (vB x19),fun v _=>v = (Value.slice (some ⟨pb1,0,none⟩) 16 16),fun v _=>v = (vI s4.2),fun v _=>v = (vI (wr (s4.2 + 3))),fun v _=>v = (ptr pb1 (0 + ((wr (s4.2 + 3))).toNat * 1)),fun v _=>v = (vB x22),fun v _=>v = (vB x13),fun v _=>v = (vB x16),fun v _=>v = (vB x19),fun v _=>v = (vB x22)] : List (Value → World → Prop)).getD j (fun _ _=>True)) (fun _ _ h hk=>h.keep hk) (gup gu23) hE hM.drew (st23 ?_ ?_ ?_ ?_ ?_ ?_ ?_ ?_ ?_ ?_ ?_ ?_ ?_ ?_ ?_ ?_ ?_ ?_ ?_ ?_ ?_ ?_ ?_) ?_
    ·exact qm
    ·exact qm
    ·intro a w ux12 hE hM hp
     have f0 : ux12 0 = (Value.slice (some ⟨pb1,0,none⟩) 16 16):=hp 0 _ rfl rfl
     have f1 : ux12 1 = (vI s4.2):=hp 1 _ rfl rfl
     exact TB hE Za ld (lk rfl f0) (lk rfl f1) Tryz.underlying40 ty5 hi15.1 fun a hE=>kq rfl hE rfl
    ·intro a w ux12 hE hM hp
     have f2 : ux12 2 = (ptr pb1 (0 + (s4.2).toNat * 1)):=hp 0 _ rfl rfl
     exact ZB (v:=(vB x13)) hE (lk rfl f2) ty5 rfl (At.vec hM.rawAt0 hi15.2) fun a hE=>kq rfl hE rfl
    ·exact qm
    ·exact qm
    ·intro a w ux12 hE hM hp
     have f5 : ux12 5 = (vI s4.2):=hp 0 _ rfl rfl
     exact Zi hE (lk rfl f5) rfl rfl fun a hE=>kq rfl hE rfl
    ·intro a w ux12 hE hM hp
     have f4 : ux12 4 = (Value.slice (some ⟨pb1,0,none⟩) 16 16):=hp 0 _ rfl rfl
     have f6 : ux12 6 = (vI (wr (s4.2 + 1))):=hp 1 _ rfl rfl
     exact TB hE Za ld (lk rfl f4) (lk rfl f6) Tryz.underlying40 ty5 hi18.1 fun a hE=>kq rfl hE rfl
    ·intro a w ux12 hE hM hp
     have f7 : ux12 7 = (ptr pb1 (0 + ((wr (s4.2 + 1))).toNat * 1)):=hp 0 _ rfl rfl
     exact ZB (v:=(vB x16)) hE (lk rfl f7) ty5 rfl (At.vec hM.rawAt0 hi18.2) fun a hE=>kq rfl hE rfl
    ·exact qm
    ·exact qm
    ·intro a w ux12 hE hM hp
     have f10 : ux12 10 = (vI s4.2):=hp 0 _ rfl rfl
     exact Zi hE (lk rfl f10) rfl rfl fun a hE=>kq rfl hE rfl
    ·intro a w ux12 hE hM hp
     have f9 : ux12 9 = (Value.slice (some ⟨pb1,0,none⟩) 16 16):=hp 0 _ rfl rfl
     have f11 : ux12 11 = (vI (wr (s4.2 + 2))):=hp 1 _ rfl rfl
     exact TB hE Za ld (lk rfl f9) (lk rfl f11) Tryz.underlying40 ty5 hi21.1 fun a hE=>kq rfl hE rfl
    ·intro a w ux12 hE hM hp
     have f12 : ux12 12 = (ptr pb1 (0 + ((wr (s4.2 + 2))).toNat * 1)):=hp 0 _ rfl rfl
     exact ZB (v:=(vB x19)) hE (lk rfl f12) ty5 rfl (At.vec hM.rawAt0 hi21.2) fun a hE=>kq rfl hE rfl
    ·exact qm
    ·exact qm
    ·intro a w ux12 hE hM hp
     have f15 : ux12 15 = (vI s4.2):=hp 0 _ rfl rfl
     exact Zi hE (lk rfl f15) rfl rfl fun a hE=>kq rfl hE rfl
    ·intro a w ux12 hE hM hp
     have f14 : ux12 14 = (Value.slice (some ⟨pb1,0,none⟩) 16 16):=hp 0 _ rfl rfl
     have f16 : ux12 16 = (vI (wr (s4.2 + 3))):=hp 1 _ rfl rfl
     exact TB hE Za ld (lk rfl f14) (lk rfl f16) Tryz.underlying40 ty5 hi24.1 fun a hE=>kq rfl hE rfl
    ·intro a w ux12 hE hM hp
     have f17 : ux12 17 = (ptr pb1 (0 + ((wr (s4.2 + 3))).toNat * 1)):=hp 0 _ rfl rfl
     exact ZB (v:=(vB x22)) hE (lk rfl f17) ty5 rfl (At.vec hM.rawAt0 hi24.2) fun a hE=>kq rfl hE rfl
    ·intro a w ux12 hE hM hp
     have f3 : ux12 3 = (vB x13):=hp 0 _ rfl rfl
     exact Zc hE (lk rfl f3) fun a hE=>kq rfl hE rfl
    ·intro a w ux12 hE hM hp
     have f8 : ux12 8 = (vB x16):=hp 0 _ rfl rfl
     exact Zc hE (lk rfl f8) fun a hE=>kq rfl hE rfl
    ·intro a w ux12 hE hM hp
     have f13 : ux12 13 = (vB x19):=hp 0 _ rfl rfl
     exact Zc hE (lk rfl f13) fun a hE=>kq rfl hE rfl
    ·intro a w ux12 hE hM hp
     have f18 : ux12 18 = (vB x22):=hp 0 _ rfl rfl
     exact Zc hE (lk rfl f18) fun a hE=>kq rfl hE rfl
    ·intro a w ux12 hE hM hg
     have hE:=hE.sub (e':=[(5,vB x13),(6,vB x16),(7,vB x19),(8,vB x22),(0,v0_1),(1,(Value.slice (some ⟨pb1,0,none⟩) 16 16)),(4,vI s4.2),(10,vI s4.2),(11,(Value.slice (some ⟨pb1,0,none⟩) 16 16)),(12,(vI (s4.1.toList.length : Int))),(13,(vT (decide (s4.2 < (s4.1.toList.length : Int)))))]) ⟨lk rfl (hg 19 (by decide)),lk rfl (hg 20 (by decide)),lk rfl (hg 21 (by decide)),lk rfl (hg 22 (by decide)),rfl,rfl,rfl,rfl,rfl,rfl,rfl,trivial⟩
     refine Zg ?_
     obtain rfl:=Option.some.inj hl10
     refine Zk ?_
     exact ⟨hE.sub ⟨rfl,rfl,rfl,rfl,rfl,rfl,rfl,trivial⟩,hM⟩
   ·skip
    rintro a w ⟨hE,hM⟩
    refine Zb (Zd hE rfl fun a hE=>Ze ?_)
    obtain ⟨j26,hl27,hF28⟩:=bind_some hF11
    refine ZO (fun a w=>Env 79 a [(0,v0_1),(1,(Value.slice (some ⟨pb1,0,none⟩) 16 16)),(4,vI s4.2)] ∧ M St W w (raw pb1 (enc j26) :: its)) ?_ ?_
    ·skip
     refine wp_block ?_
     refine ZE (fun (s29 : (Vector UInt8 16) × Int) a w=>Env 79 a [(0,v0_1),(1,(Value.slice (some ⟨pb1,0,none⟩) 16 16)),(4,vI s4.2),(5,vB j9.1),(6,vB j9.2.1),(7,vB j9.2.2.1),(8,vB j9.2.2.2),(35,vI s29.2)] ∧ M St W w (raw pb1 (enc s29.1) :: its)) hl27 ⟨hE.sub ⟨rfl,rfl,rfl,rfl,rfl,rfl,rfl,rfl,trivial⟩,hM⟩ ?_
     rintro s29 a w ⟨hE,hM⟩ o32 hs30 hx31
     unfold X4 at hs30
     refine Zb (Zi hE rfl rfl rfl fun a hE=>Ze (wp_seq ?_))
     refine Zo hE rfl ?_ ?_
     ·intro hb33
      have hs30:=Zt hs30 hb33
      refine wp_skip (Zp (wp_seq (wp_block (Zb (Zd hE rfl fun a hE=>Zc hE rfl fun a hE=>Ze ?_)))))
      obtain ⟨pb35,ds36,hv37,hx38,hA39,hB40⟩:=UQ hv0_1 -- ^
      obtain ⟨rfl,_⟩:=TG.1 hx38 -- ^
      obtain ⟨x42,hi41,hs30⟩:=bvx hs30
      obtain ⟨x45,hi44,hs30⟩:=bvx hs30
      obtain ⟨x48,hi47,hs30⟩:=bvx hs30
      obtain ⟨pb50,ds51,hv52,hx53,hA54,hB55⟩:=UQ hv0_1 -- ^
      obtain ⟨rfl,_⟩:=TG.1 hx53 -- ^
      obtain ⟨x57,hi56,hs30⟩:=bvx hs30
      obtain ⟨x60,hi59,hs30⟩:=bvx hs30
      obtain ⟨x63,hi62,hs30⟩:=bvx hs30
      obtain ⟨pb65,ds66,hv67,hx68,hA69,hB70⟩:=UQ hv0_1 -- ^
      obtain ⟨rfl,_⟩:=TG.1 hx68 -- ^
      obtain ⟨x72,hi71,hs30⟩:=bvx hs30
      obtain ⟨x75,hi74,hs30⟩:=bvx hs30
      obtain ⟨x78,hi77,hs30⟩:=bvx hs30
      obtain ⟨pb80,ds81,hv82,hx83,hA84,hB85⟩:=UQ hv0_1 -- ^
      obtain ⟨rfl,_⟩:=TG.1 hx83 -- ^
      obtain ⟨x87,hi86,hs30⟩:=bvx hs30
      obtain ⟨x90,hi89,hs30⟩:=bvx hs30
      obtain ⟨x93,hi92,hs30⟩:=bvx hs30
      obtain ⟨x95,hi97,hs30⟩:=bvx hs30
      refine jS (n:=79) (hd:=[_,_,_,_,_,_,_,_,_,_,_,_,_,_,_,_,_,_,_,_,_,_,_,_,_,_,_,_,_,_,_,_,_,_,_,_,_,_,_,_]) (tl:=[_]) Yu rfl rfl [38,39,40,41,42,43,44,45,46,47,48,49,50,51,52,53,54,55,56,57,58,59,60,61,62,63,64,65,66,67,68,69,70,71,72,73,74,75,76,77] (by decide) (fun w=>M St W w (raw pb1 (enc s29.1) :: its)) (fun j=>([fun v _=>v = (Value.slice (some ⟨pb1,0,none⟩) 16 16),fun v _=>v = (vI s4.2),fun v _=>v = (vI s29.2),fun v _=>v = (vI (wr (s4.2 + s29.2))),fun v _=>v = v0_1,fun v _=>v = (vI s29.2),fun v _=>v = (vB j9.1),fun v _=>v = (ptr pb35 0),fun v _=>v = (ptr pb35 (0 + (s29.2).toNat * 1024)),fun v _=>v = (ptr pb35 (0 + (s29.2).toNat * 1024 + ((0 : Int)).toNat * 256)),fun v _=>v = (ptr pb35 (0 + (s29.2).toNat * 1024 + ((0 : Int)).toNat * 256 + ((bI j9.1)).toNat * 1)),fun v _=>v = (vB x48),fun v _=>v = v0_1,fun v _=>v = (vI s29.2),fun v _=>v = (vB j9.2.1),fun v _=>v = (ptr pb50 0),fun v _=>v = (ptr pb50 (0 + (s29.2).toNat * 1024)),fun v _=>v = (ptr pb50 (0 + (s29.2).toNat * 1024 + ((1 : Int)).toNat * 256)),fun v _=>v = (ptr pb50 (0 + (s29.2).toNat * 1024 + ((1 : Int)).toNat * 256 + ((bI j9.2.1)).toNat * 1)),fun v _=>v = (vB x63),fun v _=>v = (vB (x48 ^^^ x63)),fun v _=>v = v0_1,fun v _=>v = (vI s29.2),fun v _=>v = (vB j9.2.2.1),fun v _=>v = (ptr pb65 0),fun v _=>v = (ptr pb65 (0 + (s29.2).toNat * 1024)),fun v _=>v = (ptr pb65 (0 + (s29.2).toNat * 1024 + ((2 : Int)).toNat * 256)),fun v _=>v = (ptr pb65 (0 + (s29.2).toNat * 1024 + ((2 : Int)).toNat * 256 + ((bI j9.2.2.1)).toNat * 1)),fun v _=>v = (vB x78),fun v _=>v = (vB ((x48 ^^^ x63) ^^^ x78)),fun v _=>v = v0_1,fun v _=>v = (vI s29.2),fun v _=>v = (vB j9.2.2.2),fun v _=>v = (ptr pb80 0),fun v _=>v = (ptr pb80 (0 + (s29.2).toNat * 1024)),fun v _=>v = (ptr pb80 (0 + (s29.2).toNat * 1024 + ((3 : Int)).toNat * 256)),fun v _=>v = (ptr pb80 (0 + (s29.2).toNat * 1024 + ((3 : Int)).toNat * 256 + ((bI j9.2.2.2)).toNat * 1)),fun v _=>v = (vB x93),fun v _=>v = (vB (((x48 ^^^ x63) ^^^ x78) ^^^ x93)),fun v _=>v = (ptr pb1 (0 + ((wr (s4.2 + s29.2))).toNat * 1))] : List (Value → World → Prop)).getD j (fun _ _=>True)) (fun _ _ h hk=>h.keep hk) (gup (Y5 (Y5 (Y5 (Y5 (Y5 (Y5 (Y5 (Y5 (Y5 (Y5 (Y5 (Y5 (Y5 (Y5 (Y5 (Y5 (Y5 (Y5 (Y5 (Y5 (Y5 (Y5 (Y5 (Y5 (Y5 (Y5 (Y5 (Y5 (Y5 (Y5 (Y5 (Y5 (Y5 (Y5 (Y5 (Y5 (Y5 (Y5 (Y5 (Y5 gupN))))))))))))))))))))))))))))))))))))))))) hE hM.drew (z7 (Zu ?_ (Zu ?_ (Zu ?_ (Zu ?_ (Zu ?_ (Zu ?_ (Zu ?_ (Zu ?_ (Zu ?_ (Zu ?_ (Zu ?_ (Zu ?_ (Zu ?_ (Zu ?_ (Zu ?_ (Zu ?_ (Zu ?_ (Zu ?_ (Zu ?_ (Zu ?_ (Zu ?_ (Zu ?_ (Zu ?_ (Zu ?_ (Zu ?_ (Zu ?_ (Zu ?_ (Zu ?_ (Zu ?_ (Zu ?_ (Zu ?_ (Zu ?_ (Zu ?_ (Zu ?_ (Zu ?_ (Zu ?_ (Zu ?_ (Zu ?_ (Zu ?_ (Zu ?_ B2))))))))))))))))))))))))))))))))))))))))) ?_
      ·exact qm
      ·exact qm
      ·exact qm
      ·intro a w ux34 hE hM hp
       have f1 : ux34 1 = (vI s4.2):=hp 0 _ rfl rfl
       have f2 : ux34 2 = (vI s29.2):=hp 1 _ rfl rfl
       exact Zi hE (lk rfl f1) (lk rfl f2) rfl fun a hE=>kq rfl hE rfl
      ·exact qm
      ·exact qm
      ·exact qm
      ·intro a w ux34 hE hM hp
       have f4 : ux34 4 = v0_1:=hp 0 _ rfl rfl
       exact Wg hE Za ld (lk (lk rfl f4) hv37) fun a hE=>kq rfl hE rfl
      ·intro a w ux34 hE hM hp
       have f5 : ux34 5 = (vI s29.2):=hp 1 _ rfl rfl
       have f7 : ux34 7 = (ptr pb35 0):=hp 0 _ rfl rfl
       exact ZF hE (lk rfl f7) (lk rfl f5) Tryz.underlying265 HF hi41.1 fun a hE=>kq rfl hE rfl
      ·intro a w ux34 hE hM hp
       have f8 : ux34 8 = (ptr pb35 (0 + (s29.2).toNat * 1024)):=hp 0 _ rfl rfl
       exact ZF hE (lk rfl f8) rfl Tryz.underlying263 Aj hi44.1 fun a hE=>kq rfl hE rfl
      ·intro a w ux34 hE hM hp
       have f6 : ux34 6 = (vB j9.1):=hp 1 _ rfl rfl
       have f9 : ux34 9 = (ptr pb35 (0 + (s29.2).toNat * 1024 + ((0 : Int)).toNat * 256)):=hp 0 _ rfl rfl
       exact ZF hE (lk rfl f9) (lk rfl f6) Tryz.underlying156 ty5 hi47.1 fun a hE=>kq rfl hE rfl
      ·intro a w ux34 hE hM hp
       have f10 : ux34 10 = (ptr pb35 (0 + (s29.2).toNat * 1024 + ((0 : Int)).toNat * 256 + ((bI j9.1)).toNat * 1)):=hp 0 _ rfl rfl
       exact ZB (v:=(vB x48)) hE (lk rfl f10) ty5 rfl (At.vec (At.vec (At.vec (hM.atk hA39 hB40) hi41.2) hi44.2) hi47.2) fun a hE=>kq rfl hE rfl
      ·exact qm
      ·exact qm
      ·exact qm
      ·intro a w ux34 hE hM hp
       have f12 : ux34 12 = v0_1:=hp 0 _ rfl rfl
       exact Wg hE Za ld (lk (lk rfl f12) hv52) fun a hE=>kq rfl hE rfl
      ·intro a w ux34 hE hM hp
       have f13 : ux34 13 = (vI s29.2):=hp 1 _ rfl rfl
       have f15 : ux34 15 = (ptr pb50 0):=hp 0 _ rfl rfl
       exact ZF hE (lk rfl f15) (lk rfl f13) Tryz.underlying265 HF hi56.1 fun a hE=>kq rfl hE rfl
      ·intro a w ux34 hE hM hp
       have f16 : ux34 16 = (ptr pb50 (0 + (s29.2).toNat * 1024)):=hp 0 _ rfl rfl
       exact ZF hE (lk rfl f16) rfl Tryz.underlying263 Aj hi59.1 fun a hE=>kq rfl hE rfl
      ·intro a w ux34 hE hM hp
       have f14 : ux34 14 = (vB j9.2.1):=hp 1 _ rfl rfl
       have f17 : ux34 17 = (ptr pb50 (0 + (s29.2).toNat * 1024 + ((1 : Int)).toNat * 256)):=hp 0 _ rfl rfl
       exact ZF hE (lk rfl f17) (lk rfl f14) Tryz.underlying156 ty5 hi62.1 fun a hE=>kq rfl hE rfl
      ·intro a w ux34 hE hM hp
       have f18 : ux34 18 = (ptr pb50 (0 + (s29.2).toNat * 1024 + ((1 : Int)).toNat * 256 + ((bI j9.2.1)).toNat * 1)):=hp 0 _ rfl rfl
       exact ZB (v:=(vB x63)) hE (lk rfl f18) ty5 rfl (At.vec (At.vec (At.vec (hM.atk hA54 hB55) hi56.2) hi59.2) hi62.2) fun a hE=>kq rfl hE rfl
      ·intro a w ux34 hE hM hp
       have f11 : ux34 11 = (vB x48):=hp 0 _ rfl rfl
       have f19 : ux34 19 = (vB x63):=hp 1 _ rfl rfl
       exact Zi hE (lk rfl f11) (lk rfl f19) (V0 x48 x63) fun a hE=>kq rfl hE rfl
      ·exact qm
      ·exact qm
      ·exact qm
      ·intro a w ux34 hE hM hp
       have f21 : ux34 21 = v0_1:=hp 0 _ rfl rfl
       exact Wg hE Za ld (lk (lk rfl f21) hv67) fun a hE=>kq rfl hE rfl
      ·intro a w ux34 hE hM hp
       have f22 : ux34 22 = (vI s29.2):=hp 1 _ rfl rfl
       have f24 : ux34 24 = (ptr pb65 0):=hp 0 _ rfl rfl
       exact ZF hE (lk rfl f24) (lk rfl f22) Tryz.underlying265 HF hi71.1 fun a hE=>kq rfl hE rfl
      ·intro a w ux34 hE hM hp
       have f25 : ux34 25 = (ptr pb65 (0 + (s29.2).toNat * 1024)):=hp 0 _ rfl rfl
       exact ZF hE (lk rfl f25) rfl Tryz.underlying263 Aj hi74.1 fun a hE=>kq rfl hE rfl
      ·intro a w ux34 hE hM hp
       have f23 : ux34 23 = (vB j9.2.2.1):=hp 1 _ rfl rfl
       have f26 : ux34 26 = (ptr pb65 (0 + (s29.2).toNat * 1024 + ((2 : Int)).toNat * 256)):=hp 0 _ rfl rfl
       exact ZF hE (lk rfl f26) (lk rfl f23) Tryz.underlying156 ty5 hi77.1 fun a hE=>kq rfl hE rfl
      ·intro a w ux34 hE hM hp
       have f27 : ux34 27 = (ptr pb65 (0 + (s29.2).toNat * 1024 + ((2 : Int)).toNat * 256 + ((bI j9.2.2.1)).toNat * 1)):=hp 0 _ rfl rfl
       exact ZB (v:=(vB x78)) hE (lk rfl f27) ty5 rfl (At.vec (At.vec (At.vec (hM.atk hA69 hB70) hi71.2) hi74.2) hi77.2) fun a hE=>kq rfl hE rfl
      ·intro a w ux34 hE hM hp
       have f20 : ux34 20 = (vB (x48 ^^^ x63)):=hp 0 _ rfl rfl
       have f28 : ux34 28 = (vB x78):=hp 1 _ rfl rfl
       exact Zi hE (lk rfl f20) (lk rfl f28) (V0 (x48 ^^^ x63) x78) fun a hE=>kq rfl hE rfl
      ·exact qm
      ·exact qm
      ·exact qm
      ·intro a w ux34 hE hM hp
       have f30 : ux34 30 = v0_1:=hp 0 _ rfl rfl
       exact Wg hE Za ld (lk (lk rfl f30) hv82) fun a hE=>kq rfl hE rfl
      ·intro a w ux34 hE hM hp
       have f31 : ux34 31 = (vI s29.2):=hp 1 _ rfl rfl
       have f33 : ux34 33 = (ptr pb80 0):=hp 0 _ rfl rfl
       exact ZF hE (lk rfl f33) (lk rfl f31) Tryz.underlying265 HF hi86.1 fun a hE=>kq rfl hE rfl
      ·intro a w ux34 hE hM hp
       have f34 : ux34 34 = (ptr pb80 (0 + (s29.2).toNat * 1024)):=hp 0 _ rfl rfl
       exact ZF hE (lk rfl f34) rfl Tryz.underlying263 Aj hi89.1 fun a hE=>kq rfl hE rfl
      ·intro a w ux34 hE hM hp
       have f32 : ux34 32 = (vB j9.2.2.2):=hp 1 _ rfl rfl
       have f35 : ux34 35 = (ptr pb80 (0 + (s29.2).toNat * 1024 + ((3 : Int)).toNat * 256)):=hp 0 _ rfl rfl
       exact ZF hE (lk rfl f35) (lk rfl f32) Tryz.underlying156 ty5 hi92.1 fun a hE=>kq rfl hE rfl
      ·intro a w ux34 hE hM hp
       have f36 : ux34 36 = (ptr pb80 (0 + (s29.2).toNat * 1024 + ((3 : Int)).toNat * 256 + ((bI j9.2.2.2)).toNat * 1)):=hp 0 _ rfl rfl
       exact ZB (v:=(vB x93)) hE (lk rfl f36) ty5 rfl (At.vec (At.vec (At.vec (hM.atk hA84 hB85) hi86.2) hi89.2) hi92.2) fun a hE=>kq rfl hE rfl
      ·intro a w ux34 hE hM hp
       have f29 : ux34 29 = (vB ((x48 ^^^ x63) ^^^ x78)):=hp 0 _ rfl rfl
       have f37 : ux34 37 = (vB x93):=hp 1 _ rfl rfl
       exact Zi hE (lk rfl f29) (lk rfl f37) (V0 ((x48 ^^^ x63) ^^^ x78) x93) fun a hE=>kq rfl hE rfl
      ·intro a w ux34 hE hM hp
       have f0 : ux34 0 = (Value.slice (some ⟨pb1,0,none⟩) 16 16):=hp 0 _ rfl rfl
       have f3 : ux34 3 = (vI (wr (s4.2 + s29.2))):=hp 1 _ rfl rfl
       exact TB hE Za ld (lk rfl f0) (lk rfl f3) Tryz.underlying40 ty5 hi97.1 fun a hE=>kq rfl hE rfl
      ·intro a w ux34 hE hM hg
       have hE:=hE.sub (e':=[(76,(vB (((x48 ^^^ x63) ^^^ x78) ^^^ x93))),(77,(ptr pb1 (0 + ((wr (s4.2 + s29.2))).toNat * 1))),(0,v0_1),(1,(Value.slice (some ⟨pb1,0,none⟩) 16 16)),(4,vI s4.2),(5,vB j9.1),(6,vB j9.2.1),(7,vB j9.2.2.1),(8,vB j9.2.2.2),(9,vI s29.2),(35,vI s29.2),(36,(vT (decide (s29.2 < 4)))),(37,vI s29.2)]) ⟨lk rfl (hg 38 (by decide)),lk rfl (hg 39 (by decide)),rfl,rfl,rfl,rfl,rfl,rfl,rfl,rfl,rfl,rfl,rfl,trivial⟩
       refine Zm (seg:=[(vB (((x48 ^^^ x63) ^^^ x78) ^^^ x93))]) (cs':=enc (s29.1.setIfInBounds ((wr (s4.2 + s29.2))).toNat (((x48 ^^^ x63) ^^^ x78) ^^^ x93))) hE hM Za rfl rfl rfl ty5 rfl (ZS (v:=s29.1) (x:=((x48 ^^^ x63) ^^^ x78) ^^^ x93) hi97.1) (Flat.cell (((x48 ^^^ x63) ^^^ x78) ^^^ x93 : UInt8)) (ZD (v:=s29.1) (x:=((x48 ^^^ x63) ^^^ x78) ^^^ x93) hi97.1) fun w a hM hE=>Zg (Yb (Zp (wp_region_lit (Zi hE rfl rfl rfl fun a hE=>Zd hE rfl fun a hE=>Zg (Zk ?_)))))
       exact ⟨_,(ois hs30),hE.sub ⟨rfl,rfl,rfl,rfl,rfl,rfl,rfl,rfl,trivial⟩,hM⟩
     ·intro hb33
      have hs30:=Zs hs30 hb33
      refine wp_exit (Zn (Zn (Ye ?_)))
      obtain rfl:=hx31 _ (ois hs30)
      refine Zk ?_
      exact ⟨hE.sub ⟨rfl,rfl,rfl,trivial⟩,hM⟩
    ·skip
     rintro a w ⟨hE,hM⟩
     refine Yb (Zp (wp_region_lit (Zd hE rfl fun a hE=>Zi hE rfl rfl rfl fun a hE=>Zc hE rfl fun a hE=>Zg (Zk ?_))))
     exact ⟨_,(ois hF28),hE.sub ⟨rfl,rfl,rfl,trivial⟩,hM⟩
  ·intro hb8
   have hs5:=Zs hs5 hb8
   refine wp_exit (Zn (Zn (Ye ?_)))
   obtain rfl:=hx6 _ (ois hs5)
   refine Zk ?_
   exact ⟨hE.sub ⟨rfl,trivial⟩,hM⟩
 ·skip
  rintro a w ⟨hE,hM⟩
  obtain rfl:=Option.some.inj hF3
  exact ql hE (by rfl) ⟨_,rfl,rfl,hM⟩
def Yo (p0 : (Ref Gengine)) (s18 : (Vector UInt8 16) × Int) (s29 : (Vector UInt8 16) × Int) : Option (Fl ((Vector UInt8 16) × Int) (Vector UInt8 16)) :=
 if (decide (s29.2 < 16)) = true then ((ZI s18.1 s29.2).bind fun x34=>(ZI p0.v.box (bI x34)).bind fun x48=>(ZI s29.1 s29.2).bind fun x51=>some (Fl.nx ((s29.1.setIfInBounds (s29.2).toNat x48),wr (s29.2 + 1)))) else (some (Fl.ex s29.1))
def Yn (p0 : (Ref Gengine)) (p1 : (List (Vector UInt8 16))) (s18 : (Vector UInt8 16) × Int) : Option (Fl ((Vector UInt8 16) × Int) (Vector UInt8 16)) :=
 if (decide (s18.2 < (p1.length : Int))) = true then (((ZA (Yo p0 s18) (s18.1,0)).bind fun j26=>((WS p0.v.places j26).bind fun r68=>some r68 : Option ((Vector UInt8 16))).bind fun j54=>(if (decide (s18.2 < (wr ((p1.length : Int) - 1)))) = true then ((slc j54.toList (0 : Int) (16 : Int)).bind fun l86=>(Vt p0.v.mixer j54).bind fun r89=>some r89) else (some j54) : Option ((Vector UInt8 16))).bind fun j71=>(idx p1 s18.2).bind fun x94=>(Ys j71 x94).bind fun r97=>some r97 : Option ((Vector UInt8 16))).bind fun j23=>some (Fl.nx (j23,wr (s18.2 + 1)))) else (some (Fl.ex s18.1))
def YK (p0 : (Ref Gengine)) (p1 : (List (Vector UInt8 16))) (p2 : (Vector UInt8 16)) : Option ((Vector UInt8 16)) :=
 ((idx p1 (0 : Int)).bind fun x9=>(Ys p2 x9).bind fun r12=>some r12 : Option ((Vector UInt8 16))).bind fun j5=>(ZA (Yn p0 p1) (j5,1)).bind fun j15=>some j15
theorem T0 (w0 : World) (p0 : (Ref Gengine)) (v0_1 : Value) (hv0_1 : Ro w0 p0 [v0_1]) (p1 : (List (Vector UInt8 16))) (v1_1 : Value) (hv1_1 : Ro w0 p1 [v1_1]) (p2 : (Vector UInt8 16)) (r : (Vector UInt8 16)) (hF : YK p0 p1 p2 = some r) :
  Calls Tryz.prog 217 [v0_1,v1_1,(Value.agg (enc p2).toArray)].toArray w0 (Rt w0 (Value.agg (enc r).toArray)):=by
 refine ce Tryz.func217 ?_
 intro a hE
 have hM:=M.start w0
 unfold YK at hF
 refine Zb (Ya (cs:=enc p2) hE hM Za ld rfl rfl fun b1 w a hM hE=>Zz hE hM ZJ fun b3 w a hM hE=>Ze ?_)
 obtain ⟨j5,hl6,hF7⟩:=bind_some hF
 refine ZN (fun a w=>Env 59 a [(0,v0_1),(1,v1_1),(5,(ptr b1 0)),(6,(ptr b3 0))] ∧ M (Old w0) w0 w [raw b3 (enc (Vector.replicate 16 (0 : UInt8))),raw b1 (enc j5)]) ?_ ?_
 ·skip
  obtain ⟨x9,hi11,hl6⟩:=bix hl6
  obtain ⟨r12,e13,hl6⟩:=bind_some hl6
  refine ZX [10,11,12,13,14] Yu rfl rfl (by decide) rfl hE hM (qsP (fun z=>ZW z.E Za ld rfl ZJ rfl (z.M.rawAt1) (Flat.len _) (kr0 rfl)) (qsP (fun z=>Zj z.E Za ld rfl (kr0 rfl)) (qsP (fun z=>ZZ z.E Za ld rfl rfl Tryz.underlying54 ZJ (z.M.rd hv1_1) hi11.1 (kr0 rfl)) (qsP (fun z=>ZW z.E Za ld rfl ZJ rfl (Yt (z.M.rd hv1_1) hi11.2) (Flat.len _) (kr0 rfl)) (qsP (fun z=>Yk z.E Za ld rfl BW (Wv _ p2 x9 r12 e13) (kc rfl)) qs0))))) ?_
  ·intro a w u hE hM
   have hM:=hM.pull1
   refine Zm (seg:=enc r12) (cs':=enc r12) hE hM Za rfl rfl rfl ZJ (Flat.len _) (zle flq) (Flat.cell _) (Zh flq) fun w a hM hE=>Zg ?_
   obtain rfl:=Option.some.inj hl6
   refine Zk ?_
   have hM:=hM.pull1
   exact ⟨hE.sub ⟨rfl,rfl,rfl,rfl,trivial⟩,hM⟩
 ·skip
  rintro a w ⟨hE,hM⟩
  refine wp_seq (Zb (Zc hE rfl fun a hE=>Ze ?_))
  obtain ⟨j15,hl16,hF17⟩:=bind_some hF7
  refine ZO (fun a w=>Env 59 a [(5,(ptr b1 0)),(6,(ptr b3 0))] ∧ M (Old w0) w0 w [raw b3 (enc (Vector.replicate 16 (0 : UInt8))),raw b1 (enc j15)]) ?_ ?_
  ·skip
   refine wp_block ?_
   refine ZE (fun (s18 : (Vector UInt8 16) × Int) a w=>Env 59 a [(0,v0_1),(1,v1_1),(5,(ptr b1 0)),(6,(ptr b3 0)),(7,vI s18.2)] ∧ M (Old w0) w0 w [raw b3 (enc (Vector.replicate 16 (0 : UInt8))),raw b1 (enc s18.1)]) hl16 ⟨hE.sub ⟨rfl,rfl,rfl,rfl,rfl,trivial⟩,hM⟩ ?_
   rintro s18 a w ⟨hE,hM⟩ o21 hs19 hx20
   unfold Yn at hs19
   refine wp_seq (Zb (Zd hE rfl fun a hE=>Zd hE rfl fun a hE=>Z5 hE rfl Tryz.underlying54 (hM.rd hv1_1) fun a hE=>Zi hE rfl rfl rfl fun a hE=>Ze ?_))
   refine Zo hE rfl ?_ ?_
   ·intro hb22
    have hs19:=Zt hs19 hb22
    refine wp_skip (Zp ?_)
    obtain ⟨j23,hl24,hF25⟩:=bind_some hs19
    refine ZN (fun a w=>Env 59 a [(0,v0_1),(1,v1_1),(5,(ptr b1 0)),(6,(ptr b3 0)),(7,vI s18.2)] ∧ M (Old w0) w0 w [raw b3 (enc (Vector.replicate 16 (0 : UInt8))),raw b1 (enc j23)]) ?_ ?_
    ·skip
     refine wp_block (wp_seq (Zb (Zr hE rfl ZJ rfl hM.rawAt1 (Flat.len _) fun a hE=>Zd hE rfl fun a hE=>Ze ?_)))
     obtain ⟨j26,hl27,hF28⟩:=bind_some hl24
     refine ZO (fun a w=>Env 59 a [(0,v0_1),(1,v1_1),(5,(ptr b1 0)),(6,(ptr b3 0)),(7,vI s18.2)] ∧ M (Old w0) w0 w [raw b3 (enc (Vector.replicate 16 (0 : UInt8))),raw b1 (enc j26)]) ?_ ?_
     ·skip
      refine wp_block ?_
      refine ZE (fun (s29 : (Vector UInt8 16) × Int) a w=>Env 59 a [(0,v0_1),(1,v1_1),(5,(ptr b1 0)),(6,(ptr b3 0)),(7,vI s18.2),(21,(Value.agg (enc s18.1).toArray)),(22,vI s29.2)] ∧ M (Old w0) w0 w [raw b3 (enc (Vector.replicate 16 (0 : UInt8))),raw b1 (enc s29.1)]) hl27 ⟨hE.sub ⟨rfl,rfl,rfl,rfl,rfl,rfl,rfl,trivial⟩,hM⟩ ?_
      rintro s29 a w ⟨hE,hM⟩ o32 hs30 hx31
      unfold Yo at hs30
      refine Zb (Zi hE rfl rfl rfl fun a hE=>Ze (wp_seq ?_))
      refine Zo hE rfl ?_ ?_
      ·intro hb33
       have hs30:=Zt hs30 hb33
       refine wp_skip (Zp (wp_seq (wp_block (Zb (Zd hE rfl ?_))))); intro a hE
       obtain ⟨x34,hi36,hs30⟩:=bvx hs30
       refine Q3 hE Za ld rfl rfl Tryz.underlying68 ty5 rfl rfl hi36 rfl fun a hE=>Zc hE rfl fun a hE=>Zc hE rfl fun a hE=>Ze (wp_region_lit (Zd hE rfl fun a hE=>Zd hE rfl fun a hE=>Zd hE rfl ?_)); intro a hE
       obtain ⟨pb37,ds38,hv39,hx40,hA41,hB42⟩:=UQ hv0_1 -- ^
       obtain ⟨u43,u45,rfl,h44,h46⟩:=Tr hx40 -- ^
       refine Wg hE Za ld (lk rfl hv39) fun a hE=>Zy hE rfl (AM) ?_; intro a hE
       obtain ⟨x48,hi47,hs30⟩:=bvx hs30
       refine ZF hE rfl rfl Tryz.underlying157 ty5 hi47.1 fun a hE=>ZB (v:=(vB x48)) hE rfl ty5 rfl (At.vec (At.cat (pre:=[]) (hM.atk hA41 hB42) cl0) hi47.2) ?_; intro a hE
       obtain ⟨x51,hi50,hs30⟩:=bvx hs30
       refine ZF hE rfl rfl Tryz.underlying68 ty5 hi50.1 ?_; intro a hE
       have hM:=hM.pull1
       refine Zm (seg:=[vB x48]) (cs':=enc (s29.1.setIfInBounds (s29.2).toNat x48)) hE hM Za rfl rfl rfl ty5 rfl (ZS (v:=s29.1) (x:=x48) hi50.1) (Flat.cell (x48 : UInt8)) (ZD (v:=s29.1) (x:=x48) hi50.1) fun w a hM hE=>Zg (Yb (Zp (wp_region_lit (Zi hE rfl rfl rfl fun a hE=>Zd hE rfl fun a hE=>Zg (Zk ?_)))))
       have hM:=hM.pull1
       exact ⟨_,(ois hs30),hE.sub ⟨rfl,rfl,rfl,rfl,rfl,rfl,rfl,trivial⟩,hM⟩
      ·intro hb33
       have hs30:=Zs hs30 hb33
       refine wp_exit (Zn (Zn (Ye ?_)))
       obtain rfl:=hx31 _ (ois hs30)
       refine Zk ?_
       exact ⟨hE.sub ⟨rfl,rfl,rfl,rfl,rfl,trivial⟩,hM⟩
     ·skip
      rintro a w ⟨hE,hM⟩
      refine Zp ?_
      obtain ⟨j54,hl55,hF56⟩:=bind_some hF28
      refine ZN (fun a w=>Env 59 a [(0,v0_1),(1,v1_1),(5,(ptr b1 0)),(6,(ptr b3 0)),(7,vI s18.2)] ∧ M (Old w0) w0 w [raw b3 (enc (Vector.replicate 16 (0 : UInt8))),raw b1 (enc j54)]) ?_ ?_
      ·skip
       obtain ⟨pb58,ds59,hv60,hx61,hA62,hB63⟩:=UQ hv0_1 -- ^
       obtain ⟨u64,u66,rfl,h65,h67⟩:=Tr hx61 -- ^
       obtain ⟨r68,e69,hl55⟩:=bind_some hl55
       refine ZX [35,36,37,38,39,40] Yu rfl rfl (by decide) rfl hE hM (qsP (fun z=>Zj z.E Za ld rfl (kr0 rfl)) (qsP (fun z=>Wg z.E Za ld (lk rfl hv60) (kr0 rfl)) (qsP (fun z=>Zq z.E Za ld rfl (qv) (kr0 rfl)) (qsP (fun z=>ZW z.E Za ld rfl TN rfl (At.cat (pre:=[enc p0.v.box,enc p0.v.backBox]) (z.M.atk hA62 hB63) ck) (Flat.len _) (kr0 rfl)) (qsP (fun z=>ZW z.E Za ld rfl ZJ rfl (z.M.rawAt1) (Flat.len _) (kr0 rfl)) (qsP (fun z=>Yk z.E Za ld rfl (cbm Tryz.func235) (KI _ p0.v.places j26 r68 e69) (kc rfl)) qs0)))))) ?_
       ·intro a w u hE hM
        have hM:=hM.pull1
        refine Zm (seg:=enc r68) (cs':=enc r68) hE hM Za rfl rfl rfl ZJ (Flat.len _) (zle flq) (Flat.cell _) (Zh flq) fun w a hM hE=>Zg ?_
        obtain rfl:=Option.some.inj hl55
        refine Zk ?_
        have hM:=hM.pull1
        exact ⟨hE.sub ⟨rfl,rfl,rfl,rfl,rfl,trivial⟩,hM⟩
      ·skip
       rintro a w ⟨hE,hM⟩
       obtain ⟨j71,hl72,hF73⟩:=bind_some hF56
       refine ZN (fun a w=>Env 59 a [(0,v0_1),(1,v1_1),(5,(ptr b1 0)),(6,(ptr b3 0)),(7,vI s18.2)] ∧ M (Old w0) w0 w [raw b3 (enc (Vector.replicate 16 (0 : UInt8))),raw b1 (enc j71)]) ?_ ?_
       ·skip
        refine Zb (Zd hE rfl fun a hE=>Zd hE rfl fun a hE=>Z5 hE rfl Tryz.underlying54 (hM.rd hv1_1) fun a hE=>Zi hE rfl rfl rfl fun a hE=>Zi hE rfl rfl rfl fun a hE=>Ze ?_)
        refine Zo hE rfl ?_ ?_
        ·intro hb74
         have hl72:=Zt hl72 hb74
         obtain ⟨pb76,ds77,hv78,hx79,hA80,hB81⟩:=UQ hv0_1 -- ^
         obtain ⟨u82,u84,rfl,h83,h85⟩:=Tr hx79 -- ^
         obtain ⟨l86,e87,hl72⟩:=bind_some hl72
         have hb88:=QA e87 -- ^
         refine ZX [46,47,48,49,50] Yu rfl rfl (by decide) rfl hE hM (qsP (fun z=>Zj z.E Za ld rfl (kr0 rfl)) (qsP (fun z=>Wg z.E Za ld (lk rfl hv78) (kr0 rfl)) (qsP (fun z=>Zq z.E Za ld rfl (qu) (kr0 rfl)) (qsP (fun z=>ZM (v:=u82) z.E Za ld rfl jQ rfl (At.cat (pre:=[enc p0.v.box,enc p0.v.backBox,enc p0.v.places,enc p0.v.backPlaces]) (z.M.atk hA80 hB81) ck) (kr0 rfl)) (qsP (fun z=>U0 (N:=16) z.E Za ld rfl rfl rfl rfl rfl Tryz.underlying68 ty5 hb88 (kr0 rfl)) qs0))))) ?_
         ·intro a w u hE hM
          have hM:=hM.pull1
          obtain ⟨r89,e90,hl72⟩:=bind_some hl72
          refine Zx hE rfl (cbm Tryz.func236) (Jr _ _ _ _ p0.v.mixer u82 h83 b1 j54 hM r89 e90) ?_
          rintro v w a ⟨rfl,hM⟩ hE
          refine Zg ?_
          obtain rfl:=Option.some.inj hl72
          refine Zk ?_
          have hM:=hM.pull1
          exact ⟨hE.sub ⟨rfl,rfl,rfl,rfl,rfl,trivial⟩,hM⟩
        ·intro hb74
         have hl72:=Zs hl72 hb74
         refine wp_skip ?_
         obtain rfl:=Option.some.inj hl72
         refine Zk ?_
         exact ⟨hE.sub ⟨rfl,rfl,rfl,rfl,rfl,trivial⟩,hM⟩
       ·skip
        rintro a w ⟨hE,hM⟩
        obtain ⟨x94,hi96,hF73⟩:=bix hF73
        obtain ⟨r97,e98,hF73⟩:=bind_some hF73
        refine ZX [52,53,54,55,56,57] Yu rfl rfl (by decide) rfl hE hM (qsP (fun z=>ZW z.E Za ld rfl ZJ rfl (z.M.rawAt1) (Flat.len _) (kr0 rfl)) (qsP (fun z=>Zj z.E Za ld rfl (kr0 rfl)) (qsP (fun z=>Zj z.E Za ld rfl (kr0 rfl)) (qsP (fun z=>ZZ z.E Za ld rfl rfl Tryz.underlying54 ZJ (z.M.rd hv1_1) hi96.1 (kr0 rfl)) (qsP (fun z=>ZW z.E Za ld rfl ZJ rfl (Yt (z.M.rd hv1_1) hi96.2) (Flat.len _) (kr0 rfl)) (qsP (fun z=>Yk z.E Za ld rfl BW (Wv _ j71 x94 r97 e98) (kc rfl)) qs0)))))) ?_
        ·intro a w u hE hM
         have hM:=hM.pull1
         refine Zm (seg:=enc r97) (cs':=enc r97) hE hM Za rfl rfl rfl ZJ (Flat.len _) (zle flq) (Flat.cell _) (Zh flq) fun w a hM hE=>Zg (Yb ?_)
         obtain rfl:=Option.some.inj hF73
         refine Zk ?_
         have hM:=hM.pull1
         exact ⟨hE.sub ⟨rfl,rfl,rfl,rfl,rfl,trivial⟩,hM⟩
    ·skip
     rintro a w ⟨hE,hM⟩
     refine wp_region_lit (Zd hE rfl fun a hE=>Zi hE rfl rfl rfl fun a hE=>Zc hE rfl fun a hE=>Zg (Zk ?_))
     exact ⟨_,(ois hF25),hE.sub ⟨rfl,rfl,rfl,rfl,rfl,trivial⟩,hM⟩
   ·intro hb22
    have hs19:=Zs hs19 hb22
    refine wp_exit (Zn (Zn (Ye ?_)))
    obtain rfl:=hx20 _ (ois hs19)
    refine Zk ?_
    exact ⟨hE.sub ⟨rfl,rfl,trivial⟩,hM⟩
  ·skip
   rintro a w ⟨hE,hM⟩
   refine Zp (Zb (Zr hE rfl ZJ rfl hM.rawAt1 (Flat.len _) fun a hE=>Zm (seg:=enc j15) (cs':=enc j15) hE hM Za rfl rfl rfl ZJ (Flat.len _) (zle flq) (Flat.cell _) (Zh flq) fun w a hM hE=>Ze ?_))
   obtain rfl:=Option.some.inj hF17
   have hq101 : Z6 Tryz.prog _ _ (.cell 6 68) _:=ZK hE rfl ZJ rfl hM.rawAt0 (Flat.len _) rfl
   exact wp_ret (ZP hE rfl hq101 ⟨_,rfl,rfl,hM.kept⟩)
def Yw (p0 : (Ref Gengine)) (p1 : (Vector UInt8 16)) (p2 : (Vector UInt8 16)) : Option ((Vector UInt8 16)) :=
 ((WO p0 p1 p0.v.rounds).bind fun r21=>(YK p0 r21 p2).bind fun r24=>some r24 : Option ((Vector UInt8 16))).bind fun j7=>some j7
theorem U9 (w0 : World) (p0 : (Ref Gengine)) (v0_1 : Value) (hv0_1 : Ro w0 p0 [v0_1]) (p1 : (Vector UInt8 16)) (p2 : (Vector UInt8 16)) (r : (Vector UInt8 16)) (hF : Yw p0 p1 p2 = some r) :
  Calls Tryz.prog 183 [v0_1,(Value.agg (enc p1).toArray),(Value.agg (enc p2).toArray)].toArray w0 (Rt w0 (Value.agg (enc r).toArray)):=by
 refine ce Tryz.func183 ?_
 intro a hE
 have hM:=M.start w0
 unfold Yw at hF
 refine Zb (Ya (cs:=enc p1) hE hM Za ld rfl rfl fun b1 w a hM hE=>Ya (cs:=enc p2) hE hM Za ld rfl rfl fun b3 w a hM hE=>Zz hE hM ZJ fun b5 w a hM hE=>Ze ?_)
 obtain ⟨j7,hl8,hF9⟩:=bind_some hF
 refine ZN (fun a w=>Env 17 a [(6,(ptr b5 0))] ∧ M (Old w0) w0 w [raw b5 (enc j7)]) ?_ ?_
 ·skip
  obtain ⟨pb11,ds12,hv13,hx14,hA15,hB16⟩:=UQ hv0_1 -- ^
  obtain ⟨u17,u19,rfl,h18,h20⟩:=Tr hx14 -- ^
  obtain ⟨r21,e22,hl8⟩:=bind_some hl8
  refine Yz (its:=[raw b5 (enc (Vector.replicate 16 (0 : UInt8))),raw b3 (enc p2),raw b1 (enc p1)]) (mk:=([mkO 7 (fun v=>osl NoB (r21 : List (Vector UInt8 16)) v)] : Mk)) [7,8,9,10,11,12,13,14,15] Yu rfl rfl (by decide) rfl hE (fun u=>M.qE (M.q0 hM.drew u) emO) (qsP (fun z=>Zj z.E Za ld rfl (kr0 rfl)) (qsP (fun z=>Zj z.E Za ld rfl (kr0 rfl)) (qsP (v:=(Value.agg (enc p1).toArray)) ?_ (qsP (fun z=>Zj z.E Za ld rfl (kr0 rfl)) (qsP (fun z=>Wg z.E Za ld (lk rfl hv13) (kr0 rfl)) (qsP (fun z=>Zq z.E Za ld rfl (kT) (kr0 rfl)) (qsP (v:=(vI p0.v.rounds)) ?_ (qsM (pr:=fun v=>True) ?_ (qsP (v:=(Value.agg (enc p2).toArray)) ?_ qs0))))))))) ?_
  ·intro a w ux10 D z
   have hE:=z.E
   have hM:=z.M
   exact Zr hE rfl ZJ rfl hM.rawAt2 (Flat.len _) fun a hE=>⟨Kept.refl _ _,_,rfl,hE⟩
  ·intro a w ux10 D z
   have hE:=z.E
   have hM:=z.M
   exact ZB (v:=(vI p0.v.rounds)) hE rfl ty2 rfl (At.cat (pre:=[enc p0.v.box,enc p0.v.backBox,enc p0.v.places,enc p0.v.backPlaces,[u17],[u19]]) (hM.atk hA15 hB16) ck) fun a hE=>⟨Kept.refl _ _,_,rfl,hE⟩
  ·intro a w ux10 D z
   have hE:=z.E
   have hD : D 7 = false:=z.F
   have hM0:=z.M
   have hM:=z.M
   refine Zx hE rfl (cbm Tryz.func218) (Kq _ p0 v0_1 (hM.rdo hv0_1) p1 p0.v.rounds r21 e22) ?_
   rintro _ w a ⟨_,rfl,hFr,hK⟩ hE
   have hM:=hM0.add hK hFr
   exact ⟨_,_,rfl,hE,M.qFill (mk1:=[]) (mk2:=[]) (f:=(fun v=>osl NoB (r21 : List (Vector UInt8 16)) v)) hM rfl hD,trivial⟩
  ·intro a w ux10 D z
   have hE:=z.E
   have hM:=z.M
   exact Zr hE rfl ZJ rfl hM.rawAt1 (Flat.len _) fun a hE=>⟨Kept.refl _ _,_,rfl,hE⟩
  ·intro a w ux10 D hE hM hG hall
   have d7:=hall 7 (by decide)
   have hM:=hM.sure (pre:=[_,_,_]) d7
   obtain ⟨r24,e25,hl8⟩:=bind_some hl8
   refine Zx hE rfl (cbm Tryz.func217) (T0 _ p0 v0_1 (hM.rdo hv0_1) r21 (ux10 7) (hM.sl (pre:=[_,_,_]) noB) p2 r24 e25) ?_
   rintro v w a ⟨rfl,hK⟩ hE
   have hM:=hM.keep hK
   refine Zm (seg:=enc r24) (cs':=enc r24) hE hM Za rfl rfl rfl ZJ (Flat.len _) (zle flq) (Flat.cell _) (Zh flq) fun w a hM hE=>Zg ?_
   obtain rfl:=Option.some.inj hl8
   refine Zk ?_
   have hM:=M.fst (l:=[_]) hM
   exact ⟨hE.sub ⟨rfl,trivial⟩,hM⟩
 ·skip
  rintro a w ⟨hE,hM⟩
  obtain rfl:=Option.some.inj hF9
  have hq27 : Z6 Tryz.prog _ _ (.cell 6 68) _:=ZK hE rfl ZJ rfl hM.rawAt0 (Flat.len _) rfl
  exact wp_ret (ZP hE rfl hq27 ⟨_,rfl,rfl,hM.kept⟩)
def Y9 (p0 : (Ref Gengine)) (p1 : (Vector UInt8 32)) (p2 : (Vector UInt8 16)) : Option ((Vector UInt8 32)) :=
 (slc p1.toList (0 : Int) (16 : Int)).bind fun l8=>(T4 16 l8).bind fun x11=>(slc p1.toList (16 : Int) (32 : Int)).bind fun l13=>(T4 16 l13).bind fun x16=>(Ys x11 p2).bind fun r26=>((Yw p0 x16 r26).bind fun r34=>(Ys r34 r26).bind fun r36=>some r36 : Option ((Vector UInt8 16))).bind fun j30=>(Ys x16 p2).bind fun r39=>((Yw p0 j30 r39).bind fun r47=>(Ys r47 r39).bind fun r49=>some r49 : Option ((Vector UInt8 16))).bind fun j43=>((slc j30.toList (0 : Int) (16 : Int)).bind fun l56=>(slc j43.toList (0 : Int) (16 : Int)).bind fun l59=>(Z4 ([l56,l59] : (List (List UInt8)))).bind fun r64=>(T4 32 r64).bind fun x67=>some x67 : Option ((Vector UInt8 32))).bind fun j52=>some j52
theorem QV (w0 : World) (p0 : (Ref Gengine)) (v0_1 : Value) (hv0_1 : Ro w0 p0 [v0_1]) (p1 : (Vector UInt8 32)) (p2 : (Vector UInt8 16)) (r : (Vector UInt8 32)) (hF : Y9 p0 p1 p2 = some r) :
  Calls Tryz.prog 134 [v0_1,(Value.agg (enc p1).toArray),(Value.agg (enc p2).toArray)].toArray w0 (Rt w0 (Value.agg (enc r).toArray)):=by
 refine ce Tryz.func134 ?_
 intro a hE
 have hM:=M.start w0
 unfold Y9 at hF
 refine Zb (Ya (cs:=enc p1) hE hM Za ld rfl rfl fun b1 w a hM hE=>Ya (cs:=enc p2) hE hM Za ld rfl rfl fun b3 w a hM hE=>Zz hE hM ZL fun b5 w a hM hE=>Ze (wp_seq ?_))
 obtain ⟨l8,e9,hF⟩:=bind_some hF
 have hb10:=QA e9 -- ^
 obtain ⟨x11,e12,hF⟩:=bind_some hF
 obtain ⟨l13,e14,hF⟩:=bind_some hF
 have hb15:=QA e14 -- ^
 obtain ⟨x16,e17,hF⟩:=bind_some hF
 refine Yz (its:=[raw b5 (enc (Vector.replicate 32 (0 : UInt8))),raw b3 (enc p2),raw b1 (enc p1)]) (mk:=([mkO 6 (fun v=>VZ v (enc (Vector.replicate 16 (0 : UInt8)))),mkO 7 (fun v=>VZ v (enc (Vector.replicate 16 (0 : UInt8))))] : Mk)) [11,12,13,14,15,16,7,8] Yu rfl rfl (by decide) rfl hE (fun u=>M.qE (M.qE (M.q0 hM.drew u) emO) emO) (qsP (fun z=>U0 (N:=32) z.E Za ld rfl rfl rfl rfl rfl Tryz.underlying35 ty5 hb10 (kr0 rfl)) (qsP (v:=(ptr (sb (Y0 (.slice (some ⟨b1,0,none⟩) 32 32) ((0 : Int)).toNat ((16 : Int)).toNat 1)) (so (Y0 (.slice (some ⟨b1,0,none⟩) 32 32) ((0 : Int)).toNat ((16 : Int)).toNat 1)))) ?_ (qsP (v:=(Value.agg (enc x11).toArray)) ?_ (qsP (fun z=>U0 (N:=32) z.E Za ld rfl rfl rfl rfl rfl Tryz.underlying35 ty5 hb15 (kr0 rfl)) (qsP (v:=(ptr (sb (Y0 (.slice (some ⟨b1,0,none⟩) 32 32) ((16 : Int)).toNat ((32 : Int)).toNat 1)) (so (Y0 (.slice (some ⟨b1,0,none⟩) 32 32) ((16 : Int)).toNat ((32 : Int)).toNat 1)))) ?_ (qsP (v:=(Value.agg (enc x16).toArray)) ?_ (qsM (pr:=fun v=>True) ?_ (qsM (pr:=fun v=>True) ?_ qs0)))))))) ?_
 ·intro a w ux7 D z
  have hE:=z.E
  have hM:=z.M
  exact HE hE Za ld rfl Tryz.underlying68 (Xa (At.sat hM.rawAt2 (by simp) (by decide)) e9) (T2 e12).1 (by decide) fun a hE=>⟨Kept.refl _ _,_,rfl,hE⟩
 ·intro a w ux7 D z
  have hE:=z.E
  have hM:=z.M
  exact Zr hE rfl ZJ rfl (AQ (Xa (At.sat hM.rawAt2 (by simp) (by decide)) e9) e12 (by decide)) (Flat.len _) fun a hE=>⟨Kept.refl _ _,_,rfl,hE⟩
 ·intro a w ux7 D z
  have hE:=z.E
  have hM:=z.M
  exact HE hE Za ld rfl Tryz.underlying68 (Xa (At.sat hM.rawAt2 (by simp) (by decide)) e14) (T2 e17).1 (by decide) fun a hE=>⟨Kept.refl _ _,_,rfl,hE⟩
 ·intro a w ux7 D z
  have hE:=z.E
  have hM:=z.M
  exact Zr hE rfl ZJ rfl (AQ (Xa (At.sat hM.rawAt2 (by simp) (by decide)) e14) e17 (by decide)) (Flat.len _) fun a hE=>⟨Kept.refl _ _,_,rfl,hE⟩
 ·intro a w ux7 D z
  have hE:=z.E
  have hD : D 6 = false:=z.F
  have hM:=z.M
  refine Zz hE hM ZJ ?_; intro b18 w a hM hE
  have hM:=hM.pack1 (it:=VZ _ (enc (Vector.replicate 16 (0 : UInt8)))) (fun w w' fp ⟨b',e,k⟩ hb=>⟨b',e,YW w w' fp k hb⟩) (fun fp k=>⟨_,rfl,k⟩)
  exact ⟨_,_,rfl,hE,M.qFill (mk1:=[]) (mk2:=[_]) (f:=fun v=>VZ v (enc (Vector.replicate 16 (0 : UInt8)))) hM rfl hD,trivial⟩
 ·intro a w ux7 D z
  have hE:=z.E
  have hD : D 7 = false:=z.F
  have hM:=z.M
  refine Zz hE hM ZJ ?_; intro b20 w a hM hE
  have hM:=hM.pack1 (it:=VZ _ (enc (Vector.replicate 16 (0 : UInt8)))) (fun w w' fp ⟨b',e,k⟩ hb=>⟨b',e,YW w w' fp k hb⟩) (fun fp k=>⟨_,rfl,k⟩)
  exact ⟨_,_,rfl,hE,M.qFill (mk1:=[_]) (mk2:=[]) (f:=fun v=>VZ v (enc (Vector.replicate 16 (0 : UInt8)))) hM rfl hD,trivial⟩
 ·intro a w ux7 D hE hM hG hall
  have d6:=hall 6 (by decide)
  have d7:=hall 7 (by decide)
  have hM:=(hM.sure (pre:=[_,_,_]) d6).pull
  obtain ⟨_,⟨b22,f23,_⟩,_⟩:=hM.head
  have hM:=((hM.pack1 YW (it:=raw b22 (enc (Vector.replicate 16 (0 : UInt8)))) (fun fp ⟨b2,e2,k2⟩=>by rw [f23] at e2; simp [ptr] at e2; subst e2; exact k2)).sure (pre:=[_,_,_,_]) d7).pull
  obtain ⟨_,⟨b24,f25,_⟩,_⟩:=hM.head
  have hM:=hM.pack1 YW (it:=raw b24 (enc (Vector.replicate 16 (0 : UInt8)))) (fun fp ⟨b2,e2,k2⟩=>by rw [f25] at e2; simp [ptr] at e2; subst e2; exact k2)
  have hE:=hE.setq (t:=7) rfl f23
  have hE:=hE.setq (t:=8) rfl f25
  have hM:=hM.pull1
  refine Zm (seg:=enc x11) (cs':=enc x11) hE hM Za rfl rfl rfl ZJ (Flat.len _) (zle flq) (Flat.cell _) (Zh flq) ?_; intro w a hM hE
  have hM:=hM.pull1
  refine Zm (seg:=enc x16) (cs':=enc x16) hE hM Za rfl rfl rfl ZJ (Flat.len _) (zle flq) (Flat.cell _) (Zh flq) fun w a hM hE=>Zg (Zp (Zb (Zr hE rfl ZJ rfl hM.rawAt1 (Flat.len _) fun a hE=>Zr hE rfl ZJ rfl hM.rawAt3 (Flat.len _) ?_))); intro a hE
  obtain ⟨r26,e27,hF⟩:=bind_some hF
  refine Zx hE rfl BW (Wv _ x11 p2 r26 e27) ?_
  rintro v w a ⟨rfl,hK⟩ hE
  have hM:=hM.keep hK
  refine Zz hE hM ZJ fun b28 w a hM hE=>Zm (seg:=enc r26) (cs':=enc r26) hE hM Za rfl rfl rfl ZJ (Flat.len _) (zle flq) (Flat.cell _) (Zh flq) fun w a hM hE=>Ze ?_
  obtain ⟨j30,hl31,hF32⟩:=bind_some hF
  refine ZN (fun a w=>Env 41 a [(0,v0_1),(5,(ptr b3 0)),(6,(ptr b5 0)),(7,(ptr b22 0)),(8,(ptr b24 0))] ∧ M (Old w0) w0 w [raw b24 (enc x16),raw b22 (enc j30),raw b5 (enc (Vector.replicate 32 (0 : UInt8))),raw b3 (enc p2)]) ?_ ?_
  ·skip
   obtain ⟨r34,e35,hl31⟩:=bind_some hl31
   obtain ⟨r36,e37,hl31⟩:=bind_some hl31
   refine ZX [20,21,22,23,24,25] Yu rfl rfl (by decide) rfl hE hM (qsP (fun z=>Zj z.E Za ld rfl (kr0 rfl)) (qsP (fun z=>ZW z.E Za ld rfl ZJ rfl (z.M.rawAt1) (Flat.len _) (kr0 rfl)) (qsP (fun z=>ZW z.E Za ld rfl ZJ rfl (z.M.rawAt0) (Flat.len _) (kr0 rfl)) (qsP (fun z=>Yk z.E Za ld rfl (cbm Tryz.func183) (U9 _ p0 v0_1 (z.M.rdo hv0_1) x16 r26 r34 e35) (kc rfl)) (qsP (fun z=>ZW z.E Za ld rfl ZJ rfl (z.M.rawAt0) (Flat.len _) (kr0 rfl)) (qsP (fun z=>Yk z.E Za ld rfl BW (Wv _ r34 r26 r36 e37) (kc rfl)) qs0)))))) ?_
   ·intro a w u hE hM
    have hM:=hM.pull2
    refine Zm (seg:=enc r36) (cs':=enc r36) hE hM Za rfl rfl rfl ZJ (Flat.len _) (zle flq) (Flat.cell _) (Zh flq) fun w a hM hE=>Zg ?_
    obtain rfl:=Option.some.inj hl31
    refine Zk ?_
    have hM:=M.fst (l:=[_,_,_,_]) hM.pull4.pull4.pull2.pull4
    exact ⟨hE.sub ⟨rfl,rfl,rfl,rfl,rfl,trivial⟩,hM⟩
  ·skip
   rintro a w ⟨hE,hM⟩
   refine Zb (Zr hE rfl ZJ rfl hM.rawAt0 (Flat.len _) fun a hE=>Zr hE rfl ZJ rfl hM.rawAt3 (Flat.len _) ?_); intro a hE
   obtain ⟨r39,e40,hF32⟩:=bind_some hF32
   refine Zx hE rfl BW (Wv _ x16 p2 r39 e40) ?_
   rintro v w a ⟨rfl,hK⟩ hE
   have hM:=hM.keep hK
   refine Zz hE hM ZJ fun b41 w a hM hE=>Zm (seg:=enc r39) (cs':=enc r39) hE hM Za rfl rfl rfl ZJ (Flat.len _) (zle flq) (Flat.cell _) (Zh flq) fun w a hM hE=>Ze ?_
   obtain ⟨j43,hl44,hF45⟩:=bind_some hF32
   refine ZN (fun a w=>Env 41 a [(6,(ptr b5 0)),(7,(ptr b22 0)),(8,(ptr b24 0))] ∧ M (Old w0) w0 w [raw b24 (enc j43),raw b22 (enc j30),raw b5 (enc (Vector.replicate 32 (0 : UInt8)))]) ?_ ?_
   ·skip
    obtain ⟨r47,e48,hl44⟩:=bind_some hl44
    obtain ⟨r49,e50,hl44⟩:=bind_some hl44
    refine ZX [29,30,31,32,33,34] Yu rfl rfl (by decide) rfl hE hM (qsP (fun z=>Zj z.E Za ld rfl (kr0 rfl)) (qsP (fun z=>ZW z.E Za ld rfl ZJ rfl (z.M.rawAt2) (Flat.len _) (kr0 rfl)) (qsP (fun z=>ZW z.E Za ld rfl ZJ rfl (z.M.rawAt0) (Flat.len _) (kr0 rfl)) (qsP (fun z=>Yk z.E Za ld rfl (cbm Tryz.func183) (U9 _ p0 v0_1 (z.M.rdo hv0_1) j30 r39 r47 e48) (kc rfl)) (qsP (fun z=>ZW z.E Za ld rfl ZJ rfl (z.M.rawAt0) (Flat.len _) (kr0 rfl)) (qsP (fun z=>Yk z.E Za ld rfl BW (Wv _ r47 r39 r49 e50) (kc rfl)) qs0)))))) ?_
    ·intro a w u hE hM
     have hM:=hM.pull1
     refine Zm (seg:=enc r49) (cs':=enc r49) hE hM Za rfl rfl rfl ZJ (Flat.len _) (zle flq) (Flat.cell _) (Zh flq) fun w a hM hE=>Zg ?_
     obtain rfl:=Option.some.inj hl44
     refine Zk ?_
     have hM:=M.fst (l:=[_,_,_]) hM.pull3.pull3.pull2
     exact ⟨hE.sub ⟨rfl,rfl,rfl,trivial⟩,hM⟩
   ·skip
    rintro a w ⟨hE,hM⟩
    obtain ⟨j52,hl53,hF54⟩:=bind_some hF45
    refine ZN (fun a w=>Env 41 a [(6,(ptr b5 0))] ∧ M (Old w0) w0 w [raw b5 (enc j52)]) ?_ ?_
    ·skip
     obtain ⟨l56,e57,hl53⟩:=bind_some hl53
     have hb58:=QA e57 -- ^
     obtain ⟨l59,e60,hl53⟩:=bind_some hl53
     have hb61:=QA e60 -- ^
     refine ZX [35,36] Yu rfl rfl (by decide) rfl hE hM (qsP (fun z=>U0 (N:=16) z.E Za ld rfl rfl rfl rfl rfl Tryz.underlying68 ty5 hb58 (kr0 rfl)) (qsP (fun z=>U0 (N:=16) z.E Za ld rfl rfl rfl rfl rfl Tryz.underlying68 ty5 hb61 (kr0 rfl)) qs0)) ?_
     ·intro a w u hE hM
      refine Kv (xs:=[.tmp 35,.tmp 36]) (vs:=[(Y0 (.slice (some ⟨b22,0,none⟩) 16 16) ((0 : Int)).toNat ((16 : Int)).toNat 1),(Y0 (.slice (some ⟨b24,0,none⟩) 16 16) ((0 : Int)).toNat ((16 : Int)).toNat 1)]) hE hM Za ld rfl rfl Tryz.underlying23 YU (by decide) (HB (YC (Xa (At.sat hM.rawAt1 (by simp) (by decide)) e57)) (HB (YC (Xa (At.sat hM.rawAt0 (by simp) (by decide)) e60)) yb)) ?_; intro b62 w a hM hE
      obtain ⟨r64,e65,hl53⟩:=bind_some hl53
      refine Zx hE rfl (cbm Tryz.func133) (UH _ ([l56,l59] : (List (List UInt8))) (Value.slice (some ⟨b62,0,none⟩) 2 2) (yH hM.rawAt0 (hM.rawLt (pre:=[])) ⟨(Xa (At.sat hM.rawAt2 (by simp) (by decide)) e57),(Xa (At.sat hM.rawAt1 (by simp) (by decide)) e60),trivial⟩ rfl) r64 e65) ?_
      rintro u66 w a ⟨_,rfl,hFr,hK⟩ hE
      have hM:=hM.add hK hFr
      obtain ⟨x67,e68,hl53⟩:=bind_some hl53
      refine HE hE Za ld rfl Tryz.underlying35 (hM.sl (pre:=[]) noB) (T2 e68).1 (by decide) fun a hE=>Zr hE rfl ZL rfl (AQ (hM.sl (pre:=[]) noB) e68 (by decide)) (Flat.len _) ?_; intro a hE
      have hM:=hM.pull4
      refine Zm (seg:=enc x67) (cs':=enc x67) hE hM Za rfl rfl rfl ZL (Flat.len _) (zle flq) (Flat.cell _) (Zh flq) fun w a hM hE=>Zg ?_
      obtain rfl:=Option.some.inj hl53
      refine Zk ?_
      have hM:=M.fst (l:=[_]) hM
      exact ⟨hE.sub ⟨rfl,trivial⟩,hM⟩
    ·skip
     rintro a w ⟨hE,hM⟩
     obtain rfl:=Option.some.inj hF54
     have hq70 : Z6 Tryz.prog _ _ (.cell 6 35) _:=ZK hE rfl ZL rfl hM.rawAt0 (Flat.len _) rfl
     exact wp_ret (ZP hE rfl hq70 ⟨_,rfl,rfl,hM.kept⟩)
def YX (p0 : (Ref Gengine)) (r13 : (List (Vector UInt8 16))) (s19 : (Vector UInt8 32) × Int) : Option (Fl ((Vector UInt8 32) × Int) (Vector UInt8 32)) :=
 if (decide (s19.2 < (r13.length : Int))) = true then ((idx r13 s19.2).bind fun x24=>(Y9 p0 s19.1 x24).bind fun r29=>some (Fl.nx (r29,wr (s19.2 + 1)))) else (some (Fl.ex s19.1))
def YH (p0 : (Ref Gengine)) (p1 : (List (List UInt8))) : Option ((Vector UInt8 32)) :=
 (XR).bind fun r3=>(Z4 p1).bind fun r7=>(W4 r7).bind fun r10=>(VS r10).bind fun r13=>(ZA (YX p0 r13) (r3,0)).bind fun j16=>some j16
theorem Tz (w0 : World) (p0 : (Ref Gengine)) (v0_1 : Value) (hv0_1 : Ro w0 p0 [v0_1]) (p1 : (List (List UInt8))) (v1_1 : Value) (hv1_1 : Ro w0 p1 [v1_1]) (r : (Vector UInt8 32)) (hF : YH p0 p1 = some r) :
  Calls Tryz.prog 69 [v0_1,v1_1].toArray w0 (Rt w0 (Value.agg (enc r).toArray)):=by
 refine ce Tryz.func69 ?_
 intro a hE
 have hM:=M.start w0
 unfold YH at hF
 refine Zb (Zz hE hM ZL fun b1 w a hM hE=>Ze (Zb ?_))
 obtain ⟨r3,e4,hF⟩:=bind_some hF
 refine Zx hE rfl (cbm Tryz.func130) (QU _  r3 e4) ?_
 rintro v w a ⟨rfl,hK⟩ hE
 have hM:=hM.keep hK
 refine Zz hE hM ZL fun b5 w a hM hE=>Zm (seg:=enc r3) (cs':=enc r3) hE hM Za rfl rfl rfl ZL (Flat.len _) (zle flq) (Flat.cell _) (Zh flq) fun w a hM hE=>Ze (wp_seq (Zb (Zd hE rfl ?_))); intro a hE
 obtain ⟨r7,e8,hF⟩:=bind_some hF
 refine Zx hE rfl (cbm Tryz.func133) (UH _ p1 v1_1 (hM.rdo hv1_1) r7 e8) ?_
 rintro u9 w a ⟨_,rfl,hFr,hK⟩ hE
 have hM:=hM.add hK hFr
 obtain ⟨r10,e11,hF⟩:=bind_some hF
 refine Zx hE rfl (cbm Tryz.func132) (K0 _ r7 u9 (hM.sl (pre:=[]) noB) r10 e11) ?_
 rintro u12 w a ⟨_,rfl,hFr,hK⟩ hE
 have hM:=hM.add hK hFr
 obtain ⟨r13,e14,hF⟩:=bind_some hF
 refine Zx hE rfl (cbm Tryz.func131) (Ha _ r10 u12 (hM.sl (pre:=[]) noB) r13 e14) ?_
 rintro u15 w a ⟨_,rfl,hFr,hK⟩ hE
 have hM:=hM.add hK hFr
 refine Z5 hE rfl Tryz.underlying54 (hM.sl (pre:=[]) noB) fun a hE=>Zd hE rfl fun a hE=>Ze ?_
 obtain ⟨j16,hl17,hF18⟩:=bind_some hF
 refine ZO (fun a w=>Env 24 a [(4,(ptr b1 0)),(5,(ptr b5 0))] ∧ M (Old w0) w0 w [raw b5 (enc j16),raw b1 (enc (Vector.replicate 32 (0 : UInt8)))]) ?_ ?_
 ·skip
  refine wp_block ?_
  have hM:=M.fst (l:=[_,_,_]) hM.pull4.pull4.pull2
  refine ZE (fun (s19 : (Vector UInt8 32) × Int) a w=>Env 24 a [(0,v0_1),(4,(ptr b1 0)),(5,(ptr b5 0)),(12,u15),(13,(vI (r13.length : Int))),(14,vI s19.2)] ∧ M (Old w0) w0 w [osl NoB (r13 : List (Vector UInt8 16)) u15,raw b5 (enc s19.1),raw b1 (enc (Vector.replicate 32 (0 : UInt8)))]) hl17 ⟨hE.sub ⟨rfl,rfl,rfl,rfl,rfl,rfl,trivial⟩,hM⟩ ?_
  rintro s19 a w ⟨hE,hM⟩ o22 hs20 hx21
  unfold YX at hs20
  refine Zb (Zi hE rfl rfl rfl fun a hE=>Ze (wp_seq ?_))
  refine Zo hE rfl ?_ ?_
  ·intro hb23
   have hs20:=Zt hs20 hb23
   refine wp_skip (Zp (wp_seq (wp_block (Zb ?_))))
   obtain ⟨x24,hi26,hs20⟩:=bix hs20
   refine Yd hE rfl rfl Tryz.underlying54 ZJ (hM.sl (pre:=[]) noB) hi26.1 fun a hE=>Zr hE rfl ZJ rfl (Yt (hM.sl (pre:=[]) noB) hi26.2) (Flat.len _) fun a hE=>Zz hE hM ZJ fun b27 w a hM hE=>Zm (seg:=enc x24) (cs':=enc x24) hE hM Za rfl rfl rfl ZJ (Flat.len _) (zle flq) (Flat.cell _) (Zh flq) fun w a hM hE=>Ze (wp_region_lit (Zd hE rfl fun a hE=>Zr hE rfl ZL rfl hM.rawAt2 (Flat.len _) fun a hE=>Zr hE rfl ZJ rfl hM.rawAt0 (Flat.len _) ?_)); intro a hE
   obtain ⟨r29,e30,hs20⟩:=bind_some hs20
   refine Zx hE rfl (cbm Tryz.func134) (QV _ p0 v0_1 (hM.rdo hv0_1) s19.1 x24 r29 e30) ?_
   rintro v w a ⟨rfl,hK⟩ hE
   have hM:=(hM.keep hK).pull2
   refine Zm (seg:=enc r29) (cs':=enc r29) hE hM Za rfl rfl rfl ZL (Flat.len _) (zle flq) (Flat.cell _) (Zh flq) fun w a hM hE=>Zg (Yb (Zp (wp_region_lit (Zi hE rfl rfl rfl fun a hE=>Zd hE rfl fun a hE=>Zg (Zk ?_)))))
   have hM:=M.fst (l:=[_,_,_]) hM.pull3.pull1.pull3
   exact ⟨_,(ois hs20),hE.sub ⟨rfl,rfl,rfl,rfl,rfl,rfl,trivial⟩,hM⟩
  ·intro hb23
   have hs20:=Zs hs20 hb23
   refine wp_exit (Zn (Zn (Ye ?_)))
   obtain rfl:=hx21 _ (ois hs20)
   refine Zk ?_
   have hM:=M.fst (l:=[_,_]) hM.pull2.pull2
   exact ⟨hE.sub ⟨rfl,rfl,trivial⟩,hM⟩
 ·skip
  rintro a w ⟨hE,hM⟩
  refine Zp (Zb (Zr hE rfl ZL rfl hM.rawAt0 (Flat.len _) ?_)); intro a hE
  have hM:=hM.pull1
  refine Zm (seg:=enc j16) (cs':=enc j16) hE hM Za rfl rfl rfl ZL (Flat.len _) (zle flq) (Flat.cell _) (Zh flq) fun w a hM hE=>Ze ?_
  obtain rfl:=Option.some.inj hF18
  have hq32 : Z6 Tryz.prog _ _ (.cell 4 35) _:=ZK hE rfl ZL rfl hM.rawAt0 (Flat.len _) rfl
  exact wp_ret (ZP hE rfl hq32 ⟨_,rfl,rfl,hM.kept⟩)
def YO (p0 : Ghasher) (p1 : GBlobs) (s22 : Int) : Option (Fl Int (Fl Unit Bool)) :=
 if (decide (s22 < (p1.Data.length : Int))) = true then ((idx p1.Data s22).bind fun x27=>((VW x27).bind fun r39=>if (!r39) = true then (some true) else ((idx p1.Counts s22).bind fun x43=>(Uf x43 1 1000000).bind fun r46=>if (!r46) = true then (some true) else ((YH p0.engine ([x27] : (List (List UInt8)))).bind fun r54=>(idx p1.Keys s22).bind fun x56=>some (!decide (r54 = x56)))) : Option (Bool)).bind fun j35=>if j35 = true then (some (Fl.ex (Fl.ex false))) else (some (Fl.nx (wr (s22 + 1))))) else (some (Fl.ex (Fl.nx ())))
def XG (p0 : Ghasher) (p1 : GBlobs) : Option (Bool) :=
 (if (decide ((p1.Keys.length : Int) > 32)) = true then (some true) else (if ((p1.Data.length : Int) != (p1.Keys.length : Int)) = true then (some true) else (if ((p1.Counts.length : Int) != (p1.Keys.length : Int)) = true then (some true) else ((Uj p1.Keys).bind fun r14=>some (!r14)))) : Option (Bool)).bind fun j5=>if j5 = true then (some false) else ((ZA (YO p0 p1) 0).bind fun j18=>j18.el (fun s21=>some true) (fun r=>some r))
theorem QT (w0 : World) (p0 : Ghasher) (v0_1 : Value) (hv0_1 : Ro w0 p0.engine [v0_1]) (p1 : GBlobs) (v1_1 : Value) (hv1_1 : Ro w0 p1.Keys [v1_1]) (v1_2 : Value) (hv1_2 : Ro w0 p1.Data [v1_2]) (v1_3 : Value) (hv1_3 : Ro w0 p1.Counts [v1_3]) (r : Bool) (hF : XG p0 p1 = some r) :
  Calls Tryz.prog 67 [(Value.agg (cat [[v0_1]]).toArray),(Value.agg (cat [[v1_1],[v1_2],[v1_3]]).toArray)].toArray w0 (Rt w0 (vT r)):=by
 refine ce Tryz.func67 ?_
 intro a hE
 have hM:=M.start w0
 unfold XG at hF
 refine Zb (Ya (cs:=cat [[v0_1]]) hE hM Za ld rfl rfl fun b1 w a hM hE=>Ya (cs:=cat [[v1_1],[v1_2],[v1_3]]) hE hM Za ld rfl rfl fun b3 w a hM hE=>Zc hE rfl fun a hE=>Ze (wp_seq ?_))
 obtain ⟨j5,hl6,hF7⟩:=bind_some hF
 refine ZN (fun a w=>Env 69 a [(2,(ptr b1 0)),(3,(ptr b3 0)),(34,vT j5)] ∧ M (Old w0) w0 w [raw b3 (cat [[v1_1],[v1_2],[v1_3]]),raw b1 (cat [[v0_1]])]) ?_ ?_
 ·skip
  refine wp_region_lit (Zy hE rfl (XL) fun a hE=>ZB (v:=v1_1) hE rfl To rfl (At.cat (pre:=[]) hM.rawAt0 cl0) fun a hE=>Z5 hE rfl Tryz.underlying29 (hM.rd hv1_1) fun a hE=>Zi hE rfl rfl rfl fun a hE=>Zd hE rfl ?_); intro a hE
  refine Wc (decide ((p1.Keys.length : Int) > 32)) (fun hb8=>?_) (fun hb8=>?_)
  ·have hl6:=Zt hl6 hb8
   refine Zl hE rfl (lkb rfl hb8) rfl (by decide) fun a hE=>Zl hE rfl (lkb rfl hb8) rfl (by decide) fun a hE=>Zl hE rfl (lkb rfl hb8) rfl (by decide) fun a hE=>Zl hE rfl (lkb rfl hb8) rfl (by decide) fun a hE=>Zl hE rfl (lkb rfl hb8) rfl (by decide) fun a hE=>Zl hE rfl (lkb rfl hb8) rfl (by decide) fun a hE=>Zl hE rfl (lkb rfl hb8) rfl (by decide) fun a hE=>Yx hE (lkb rfl hb8) rfl fun a hE=>Zd hE rfl fun a hE=>Zl hE rfl rfl rfl (by decide) fun a hE=>Zl hE rfl rfl rfl (by decide) fun a hE=>Zl hE rfl rfl rfl (by decide) ?_; intro a hE
   refine Zl hE rfl rfl rfl (by decide) fun a hE=>Zl hE rfl rfl rfl (by decide) fun a hE=>Zl hE rfl rfl rfl (by decide) fun a hE=>Zl hE rfl rfl rfl (by decide) fun a hE=>Yx hE rfl rfl fun a hE=>Zd hE rfl fun a hE=>Zl hE rfl rfl rfl (by decide) fun a hE=>Zl hE rfl rfl rfl (by decide) fun a hE=>Zl hE rfl rfl rfl (by decide) fun a hE=>Zl hE rfl rfl rfl (by decide) fun a hE=>Yx hE rfl rfl fun a hE=>Zg ?_
   obtain rfl:=Option.some.inj hl6
   refine Zk ?_
   exact ⟨hE.sub ⟨rfl,rfl,rfl,trivial⟩,hM⟩
  ·have hl6:=Zs hl6 hb8
   refine Zq hE (Zf hE rfl (lkb rfl hb8)) (by decide) rfl (We) fun a hE=>ZM (v:=v1_2) hE (Zf hE rfl (lkb rfl hb8)) (by decide) rfl U8 rfl (At.cat (pre:=[[v1_1]]) hM.rawAt0 ck) fun a hE=>T3 hE (Zf hE rfl (lkb rfl hb8)) (by decide) rfl Tryz.underlying23 (hM.rd hv1_2) fun a hE=>Zq hE (Zf hE rfl (lkb rfl hb8)) (by decide) rfl (XL) fun a hE=>ZM (v:=v1_1) hE (Zf hE rfl (lkb rfl hb8)) (by decide) rfl To rfl (At.cat (pre:=[]) hM.rawAt0 cl0) fun a hE=>T3 hE (Zf hE rfl (lkb rfl hb8)) (by decide) rfl Tryz.underlying29 (hM.rd hv1_1) fun a hE=>Z9 hE (Zf hE rfl (lkb rfl hb8)) (by decide) rfl rfl rfl fun a hE=>X9 hE (lkb rfl hb8) rfl fun a hE=>Zd hE rfl ?_; intro a hE
   refine Wc ((p1.Data.length : Int) != (p1.Keys.length : Int)) (fun hb10=>?_) (fun hb10=>?_)
   ·have hl6:=Zt hl6 hb10
    refine Zl hE rfl (lkb rfl hb10) rfl (by decide) fun a hE=>Zl hE rfl (lkb rfl hb10) rfl (by decide) fun a hE=>Zl hE rfl (lkb rfl hb10) rfl (by decide) fun a hE=>Zl hE rfl (lkb rfl hb10) rfl (by decide) fun a hE=>Zl hE rfl (lkb rfl hb10) rfl (by decide) fun a hE=>Zl hE rfl (lkb rfl hb10) rfl (by decide) fun a hE=>Zl hE rfl (lkb rfl hb10) rfl (by decide) fun a hE=>Yx hE (lkb rfl hb10) rfl fun a hE=>Zd hE rfl fun a hE=>Zl hE rfl rfl rfl (by decide) fun a hE=>Zl hE rfl rfl rfl (by decide) fun a hE=>Zl hE rfl rfl rfl (by decide) ?_; intro a hE
    refine Zl hE rfl rfl rfl (by decide) fun a hE=>Yx hE rfl rfl fun a hE=>Zg ?_
    obtain rfl:=Option.some.inj hl6
    refine Zk ?_
    exact ⟨hE.sub ⟨rfl,rfl,rfl,trivial⟩,hM⟩
   ·have hl6:=Zs hl6 hb10
    refine Zq hE (Zf hE rfl (lkb rfl hb10)) (by decide) rfl (Wb) fun a hE=>ZM (v:=v1_3) hE (Zf hE rfl (lkb rfl hb10)) (by decide) rfl U7 rfl (At.cat (pre:=[[v1_1],[v1_2]]) hM.rawAt0 ck) fun a hE=>T3 hE (Zf hE rfl (lkb rfl hb10)) (by decide) rfl Tryz.underlying24 (hM.rd hv1_3) fun a hE=>Zq hE (Zf hE rfl (lkb rfl hb10)) (by decide) rfl (XL) fun a hE=>ZM (v:=v1_1) hE (Zf hE rfl (lkb rfl hb10)) (by decide) rfl To rfl (At.cat (pre:=[]) hM.rawAt0 cl0) fun a hE=>T3 hE (Zf hE rfl (lkb rfl hb10)) (by decide) rfl Tryz.underlying29 (hM.rd hv1_1) fun a hE=>Z9 hE (Zf hE rfl (lkb rfl hb10)) (by decide) rfl rfl rfl fun a hE=>X9 hE (lkb rfl hb10) rfl fun a hE=>Zd hE rfl ?_; intro a hE
    refine Wc ((p1.Counts.length : Int) != (p1.Keys.length : Int)) (fun hb12=>?_) (fun hb12=>?_)
    ·have hl6:=Zt hl6 hb12
     refine Zl hE rfl (lkb rfl hb12) rfl (by decide) fun a hE=>Zl hE rfl (lkb rfl hb12) rfl (by decide) fun a hE=>Zl hE rfl (lkb rfl hb12) rfl (by decide) fun a hE=>Zl hE rfl (lkb rfl hb12) rfl (by decide) fun a hE=>Yx hE (lkb rfl hb12) rfl fun a hE=>Zg ?_
     obtain rfl:=Option.some.inj hl6
     refine Zk ?_
     exact ⟨hE.sub ⟨rfl,rfl,rfl,trivial⟩,hM⟩
    ·have hl6:=Zs hl6 hb12
     refine Zq hE (Zf hE rfl (lkb rfl hb12)) (by decide) rfl (XL) fun a hE=>ZM (v:=v1_1) hE (Zf hE rfl (lkb rfl hb12)) (by decide) rfl To rfl (At.cat (pre:=[]) hM.rawAt0 cl0) ?_; intro a hE
     obtain ⟨r14,e15,hl6⟩:=bind_some hl6
     refine Yk hE (Zf hE rfl (lkb rfl hb12)) (by decide) rfl (cbm Tryz.func128) (Ba _ p1.Keys v1_1 (hM.rdo hv1_1) r14 e15) ?_
     rintro v w a ⟨rfl,hK⟩ hE
     have hM:=hM.keep hK
     refine TF hE (Zf hE rfl (lkb rfl hb12)) (by decide) rfl fun a hE=>X9 hE (lkb rfl hb12) rfl fun a hE=>Zg ?_
     obtain rfl:=Option.some.inj hl6
     refine Zk ?_
     exact ⟨hE.sub ⟨rfl,rfl,rfl,trivial⟩,hM⟩
 ·skip
  rintro a w ⟨hE,hM⟩
  refine Zo hE rfl ?_ ?_
  ·intro hb17
   have hF7:=Zt hF7 hb17
   refine Zb (Zc hE rfl fun a hE=>Ze ?_)
   obtain rfl:=Option.some.inj hF7
   exact wp_ret (Zv (kr1 hE rfl rfl hM.kept))
  ·intro hb17
   have hF7:=Zs hF7 hb17
   refine wp_skip (Zp (wp_seq (Zb (Zy hE rfl (We) fun a hE=>ZB (v:=v1_2) hE rfl U8 rfl (At.cat (pre:=[[v1_1]]) hM.rawAt0 ck) fun a hE=>Z5 hE rfl Tryz.underlying23 (hM.rd hv1_2) fun a hE=>Zd hE rfl fun a hE=>Ze ?_))))
   obtain ⟨j18,hl19,hF20⟩:=bind_some hF7
   refine ZO (fun a w=>∃ s21 : Unit,j18 = Fl.nx s21 ∧ Env 69 a [] ∧ M (Old w0) w0 w []) ?_ ?_
   ·skip
    refine wp_block ?_
    refine ZE (fun (s22 : Int) a w=>Env 69 a [(2,(ptr b1 0)),(3,(ptr b3 0)),(36,v1_2),(37,(vI (p1.Data.length : Int))),(38,vI s22)] ∧ M (Old w0) w0 w [raw b3 (cat [[v1_1],[v1_2],[v1_3]]),raw b1 (cat [[v0_1]])]) hl19 ⟨hE.sub ⟨rfl,rfl,rfl,rfl,rfl,trivial⟩,hM⟩ ?_
    rintro s22 a w ⟨hE,hM⟩ o25 hs23 hx24
    unfold YO at hs23
    refine Zb (Zi hE rfl rfl rfl fun a hE=>Ze (wp_seq ?_))
    refine Zo hE rfl ?_ ?_
    ·intro hb26
     have hs23:=Zt hs23 hb26
     refine wp_skip (Zp (wp_seq (wp_block (Zb (Zd hE rfl ?_))))); intro a hE
     obtain ⟨x27,hi29,hs23⟩:=bix hs23
     refine Yd hE rfl rfl Tryz.underlying23 YU (hM.rd hv1_2) hi29.1 ?_; intro a hE
     obtain ⟨cs30,hs31,hA32⟩:=US hv1_2 hi29.2 -- ^
     obtain ⟨u33,rfl⟩:=VE hs31 -- ^
     have h34:=hs31 -- ^
     refine ZB (v:=u33) hE rfl YU rfl (hM.atk hA32 (UY hv1_2 hi29.2)) fun a hE=>Zc hE rfl fun a hE=>Zc hE rfl fun a hE=>Ze ?_
     obtain ⟨j35,hl36,hF37⟩:=bind_some hs23
     refine ZN (fun a w=>Env 69 a [(2,(ptr b1 0)),(3,(ptr b3 0)),(36,v1_2),(37,(vI (p1.Data.length : Int))),(38,vI s22),(67,vT j35)] ∧ M (Old w0) w0 w [raw b3 (cat [[v1_1],[v1_2],[v1_3]]),raw b1 (cat [[v0_1]])]) ?_ ?_
     ·skip
      obtain ⟨r39,e40,hl36⟩:=bind_some hl36
      refine Wc (!r39) (fun hb41=>?_) (fun hb41=>?_)
      ·have hl36:=Zt hl36 hb41
       refine Yz (its:=[raw b3 (cat [[v1_1],[v1_2],[v1_3]]),raw b1 (cat [[v0_1]])]) (mk:=([] : Mk)) [43,44,45,46,47,48,49,50,51,52,53,54,55,56,57,58,59,60,61,62,63,64,65] Yu rfl rfl (by decide) rfl hE (fun u=>M.q0 hM.drew u) (qsP (fun z=>Zj z.E Za ld rfl (kr0 rfl)) (qsP (v:=(vT r39)) ?_ (qsP (fun z=>TF z.E Za ld rfl (kr0 rfl)) (qsP (fun z=>Zj z.E Za ld rfl (kr0 rfl)) (qsP (fun z=>Zl z.E rfl (lkb rfl hb41) rfl (by decide) (kr0 rfl)) (qsP (fun z=>Zl z.E rfl (lkb rfl hb41) rfl (by decide) (kr0 rfl)) (qsP (fun z=>Zl z.E rfl (lkb rfl hb41) rfl (by decide) (kr0 rfl)) (qsP (fun z=>Zl z.E rfl (lkb rfl hb41) rfl (by decide) (kr0 rfl)) (qsP (fun z=>Zl z.E rfl (lkb rfl hb41) rfl (by decide) (kr0 rfl)) (qsP (fun z=>Zl z.E rfl (lkb rfl hb41) rfl (by decide) (kr0 rfl)) (qsP (fun z=>Zl z.E rfl (lkb rfl hb41) rfl (by decide) (kr0 rfl)) (qsP (fun z=>Td z.E Za ld (lkb rfl hb41) rfl (kr0 rfl)) (qsP (fun z=>Zj z.E Za ld rfl (kr0 rfl)) (qsP (fun z=>Zl z.E rfl rfl rfl (by decide) (kr0 rfl)) (qsP (fun z=>Zl z.E rfl rfl rfl (by decide) (kr0 rfl)) (qsP (fun z=>Zl z.E rfl rfl rfl (by decide) (kr0 rfl)) (qsP (fun z=>Zl z.E rfl rfl rfl (by decide) (kr0 rfl)) (qsP (fun z=>Zl z.E rfl rfl rfl (by decide) (kr0 rfl)) (qsP (fun z=>Zl z.E rfl rfl rfl (by decide) (kr0 rfl)) (qsP (fun z=>Zl z.E rfl rfl rfl (by decide) (kr0 rfl)) (qsP (fun z=>Zl z.E rfl rfl rfl (by decide) (kr0 rfl)) (qsP (fun z=>Zl z.E rfl rfl rfl (by decide) (kr0 rfl)) (qsP (fun z=>Zl z.E rfl rfl rfl (by decide) (kr0 rfl)) qs0))))))))))))))))))))))) ?_
       ·intro a w ux38 D z
        have hE:=z.E
        have hM:=z.M
        refine Zx hE rfl cb68 (Tw _ x27 u33 (hM.rdo h34) r39 e40) ?_
        rintro v w a ⟨rfl,hK⟩ hE
        exact ⟨hK,_,rfl,hE⟩
       ·intro a w ux38 D hE hM hG hall
        refine Zl hE rfl rfl rfl (by decide) fun a hE=>Yx hE rfl rfl fun a hE=>Zg ?_
        obtain rfl:=Option.some.inj hl36
        refine Zk ?_
        exact ⟨hE.sub ⟨rfl,rfl,rfl,rfl,rfl,rfl,trivial⟩,hM⟩
      ·have hl36:=Zs hl36 hb41
       obtain ⟨x43,hi45,hl36⟩:=bix hl36
       obtain ⟨r46,e47,hl36⟩:=bind_some hl36
       refine Wc (!r46) (fun hb48=>?_) (fun hb48=>?_)
       ·have hl36:=Zt hl36 hb48
        refine Yz (its:=[raw b3 (cat [[v1_1],[v1_2],[v1_3]]),raw b1 (cat [[v0_1]])]) (mk:=([] : Mk)) [43,44,45,46,47,48,49,50,51,52,53,54,55,56,57,58,59,60,61,62,63,64,65] Yu rfl rfl (by decide) rfl hE (fun u=>M.q0 hM.drew u) (qsP (fun z=>Zj z.E Za ld rfl (kr0 rfl)) (qsP (v:=(vT r39)) ?_ (qsP (fun z=>TF z.E Za ld rfl (kr0 rfl)) (qsP (fun z=>Zj z.E Za ld rfl (kr0 rfl)) (qsP (fun z=>Zq z.E (Zf z.E rfl (lkb rfl hb41)) (by decide) rfl (Wb) (kr0 rfl)) (qsP (v:=v1_3) ?_ (qsP (fun z=>Zj z.E (Zf z.E rfl (lkb rfl hb41)) (by decide) rfl (kr0 rfl)) (qsP (v:=(ptr (sb v1_3) (so v1_3 + (s22).toNat * 1))) ?_ (qsP (v:=(vI x43)) ?_ (qsP (fun z=>Yk z.E (Zf z.E rfl (lkb rfl hb41)) (by decide) rfl (cbm Tryz.func129) (QX _ x43 1 1000000 r46 e47) (kc rfl)) (qsP (fun z=>TF z.E (Zf z.E rfl (lkb rfl hb41)) (by decide) rfl (kr0 rfl)) (qsP (fun z=>UW z.E Za ld (lkb rfl hb41) rfl (kr0 rfl)) (qsP (fun z=>Zj z.E Za ld rfl (kr0 rfl)) (qsP (fun z=>Zl z.E rfl (lkb rfl hb48) rfl (by decide) (kr0 rfl)) (qsP (fun z=>Zl z.E rfl (lkb rfl hb48) rfl (by decide) (kr0 rfl)) (qsP (fun z=>Zl z.E rfl (lkb rfl hb48) rfl (by decide) (kr0 rfl)) (qsP (fun z=>Zl z.E rfl (lkb rfl hb48) rfl (by decide) (kr0 rfl)) (qsP (fun z=>Zl z.E rfl (lkb rfl hb48) rfl (by decide) (kr0 rfl)) (qsP (fun z=>Zl z.E rfl (lkb rfl hb48) rfl (by decide) (kr0 rfl)) (qsP (fun z=>Zl z.E rfl (lkb rfl hb48) rfl (by decide) (kr0 rfl)) (qsP (fun z=>Zl z.E rfl (lkb rfl hb48) rfl (by decide) (kr0 rfl)) (qsP (fun z=>Zl z.E rfl (lkb rfl hb48) rfl (by decide) (kr0 rfl)) (qsP (fun z=>Zl z.E rfl (lkb rfl hb48) rfl (by decide) (kr0 rfl)) qs0))))))))))))))))))))))) ?_
        ·intro a w ux38 D z
         have hE:=z.E
         have hM:=z.M
         refine Zx hE rfl cb68 (Tw _ x27 u33 (hM.rdo h34) r39 e40) ?_
         rintro v w a ⟨rfl,hK⟩ hE
         exact ⟨hK,_,rfl,hE⟩
        ·intro a w ux38 D z
         have hE:=z.E
         have hM:=z.M
         exact ZM (v:=v1_3) hE (Zf hE rfl (lkb rfl hb41)) (by decide) rfl U7 rfl (At.cat (pre:=[[v1_1],[v1_2]]) hM.rawAt0 ck) fun a hE=>⟨Kept.refl _ _,_,rfl,hE⟩
        ·intro a w ux38 D z
         have hE:=z.E
         have hM:=z.M
         exact ZZ hE (Zf hE rfl (lkb rfl hb41)) (by decide) rfl rfl Tryz.underlying24 ty2 (hM.rd hv1_3) hi45.1 fun a hE=>⟨Kept.refl _ _,_,rfl,hE⟩
        ·intro a w ux38 D z
         have hE:=z.E
         have hM:=z.M
         exact ZM (v:=(vI x43)) hE (Zf hE rfl (lkb rfl hb41)) (by decide) rfl ty2 rfl (Yt (hM.rd hv1_3) hi45.2) fun a hE=>⟨Kept.refl _ _,_,rfl,hE⟩
        ·intro a w ux38 D hE hM hG hall
         refine Zl hE rfl (lkb rfl hb48) rfl (by decide) fun a hE=>Yx hE (lkb rfl hb48) rfl fun a hE=>Zg ?_
         obtain rfl:=Option.some.inj hl36
         refine Zk ?_
         exact ⟨hE.sub ⟨rfl,rfl,rfl,rfl,rfl,rfl,trivial⟩,hM⟩
       ·have hl36:=Zs hl36 hb48
        obtain ⟨r54,e55,hl36⟩:=bind_some hl36
        obtain ⟨x56,hi58,hl36⟩:=bix hl36
        refine Yz (its:=[raw b3 (cat [[v1_1],[v1_2],[v1_3]]),raw b1 (cat [[v0_1]])]) (mk:=([mkL 16 [] 1 (fun us=>[u33])] : Mk)) [43,44,45,46,47,48,49,50,51,52,53,54,55,56,57,58,59,60,61,62,63,64,65] Yu rfl rfl (by decide) rfl hE (fun u=>M.qE (M.q0 hM.drew u) emL) (qsP (fun z=>Zj z.E Za ld rfl (kr0 rfl)) (qsP (v:=(vT r39)) ?_ (qsP (fun z=>TF z.E Za ld rfl (kr0 rfl)) (qsP (fun z=>Zj z.E Za ld rfl (kr0 rfl)) (qsP (fun z=>Zq z.E (Zf z.E rfl (lkb rfl hb41)) (by decide) rfl (Wb) (kr0 rfl)) (qsP (v:=v1_3) ?_ (qsP (fun z=>Zj z.E (Zf z.E rfl (lkb rfl hb41)) (by decide) rfl (kr0 rfl)) (qsP (v:=(ptr (sb v1_3) (so v1_3 + (s22).toNat * 1))) ?_ (qsP (v:=(vI x43)) ?_ (qsP (fun z=>Yk z.E (Zf z.E rfl (lkb rfl hb41)) (by decide) rfl (cbm Tryz.func129) (QX _ x43 1 1000000 r46 e47) (kc rfl)) (qsP (fun z=>TF z.E (Zf z.E rfl (lkb rfl hb41)) (by decide) rfl (kr0 rfl)) (qsP (fun z=>UW z.E Za ld (lkb rfl hb41) rfl (kr0 rfl)) (qsP (fun z=>Zj z.E Za ld rfl (kr0 rfl)) (qsP (fun z=>Zq z.E (Zf z.E rfl (lkb rfl hb48)) (by decide) rfl (jd) (kr0 rfl)) (qsP (v:=v0_1) ?_ (qsP (fun z=>Zj z.E (Zf z.E rfl (lkb rfl hb48)) (by decide) rfl (kr0 rfl)) (qsM (pr:=fun v=>True) ?_ (qsP (v:=(Value.agg (enc r54).toArray)) ?_ (qsP (fun z=>Zq z.E (Zf z.E rfl (lkb rfl hb48)) (by decide) rfl (XL) (kr0 rfl)) (qsP (v:=v1_1) ?_ (qsP (fun z=>Zj z.E (Zf z.E rfl (lkb rfl hb48)) (by decide) rfl (kr0 rfl)) (qsP (v:=(ptr (sb v1_1) (so v1_1 + (s22).toNat * 32))) ?_ (qsP (v:=(Value.agg (enc x56).toArray)) ?_ qs0))))))))))))))))))))))) ?_
        ·intro a w ux38 D z
         have hE:=z.E
         have hM:=z.M
         refine Zx hE rfl cb68 (Tw _ x27 u33 (hM.rdo h34) r39 e40) ?_
         rintro v w a ⟨rfl,hK⟩ hE
         exact ⟨hK,_,rfl,hE⟩
        ·intro a w ux38 D z
         have hE:=z.E
         have hM:=z.M
         exact ZM (v:=v1_3) hE (Zf hE rfl (lkb rfl hb41)) (by decide) rfl U7 rfl (At.cat (pre:=[[v1_1],[v1_2]]) hM.rawAt0 ck) fun a hE=>⟨Kept.refl _ _,_,rfl,hE⟩
        ·intro a w ux38 D z
         have hE:=z.E
         have hM:=z.M
         exact ZZ hE (Zf hE rfl (lkb rfl hb41)) (by decide) rfl rfl Tryz.underlying24 ty2 (hM.rd hv1_3) hi45.1 fun a hE=>⟨Kept.refl _ _,_,rfl,hE⟩
        ·intro a w ux38 D z
         have hE:=z.E
         have hM:=z.M
         exact ZM (v:=(vI x43)) hE (Zf hE rfl (lkb rfl hb41)) (by decide) rfl ty2 rfl (Yt (hM.rd hv1_3) hi45.2) fun a hE=>⟨Kept.refl _ _,_,rfl,hE⟩
        ·intro a w ux38 D z
         have hE:=z.E
         have hM:=z.M
         exact ZM (v:=v0_1) hE (Zf hE rfl (lkb rfl hb48)) (by decide) rfl kO rfl (At.cat (pre:=[]) hM.rawAt1 cl0) fun a hE=>⟨Kept.refl _ _,_,rfl,hE⟩
        ·intro a w ux38 D z
         have hE:=z.E
         have hD : D 16 = false:=z.F
         have hM:=z.M
         exact Kv (xs:=[.tmp 58]) (vs:=[u33]) hE hM (Zf hE rfl (lkb rfl hb48)) (by decide) rfl rfl Tryz.underlying23 YU (by decide) (HB (YC (hM.rd h34)) yb) fun b50 w a hM hE=>⟨_,_,rfl,hE,M.litFill (its:=[raw b3 (cat [[v1_1],[v1_2],[v1_3]]),raw b1 (cat [[v0_1]])]) (mk:=([] : Mk)) (i:=16) (ds:=[]) (m:=1) (f:=(fun us=>[u33])) hM rfl hD (by decide),trivial⟩
        ·intro a w ux38 D z
         have hE:=z.E
         have d16 : D 16 = true:=z.p 1 _ rfl rfl
         have hM:=(z.M.sure (pre:=[_,_]) d16).pull
         obtain ⟨b52,f53,hM⟩:=M.litOpen hM
         refine Yk hE (Zf hE rfl (lkb rfl hb48)) (by decide) (kd (evsC rfl (evsC (lk rfl f53) evsN))) (cbm Tryz.func69) (Tz _ p0.engine v0_1 (hM.rdo hv0_1) ([x27] : (List (List UInt8))) (Value.slice (some ⟨b52,0,none⟩) 1 1) (yH hM.rawAt0 (hM.rawLt (pre:=[])) ⟨(hM.rdo h34),trivial⟩ rfl) r54 e55) ?_
         rintro v w a ⟨rfl,hK⟩ hE
         exact ⟨hK,_,rfl,hE⟩
        ·intro a w ux38 D z
         have hE:=z.E
         have hM:=z.M
         exact ZM (v:=v1_1) hE (Zf hE rfl (lkb rfl hb48)) (by decide) rfl To rfl (At.cat (pre:=[]) hM.rawAt0 cl0) fun a hE=>⟨Kept.refl _ _,_,rfl,hE⟩
        ·intro a w ux38 D z
         have hE:=z.E
         have hM:=z.M
         exact ZZ hE (Zf hE rfl (lkb rfl hb48)) (by decide) rfl rfl Tryz.underlying29 ZL (hM.rd hv1_1) hi58.1 fun a hE=>⟨Kept.refl _ _,_,rfl,hE⟩
        ·intro a w ux38 D z
         have hE:=z.E
         have hM:=z.M
         exact ZW hE (Zf hE rfl (lkb rfl hb48)) (by decide) rfl ZL rfl (Yt (hM.rd hv1_1) hi58.2) (Flat.len _) fun a hE=>⟨Kept.refl _ _,_,rfl,hE⟩
        ·intro a w ux38 D hE hM hG hall
         have d16:=hall 16 (by decide)
         have hM:=(hM.sure (pre:=[_,_]) d16).pull
         obtain ⟨b59,f60,hM⟩:=M.litOpen hM
         have hE:=hE.setq (t:=59) rfl f60
         refine s_neA hE (Zf hE rfl (lkb rfl hb48)) (by decide) rfl rfl (Bw Tryz.underlying35 ty5 rfl false rfl (by decide) (Jx Tryz.underlying5)) (by decide) (by kernel_rfl) fun a hE=>X9 hE (lkb rfl hb48) rfl fun a hE=>Zg ?_
         obtain rfl:=Option.some.inj hl36
         refine Zk ?_
         have hM:=M.fst (l:=[_,_]) hM.pull2.pull2
         exact ⟨hE.sub ⟨rfl,rfl,rfl,rfl,rfl,rfl,trivial⟩,hM⟩
     ·skip
      rintro a w ⟨hE,hM⟩
      refine Zo hE rfl ?_ ?_
      ·intro hb62
       have hF37:=Zt hF37 hb62
       refine Zb (Zc hE rfl fun a hE=>Ze ?_)
       obtain rfl:=hx24 _ (ois hF37)
       obtain rfl:=Option.some.inj hF20
       exact wp_ret (Xk (Zv (Zv (Xk (Zv (Zv (kr1 hE rfl rfl hM.kept)))))))
      ·intro hb62
       have hF37:=Zs hF37 hb62
       refine wp_skip (Yb (Zp (wp_region_lit (Zi hE rfl rfl rfl fun a hE=>Zd hE rfl fun a hE=>Zg (Zk ?_)))))
       exact ⟨_,(ois hF37),hE.sub ⟨rfl,rfl,rfl,rfl,rfl,trivial⟩,hM⟩
    ·intro hb26
     have hs23:=Zs hs23 hb26
     refine wp_exit (Zn (Zn (Ye ?_)))
     obtain rfl:=hx24 _ (ois hs23)
     refine Zk ?_
     have hM:=M.fst (l:=[]) hM
     exact ⟨(),rfl,hE.sub trivial,hM⟩
   ·skip
    rintro a w ⟨s21,ht,hE,hM⟩
    subst ht
    have hF20:=Ta hF20
    refine Zp (Zb (Zc hE rfl fun a hE=>Ze ?_))
    obtain rfl:=Option.some.inj hF20
    exact wp_ret (kr1 hE rfl rfl hM.kept)
def Yi (p0 : (List (Vector UInt8 32))) : Option ((List (Vector UInt8 32))) :=
 (app 32 ([] : List (Vector UInt8 32)) p0).bind fun l7=>some (([] : List (Vector UInt8 32)) ++ p0)
theorem Ug (w0 : World) (p0 : (List (Vector UInt8 32))) (v0_1 : Value) (hv0_1 : Ro w0 p0 [v0_1]) (r : (List (Vector UInt8 32))) (hF : Yi p0 = some r) :
  Calls Tryz.prog 121 [v0_1].toArray w0 (fun en w'=>∃ v,en = .returned v ∧ (∃ (y1 : Value),v = y1 ∧ Fr w0 w' [osl NoB (r : List (Vector UInt8 32)) y1] ∧ Kept (Old w0) w0 w')):=by
 refine ce Tryz.func121 ?_
 intro a hE
 have hM:=M.start w0
 unfold Yi at hF
 refine Zb (Zc hE rfl fun a hE=>Ze (wp_seq (Zb (Zd hE rfl fun a hE=>Aq hE Za ld rfl rfl Tryz.underlying29 (hM.rd hv0_1) fun bn1 a hn2 hE=>Ze ?_))))
 refine Zo hE rfl ?_ ?_
 ·intro hb3
  have h0:=hn2 hb3
  have hF : some ([]) = some r:=by rw [h0] at hF; simpa [app] using hF
  refine Zb (Zc hE rfl fun a hE=>Ze ?_)
  have hM:=M.nilS (α:=(Vector UInt8 32)) NoB noB hM
  obtain rfl:=Option.some.inj hF
  exact wp_ret (Zv (ZP hE rfl (ZU hE rfl) ⟨_,rfl,(Value.slice none 0 0),rfl,hM.outF (Yf Xi),hM.kept⟩))
 ·intro hb3
  refine wp_skip (Zp (Zb (Yr (xs:=[]) (l:=([] : List (Vector UInt8 32))) (vs:=[]) hE hM Za ld rfl rfl Tryz.underlying29 ZL rfl (by decide) rfl fun u5 w a hM hE=>Zd hE rfl ?_))); intro a hE
  obtain ⟨l7,e8,hF⟩:=bind_some hF
  have e11:=(Yj e8).1
  refine Z2 hE hM Za ld rfl rfl (hM.rd hv0_1) Tryz.underlying29 ZL rfl (by decide) e11 fun u9 w a hM hE=>Zc hE rfl fun a hE=>Ze ?_
  obtain rfl:=Option.some.inj hF
  exact wp_ret (ZP hE rfl (ZU hE rfl) ⟨_,rfl,u9,rfl,hM.outF (Yf Xi),hM.kept⟩)
def Xn (p0 : (List Int)) : Option ((List Int)) :=
 (app 8 ([] : List Int) p0).bind fun l7=>some (([] : List Int) ++ p0)
theorem T5 (w0 : World) (p0 : (List Int)) (v0_1 : Value) (hv0_1 : Ro w0 p0 [v0_1]) (r : (List Int)) (hF : Xn p0 = some r) :
  Calls Tryz.prog 122 [v0_1].toArray w0 (fun en w'=>∃ v,en = .returned v ∧ (∃ (y1 : Value),v = y1 ∧ Fr w0 w' [osl NoB (r : List Int) y1] ∧ Kept (Old w0) w0 w')):=by
 refine ce Tryz.func122 ?_
 intro a hE
 have hM:=M.start w0
 unfold Xn at hF
 refine Zb (Zc hE rfl fun a hE=>Ze (wp_seq (Zb (Zd hE rfl fun a hE=>Aq hE Za ld rfl rfl Tryz.underlying24 (hM.rd hv0_1) fun bn1 a hn2 hE=>Ze ?_))))
 refine Zo hE rfl ?_ ?_
 ·intro hb3
  have h0:=hn2 hb3
  have hF : some ([]) = some r:=by rw [h0] at hF; simpa [app] using hF
  refine Zb (Zc hE rfl fun a hE=>Ze ?_)
  have hM:=M.nilS (α:=Int) NoB noB hM
  obtain rfl:=Option.some.inj hF
  exact wp_ret (Zv (ZP hE rfl (ZU hE rfl) ⟨_,rfl,(Value.slice none 0 0),rfl,hM.outF (Yf Xi),hM.kept⟩))
 ·intro hb3
  refine wp_skip (Zp (Zb (Yr (xs:=[]) (l:=([] : List Int)) (vs:=[]) hE hM Za ld rfl rfl Tryz.underlying24 ty2 rfl (by decide) rfl fun u5 w a hM hE=>Zd hE rfl ?_))); intro a hE
  obtain ⟨l7,e8,hF⟩:=bind_some hF
  have e11:=(Yj e8).1
  refine Z2 hE hM Za ld rfl rfl (hM.rd hv0_1) Tryz.underlying24 ty2 rfl (by decide) e11 fun u9 w a hM hE=>Zc hE rfl fun a hE=>Ze ?_
  obtain rfl:=Option.some.inj hF
  exact wp_ret (ZP hE rfl (ZU hE rfl) ⟨_,rfl,u9,rfl,hM.outF (Yf Xi),hM.kept⟩)
def Wk (p0 : GBlobs) (s21 : (List (List UInt8)) × Int) : Option (Fl ((List (List UInt8)) × Int) (List (List UInt8))) :=
 if (decide (s21.2 < (p0.Data.length : Int))) = true then ((idx p0.Data s21.2).bind fun x29=>(Ym x29).bind fun r38=>(app 24 s21.1 ([r38] : List (List UInt8))).bind fun l44=>some (Fl.nx ((s21.1 ++ ([r38] : List (List UInt8))),wr (s21.2 + 1)))) else (some (Fl.ex s21.1))
def WP (p0 : GBlobs) : Option (GBlobs) :=
 (Yi p0.Keys).bind fun r6=>(Xn p0.Counts).bind fun r9=>(ZA (Wk p0) ([],0)).bind fun j16=>some (⟨r6,j16,r9⟩ : GBlobs)
theorem KF (w0 : World) (p0 : GBlobs) (v0_1 : Value) (hv0_1 : Ro w0 p0.Keys [v0_1]) (v0_2 : Value) (hv0_2 : Ro w0 p0.Data [v0_2]) (v0_3 : Value) (hv0_3 : Ro w0 p0.Counts [v0_3]) (r : GBlobs) (hF : WP p0 = some r) :
  Calls Tryz.prog 50 [(Value.agg (cat [[v0_1],[v0_2],[v0_3]]).toArray)].toArray w0 (fun en w'=>∃ v,en = .returned v ∧ (∃ (y1 : Value) (y2 : Value) (y3 : Value),v = (Value.agg (cat [[y1],[y2],[y3]]).toArray) ∧ Fr w0 w' [osl NoB (r.Keys : List (Vector UInt8 32)) y1,osl NoB (r.Data : List (List UInt8)) y2,osl NoB (r.Counts : List Int) y3] ∧ Kept (Old w0) w0 w')):=by
 refine ce Tryz.func50 ?_
 intro a hE
 have hM:=M.start w0
 unfold WP at hF
 refine Zb (Ya (cs:=cat [[v0_1],[v0_2],[v0_3]]) hE hM Za ld rfl rfl fun b1 w a hM hE=>Zz hE hM Yv fun b3 w a hM hE=>Ze (wp_seq ?_))
 obtain ⟨r6,e7,hF⟩:=bind_some hF
 obtain ⟨r9,e10,hF⟩:=bind_some hF
 refine Yz (its:=[raw b3 (cat [[(Value.slice none 0 0)],[(Value.slice none 0 0)],[(Value.slice none 0 0)]]),raw b1 (cat [[v0_1],[v0_2],[v0_3]])]) (mk:=([mkO 2 (fun v=>osl NoB (r6 : List (Vector UInt8 32)) v),mkO 5 (fun v=>osl NoB (r9 : List Int) v),mkO 7 (fun v=>VZ v (cat [[(Value.slice none 0 0)],[(Value.slice none 0 0)],[(Value.slice none 0 0)]]))] : Mk)) [6,7,8,9,10,11,12,3] Yu rfl rfl (by decide) rfl hE (fun u=>M.qE (M.qE (M.qE (M.q0 hM.drew u) emO) emO) emO) (qsP (fun z=>Zq z.E Za ld rfl (XL) (kr0 rfl)) (qsP (v:=v0_1) ?_ (qsM (pr:=fun v=>True) ?_ (qsP (fun z=>Zq z.E Za ld rfl (Wb) (kr0 rfl)) (qsP (v:=v0_3) ?_ (qsM (pr:=fun v=>True) ?_ (qsD (ds:=[2,5]) (f:=fun us=>(Value.agg (cat [[(us.getD 0 undef)],[(Value.slice none 0 0)],[(us.getD 1 undef)]]).toArray)) ?_ (qsM (pr:=fun v=>True) ?_ qs0)))))))) ?_
 ·intro a w ux5 D z
  have hE:=z.E
  have hM:=z.M
  exact ZB (v:=v0_1) hE rfl To rfl (At.cat (pre:=[]) hM.rawAt1 cl0) fun a hE=>⟨Kept.refl _ _,_,rfl,hE⟩
 ·intro a w ux5 D z
  have hE:=z.E
  have hD : D 2 = false:=z.F
  have hM0:=z.M
  have hM:=z.M
  refine Zx hE rfl (cbm Tryz.func121) (Ug _ p0.Keys v0_1 (hM.rdo hv0_1) r6 e7) ?_
  rintro _ w a ⟨_,rfl,hFr,hK⟩ hE
  have hM:=hM0.add hK hFr
  exact ⟨_,_,rfl,hE,M.qFill (mk1:=[]) (mk2:=[_,_]) (f:=(fun v=>osl NoB (r6 : List (Vector UInt8 32)) v)) hM rfl hD,trivial⟩
 ·intro a w ux5 D z
  have hE:=z.E
  have hM:=z.M
  exact ZB (v:=v0_3) hE rfl U7 rfl (At.cat (pre:=[[v0_1],[v0_2]]) hM.rawAt1 ck) fun a hE=>⟨Kept.refl _ _,_,rfl,hE⟩
 ·intro a w ux5 D z
  have hE:=z.E
  have hD : D 5 = false:=z.F
  have hM0:=z.M
  have hM:=z.M
  refine Zx hE rfl (cbm Tryz.func122) (T5 _ p0.Counts v0_3 (hM.rdo hv0_3) r9 e10) ?_
  rintro _ w a ⟨_,rfl,hFr,hK⟩ hE
  have hM:=hM0.add hK hFr
  exact ⟨_,_,rfl,hE,M.qFill (mk1:=[_]) (mk2:=[_]) (f:=(fun v=>osl NoB (r9 : List Int) v)) hM rfl hD,trivial⟩
 ·intro a w ux5 D z
  have hE:=z.E
  have d2 : D 2 = true:=z.p 0 _ rfl rfl
  have d5 : D 5 = true:=z.p 1 _ rfl rfl
  have hM:=(z.M.sure (pre:=[_,_]) d2).sure (pre:=[_,_,_]) d5
  exact XM (parts:=[(0,.tmp 8),(2,.tmp 11)]) (vs:=[(0,(ux5 2)),(2,(ux5 5))]) (cs:=cat [[(ux5 2)],[(Value.slice none 0 0)],[(ux5 5)]]) hE Za ld rfl rfl Yv AH (Xx (pre:=[]) (seg:=[(Value.slice none 0 0)]) (seg':=[(ux5 2)]) (post:=[[(Value.slice none 0 0)],[(Value.slice none 0 0)]]) rfl cl0 rfl rfl (YC (hM.sl (pre:=[_,_]) noB)) (Xx (pre:=[[(ux5 2)],[(Value.slice none 0 0)]]) (seg:=[(Value.slice none 0 0)]) (seg':=[(ux5 5)]) (post:=[]) rfl ck rfl rfl (YC (hM.sl (pre:=[_,_,_]) noB)) Vv)) fun a hE=>⟨Kept.refl _ _,(allC d2 (allC d5 allN)),_,rfl,hE⟩
 ·intro a w ux5 D z
  have hE:=z.E
  have hD : D 7 = false:=z.F
  have hM:=z.M
  refine Zz hE hM Yv ?_; intro b12 w a hM hE
  have hM:=hM.pack1 (it:=VZ _ (cat [[(Value.slice none 0 0)],[(Value.slice none 0 0)],[(Value.slice none 0 0)]])) (fun w w' fp ⟨b',e,k⟩ hb=>⟨b',e,YW w w' fp k hb⟩) (fun fp k=>⟨_,rfl,k⟩)
  exact ⟨_,_,rfl,hE,M.qFill (mk1:=[_,_]) (mk2:=[]) (f:=fun v=>VZ v (cat [[(Value.slice none 0 0)],[(Value.slice none 0 0)],[(Value.slice none 0 0)]])) hM rfl hD,trivial⟩
 ·intro a w ux5 D hE hM hG hall
  have d2:=hall 2 (by decide)
  have d5:=hall 5 (by decide)
  have d7:=hall 7 (by decide)
  have hM:=(((hM.sure (pre:=[_,_]) d2).sure (pre:=[_,_,_]) d5).sure (pre:=[_,_,_,_]) d7).pull
  obtain ⟨_,⟨b14,f15,_⟩,_⟩:=hM.head
  have hM:=hM.pack1 YW (it:=raw b14 (cat [[(Value.slice none 0 0)],[(Value.slice none 0 0)],[(Value.slice none 0 0)]])) (fun fp ⟨b2,e2,k2⟩=>by rw [f15] at e2; simp [ptr] at e2; subst e2; exact k2)
  have hE:=hE.setq (t:=3) rfl f15
  refine Zm (seg:=cat [[(ux5 2)],[(Value.slice none 0 0)],[(ux5 5)]]) (cs':=cat [[(ux5 2)],[(Value.slice none 0 0)],[(ux5 5)]]) hE hM Za rfl rfl rfl Yv cq (Nat.le_of_eq ((Nat.zero_add _).trans (Eq.trans cq (Eq.symm cq)))) (Yq (cc1 (Rep.cell (hM.sl (pre:=[_,_,_]) noB)) (cc1 Xp (cc1 (Rep.cell (hM.sl (pre:=[_,_,_,_]) noB)) cc0)))) (Zh (Eq.trans cq (Eq.symm cq))) fun w a hM hE=>Zg (Zp (wp_seq (Zb (Zy hE rfl (We) fun a hE=>ZB (v:=v0_2) hE rfl U8 rfl (At.cat (pre:=[[v0_1]]) hM.rawAt2 ck) fun a hE=>Z5 hE rfl Tryz.underlying23 (hM.rd hv0_2) fun a hE=>Zd hE rfl fun a hE=>Ze ?_))))
  obtain ⟨j16,hl17,hF18⟩:=bind_some hF
  refine ZO (fun a w=>∃ (u19 : Value),Env 29 a [(2,(ptr b3 0)),(3,(ptr b14 0))] ∧ M (Old w0) w0 w [raw b14 (cat [[(ux5 2)],[u19],[(ux5 5)]]),raw b3 (cat [[(Value.slice none 0 0)],[(Value.slice none 0 0)],[(Value.slice none 0 0)]]),osl NoB (r6 : List (Vector UInt8 32)) (ux5 2),osl NoB (r9 : List Int) (ux5 5),osl NoB (j16 : List (List UInt8)) u19]) ?_ ?_
  ·skip
   refine wp_block ?_
   have hM:=M.fst (l:=[_,_,_,_,_]) (((((M.nilS (α:=(List UInt8)) NoB noB hM).pull5).pull5).pull4).pull4)
   refine ZE (fun (s21 : (List (List UInt8)) × Int) a w=>∃ (u22 : Value),Env 29 a [(2,(ptr b3 0)),(3,(ptr b14 0)),(14,v0_2),(15,(vI (p0.Data.length : Int))),(16,vI s21.2)] ∧ M (Old w0) w0 w [raw b14 (cat [[(ux5 2)],[u22],[(ux5 5)]]),raw b3 (cat [[(Value.slice none 0 0)],[(Value.slice none 0 0)],[(Value.slice none 0 0)]]),osl NoB (r6 : List (Vector UInt8 32)) (ux5 2),osl NoB (r9 : List Int) (ux5 5),osl NoB (s21.1 : List (List UInt8)) u22]) hl17 ⟨(Value.slice none 0 0),hE.sub ⟨rfl,rfl,rfl,rfl,rfl,trivial⟩,hM⟩ ?_
   rintro s21 a w ⟨u22,hE,hM⟩ o26 hs24 hx25
   unfold Wk at hs24
   refine Zb (Zi hE rfl rfl rfl fun a hE=>Ze (wp_seq ?_))
   refine Zo hE rfl ?_ ?_
   ·intro hb28
    have hs24:=Zt hs24 hb28
    refine wp_skip (Zp (wp_seq (wp_block (Zb ?_))))
    obtain ⟨x29,hi31,hs24⟩:=bix hs24
    refine Yd hE rfl rfl Tryz.underlying23 YU (hM.rd hv0_2) hi31.1 ?_; intro a hE
    obtain ⟨cs32,hs33,hA34⟩:=US hv0_2 hi31.2 -- ^
    obtain ⟨u35,rfl⟩:=VE hs33 -- ^
    have h36:=hs33 -- ^
    refine ZB (v:=u35) hE rfl YU rfl (hM.atk hA34 (UY hv0_2 hi31.2)) fun a hE=>Zc hE rfl fun a hE=>Ze ?_
    obtain ⟨r38,e39,hs24⟩:=bind_some hs24
    refine Yz (its:=[raw b14 (cat [[(ux5 2)],[u22],[(ux5 5)]]),raw b3 (cat [[(Value.slice none 0 0)],[(Value.slice none 0 0)],[(Value.slice none 0 0)]]),osl NoB (r6 : List (Vector UInt8 32)) (ux5 2),osl NoB (r9 : List Int) (ux5 5),osl NoB (s21.1 : List (List UInt8)) u22]) (mk:=([mkN [(4,fun v=>osl NoB (([r38] : List (List UInt8)) : List (List UInt8)) v),(3,fun v=>osl NoB (r38 : List UInt8) v)]] : Mk)) [20,21,22,23,24] Yu rfl rfl (by decide) rfl hE (fun u=>M.qE (M.q0 hM.drew u) emN) (qsP (fun z=>Zq z.E Za ld rfl (We) (kr0 rfl)) (qsP (v:=u22) ?_ (qsP (fun z=>Zj z.E Za ld rfl (kr0 rfl)) (qsM (pr:=fun v=>True) ?_ (qsM (pr:=fun v=>True) ?_ qs0))))) ?_
    ·intro a w ux37 D z
     have hE:=z.E
     have hM:=z.M
     exact ZB (v:=u22) hE rfl U8 rfl (At.cat (pre:=[[(ux5 2)]]) hM.rawAt0 ck) fun a hE=>⟨Kept.refl _ _,_,rfl,hE⟩
    ·intro a w ux37 D z
     have hE:=z.E
     have hD : D 3 = false:=z.F
     have hM0:=z.M
     have hM:=z.M
     refine Zx hE rfl cb75 (Ve _ x29 u35 (hM.rdo h36) r38 e39) ?_
     rintro _ w a ⟨_,rfl,hFr,hK⟩ hE
     have hM:=hM0.add hK hFr
     have hq4 : D 4 = false:=Qg (j:=4) (k:=0) z.c rfl rfl rfl hD
     exact ⟨_,_,rfl,hE,M.qPut (p:=mkN [(4,fun v=>osl NoB (([r38] : List (List UInt8)) : List (List UInt8)) v),(3,fun v=>osl NoB (r38 : List UInt8) v)]) (its:=[raw b14 (cat [[(ux5 2)],[u22],[(ux5 5)]]),raw b3 (cat [[(Value.slice none 0 0)],[(Value.slice none 0 0)],[(Value.slice none 0 0)]]),osl NoB (r6 : List (Vector UInt8 32)) (ux5 2),osl NoB (r9 : List Int) (ux5 5),osl NoB (s21.1 : List (List UInt8)) u22]) (mk1:=[]) (mk2:=[]) hM rfl (Qc (U6 hq4 (U6 hD TC))) (V1 (l:=[_]) (U6 hq4 TC)),trivial⟩
    ·intro a w ux37 D z
     have hE:=z.E
     have hD : D 4 = false:=z.F
     have d3 : D 3 = true:=z.p 0 _ rfl rfl
     have hM:=(z.M.chnF (pre:=[_,_,_,_,_]) hD).chnT (pre:=[_,_,_,_,_]) d3
     have hc43:=YC (hM.sl (pre:=[_,_,_,_,_]) noB)
     have hM:=hM.pull5
     have hM:=hM.pack1 (it:=own NoB r38 ([(ux37 3)])) (V5 noB) (fun f0 q0=>(XV.sat q0))
     exact zE (xs:=[.tmp 23]) (seg:=[(ux37 3)]) hE hM noB Za ld rfl hc43 Tryz.underlying23 YU rfl (by decide) fun u41 w a hM hE=>⟨_,_,rfl,hE,M.qTogS (p:=mkN [(4,fun v=>osl NoB (([r38] : List (List UInt8)) : List (List UInt8)) v),(3,fun v=>osl NoB (r38 : List UInt8) v)]) (its:=[raw b14 (cat [[(ux5 2)],[u22],[(ux5 5)]]),raw b3 (cat [[(Value.slice none 0 0)],[(Value.slice none 0 0)],[(Value.slice none 0 0)]]),osl NoB (r6 : List (Vector UInt8 32)) (ux5 2),osl NoB (r9 : List Int) (ux5 5),osl NoB (s21.1 : List (List UInt8)) u22]) (mk1:=[]) (mk2:=[]) hM rfl (V1 (l:=[]) TC),trivial⟩
    ·intro a w ux37 D hE hM hG hall
     have d4:=hall 4 (by decide)
     have hM:=hM.chnT (pre:=[_,_,_,_,_]) d4
     obtain ⟨l44,e45,hs24⟩:=bind_some hs24
     obtain ⟨e48,rfl⟩:=Yj e45
     have hM:=hM.pull5.pull5
     refine BT hE hM noB Za ld rfl rfl Tryz.underlying23 YU rfl (by decide) e48 fun u46 w a hM hE=>Zy hE rfl (We) ?_; intro a hE
     have hM:=hM.pull1
     refine Zm (seg:=[u46]) hE hM Za rfl rfl (YC (hM.sl (pre:=[_]) noB)) U8 rfl (Us (pre:=[[(ux5 2)]]) ck rfl) (Rep.cell (hM.sl (pre:=[_]) noB)) (XO (pre:=[[(ux5 2)]]) ck rfl) fun w a hM hE=>Zg (Yb (Zp (wp_region_lit (Zi hE rfl rfl rfl fun a hE=>Zd hE rfl fun a hE=>Zg (Zk ?_)))))
     have hM:=hM.pull1.pull4.pull4.pull4.pull4
     exact ⟨_,(ois hs24),u46,hE.sub ⟨rfl,rfl,rfl,rfl,rfl,trivial⟩,hM⟩
   ·intro hb28
    have hs24:=Zs hs24 hb28
    refine wp_exit (Zn (Zn (Ye ?_)))
    obtain rfl:=hx25 _ (ois hs24)
    refine Zk ?_
    exact ⟨u22,hE.sub ⟨rfl,rfl,trivial⟩,hM⟩
  ·skip
   rintro a w ⟨u19,hE,hM⟩
   refine Zp (Zb (Zr hE rfl Yv rfl hM.rawAt0 cq ?_)); intro a hE
   have hM:=hM.pull1
   refine Zm (seg:=cat [[(ux5 2)],[u19],[(ux5 5)]]) (cs':=cat [[(ux5 2)],[u19],[(ux5 5)]]) hE hM Za rfl rfl rfl Yv cq (Nat.le_of_eq ((Nat.zero_add _).trans (Eq.trans cq (Eq.symm cq)))) (Yq (cc1 (Rep.cell (hM.sl (pre:=[_,_]) noB)) (cc1 (Rep.cell (hM.sl (pre:=[_,_,_,_]) noB)) (cc1 (Rep.cell (hM.sl (pre:=[_,_,_]) noB)) cc0)))) (Zh (Eq.trans cq (Eq.symm cq))) fun w a hM hE=>Ze ?_
   obtain rfl:=Option.some.inj hF18
   have hq50 : Z6 Tryz.prog _ _ (.cell 2 31) _:=ZK hE rfl Yv rfl hM.rawAt0 cq rfl
   have hM:=M.fst (l:=[_,_,_]) hM.pull3.pull4.pull4
   exact wp_ret (ZP hE rfl hq50 ⟨_,rfl,(ux5 2),u19,(ux5 5),rfl,hM.outF (Yf (Yf (Yf Xi))),hM.kept⟩)
def Zw (p0 : (List (Vector UInt8 32))) (p1 : (Vector UInt8 32)) (p2 : (Vector UInt8 32) → (Vector UInt8 32) → Option (Int)) (s6 : Int × Int) : Option (Fl (Int × Int) Int) :=
 if (decide (s6.2 < s6.1)) = true then ((((idx p0 (IntKind.i64.wrap (TJ (IntKind.u64.wrap (wr (s6.2 + s6.1))) 1))).bind fun x18=>((p2 x18 p1)).bind fun r21=>some (decide (r21 < 0)) : Option (Bool)).bind fun j14=>(if j14 = true then (some (s6.1,wr ((IntKind.i64.wrap (TJ (IntKind.u64.wrap (wr (s6.2 + s6.1))) 1)) + 1))) else (some (IntKind.i64.wrap (TJ (IntKind.u64.wrap (wr (s6.2 + s6.1))) 1),s6.2)) : Option (Int × Int)).bind fun j24=>some (j24.1,j24.2) : Option (Int × Int)).bind fun j11=>some (Fl.nx (j11.1,j11.2))) else (some (Fl.ex s6.2))
def ZH (p0 : (List (Vector UInt8 32))) (p1 : (Vector UInt8 32)) (p2 : (Vector UInt8 32) → (Vector UInt8 32) → Option (Int)) : Option (Int × Bool) :=
 (ZA (Zw p0 p1 p2) ((p0.length : Int),0)).bind fun j3=>(if (decide (j3 < (p0.length : Int))) = true then ((idx p0 j3).bind fun x37=>((p2 x37 p1)).bind fun r40=>some (j3,r40 == 0)) else (some (j3,false)) : Option (Int × Bool)).bind fun j32=>some (j32.1,j32.2)
theorem XA (w0 : World) (p0 : (List (Vector UInt8 32))) (v0_1 : Value) (hv0_1 : Ro w0 p0 [v0_1]) (p1 : (Vector UInt8 32)) (p2 : (Vector UInt8 32) → (Vector UInt8 32) → Option (Int)) (k2 : Nat) (q2 : List Value) (hcb2 : Callable Tryz.prog k2) (hg2 : ∀ (w2 : World),Kept (Old w0) w0 w2 → ∀ (z0 : (Vector UInt8 32)) (z1 : (Vector UInt8 32)) (zr : Int),p2 z0 z1 = some zr → Calls Tryz.prog k2 ([(Value.agg (enc z0).toArray),(Value.agg (enc z1).toArray)] ++ q2).toArray w2 (fun en w3=>∃ v,en = .returned v ∧ (v = (vI zr) ∧ Kept (Old w2) w2 w3))) (r : Int × Bool) (hF : ZH p0 p1 p2 = some r) :
  Calls Tryz.prog 70 [v0_1,(Value.agg (enc p1).toArray),(Value.func (.func k2) #[] q2.toArray)].toArray w0 (Rt w0 (Value.tuple [vI r.1,vT r.2].toArray)):=by
 refine ce Tryz.func70 ?_
 intro a hE
 have hM:=M.start w0
 unfold ZH at hF
 refine Zb (Ya (cs:=enc p1) hE hM Za ld rfl rfl fun b1 w a hM hE=>Zc hE rfl fun a hE=>Zc hE rfl fun a hE=>Ze (Zb (Zd hE rfl fun a hE=>Z5 hE rfl Tryz.underlying29 (hM.rd hv0_1) fun a hE=>Zc hE rfl fun a hE=>Ze (Zb (Zd hE rfl fun a hE=>Zc hE rfl fun a hE=>Zc hE rfl fun a hE=>Ze ?_)))))
 obtain ⟨j3,hl4,hF5⟩:=bind_some hF
 refine ZN (fun a w=>Env 49 a [(0,v0_1),(2,(Value.func (.func k2) #[] q2.toArray)),(4,(ptr b1 0)),(8,(vI (p0.length : Int))),(9,vI j3)] ∧ M (Old w0) w0 w [raw b1 (enc p1)]) ?_ ?_
 ·skip
  refine wp_block ?_
  refine ZE (fun (s6 : Int × Int) a w=>Env 49 a [(0,v0_1),(2,(Value.func (.func k2) #[] q2.toArray)),(4,(ptr b1 0)),(8,(vI (p0.length : Int))),(9,vI s6.2),(10,vI s6.1)] ∧ M (Old w0) w0 w [raw b1 (enc p1)]) hl4 ⟨hE.sub ⟨rfl,rfl,rfl,rfl,rfl,rfl,trivial⟩,hM⟩ ?_
  rintro s6 a w ⟨hE,hM⟩ o9 hs7 hx8
  unfold Zw at hs7
  refine wp_seq (Zb (Zd hE rfl fun a hE=>Zd hE rfl fun a hE=>Zi hE rfl rfl rfl fun a hE=>Ze ?_))
  refine Zo hE rfl ?_ ?_
  ·intro hb10
   have hs7:=Zt hs7 hb10
   refine wp_skip (Zp ?_)
   obtain ⟨j11,hl12,hF13⟩:=bind_some hs7
   refine ZO (fun a w=>Env 49 a [(0,v0_1),(2,(Value.func (.func k2) #[] q2.toArray)),(4,(ptr b1 0)),(8,(vI (p0.length : Int))),(9,vI j11.2),(10,vI j11.1)] ∧ M (Old w0) w0 w [raw b1 (enc p1)]) ?_ ?_
   ·skip
    refine wp_block (Zb (Zd hE rfl fun a hE=>Zd hE rfl fun a hE=>Zi hE rfl rfl rfl fun a hE=>KC hE Za ld rfl Tryz.underlying3 Tryz.underlying171 fun a hE=>Br hE Za ld rfl rfl (bU_shr _ _ (by decide)) fun a hE=>KC hE Za ld rfl Tryz.underlying171 Tryz.underlying3 fun a hE=>Zc hE rfl fun a hE=>Ze ?_))
    obtain ⟨j14,hl15,hF16⟩:=bind_some hl12
    refine ZN (fun a w=>Env 49 a [(0,v0_1),(2,(Value.func (.func k2) #[] q2.toArray)),(4,(ptr b1 0)),(8,(vI (p0.length : Int))),(9,vI s6.2),(10,vI s6.1),(11,(vI (IntKind.i64.wrap (TJ (IntKind.u64.wrap (wr (s6.2 + s6.1))) 1)))),(31,vT j14)] ∧ M (Old w0) w0 w [raw b1 (enc p1)]) ?_ ?_
    ·skip
     obtain ⟨x18,hi20,hl15⟩:=bix hl15
     refine ZX [24,25,26,27,28,29] Yu rfl rfl (by decide) rfl hE hM (qsP (fun z=>Zj z.E Za ld rfl (kr0 rfl)) (qsP (fun z=>Zj z.E Za ld rfl (kr0 rfl)) (qsP (fun z=>Zj z.E Za ld rfl (kr0 rfl)) (qsP (fun z=>ZZ z.E Za ld rfl rfl Tryz.underlying29 ZL (z.M.rd hv0_1) hi20.1 (kr0 rfl)) (qsP (fun z=>ZW z.E Za ld rfl ZL rfl (Yt (z.M.rd hv0_1) hi20.2) (Flat.len _) (kr0 rfl)) (qsP (fun z=>ZW z.E Za ld rfl ZL rfl (z.M.rawAt0) (Flat.len _) (kr0 rfl)) qs0)))))) ?_
     ·intro a w u hE hM
      obtain ⟨r21,e22,hl15⟩:=bind_some hl15
      refine zS (vs:=[(Value.agg (enc x18).toArray),(Value.agg (enc p1).toArray)]) hE Za ld rfl rfl hcb2 (hg2 _ hM.kept x18 p1 r21 e22) ?_
      rintro v w a ⟨rfl,hK⟩ hE
      have hM:=hM.keep hK
      refine Zi hE rfl rfl rfl fun a hE=>Zg ?_
      obtain rfl:=Option.some.inj hl15
      refine Zk ?_
      exact ⟨hE.sub ⟨rfl,rfl,rfl,rfl,rfl,rfl,rfl,rfl,trivial⟩,hM⟩
    ·skip
     rintro a w ⟨hE,hM⟩
     obtain ⟨j24,hl25,hF26⟩:=bind_some hF16
     refine ZO (fun a w=>Env 49 a [(0,v0_1),(2,(Value.func (.func k2) #[] q2.toArray)),(4,(ptr b1 0)),(8,(vI (p0.length : Int))),(9,vI j24.2),(10,vI j24.1)] ∧ M (Old w0) w0 w [raw b1 (enc p1)]) ?_ ?_
     ·skip
      refine Zo hE rfl ?_ ?_
      ·intro hb27
       have hl25:=Zt hl25 hb27
       refine wp_region_lit (Zd hE rfl fun a hE=>Zi hE rfl rfl rfl fun a hE=>Zc hE rfl fun a hE=>Zg ?_)
       obtain rfl:=Option.some.inj hl25
       refine Zk ?_
       exact ⟨hE.sub ⟨rfl,rfl,rfl,rfl,rfl,rfl,trivial⟩,hM⟩
      ·intro hb27
       have hl25:=Zs hl25 hb27
       refine wp_region_lit (Zd hE rfl fun a hE=>Zc hE rfl fun a hE=>Zg ?_)
       obtain rfl:=Option.some.inj hl25
       refine Zk ?_
       exact ⟨hE.sub ⟨rfl,rfl,rfl,rfl,rfl,rfl,trivial⟩,hM⟩
     ·skip
      rintro a w ⟨hE,hM⟩
      refine Yb ?_
      obtain rfl:=Option.some.inj hF26
      refine Zk ?_
      exact ⟨hE.sub ⟨rfl,rfl,rfl,rfl,rfl,rfl,trivial⟩,hM⟩
   ·skip
    rintro a w ⟨hE,hM⟩
    refine Zk ?_
    exact ⟨_,(ois hF13),hE.sub ⟨rfl,rfl,rfl,rfl,rfl,rfl,trivial⟩,hM⟩
  ·intro hb10
   have hs7:=Zs hs7 hb10
   refine wp_exit (Zn (Zn (Ye ?_)))
   obtain rfl:=hx8 _ (ois hs7)
   refine Zk ?_
   exact ⟨hE.sub ⟨rfl,rfl,rfl,rfl,rfl,trivial⟩,hM⟩
 ·skip
  rintro a w ⟨hE,hM⟩
  obtain ⟨j32,hl33,hF34⟩:=bind_some hF5
  refine ZN (fun a w=>Env 49 a [(6,vI j32.1),(7,vT j32.2)] ∧ M (Old w0) w0 w []) ?_ ?_
  ·skip
   refine Wc (decide (j3 < (p0.length : Int))) (fun hb36=>?_) (fun hb36=>?_)
   ·have hl33:=Zt hl33 hb36
    obtain ⟨x37,hi39,hl33⟩:=bix hl33
    obtain ⟨r40,e41,hl33⟩:=bind_some hl33
    refine Yz (its:=[raw b1 (enc p1)]) (mk:=([] : Mk)) [35,36,37,38,39,40,41,42,43,44,45,46,47,48,6] Yu rfl rfl (by decide) rfl hE (fun u=>M.q0 hM.drew u) (qsP (fun z=>Zj z.E Za ld rfl (kr0 rfl)) (qsP (fun z=>Zj z.E Za ld rfl (kr0 rfl)) (qsP (fun z=>Zj z.E Za ld rfl (kr0 rfl)) (qsP (fun z=>Z9 z.E Za ld rfl rfl rfl (kr0 rfl)) (qsP (fun z=>Zj z.E Za ld rfl (kr0 rfl)) (qsP (fun z=>Zj z.E (Zf z.E rfl (lkb rfl hb36)) (by decide) rfl (kr0 rfl)) (qsP (fun z=>Zj z.E (Zf z.E rfl (lkb rfl hb36)) (by decide) rfl (kr0 rfl)) (qsP (fun z=>Zj z.E (Zf z.E rfl (lkb rfl hb36)) (by decide) rfl (kr0 rfl)) (qsP (v:=(ptr (sb v0_1) (so v0_1 + (j3).toNat * 32))) ?_ (qsP (v:=(Value.agg (enc x37).toArray)) ?_ (qsP (v:=(Value.agg (enc p1).toArray)) ?_ (qsP (v:=(vI r40)) ?_ (qsP (fun z=>Z9 z.E (Zf z.E rfl (lkb rfl hb36)) (by decide) rfl rfl rfl (kr0 rfl)) (qsP (fun z=>Td z.E Za ld (lkb rfl hb36) rfl (kr0 rfl)) (qsP (fun z=>Qo z.E Za ld rfl (kr0 rfl)) qs0))))))))))))))) ?_
    ·intro a w ux35 D z
     have hE:=z.E
     have hM:=z.M
     exact ZZ hE (Zf hE rfl (lkb rfl hb36)) (by decide) rfl rfl Tryz.underlying29 ZL (hM.rd hv0_1) hi39.1 fun a hE=>⟨Kept.refl _ _,_,rfl,hE⟩
    ·intro a w ux35 D z
     have hE:=z.E
     have hM:=z.M
     exact ZW hE (Zf hE rfl (lkb rfl hb36)) (by decide) rfl ZL rfl (Yt (hM.rd hv0_1) hi39.2) (Flat.len _) fun a hE=>⟨Kept.refl _ _,_,rfl,hE⟩
    ·intro a w ux35 D z
     have hE:=z.E
     have hM:=z.M
     exact ZW hE (Zf hE rfl (lkb rfl hb36)) (by decide) rfl ZL rfl hM.rawAt0 (Flat.len _) fun a hE=>⟨Kept.refl _ _,_,rfl,hE⟩
    ·intro a w ux35 D z
     have hE:=z.E
     have hM:=z.M
     refine zS (vs:=[(Value.agg (enc x37).toArray),(Value.agg (enc p1).toArray)]) hE (Zf hE rfl (lkb rfl hb36)) (by decide) rfl rfl hcb2 (hg2 _ hM.kept x37 p1 r40 e41) ?_
     rintro v w a ⟨rfl,hK⟩ hE
     exact ⟨hK,_,rfl,hE⟩
    ·intro a w ux35 D hE hM hG hall
     refine Zc hE rfl fun a hE=>Zg ?_
     obtain rfl:=Option.some.inj hl33
     refine Zk ?_
     have hM:=M.fst (l:=[]) hM
     exact ⟨hE.sub ⟨rfl,rfl,trivial⟩,hM⟩
   ·have hl33:=Zs hl33 hb36
    refine Yz (its:=[raw b1 (enc p1)]) (mk:=([] : Mk)) [35,36,37,38,39,40,41,42,43,44,45,46,47,48,6] Yu rfl rfl (by decide) rfl hE (fun u=>M.q0 hM.drew u) (qsP (fun z=>Zj z.E Za ld rfl (kr0 rfl)) (qsP (fun z=>Zj z.E Za ld rfl (kr0 rfl)) (qsP (fun z=>Zj z.E Za ld rfl (kr0 rfl)) (qsP (fun z=>Z9 z.E Za ld rfl rfl rfl (kr0 rfl)) (qsP (fun z=>Zj z.E Za ld rfl (kr0 rfl)) (qsP (fun z=>Zl z.E rfl (lkb rfl hb36) rfl (by decide) (kr0 rfl)) (qsP (fun z=>Zl z.E rfl (lkb rfl hb36) rfl (by decide) (kr0 rfl)) (qsP (fun z=>Zl z.E rfl (lkb rfl hb36) rfl (by decide) (kr0 rfl)) (qsP (fun z=>Zl z.E rfl (lkb rfl hb36) rfl (by decide) (kr0 rfl)) (qsP (fun z=>Zl z.E rfl (lkb rfl hb36) rfl (by decide) (kr0 rfl)) (qsP (fun z=>Zl z.E rfl (lkb rfl hb36) rfl (by decide) (kr0 rfl)) (qsP (fun z=>Zl z.E rfl (lkb rfl hb36) rfl (by decide) (kr0 rfl)) (qsP (fun z=>Zl z.E rfl (lkb rfl hb36) rfl (by decide) (kr0 rfl)) (qsP (fun z=>UW z.E Za ld (lkb rfl hb36) rfl (kr0 rfl)) (qsP (fun z=>Qo z.E Za ld rfl (kr0 rfl)) qs0))))))))))))))) ?_
    ·intro a w ux35 D hE hM hG hall
     refine Zc hE rfl fun a hE=>Zg ?_
     obtain rfl:=Option.some.inj hl33
     refine Zk ?_
     have hM:=M.fst (l:=[]) hM
     exact ⟨hE.sub ⟨rfl,rfl,trivial⟩,hM⟩
  ·skip
   rintro a w ⟨hE,hM⟩
   obtain rfl:=Option.some.inj hF34
   exact wp_ret (AX hE rfl (ZU hE rfl) (ZU hE rfl) ⟨_,rfl,rfl,hM.kept⟩)
def YE (p0 : List (Vector UInt8 32)) (p1 : Int) (p2 : List (Vector UInt8 32)) : Option (List (Vector UInt8 32)):=zM 32 p0 p1 p2
theorem V7 (St : Nat → Prop) (W w0 : World) (its : List Item) (l m : List (Opq 32)) (v u : Value) (i : Nat) (hM : M St W w0 (osl NoB l v :: osn NoB m u :: its)) (hi : i ≤ l.length) (hm : m.length = 1) (hb : (l.length + 1) * 32 ≤ 140737488355328) :
  Calls Tryz.prog 72 [v,vI (i : Int),u].toArray w0 (fun en w'=>∃ y,en = .returned y ∧ M St W w' (osl NoB (l.take i ++ (m ++ l.drop i)) y :: its)):=by
 have hsmall : l.length + 1 ≤ 140737488355328:=Nat.le_trans (Nat.le_mul_of_pos_right _ (by decide)) hb
 have h2 : slc l (i : Int) (l.length : Int) = some (l.drop i):=Hi (by omega)
 have hw1 : IntKind.i64.wrap ((l.length : Int) + 1) = ((l.length + 1 : Nat) : Int):=wrI (by omega) (by omega) (by omega)
 have hw2 : IntKind.i64.wrap ((i : Int) + 1) = ((i + 1 : Nat) : Int):=wrI (by omega) (by omega) (by omega)
 have hw3 : IntKind.i64.wrap (((l.length + 1 : Nat) : Int) - (i : Int)) = ((l.length + 1 - i : Nat) : Int):=wrI (by omega) (by omega) (by omega)
 refine ce Tryz.func72 ?_
 intro a hE
 refine Zb (Zc hE rfl fun a hE=>Ze (Zb (Zd hE rfl fun a hE=>Zd hE rfl fun a hE=>Xf (hi:=none) (vlo:=some (vI (i : Int))) (i:=(i : Int)) (j:=(l.length : Int)) hE Za ld rfl rfl rfl rfl rfl Tryz.underlying29 ZL (hM.sl (pre:=[]) noB) h2 fun a hE=>Ze (Zb (Zd hE rfl fun a hE=>Z5 hE rfl Tryz.underlying29 (((hM.pull1).osn_osl noB).sl (pre:=[]) noB) ?_))))); intro a hE
 rw [hm,show ((1 : Nat) : Int) = 1 from rfl] at hE
 refine Zc hE rfl fun a hE=>Ze (wp_seq (Zb (Zd hE rfl fun a hE=>Zi hE rfl rfl rfl fun a hE=>Ze ?_)))
 refine Zo hE rfl ?_ ?_
 ·intro hb; cases hb
 ·intro _
  refine wp_skip (Zp (Zb (Zd hE rfl fun a hE=>Z5 hE rfl Tryz.underlying29 (hM.sl (pre:=[]) noB) fun a hE=>Zc hE rfl fun a hE=>Ze (wp_seq (Zb (Zd hE rfl fun a hE=>Zd hE rfl fun a hE=>Zi hE rfl rfl rfl fun a hE=>Ze ?_))))))
  refine Zo hE rfl ?_ ?_
  ·intro hb0
   have hbi:=eqI hb0
   subst hbi
   refine Zb (Zd hE rfl fun a hE=>Zd hE rfl fun a hE=>Z2 hE hM Za ld rfl rfl (((hM.pull1).osn_osl noB).sl (pre:=[]) noB) Tryz.underlying29 ZL rfl (by decide) (by rw [hm]; exact hb) fun y w a hM hE=>Zc hE rfl fun a hE=>Ze ?_)
   refine wp_ret (Zv (ZP hE rfl (ZU hE rfl) ⟨_,rfl,?_⟩))
   rw [List.take_length,List.drop_length,List.append_nil]
   exact (hM.pull1).drop
  ·intro hb0
   have hbi:=neI hb0
   obtain ⟨b,o,cap,c,T,fz,rfl,hcap,_,_,_,_⟩:=U2 hM (by omega)
   refine wp_skip (Zp (wp_seq (Zb (Zd hE rfl fun a hE=>Zd hE rfl fun a hE=>Zi hE rfl rfl rfl ?_)))); intro a hE
   rw [hw1] at hE
   refine Zd hE rfl fun a hE=>ym hE Za ld rfl Tryz.underlying29 fun a hE=>Zi hE rfl rfl rfl fun a hE=>Ze ?_
   refine Zo hE rfl ?_ ?_
   ·intro hbc
    have hbc:=of_decide_eq_true hbc
    refine Zb (Zd hE rfl fun a hE=>Zd hE rfl fun a hE=>TX hE Za ld rfl rfl Tryz.underlying29 ZL (by omega) fun a hE=>Zd hE rfl fun a hE=>Zd hE rfl fun a hE=>Zi hE rfl rfl rfl ?_); intro a hE
    rw [hw1] at hE
    refine Zd hE rfl fun a hE=>Zi hE rfl rfl rfl ?_; intro a hE
    rw [hw3] at hE
    refine AP hE hM Za ld rfl rfl Tryz.underlying29 Tryz.underlying3 ZL rfl rfl (by decide) (by decide) (by omega) (by omega) (by omega) (by omega) (by rw [show i + (l.length + 1 - i) = l.length + 1 by omega]; exact hb) fun q v2 w a hq hM hE=>Zc hE rfl fun a hE=>Ze ?_
    have hql : (l.take i ++ q).length = l.length + 1:=by simp; omega
    have h3 : slc (l.take i ++ q) (i : Int) ((l.take i ++ q).length : Int) = some ((l.take i ++ q).drop i):=Hi (by omega)
    refine Zb (Zd hE rfl fun a hE=>Zd hE rfl fun a hE=>Xf (hi:=none) (vlo:=some (vI (i : Int))) (i:=(i : Int)) (j:=((l.take i ++ q).length : Int)) hE Za ld rfl rfl rfl rfl rfl Tryz.underlying29 ZL (hM.sl (pre:=[]) noB) h3 fun a hE=>Zd hE rfl fun a hE=>Tg (l:=l.take i ++ q) (i:=i) hE hM Za ld rfl rfl (((hM.pull2).osn_osl noB).sl (pre:=[]) noB) Tryz.underlying29 ZL (by omega) (by omega) fun w a hM hE=>Ze (wp_seq ?_))
    rw [insA hi hm] at hM
    have hql2 : (l.take i ++ (m ++ q.drop 1)).length = l.length + 1:=by simp; omega
    have h4 : slc (l.take i ++ (m ++ q.drop 1)) (IntKind.i64.wrap ((i : Int) + 1)) ((l.take i ++ (m ++ q.drop 1)).length : Int) = some ((l.take i ++ (m ++ q.drop 1)).drop (i + 1)):=by rw [hw2]; exact Hi (by omega)
    refine ZX [46,47,48,49,50,51,52,53] Yu rfl rfl (by decide) rfl hE hM (qsP (fun z=>Zj z.E Za ld rfl (kr0 rfl)) (qsP (fun z=>Zj z.E Za ld rfl (kr0 rfl)) (qsP (fun z=>Zj z.E Za ld rfl (kr0 rfl)) (qsP (v:=vI (IntKind.i64.wrap ((i : Int) + 1))) (fun z=>Z9 z.E Za ld rfl rfl rfl (kr0 rfl)) (qsP (fun z=>Xf (hi:=none) (vlo:=some (vI (IntKind.i64.wrap ((i : Int) + 1)))) (i:=IntKind.i64.wrap ((i : Int) + 1)) (j:=((l.take i ++ (m ++ q.drop 1)).length : Int)) z.E Za ld rfl rfl rfl rfl rfl Tryz.underlying29 ZL (z.M.sl (pre:=[]) noB) h4 (kr0 rfl)) (qsP (fun z=>Zj z.E Za ld rfl (kr0 rfl)) (qsP (fun z=>Zj z.E Za ld rfl (kr0 rfl)) (qsP (fun z=>Xf (hi:=none) (vlo:=some (vI (i : Int))) (i:=(i : Int)) (j:=(l.length : Int)) z.E Za ld rfl rfl rfl rfl rfl Tryz.underlying29 ZL (z.M.sl (pre:=[_]) noB) h2 (kr0 rfl)) qs0)))))))) ?_
    intro a w u hE hM
    refine Tg (l:=l.take i ++ (m ++ q.drop 1)) (m:=l.drop i) (i:=(IntKind.i64.wrap ((i : Int) + 1)).toNat) hE hM Za ld rfl rfl (Xa (hM.sl (pre:=[_]) noB) h2) Tryz.underlying29 ZL (by simp; omega) (by rw [hw2,Int.toNat_natCast,hql2,List.length_drop]; omega) fun w a hM hE=>Zg (Zp ?_)
    rw [hw2,Int.toNat_natCast,insB hi hm hq] at hM
    refine Zb (Zd hE rfl fun a hE=>Zc hE rfl fun a hE=>Ze ?_)
    exact wp_ret (Zv (ZP hE rfl (ZU hE rfl) ⟨_,rfl,((hM.pull1).drop.pull1).drop⟩))
   ·intro hbc
    have hbc:=of_decide_eq_false hbc
    have hN : (0 : Nat) < Flat.n (Opq 32):=by decide
    refine wp_skip (Zp (Zb (Zd hE rfl fun a hE=>Zd hE rfl fun a hE=>Zd hE rfl fun a hE=>Zi hE rfl rfl rfl ?_))); intro a hE
    rw [hw1] at hE
    refine TX hE Za ld rfl rfl Tryz.underlying29 ZL (by omega) fun a hE=>Zc hE rfl fun a hE=>Ze (wp_seq (Zb (Zd hE rfl fun a hE=>Zd hE rfl fun a hE=>Zd hE rfl fun a hE=>Zd hE rfl fun a hE=>Zi hE rfl rfl rfl ?_))); intro a hE
    rw [hw2] at hE
    refine Ut hE Za ld rfl rfl Tryz.underlying29 ZL (by omega) (by omega) fun a hE=>Kx (t:=29) (tB:=4) hE hM Za ld rfl Tryz.func136 rfl (by kernel_rfl) (by kernel_rfl) (by kernel_rfl) Tryz.underlying29 ZL (by omega) (by omega) hN hN (by omega) fun a hE=>Qk hE rfl fun a hE=>Ze ?_
    refine AI hE rfl ?_
    refine wp_seq ?_
    refine ZX [69,70,71,72,73,74,75,76] Yu rfl rfl (by decide) rfl hE hM (qsP (fun z=>Zj z.E Za ld rfl (kr0 rfl)) (qsP (fun z=>Zj z.E Za ld rfl (kr0 rfl)) (qsP (fun z=>Zj z.E Za ld rfl (kr0 rfl)) (qsP (v:=vI ((i + 1 : Nat) : Int)) (fun z=>Z9 z.E Za ld rfl rfl (congrArg (fun z=>some (vI z)) hw2) (kr0 rfl)) (qsP (fun z=>Ut z.E Za ld rfl rfl Tryz.underlying29 ZL (by omega) (by omega) (kr0 rfl)) (qsP (fun z=>Zj z.E Za ld rfl (kr0 rfl)) (qsP (fun z=>Zj z.E Za ld rfl (kr0 rfl)) (qsP (fun z=>Ut z.E Za ld rfl rfl Tryz.underlying29 ZL (by omega) (by omega) (kr0 rfl)) qs0)))))))) ?_
    intro a w u hE hM
    refine Bb (i:=i) hE hM Za ld rfl rfl Tryz.underlying29 ZL (by omega) (by omega) fun w a hM hE=>Zg (Zp ?_)
    have hql : (l.take (i + 1) ++ l.drop i).length = l.length + 1:=by simp; omega
    have h3 : slc (l.take (i + 1) ++ l.drop i) (i : Int) ((l.take (i + 1) ++ l.drop i).length : Int) = some ((l.take (i + 1) ++ l.drop i).drop i):=Hi (by omega)
    refine Zb (Zd hE rfl fun a hE=>Zd hE rfl fun a hE=>Xf (hi:=none) (vlo:=some (vI (i : Int))) (i:=(i : Int)) (j:=((l.take (i + 1) ++ l.drop i).length : Int)) hE Za ld rfl rfl rfl rfl rfl Tryz.underlying29 ZL (hM.sl (pre:=[]) noB) h3 fun a hE=>Zd hE rfl fun a hE=>Tg (l:=l.take (i + 1) ++ l.drop i) (i:=i) hE hM Za ld rfl rfl (((hM.pull1).osn_osl noB).sl (pre:=[]) noB) Tryz.underlying29 ZL (by omega) (by omega) fun w a hM hE=>Ze ?_)
    rw [insC hi hm] at hM
    refine Zb (Zd hE rfl fun a hE=>Zc hE rfl fun a hE=>Ze ?_)
    exact wp_ret (Zv (ZP hE rfl (ZU hE rfl) ⟨_,rfl,(hM.pull1).drop⟩))
theorem V8 (St : Nat → Prop) (W w0 : World) (its : List Item) (p0 : List (Vector UInt8 32)) (v0_1 : Value) (p1 : Int) (p2 : List (Vector UInt8 32)) (v2_1 : Value) (hM : M St W w0 (osl NoB p0 v0_1 :: osn NoB p2 v2_1 :: its)) (r : List (Vector UInt8 32)) (hF : YE p0 p1 p2 = some r) :
  Calls Tryz.prog 72 [v0_1,vI p1,v2_1].toArray w0 (fun en w'=>∃ v,en = .returned v ∧ (∃ (y1 : Value),v = y1 ∧ M St W w' (osl NoB r y1 :: its))) :=
 H8 (α:=(Vector UInt8 32)) (fun hM h1 h2 h3=>V7 _ _ _ _ _ _ _ _ _ hM h1 h2 h3) hM hF
def Wm (p0 : List Int) (p1 : Int) (p2 : List Int) : Option (List Int):=zM 8 p0 p1 p2
theorem TQ (St : Nat → Prop) (W w0 : World) (its : List Item) (l m : List (Opq 1)) (v u : Value) (i : Nat) (hM : M St W w0 (osl NoB l v :: osn NoB m u :: its)) (hi : i ≤ l.length) (hm : m.length = 1) (hb : (l.length + 1) * 8 ≤ 140737488355328) :
  Calls Tryz.prog 73 [v,vI (i : Int),u].toArray w0 (fun en w'=>∃ y,en = .returned y ∧ M St W w' (osl NoB (l.take i ++ (m ++ l.drop i)) y :: its)):=by
 have hsmall : l.length + 1 ≤ 140737488355328:=Nat.le_trans (Nat.le_mul_of_pos_right _ (by decide)) hb
 have h2 : slc l (i : Int) (l.length : Int) = some (l.drop i):=Hi (by omega)
 have hw1 : IntKind.i64.wrap ((l.length : Int) + 1) = ((l.length + 1 : Nat) : Int):=wrI (by omega) (by omega) (by omega)
 have hw2 : IntKind.i64.wrap ((i : Int) + 1) = ((i + 1 : Nat) : Int):=wrI (by omega) (by omega) (by omega)
 have hw3 : IntKind.i64.wrap (((l.length + 1 : Nat) : Int) - (i : Int)) = ((l.length + 1 - i : Nat) : Int):=wrI (by omega) (by omega) (by omega)
 refine ce Tryz.func73 ?_
 intro a hE
 refine Zb (Zc hE rfl fun a hE=>Ze (Zb (Zd hE rfl fun a hE=>Zd hE rfl fun a hE=>Xf (hi:=none) (vlo:=some (vI (i : Int))) (i:=(i : Int)) (j:=(l.length : Int)) hE Za ld rfl rfl rfl rfl rfl Tryz.underlying24 ty2 (hM.sl (pre:=[]) noB) h2 fun a hE=>Ze (Zb (Zd hE rfl fun a hE=>Z5 hE rfl Tryz.underlying24 (((hM.pull1).osn_osl noB).sl (pre:=[]) noB) ?_))))); intro a hE
 rw [hm,show ((1 : Nat) : Int) = 1 from rfl] at hE
 refine Zc hE rfl fun a hE=>Ze (wp_seq (Zb (Zd hE rfl fun a hE=>Zi hE rfl rfl rfl fun a hE=>Ze ?_)))
 refine Zo hE rfl ?_ ?_
 ·intro hb; cases hb
 ·intro _
  refine wp_skip (Zp (Zb (Zd hE rfl fun a hE=>Z5 hE rfl Tryz.underlying24 (hM.sl (pre:=[]) noB) fun a hE=>Zc hE rfl fun a hE=>Ze (wp_seq (Zb (Zd hE rfl fun a hE=>Zd hE rfl fun a hE=>Zi hE rfl rfl rfl fun a hE=>Ze ?_))))))
  refine Zo hE rfl ?_ ?_
  ·intro hb0
   have hbi:=eqI hb0
   subst hbi
   refine Zb (Zd hE rfl fun a hE=>Zd hE rfl fun a hE=>Z2 hE hM Za ld rfl rfl (((hM.pull1).osn_osl noB).sl (pre:=[]) noB) Tryz.underlying24 ty2 rfl (by decide) (by rw [hm]; exact hb) fun y w a hM hE=>Zc hE rfl fun a hE=>Ze ?_)
   refine wp_ret (Zv (ZP hE rfl (ZU hE rfl) ⟨_,rfl,?_⟩))
   rw [List.take_length,List.drop_length,List.append_nil]
   exact (hM.pull1).drop
  ·intro hb0
   have hbi:=neI hb0
   obtain ⟨b,o,cap,c,T,fz,rfl,hcap,_,_,_,_⟩:=U2 hM (by omega)
   refine wp_skip (Zp (wp_seq (Zb (Zd hE rfl fun a hE=>Zd hE rfl fun a hE=>Zi hE rfl rfl rfl ?_)))); intro a hE
   rw [hw1] at hE
   refine Zd hE rfl fun a hE=>ym hE Za ld rfl Tryz.underlying24 fun a hE=>Zi hE rfl rfl rfl fun a hE=>Ze ?_
   refine Zo hE rfl ?_ ?_
   ·intro hbc
    have hbc:=of_decide_eq_true hbc
    refine Zb (Zd hE rfl fun a hE=>Zd hE rfl fun a hE=>TX hE Za ld rfl rfl Tryz.underlying24 ty2 (by omega) fun a hE=>Zd hE rfl fun a hE=>Zd hE rfl fun a hE=>Zi hE rfl rfl rfl ?_); intro a hE
    rw [hw1] at hE
    refine Zd hE rfl fun a hE=>Zi hE rfl rfl rfl ?_; intro a hE
    rw [hw3] at hE
    refine AP hE hM Za ld rfl rfl Tryz.underlying24 Tryz.underlying3 ty2 rfl rfl (by decide) (by decide) (by omega) (by omega) (by omega) (by omega) (by rw [show i + (l.length + 1 - i) = l.length + 1 by omega]; exact hb) fun q v2 w a hq hM hE=>Zc hE rfl fun a hE=>Ze ?_
    have hql : (l.take i ++ q).length = l.length + 1:=by simp; omega
    have h3 : slc (l.take i ++ q) (i : Int) ((l.take i ++ q).length : Int) = some ((l.take i ++ q).drop i):=Hi (by omega)
    refine Zb (Zd hE rfl fun a hE=>Zd hE rfl fun a hE=>Xf (hi:=none) (vlo:=some (vI (i : Int))) (i:=(i : Int)) (j:=((l.take i ++ q).length : Int)) hE Za ld rfl rfl rfl rfl rfl Tryz.underlying24 ty2 (hM.sl (pre:=[]) noB) h3 fun a hE=>Zd hE rfl fun a hE=>Tg (l:=l.take i ++ q) (i:=i) hE hM Za ld rfl rfl (((hM.pull2).osn_osl noB).sl (pre:=[]) noB) Tryz.underlying24 ty2 (by omega) (by omega) fun w a hM hE=>Ze (wp_seq ?_))
    rw [insA hi hm] at hM
    have hql2 : (l.take i ++ (m ++ q.drop 1)).length = l.length + 1:=by simp; omega
    have h4 : slc (l.take i ++ (m ++ q.drop 1)) (IntKind.i64.wrap ((i : Int) + 1)) ((l.take i ++ (m ++ q.drop 1)).length : Int) = some ((l.take i ++ (m ++ q.drop 1)).drop (i + 1)):=by rw [hw2]; exact Hi (by omega)
    refine ZX [46,47,48,49,50,51,52,53] Yu rfl rfl (by decide) rfl hE hM (qsP (fun z=>Zj z.E Za ld rfl (kr0 rfl)) (qsP (fun z=>Zj z.E Za ld rfl (kr0 rfl)) (qsP (fun z=>Zj z.E Za ld rfl (kr0 rfl)) (qsP (v:=vI (IntKind.i64.wrap ((i : Int) + 1))) (fun z=>Z9 z.E Za ld rfl rfl rfl (kr0 rfl)) (qsP (fun z=>Xf (hi:=none) (vlo:=some (vI (IntKind.i64.wrap ((i : Int) + 1)))) (i:=IntKind.i64.wrap ((i : Int) + 1)) (j:=((l.take i ++ (m ++ q.drop 1)).length : Int)) z.E Za ld rfl rfl rfl rfl rfl Tryz.underlying24 ty2 (z.M.sl (pre:=[]) noB) h4 (kr0 rfl)) (qsP (fun z=>Zj z.E Za ld rfl (kr0 rfl)) (qsP (fun z=>Zj z.E Za ld rfl (kr0 rfl)) (qsP (fun z=>Xf (hi:=none) (vlo:=some (vI (i : Int))) (i:=(i : Int)) (j:=(l.length : Int)) z.E Za ld rfl rfl rfl rfl rfl Tryz.underlying24 ty2 (z.M.sl (pre:=[_]) noB) h2 (kr0 rfl)) qs0)))))))) ?_
    intro a w u hE hM
    refine Tg (l:=l.take i ++ (m ++ q.drop 1)) (m:=l.drop i) (i:=(IntKind.i64.wrap ((i : Int) + 1)).toNat) hE hM Za ld rfl rfl (Xa (hM.sl (pre:=[_]) noB) h2) Tryz.underlying24 ty2 (by simp; omega) (by rw [hw2,Int.toNat_natCast,hql2,List.length_drop]; omega) fun w a hM hE=>Zg (Zp ?_)
    rw [hw2,Int.toNat_natCast,insB hi hm hq] at hM
    refine Zb (Zd hE rfl fun a hE=>Zc hE rfl fun a hE=>Ze ?_)
    exact wp_ret (Zv (ZP hE rfl (ZU hE rfl) ⟨_,rfl,((hM.pull1).drop.pull1).drop⟩))
   ·intro hbc
    have hbc:=of_decide_eq_false hbc
    have hN : (0 : Nat) < Flat.n (Opq 1):=by decide
    refine wp_skip (Zp (Zb (Zd hE rfl fun a hE=>Zd hE rfl fun a hE=>Zd hE rfl fun a hE=>Zi hE rfl rfl rfl ?_))); intro a hE
    rw [hw1] at hE
    refine TX hE Za ld rfl rfl Tryz.underlying24 ty2 (by omega) fun a hE=>Zc hE rfl fun a hE=>Ze (wp_seq (Zb (Zd hE rfl fun a hE=>Zd hE rfl fun a hE=>Zd hE rfl fun a hE=>Zd hE rfl fun a hE=>Zi hE rfl rfl rfl ?_))); intro a hE
    rw [hw2] at hE
    refine Ut hE Za ld rfl rfl Tryz.underlying24 ty2 (by omega) (by omega) fun a hE=>Kx (t:=24) (tB:=4) hE hM Za ld rfl Tryz.func138 rfl (by kernel_rfl) (by kernel_rfl) (by kernel_rfl) Tryz.underlying24 ty2 (by omega) (by omega) hN hN (by omega) fun a hE=>Qk hE rfl fun a hE=>Ze ?_
    refine AI hE rfl ?_
    refine wp_seq ?_
    refine ZX [69,70,71,72,73,74,75,76] Yu rfl rfl (by decide) rfl hE hM (qsP (fun z=>Zj z.E Za ld rfl (kr0 rfl)) (qsP (fun z=>Zj z.E Za ld rfl (kr0 rfl)) (qsP (fun z=>Zj z.E Za ld rfl (kr0 rfl)) (qsP (v:=vI ((i + 1 : Nat) : Int)) (fun z=>Z9 z.E Za ld rfl rfl (congrArg (fun z=>some (vI z)) hw2) (kr0 rfl)) (qsP (fun z=>Ut z.E Za ld rfl rfl Tryz.underlying24 ty2 (by omega) (by omega) (kr0 rfl)) (qsP (fun z=>Zj z.E Za ld rfl (kr0 rfl)) (qsP (fun z=>Zj z.E Za ld rfl (kr0 rfl)) (qsP (fun z=>Ut z.E Za ld rfl rfl Tryz.underlying24 ty2 (by omega) (by omega) (kr0 rfl)) qs0)))))))) ?_
    intro a w u hE hM
    refine Bb (i:=i) hE hM Za ld rfl rfl Tryz.underlying24 ty2 (by omega) (by omega) fun w a hM hE=>Zg (Zp ?_)
    have hql : (l.take (i + 1) ++ l.drop i).length = l.length + 1:=by simp; omega
    have h3 : slc (l.take (i + 1) ++ l.drop i) (i : Int) ((l.take (i + 1) ++ l.drop i).length : Int) = some ((l.take (i + 1) ++ l.drop i).drop i):=Hi (by omega)
    refine Zb (Zd hE rfl fun a hE=>Zd hE rfl fun a hE=>Xf (hi:=none) (vlo:=some (vI (i : Int))) (i:=(i : Int)) (j:=((l.take (i + 1) ++ l.drop i).length : Int)) hE Za ld rfl rfl rfl rfl rfl Tryz.underlying24 ty2 (hM.sl (pre:=[]) noB) h3 fun a hE=>Zd hE rfl fun a hE=>Tg (l:=l.take (i + 1) ++ l.drop i) (i:=i) hE hM Za ld rfl rfl (((hM.pull1).osn_osl noB).sl (pre:=[]) noB) Tryz.underlying24 ty2 (by omega) (by omega) fun w a hM hE=>Ze ?_)
    rw [insC hi hm] at hM
    refine Zb (Zd hE rfl fun a hE=>Zc hE rfl fun a hE=>Ze ?_)
    exact wp_ret (Zv (ZP hE rfl (ZU hE rfl) ⟨_,rfl,(hM.pull1).drop⟩))
theorem TP (St : Nat → Prop) (W w0 : World) (its : List Item) (p0 : List Int) (v0_1 : Value) (p1 : Int) (p2 : List Int) (v2_1 : Value) (hM : M St W w0 (osl NoB p0 v0_1 :: osn NoB p2 v2_1 :: its)) (r : List Int) (hF : Wm p0 p1 p2 = some r) :
  Calls Tryz.prog 73 [v0_1,vI p1,v2_1].toArray w0 (fun en w'=>∃ v,en = .returned v ∧ (∃ (y1 : Value),v = y1 ∧ M St W w' (osl NoB r y1 :: its))) :=
 H8 (α:=Int) (fun hM h1 h2 h3=>TQ _ _ _ _ _ _ _ _ _ hM h1 h2 h3) hM hF
def WV (p0 : List (List UInt8)) (p1 : Int) (p2 : List (List UInt8)) : Option (List (List UInt8)):=zM 24 p0 p1 p2
theorem T7 (St : Nat → Prop) (W w0 : World) (its : List Item) (l m : List (Opq 1)) (v u : Value) (i : Nat) (hM : M St W w0 (osl NoB l v :: osn NoB m u :: its)) (hi : i ≤ l.length) (hm : m.length = 1) (hb : (l.length + 1) * 24 ≤ 140737488355328) :
  Calls Tryz.prog 74 [v,vI (i : Int),u].toArray w0 (fun en w'=>∃ y,en = .returned y ∧ M St W w' (osl NoB (l.take i ++ (m ++ l.drop i)) y :: its)):=by
 have hsmall : l.length + 1 ≤ 140737488355328:=Nat.le_trans (Nat.le_mul_of_pos_right _ (by decide)) hb
 have h2 : slc l (i : Int) (l.length : Int) = some (l.drop i):=Hi (by omega)
 have hw1 : IntKind.i64.wrap ((l.length : Int) + 1) = ((l.length + 1 : Nat) : Int):=wrI (by omega) (by omega) (by omega)
 have hw2 : IntKind.i64.wrap ((i : Int) + 1) = ((i + 1 : Nat) : Int):=wrI (by omega) (by omega) (by omega)
 have hw3 : IntKind.i64.wrap (((l.length + 1 : Nat) : Int) - (i : Int)) = ((l.length + 1 - i : Nat) : Int):=wrI (by omega) (by omega) (by omega)
 refine ce Tryz.func74 ?_
 intro a hE
 refine Zb (Zc hE rfl fun a hE=>Ze (Zb (Zd hE rfl fun a hE=>Zd hE rfl fun a hE=>Xf (hi:=none) (vlo:=some (vI (i : Int))) (i:=(i : Int)) (j:=(l.length : Int)) hE Za ld rfl rfl rfl rfl rfl Tryz.underlying23 YU (hM.sl (pre:=[]) noB) h2 fun a hE=>Ze (Zb (Zd hE rfl fun a hE=>Z5 hE rfl Tryz.underlying23 (((hM.pull1).osn_osl noB).sl (pre:=[]) noB) ?_))))); intro a hE
 rw [hm,show ((1 : Nat) : Int) = 1 from rfl] at hE
 refine Zc hE rfl fun a hE=>Ze (wp_seq (Zb (Zd hE rfl fun a hE=>Zi hE rfl rfl rfl fun a hE=>Ze ?_)))
 refine Zo hE rfl ?_ ?_
 ·intro hb; cases hb
 ·intro _
  refine wp_skip (Zp (Zb (Zd hE rfl fun a hE=>Z5 hE rfl Tryz.underlying23 (hM.sl (pre:=[]) noB) fun a hE=>Zc hE rfl fun a hE=>Ze (wp_seq (Zb (Zd hE rfl fun a hE=>Zd hE rfl fun a hE=>Zi hE rfl rfl rfl fun a hE=>Ze ?_))))))
  refine Zo hE rfl ?_ ?_
  ·intro hb0
   have hbi:=eqI hb0
   subst hbi
   refine Zb (Zd hE rfl fun a hE=>Zd hE rfl fun a hE=>Z2 hE hM Za ld rfl rfl (((hM.pull1).osn_osl noB).sl (pre:=[]) noB) Tryz.underlying23 YU rfl (by decide) (by rw [hm]; exact hb) fun y w a hM hE=>Zc hE rfl fun a hE=>Ze ?_)
   refine wp_ret (Zv (ZP hE rfl (ZU hE rfl) ⟨_,rfl,?_⟩))
   rw [List.take_length,List.drop_length,List.append_nil]
   exact (hM.pull1).drop
  ·intro hb0
   have hbi:=neI hb0
   obtain ⟨b,o,cap,c,T,fz,rfl,hcap,_,_,_,_⟩:=U2 hM (by omega)
   refine wp_skip (Zp (wp_seq (Zb (Zd hE rfl fun a hE=>Zd hE rfl fun a hE=>Zi hE rfl rfl rfl ?_)))); intro a hE
   rw [hw1] at hE
   refine Zd hE rfl fun a hE=>ym hE Za ld rfl Tryz.underlying23 fun a hE=>Zi hE rfl rfl rfl fun a hE=>Ze ?_
   refine Zo hE rfl ?_ ?_
   ·intro hbc
    have hbc:=of_decide_eq_true hbc
    refine Zb (Zd hE rfl fun a hE=>Zd hE rfl fun a hE=>TX hE Za ld rfl rfl Tryz.underlying23 YU (by omega) fun a hE=>Zd hE rfl fun a hE=>Zd hE rfl fun a hE=>Zi hE rfl rfl rfl ?_); intro a hE
    rw [hw1] at hE
    refine Zd hE rfl fun a hE=>Zi hE rfl rfl rfl ?_; intro a hE
    rw [hw3] at hE
    refine AP hE hM Za ld rfl rfl Tryz.underlying23 Tryz.underlying3 YU rfl rfl (by decide) (by decide) (by omega) (by omega) (by omega) (by omega) (by rw [show i + (l.length + 1 - i) = l.length + 1 by omega]; exact hb) fun q v2 w a hq hM hE=>Zc hE rfl fun a hE=>Ze ?_
    have hql : (l.take i ++ q).length = l.length + 1:=by simp; omega
    have h3 : slc (l.take i ++ q) (i : Int) ((l.take i ++ q).length : Int) = some ((l.take i ++ q).drop i):=Hi (by omega)
    refine Zb (Zd hE rfl fun a hE=>Zd hE rfl fun a hE=>Xf (hi:=none) (vlo:=some (vI (i : Int))) (i:=(i : Int)) (j:=((l.take i ++ q).length : Int)) hE Za ld rfl rfl rfl rfl rfl Tryz.underlying23 YU (hM.sl (pre:=[]) noB) h3 fun a hE=>Zd hE rfl fun a hE=>Tg (l:=l.take i ++ q) (i:=i) hE hM Za ld rfl rfl (((hM.pull2).osn_osl noB).sl (pre:=[]) noB) Tryz.underlying23 YU (by omega) (by omega) fun w a hM hE=>Ze (wp_seq ?_))
    rw [insA hi hm] at hM
    have hql2 : (l.take i ++ (m ++ q.drop 1)).length = l.length + 1:=by simp; omega
    have h4 : slc (l.take i ++ (m ++ q.drop 1)) (IntKind.i64.wrap ((i : Int) + 1)) ((l.take i ++ (m ++ q.drop 1)).length : Int) = some ((l.take i ++ (m ++ q.drop 1)).drop (i + 1)):=by rw [hw2]; exact Hi (by omega)
    refine ZX [46,47,48,49,50,51,52,53] Yu rfl rfl (by decide) rfl hE hM (qsP (fun z=>Zj z.E Za ld rfl (kr0 rfl)) (qsP (fun z=>Zj z.E Za ld rfl (kr0 rfl)) (qsP (fun z=>Zj z.E Za ld rfl (kr0 rfl)) (qsP (v:=vI (IntKind.i64.wrap ((i : Int) + 1))) (fun z=>Z9 z.E Za ld rfl rfl rfl (kr0 rfl)) (qsP (fun z=>Xf (hi:=none) (vlo:=some (vI (IntKind.i64.wrap ((i : Int) + 1)))) (i:=IntKind.i64.wrap ((i : Int) + 1)) (j:=((l.take i ++ (m ++ q.drop 1)).length : Int)) z.E Za ld rfl rfl rfl rfl rfl Tryz.underlying23 YU (z.M.sl (pre:=[]) noB) h4 (kr0 rfl)) (qsP (fun z=>Zj z.E Za ld rfl (kr0 rfl)) (qsP (fun z=>Zj z.E Za ld rfl (kr0 rfl)) (qsP (fun z=>Xf (hi:=none) (vlo:=some (vI (i : Int))) (i:=(i : Int)) (j:=(l.length : Int)) z.E Za ld rfl rfl rfl rfl rfl Tryz.underlying23 YU (z.M.sl (pre:=[_]) noB) h2 (kr0 rfl)) qs0)))))))) ?_
    intro a w u hE hM
    refine Tg (l:=l.take i ++ (m ++ q.drop 1)) (m:=l.drop i) (i:=(IntKind.i64.wrap ((i : Int) + 1)).toNat) hE hM Za ld rfl rfl (Xa (hM.sl (pre:=[_]) noB) h2) Tryz.underlying23 YU (by simp; omega) (by rw [hw2,Int.toNat_natCast,hql2,List.length_drop]; omega) fun w a hM hE=>Zg (Zp ?_)
    rw [hw2,Int.toNat_natCast,insB hi hm hq] at hM
    refine Zb (Zd hE rfl fun a hE=>Zc hE rfl fun a hE=>Ze ?_)
    exact wp_ret (Zv (ZP hE rfl (ZU hE rfl) ⟨_,rfl,((hM.pull1).drop.pull1).drop⟩))
   ·intro hbc
    have hbc:=of_decide_eq_false hbc
    have hN : (0 : Nat) < Flat.n (Opq 1):=by decide
    refine wp_skip (Zp (Zb (Zd hE rfl fun a hE=>Zd hE rfl fun a hE=>Zd hE rfl fun a hE=>Zi hE rfl rfl rfl ?_))); intro a hE
    rw [hw1] at hE
    refine TX hE Za ld rfl rfl Tryz.underlying23 YU (by omega) fun a hE=>Zc hE rfl fun a hE=>Ze (wp_seq (Zb (Zd hE rfl fun a hE=>Zd hE rfl fun a hE=>Zd hE rfl fun a hE=>Zd hE rfl fun a hE=>Zi hE rfl rfl rfl ?_))); intro a hE
    rw [hw2] at hE
    refine Ut hE Za ld rfl rfl Tryz.underlying23 YU (by omega) (by omega) fun a hE=>Kx (t:=23) (tB:=4) hE hM Za ld rfl Tryz.func140 rfl (by kernel_rfl) (by kernel_rfl) (by kernel_rfl) Tryz.underlying23 YU (by omega) (by omega) hN hN (by omega) fun a hE=>Qk hE rfl fun a hE=>Ze ?_
    refine AI hE rfl ?_
    refine wp_seq ?_
    refine ZX [69,70,71,72,73,74,75,76] Yu rfl rfl (by decide) rfl hE hM (qsP (fun z=>Zj z.E Za ld rfl (kr0 rfl)) (qsP (fun z=>Zj z.E Za ld rfl (kr0 rfl)) (qsP (fun z=>Zj z.E Za ld rfl (kr0 rfl)) (qsP (v:=vI ((i + 1 : Nat) : Int)) (fun z=>Z9 z.E Za ld rfl rfl (congrArg (fun z=>some (vI z)) hw2) (kr0 rfl)) (qsP (fun z=>Ut z.E Za ld rfl rfl Tryz.underlying23 YU (by omega) (by omega) (kr0 rfl)) (qsP (fun z=>Zj z.E Za ld rfl (kr0 rfl)) (qsP (fun z=>Zj z.E Za ld rfl (kr0 rfl)) (qsP (fun z=>Ut z.E Za ld rfl rfl Tryz.underlying23 YU (by omega) (by omega) (kr0 rfl)) qs0)))))))) ?_
    intro a w u hE hM
    refine Bb (i:=i) hE hM Za ld rfl rfl Tryz.underlying23 YU (by omega) (by omega) fun w a hM hE=>Zg (Zp ?_)
    have hql : (l.take (i + 1) ++ l.drop i).length = l.length + 1:=by simp; omega
    have h3 : slc (l.take (i + 1) ++ l.drop i) (i : Int) ((l.take (i + 1) ++ l.drop i).length : Int) = some ((l.take (i + 1) ++ l.drop i).drop i):=Hi (by omega)
    refine Zb (Zd hE rfl fun a hE=>Zd hE rfl fun a hE=>Xf (hi:=none) (vlo:=some (vI (i : Int))) (i:=(i : Int)) (j:=((l.take (i + 1) ++ l.drop i).length : Int)) hE Za ld rfl rfl rfl rfl rfl Tryz.underlying23 YU (hM.sl (pre:=[]) noB) h3 fun a hE=>Zd hE rfl fun a hE=>Tg (l:=l.take (i + 1) ++ l.drop i) (i:=i) hE hM Za ld rfl rfl (((hM.pull1).osn_osl noB).sl (pre:=[]) noB) Tryz.underlying23 YU (by omega) (by omega) fun w a hM hE=>Ze ?_)
    rw [insC hi hm] at hM
    refine Zb (Zd hE rfl fun a hE=>Zc hE rfl fun a hE=>Ze ?_)
    exact wp_ret (Zv (ZP hE rfl (ZU hE rfl) ⟨_,rfl,(hM.pull1).drop⟩))
theorem T8 (St : Nat → Prop) (W w0 : World) (its : List Item) (p0 : List (List UInt8)) (v0_1 : Value) (p1 : Int) (p2 : List (List UInt8)) (v2_1 : Value) (hM : M St W w0 (osl NoB p0 v0_1 :: osn NoB p2 v2_1 :: its)) (r : List (List UInt8)) (hF : WV p0 p1 p2 = some r) :
  Calls Tryz.prog 74 [v0_1,vI p1,v2_1].toArray w0 (fun en w'=>∃ v,en = .returned v ∧ (∃ (y1 : Value),v = y1 ∧ M St W w' (osl NoB r y1 :: its))) :=
 H8 (α:=(List UInt8)) (fun hM h1 h2 h3=>T7 _ _ _ _ _ _ _ _ _ hM h1 h2 h3) hM hF
def Vq (p0 : GBlobs) (p1 : (List UInt8)) : Option (GBlobs × (Vector UInt8 32) × Int) :=
 (Vm).bind fun r7=>(XG r7 p0).bind fun r12=>if (!r12) = true then (some ((⟨[],[],[]⟩ : GBlobs),(Vector.replicate 32 (0 : UInt8)),1)) else ((VW p1).bind fun r20=>if (!r20) = true then (some ((⟨[],[],[]⟩ : GBlobs),(Vector.replicate 32 (0 : UInt8)),2)) else ((YH r7.engine ([p1] : (List (List UInt8)))).bind fun r33=>(WP p0).bind fun r35=>(ZH p0.Keys r33 (fun z0 z1=>ZV z0 z1)).bind fun r54=>((if r54.2 = true then ((idx p0.Counts r54.1).bind fun x70=>if (x70 == 1000000) = true then (some true) else (some false)) else (some ((p0.Keys.length : Int) == 32)) : Option (Bool)).bind fun j66=>(if j66 = true then (some (Fl.ex ((⟨[],[],[]⟩ : GBlobs),(Vector.replicate 32 (0 : UInt8)),3))) else (if r54.2 = true then ((idx r35.Counts r54.1).bind fun x98=>(idx r35.Counts r54.1).bind fun x101=>some (Fl.nx (r35.Keys,r35.Data,(r35.Counts.set (r54.1).toNat (wr (x98 + 1)))))) else (((YE r35.Keys r54.1 ([r33] : List (Vector UInt8 32))).bind fun r117=>(Wm r35.Counts r54.1 ([1] : List Int)).bind fun r123=>some (r117,r123) : Option ((List (Vector UInt8 32)) × (List Int))).bind fun j105=>(Ym p1).bind fun r129=>(WV r35.Data r54.1 ([r129] : List (List UInt8))).bind fun r135=>some (Fl.nx (j105.1,r135,j105.2)))) : Option (Fl ((List (Vector UInt8 32)) × (List (List UInt8)) × (List Int)) (GBlobs × (Vector UInt8 32) × Int))).bind fun j79=>j79.el (fun s82=>some (Fl.nx (s82.1,s82.2.1,s82.2.2))) (fun r=>some (Fl.ex r)) : Option (Fl ((List (Vector UInt8 32)) × (List (List UInt8)) × (List Int)) (GBlobs × (Vector UInt8 32) × Int))).bind fun j56=>j56.el (fun s59=>(some (s59.1,s59.2.1,s59.2.2,r33,0) : Option ((List (Vector UInt8 32)) × (List (List UInt8)) × (List Int) × (Vector UInt8 32) × Int)).bind fun j140=>some ((⟨j140.1,j140.2.1,j140.2.2.1⟩ : GBlobs),j140.2.2.2.1,j140.2.2.2.2)) (fun r=>some r)))
end

end Go.Proofs.YtpibglnacohdkaaGreat
