/- The walk of what the law reaches: contracts of functions. -/
import Derived.Test.YtpjogonponkbmaaC1
set_option linter.unusedVariables false
set_option linter.unusedSimpArgs false
set_option maxRecDepth 20000
set_option maxHeartbeats 400000
namespace Go.Proofs.Ytpjogonponkbmaa
open Go
open Flat (enc)
noncomputable section
theorem Yc (w0 : World) (p0 : Int) (p1 : UInt8) (p2 : UInt8) (r : UInt8) (hF : ZR p0 p1 p2 = some r) :
  Calls Try.prog 144 [vI p0,vB p1,vB p2].toArray w0 (fun en w'=>∃ v,en = .returned v ∧ (v = (vB r) ∧ Kept (Old w0) w0 w')):=by
 refine ZC (n:=28) Try.func144 rfl rfl (nbl rfl) rfl ?_
 intro a hE
 have hM:=M.start w0
 unfold ZR at hF
 refine Zc (Ze hE Za ld rfl fun a hE=>Zf (Zc (Ze hE Za ld rfl fun a hE=>Zf (wp_seq (Zc (Zd hE Za ld rfl fun a hE=>Zf ?_))))))
 obtain ⟨j1,hl2,hF3⟩:=bind_some hF
 refine ZP (fun a w=>Env 28 a [(0,vI p0),(7,vI j1)] ∧ M (Old w0) w0 w []) ?_ ?_
 ·skip
  refine wp_block ?_
  refine ZJ (fun (s4 : Int × Int) a w=>Env 28 a [(0,vI p0),(1,vB p1),(2,vB p2),(7,vI s4.1),(9,vI s4.2)] ∧ M (Old w0) w0 w []) hl2 ⟨hE.sub ⟨rfl,rfl,rfl,rfl,rfl,trivial⟩,hM⟩ ?_
  rintro s4 a w ⟨hE,hM⟩ o7 hs5 hx6
  unfold YK at hs5
  refine Zc (Zk hE Za ld rfl rfl rfl fun a hE=>Zf (wp_seq ?_))
  refine Zr hE rfl ?_ ?_
  ·intro hb8
   have hs5:=Zw hs5 hb8
   refine wp_skip (Zt ?_)
   obtain ⟨j9,hl10,hF11⟩:=bind_some hs5
   refine ZL (fun a w=>Env 28 a [(0,vI p0),(1,vB p1),(2,vB p2),(7,vI j9),(9,vI s4.2)] ∧ M (Old w0) w0 w []) ?_ ?_
   ·skip
    refine wp_block (Zc (Zd hE Za ld rfl fun a hE=>Ze hE Za ld rfl fun a hE=>Zf (Zc (Zd hE Za ld rfl fun a hE=>Zd hE Za ld rfl ?_)))); intro a hE
    obtain ⟨_,e12,hl10⟩:=bind_some hl10
    have e12:=WN e12
    refine HD hE Za ld rfl rfl (bB_shr _ _ e12) fun a hE=>Zk hE Za ld rfl rfl (bB_and (JR p2 s4.2) 1) fun a hE=>Zk hE Za ld rfl rfl (HM ((JR p2 s4.2) &&& 1) 1) fun a hE=>Zf ?_
    obtain ⟨j13,hl14,hF15⟩:=bind_some hl10
    refine ZP (fun a w=>Env 28 a [(0,vI p0),(1,vB p1),(2,vB p2),(7,vI j13),(9,vI s4.2)] ∧ M (Old w0) w0 w []) ?_ ?_
    ·skip
     refine Zr hE rfl ?_ ?_
     ·intro hb16
      have hl14:=Zw hl14 hb16
      refine wp_region_lit (Zd hE Za ld rfl fun a hE=>Zd hE Za ld rfl fun a hE=>Ve hE Za ld rfl Try.underlying5 Try.underlying2 ?_); intro a hE
      rw [QR] at hE
      refine Zd hE Za ld rfl ?_; intro a hE
      obtain ⟨_,e17,hl14⟩:=bind_some hl14
      have e17:=WN e17
      refine HD hE Za ld rfl rfl (KB _ _ e17) fun a hE=>Zk hE Za ld rfl rfl rfl fun a hE=>Ze hE Za ld rfl fun a hE=>Zi ?_
      have ht18:=Option.some.inj hl14
      subst ht18
      refine Zj ?_
      exact ⟨hE.sub ⟨rfl,rfl,rfl,rfl,rfl,trivial⟩,hM⟩
     ·intro hb16
      have hl14:=Zx hl14 hb16
      refine wp_skip ?_
      have ht19:=Option.some.inj hl14
      subst ht19
      refine Zj ?_
      exact ⟨hE.sub ⟨rfl,rfl,rfl,rfl,rfl,trivial⟩,hM⟩
    ·skip
     rintro a w ⟨hE,hM⟩
     refine Yi ?_
     have ht20:=Option.some.inj hF15
     subst ht20
     refine Zj ?_
     exact ⟨hE.sub ⟨rfl,rfl,rfl,rfl,rfl,trivial⟩,hM⟩
   ·skip
    rintro a w ⟨hE,hM⟩
    refine wp_region_lit (Zk hE Za ld rfl rfl rfl fun a hE=>Zd hE Za ld rfl fun a hE=>Zi (Zj ?_))
    exact ⟨_,(ois hF11),hE.sub ⟨rfl,rfl,rfl,rfl,rfl,trivial⟩,hM⟩
  ·intro hb8
   have hs5:=Zx hs5 hb8
   refine wp_exit (Zp (Zp (Yj ?_)))
   have ht21:=hx6 _ (ois hs5)
   subst ht21
   refine Zj ?_
   exact ⟨hE.sub ⟨rfl,rfl,trivial⟩,hM⟩
 ·skip
  rintro a w ⟨hE,hM⟩
  refine Zt (Zc (Zd hE Za ld rfl fun a hE=>Zd hE Za ld rfl ?_)); intro a hE
  obtain ⟨r22,e23,hF3⟩:=bind_some hF3
  refine Zq hE Za ld rfl cb98 (QW _ j1 p0 8 r22 e23) ?_
  rintro v w a ⟨rfl,hK⟩ hE
  have hM:=hM.keep hK
  refine Ve hE Za ld rfl Try.underlying2 Try.underlying5 ?_; intro a hE
  rw [XH] at hE
  refine Ze hE Za ld rfl fun a hE=>Zf ?_
  have hr:=Option.some.inj hF3
  subst hr
  exact wp_ret (ZD hE rfl (ZA hE rfl) ⟨_,rfl,rfl,hM.kept⟩)
def X9 (p0 : Int) (s4 : UInt8 × Int × UInt8) : Option (Fl (UInt8 × Int × UInt8) UInt8) :=
 if (decide (s4.2.1 > 0)) = true then (((if ((Int.tmod s4.2.1 2) == 1) = true then ((ZR p0 s4.2.2 s4.1).bind fun r16=>some r16) else (some s4.2.2) : Option (UInt8)).bind fun j12=>(ZR p0 s4.1 s4.1).bind fun r20=>some (r20,j12) : Option (UInt8 × UInt8)).bind fun j9=>some (Fl.nx (j9.1,wr (Int.tdiv s4.2.1 2),j9.2))) else (some (Fl.ex s4.2.2))
def Y3 (p0 : Int) (p1 : UInt8) (p2 : Int) : Option (UInt8) :=
 (ZB (X9 p0) (p1,p2,1)).bind fun j1=>some j1
theorem TT (w0 : World) (p0 : Int) (p1 : UInt8) (p2 : Int) (r : UInt8) (hF : Y3 p0 p1 p2 = some r) :
  Calls Try.prog 159 [vI p0,vB p1,vI p2].toArray w0 (fun en w'=>∃ v,en = .returned v ∧ (v = (vB r) ∧ Kept (Old w0) w0 w')):=by
 refine ZC (n:=24) Try.func159 rfl rfl (nbl rfl) rfl ?_
 intro a hE
 have hM:=M.start w0
 unfold Y3 at hF
 refine Zc (Ze hE Za ld rfl fun a hE=>Zf (Zc (Ze hE Za ld rfl fun a hE=>Zf ?_)))
 obtain ⟨j1,hl2,hF3⟩:=bind_some hF
 refine ZL (fun a w=>Env 24 a [(7,vB j1)] ∧ M (Old w0) w0 w []) ?_ ?_
 ·skip
  refine wp_block ?_
  refine ZJ (fun (s4 : UInt8 × Int × UInt8) a w=>Env 24 a [(0,vI p0),(1,vB s4.1),(2,vI s4.2.1),(7,vB s4.2.2)] ∧ M (Old w0) w0 w []) hl2 ⟨hE.sub ⟨rfl,rfl,rfl,rfl,trivial⟩,hM⟩ ?_
  rintro s4 a w ⟨hE,hM⟩ o7 hs5 hx6
  unfold X9 at hs5
  refine wp_seq (Zc (Zd hE Za ld rfl fun a hE=>Zk hE Za ld rfl rfl rfl fun a hE=>Zf ?_))
  refine Zr hE rfl ?_ ?_
  ·intro hb8
   have hs5:=Zw hs5 hb8
   refine wp_skip (Zt ?_)
   obtain ⟨j9,hl10,hF11⟩:=bind_some hs5
   refine ZL (fun a w=>Env 24 a [(0,vI p0),(1,vB j9.1),(2,vI s4.2.1),(7,vB j9.2)] ∧ M (Old w0) w0 w []) ?_ ?_
   ·skip
    refine wp_block ?_
    obtain ⟨j12,hl13,hF14⟩:=bind_some hl10
    refine ZL (fun a w=>Env 24 a [(0,vI p0),(1,vB s4.1),(2,vI s4.2.1),(7,vB j12)] ∧ M (Old w0) w0 w []) ?_ ?_
    ·skip
     refine Zc (Zd hE Za ld rfl fun a hE=>Zk hE Za ld rfl rfl (JP _ _ (by decide)) fun a hE=>Zk hE Za ld rfl rfl rfl fun a hE=>Zf ?_)
     refine Zr hE rfl ?_ ?_
     ·intro hb15
      have hl13:=Zw hl13 hb15
      refine wp_region_lit (Zd hE Za ld rfl fun a hE=>Zd hE Za ld rfl fun a hE=>Zd hE Za ld rfl ?_); intro a hE
      obtain ⟨r16,e17,hl13⟩:=bind_some hl13
      refine Zq hE Za ld rfl QU (Yc _ p0 s4.2.2 s4.1 r16 e17) ?_
      rintro v w a ⟨rfl,hK⟩ hE
      have hM:=hM.keep hK
      refine Ze hE Za ld rfl fun a hE=>Zi ?_
      have ht18:=Option.some.inj hl13
      subst ht18
      refine Zj ?_
      exact ⟨hE.sub ⟨rfl,rfl,rfl,rfl,trivial⟩,hM⟩
     ·intro hb15
      have hl13:=Zx hl13 hb15
      refine wp_skip ?_
      have ht19:=Option.some.inj hl13
      subst ht19
      refine Zj ?_
      exact ⟨hE.sub ⟨rfl,rfl,rfl,rfl,trivial⟩,hM⟩
    ·skip
     rintro a w ⟨hE,hM⟩
     refine wp_region_lit (Zd hE Za ld rfl fun a hE=>Zd hE Za ld rfl fun a hE=>Zd hE Za ld rfl ?_); intro a hE
     obtain ⟨r20,e21,hF14⟩:=bind_some hF14
     refine Zq hE Za ld rfl QU (Yc _ p0 s4.1 s4.1 r20 e21) ?_
     rintro v w a ⟨rfl,hK⟩ hE
     have hM:=hM.keep hK
     refine Ze hE Za ld rfl fun a hE=>Zi (Yi ?_)
     have ht22:=Option.some.inj hF14
     subst ht22
     refine Zj ?_
     exact ⟨hE.sub ⟨rfl,rfl,rfl,rfl,trivial⟩,hM⟩
   ·skip
    rintro a w ⟨hE,hM⟩
    refine wp_region_lit (Zd hE Za ld rfl fun a hE=>Zk hE Za ld rfl rfl (JJ _ _ (by decide)) fun a hE=>Ze hE Za ld rfl fun a hE=>Zi (Zj ?_))
    exact ⟨_,(ois hF11),hE.sub ⟨rfl,rfl,rfl,rfl,trivial⟩,hM⟩
  ·intro hb8
   have hs5:=Zx hs5 hb8
   refine wp_exit (Zp (Zp (Yj ?_)))
   have ht23:=hx6 _ (ois hs5)
   subst ht23
   refine Zj ?_
   exact ⟨hE.sub ⟨rfl,trivial⟩,hM⟩
 ·skip
  rintro a w ⟨hE,hM⟩
  refine Zc (Zd hE Za ld rfl fun a hE=>Ze hE Za ld rfl fun a hE=>Zf ?_)
  have hr:=Option.some.inj hF3
  subst hr
  exact wp_ret (ZD hE rfl (ZA hE rfl) ⟨_,rfl,rfl,hM.kept⟩)
def Xg (p0 : Int) (p1 : UInt8) : Option (UInt8) :=
 (Y3 p0 p1 254).bind fun r1=>some r1
theorem Tl (w0 : World) (p0 : Int) (p1 : UInt8) (r : UInt8) (hF : Xg p0 p1 = some r) :
  Calls Try.prog 154 [vI p0,vB p1].toArray w0 (fun en w'=>∃ v,en = .returned v ∧ (v = (vB r) ∧ Kept (Old w0) w0 w')):=by
 refine ZC (n:=8) Try.func154 rfl rfl (nbl rfl) rfl ?_
 intro a hE
 have hM:=M.start w0
 unfold Xg at hF
 refine Zc (Ze hE Za ld rfl fun a hE=>Zf (Zc (Zd hE Za ld rfl fun a hE=>Zd hE Za ld rfl ?_))); intro a hE
 obtain ⟨r1,e2,hF⟩:=bind_some hF
 refine Zq hE Za ld rfl cb159 (TT _ p0 p1 254 r1 e2) ?_
 rintro v w a ⟨rfl,hK⟩ hE
 have hM:=hM.keep hK
 refine Ze hE Za ld rfl fun a hE=>Zf ?_
 have hr:=Option.some.inj hF
 subst hr
 exact wp_ret (ZD hE rfl (ZA hE rfl) ⟨_,rfl,rfl,hM.kept⟩)
def WU (s13 : (Vector (Vector UInt8 4) 4) × (Vector (Vector UInt8 4) 4) × Int × UInt8) (s21 : Int) : Option (Fl Int Int) :=
 (if (decide (s21 < 4)) = true then ((Zs s13.1 s21).bind fun x30=>(Zs x30 s13.2.2.1).bind fun x33=>some (x33 == 0)) else (some false) : Option (Bool)).bind fun j25=>if j25 = true then (some (Fl.nx (wr (s21 + 1)))) else (some (Fl.ex s21))
def Xh (p0 : Int) (s13 : (Vector (Vector UInt8 4) 4) × (Vector (Vector UInt8 4) 4) × Int × UInt8) (r90 : UInt8) (s95 : (Vector (Vector UInt8 4) 4) × (Vector (Vector UInt8 4) 4) × Int) : Option (Fl ((Vector (Vector UInt8 4) 4) × (Vector (Vector UInt8 4) 4) × Int) ((Vector (Vector UInt8 4) 4) × (Vector (Vector UInt8 4) 4))) :=
 if (decide (s95.2.2 < 4)) = true then ((Zs s95.1 s13.2.2.1).bind fun x102=>(Zs x102 s95.2.2).bind fun x105=>(ZR p0 x105 r90).bind fun r107=>(Zs s95.2.1 s13.2.2.1).bind fun x110=>(Zs x110 s95.2.2).bind fun x113=>(ZR p0 x113 r90).bind fun r115=>(Zs s95.1 s13.2.2.1).bind fun x118=>(Zs x118 s95.2.2).bind fun x121=>(Zs s95.2.1 s13.2.2.1).bind fun x124=>(Zs x124 s95.2.2).bind fun x127=>some (Fl.nx ((s95.1.setIfInBounds (s13.2.2.1).toNat (x118.setIfInBounds (s95.2.2).toNat r107)),(s95.2.1.setIfInBounds (s13.2.2.1).toNat (x124.setIfInBounds (s95.2.2).toNat r115)),wr (s95.2.2 + 1)))) else (some (Fl.ex (s95.1,s95.2.1)))
def Xe (p0 : Int) (s13 : (Vector (Vector UInt8 4) 4) × (Vector (Vector UInt8 4) 4) × Int × UInt8) (s133 : (Vector (Vector UInt8 4) 4) × (Vector (Vector UInt8 4) 4) × Int) (x145 : UInt8) (s160 : (Vector (Vector UInt8 4) 4) × (Vector (Vector UInt8 4) 4) × Int) : Option (Fl ((Vector (Vector UInt8 4) 4) × (Vector (Vector UInt8 4) 4) × Int) ((Vector (Vector UInt8 4) 4) × (Vector (Vector UInt8 4) 4))) :=
 if (decide (s160.2.2 < 4)) = true then (((Zs s160.1 s133.2.2).bind fun x170=>(Zs x170 s160.2.2).bind fun x173=>(Zs s160.1 s13.2.2.1).bind fun x176=>(Zs x176 s160.2.2).bind fun x179=>(ZR p0 x145 x179).bind fun r181=>(Zs s160.1 s133.2.2).bind fun x184=>(Zs x184 s160.2.2).bind fun x187=>some (s160.1.setIfInBounds (s133.2.2).toNat (x184.setIfInBounds (s160.2.2).toNat (x173 ^^^ r181))) : Option ((Vector (Vector UInt8 4) 4))).bind fun j165=>(Zs s160.2.1 s133.2.2).bind fun x192=>(Zs x192 s160.2.2).bind fun x195=>(Zs s160.2.1 s13.2.2.1).bind fun x198=>(Zs x198 s160.2.2).bind fun x201=>(ZR p0 x145 x201).bind fun r203=>(Zs s160.2.1 s133.2.2).bind fun x206=>(Zs x206 s160.2.2).bind fun x209=>some (Fl.nx (j165,(s160.2.1.setIfInBounds (s133.2.2).toNat (x206.setIfInBounds (s160.2.2).toNat (x195 ^^^ r203))),wr (s160.2.2 + 1)))) else (some (Fl.ex (s160.1,s160.2.1)))
def Xf (p0 : Int) (s13 : (Vector (Vector UInt8 4) 4) × (Vector (Vector UInt8 4) 4) × Int × UInt8) (s133 : (Vector (Vector UInt8 4) 4) × (Vector (Vector UInt8 4) 4) × Int) : Option (Fl ((Vector (Vector UInt8 4) 4) × (Vector (Vector UInt8 4) 4) × Int) ((Vector (Vector UInt8 4) 4) × (Vector (Vector UInt8 4) 4))) :=
 if (decide (s133.2.2 < 4)) = true then (((Zs s133.1 s133.2.2).bind fun x142=>(Zs x142 s13.2.2.1).bind fun x145=>(if (s133.2.2 != s13.2.2.1) = true then (some (x145 != 0)) else (some false) : Option (Bool)).bind fun j147=>(if j147 = true then ((ZB (Xe p0 s13 s133 x145) (s133.1,s133.2.1,0)).bind fun j157=>some (j157.1,j157.2)) else (some (s133.1,s133.2.1)) : Option ((Vector (Vector UInt8 4) 4) × (Vector (Vector UInt8 4) 4))).bind fun j153=>some (j153.1,j153.2) : Option ((Vector (Vector UInt8 4) 4) × (Vector (Vector UInt8 4) 4))).bind fun j138=>some (Fl.nx (j138.1,j138.2,wr (s133.2.2 + 1)))) else (some (Fl.ex (s133.1,s133.2.1)))
def Ye (p0 : Int) (s13 : (Vector (Vector UInt8 4) 4) × (Vector (Vector UInt8 4) 4) × Int × UInt8) : Option (Fl ((Vector (Vector UInt8 4) 4) × (Vector (Vector UInt8 4) 4) × Int × UInt8) (Fl ((Vector (Vector UInt8 4) 4) × UInt8) (UInt8 × (Vector (Vector UInt8 4) 4)))) :=
 if (decide (s13.2.2.1 < 4)) = true then ((ZB (WU s13) s13.2.2.1).bind fun j18=>if (j18 == 4) = true then (some (Fl.ex (Fl.ex (0,(Vector.replicate 4 (Vector.replicate 4 (0 : UInt8))))))) else (((Zs s13.1 s13.2.2.1).bind fun x47=>(Zs s13.1 j18).bind fun x50=>(Zs s13.1 j18).bind fun x53=>(Zs (s13.1.setIfInBounds (j18).toNat x47) s13.2.2.1).bind fun x56=>some ((s13.1.setIfInBounds (j18).toNat x47).setIfInBounds (s13.2.2.1).toNat x50) : Option ((Vector (Vector UInt8 4) 4))).bind fun j42=>((Zs s13.2.1 s13.2.2.1).bind fun x64=>(Zs s13.2.1 j18).bind fun x67=>(Zs s13.2.1 j18).bind fun x70=>(Zs (s13.2.1.setIfInBounds (j18).toNat x64) s13.2.2.1).bind fun x73=>some ((s13.2.1.setIfInBounds (j18).toNat x64).setIfInBounds (s13.2.2.1).toNat x67) : Option ((Vector (Vector UInt8 4) 4))).bind fun j59=>(Zs j42 s13.2.2.1).bind fun x77=>(Zs x77 s13.2.2.1).bind fun x80=>(ZR p0 s13.2.2.2 x80).bind fun r82=>(Zs j42 s13.2.2.1).bind fun x85=>(Zs x85 s13.2.2.1).bind fun x88=>(Xg p0 x88).bind fun r90=>(ZB (Xh p0 s13 r90) (j42,j59,0)).bind fun j92=>(ZB (Xf p0 s13) (j92.1,j92.2,0)).bind fun j130=>some (Fl.nx (j130.1,j130.2,wr (s13.2.2.1 + 1),r82)))) else (some (Fl.ex (Fl.nx (s13.2.1,s13.2.2.2))))
def Yp (p0 : Int) (p1 : (Vector (Vector UInt8 4) 4)) : Option (UInt8 × (Vector (Vector UInt8 4) 4)) :=
 (X2).bind fun r5=>(ZB (Ye p0) (p1,r5,0,1)).bind fun j9=>j9.el (fun s12=>(some (s12.1,s12.2) : Option ((Vector (Vector UInt8 4) 4) × UInt8)).bind fun j217=>some (j217.2,j217.1)) (fun r=>some r)
theorem VX (w0 : World) (p0 : Int) (p1 : (Vector (Vector UInt8 4) 4)) (r : UInt8 × (Vector (Vector UInt8 4) 4)) (hF : Yp p0 p1 = some r) :
  Calls Try.prog 126 [vI p0,(Value.agg (enc p1).toArray)].toArray w0 (fun en w'=>∃ v,en = .returned v ∧ (v = (Value.tuple [vB r.1,(Value.agg (enc r.2).toArray)].toArray) ∧ Kept (Old w0) w0 w')):=by
 refine ZC (n:=153) Try.func126 rfl rfl (nbl rfl) rfl ?_
 intro a hE
 have hM:=M.start w0
 unfold Yp at hF
 refine Zc (ZX (cs:=enc p1) hE hM Za ld rfl rfl fun b1 w a hM hE=>Ze hE Za ld rfl fun a hE=>ZF hE hM Za ld Yw fun b3 w a hM hE=>Zf (Zc ?_))
 obtain ⟨r5,e6,hF⟩:=bind_some hF
 refine Zq hE Za ld rfl cb153 (Qr _  r5 e6) ?_
 rintro v w a ⟨rfl,hK⟩ hE
 have hM:=hM.keep hK
 refine ZF hE hM Za ld Yw fun b7 w a hM hE=>Zm (seg:=enc r5) (cs':=enc r5) hE hM Za rfl rfl rfl Yw (Flat.len _) (zle flq) (Flat.cell _) (Zn flq) fun w a hM hE=>Ze hE Za ld rfl fun a hE=>Zf (wp_seq (Zc (Zd hE Za ld rfl fun a hE=>Zf ?_)))
 obtain ⟨j9,hl10,hF11⟩:=bind_some hF
 refine ZP (fun a w=>∃ s12 : (Vector (Vector UInt8 4) 4) × UInt8,j9 = Fl.nx s12 ∧ Env 153 a [(5,(ptr b3 0)),(6,(ptr b7 0)),(7,vB s12.2)] ∧ M (Old w0) w0 w [raw b7 (enc s12.1),raw b3 (enc (Vector.replicate 4 (Vector.replicate 4 (0 : UInt8))))]) ?_ ?_
 ·skip
  refine wp_block ?_
  refine ZJ (fun (s13 : (Vector (Vector UInt8 4) 4) × (Vector (Vector UInt8 4) 4) × Int × UInt8) a w=>Env 153 a [(0,vI p0),(3,(ptr b1 0)),(5,(ptr b3 0)),(6,(ptr b7 0)),(7,vB s13.2.2.2),(16,vI s13.2.2.1)] ∧ M (Old w0) w0 w [raw b7 (enc s13.2.1),raw b3 (enc (Vector.replicate 4 (Vector.replicate 4 (0 : UInt8)))),raw b1 (enc s13.1)]) hl10 ⟨hE.sub ⟨rfl,rfl,rfl,rfl,rfl,rfl,trivial⟩,hM⟩ ?_
  rintro s13 a w ⟨hE,hM⟩ o16 hs14 hx15
  unfold Ye at hs14
  refine Zc (Zk hE Za ld rfl rfl rfl fun a hE=>Zf (wp_seq ?_))
  refine Zr hE rfl ?_ ?_
  ·intro hb17
   have hs14:=Zw hs14 hb17
   refine wp_skip (Zt (wp_seq (wp_block (Zc (Zd hE Za ld rfl fun a hE=>Ze hE Za ld rfl fun a hE=>Zf (Zc (Zd hE Za ld rfl fun a hE=>Ze hE Za ld rfl fun a hE=>Zf ?_)))))))
   obtain ⟨j18,hl19,hF20⟩:=bind_some hs14
   refine ZL (fun a w=>Env 153 a [(0,vI p0),(3,(ptr b1 0)),(5,(ptr b3 0)),(6,(ptr b7 0)),(7,vB s13.2.2.2),(8,vI s13.2.2.1),(9,vI j18),(16,vI s13.2.2.1)] ∧ M (Old w0) w0 w [raw b7 (enc s13.2.1),raw b3 (enc (Vector.replicate 4 (Vector.replicate 4 (0 : UInt8)))),raw b1 (enc s13.1)]) ?_ ?_
   ·skip
    refine wp_block ?_
    refine ZJ (fun (s21 : Int) a w=>Env 153 a [(0,vI p0),(3,(ptr b1 0)),(5,(ptr b3 0)),(6,(ptr b7 0)),(7,vB s13.2.2.2),(8,vI s13.2.2.1),(9,vI s21),(16,vI s13.2.2.1)] ∧ M (Old w0) w0 w [raw b7 (enc s13.2.1),raw b3 (enc (Vector.replicate 4 (Vector.replicate 4 (0 : UInt8)))),raw b1 (enc s13.1)]) hl19 ⟨hE.sub ⟨rfl,rfl,rfl,rfl,rfl,rfl,rfl,rfl,trivial⟩,hM⟩ ?_
    rintro s21 a w ⟨hE,hM⟩ o24 hs22 hx23
    unfold WU at hs22
    refine wp_seq ?_
    obtain ⟨j25,hl26,hF27⟩:=bind_some hs22
    refine ZL (fun a w=>Env 153 a [(0,vI p0),(3,(ptr b1 0)),(5,(ptr b3 0)),(6,(ptr b7 0)),(7,vB s13.2.2.2),(8,vI s13.2.2.1),(9,vI s21),(16,vI s13.2.2.1),(29,vT j25)] ∧ M (Old w0) w0 w [raw b7 (enc s13.2.1),raw b3 (enc (Vector.replicate 4 (Vector.replicate 4 (0 : UInt8)))),raw b1 (enc s13.1)]) ?_ ?_
    ·skip
     refine wp_region_lit (Zd hE Za ld rfl fun a hE=>Zk hE Za ld rfl rfl rfl fun a hE=>Zd hE Za ld rfl ?_); intro a hE
     refine Va (decide (s21 < 4)) (fun hb28=>?_) (fun hb28=>?_)
     ·have hl26:=Zw hl26 hb28
      refine Zd hE (Zz hE rfl (lkb rfl hb28)) (by decide) rfl fun a hE=>Zd hE (Zz hE rfl (lkb rfl hb28)) (by decide) rfl ?_; intro a hE
      obtain ⟨x30,hi29,hl26⟩:=bvx hl26
      refine Zg hE (Zz hE rfl (lkb rfl hb28)) (by decide) rfl rfl Try.underlying50 Z4 hi29.1 ?_; intro a hE
      obtain ⟨x33,hi32,hl26⟩:=bvx hl26
      refine Zg hE (Zz hE rfl (lkb rfl hb28)) (by decide) rfl rfl Try.underlying42 ty5 hi32.1 fun a hE=>Zv (v:=(vB x33)) hE (Zz hE rfl (lkb rfl hb28)) (by decide) rfl ty5 rfl (At.vec (At.vec (hM.rawAt (pre:=[_,_])) hi29.2) hi32.2) fun a hE=>Zk hE (Zz hE rfl (lkb rfl hb28)) (by decide) rfl rfl (HM x33 0) fun a hE=>Xx hE Za ld (lkb rfl hb28) rfl fun a hE=>Zi ?_
      have ht35:=Option.some.inj hl26
      subst ht35
      refine Zj ?_
      exact ⟨hE.sub ⟨rfl,rfl,rfl,rfl,rfl,rfl,rfl,rfl,rfl,trivial⟩,hM⟩
     ·have hl26:=Zx hl26 hb28
      refine Zy hE rfl (lkb rfl hb28) rfl (by decide) fun a hE=>Zy hE rfl (lkb rfl hb28) rfl (by decide) fun a hE=>Zy hE rfl (lkb rfl hb28) rfl (by decide) fun a hE=>Zy hE rfl (lkb rfl hb28) rfl (by decide) fun a hE=>Zy hE rfl (lkb rfl hb28) rfl (by decide) fun a hE=>Zy hE rfl (lkb rfl hb28) rfl (by decide) fun a hE=>YO hE Za ld (lkb rfl hb28) rfl fun a hE=>Zi ?_
      have ht36:=Option.some.inj hl26
      subst ht36
      refine Zj ?_
      exact ⟨hE.sub ⟨rfl,rfl,rfl,rfl,rfl,rfl,rfl,rfl,rfl,trivial⟩,hM⟩
    ·skip
     rintro a w ⟨hE,hM⟩
     refine Zr hE rfl ?_ ?_
     ·intro hb37
      have hF27:=Zw hF27 hb37
      refine wp_skip (Zt (wp_block (wp_region_lit (Zd hE Za ld rfl fun a hE=>Zk hE Za ld rfl rfl rfl fun a hE=>Ze hE Za ld rfl fun a hE=>Zi (Yi (Zj ?_))))))
      exact ⟨_,(ois hF27),hE.sub ⟨rfl,rfl,rfl,rfl,rfl,rfl,rfl,rfl,trivial⟩,hM⟩
     ·intro hb37
      have hF27:=Zx hF27 hb37
      refine wp_exit (Zp (Zp (Yj ?_)))
      have ht38:=hx23 _ (ois hF27)
      subst ht38
      refine Zj ?_
      exact ⟨hE.sub ⟨rfl,rfl,rfl,rfl,rfl,rfl,rfl,rfl,trivial⟩,hM⟩
   ·skip
    rintro a w ⟨hE,hM⟩
    refine wp_seq (Zc (Zd hE Za ld rfl fun a hE=>Zk hE Za ld rfl rfl rfl fun a hE=>Zf ?_))
    refine Zr hE rfl ?_ ?_
    ·intro hb39
     have hF20:=Zw hF20 hb39
     refine Zc (YP (parts:=[]) (vs:=[]) (cs:=enc (Vector.replicate 4 (Vector.replicate 4 (0 : UInt8)))) hE Za ld rfl rfl Yw rfl Z4 Yr fun a hE=>Ze hE Za ld rfl ?_); intro a hE
     have hM:=hM.pull (pre:=[_])
     refine Zm (seg:=enc (Vector.replicate 4 (Vector.replicate 4 (0 : UInt8)))) (cs':=enc (Vector.replicate 4 (Vector.replicate 4 (0 : UInt8)))) hE hM Za rfl rfl rfl Yw (Flat.len _) (zle flq) (Flat.cell _) (Zn flq) fun w a hM hE=>Zf ?_
     have ht40:=hx15 _ (ois hF20)
     subst ht40
     have hr:=Option.some.inj hF11
     subst hr
     have hq41 : YD Try.prog _ _ (.cell 5 50) _:=ZW hE rfl Yw rfl (hM.rawAt (pre:=[])) (Flat.len _) rfl
     have hM:=M.fst (l:=[]) hM
     exact wp_ret (ZH (Wq (ZH (ZH (Wq (ZH (ZH (UM hE rfl (ZA hE rfl) hq41 ⟨_,rfl,rfl,hM.kept⟩))))))))
    ·intro hb39
     have hF20:=Zx hF20 hb39
     refine wp_skip (Zt ?_)
     obtain ⟨j42,hl43,hF44⟩:=bind_some hF20
     refine ZL (fun a w=>Env 153 a [(0,vI p0),(3,(ptr b1 0)),(5,(ptr b3 0)),(6,(ptr b7 0)),(7,vB s13.2.2.2),(8,vI s13.2.2.1),(9,vI j18),(16,vI s13.2.2.1)] ∧ M (Old w0) w0 w [raw b7 (enc s13.2.1),raw b3 (enc (Vector.replicate 4 (Vector.replicate 4 (0 : UInt8)))),raw b1 (enc j42)]) ?_ ?_
     ·skip
      have hM:=hM.pull (pre:=[_,_])
      obtain ⟨x47,hi46,hl43⟩:=bvx hl43
      obtain ⟨x50,hi49,hl43⟩:=bvx hl43
      obtain ⟨x53,hi52,hl43⟩:=bvx hl43
      refine V3 (n:=153) (hd:=[_,_,_,_,_,_,_,_,_,_]) (tl:=[_,_]) YR rfl rfl [35,36,37,38,39,40,41,42,43,162] (by decide) (fun D u w=>M (Old w0) w0 w ([raw b7 (enc s13.2.1),raw b3 (enc (Vector.replicate 4 (Vector.replicate 4 (0 : UInt8))))] ++ qL ([mkT 9 (raw b1 (enc s13.1)) (raw b1 (enc (s13.1.setIfInBounds (j18).toNat x47)))] : Mk) D u) ∧ GOk ([([],fun us v=>v = (vI j18)),([],fun us v=>v = (vI s13.2.2.1)),([],fun us v=>v = (vI s13.2.2.1)),([],fun us v=>v = (ptr b1 (0 + (s13.2.2.1).toNat * 4))),([],fun us v=>v = (Value.agg (enc x47).toArray)),([],fun us v=>v = (vI j18)),([],fun us v=>v = (ptr b1 (0 + (j18).toNat * 4))),([],fun us v=>v = (Value.agg (enc x50).toArray)),([],fun us v=>v = (ptr b1 (0 + (j18).toNat * 4))),([],fun us v=>True)] : Gs) D u) hE (fun u=>⟨M.qT (M.q0 hM.drew u),JH⟩) (ZK (Zb ?_ (Zb ?_ (Zb ?_ (Zb ?_ (Zb ?_ (Zb ?_ (Zb ?_ (Zb ?_ (Zb ?_ (Zb ?_ ZE))))))))))) ?_
      ·intro a w ux45 D hE hI hD hdc hp
       have hM0:=hI.1
       have hM:=hI.1
       have hM:=hM.togA (pre:=[_,_]) (Bool.eq_false_iff.2 fun hx=>Bool.noConfusion (hD.symm.trans (hdc 9 _ _ rfl (List.mem_of_getElem? (i:=2) rfl) rfl hx)))
       exact Zd hE Za ld rfl fun a hE=>⟨_,_,rfl,hE,M.qKeep hM0 rfl,hI.2.put hD rfl ZQ rfl⟩
      ·intro a w ux45 D hE hI hD hdc hp
       have hM0:=hI.1
       exact Zd hE Za ld rfl fun a hE=>⟨_,_,rfl,hE,M.qKeep hM0 rfl,hI.2.put hD rfl ZQ rfl⟩
      ·intro a w ux45 D hE hI hD hdc hp
       have hM0:=hI.1
       have hM:=hI.1
       have hM:=hM.togA (pre:=[_,_]) (Bool.eq_false_iff.2 fun hx=>Bool.noConfusion (hD.symm.trans (hdc 9 _ _ rfl (List.mem_of_getElem? (i:=4) rfl) rfl hx)))
       exact Zd hE Za ld rfl fun a hE=>⟨_,_,rfl,hE,M.qKeep hM0 rfl,hI.2.put hD rfl ZQ rfl⟩
      ·intro a w ux45 D hE hI hD hdc hp
       have d2 : D 2 = true:=hp 0 _ rfl rfl
       have g2:=hI.2 2 d2 _ rfl
       have f2 : ux45 2 = (vI s13.2.2.1):=g2.2
       have hM0:=hI.1
       have hM:=hI.1
       have hM:=hM.togA (pre:=[_,_]) (Bool.eq_false_iff.2 fun hx=>Bool.noConfusion (hD.symm.trans (hdc 9 _ _ rfl (List.mem_of_getElem? (i:=5) rfl) rfl hx)))
       exact Zg hE Za ld rfl (lk rfl f2) Try.underlying50 Z4 hi46.1 fun a hE=>⟨_,_,rfl,hE,M.qKeep hM0 rfl,hI.2.put hD rfl ZQ rfl⟩
      ·intro a w ux45 D hE hI hD hdc hp
       have d3 : D 3 = true:=hp 0 _ rfl rfl
       have g3:=hI.2 3 d3 _ rfl
       have f3 : ux45 3 = (ptr b1 (0 + (s13.2.2.1).toNat * 4)):=g3.2
       have hM0:=hI.1
       have hM:=hI.1
       have hM:=hM.togA (pre:=[_,_]) (Bool.eq_false_iff.2 fun hx=>Bool.noConfusion (hD.symm.trans (hdc 9 _ _ rfl (List.mem_of_getElem? (i:=1) rfl) rfl hx)))
       exact Zl (cs:=enc x47) hE Za ld (lk rfl f3) Z4 rfl (At.vec (hM.rawAt (pre:=[_,_])) hi46.2) (Flat.len _) fun a hE=>⟨_,_,rfl,hE,M.qKeep hM0 rfl,hI.2.put hD rfl ZQ rfl⟩
      ·intro a w ux45 D hE hI hD hdc hp
       have hM0:=hI.1
       exact Zd hE Za ld rfl fun a hE=>⟨_,_,rfl,hE,M.qKeep hM0 rfl,hI.2.put hD rfl ZQ rfl⟩
      ·intro a w ux45 D hE hI hD hdc hp
       have d5 : D 5 = true:=hp 0 _ rfl rfl
       have g5:=hI.2 5 d5 _ rfl
       have f5 : ux45 5 = (vI j18):=g5.2
       have hM0:=hI.1
       have hM:=hI.1
       have hM:=hM.togA (pre:=[_,_]) (Bool.eq_false_iff.2 fun hx=>Bool.noConfusion (hD.symm.trans (hdc 9 _ _ rfl (List.mem_of_getElem? (i:=8) rfl) rfl hx)))
       exact Zg hE Za ld rfl (lk rfl f5) Try.underlying50 Z4 hi49.1 fun a hE=>⟨_,_,rfl,hE,M.qKeep hM0 rfl,hI.2.put hD rfl ZQ rfl⟩
      ·intro a w ux45 D hE hI hD hdc hp
       have d6 : D 6 = true:=hp 0 _ rfl rfl
       have g6:=hI.2 6 d6 _ rfl
       have f6 : ux45 6 = (ptr b1 (0 + (j18).toNat * 4)):=g6.2
       have hM0:=hI.1
       have hM:=hI.1
       have hM:=hM.togA (pre:=[_,_]) (Bool.eq_false_iff.2 fun hx=>Bool.noConfusion (hD.symm.trans (hdc 9 _ _ rfl (List.mem_of_getElem? (i:=9) rfl) rfl hx)))
       exact Zl (cs:=enc x50) hE Za ld (lk rfl f6) Z4 rfl (At.vec (hM.rawAt (pre:=[_,_])) hi49.2) (Flat.len _) fun a hE=>⟨_,_,rfl,hE,M.qKeep hM0 rfl,hI.2.put hD rfl ZQ rfl⟩
      ·intro a w ux45 D hE hI hD hdc hp
       have d0 : D 0 = true:=hp 0 _ rfl rfl
       have g0:=hI.2 0 d0 _ rfl
       have f0 : ux45 0 = (vI j18):=g0.2
       have hM0:=hI.1
       have hM:=hI.1
       have hM:=hM.togA (pre:=[_,_]) (Bool.eq_false_iff.2 fun hx=>Bool.noConfusion (hD.symm.trans (hdc 9 _ _ rfl (List.mem_of_getElem? (i:=0) rfl) rfl hx)))
       exact Zg hE Za ld rfl (lk rfl f0) Try.underlying50 Z4 hi52.1 fun a hE=>⟨_,_,rfl,hE,M.qKeep hM0 rfl,hI.2.put hD rfl ZQ rfl⟩
      ·intro a w ux45 D hE hI hD hdc hp
       have d4 : D 4 = true:=hp 1 _ rfl rfl
       have g4:=hI.2 4 d4 _ rfl
       have f4 : ux45 4 = (Value.agg (enc x47).toArray):=g4.2
       have d8 : D 8 = true:=hp 0 _ rfl rfl
       have g8:=hI.2 8 d8 _ rfl
       have f8 : ux45 8 = (ptr b1 (0 + (j18).toNat * 4)):=g8.2
       have hM0:=hI.1
       have hM:=(hI.1.togA (pre:=[_,_]) hD).pull (pre:=[_,_])
       exact Zm (seg:=enc x47) (cs':=enc (s13.1.setIfInBounds (j18).toNat x47)) hE hM Za (lk rfl f8) (lk rfl f4) rfl Z4 (Flat.len _) (ZI (v:=s13.1) (x:=x47) hi52.1) (Flat.cell _) (Zu (v:=s13.1) (x:=x47) hi52.1) fun w a hM hE=>⟨undef,_,rfl,Env.dummy hE (by decide),M.qTog (mk1:=[]) (mk2:=[]) hM rfl,hI.2.put hD rfl ZQ trivial⟩
      ·intro a w ux45 D hE hI hall
       have hM:=hI.1
       have d0 : D 0 = true:=hall 0 (by decide)
       have d1 : D 1 = true:=hall 1 (by decide)
       have d2 : D 2 = true:=hall 2 (by decide)
       have d3 : D 3 = true:=hall 3 (by decide)
       have d4 : D 4 = true:=hall 4 (by decide)
       have d5 : D 5 = true:=hall 5 (by decide)
       have d6 : D 6 = true:=hall 6 (by decide)
       have d7 : D 7 = true:=hall 7 (by decide)
       have d8 : D 8 = true:=hall 8 (by decide)
       have d9 : D 9 = true:=hall 9 (by decide)
       have f0 : ux45 0 = (vI j18):=(hI.2 0 d0 _ rfl).2
       have f1 : ux45 1 = (vI s13.2.2.1):=(hI.2 1 d1 _ rfl).2
       have f2 : ux45 2 = (vI s13.2.2.1):=(hI.2 2 d2 _ rfl).2
       have f3 : ux45 3 = (ptr b1 (0 + (s13.2.2.1).toNat * 4)):=(hI.2 3 d3 _ rfl).2
       have f4 : ux45 4 = (Value.agg (enc x47).toArray):=(hI.2 4 d4 _ rfl).2
       have f5 : ux45 5 = (vI j18):=(hI.2 5 d5 _ rfl).2
       have f6 : ux45 6 = (ptr b1 (0 + (j18).toNat * 4)):=(hI.2 6 d6 _ rfl).2
       have f7 : ux45 7 = (Value.agg (enc x50).toArray):=(hI.2 7 d7 _ rfl).2
       have f8 : ux45 8 = (ptr b1 (0 + (j18).toNat * 4)):=(hI.2 8 d8 _ rfl).2
       have hM:=hM.togB (pre:=[_,_]) d9
       have hE:=hE.sub (e':=[(36,vI s13.2.2.1),(42,(Value.agg (enc x50).toArray)),(0,vI p0),(3,(ptr b1 0)),(5,(ptr b3 0)),(6,(ptr b7 0)),(7,vB s13.2.2.2),(8,vI s13.2.2.1),(9,vI j18),(16,vI s13.2.2.1),(32,vI j18),(33,(vT (j18 == 4)))]) ⟨lk rfl f1,lk rfl f7,rfl,rfl,rfl,rfl,rfl,rfl,rfl,rfl,rfl,rfl,trivial⟩
       obtain ⟨x56,hi55,hl43⟩:=bvx hl43
       refine Zg hE Za ld rfl rfl Try.underlying50 Z4 hi55.1 ?_; intro a hE
       have hM:=hM.pull (pre:=[_,_])
       refine Zm (seg:=enc x50) (cs':=enc ((s13.1.setIfInBounds (j18).toNat x47).setIfInBounds (s13.2.2.1).toNat x50)) hE hM Za rfl rfl rfl Z4 (Flat.len _) (ZI (v:=(s13.1.setIfInBounds (j18).toNat x47)) (x:=x50) hi55.1) (Flat.cell _) (Zu (v:=(s13.1.setIfInBounds (j18).toNat x47)) (x:=x50) hi55.1) fun w a hM hE=>Zi ?_
       have ht58:=Option.some.inj hl43
       subst ht58
       refine Zj ?_
       have hM:=(hM.pull (pre:=[_,_])).pull (pre:=[_,_])
       exact ⟨hE.sub ⟨rfl,rfl,rfl,rfl,rfl,rfl,rfl,rfl,trivial⟩,hM⟩
     ·skip
      rintro a w ⟨hE,hM⟩
      obtain ⟨j59,hl60,hF61⟩:=bind_some hF44
      refine ZL (fun a w=>Env 153 a [(0,vI p0),(3,(ptr b1 0)),(5,(ptr b3 0)),(6,(ptr b7 0)),(7,vB s13.2.2.2),(8,vI s13.2.2.1),(16,vI s13.2.2.1)] ∧ M (Old w0) w0 w [raw b7 (enc j59),raw b3 (enc (Vector.replicate 4 (Vector.replicate 4 (0 : UInt8)))),raw b1 (enc j42)]) ?_ ?_
      ·skip
       obtain ⟨x64,hi63,hl60⟩:=bvx hl60
       obtain ⟨x67,hi66,hl60⟩:=bvx hl60
       obtain ⟨x70,hi69,hl60⟩:=bvx hl60
       refine V3 (n:=153) (hd:=[_,_,_,_,_,_,_,_,_,_]) (tl:=[_,_]) YR rfl rfl [45,46,47,48,49,50,51,52,53,162] (by decide) (fun D u w=>M (Old w0) w0 w ([raw b3 (enc (Vector.replicate 4 (Vector.replicate 4 (0 : UInt8)))),raw b1 (enc j42)] ++ qL ([mkT 9 (raw b7 (enc s13.2.1)) (raw b7 (enc (s13.2.1.setIfInBounds (j18).toNat x64)))] : Mk) D u) ∧ GOk ([([],fun us v=>v = (vI j18)),([],fun us v=>v = (vI s13.2.2.1)),([],fun us v=>v = (vI s13.2.2.1)),([],fun us v=>v = (ptr b7 (0 + (s13.2.2.1).toNat * 4))),([],fun us v=>v = (Value.agg (enc x64).toArray)),([],fun us v=>v = (vI j18)),([],fun us v=>v = (ptr b7 (0 + (j18).toNat * 4))),([],fun us v=>v = (Value.agg (enc x67).toArray)),([],fun us v=>v = (ptr b7 (0 + (j18).toNat * 4))),([],fun us v=>True)] : Gs) D u) hE (fun u=>⟨M.qT (M.q0 hM.drew u),JH⟩) (ZK (Zb ?_ (Zb ?_ (Zb ?_ (Zb ?_ (Zb ?_ (Zb ?_ (Zb ?_ (Zb ?_ (Zb ?_ (Zb ?_ ZE))))))))))) ?_
       ·intro a w ux62 D hE hI hD hdc hp
        have hM0:=hI.1
        have hM:=hI.1
        have hM:=hM.togA (pre:=[_,_]) (Bool.eq_false_iff.2 fun hx=>Bool.noConfusion (hD.symm.trans (hdc 9 _ _ rfl (List.mem_of_getElem? (i:=2) rfl) rfl hx)))
        exact Zd hE Za ld rfl fun a hE=>⟨_,_,rfl,hE,M.qKeep hM0 rfl,hI.2.put hD rfl ZQ rfl⟩
       ·intro a w ux62 D hE hI hD hdc hp
        have hM0:=hI.1
        exact Zd hE Za ld rfl fun a hE=>⟨_,_,rfl,hE,M.qKeep hM0 rfl,hI.2.put hD rfl ZQ rfl⟩
       ·intro a w ux62 D hE hI hD hdc hp
        have hM0:=hI.1
        have hM:=hI.1
        have hM:=hM.togA (pre:=[_,_]) (Bool.eq_false_iff.2 fun hx=>Bool.noConfusion (hD.symm.trans (hdc 9 _ _ rfl (List.mem_of_getElem? (i:=4) rfl) rfl hx)))
        exact Zd hE Za ld rfl fun a hE=>⟨_,_,rfl,hE,M.qKeep hM0 rfl,hI.2.put hD rfl ZQ rfl⟩
       ·intro a w ux62 D hE hI hD hdc hp
        have d2 : D 2 = true:=hp 0 _ rfl rfl
        have g2:=hI.2 2 d2 _ rfl
        have f2 : ux62 2 = (vI s13.2.2.1):=g2.2
        have hM0:=hI.1
        have hM:=hI.1
        have hM:=hM.togA (pre:=[_,_]) (Bool.eq_false_iff.2 fun hx=>Bool.noConfusion (hD.symm.trans (hdc 9 _ _ rfl (List.mem_of_getElem? (i:=5) rfl) rfl hx)))
        exact Zg hE Za ld rfl (lk rfl f2) Try.underlying50 Z4 hi63.1 fun a hE=>⟨_,_,rfl,hE,M.qKeep hM0 rfl,hI.2.put hD rfl ZQ rfl⟩
       ·intro a w ux62 D hE hI hD hdc hp
        have d3 : D 3 = true:=hp 0 _ rfl rfl
        have g3:=hI.2 3 d3 _ rfl
        have f3 : ux62 3 = (ptr b7 (0 + (s13.2.2.1).toNat * 4)):=g3.2
        have hM0:=hI.1
        have hM:=hI.1
        have hM:=hM.togA (pre:=[_,_]) (Bool.eq_false_iff.2 fun hx=>Bool.noConfusion (hD.symm.trans (hdc 9 _ _ rfl (List.mem_of_getElem? (i:=1) rfl) rfl hx)))
        exact Zl (cs:=enc x64) hE Za ld (lk rfl f3) Z4 rfl (At.vec (hM.rawAt (pre:=[_,_])) hi63.2) (Flat.len _) fun a hE=>⟨_,_,rfl,hE,M.qKeep hM0 rfl,hI.2.put hD rfl ZQ rfl⟩
       ·intro a w ux62 D hE hI hD hdc hp
        have hM0:=hI.1
        exact Zd hE Za ld rfl fun a hE=>⟨_,_,rfl,hE,M.qKeep hM0 rfl,hI.2.put hD rfl ZQ rfl⟩
       ·intro a w ux62 D hE hI hD hdc hp
        have d5 : D 5 = true:=hp 0 _ rfl rfl
        have g5:=hI.2 5 d5 _ rfl
        have f5 : ux62 5 = (vI j18):=g5.2
        have hM0:=hI.1
        have hM:=hI.1
        have hM:=hM.togA (pre:=[_,_]) (Bool.eq_false_iff.2 fun hx=>Bool.noConfusion (hD.symm.trans (hdc 9 _ _ rfl (List.mem_of_getElem? (i:=8) rfl) rfl hx)))
        exact Zg hE Za ld rfl (lk rfl f5) Try.underlying50 Z4 hi66.1 fun a hE=>⟨_,_,rfl,hE,M.qKeep hM0 rfl,hI.2.put hD rfl ZQ rfl⟩
       ·intro a w ux62 D hE hI hD hdc hp
        have d6 : D 6 = true:=hp 0 _ rfl rfl
        have g6:=hI.2 6 d6 _ rfl
        have f6 : ux62 6 = (ptr b7 (0 + (j18).toNat * 4)):=g6.2
        have hM0:=hI.1
        have hM:=hI.1
        have hM:=hM.togA (pre:=[_,_]) (Bool.eq_false_iff.2 fun hx=>Bool.noConfusion (hD.symm.trans (hdc 9 _ _ rfl (List.mem_of_getElem? (i:=9) rfl) rfl hx)))
        exact Zl (cs:=enc x67) hE Za ld (lk rfl f6) Z4 rfl (At.vec (hM.rawAt (pre:=[_,_])) hi66.2) (Flat.len _) fun a hE=>⟨_,_,rfl,hE,M.qKeep hM0 rfl,hI.2.put hD rfl ZQ rfl⟩
       ·intro a w ux62 D hE hI hD hdc hp
        have d0 : D 0 = true:=hp 0 _ rfl rfl
        have g0:=hI.2 0 d0 _ rfl
        have f0 : ux62 0 = (vI j18):=g0.2
        have hM0:=hI.1
        have hM:=hI.1
        have hM:=hM.togA (pre:=[_,_]) (Bool.eq_false_iff.2 fun hx=>Bool.noConfusion (hD.symm.trans (hdc 9 _ _ rfl (List.mem_of_getElem? (i:=0) rfl) rfl hx)))
        exact Zg hE Za ld rfl (lk rfl f0) Try.underlying50 Z4 hi69.1 fun a hE=>⟨_,_,rfl,hE,M.qKeep hM0 rfl,hI.2.put hD rfl ZQ rfl⟩
       ·intro a w ux62 D hE hI hD hdc hp
        have d4 : D 4 = true:=hp 1 _ rfl rfl
        have g4:=hI.2 4 d4 _ rfl
        have f4 : ux62 4 = (Value.agg (enc x64).toArray):=g4.2
        have d8 : D 8 = true:=hp 0 _ rfl rfl
        have g8:=hI.2 8 d8 _ rfl
        have f8 : ux62 8 = (ptr b7 (0 + (j18).toNat * 4)):=g8.2
        have hM0:=hI.1
        have hM:=(hI.1.togA (pre:=[_,_]) hD).pull (pre:=[_,_])
        exact Zm (seg:=enc x64) (cs':=enc (s13.2.1.setIfInBounds (j18).toNat x64)) hE hM Za (lk rfl f8) (lk rfl f4) rfl Z4 (Flat.len _) (ZI (v:=s13.2.1) (x:=x64) hi69.1) (Flat.cell _) (Zu (v:=s13.2.1) (x:=x64) hi69.1) fun w a hM hE=>⟨undef,_,rfl,Env.dummy hE (by decide),M.qTog (mk1:=[]) (mk2:=[]) hM rfl,hI.2.put hD rfl ZQ trivial⟩
       ·intro a w ux62 D hE hI hall
        have hM:=hI.1
        have d0 : D 0 = true:=hall 0 (by decide)
        have d1 : D 1 = true:=hall 1 (by decide)
        have d2 : D 2 = true:=hall 2 (by decide)
        have d3 : D 3 = true:=hall 3 (by decide)
        have d4 : D 4 = true:=hall 4 (by decide)
        have d5 : D 5 = true:=hall 5 (by decide)
        have d6 : D 6 = true:=hall 6 (by decide)
        have d7 : D 7 = true:=hall 7 (by decide)
        have d8 : D 8 = true:=hall 8 (by decide)
        have d9 : D 9 = true:=hall 9 (by decide)
        have f0 : ux62 0 = (vI j18):=(hI.2 0 d0 _ rfl).2
        have f1 : ux62 1 = (vI s13.2.2.1):=(hI.2 1 d1 _ rfl).2
        have f2 : ux62 2 = (vI s13.2.2.1):=(hI.2 2 d2 _ rfl).2
        have f3 : ux62 3 = (ptr b7 (0 + (s13.2.2.1).toNat * 4)):=(hI.2 3 d3 _ rfl).2
        have f4 : ux62 4 = (Value.agg (enc x64).toArray):=(hI.2 4 d4 _ rfl).2
        have f5 : ux62 5 = (vI j18):=(hI.2 5 d5 _ rfl).2
        have f6 : ux62 6 = (ptr b7 (0 + (j18).toNat * 4)):=(hI.2 6 d6 _ rfl).2
        have f7 : ux62 7 = (Value.agg (enc x67).toArray):=(hI.2 7 d7 _ rfl).2
        have f8 : ux62 8 = (ptr b7 (0 + (j18).toNat * 4)):=(hI.2 8 d8 _ rfl).2
        have hM:=hM.togB (pre:=[_,_]) d9
        have hE:=hE.sub (e':=[(46,vI s13.2.2.1),(52,(Value.agg (enc x67).toArray)),(0,vI p0),(3,(ptr b1 0)),(5,(ptr b3 0)),(6,(ptr b7 0)),(7,vB s13.2.2.2),(8,vI s13.2.2.1),(9,vI j18),(16,vI s13.2.2.1)]) ⟨lk rfl f1,lk rfl f7,rfl,rfl,rfl,rfl,rfl,rfl,rfl,rfl,trivial⟩
        obtain ⟨x73,hi72,hl60⟩:=bvx hl60
        refine Zg hE Za ld rfl rfl Try.underlying50 Z4 hi72.1 ?_; intro a hE
        have hM:=hM.pull (pre:=[_,_])
        refine Zm (seg:=enc x67) (cs':=enc ((s13.2.1.setIfInBounds (j18).toNat x64).setIfInBounds (s13.2.2.1).toNat x67)) hE hM Za rfl rfl rfl Z4 (Flat.len _) (ZI (v:=(s13.2.1.setIfInBounds (j18).toNat x64)) (x:=x67) hi72.1) (Flat.cell _) (Zu (v:=(s13.2.1.setIfInBounds (j18).toNat x64)) (x:=x67) hi72.1) fun w a hM hE=>Zi ?_
        have ht75:=Option.some.inj hl60
        subst ht75
        refine Zj ?_
        exact ⟨hE.sub ⟨rfl,rfl,rfl,rfl,rfl,rfl,rfl,trivial⟩,hM⟩
      ·skip
       rintro a w ⟨hE,hM⟩
       refine Zc (Zd hE Za ld rfl fun a hE=>Zd hE Za ld rfl fun a hE=>Zd hE Za ld rfl fun a hE=>Zd hE Za ld rfl ?_); intro a hE
       obtain ⟨x77,hi76,hF61⟩:=bvx hF61
       refine Zg hE Za ld rfl rfl Try.underlying50 Z4 hi76.1 ?_; intro a hE
       obtain ⟨x80,hi79,hF61⟩:=bvx hF61
       refine Zg hE Za ld rfl rfl Try.underlying42 ty5 hi79.1 fun a hE=>Zv (v:=(vB x80)) hE Za ld rfl ty5 rfl (At.vec (At.vec (hM.rawAt (pre:=[_,_])) hi76.2) hi79.2) ?_; intro a hE
       obtain ⟨r82,e83,hF61⟩:=bind_some hF61
       refine Zq hE Za ld rfl QU (Yc _ p0 s13.2.2.2 x80 r82 e83) ?_
       rintro v w a ⟨rfl,hK⟩ hE
       have hM:=hM.keep hK
       refine Ze hE Za ld rfl fun a hE=>Zf (Zc (Zd hE Za ld rfl fun a hE=>Zd hE Za ld rfl fun a hE=>Zd hE Za ld rfl ?_)); intro a hE
       obtain ⟨x85,hi84,hF61⟩:=bvx hF61
       refine Zg hE Za ld rfl rfl Try.underlying50 Z4 hi84.1 ?_; intro a hE
       obtain ⟨x88,hi87,hF61⟩:=bvx hF61
       refine Zg hE Za ld rfl rfl Try.underlying42 ty5 hi87.1 fun a hE=>Zv (v:=(vB x88)) hE Za ld rfl ty5 rfl (At.vec (At.vec (hM.rawAt (pre:=[_,_])) hi84.2) hi87.2) ?_; intro a hE
       obtain ⟨r90,e91,hF61⟩:=bind_some hF61
       refine Zq hE Za ld rfl cb154 (Tl _ p0 x88 r90 e91) ?_
       rintro v w a ⟨rfl,hK⟩ hE
       have hM:=hM.keep hK
       refine Ze hE Za ld rfl fun a hE=>Zf (wp_seq (Zc (Zd hE Za ld rfl fun a hE=>Zf ?_)))
       obtain ⟨j92,hl93,hF94⟩:=bind_some hF61
       refine ZP (fun a w=>Env 153 a [(0,vI p0),(3,(ptr b1 0)),(5,(ptr b3 0)),(6,(ptr b7 0)),(7,vB r82),(8,vI s13.2.2.1),(16,vI s13.2.2.1)] ∧ M (Old w0) w0 w [raw b7 (enc j92.2),raw b3 (enc (Vector.replicate 4 (Vector.replicate 4 (0 : UInt8)))),raw b1 (enc j92.1)]) ?_ ?_
       ·skip
        refine wp_block ?_
        refine ZJ (fun (s95 : (Vector (Vector UInt8 4) 4) × (Vector (Vector UInt8 4) 4) × Int) a w=>Env 153 a [(0,vI p0),(3,(ptr b1 0)),(5,(ptr b3 0)),(6,(ptr b7 0)),(7,vB r82),(8,vI s13.2.2.1),(10,vB r90),(16,vI s13.2.2.1),(70,vI s95.2.2)] ∧ M (Old w0) w0 w [raw b7 (enc s95.2.1),raw b3 (enc (Vector.replicate 4 (Vector.replicate 4 (0 : UInt8)))),raw b1 (enc s95.1)]) hl93 ⟨hE.sub ⟨rfl,rfl,rfl,rfl,rfl,rfl,rfl,rfl,rfl,trivial⟩,hM⟩ ?_
        rintro s95 a w ⟨hE,hM⟩ o98 hs96 hx97
        unfold Xh at hs96
        refine Zc (Zk hE Za ld rfl rfl rfl fun a hE=>Zf (wp_seq ?_))
        refine Zr hE rfl ?_ ?_
        ·intro hb99
         have hs96:=Zw hs96 hb99
         refine wp_skip (Zt (wp_seq (wp_block (Zc (Zd hE Za ld rfl fun a hE=>Ze hE Za ld rfl fun a hE=>Zf ?_)))))
         have hM:=hM.pull (pre:=[_,_])
         obtain ⟨x102,hi101,hs96⟩:=bvx hs96
         obtain ⟨x105,hi104,hs96⟩:=bvx hs96
         obtain ⟨r107,e108,hs96⟩:=bind_some hs96
         obtain ⟨x110,hi109,hs96⟩:=bvx hs96
         obtain ⟨x113,hi112,hs96⟩:=bvx hs96
         obtain ⟨r115,e116,hs96⟩:=bind_some hs96
         obtain ⟨x118,hi117,hs96⟩:=bvx hs96
         obtain ⟨x121,hi120,hs96⟩:=bvx hs96
         obtain ⟨x124,hi123,hs96⟩:=bvx hs96
         refine V3 (n:=153) (hd:=[_,_,_,_,_,_,_,_,_,_,_,_,_,_,_,_,_,_,_,_,_,_,_,_]) (tl:=[_,_]) YR rfl rfl [73,74,75,76,77,78,79,80,81,82,83,84,85,86,87,88,89,90,91,92,93,94,175,95] (by decide) (fun D u w=>M (Old w0) w0 w ([raw b7 (enc s95.2.1),raw b3 (enc (Vector.replicate 4 (Vector.replicate 4 (0 : UInt8))))] ++ qL ([mkT 22 (raw b1 (enc s95.1)) (raw b1 (enc (s95.1.setIfInBounds (s13.2.2.1).toNat (x118.setIfInBounds (s95.2.2).toNat r107))))] : Mk) D u) ∧ GOk ([([],fun us v=>v = (vI s13.2.2.1)),([],fun us v=>v = (vI s95.2.2)),([],fun us v=>v = (vI s13.2.2.1)),([],fun us v=>v = (vI s95.2.2)),([],fun us v=>v = (vI p0)),([],fun us v=>v = (vI s13.2.2.1)),([],fun us v=>v = (vI s95.2.2)),([],fun us v=>v = (ptr b1 (0 + (s13.2.2.1).toNat * 4))),([],fun us v=>v = (ptr b1 (0 + (s13.2.2.1).toNat * 4 + (s95.2.2).toNat * 1))),([],fun us v=>v = (vB x105)),([],fun us v=>v = (vB r90)),([],fun us v=>v = (vB r107)),([],fun us v=>v = (vI p0)),([],fun us v=>v = (vI s13.2.2.1)),([],fun us v=>v = (vI s95.2.2)),([],fun us v=>v = (ptr b7 (0 + (s13.2.2.1).toNat * 4))),([],fun us v=>v = (ptr b7 (0 + (s13.2.2.1).toNat * 4 + (s95.2.2).toNat * 1))),([],fun us v=>v = (vB x113)),([],fun us v=>v = (vB r90)),([],fun us v=>v = (vB r115)),([],fun us v=>v = (ptr b1 (0 + (s13.2.2.1).toNat * 4))),([],fun us v=>v = (ptr b1 (0 + (s13.2.2.1).toNat * 4 + (s95.2.2).toNat * 1))),([],fun us v=>True),([],fun us v=>v = (ptr b7 (0 + (s13.2.2.1).toNat * 4)))] : Gs) D u) hE (fun u=>⟨M.qT (M.q0 hM.drew u),JH⟩) (ZK (Zb ?_ (Zb ?_ (Zb ?_ (Zb ?_ (Zb ?_ (Zb ?_ (Zb ?_ (Zb ?_ (Zb ?_ (Zb ?_ (Zb ?_ (Zb ?_ (Zb ?_ (Zb ?_ (Zb ?_ (Zb ?_ (Zb ?_ (Zb ?_ (Zb ?_ (Zb ?_ (Zb ?_ (Zb ?_ (Zb ?_ (Zb ?_ ZE))))))))))))))))))))))))) ?_
         ·intro a w ux100 D hE hI hD hdc hp
          have hM0:=hI.1
          have hM:=hI.1
          have hM:=hM.togA (pre:=[_,_]) (Bool.eq_false_iff.2 fun hx=>Bool.noConfusion (hD.symm.trans (hdc 22 _ _ rfl (List.mem_of_getElem? (i:=3) rfl) rfl hx)))
          exact Zd hE Za ld rfl fun a hE=>⟨_,_,rfl,hE,M.qKeep hM0 rfl,hI.2.put hD rfl ZQ rfl⟩
         ·intro a w ux100 D hE hI hD hdc hp
          have hM0:=hI.1
          have hM:=hI.1
          have hM:=hM.togA (pre:=[_,_]) (Bool.eq_false_iff.2 fun hx=>Bool.noConfusion (hD.symm.trans (hdc 22 _ _ rfl (List.mem_of_getElem? (i:=4) rfl) rfl hx)))
          exact Zd hE Za ld rfl fun a hE=>⟨_,_,rfl,hE,M.qKeep hM0 rfl,hI.2.put hD rfl ZQ rfl⟩
         ·intro a w ux100 D hE hI hD hdc hp
          have hM0:=hI.1
          exact Zd hE Za ld rfl fun a hE=>⟨_,_,rfl,hE,M.qKeep hM0 rfl,hI.2.put hD rfl ZQ rfl⟩
         ·intro a w ux100 D hE hI hD hdc hp
          have hM0:=hI.1
          exact Zd hE Za ld rfl fun a hE=>⟨_,_,rfl,hE,M.qKeep hM0 rfl,hI.2.put hD rfl ZQ rfl⟩
         ·intro a w ux100 D hE hI hD hdc hp
          have hM0:=hI.1
          have hM:=hI.1
          have hM:=hM.togA (pre:=[_,_]) (Bool.eq_false_iff.2 fun hx=>Bool.noConfusion (hD.symm.trans (hdc 22 _ _ rfl (List.mem_of_getElem? (i:=7) rfl) rfl hx)))
          exact Zd hE Za ld rfl fun a hE=>⟨_,_,rfl,hE,M.qKeep hM0 rfl,hI.2.put hD rfl ZQ rfl⟩
         ·intro a w ux100 D hE hI hD hdc hp
          have hM0:=hI.1
          have hM:=hI.1
          have hM:=hM.togA (pre:=[_,_]) (Bool.eq_false_iff.2 fun hx=>Bool.noConfusion (hD.symm.trans (hdc 22 _ _ rfl (List.mem_of_getElem? (i:=8) rfl) rfl hx)))
          exact Zd hE Za ld rfl fun a hE=>⟨_,_,rfl,hE,M.qKeep hM0 rfl,hI.2.put hD rfl ZQ rfl⟩
         ·intro a w ux100 D hE hI hD hdc hp
          have hM0:=hI.1
          have hM:=hI.1
          have hM:=hM.togA (pre:=[_,_]) (Bool.eq_false_iff.2 fun hx=>Bool.noConfusion (hD.symm.trans (hdc 22 _ _ rfl (List.mem_of_getElem? (i:=9) rfl) rfl hx)))
          exact Zd hE Za ld rfl fun a hE=>⟨_,_,rfl,hE,M.qKeep hM0 rfl,hI.2.put hD rfl ZQ rfl⟩
         ·intro a w ux100 D hE hI hD hdc hp
          have d5 : D 5 = true:=hp 0 _ rfl rfl
          have g5:=hI.2 5 d5 _ rfl
          have f5 : ux100 5 = (vI s13.2.2.1):=g5.2
          have hM0:=hI.1
          have hM:=hI.1
          have hM:=hM.togA (pre:=[_,_]) (Bool.eq_false_iff.2 fun hx=>Bool.noConfusion (hD.symm.trans (hdc 22 _ _ rfl (List.mem_of_getElem? (i:=10) rfl) rfl hx)))
          exact Zg hE Za ld rfl (lk rfl f5) Try.underlying50 Z4 hi101.1 fun a hE=>⟨_,_,rfl,hE,M.qKeep hM0 rfl,hI.2.put hD rfl ZQ rfl⟩
         ·intro a w ux100 D hE hI hD hdc hp
          have d6 : D 6 = true:=hp 1 _ rfl rfl
          have g6:=hI.2 6 d6 _ rfl
          have f6 : ux100 6 = (vI s95.2.2):=g6.2
          have d7 : D 7 = true:=hp 0 _ rfl rfl
          have g7:=hI.2 7 d7 _ rfl
          have f7 : ux100 7 = (ptr b1 (0 + (s13.2.2.1).toNat * 4)):=g7.2
          have hM0:=hI.1
          have hM:=hI.1
          have hM:=hM.togA (pre:=[_,_]) (Bool.eq_false_iff.2 fun hx=>Bool.noConfusion (hD.symm.trans (hdc 22 _ _ rfl (List.mem_of_getElem? (i:=11) rfl) rfl hx)))
          exact Zg hE Za ld (lk rfl f7) (lk rfl f6) Try.underlying42 ty5 hi104.1 fun a hE=>⟨_,_,rfl,hE,M.qKeep hM0 rfl,hI.2.put hD rfl ZQ rfl⟩
         ·intro a w ux100 D hE hI hD hdc hp
          have d8 : D 8 = true:=hp 0 _ rfl rfl
          have g8:=hI.2 8 d8 _ rfl
          have f8 : ux100 8 = (ptr b1 (0 + (s13.2.2.1).toNat * 4 + (s95.2.2).toNat * 1)):=g8.2
          have hM0:=hI.1
          have hM:=hI.1
          have hM:=hM.togA (pre:=[_,_]) (Bool.eq_false_iff.2 fun hx=>Bool.noConfusion (hD.symm.trans (hdc 22 _ _ rfl (List.mem_of_getElem? (i:=12) rfl) rfl hx)))
          exact Zv (v:=(vB x105)) hE Za ld (lk rfl f8) ty5 rfl (At.vec (At.vec (hM.rawAt (pre:=[_,_])) hi101.2) hi104.2) fun a hE=>⟨_,_,rfl,hE,M.qKeep hM0 rfl,hI.2.put hD rfl ZQ rfl⟩
         ·intro a w ux100 D hE hI hD hdc hp
          have hM0:=hI.1
          have hM:=hI.1
          have hM:=hM.togA (pre:=[_,_]) (Bool.eq_false_iff.2 fun hx=>Bool.noConfusion (hD.symm.trans (hdc 22 _ _ rfl (List.mem_of_getElem? (i:=13) rfl) rfl hx)))
          exact Zd hE Za ld rfl fun a hE=>⟨_,_,rfl,hE,M.qKeep hM0 rfl,hI.2.put hD rfl ZQ rfl⟩
         ·intro a w ux100 D hE hI hD hdc hp
          have d4 : D 4 = true:=hp 0 _ rfl rfl
          have g4:=hI.2 4 d4 _ rfl
          have f4 : ux100 4 = (vI p0):=g4.2
          have d9 : D 9 = true:=hp 1 _ rfl rfl
          have g9:=hI.2 9 d9 _ rfl
          have f9 : ux100 9 = (vB x105):=g9.2
          have d10 : D 10 = true:=hp 2 _ rfl rfl
          have g10:=hI.2 10 d10 _ rfl
          have f10 : ux100 10 = (vB r90):=g10.2
          have hM0:=hI.1
          have hM:=hI.1
          have hM:=hM.togA (pre:=[_,_]) (Bool.eq_false_iff.2 fun hx=>Bool.noConfusion (hD.symm.trans (hdc 22 _ _ rfl (List.mem_of_getElem? (i:=1) rfl) rfl hx)))
          refine Zq hE Za ld (ZV (ZT (lk rfl f4) (ZT (lk rfl f9) (ZT (lk rfl f10) Xw)))) QU (Yc _ p0 x105 r90 r107 e108) ?_
          rintro v w a ⟨rfl,hK⟩ hE
          exact ⟨_,_,rfl,hE,M.qKeep (hM0.keep hK) rfl,hI.2.put hD rfl ZQ rfl⟩
         ·intro a w ux100 D hE hI hD hdc hp
          have hM0:=hI.1
          exact Zd hE Za ld rfl fun a hE=>⟨_,_,rfl,hE,M.qKeep hM0 rfl,hI.2.put hD rfl ZQ rfl⟩
         ·intro a w ux100 D hE hI hD hdc hp
          have hM0:=hI.1
          exact Zd hE Za ld rfl fun a hE=>⟨_,_,rfl,hE,M.qKeep hM0 rfl,hI.2.put hD rfl ZQ rfl⟩
         ·intro a w ux100 D hE hI hD hdc hp
          have hM0:=hI.1
          exact Zd hE Za ld rfl fun a hE=>⟨_,_,rfl,hE,M.qKeep hM0 rfl,hI.2.put hD rfl ZQ rfl⟩
         ·intro a w ux100 D hE hI hD hdc hp
          have d13 : D 13 = true:=hp 0 _ rfl rfl
          have g13:=hI.2 13 d13 _ rfl
          have f13 : ux100 13 = (vI s13.2.2.1):=g13.2
          have hM0:=hI.1
          exact Zg hE Za ld rfl (lk rfl f13) Try.underlying50 Z4 hi109.1 fun a hE=>⟨_,_,rfl,hE,M.qKeep hM0 rfl,hI.2.put hD rfl ZQ rfl⟩
         ·intro a w ux100 D hE hI hD hdc hp
          have d14 : D 14 = true:=hp 1 _ rfl rfl
          have g14:=hI.2 14 d14 _ rfl
          have f14 : ux100 14 = (vI s95.2.2):=g14.2
          have d15 : D 15 = true:=hp 0 _ rfl rfl
          have g15:=hI.2 15 d15 _ rfl
          have f15 : ux100 15 = (ptr b7 (0 + (s13.2.2.1).toNat * 4)):=g15.2
          have hM0:=hI.1
          exact Zg hE Za ld (lk rfl f15) (lk rfl f14) Try.underlying42 ty5 hi112.1 fun a hE=>⟨_,_,rfl,hE,M.qKeep hM0 rfl,hI.2.put hD rfl ZQ rfl⟩
         ·intro a w ux100 D hE hI hD hdc hp
          have d16 : D 16 = true:=hp 0 _ rfl rfl
          have g16:=hI.2 16 d16 _ rfl
          have f16 : ux100 16 = (ptr b7 (0 + (s13.2.2.1).toNat * 4 + (s95.2.2).toNat * 1)):=g16.2
          have hM0:=hI.1
          have hM:=hI.1
          exact Zv (v:=(vB x113)) hE Za ld (lk rfl f16) ty5 rfl (At.vec (At.vec (hM.rawAt (pre:=[])) hi109.2) hi112.2) fun a hE=>⟨_,_,rfl,hE,M.qKeep hM0 rfl,hI.2.put hD rfl ZQ rfl⟩
         ·intro a w ux100 D hE hI hD hdc hp
          have hM0:=hI.1
          exact Zd hE Za ld rfl fun a hE=>⟨_,_,rfl,hE,M.qKeep hM0 rfl,hI.2.put hD rfl ZQ rfl⟩
         ·intro a w ux100 D hE hI hD hdc hp
          have d12 : D 12 = true:=hp 0 _ rfl rfl
          have g12:=hI.2 12 d12 _ rfl
          have f12 : ux100 12 = (vI p0):=g12.2
          have d17 : D 17 = true:=hp 1 _ rfl rfl
          have g17:=hI.2 17 d17 _ rfl
          have f17 : ux100 17 = (vB x113):=g17.2
          have d18 : D 18 = true:=hp 2 _ rfl rfl
          have g18:=hI.2 18 d18 _ rfl
          have f18 : ux100 18 = (vB r90):=g18.2
          have hM0:=hI.1
          have hM:=hI.1
          have hM:=hM.togA (pre:=[_,_]) (Bool.eq_false_iff.2 fun hx=>Bool.noConfusion (hD.symm.trans (hdc 22 _ _ rfl (List.mem_of_getElem? (i:=2) rfl) rfl hx)))
          refine Zq hE Za ld (ZV (ZT (lk rfl f12) (ZT (lk rfl f17) (ZT (lk rfl f18) Xw)))) QU (Yc _ p0 x113 r90 r115 e116) ?_
          rintro v w a ⟨rfl,hK⟩ hE
          exact ⟨_,_,rfl,hE,M.qKeep (hM0.keep hK) rfl,hI.2.put hD rfl ZQ rfl⟩
         ·intro a w ux100 D hE hI hD hdc hp
          have d0 : D 0 = true:=hp 0 _ rfl rfl
          have g0:=hI.2 0 d0 _ rfl
          have f0 : ux100 0 = (vI s13.2.2.1):=g0.2
          have hM0:=hI.1
          exact Zg hE Za ld rfl (lk rfl f0) Try.underlying50 Z4 hi117.1 fun a hE=>⟨_,_,rfl,hE,M.qKeep hM0 rfl,hI.2.put hD rfl ZQ rfl⟩
         ·intro a w ux100 D hE hI hD hdc hp
          have d1 : D 1 = true:=hp 1 _ rfl rfl
          have g1:=hI.2 1 d1 _ rfl
          have f1 : ux100 1 = (vI s95.2.2):=g1.2
          have d20 : D 20 = true:=hp 0 _ rfl rfl
          have g20:=hI.2 20 d20 _ rfl
          have f20 : ux100 20 = (ptr b1 (0 + (s13.2.2.1).toNat * 4)):=g20.2
          have hM0:=hI.1
          have hM:=hI.1
          have hM:=hM.togA (pre:=[_,_]) (Bool.eq_false_iff.2 fun hx=>Bool.noConfusion (hD.symm.trans (hdc 22 _ _ rfl (List.mem_of_getElem? (i:=0) rfl) rfl hx)))
          exact Zg hE Za ld (lk rfl f20) (lk rfl f1) Try.underlying42 ty5 hi120.1 fun a hE=>⟨_,_,rfl,hE,M.qKeep hM0 rfl,hI.2.put hD rfl ZQ rfl⟩
         ·intro a w ux100 D hE hI hD hdc hp
          have d11 : D 11 = true:=hp 1 _ rfl rfl
          have g11:=hI.2 11 d11 _ rfl
          have f11 : ux100 11 = (vB r107):=g11.2
          have d21 : D 21 = true:=hp 0 _ rfl rfl
          have g21:=hI.2 21 d21 _ rfl
          have f21 : ux100 21 = (ptr b1 (0 + (s13.2.2.1).toNat * 4 + (s95.2.2).toNat * 1)):=g21.2
          have hM0:=hI.1
          have hM:=(hI.1.togA (pre:=[_,_]) hD).pull (pre:=[_,_])
          exact Zm (seg:=[vB r107]) (cs':=enc (s95.1.setIfInBounds (s13.2.2.1).toNat (x118.setIfInBounds (s95.2.2).toNat r107))) hE hM Za (lk rfl f21) (lk rfl f11) rfl ty5 rfl (Wk (o':=0 + (s95.2.2).toNat * 1) hi117 (ZI (v:=x118) (x:=r107) hi120.1) (by first | omega | (simp only [Flat.n] <;> omega))) (Flat.cell (r107 : UInt8)) (YM (o':=0 + (s95.2.2).toNat * 1) hi117 (ZI (v:=x118) (x:=r107) hi120.1) (Zu (v:=x118) (x:=r107) hi120.1) (by first | omega | (simp only [Flat.n] <;> omega))) fun w a hM hE=>⟨undef,_,rfl,Env.dummy hE (by decide),M.qTog (mk1:=[]) (mk2:=[]) hM rfl,hI.2.put hD rfl ZQ trivial⟩
         ·intro a w ux100 D hE hI hD hdc hp
          have d2 : D 2 = true:=hp 0 _ rfl rfl
          have g2:=hI.2 2 d2 _ rfl
          have f2 : ux100 2 = (vI s13.2.2.1):=g2.2
          have hM0:=hI.1
          exact Zg hE Za ld rfl (lk rfl f2) Try.underlying50 Z4 hi123.1 fun a hE=>⟨_,_,rfl,hE,M.qKeep hM0 rfl,hI.2.put hD rfl ZQ rfl⟩
         ·intro a w ux100 D hE hI hall
          have hM:=hI.1
          have d0 : D 0 = true:=hall 0 (by decide)
          have d1 : D 1 = true:=hall 1 (by decide)
          have d2 : D 2 = true:=hall 2 (by decide)
          have d3 : D 3 = true:=hall 3 (by decide)
          have d4 : D 4 = true:=hall 4 (by decide)
          have d5 : D 5 = true:=hall 5 (by decide)
          have d6 : D 6 = true:=hall 6 (by decide)
          have d7 : D 7 = true:=hall 7 (by decide)
          have d8 : D 8 = true:=hall 8 (by decide)
          have d9 : D 9 = true:=hall 9 (by decide)
          have d10 : D 10 = true:=hall 10 (by decide)
          have d11 : D 11 = true:=hall 11 (by decide)
          have d12 : D 12 = true:=hall 12 (by decide)
          have d13 : D 13 = true:=hall 13 (by decide)
          have d14 : D 14 = true:=hall 14 (by decide)
          have d15 : D 15 = true:=hall 15 (by decide)
          have d16 : D 16 = true:=hall 16 (by decide)
          have d17 : D 17 = true:=hall 17 (by decide)
          have d18 : D 18 = true:=hall 18 (by decide)
          have d19 : D 19 = true:=hall 19 (by decide)
          have d20 : D 20 = true:=hall 20 (by decide)
          have d21 : D 21 = true:=hall 21 (by decide)
          have d22 : D 22 = true:=hall 22 (by decide)
          have d23 : D 23 = true:=hall 23 (by decide)
          have f0 : ux100 0 = (vI s13.2.2.1):=(hI.2 0 d0 _ rfl).2
          have f1 : ux100 1 = (vI s95.2.2):=(hI.2 1 d1 _ rfl).2
          have f2 : ux100 2 = (vI s13.2.2.1):=(hI.2 2 d2 _ rfl).2
          have f3 : ux100 3 = (vI s95.2.2):=(hI.2 3 d3 _ rfl).2
          have f4 : ux100 4 = (vI p0):=(hI.2 4 d4 _ rfl).2
          have f5 : ux100 5 = (vI s13.2.2.1):=(hI.2 5 d5 _ rfl).2
          have f6 : ux100 6 = (vI s95.2.2):=(hI.2 6 d6 _ rfl).2
          have f7 : ux100 7 = (ptr b1 (0 + (s13.2.2.1).toNat * 4)):=(hI.2 7 d7 _ rfl).2
          have f8 : ux100 8 = (ptr b1 (0 + (s13.2.2.1).toNat * 4 + (s95.2.2).toNat * 1)):=(hI.2 8 d8 _ rfl).2
          have f9 : ux100 9 = (vB x105):=(hI.2 9 d9 _ rfl).2
          have f10 : ux100 10 = (vB r90):=(hI.2 10 d10 _ rfl).2
          have f11 : ux100 11 = (vB r107):=(hI.2 11 d11 _ rfl).2
          have f12 : ux100 12 = (vI p0):=(hI.2 12 d12 _ rfl).2
          have f13 : ux100 13 = (vI s13.2.2.1):=(hI.2 13 d13 _ rfl).2
          have f14 : ux100 14 = (vI s95.2.2):=(hI.2 14 d14 _ rfl).2
          have f15 : ux100 15 = (ptr b7 (0 + (s13.2.2.1).toNat * 4)):=(hI.2 15 d15 _ rfl).2
          have f16 : ux100 16 = (ptr b7 (0 + (s13.2.2.1).toNat * 4 + (s95.2.2).toNat * 1)):=(hI.2 16 d16 _ rfl).2
          have f17 : ux100 17 = (vB x113):=(hI.2 17 d17 _ rfl).2
          have f18 : ux100 18 = (vB r90):=(hI.2 18 d18 _ rfl).2
          have f19 : ux100 19 = (vB r115):=(hI.2 19 d19 _ rfl).2
          have f20 : ux100 20 = (ptr b1 (0 + (s13.2.2.1).toNat * 4)):=(hI.2 20 d20 _ rfl).2
          have f21 : ux100 21 = (ptr b1 (0 + (s13.2.2.1).toNat * 4 + (s95.2.2).toNat * 1)):=(hI.2 21 d21 _ rfl).2
          have f23 : ux100 23 = (ptr b7 (0 + (s13.2.2.1).toNat * 4)):=(hI.2 23 d23 _ rfl).2
          have hM:=hM.togB (pre:=[_,_]) d22
          have hE:=hE.sub (e':=[(76,vI s95.2.2),(92,vB r115),(95,(ptr b7 (0 + (s13.2.2.1).toNat * 4))),(0,vI p0),(3,(ptr b1 0)),(5,(ptr b3 0)),(6,(ptr b7 0)),(7,vB r82),(8,vI s13.2.2.1),(10,vB r90),(11,vI s95.2.2),(16,vI s13.2.2.1),(70,vI s95.2.2),(71,(vT (decide (s95.2.2 < 4)))),(72,vI s95.2.2)]) ⟨lk rfl f3,lk rfl f19,lk rfl f23,rfl,rfl,rfl,rfl,rfl,rfl,rfl,rfl,rfl,rfl,rfl,rfl,trivial⟩
          obtain ⟨x127,hi126,hs96⟩:=bvx hs96
          refine Zg hE Za ld rfl rfl Try.underlying42 ty5 hi126.1 fun a hE=>Zm (seg:=[vB r115]) (cs':=enc (s95.2.1.setIfInBounds (s13.2.2.1).toNat (x124.setIfInBounds (s95.2.2).toNat r115))) hE hM Za rfl rfl rfl ty5 rfl (Wk (o':=0 + (s95.2.2).toNat * 1) hi123 (ZI (v:=x124) (x:=r115) hi126.1) (by first | omega | (simp only [Flat.n] <;> omega))) (Flat.cell (r115 : UInt8)) (YM (o':=0 + (s95.2.2).toNat * 1) hi123 (ZI (v:=x124) (x:=r115) hi126.1) (Zu (v:=x124) (x:=r115) hi126.1) (by first | omega | (simp only [Flat.n] <;> omega))) fun w a hM hE=>Zi (Yi (Zt (wp_region_lit (Zk hE Za ld rfl rfl rfl fun a hE=>Zd hE Za ld rfl fun a hE=>Zi (Zj ?_)))))
          exact ⟨_,(ois hs96),hE.sub ⟨rfl,rfl,rfl,rfl,rfl,rfl,rfl,rfl,rfl,trivial⟩,hM⟩
        ·intro hb99
         have hs96:=Zx hs96 hb99
         refine wp_exit (Zp (Zp (Yj ?_)))
         have ht129:=hx97 _ (ois hs96)
         subst ht129
         refine Zj ?_
         exact ⟨hE.sub ⟨rfl,rfl,rfl,rfl,rfl,rfl,rfl,trivial⟩,hM⟩
       ·skip
        rintro a w ⟨hE,hM⟩
        refine Zt (Zc (Zd hE Za ld rfl fun a hE=>Zf ?_))
        obtain ⟨j130,hl131,hF132⟩:=bind_some hF94
        refine ZP (fun a w=>Env 153 a [(0,vI p0),(3,(ptr b1 0)),(5,(ptr b3 0)),(6,(ptr b7 0)),(7,vB r82),(16,vI s13.2.2.1)] ∧ M (Old w0) w0 w [raw b7 (enc j130.2),raw b3 (enc (Vector.replicate 4 (Vector.replicate 4 (0 : UInt8)))),raw b1 (enc j130.1)]) ?_ ?_
        ·skip
         refine wp_block ?_
         refine ZJ (fun (s133 : (Vector (Vector UInt8 4) 4) × (Vector (Vector UInt8 4) 4) × Int) a w=>Env 153 a [(0,vI p0),(3,(ptr b1 0)),(5,(ptr b3 0)),(6,(ptr b7 0)),(7,vB r82),(8,vI s13.2.2.1),(16,vI s13.2.2.1),(98,vI s133.2.2)] ∧ M (Old w0) w0 w [raw b7 (enc s133.2.1),raw b3 (enc (Vector.replicate 4 (Vector.replicate 4 (0 : UInt8)))),raw b1 (enc s133.1)]) hl131 ⟨hE.sub ⟨rfl,rfl,rfl,rfl,rfl,rfl,rfl,rfl,trivial⟩,hM⟩ ?_
         rintro s133 a w ⟨hE,hM⟩ o136 hs134 hx135
         unfold Xf at hs134
         refine Zc (Zk hE Za ld rfl rfl rfl fun a hE=>Zf (wp_seq ?_))
         refine Zr hE rfl ?_ ?_
         ·intro hb137
          have hs134:=Zw hs134 hb137
          refine wp_skip (Zt ?_)
          obtain ⟨j138,hl139,hF140⟩:=bind_some hs134
          refine ZL (fun a w=>Env 153 a [(0,vI p0),(3,(ptr b1 0)),(5,(ptr b3 0)),(6,(ptr b7 0)),(7,vB r82),(8,vI s13.2.2.1),(16,vI s13.2.2.1),(98,vI s133.2.2)] ∧ M (Old w0) w0 w [raw b7 (enc j138.2),raw b3 (enc (Vector.replicate 4 (Vector.replicate 4 (0 : UInt8)))),raw b1 (enc j138.1)]) ?_ ?_
          ·skip
           refine wp_block (Zc (Zd hE Za ld rfl fun a hE=>Ze hE Za ld rfl fun a hE=>Zf (Zc (Zd hE Za ld rfl fun a hE=>Zd hE Za ld rfl ?_)))); intro a hE
           obtain ⟨x142,hi141,hl139⟩:=bvx hl139
           refine Zg hE Za ld rfl rfl Try.underlying50 Z4 hi141.1 ?_; intro a hE
           obtain ⟨x145,hi144,hl139⟩:=bvx hl139
           refine Zg hE Za ld rfl rfl Try.underlying42 ty5 hi144.1 fun a hE=>Zv (v:=(vB x145)) hE Za ld rfl ty5 rfl (At.vec (At.vec (hM.rawAt (pre:=[_,_])) hi141.2) hi144.2) fun a hE=>Ze hE Za ld rfl fun a hE=>Zf ?_
           obtain ⟨j147,hl148,hF149⟩:=bind_some hl139
           refine ZL (fun a w=>Env 153 a [(0,vI p0),(3,(ptr b1 0)),(5,(ptr b3 0)),(6,(ptr b7 0)),(7,vB r82),(8,vI s13.2.2.1),(12,vI s133.2.2),(13,vB x145),(16,vI s13.2.2.1),(98,vI s133.2.2),(112,vT j147)] ∧ M (Old w0) w0 w [raw b7 (enc s133.2.1),raw b3 (enc (Vector.replicate 4 (Vector.replicate 4 (0 : UInt8)))),raw b1 (enc s133.1)]) ?_ ?_
           ·skip
            refine wp_region_lit (Zd hE Za ld rfl fun a hE=>Zd hE Za ld rfl fun a hE=>Zk hE Za ld rfl rfl rfl fun a hE=>Zd hE Za ld rfl ?_); intro a hE
            refine Va (s133.2.2 != s13.2.2.1) (fun hb150=>?_) (fun hb150=>?_)
            ·have hl148:=Zw hl148 hb150
             refine Zd hE (Zz hE rfl (lkb rfl hb150)) (by decide) rfl fun a hE=>Zk hE (Zz hE rfl (lkb rfl hb150)) (by decide) rfl rfl (Hp x145 0) fun a hE=>Xx hE Za ld (lkb rfl hb150) rfl fun a hE=>Zi ?_
             have ht151:=Option.some.inj hl148
             subst ht151
             refine Zj ?_
             exact ⟨hE.sub ⟨rfl,rfl,rfl,rfl,rfl,rfl,rfl,rfl,rfl,rfl,rfl,trivial⟩,hM⟩
            ·have hl148:=Zx hl148 hb150
             refine Zy hE rfl (lkb rfl hb150) rfl (by decide) fun a hE=>Zy hE rfl (lkb rfl hb150) rfl (by decide) fun a hE=>YO hE Za ld (lkb rfl hb150) rfl fun a hE=>Zi ?_
             have ht152:=Option.some.inj hl148
             subst ht152
             refine Zj ?_
             exact ⟨hE.sub ⟨rfl,rfl,rfl,rfl,rfl,rfl,rfl,rfl,rfl,rfl,rfl,trivial⟩,hM⟩
           ·skip
            rintro a w ⟨hE,hM⟩
            obtain ⟨j153,hl154,hF155⟩:=bind_some hF149
            refine ZP (fun a w=>Env 153 a [(0,vI p0),(3,(ptr b1 0)),(5,(ptr b3 0)),(6,(ptr b7 0)),(7,vB r82),(8,vI s13.2.2.1),(16,vI s13.2.2.1),(98,vI s133.2.2)] ∧ M (Old w0) w0 w [raw b7 (enc j153.2),raw b3 (enc (Vector.replicate 4 (Vector.replicate 4 (0 : UInt8)))),raw b1 (enc j153.1)]) ?_ ?_
            ·skip
             refine Zr hE rfl ?_ ?_
             ·intro hb156
              have hl154:=Zw hl154 hb156
              refine Zc (Zd hE Za ld rfl fun a hE=>Zf ?_)
              obtain ⟨j157,hl158,hF159⟩:=bind_some hl154
              refine ZP (fun a w=>Env 153 a [(0,vI p0),(3,(ptr b1 0)),(5,(ptr b3 0)),(6,(ptr b7 0)),(7,vB r82),(8,vI s13.2.2.1),(16,vI s13.2.2.1),(98,vI s133.2.2)] ∧ M (Old w0) w0 w [raw b7 (enc j157.2),raw b3 (enc (Vector.replicate 4 (Vector.replicate 4 (0 : UInt8)))),raw b1 (enc j157.1)]) ?_ ?_
              ·skip
               refine wp_block ?_
               refine ZJ (fun (s160 : (Vector (Vector UInt8 4) 4) × (Vector (Vector UInt8 4) 4) × Int) a w=>Env 153 a [(0,vI p0),(3,(ptr b1 0)),(5,(ptr b3 0)),(6,(ptr b7 0)),(7,vB r82),(8,vI s13.2.2.1),(12,vI s133.2.2),(13,vB x145),(16,vI s13.2.2.1),(98,vI s133.2.2),(113,vI s160.2.2)] ∧ M (Old w0) w0 w [raw b7 (enc s160.2.1),raw b3 (enc (Vector.replicate 4 (Vector.replicate 4 (0 : UInt8)))),raw b1 (enc s160.1)]) hl158 ⟨hE.sub ⟨rfl,rfl,rfl,rfl,rfl,rfl,rfl,rfl,rfl,rfl,rfl,trivial⟩,hM⟩ ?_
               rintro s160 a w ⟨hE,hM⟩ o163 hs161 hx162
               unfold Xe at hs161
               refine Zc (Zk hE Za ld rfl rfl rfl fun a hE=>Zf (wp_seq ?_))
               refine Zr hE rfl ?_ ?_
               ·intro hb164
                have hs161:=Zw hs161 hb164
                refine wp_skip (Zt (wp_seq (wp_block (Zc (Zd hE Za ld rfl fun a hE=>Ze hE Za ld rfl fun a hE=>Zf ?_)))))
                obtain ⟨j165,hl166,hF167⟩:=bind_some hs161
                refine ZL (fun a w=>Env 153 a [(0,vI p0),(3,(ptr b1 0)),(5,(ptr b3 0)),(6,(ptr b7 0)),(7,vB r82),(8,vI s13.2.2.1),(12,vI s133.2.2),(13,vB x145),(14,vI s160.2.2),(16,vI s13.2.2.1),(98,vI s133.2.2),(113,vI s160.2.2)] ∧ M (Old w0) w0 w [raw b7 (enc s160.2.1),raw b3 (enc (Vector.replicate 4 (Vector.replicate 4 (0 : UInt8)))),raw b1 (enc j165)]) ?_ ?_
                ·skip
                 obtain ⟨x170,hi169,hl166⟩:=bvx hl166
                 obtain ⟨x173,hi172,hl166⟩:=bvx hl166
                 obtain ⟨x176,hi175,hl166⟩:=bvx hl166
                 obtain ⟨x179,hi178,hl166⟩:=bvx hl166
                 obtain ⟨r181,e182,hl166⟩:=bind_some hl166
                 obtain ⟨x184,hi183,hl166⟩:=bvx hl166
                 obtain ⟨x187,hi186,hl166⟩:=bvx hl166
                 refine Yd (n:=153) (hd:=[_,_,_,_,_,_,_,_,_,_,_,_,_,_,_,_]) (tl:=[_]) YR rfl rfl [116,117,118,119,120,121,122,123,124,125,126,127,128,129,130,131] (by decide) (fun w=>M (Old w0) w0 w [raw b7 (enc s160.2.1),raw b3 (enc (Vector.replicate 4 (Vector.replicate 4 (0 : UInt8)))),raw b1 (enc s160.1)]) (fun j=>([fun v _=>v = (vI s133.2.2),fun v _=>v = (vI s160.2.2),fun v _=>v = (ptr b1 (0 + (s133.2.2).toNat * 4)),fun v _=>v = (ptr b1 (0 + (s133.2.2).toNat * 4 + (s160.2.2).toNat * 1)),fun v _=>v = (vB x173),fun v _=>v = (vI p0),fun v _=>v = (vB x145),fun v _=>v = (vI s13.2.2.1),fun v _=>v = (vI s160.2.2),fun v _=>v = (ptr b1 (0 + (s13.2.2.1).toNat * 4)),fun v _=>v = (ptr b1 (0 + (s13.2.2.1).toNat * 4 + (s160.2.2).toNat * 1)),fun v _=>v = (vB x179),fun v _=>v = (vB r181),fun v _=>v = (vB (x173 ^^^ r181)),fun v _=>v = (ptr b1 (0 + (s133.2.2).toNat * 4)),fun v _=>v = (ptr b1 (0 + (s133.2.2).toNat * 4 + (s160.2.2).toNat * 1))] : List (Value → World → Prop)).getD j (fun _ _=>True)) (fun _ _ h hk=>h.keep hk) (gup (Zh (Zh (Zh (Zh (Zh (Zh (Zh (Zh (Zh (Zh (Zh (Zh (Zh (Zh (Zh (Zh WV))))))))))))))))) hE hM.drew (ZK (Zb ?_ (Zb ?_ (Zb ?_ (Zb ?_ (Zb ?_ (Zb ?_ (Zb ?_ (Zb ?_ (Zb ?_ (Zb ?_ (Zb ?_ (Zb ?_ (Zb ?_ (Zb ?_ (Zb ?_ (Zb ?_ ZE))))))))))))))))) ?_
                 ·exact fun a w ux168 hE hM hp=>Zd hE Za ld rfl fun a hE=>⟨Kept.refl _ _,_,_,rfl,hE,rfl⟩
                 ·exact fun a w ux168 hE hM hp=>Zd hE Za ld rfl fun a hE=>⟨Kept.refl _ _,_,_,rfl,hE,rfl⟩
                 ·intro a w ux168 hE hM hp
                  have f0 : ux168 0 = (vI s133.2.2):=hp 0 _ rfl rfl
                  exact Zg hE Za ld rfl (lk rfl f0) Try.underlying50 Z4 hi169.1 fun a hE=>⟨Kept.refl _ _,_,_,rfl,hE,rfl⟩
                 ·intro a w ux168 hE hM hp
                  have f1 : ux168 1 = (vI s160.2.2):=hp 1 _ rfl rfl
                  have f2 : ux168 2 = (ptr b1 (0 + (s133.2.2).toNat * 4)):=hp 0 _ rfl rfl
                  exact Zg hE Za ld (lk rfl f2) (lk rfl f1) Try.underlying42 ty5 hi172.1 fun a hE=>⟨Kept.refl _ _,_,_,rfl,hE,rfl⟩
                 ·intro a w ux168 hE hM hp
                  have f3 : ux168 3 = (ptr b1 (0 + (s133.2.2).toNat * 4 + (s160.2.2).toNat * 1)):=hp 0 _ rfl rfl
                  exact Zv (v:=(vB x173)) hE Za ld (lk rfl f3) ty5 rfl (At.vec (At.vec (hM.rawAt (pre:=[_,_])) hi169.2) hi172.2) fun a hE=>⟨Kept.refl _ _,_,_,rfl,hE,rfl⟩
                 ·exact fun a w ux168 hE hM hp=>Zd hE Za ld rfl fun a hE=>⟨Kept.refl _ _,_,_,rfl,hE,rfl⟩
                 ·exact fun a w ux168 hE hM hp=>Zd hE Za ld rfl fun a hE=>⟨Kept.refl _ _,_,_,rfl,hE,rfl⟩
                 ·exact fun a w ux168 hE hM hp=>Zd hE Za ld rfl fun a hE=>⟨Kept.refl _ _,_,_,rfl,hE,rfl⟩
                 ·exact fun a w ux168 hE hM hp=>Zd hE Za ld rfl fun a hE=>⟨Kept.refl _ _,_,_,rfl,hE,rfl⟩
                 ·intro a w ux168 hE hM hp
                  have f7 : ux168 7 = (vI s13.2.2.1):=hp 0 _ rfl rfl
                  exact Zg hE Za ld rfl (lk rfl f7) Try.underlying50 Z4 hi175.1 fun a hE=>⟨Kept.refl _ _,_,_,rfl,hE,rfl⟩
                 ·intro a w ux168 hE hM hp
                  have f8 : ux168 8 = (vI s160.2.2):=hp 1 _ rfl rfl
                  have f9 : ux168 9 = (ptr b1 (0 + (s13.2.2.1).toNat * 4)):=hp 0 _ rfl rfl
                  exact Zg hE Za ld (lk rfl f9) (lk rfl f8) Try.underlying42 ty5 hi178.1 fun a hE=>⟨Kept.refl _ _,_,_,rfl,hE,rfl⟩
                 ·intro a w ux168 hE hM hp
                  have f10 : ux168 10 = (ptr b1 (0 + (s13.2.2.1).toNat * 4 + (s160.2.2).toNat * 1)):=hp 0 _ rfl rfl
                  exact Zv (v:=(vB x179)) hE Za ld (lk rfl f10) ty5 rfl (At.vec (At.vec (hM.rawAt (pre:=[_,_])) hi175.2) hi178.2) fun a hE=>⟨Kept.refl _ _,_,_,rfl,hE,rfl⟩
                 ·intro a w ux168 hE hM hp
                  have f5 : ux168 5 = (vI p0):=hp 0 _ rfl rfl
                  have f6 : ux168 6 = (vB x145):=hp 1 _ rfl rfl
                  have f11 : ux168 11 = (vB x179):=hp 2 _ rfl rfl
                  refine Zq hE Za ld (ZV (ZT (lk rfl f5) (ZT (lk rfl f6) (ZT (lk rfl f11) Xw)))) QU (Yc _ p0 x145 x179 r181 e182) ?_
                  rintro v w a ⟨rfl,hK⟩ hE
                  exact ⟨hK,_,_,rfl,hE,rfl⟩
                 ·intro a w ux168 hE hM hp
                  have f4 : ux168 4 = (vB x173):=hp 0 _ rfl rfl
                  have f12 : ux168 12 = (vB r181):=hp 1 _ rfl rfl
                  exact Zk hE Za ld (lk rfl f4) (lk rfl f12) (Vc x173 r181) fun a hE=>⟨Kept.refl _ _,_,_,rfl,hE,rfl⟩
                 ·intro a w ux168 hE hM hp
                  have f0 : ux168 0 = (vI s133.2.2):=hp 0 _ rfl rfl
                  exact Zg hE Za ld rfl (lk rfl f0) Try.underlying50 Z4 hi183.1 fun a hE=>⟨Kept.refl _ _,_,_,rfl,hE,rfl⟩
                 ·intro a w ux168 hE hM hp
                  have f1 : ux168 1 = (vI s160.2.2):=hp 1 _ rfl rfl
                  have f14 : ux168 14 = (ptr b1 (0 + (s133.2.2).toNat * 4)):=hp 0 _ rfl rfl
                  exact Zg hE Za ld (lk rfl f14) (lk rfl f1) Try.underlying42 ty5 hi186.1 fun a hE=>⟨Kept.refl _ _,_,_,rfl,hE,rfl⟩
                 ·intro a w ux168 hE hM hg
                  have hE:=hE.sub (e':=[(129,(vB (x173 ^^^ r181))),(131,(ptr b1 (0 + (s133.2.2).toNat * 4 + (s160.2.2).toNat * 1))),(0,vI p0),(3,(ptr b1 0)),(5,(ptr b3 0)),(6,(ptr b7 0)),(7,vB r82),(8,vI s13.2.2.1),(12,vI s133.2.2),(13,vB x145),(14,vI s160.2.2),(16,vI s13.2.2.1),(98,vI s133.2.2),(113,vI s160.2.2),(114,(vT (decide (s160.2.2 < 4)))),(115,vI s160.2.2)]) ⟨lk rfl (hg 13 (by decide)),lk rfl (hg 15 (by decide)),rfl,rfl,rfl,rfl,rfl,rfl,rfl,rfl,rfl,rfl,rfl,rfl,rfl,rfl,trivial⟩
                  have hM:=hM.pull (pre:=[_,_])
                  refine Zm (seg:=[(vB (x173 ^^^ r181))]) (cs':=enc (s160.1.setIfInBounds (s133.2.2).toNat (x184.setIfInBounds (s160.2.2).toNat (x173 ^^^ r181)))) hE hM Za rfl rfl rfl ty5 rfl (Wk (o':=0 + (s160.2.2).toNat * 1) hi183 (ZI (v:=x184) (x:=x173 ^^^ r181) hi186.1) (by first | omega | (simp only [Flat.n] <;> omega))) (Flat.cell (x173 ^^^ r181 : UInt8)) (YM (o':=0 + (s160.2.2).toNat * 1) hi183 (ZI (v:=x184) (x:=x173 ^^^ r181) hi186.1) (Zu (v:=x184) (x:=x173 ^^^ r181) hi186.1) (by first | omega | (simp only [Flat.n] <;> omega))) fun w a hM hE=>Zi ?_
                  have ht189:=Option.some.inj hl166
                  subst ht189
                  refine Zj ?_
                  have hM:=(hM.pull (pre:=[_,_])).pull (pre:=[_,_])
                  exact ⟨hE.sub ⟨rfl,rfl,rfl,rfl,rfl,rfl,rfl,rfl,rfl,rfl,rfl,rfl,trivial⟩,hM⟩
                ·skip
                 rintro a w ⟨hE,hM⟩
                 obtain ⟨x192,hi191,hF167⟩:=bvx hF167
                 obtain ⟨x195,hi194,hF167⟩:=bvx hF167
                 obtain ⟨x198,hi197,hF167⟩:=bvx hF167
                 obtain ⟨x201,hi200,hF167⟩:=bvx hF167
                 obtain ⟨r203,e204,hF167⟩:=bind_some hF167
                 obtain ⟨x206,hi205,hF167⟩:=bvx hF167
                 obtain ⟨x209,hi208,hF167⟩:=bvx hF167
                 refine Yd (n:=153) (hd:=[_,_,_,_,_,_,_,_,_,_,_,_,_,_,_,_]) (tl:=[_]) YR rfl rfl [132,133,134,135,136,137,138,139,140,141,142,143,144,145,146,147] (by decide) (fun w=>M (Old w0) w0 w [raw b7 (enc s160.2.1),raw b3 (enc (Vector.replicate 4 (Vector.replicate 4 (0 : UInt8)))),raw b1 (enc j165)]) (fun j=>([fun v _=>v = (vI s133.2.2),fun v _=>v = (vI s160.2.2),fun v _=>v = (ptr b7 (0 + (s133.2.2).toNat * 4)),fun v _=>v = (ptr b7 (0 + (s133.2.2).toNat * 4 + (s160.2.2).toNat * 1)),fun v _=>v = (vB x195),fun v _=>v = (vI p0),fun v _=>v = (vB x145),fun v _=>v = (vI s13.2.2.1),fun v _=>v = (vI s160.2.2),fun v _=>v = (ptr b7 (0 + (s13.2.2.1).toNat * 4)),fun v _=>v = (ptr b7 (0 + (s13.2.2.1).toNat * 4 + (s160.2.2).toNat * 1)),fun v _=>v = (vB x201),fun v _=>v = (vB r203),fun v _=>v = (vB (x195 ^^^ r203)),fun v _=>v = (ptr b7 (0 + (s133.2.2).toNat * 4)),fun v _=>v = (ptr b7 (0 + (s133.2.2).toNat * 4 + (s160.2.2).toNat * 1))] : List (Value → World → Prop)).getD j (fun _ _=>True)) (fun _ _ h hk=>h.keep hk) (gup (Zh (Zh (Zh (Zh (Zh (Zh (Zh (Zh (Zh (Zh (Zh (Zh (Zh (Zh (Zh (Zh WV))))))))))))))))) hE hM.drew (ZK (Zb ?_ (Zb ?_ (Zb ?_ (Zb ?_ (Zb ?_ (Zb ?_ (Zb ?_ (Zb ?_ (Zb ?_ (Zb ?_ (Zb ?_ (Zb ?_ (Zb ?_ (Zb ?_ (Zb ?_ (Zb ?_ ZE))))))))))))))))) ?_
                 ·exact fun a w ux190 hE hM hp=>Zd hE Za ld rfl fun a hE=>⟨Kept.refl _ _,_,_,rfl,hE,rfl⟩
                 ·exact fun a w ux190 hE hM hp=>Zd hE Za ld rfl fun a hE=>⟨Kept.refl _ _,_,_,rfl,hE,rfl⟩
                 ·intro a w ux190 hE hM hp
                  have f0 : ux190 0 = (vI s133.2.2):=hp 0 _ rfl rfl
                  exact Zg hE Za ld rfl (lk rfl f0) Try.underlying50 Z4 hi191.1 fun a hE=>⟨Kept.refl _ _,_,_,rfl,hE,rfl⟩
                 ·intro a w ux190 hE hM hp
                  have f1 : ux190 1 = (vI s160.2.2):=hp 1 _ rfl rfl
                  have f2 : ux190 2 = (ptr b7 (0 + (s133.2.2).toNat * 4)):=hp 0 _ rfl rfl
                  exact Zg hE Za ld (lk rfl f2) (lk rfl f1) Try.underlying42 ty5 hi194.1 fun a hE=>⟨Kept.refl _ _,_,_,rfl,hE,rfl⟩
                 ·intro a w ux190 hE hM hp
                  have f3 : ux190 3 = (ptr b7 (0 + (s133.2.2).toNat * 4 + (s160.2.2).toNat * 1)):=hp 0 _ rfl rfl
                  exact Zv (v:=(vB x195)) hE Za ld (lk rfl f3) ty5 rfl (At.vec (At.vec (hM.rawAt (pre:=[])) hi191.2) hi194.2) fun a hE=>⟨Kept.refl _ _,_,_,rfl,hE,rfl⟩
                 ·exact fun a w ux190 hE hM hp=>Zd hE Za ld rfl fun a hE=>⟨Kept.refl _ _,_,_,rfl,hE,rfl⟩
                 ·exact fun a w ux190 hE hM hp=>Zd hE Za ld rfl fun a hE=>⟨Kept.refl _ _,_,_,rfl,hE,rfl⟩
                 ·exact fun a w ux190 hE hM hp=>Zd hE Za ld rfl fun a hE=>⟨Kept.refl _ _,_,_,rfl,hE,rfl⟩
                 ·exact fun a w ux190 hE hM hp=>Zd hE Za ld rfl fun a hE=>⟨Kept.refl _ _,_,_,rfl,hE,rfl⟩
                 ·intro a w ux190 hE hM hp
                  have f7 : ux190 7 = (vI s13.2.2.1):=hp 0 _ rfl rfl
                  exact Zg hE Za ld rfl (lk rfl f7) Try.underlying50 Z4 hi197.1 fun a hE=>⟨Kept.refl _ _,_,_,rfl,hE,rfl⟩
                 ·intro a w ux190 hE hM hp
                  have f8 : ux190 8 = (vI s160.2.2):=hp 1 _ rfl rfl
                  have f9 : ux190 9 = (ptr b7 (0 + (s13.2.2.1).toNat * 4)):=hp 0 _ rfl rfl
                  exact Zg hE Za ld (lk rfl f9) (lk rfl f8) Try.underlying42 ty5 hi200.1 fun a hE=>⟨Kept.refl _ _,_,_,rfl,hE,rfl⟩
                 ·intro a w ux190 hE hM hp
                  have f10 : ux190 10 = (ptr b7 (0 + (s13.2.2.1).toNat * 4 + (s160.2.2).toNat * 1)):=hp 0 _ rfl rfl
                  exact Zv (v:=(vB x201)) hE Za ld (lk rfl f10) ty5 rfl (At.vec (At.vec (hM.rawAt (pre:=[])) hi197.2) hi200.2) fun a hE=>⟨Kept.refl _ _,_,_,rfl,hE,rfl⟩
                 ·intro a w ux190 hE hM hp
                  have f5 : ux190 5 = (vI p0):=hp 0 _ rfl rfl
                  have f6 : ux190 6 = (vB x145):=hp 1 _ rfl rfl
                  have f11 : ux190 11 = (vB x201):=hp 2 _ rfl rfl
                  refine Zq hE Za ld (ZV (ZT (lk rfl f5) (ZT (lk rfl f6) (ZT (lk rfl f11) Xw)))) QU (Yc _ p0 x145 x201 r203 e204) ?_
                  rintro v w a ⟨rfl,hK⟩ hE
                  exact ⟨hK,_,_,rfl,hE,rfl⟩
                 ·intro a w ux190 hE hM hp
                  have f4 : ux190 4 = (vB x195):=hp 0 _ rfl rfl
                  have f12 : ux190 12 = (vB r203):=hp 1 _ rfl rfl
                  exact Zk hE Za ld (lk rfl f4) (lk rfl f12) (Vc x195 r203) fun a hE=>⟨Kept.refl _ _,_,_,rfl,hE,rfl⟩
                 ·intro a w ux190 hE hM hp
                  have f0 : ux190 0 = (vI s133.2.2):=hp 0 _ rfl rfl
                  exact Zg hE Za ld rfl (lk rfl f0) Try.underlying50 Z4 hi205.1 fun a hE=>⟨Kept.refl _ _,_,_,rfl,hE,rfl⟩
                 ·intro a w ux190 hE hM hp
                  have f1 : ux190 1 = (vI s160.2.2):=hp 1 _ rfl rfl
                  have f14 : ux190 14 = (ptr b7 (0 + (s133.2.2).toNat * 4)):=hp 0 _ rfl rfl
                  exact Zg hE Za ld (lk rfl f14) (lk rfl f1) Try.underlying42 ty5 hi208.1 fun a hE=>⟨Kept.refl _ _,_,_,rfl,hE,rfl⟩
                 ·intro a w ux190 hE hM hg
                  have hE:=hE.sub (e':=[(145,(vB (x195 ^^^ r203))),(147,(ptr b7 (0 + (s133.2.2).toNat * 4 + (s160.2.2).toNat * 1))),(0,vI p0),(3,(ptr b1 0)),(5,(ptr b3 0)),(6,(ptr b7 0)),(7,vB r82),(8,vI s13.2.2.1),(12,vI s133.2.2),(13,vB x145),(14,vI s160.2.2),(16,vI s13.2.2.1),(98,vI s133.2.2),(113,vI s160.2.2)]) ⟨lk rfl (hg 13 (by decide)),lk rfl (hg 15 (by decide)),rfl,rfl,rfl,rfl,rfl,rfl,rfl,rfl,rfl,rfl,rfl,rfl,trivial⟩
                  refine Zm (seg:=[(vB (x195 ^^^ r203))]) (cs':=enc (s160.2.1.setIfInBounds (s133.2.2).toNat (x206.setIfInBounds (s160.2.2).toNat (x195 ^^^ r203)))) hE hM Za rfl rfl rfl ty5 rfl (Wk (o':=0 + (s160.2.2).toNat * 1) hi205 (ZI (v:=x206) (x:=x195 ^^^ r203) hi208.1) (by first | omega | (simp only [Flat.n] <;> omega))) (Flat.cell (x195 ^^^ r203 : UInt8)) (YM (o':=0 + (s160.2.2).toNat * 1) hi205 (ZI (v:=x206) (x:=x195 ^^^ r203) hi208.1) (Zu (v:=x206) (x:=x195 ^^^ r203) hi208.1) (by first | omega | (simp only [Flat.n] <;> omega))) fun w a hM hE=>Zi (Yi (Zt (wp_region_lit (Zk hE Za ld rfl rfl rfl fun a hE=>Zd hE Za ld rfl fun a hE=>Zi (Zj ?_)))))
                  exact ⟨_,(ois hF167),hE.sub ⟨rfl,rfl,rfl,rfl,rfl,rfl,rfl,rfl,rfl,rfl,rfl,trivial⟩,hM⟩
               ·intro hb164
                have hs161:=Zx hs161 hb164
                refine wp_exit (Zp (Zp (Yj ?_)))
                have ht211:=hx162 _ (ois hs161)
                subst ht211
                refine Zj ?_
                exact ⟨hE.sub ⟨rfl,rfl,rfl,rfl,rfl,rfl,rfl,rfl,trivial⟩,hM⟩
              ·skip
               rintro a w ⟨hE,hM⟩
               have ht212:=Option.some.inj hF159
               subst ht212
               refine Zj ?_
               exact ⟨hE.sub ⟨rfl,rfl,rfl,rfl,rfl,rfl,rfl,rfl,trivial⟩,hM⟩
             ·intro hb156
              have hl154:=Zx hl154 hb156
              refine wp_skip ?_
              have ht213:=Option.some.inj hl154
              subst ht213
              refine Zj ?_
              exact ⟨hE.sub ⟨rfl,rfl,rfl,rfl,rfl,rfl,rfl,rfl,trivial⟩,hM⟩
            ·skip
             rintro a w ⟨hE,hM⟩
             refine Yi ?_
             have ht214:=Option.some.inj hF155
             subst ht214
             refine Zj ?_
             exact ⟨hE.sub ⟨rfl,rfl,rfl,rfl,rfl,rfl,rfl,rfl,trivial⟩,hM⟩
          ·skip
           rintro a w ⟨hE,hM⟩
           refine wp_region_lit (Zk hE Za ld rfl rfl rfl fun a hE=>Zd hE Za ld rfl fun a hE=>Zi (Zj ?_))
           exact ⟨_,(ois hF140),hE.sub ⟨rfl,rfl,rfl,rfl,rfl,rfl,rfl,rfl,trivial⟩,hM⟩
         ·intro hb137
          have hs134:=Zx hs134 hb137
          refine wp_exit (Zp (Zp (Yj ?_)))
          have ht215:=hx135 _ (ois hs134)
          subst ht215
          refine Zj ?_
          exact ⟨hE.sub ⟨rfl,rfl,rfl,rfl,rfl,rfl,trivial⟩,hM⟩
        ·skip
         rintro a w ⟨hE,hM⟩
         refine Yi (Zt (wp_region_lit (Zk hE Za ld rfl rfl rfl fun a hE=>Zd hE Za ld rfl fun a hE=>Zi (Zj ?_))))
         exact ⟨_,(ois hF132),hE.sub ⟨rfl,rfl,rfl,rfl,rfl,rfl,trivial⟩,hM⟩
  ·intro hb17
   have hs14:=Zx hs14 hb17
   refine wp_exit (Zp (Zp (Yj ?_)))
   have ht216:=hx15 _ (ois hs14)
   subst ht216
   refine Zj ?_
   have hM:=M.fst (l:=[_,_]) ((hM.pull (pre:=[_])).pull (pre:=[_]))
   exact ⟨(s13.2.1,s13.2.2.2),rfl,hE.sub ⟨rfl,rfl,rfl,trivial⟩,hM⟩
 ·skip
  rintro a w ⟨s12,ht,hE,hM⟩
  subst ht
  have hF11:=UU hF11
  refine Zt ?_
  obtain ⟨j217,hl218,hF219⟩:=bind_some hF11
  refine ZL (fun a w=>Env 153 a [(4,vB j217.2),(5,(ptr b3 0))] ∧ M (Old w0) w0 w [raw b3 (enc j217.1)]) ?_ ?_
  ·skip
   refine Yd (n:=153) (hd:=[_,_,_]) (tl:=[_]) YR rfl rfl [151,152,4] (by decide) (fun w=>M (Old w0) w0 w [raw b7 (enc s12.1),raw b3 (enc (Vector.replicate 4 (Vector.replicate 4 (0 : UInt8))))]) (fun j=>([fun v _=>v = (vB s12.2),fun v _=>v = (Value.agg (enc s12.1).toArray),fun v _=>v = (vB s12.2)] : List (Value → World → Prop)).getD j (fun _ _=>True)) (fun _ _ h hk=>h.keep hk) (gup (Zh (Zh (Zh WV)))) hE hM.drew (ZK (Zb ?_ (Zb ?_ (Zb ?_ ZE)))) ?_
   ·exact fun a w ux220 hE hM hp=>Zd hE Za ld rfl fun a hE=>⟨Kept.refl _ _,_,_,rfl,hE,rfl⟩
   ·exact fun a w ux220 hE hM hp=>Zl (cs:=enc s12.1) hE Za ld rfl Yw rfl (hM.rawAt (pre:=[])) (Flat.len _) fun a hE=>⟨Kept.refl _ _,_,_,rfl,hE,rfl⟩
   ·intro a w ux220 hE hM hp
    have f0 : ux220 0 = (vB s12.2):=hp 0 _ rfl rfl
    exact Ze hE Za ld (lk rfl f0) fun a hE=>⟨Kept.refl _ _,_,_,rfl,hE,rfl⟩
   ·intro a w ux220 hE hM hg
    have hE:=hE.sub (e':=[(152,(Value.agg (enc s12.1).toArray)),(4,vB s12.2),(5,(ptr b3 0))]) ⟨lk rfl (hg 1 (by decide)),lk rfl (hg 2 (by decide)),rfl,trivial⟩
    have hM:=hM.pull (pre:=[_])
    refine Zm (seg:=enc s12.1) (cs':=enc s12.1) hE hM Za rfl rfl rfl Yw (Flat.len _) (zle flq) (Flat.cell _) (Zn flq) fun w a hM hE=>Zi ?_
    have ht221:=Option.some.inj hl218
    subst ht221
    refine Zj ?_
    have hM:=M.fst (l:=[_]) hM
    exact ⟨hE.sub ⟨rfl,rfl,trivial⟩,hM⟩
  ·skip
   rintro a w ⟨hE,hM⟩
   have hr:=Option.some.inj hF219
   subst hr
   have hq222 : YD Try.prog _ _ (.cell 5 50) _:=ZW hE rfl Yw rfl (hM.rawAt (pre:=[])) (Flat.len _) rfl
   have hM:=M.fst (l:=[]) hM
   exact wp_ret (UM hE rfl (ZA hE rfl) hq222 ⟨_,rfl,rfl,hM.kept⟩)
def Wa (p0 : Int) (p1 : (Vector (Vector UInt8 4) 4)) : Option (Bool) :=
 (Yp p0 p1).bind fun r3=>some (r3.1 != 0)
theorem TB (w0 : World) (p0 : Int) (p1 : (Vector (Vector UInt8 4) 4)) (r : Bool) (hF : Wa p0 p1 = some r) :
  Calls Try.prog 124 [vI p0,(Value.agg (enc p1).toArray)].toArray w0 (fun en w'=>∃ v,en = .returned v ∧ (v = (vT r) ∧ Kept (Old w0) w0 w')):=by
 refine ZC (n:=15) Try.func124 rfl rfl (nbl rfl) rfl ?_
 intro a hE
 have hM:=M.start w0
 unfold Wa at hF
 refine Zc (ZX (cs:=enc p1) hE hM Za ld rfl rfl fun b1 w a hM hE=>Ze hE Za ld rfl fun a hE=>Zf (Zc (Zd hE Za ld rfl fun a hE=>Zl (cs:=enc p1) hE Za ld rfl Yw rfl (hM.rawAt (pre:=[])) (Flat.len _) ?_))); intro a hE
 obtain ⟨r3,e4,hF⟩:=bind_some hF
 refine Zq hE Za ld rfl cb126 (VX _ p0 p1 r3 e4) ?_
 rintro v w a ⟨rfl,hK⟩ hE
 have hM:=hM.keep hK
 refine Zd hE Za ld rfl fun a hE=>Yt hE Za ld rfl rfl fun a hE=>Yt hE Za ld rfl rfl fun a hE=>ZF hE hM Za ld Yw fun b5 w a hM hE=>Ze hE Za ld rfl fun a hE=>Zm (seg:=enc r3.2) (cs':=enc r3.2) hE hM Za rfl rfl rfl Yw (Flat.len _) (zle flq) (Flat.cell _) (Zn flq) fun w a hM hE=>Zf (Zc (Zd hE Za ld rfl fun a hE=>Zk hE Za ld rfl rfl (Hp r3.1 0) fun a hE=>Ze hE Za ld rfl fun a hE=>Zf ?_))
 have hr:=Option.some.inj hF
 subst hr
 have hM:=M.fst (l:=[]) hM
 exact wp_ret (ZD hE rfl (ZA hE rfl) ⟨_,rfl,rfl,hM.kept⟩)
def WG (p0 : (List UInt8)) (p1 : UInt8) : Option (Int) :=
 some (indexByte p0 p1)
theorem Qq (w0 : World) (p0 : (List UInt8)) (v0_1 : Value) (hv0_1 : Ro w0 p0 [v0_1]) (p1 : UInt8) (r : Int) (hF : WG p0 p1 = some r) :
  Calls Try.prog 102 [v0_1,vB p1].toArray w0 (fun en w'=>∃ v,en = .returned v ∧ (v = (vI r) ∧ Kept (Old w0) w0 w')):=by
 refine ZC (n:=8) Try.func102 rfl rfl (nbl rfl) rfl ?_
 intro a hE
 have hM:=M.start w0
 unfold WG at hF
 refine Zc (Ze hE Za ld rfl fun a hE=>Zf (Zc (Zd hE Za ld rfl fun a hE=>Zd hE Za ld rfl fun a hE=>He hE Za ld rfl Try.func142 rfl (by decide) (by kernel_rfl) (by kernel_rfl) (hM.rd hv0_1) fun a hE=>Ze hE Za ld rfl fun a hE=>Zf ?_)))
 have hr:=Option.some.inj hF
 subst hr
 exact wp_ret (ZD hE rfl (ZA hE rfl) ⟨_,rfl,rfl,hM.kept⟩)
def YA (p0 : (List UInt8)) (s5 : Int) : Option (Fl Int (Fl Unit Bool)) :=
 if (decide (s5 < (p0.length : Int))) = true then ((idx p0 s5).bind fun x10=>(slc p0 (0 : Int) s5).bind fun l13=>(WG l13 x10).bind fun r16=>if (decide (r16 ≥ 0)) = true then (some (Fl.ex (Fl.ex false))) else (some (Fl.nx (wr (s5 + 1))))) else (some (Fl.ex (Fl.nx ())))
def Xu (p0 : (List UInt8)) : Option (Bool) :=
 (ZB (YA p0) 0).bind fun j1=>j1.el (fun s4=>some true) (fun r=>some r)
theorem Tz (w0 : World) (p0 : (List UInt8)) (v0_1 : Value) (hv0_1 : Ro w0 p0 [v0_1]) (r : Bool) (hF : Xu p0 = some r) :
  Calls Try.prog 101 [v0_1].toArray w0 (fun en w'=>∃ v,en = .returned v ∧ (v = (vT r) ∧ Kept (Old w0) w0 w')):=by
 refine ZC (n:=19) Try.func101 rfl rfl (nbl rfl) rfl ?_
 intro a hE
 have hM:=M.start w0
 unfold Xu at hF
 refine Zc (Ze hE Za ld rfl fun a hE=>Zf (wp_seq (Zc (Zd hE Za ld rfl fun a hE=>UC hE Za ld rfl Try.underlying22 (hM.rd hv0_1) fun a hE=>Zd hE Za ld rfl fun a hE=>Zf ?_))))
 obtain ⟨j1,hl2,hF3⟩:=bind_some hF
 refine ZP (fun a w=>∃ s4 : Unit,j1 = Fl.nx s4 ∧ Env 19 a [] ∧ M (Old w0) w0 w []) ?_ ?_
 ·skip
  refine wp_block ?_
  refine ZJ (fun (s5 : Int) a w=>Env 19 a [(0,v0_1),(5,v0_1),(6,(vI (p0.length : Int))),(7,vI s5)] ∧ M (Old w0) w0 w []) hl2 ⟨hE.sub ⟨rfl,rfl,rfl,rfl,trivial⟩,hM⟩ ?_
  rintro s5 a w ⟨hE,hM⟩ o8 hs6 hx7
  unfold YA at hs6
  refine Zc (Zk hE Za ld rfl rfl rfl fun a hE=>Zf (wp_seq ?_))
  refine Zr hE rfl ?_ ?_
  ·intro hb9
   have hs6:=Zw hs6 hb9
   refine wp_skip (Zt (wp_seq (wp_block (Zc (Zd hE Za ld rfl ?_))))); intro a hE
   obtain ⟨x10,hi12,hs6⟩:=bix hs6
   refine YT hE Za ld rfl rfl Try.underlying22 ty5 (hM.rd hv0_1) hi12.1 fun a hE=>Zv (v:=(vB x10)) hE Za ld rfl ty5 rfl (Vb (hM.rd hv0_1) hi12.2) fun a hE=>Ze hE Za ld rfl fun a hE=>Ze hE Za ld rfl fun a hE=>Zf (Zc (Zd hE Za ld rfl fun a hE=>Zd hE Za ld rfl ?_)); intro a hE
   obtain ⟨l13,e14,hs6⟩:=bind_some hs6
   refine Ai hE Za ld rfl rfl rfl rfl rfl Try.underlying22 ty5 (hM.rd hv0_1) e14 ?_; intro a hE
   have h15 : Rep.sat (Old w0) w0 l13 [(Ws v0_1 ((0 : Int)).toNat (s5).toNat 1)] []:=KG hv0_1 e14 -- ^
   refine Zd hE Za ld rfl ?_; intro a hE
   obtain ⟨r16,e17,hs6⟩:=bind_some hs6
   refine Zq hE Za ld rfl cb102 (Qq _ l13 (Ws v0_1 ((0 : Int)).toNat (s5).toNat 1) (hM.rdo h15) x10 r16 e17) ?_
   rintro v w a ⟨rfl,hK⟩ hE
   have hM:=hM.keep hK
   refine Zk hE Za ld rfl rfl rfl fun a hE=>Zf ?_
   refine Zr hE rfl ?_ ?_
   ·intro hb18
    have hs6:=Zw hs6 hb18
    refine Zc (Ze hE Za ld rfl fun a hE=>Zf ?_)
    have ht19:=hx7 _ (ois hs6)
    subst ht19
    have hr:=Option.some.inj hF3
    subst hr
    exact wp_ret (Wq (ZH (ZH (Wq (ZH (ZH (ZD hE rfl (ZA hE rfl) ⟨_,rfl,rfl,hM.kept⟩)))))))
   ·intro hb18
    have hs6:=Zx hs6 hb18
    refine wp_skip (Yi (Zt (wp_region_lit (Zk hE Za ld rfl rfl rfl fun a hE=>Zd hE Za ld rfl fun a hE=>Zi (Zj ?_)))))
    exact ⟨_,(ois hs6),hE.sub ⟨rfl,rfl,rfl,rfl,trivial⟩,hM⟩
  ·intro hb9
   have hs6:=Zx hs6 hb9
   refine wp_exit (Zp (Zp (Yj ?_)))
   have ht20:=hx7 _ (ois hs6)
   subst ht20
   refine Zj ?_
   exact ⟨(),rfl,hE.sub trivial,hM⟩
 ·skip
  rintro a w ⟨s4,ht,hE,hM⟩
  subst ht
  have hF3:=UU hF3
  refine Zt (Zc (Ze hE Za ld rfl fun a hE=>Zf ?_))
  have hr:=Option.some.inj hF3
  subst hr
  exact wp_ret (ZD hE rfl (ZA hE rfl) ⟨_,rfl,rfl,hM.kept⟩)
def Xk (p0 : (Vector UInt8 16)) (s7 : Int) : Option (Fl Int (Fl Unit Bool)) :=
 if (decide (s7 < 16)) = true then ((Zs p0 s7).bind fun x12=>if (decide (x12 > 15)) = true then (some (Fl.ex (Fl.ex false))) else (some (Fl.nx (wr (s7 + 1))))) else (some (Fl.ex (Fl.nx ())))
def Wn (p0 : (Vector UInt8 16)) : Option (Bool) :=
 (ZB (Xk p0) 0).bind fun j3=>j3.el (fun s6=>(slc p0.toList (0 : Int) (16 : Int)).bind fun l18=>(Xu l18).bind fun r21=>some r21) (fun r=>some r)
theorem QK (w0 : World) (p0 : (Vector UInt8 16)) (r : Bool) (hF : Wn p0 = some r) :
  Calls Try.prog 125 [(Value.agg (enc p0).toArray)].toArray w0 (fun en w'=>∃ v,en = .returned v ∧ (v = (vT r) ∧ Kept (Old w0) w0 w')):=by
 refine ZC (n:=14) Try.func125 rfl rfl (nbl rfl) rfl ?_
 intro a hE
 have hM:=M.start w0
 unfold Wn at hF
 refine Zc (ZX (cs:=enc p0) hE hM Za ld rfl rfl fun b1 w a hM hE=>Ze hE Za ld rfl fun a hE=>Zf (wp_seq (Zc (Zl (cs:=enc p0) hE Za ld rfl WZ rfl (hM.rawAt (pre:=[])) (Flat.len _) fun a hE=>Zd hE Za ld rfl fun a hE=>Zf ?_))))
 obtain ⟨j3,hl4,hF5⟩:=bind_some hF
 refine ZP (fun a w=>∃ s6 : Unit,j3 = Fl.nx s6 ∧ Env 14 a [(1,(ptr b1 0))] ∧ M (Old w0) w0 w [raw b1 (enc p0)]) ?_ ?_
 ·skip
  refine wp_block ?_
  refine ZJ (fun (s7 : Int) a w=>Env 14 a [(1,(ptr b1 0)),(5,(Value.agg (enc p0).toArray)),(6,vI s7)] ∧ M (Old w0) w0 w [raw b1 (enc p0)]) hl4 ⟨hE.sub ⟨rfl,rfl,rfl,trivial⟩,hM⟩ ?_
  rintro s7 a w ⟨hE,hM⟩ o10 hs8 hx9
  unfold Xk at hs8
  refine Zc (Zk hE Za ld rfl rfl rfl fun a hE=>Zf (wp_seq ?_))
  refine Zr hE rfl ?_ ?_
  ·intro hb11
   have hs8:=Zw hs8 hb11
   refine wp_skip (Zt (wp_seq (wp_block (Zc ?_))))
   obtain ⟨x12,hi14,hs8⟩:=bvx hs8
   refine VT hE Za ld rfl rfl Try.underlying51 ty5 rfl rfl hi14 rfl fun a hE=>Ze hE Za ld rfl fun a hE=>Zf (Zc (Zd hE Za ld rfl fun a hE=>Zk hE Za ld rfl rfl (bB_gtr x12 15) fun a hE=>Zf ?_))
   refine Zr hE rfl ?_ ?_
   ·intro hb15
    have hs8:=Zw hs8 hb15
    refine Zc (Ze hE Za ld rfl fun a hE=>Zf ?_)
    have ht16:=hx9 _ (ois hs8)
    subst ht16
    have hr:=Option.some.inj hF5
    subst hr
    have hM:=M.fst (l:=[]) hM
    exact wp_ret (Wq (ZH (ZH (Wq (ZH (ZH (ZD hE rfl (ZA hE rfl) ⟨_,rfl,rfl,hM.kept⟩)))))))
   ·intro hb15
    have hs8:=Zx hs8 hb15
    refine wp_skip (Yi (Zt (wp_region_lit (Zk hE Za ld rfl rfl rfl fun a hE=>Zd hE Za ld rfl fun a hE=>Zi (Zj ?_)))))
    exact ⟨_,(ois hs8),hE.sub ⟨rfl,rfl,rfl,trivial⟩,hM⟩
  ·intro hb11
   have hs8:=Zx hs8 hb11
   refine wp_exit (Zp (Zp (Yj ?_)))
   have ht17:=hx9 _ (ois hs8)
   subst ht17
   refine Zj ?_
   exact ⟨(),rfl,hE.sub ⟨rfl,trivial⟩,hM⟩
 ·skip
  rintro a w ⟨s6,ht,hE,hM⟩
  subst ht
  have hF5:=UU hF5
  refine Zt (Zc ?_)
  obtain ⟨l18,e19,hF5⟩:=bind_some hF5
  have hb20:=Km e19 -- ^
  refine UE (N:=16) hE Za ld rfl rfl rfl rfl rfl Try.underlying51 ty5 hb20 ?_; intro a hE
  obtain ⟨r21,e22,hF5⟩:=bind_some hF5
  refine Zq hE Za ld rfl cb101 (Tz _ l18 (Ws (.slice (some ⟨b1,0,none⟩) 16 16) ((0 : Int)).toNat ((16 : Int)).toNat 1) (KG (At.sat (hM.rawAt (pre:=[])) (by simp) (by decide)) e19) r21 e22) ?_
  rintro v w a ⟨rfl,hK⟩ hE
  have hM:=hM.keep hK
  refine Ze hE Za ld rfl fun a hE=>Zf ?_
  have hr:=Option.some.inj hF5
  subst hr
  have hM:=M.fst (l:=[]) hM
  exact wp_ret (ZD hE rfl (ZA hE rfl) ⟨_,rfl,rfl,hM.kept⟩)
def WA (p0 : GCipher) : Option (Bool) :=
 ((WY p0.Field).bind fun r6=>if r6 = true then ((Xi p0.Box).bind fun r9=>if r9 = true then ((Wa p0.Field p0.Mix).bind fun r12=>if r12 = true then ((Wn p0.Places).bind fun r15=>if r15 = true then ((Wi p0.Rounds 1 20).bind fun r18=>some r18) else (some false)) else (some false)) else (some false)) else (some false) : Option (Bool)).bind fun j3=>some j3
theorem Kg (w0 : World) (p0 : GCipher) (r : Bool) (hF : WA p0 = some r) :
  Calls Try.prog 74 [(Value.agg (enc p0).toArray)].toArray w0 (fun en w'=>∃ v,en = .returned v ∧ (v = (vT r) ∧ Kept (Old w0) w0 w')):=by
 refine ZC (n:=28) Try.func74 rfl rfl (nbl rfl) rfl ?_
 intro a hE
 have hM:=M.start w0
 unfold WA at hF
 refine Zc (ZX (cs:=cat [[vI p0.Field],enc p0.Box,enc p0.Mix,enc p0.Places,[vI p0.Rounds]]) hE hM Za ld rfl rfl fun b1 w a hM hE=>Ze hE Za ld rfl fun a hE=>Zf ?_)
 obtain ⟨j3,hl4,hF5⟩:=bind_some hF
 refine ZL (fun a w=>Env 28 a [(2,vT j3)] ∧ M (Old w0) w0 w []) ?_ ?_
 ·skip
  refine wp_region_lit (Zo hE Za ld rfl (Ud) fun a hE=>Zv (v:=(vI p0.Field)) hE Za ld rfl ty2 rfl (At.cat (pre:=[]) (hM.rawAt (pre:=[])) cl0) ?_); intro a hE
  obtain ⟨r6,e7,hl4⟩:=bind_some hl4
  refine Zq hE Za ld rfl cb47 (KO _ p0.Field r6 e7) ?_
  rintro v w a ⟨rfl,hK⟩ hE
  have hM:=hM.keep hK
  refine Zd hE Za ld rfl ?_; intro a hE
  refine Va r6 (fun hb8=>?_) (fun hb8=>?_)
  ·have hl4:=Zw hl4 hb8
   refine Zo hE (Zz hE rfl (lkb rfl hb8)) (by decide) rfl (Ti) fun a hE=>Zl (cs:=enc p0.Box) hE (Zz hE rfl (lkb rfl hb8)) (by decide) rfl WO rfl (At.cat (pre:=[[vI p0.Field]]) (hM.rawAt (pre:=[])) (cl1 (n:=1) (m:=0) rfl cl0)) (Flat.len _) ?_; intro a hE
   obtain ⟨r9,e10,hl4⟩:=bind_some hl4
   refine Zq hE (Zz hE rfl (lkb rfl hb8)) (by decide) rfl cb123 (Tg _ p0.Box r9 e10) ?_
   rintro v w a ⟨rfl,hK⟩ hE
   have hM:=hM.keep hK
   refine Xx hE Za ld (lkb rfl hb8) rfl fun a hE=>Zd hE Za ld rfl ?_; intro a hE
   refine Va r9 (fun hb11=>?_) (fun hb11=>?_)
   ·have hl4:=Zw hl4 hb11
    refine Zo hE (Zz hE rfl (lkb rfl hb11)) (by decide) rfl (Ud) fun a hE=>Zv (v:=(vI p0.Field)) hE (Zz hE rfl (lkb rfl hb11)) (by decide) rfl ty2 rfl (At.cat (pre:=[]) (hM.rawAt (pre:=[])) cl0) fun a hE=>Zo hE (Zz hE rfl (lkb rfl hb11)) (by decide) rfl (TV) fun a hE=>Zl (cs:=enc p0.Mix) hE (Zz hE rfl (lkb rfl hb11)) (by decide) rfl Yw rfl (At.cat (pre:=[[vI p0.Field],enc p0.Box]) (hM.rawAt (pre:=[])) (cl1 (n:=1) (m:=256) rfl (cl1 (n:=256) (m:=0) (Flat.len _) cl0))) (Flat.len _) ?_; intro a hE
    obtain ⟨r12,e13,hl4⟩:=bind_some hl4
    refine Zq hE (Zz hE rfl (lkb rfl hb11)) (by decide) rfl cb124 (TB _ p0.Field p0.Mix r12 e13) ?_
    rintro v w a ⟨rfl,hK⟩ hE
    have hM:=hM.keep hK
    refine Xx hE Za ld (lkb rfl hb11) rfl fun a hE=>Zd hE Za ld rfl ?_; intro a hE
    refine Va r12 (fun hb14=>?_) (fun hb14=>?_)
    ·have hl4:=Zw hl4 hb14
     refine Zo hE (Zz hE rfl (lkb rfl hb14)) (by decide) rfl (TK) fun a hE=>Zl (cs:=enc p0.Places) hE (Zz hE rfl (lkb rfl hb14)) (by decide) rfl WZ rfl (At.cat (pre:=[[vI p0.Field],enc p0.Box,enc p0.Mix]) (hM.rawAt (pre:=[])) (cl1 (n:=1) (m:=272) rfl (cl1 (n:=256) (m:=16) (Flat.len _) (cl1 (n:=16) (m:=0) (Flat.len _) cl0)))) (Flat.len _) ?_; intro a hE
     obtain ⟨r15,e16,hl4⟩:=bind_some hl4
     refine Zq hE (Zz hE rfl (lkb rfl hb14)) (by decide) rfl cb125 (QK _ p0.Places r15 e16) ?_
     rintro v w a ⟨rfl,hK⟩ hE
     have hM:=hM.keep hK
     refine Xx hE Za ld (lkb rfl hb14) rfl fun a hE=>Zd hE Za ld rfl ?_; intro a hE
     refine Va r15 (fun hb17=>?_) (fun hb17=>?_)
     ·have hl4:=Zw hl4 hb17
      refine Zo hE (Zz hE rfl (lkb rfl hb17)) (by decide) rfl (TJ) fun a hE=>Zv (v:=(vI p0.Rounds)) hE (Zz hE rfl (lkb rfl hb17)) (by decide) rfl ty2 rfl (At.cat (pre:=[[vI p0.Field],enc p0.Box,enc p0.Mix,enc p0.Places]) (hM.rawAt (pre:=[])) (cl1 (n:=1) (m:=288) rfl (cl1 (n:=256) (m:=32) (Flat.len _) (cl1 (n:=16) (m:=16) (Flat.len _) (cl1 (n:=16) (m:=0) (Flat.len _) cl0))))) ?_; intro a hE
      obtain ⟨r18,e19,hl4⟩:=bind_some hl4
      refine Zq hE (Zz hE rfl (lkb rfl hb17)) (by decide) rfl cb49 (Ta _ p0.Rounds 1 20 r18 e19) ?_
      rintro v w a ⟨rfl,hK⟩ hE
      have hM:=hM.keep hK
      refine Xx hE Za ld (lkb rfl hb17) rfl fun a hE=>Ze hE Za ld rfl fun a hE=>Zi ?_
      have ht20:=Option.some.inj hl4
      subst ht20
      refine Zj ?_
      have hM:=M.fst (l:=[]) hM
      exact ⟨hE.sub ⟨rfl,trivial⟩,hM⟩
     ·have hl4:=Zx hl4 hb17
      refine Zy hE rfl (lkb rfl hb17) rfl (by decide) fun a hE=>Zy hE rfl (lkb rfl hb17) rfl (by decide) fun a hE=>Zy hE rfl (lkb rfl hb17) rfl (by decide) fun a hE=>YO hE Za ld (lkb rfl hb17) rfl fun a hE=>Ze hE Za ld rfl fun a hE=>Zi ?_
      have ht21:=Option.some.inj hl4
      subst ht21
      refine Zj ?_
      have hM:=M.fst (l:=[]) hM
      exact ⟨hE.sub ⟨rfl,trivial⟩,hM⟩
    ·have hl4:=Zx hl4 hb14
     refine Zy hE rfl (lkb rfl hb14) rfl (by decide) fun a hE=>Zy hE rfl (lkb rfl hb14) rfl (by decide) fun a hE=>Zy hE rfl (lkb rfl hb14) rfl (by decide) fun a hE=>YO hE Za ld (lkb rfl hb14) rfl fun a hE=>Zd hE Za ld rfl fun a hE=>Zy hE rfl rfl rfl (by decide) fun a hE=>Zy hE rfl rfl rfl (by decide) fun a hE=>Zy hE rfl rfl rfl (by decide) fun a hE=>YO hE Za ld rfl rfl fun a hE=>Ze hE Za ld rfl fun a hE=>Zi ?_
     have ht22:=Option.some.inj hl4
     subst ht22
     refine Zj ?_
     have hM:=M.fst (l:=[]) hM
     exact ⟨hE.sub ⟨rfl,trivial⟩,hM⟩
   ·have hl4:=Zx hl4 hb11
    refine Zy hE rfl (lkb rfl hb11) rfl (by decide) fun a hE=>Zy hE rfl (lkb rfl hb11) rfl (by decide) fun a hE=>Zy hE rfl (lkb rfl hb11) rfl (by decide) fun a hE=>Zy hE rfl (lkb rfl hb11) rfl (by decide) fun a hE=>Zy hE rfl (lkb rfl hb11) rfl (by decide) fun a hE=>YO hE Za ld (lkb rfl hb11) rfl fun a hE=>Zd hE Za ld rfl fun a hE=>Zy hE rfl rfl rfl (by decide) fun a hE=>Zy hE rfl rfl rfl (by decide) fun a hE=>Zy hE rfl rfl rfl (by decide) fun a hE=>YO hE Za ld rfl rfl fun a hE=>Zd hE Za ld rfl ?_; intro a hE
    refine Zy hE rfl rfl rfl (by decide) fun a hE=>Zy hE rfl rfl rfl (by decide) fun a hE=>Zy hE rfl rfl rfl (by decide) fun a hE=>YO hE Za ld rfl rfl fun a hE=>Ze hE Za ld rfl fun a hE=>Zi ?_
    have ht23:=Option.some.inj hl4
    subst ht23
    refine Zj ?_
    have hM:=M.fst (l:=[]) hM
    exact ⟨hE.sub ⟨rfl,trivial⟩,hM⟩
  ·have hl4:=Zx hl4 hb8
   refine Zy hE rfl (lkb rfl hb8) rfl (by decide) fun a hE=>Zy hE rfl (lkb rfl hb8) rfl (by decide) fun a hE=>Zy hE rfl (lkb rfl hb8) rfl (by decide) fun a hE=>YO hE Za ld (lkb rfl hb8) rfl fun a hE=>Zd hE Za ld rfl fun a hE=>Zy hE rfl rfl rfl (by decide) fun a hE=>Zy hE rfl rfl rfl (by decide) fun a hE=>Zy hE rfl rfl rfl (by decide) fun a hE=>Zy hE rfl rfl rfl (by decide) fun a hE=>Zy hE rfl rfl rfl (by decide) fun a hE=>YO hE Za ld rfl rfl fun a hE=>Zd hE Za ld rfl ?_; intro a hE
   refine Zy hE rfl rfl rfl (by decide) fun a hE=>Zy hE rfl rfl rfl (by decide) fun a hE=>Zy hE rfl rfl rfl (by decide) fun a hE=>YO hE Za ld rfl rfl fun a hE=>Zd hE Za ld rfl fun a hE=>Zy hE rfl rfl rfl (by decide) fun a hE=>Zy hE rfl rfl rfl (by decide) fun a hE=>Zy hE rfl rfl rfl (by decide) fun a hE=>YO hE Za ld rfl rfl fun a hE=>Ze hE Za ld rfl fun a hE=>Zi ?_
   have ht24:=Option.some.inj hl4
   subst ht24
   refine Zj ?_
   have hM:=M.fst (l:=[]) hM
   exact ⟨hE.sub ⟨rfl,trivial⟩,hM⟩
 ·skip
  rintro a w ⟨hE,hM⟩
  have hr:=Option.some.inj hF5
  subst hr
  exact wp_ret (ZD hE rfl (ZA hE rfl) ⟨_,rfl,rfl,hM.kept⟩)
def YH (p0 : (Vector UInt8 256)) (s10 : (Vector UInt8 256) × Int) : Option (Fl ((Vector UInt8 256) × Int) (Vector UInt8 256)) :=
 if (decide (s10.2 < 256)) = true then ((Zs p0 s10.2).bind fun x15=>(Zs s10.1 (bI x15)).bind fun x19=>some (Fl.nx ((s10.1.setIfInBounds ((bI x15)).toNat (ZO s10.2)),wr (s10.2 + 1)))) else (some (Fl.ex s10.1))
def XK (p0 : (Vector UInt8 256)) : Option ((Vector UInt8 256)) :=
 (ZB (YH p0) ((Vector.replicate 256 (0 : UInt8)),0)).bind fun j7=>some j7
theorem TH (w0 : World) (p0 : (Vector UInt8 256)) (r : (Vector UInt8 256)) (hF : XK p0 = some r) :
  Calls Try.prog 127 [(Value.agg (enc p0).toArray)].toArray w0 (fun en w'=>∃ v,en = .returned v ∧ (v = (Value.agg (enc r).toArray) ∧ Kept (Old w0) w0 w')):=by
 refine ZC (n:=18) Try.func127 rfl rfl (nbl rfl) rfl ?_
 intro a hE
 have hM:=M.start w0
 unfold XK at hF
 refine Zc (ZX (cs:=enc p0) hE hM Za ld rfl rfl fun b1 w a hM hE=>ZF hE hM Za ld WO fun b3 w a hM hE=>Zf (Zc (YP (parts:=[]) (vs:=[]) (cs:=enc (Vector.replicate 256 (0 : UInt8))) hE Za ld rfl rfl WO rfl ty5 Yr fun a hE=>ZF hE hM Za ld WO fun b5 w a hM hE=>Zm (seg:=enc (Vector.replicate 256 (0 : UInt8))) (cs':=enc (Vector.replicate 256 (0 : UInt8))) hE hM Za rfl rfl rfl WO (Flat.len _) (zle flq) (Flat.cell _) (Zn flq) fun w a hM hE=>Zf (wp_seq (Zc (Zl (cs:=enc p0) hE Za ld rfl WO rfl (hM.rawAt (pre:=[_,_])) (Flat.len _) fun a hE=>Zd hE Za ld rfl fun a hE=>Zf ?_))))))
 obtain ⟨j7,hl8,hF9⟩:=bind_some hF
 refine ZP (fun a w=>Env 18 a [(2,(ptr b3 0)),(3,(ptr b5 0))] ∧ M (Old w0) w0 w [raw b5 (enc j7),raw b3 (enc (Vector.replicate 256 (0 : UInt8)))]) ?_ ?_
 ·skip
  refine wp_block ?_
  have hM:=M.fst (l:=[_,_]) ((hM.pull (pre:=[_])).pull (pre:=[_]))
  refine ZJ (fun (s10 : (Vector UInt8 256) × Int) a w=>Env 18 a [(2,(ptr b3 0)),(3,(ptr b5 0)),(7,(Value.agg (enc p0).toArray)),(8,vI s10.2)] ∧ M (Old w0) w0 w [raw b5 (enc s10.1),raw b3 (enc (Vector.replicate 256 (0 : UInt8)))]) hl8 ⟨hE.sub ⟨rfl,rfl,rfl,rfl,trivial⟩,hM⟩ ?_
  rintro s10 a w ⟨hE,hM⟩ o13 hs11 hx12
  unfold YH at hs11
  refine Zc (Zk hE Za ld rfl rfl rfl fun a hE=>Zf (wp_seq ?_))
  refine Zr hE rfl ?_ ?_
  ·intro hb14
   have hs11:=Zw hs11 hb14
   refine wp_skip (Zt (wp_seq (wp_block (Zc (Zd hE Za ld rfl ?_))))); intro a hE
   obtain ⟨x15,hi17,hs11⟩:=bvx hs11
   refine VT hE Za ld rfl rfl Try.underlying49 ty5 rfl rfl hi17 rfl fun a hE=>Ze hE Za ld rfl fun a hE=>Ze hE Za ld rfl fun a hE=>Zf (wp_region_lit (Zd hE Za ld rfl fun a hE=>Zd hE Za ld rfl fun a hE=>Ve hE Za ld rfl Try.underlying3 Try.underlying5 ?_)); intro a hE
   rw [XH] at hE
   obtain ⟨x19,hi18,hs11⟩:=bvx hs11
   refine Zg hE Za ld rfl rfl Try.underlying49 ty5 hi18.1 fun a hE=>Zm (seg:=[(vB (ZO s10.2))]) (cs':=enc (s10.1.setIfInBounds ((bI x15)).toNat (ZO s10.2))) hE hM Za rfl rfl rfl ty5 rfl (ZI (v:=s10.1) (x:=ZO s10.2) hi18.1) (Flat.cell (ZO s10.2 : UInt8)) (Zu (v:=s10.1) (x:=ZO s10.2) hi18.1) fun w a hM hE=>Zi (Yi (Zt (wp_region_lit (Zk hE Za ld rfl rfl rfl fun a hE=>Zd hE Za ld rfl fun a hE=>Zi (Zj ?_)))))
   exact ⟨_,(ois hs11),hE.sub ⟨rfl,rfl,rfl,rfl,trivial⟩,hM⟩
  ·intro hb14
   have hs11:=Zx hs11 hb14
   refine wp_exit (Zp (Zp (Yj ?_)))
   have ht21:=hx12 _ (ois hs11)
   subst ht21
   refine Zj ?_
   exact ⟨hE.sub ⟨rfl,rfl,trivial⟩,hM⟩
 ·skip
  rintro a w ⟨hE,hM⟩
  refine Zt (Zc (Zl (cs:=enc j7) hE Za ld rfl WO rfl (hM.rawAt (pre:=[])) (Flat.len _) ?_)); intro a hE
  have hM:=hM.pull (pre:=[_])
  refine Zm (seg:=enc j7) (cs':=enc j7) hE hM Za rfl rfl rfl WO (Flat.len _) (zle flq) (Flat.cell _) (Zn flq) fun w a hM hE=>Zf ?_
  have hr:=Option.some.inj hF9
  subst hr
  have hq22 : YD Try.prog _ _ (.cell 2 49) _:=ZW hE rfl WO rfl (hM.rawAt (pre:=[])) (Flat.len _) rfl
  have hM:=M.fst (l:=[]) hM
  exact wp_ret (ZD hE rfl hq22 ⟨_,rfl,rfl,hM.kept⟩)
def Ym (p0 : (Vector UInt8 16)) (s10 : (Vector UInt8 16) × Int) : Option (Fl ((Vector UInt8 16) × Int) (Vector UInt8 16)) :=
 if (decide (s10.2 < 16)) = true then ((Zs p0 s10.2).bind fun x15=>(Zs s10.1 (bI x15)).bind fun x19=>some (Fl.nx ((s10.1.setIfInBounds ((bI x15)).toNat (ZO s10.2)),wr (s10.2 + 1)))) else (some (Fl.ex s10.1))
def YQ (p0 : (Vector UInt8 16)) : Option ((Vector UInt8 16)) :=
 (ZB (Ym p0) ((Vector.replicate 16 (0 : UInt8)),0)).bind fun j7=>some j7
theorem U2 (w0 : World) (p0 : (Vector UInt8 16)) (r : (Vector UInt8 16)) (hF : YQ p0 = some r) :
  Calls Try.prog 128 [(Value.agg (enc p0).toArray)].toArray w0 (fun en w'=>∃ v,en = .returned v ∧ (v = (Value.agg (enc r).toArray) ∧ Kept (Old w0) w0 w')):=by
 refine ZC (n:=18) Try.func128 rfl rfl (nbl rfl) rfl ?_
 intro a hE
 have hM:=M.start w0
 unfold YQ at hF
 refine Zc (ZX (cs:=enc p0) hE hM Za ld rfl rfl fun b1 w a hM hE=>ZF hE hM Za ld WZ fun b3 w a hM hE=>Zf (Zc (YP (parts:=[]) (vs:=[]) (cs:=enc (Vector.replicate 16 (0 : UInt8))) hE Za ld rfl rfl WZ rfl ty5 Yr fun a hE=>ZF hE hM Za ld WZ fun b5 w a hM hE=>Zm (seg:=enc (Vector.replicate 16 (0 : UInt8))) (cs':=enc (Vector.replicate 16 (0 : UInt8))) hE hM Za rfl rfl rfl WZ (Flat.len _) (zle flq) (Flat.cell _) (Zn flq) fun w a hM hE=>Zf (wp_seq (Zc (Zl (cs:=enc p0) hE Za ld rfl WZ rfl (hM.rawAt (pre:=[_,_])) (Flat.len _) fun a hE=>Zd hE Za ld rfl fun a hE=>Zf ?_))))))
 obtain ⟨j7,hl8,hF9⟩:=bind_some hF
 refine ZP (fun a w=>Env 18 a [(2,(ptr b3 0)),(3,(ptr b5 0))] ∧ M (Old w0) w0 w [raw b5 (enc j7),raw b3 (enc (Vector.replicate 16 (0 : UInt8)))]) ?_ ?_
 ·skip
  refine wp_block ?_
  have hM:=M.fst (l:=[_,_]) ((hM.pull (pre:=[_])).pull (pre:=[_]))
  refine ZJ (fun (s10 : (Vector UInt8 16) × Int) a w=>Env 18 a [(2,(ptr b3 0)),(3,(ptr b5 0)),(7,(Value.agg (enc p0).toArray)),(8,vI s10.2)] ∧ M (Old w0) w0 w [raw b5 (enc s10.1),raw b3 (enc (Vector.replicate 16 (0 : UInt8)))]) hl8 ⟨hE.sub ⟨rfl,rfl,rfl,rfl,trivial⟩,hM⟩ ?_
  rintro s10 a w ⟨hE,hM⟩ o13 hs11 hx12
  unfold Ym at hs11
  refine Zc (Zk hE Za ld rfl rfl rfl fun a hE=>Zf (wp_seq ?_))
  refine Zr hE rfl ?_ ?_
  ·intro hb14
   have hs11:=Zw hs11 hb14
   refine wp_skip (Zt (wp_seq (wp_block (Zc (Zd hE Za ld rfl ?_))))); intro a hE
   obtain ⟨x15,hi17,hs11⟩:=bvx hs11
   refine VT hE Za ld rfl rfl Try.underlying51 ty5 rfl rfl hi17 rfl fun a hE=>Ze hE Za ld rfl fun a hE=>Ze hE Za ld rfl fun a hE=>Zf (wp_region_lit (Zd hE Za ld rfl fun a hE=>Zd hE Za ld rfl fun a hE=>Ve hE Za ld rfl Try.underlying3 Try.underlying5 ?_)); intro a hE
   rw [XH] at hE
   obtain ⟨x19,hi18,hs11⟩:=bvx hs11
   refine Zg hE Za ld rfl rfl Try.underlying51 ty5 hi18.1 fun a hE=>Zm (seg:=[(vB (ZO s10.2))]) (cs':=enc (s10.1.setIfInBounds ((bI x15)).toNat (ZO s10.2))) hE hM Za rfl rfl rfl ty5 rfl (ZI (v:=s10.1) (x:=ZO s10.2) hi18.1) (Flat.cell (ZO s10.2 : UInt8)) (Zu (v:=s10.1) (x:=ZO s10.2) hi18.1) fun w a hM hE=>Zi (Yi (Zt (wp_region_lit (Zk hE Za ld rfl rfl rfl fun a hE=>Zd hE Za ld rfl fun a hE=>Zi (Zj ?_)))))
   exact ⟨_,(ois hs11),hE.sub ⟨rfl,rfl,rfl,rfl,trivial⟩,hM⟩
  ·intro hb14
   have hs11:=Zx hs11 hb14
   refine wp_exit (Zp (Zp (Yj ?_)))
   have ht21:=hx12 _ (ois hs11)
   subst ht21
   refine Zj ?_
   exact ⟨hE.sub ⟨rfl,rfl,trivial⟩,hM⟩
 ·skip
  rintro a w ⟨hE,hM⟩
  refine Zt (Zc (Zl (cs:=enc j7) hE Za ld rfl WZ rfl (hM.rawAt (pre:=[])) (Flat.len _) ?_)); intro a hE
  have hM:=hM.pull (pre:=[_])
  refine Zm (seg:=enc j7) (cs':=enc j7) hE hM Za rfl rfl rfl WZ (Flat.len _) (zle flq) (Flat.cell _) (Zn flq) fun w a hM hE=>Zf ?_
  have hr:=Option.some.inj hF9
  subst hr
  have hq22 : YD Try.prog _ _ (.cell 2 51) _:=ZW hE rfl WZ rfl (hM.rawAt (pre:=[])) (Flat.len _) rfl
  have hM:=M.fst (l:=[]) hM
  exact wp_ret (ZD hE rfl hq22 ⟨_,rfl,rfl,hM.kept⟩)
def XF (s8 : (Vector (Vector (Vector UInt8 256) 4) 4) × Int) (s19 : (Vector (Vector (Vector UInt8 256) 4) 4) × Int) (s30 : (Vector (Vector (Vector UInt8 256) 4) 4) × Int) (r35 : UInt8) (s40 : (Vector (Vector (Vector UInt8 256) 4) 4) × Int) : Option (Fl ((Vector (Vector (Vector UInt8 256) 4) 4) × Int) (Vector (Vector (Vector UInt8 256) 4) 4)) :=
 if (decide (s40.2 < s30.2)) = true then ((Zs s40.1 s8.2).bind fun x47=>(Zs x47 s19.2).bind fun x50=>(Zs x50 s40.2).bind fun x53=>(Zs s40.1 s8.2).bind fun x56=>(Zs x56 s19.2).bind fun x59=>(Zs x59 (orI s30.2 s40.2)).bind fun x62=>some (Fl.nx ((s40.1.setIfInBounds (s8.2).toNat (x56.setIfInBounds (s19.2).toNat (x59.setIfInBounds ((orI s30.2 s40.2)).toNat (r35 ^^^ x53)))),wr (s40.2 + 1)))) else (some (Fl.ex s40.1))
def XD (p0 : Int) (s8 : (Vector (Vector (Vector UInt8 256) 4) 4) × Int) (s19 : (Vector (Vector (Vector UInt8 256) 4) 4) × Int) (x24 : UInt8) (s30 : (Vector (Vector (Vector UInt8 256) 4) 4) × Int) : Option (Fl ((Vector (Vector (Vector UInt8 256) 4) 4) × Int) (Vector (Vector (Vector UInt8 256) 4) 4)) :=
 if (decide (s30.2 < 256)) = true then ((ZR p0 x24 (ZO s30.2)).bind fun r35=>(ZB (XF s8 s19 s30 r35) (s30.1,0)).bind fun j37=>some (Fl.nx (j37,wr (s30.2 * 2)))) else (some (Fl.ex s30.1))
def XB (p0 : Int) (s8 : (Vector (Vector (Vector UInt8 256) 4) 4) × Int) (x14 : (Vector UInt8 4)) (s19 : (Vector (Vector (Vector UInt8 256) 4) 4) × Int) : Option (Fl ((Vector (Vector (Vector UInt8 256) 4) 4) × Int) (Vector (Vector (Vector UInt8 256) 4) 4)) :=
 if (decide (s19.2 < 4)) = true then ((Zs x14 s19.2).bind fun x24=>(ZB (XD p0 s8 s19 x24) (s19.1,1)).bind fun j27=>some (Fl.nx (j27,wr (s19.2 + 1)))) else (some (Fl.ex s19.1))
def XJ (p0 : Int) (p1 : (Vector (Vector UInt8 4) 4)) (s8 : (Vector (Vector (Vector UInt8 256) 4) 4) × Int) : Option (Fl ((Vector (Vector (Vector UInt8 256) 4) 4) × Int) (Vector (Vector (Vector UInt8 256) 4) 4)) :=
 if (decide (s8.2 < 4)) = true then ((Zs p1 s8.2).bind fun x14=>(ZB (XB p0 s8 x14) (s8.1,0)).bind fun j16=>some (Fl.nx (j16,wr (s8.2 + 1)))) else (some (Fl.ex s8.1))
def XY (p0 : Int) (p1 : (Vector (Vector UInt8 4) 4)) : Option ((Ref (Vector (Vector (Vector UInt8 256) 4) 4))) :=
 (ZB (XJ p0 p1) ((Vector.replicate 4 (Vector.replicate 4 (Vector.replicate 256 (0 : UInt8)))),0)).bind fun j5=>some (⟨j5⟩ : (Ref (Vector (Vector (Vector UInt8 256) 4) 4)))
theorem UY (w0 : World) (p0 : Int) (p1 : (Vector (Vector UInt8 4) 4)) (r : (Ref (Vector (Vector (Vector UInt8 256) 4) 4))) (hF : XY p0 p1 = some r) :
  Calls Try.prog 129 [vI p0,(Value.agg (enc p1).toArray)].toArray w0 (fun en w'=>∃ v,en = .returned v ∧ (∃ (y1 : Value),v = y1 ∧ Fr w0 w' [own NoB (r : (Ref (Vector (Vector (Vector UInt8 256) 4) 4))) [y1]] ∧ Kept (Old w0) w0 w')):=by
 refine ZC (n:=62) Try.func129 rfl rfl (nbl rfl) rfl ?_
 intro a hE
 have hM:=M.start w0
 unfold XY at hF
 refine Zc (ZX (cs:=enc p1) hE hM Za ld rfl rfl fun b1 w a hM hE=>Ze hE Za ld rfl fun a hE=>Zf (Zc (YP (parts:=[]) (vs:=[]) (cs:=enc (Vector.replicate 4 (Vector.replicate 4 (Vector.replicate 256 (0 : UInt8))))) hE Za ld rfl rfl ty180 rfl KA Yr fun a hE=>ZX (cs:=enc (Vector.replicate 4 (Vector.replicate 4 (Vector.replicate 256 (0 : UInt8))))) hE hM Za ld rfl rfl fun b3 w a hM hE=>Ze hE Za ld rfl fun a hE=>Zf (wp_seq (Zc (Zd hE Za ld rfl fun a hE=>Zf ?_))))))
 obtain ⟨j5,hl6,hF7⟩:=bind_some hF
 refine ZP (fun a w=>Env 62 a [(5,(ptr b3 0))] ∧ M (Old w0) w0 w [raw b3 (enc j5)]) ?_ ?_
 ·skip
  refine wp_block ?_
  refine ZJ (fun (s8 : (Vector (Vector (Vector UInt8 256) 4) 4) × Int) a w=>Env 62 a [(0,vI p0),(3,(ptr b1 0)),(5,(ptr b3 0)),(14,vI s8.2)] ∧ M (Old w0) w0 w [raw b3 (enc s8.1),raw b1 (enc p1)]) hl6 ⟨hE.sub ⟨rfl,rfl,rfl,rfl,trivial⟩,hM⟩ ?_
  rintro s8 a w ⟨hE,hM⟩ o11 hs9 hx10
  unfold XJ at hs9
  refine Zc (Zk hE Za ld rfl rfl rfl fun a hE=>Zf (wp_seq ?_))
  refine Zr hE rfl ?_ ?_
  ·intro hb12
   have hs9:=Zw hs9 hb12
   refine wp_skip (Zt (wp_seq (wp_block (Zc (Zd hE Za ld rfl fun a hE=>Ze hE Za ld rfl fun a hE=>Zf (Zc (Zd hE Za ld rfl ?_))))))); intro a hE
   obtain ⟨x14,hi13,hs9⟩:=bvx hs9
   refine Zg hE Za ld rfl rfl Try.underlying50 Z4 hi13.1 fun a hE=>Zl (cs:=enc x14) hE Za ld rfl Z4 rfl (At.vec (hM.rawAt (pre:=[_])) hi13.2) (Flat.len _) fun a hE=>Zd hE Za ld rfl fun a hE=>Zf ?_
   obtain ⟨j16,hl17,hF18⟩:=bind_some hs9
   refine ZP (fun a w=>Env 62 a [(0,vI p0),(3,(ptr b1 0)),(5,(ptr b3 0)),(14,vI s8.2)] ∧ M (Old w0) w0 w [raw b3 (enc j16),raw b1 (enc p1)]) ?_ ?_
   ·skip
    refine wp_block ?_
    refine ZJ (fun (s19 : (Vector (Vector (Vector UInt8 256) 4) 4) × Int) a w=>Env 62 a [(0,vI p0),(3,(ptr b1 0)),(5,(ptr b3 0)),(6,vI s8.2),(14,vI s8.2),(19,(Value.agg (enc x14).toArray)),(20,vI s19.2)] ∧ M (Old w0) w0 w [raw b3 (enc s19.1),raw b1 (enc p1)]) hl17 ⟨hE.sub ⟨rfl,rfl,rfl,rfl,rfl,rfl,rfl,trivial⟩,hM⟩ ?_
    rintro s19 a w ⟨hE,hM⟩ o22 hs20 hx21
    unfold XB at hs20
    refine Zc (Zk hE Za ld rfl rfl rfl fun a hE=>Zf (wp_seq ?_))
    refine Zr hE rfl ?_ ?_
    ·intro hb23
     have hs20:=Zw hs20 hb23
     refine wp_skip (Zt (wp_seq (wp_block (Zc (Zd hE Za ld rfl ?_))))); intro a hE
     obtain ⟨x24,hi26,hs20⟩:=bvx hs20
     refine VT hE Za ld rfl rfl Try.underlying42 ty5 rfl rfl hi26 rfl fun a hE=>Ze hE Za ld rfl fun a hE=>Ze hE Za ld rfl fun a hE=>Zf (Zc (Ze hE Za ld rfl fun a hE=>Zf ?_))
     obtain ⟨j27,hl28,hF29⟩:=bind_some hs20
     refine ZP (fun a w=>Env 62 a [(0,vI p0),(3,(ptr b1 0)),(5,(ptr b3 0)),(6,vI s8.2),(14,vI s8.2),(19,(Value.agg (enc x14).toArray)),(20,vI s19.2)] ∧ M (Old w0) w0 w [raw b3 (enc j27),raw b1 (enc p1)]) ?_ ?_
     ·skip
      refine wp_block ?_
      refine ZJ (fun (s30 : (Vector (Vector (Vector UInt8 256) 4) 4) × Int) a w=>Env 62 a [(0,vI p0),(3,(ptr b1 0)),(5,(ptr b3 0)),(6,vI s8.2),(7,vI s19.2),(8,vB x24),(9,vI s30.2),(14,vI s8.2),(19,(Value.agg (enc x14).toArray)),(20,vI s19.2)] ∧ M (Old w0) w0 w [raw b3 (enc s30.1),raw b1 (enc p1)]) hl28 ⟨hE.sub ⟨rfl,rfl,rfl,rfl,rfl,rfl,rfl,rfl,rfl,rfl,trivial⟩,hM⟩ ?_
      rintro s30 a w ⟨hE,hM⟩ o33 hs31 hx32
      unfold XD at hs31
      refine wp_seq (Zc (Zd hE Za ld rfl fun a hE=>Zk hE Za ld rfl rfl rfl fun a hE=>Zf ?_))
      refine Zr hE rfl ?_ ?_
      ·intro hb34
       have hs31:=Zw hs31 hb34
       refine wp_skip (Zt (wp_seq (wp_block (Zc (Zd hE Za ld rfl fun a hE=>Zd hE Za ld rfl fun a hE=>Zd hE Za ld rfl fun a hE=>Ve hE Za ld rfl Try.underlying3 Try.underlying5 ?_))))); intro a hE
       rw [XH] at hE
       obtain ⟨r35,e36,hs31⟩:=bind_some hs31
       refine Zq hE Za ld rfl QU (Yc _ p0 x24 (ZO s30.2) r35 e36) ?_
       rintro v w a ⟨rfl,hK⟩ hE
       have hM:=hM.keep hK
       refine Ze hE Za ld rfl fun a hE=>Zf (Zc (Zd hE Za ld rfl fun a hE=>Zd hE Za ld rfl fun a hE=>Zf ?_))
       obtain ⟨j37,hl38,hF39⟩:=bind_some hs31
       refine ZP (fun a w=>Env 62 a [(0,vI p0),(3,(ptr b1 0)),(5,(ptr b3 0)),(6,vI s8.2),(7,vI s19.2),(8,vB x24),(9,vI s30.2),(14,vI s8.2),(19,(Value.agg (enc x14).toArray)),(20,vI s19.2)] ∧ M (Old w0) w0 w [raw b3 (enc j37),raw b1 (enc p1)]) ?_ ?_
       ·skip
        refine wp_block ?_
        refine ZJ (fun (s40 : (Vector (Vector (Vector UInt8 256) 4) 4) × Int) a w=>Env 62 a [(0,vI p0),(3,(ptr b1 0)),(5,(ptr b3 0)),(6,vI s8.2),(7,vI s19.2),(8,vB x24),(9,vI s30.2),(10,vB r35),(14,vI s8.2),(19,(Value.agg (enc x14).toArray)),(20,vI s19.2),(33,vI s30.2),(34,vI s40.2)] ∧ M (Old w0) w0 w [raw b3 (enc s40.1),raw b1 (enc p1)]) hl38 ⟨hE.sub ⟨rfl,rfl,rfl,rfl,rfl,rfl,rfl,rfl,rfl,rfl,rfl,rfl,rfl,trivial⟩,hM⟩ ?_
        rintro s40 a w ⟨hE,hM⟩ o43 hs41 hx42
        unfold XF at hs41
        refine Zc (Zk hE Za ld rfl rfl rfl fun a hE=>Zf (wp_seq ?_))
        refine Zr hE rfl ?_ ?_
        ·intro hb44
         have hs41:=Zw hs41 hb44
         refine wp_skip (Zt (wp_seq (wp_block (Zc (Zd hE Za ld rfl fun a hE=>Ze hE Za ld rfl fun a hE=>Zf ?_)))))
         obtain ⟨x47,hi46,hs41⟩:=bvx hs41
         obtain ⟨x50,hi49,hs41⟩:=bvx hs41
         obtain ⟨x53,hi52,hs41⟩:=bvx hs41
         obtain ⟨x56,hi55,hs41⟩:=bvx hs41
         obtain ⟨x59,hi58,hs41⟩:=bvx hs41
         obtain ⟨x62,hi61,hs41⟩:=bvx hs41
         refine Yd (n:=62) (hd:=[_,_,_,_,_,_,_,_,_,_,_,_,_,_,_,_,_,_,_,_,_]) (tl:=[_]) YR rfl rfl [37,38,39,40,41,42,43,44,45,46,47,48,49,50,51,52,53,54,55,56,57] (by decide) (fun w=>M (Old w0) w0 w [raw b3 (enc s40.1),raw b1 (enc p1)]) (fun j=>([fun v _=>v = (ptr b3 0),fun v _=>v = (vI s8.2),fun v _=>v = (vI s19.2),fun v _=>v = (vI s30.2),fun v _=>v = (vI s40.2),fun v _=>v = (vI (orI s30.2 s40.2)),fun v _=>v = (vB r35),fun v _=>v = (ptr b3 0),fun v _=>v = (vI s8.2),fun v _=>v = (vI s19.2),fun v _=>v = (vI s40.2),fun v _=>v = (ptr b3 0),fun v _=>v = (ptr b3 (0 + (s8.2).toNat * 1024)),fun v _=>v = (ptr b3 (0 + (s8.2).toNat * 1024 + (s19.2).toNat * 256)),fun v _=>v = (ptr b3 (0 + (s8.2).toNat * 1024 + (s19.2).toNat * 256 + (s40.2).toNat * 1)),fun v _=>v = (vB x53),fun v _=>v = (vB (r35 ^^^ x53)),fun v _=>v = (ptr b3 0),fun v _=>v = (ptr b3 (0 + (s8.2).toNat * 1024)),fun v _=>v = (ptr b3 (0 + (s8.2).toNat * 1024 + (s19.2).toNat * 256)),fun v _=>v = (ptr b3 (0 + (s8.2).toNat * 1024 + (s19.2).toNat * 256 + ((orI s30.2 s40.2)).toNat * 1))] : List (Value → World → Prop)).getD j (fun _ _=>True)) (fun _ _ h hk=>h.keep hk) (gup (Zh (Zh (Zh (Zh (Zh (Zh (Zh (Zh (Zh (Zh (Zh (Zh (Zh (Zh (Zh (Zh (Zh (Zh (Zh (Zh (Zh WV)))))))))))))))))))))) hE hM.drew (ZK (Zb ?_ (Zb ?_ (Zb ?_ (Zb ?_ (Zb ?_ (Zb ?_ (Zb ?_ (Zb ?_ (Zb ?_ (Zb ?_ (Zb ?_ (Zb ?_ (Zb ?_ (Zb ?_ (Zb ?_ (Zb ?_ (Zb ?_ (Zb ?_ (Zb ?_ (Zb ?_ (Zb ?_ ZE)))))))))))))))))))))) ?_
         ·exact fun a w ux45 hE hM hp=>Zd hE Za ld rfl fun a hE=>⟨Kept.refl _ _,_,_,rfl,hE,rfl⟩
         ·exact fun a w ux45 hE hM hp=>Zd hE Za ld rfl fun a hE=>⟨Kept.refl _ _,_,_,rfl,hE,rfl⟩
         ·exact fun a w ux45 hE hM hp=>Zd hE Za ld rfl fun a hE=>⟨Kept.refl _ _,_,_,rfl,hE,rfl⟩
         ·exact fun a w ux45 hE hM hp=>Zd hE Za ld rfl fun a hE=>⟨Kept.refl _ _,_,_,rfl,hE,rfl⟩
         ·exact fun a w ux45 hE hM hp=>Zd hE Za ld rfl fun a hE=>⟨Kept.refl _ _,_,_,rfl,hE,rfl⟩
         ·intro a w ux45 hE hM hp
          have f3 : ux45 3 = (vI s30.2):=hp 0 _ rfl rfl
          have f4 : ux45 4 = (vI s40.2):=hp 1 _ rfl rfl
          exact Zk hE Za ld (lk rfl f3) (lk rfl f4) rfl fun a hE=>⟨Kept.refl _ _,_,_,rfl,hE,rfl⟩
         ·exact fun a w ux45 hE hM hp=>Zd hE Za ld rfl fun a hE=>⟨Kept.refl _ _,_,_,rfl,hE,rfl⟩
         ·exact fun a w ux45 hE hM hp=>Zd hE Za ld rfl fun a hE=>⟨Kept.refl _ _,_,_,rfl,hE,rfl⟩
         ·exact fun a w ux45 hE hM hp=>Zd hE Za ld rfl fun a hE=>⟨Kept.refl _ _,_,_,rfl,hE,rfl⟩
         ·exact fun a w ux45 hE hM hp=>Zd hE Za ld rfl fun a hE=>⟨Kept.refl _ _,_,_,rfl,hE,rfl⟩
         ·exact fun a w ux45 hE hM hp=>Zd hE Za ld rfl fun a hE=>⟨Kept.refl _ _,_,_,rfl,hE,rfl⟩
         ·intro a w ux45 hE hM hp
          have f7 : ux45 7 = (ptr b3 0):=hp 0 _ rfl rfl
          exact Yx hE Za ld (lk rfl f7) fun a hE=>⟨Kept.refl _ _,_,_,rfl,hE,rfl⟩
         ·intro a w ux45 hE hM hp
          have f8 : ux45 8 = (vI s8.2):=hp 1 _ rfl rfl
          have f11 : ux45 11 = (ptr b3 0):=hp 0 _ rfl rfl
          exact Zg hE Za ld (lk rfl f11) (lk rfl f8) Try.underlying180 KA hi46.1 fun a hE=>⟨Kept.refl _ _,_,_,rfl,hE,rfl⟩
         ·intro a w ux45 hE hM hp
          have f9 : ux45 9 = (vI s19.2):=hp 1 _ rfl rfl
          have f12 : ux45 12 = (ptr b3 (0 + (s8.2).toNat * 1024)):=hp 0 _ rfl rfl
          exact Zg hE Za ld (lk rfl f12) (lk rfl f9) Try.underlying178 JY hi49.1 fun a hE=>⟨Kept.refl _ _,_,_,rfl,hE,rfl⟩
         ·intro a w ux45 hE hM hp
          have f10 : ux45 10 = (vI s40.2):=hp 1 _ rfl rfl
          have f13 : ux45 13 = (ptr b3 (0 + (s8.2).toNat * 1024 + (s19.2).toNat * 256)):=hp 0 _ rfl rfl
          exact Zg hE Za ld (lk rfl f13) (lk rfl f10) Try.underlying41 ty5 hi52.1 fun a hE=>⟨Kept.refl _ _,_,_,rfl,hE,rfl⟩
         ·intro a w ux45 hE hM hp
          have f14 : ux45 14 = (ptr b3 (0 + (s8.2).toNat * 1024 + (s19.2).toNat * 256 + (s40.2).toNat * 1)):=hp 0 _ rfl rfl
          exact Zv (v:=(vB x53)) hE Za ld (lk rfl f14) ty5 rfl (At.vec (At.vec (At.vec (hM.rawAt (pre:=[])) hi46.2) hi49.2) hi52.2) fun a hE=>⟨Kept.refl _ _,_,_,rfl,hE,rfl⟩
         ·intro a w ux45 hE hM hp
          have f6 : ux45 6 = (vB r35):=hp 0 _ rfl rfl
          have f15 : ux45 15 = (vB x53):=hp 1 _ rfl rfl
          exact Zk hE Za ld (lk rfl f6) (lk rfl f15) (Vc r35 x53) fun a hE=>⟨Kept.refl _ _,_,_,rfl,hE,rfl⟩
         ·intro a w ux45 hE hM hp
          have f0 : ux45 0 = (ptr b3 0):=hp 0 _ rfl rfl
          exact Yx hE Za ld (lk rfl f0) fun a hE=>⟨Kept.refl _ _,_,_,rfl,hE,rfl⟩
         ·intro a w ux45 hE hM hp
          have f1 : ux45 1 = (vI s8.2):=hp 1 _ rfl rfl
          have f17 : ux45 17 = (ptr b3 0):=hp 0 _ rfl rfl
          exact Zg hE Za ld (lk rfl f17) (lk rfl f1) Try.underlying180 KA hi55.1 fun a hE=>⟨Kept.refl _ _,_,_,rfl,hE,rfl⟩
         ·intro a w ux45 hE hM hp
          have f2 : ux45 2 = (vI s19.2):=hp 1 _ rfl rfl
          have f18 : ux45 18 = (ptr b3 (0 + (s8.2).toNat * 1024)):=hp 0 _ rfl rfl
          exact Zg hE Za ld (lk rfl f18) (lk rfl f2) Try.underlying178 JY hi58.1 fun a hE=>⟨Kept.refl _ _,_,_,rfl,hE,rfl⟩
         ·intro a w ux45 hE hM hp
          have f5 : ux45 5 = (vI (orI s30.2 s40.2)):=hp 1 _ rfl rfl
          have f19 : ux45 19 = (ptr b3 (0 + (s8.2).toNat * 1024 + (s19.2).toNat * 256)):=hp 0 _ rfl rfl
          exact Zg hE Za ld (lk rfl f19) (lk rfl f5) Try.underlying41 ty5 hi61.1 fun a hE=>⟨Kept.refl _ _,_,_,rfl,hE,rfl⟩
         ·intro a w ux45 hE hM hg
          have hE:=hE.sub (e':=[(53,(vB (r35 ^^^ x53))),(57,(ptr b3 (0 + (s8.2).toNat * 1024 + (s19.2).toNat * 256 + ((orI s30.2 s40.2)).toNat * 1))),(0,vI p0),(3,(ptr b1 0)),(5,(ptr b3 0)),(6,vI s8.2),(7,vI s19.2),(8,vB x24),(9,vI s30.2),(10,vB r35),(11,vI s40.2),(14,vI s8.2),(19,(Value.agg (enc x14).toArray)),(20,vI s19.2),(33,vI s30.2),(34,vI s40.2),(35,(vT (decide (s40.2 < s30.2)))),(36,vI s40.2)]) ⟨lk rfl (hg 16 (by decide)),lk rfl (hg 20 (by decide)),rfl,rfl,rfl,rfl,rfl,rfl,rfl,rfl,rfl,rfl,rfl,rfl,rfl,rfl,rfl,rfl,trivial⟩
          refine Zm (seg:=[(vB (r35 ^^^ x53))]) (cs':=enc (s40.1.setIfInBounds (s8.2).toNat (x56.setIfInBounds (s19.2).toNat (x59.setIfInBounds ((orI s30.2 s40.2)).toNat (r35 ^^^ x53))))) hE hM Za rfl rfl rfl ty5 rfl (Wk (o':=(s19.2).toNat * 256 + (0 + ((orI s30.2 s40.2)).toNat * 1)) hi55 (Wk (o':=0 + ((orI s30.2 s40.2)).toNat * 1) hi58 (ZI (v:=x59) (x:=r35 ^^^ x53) hi61.1) (by first | omega | (simp only [Flat.n] <;> omega))) (by first | omega | (simp only [Flat.n] <;> omega))) (Flat.cell (r35 ^^^ x53 : UInt8)) (YM (o':=(s19.2).toNat * 256 + (0 + ((orI s30.2 s40.2)).toNat * 1)) hi55 (Wk (o':=0 + ((orI s30.2 s40.2)).toNat * 1) hi58 (ZI (v:=x59) (x:=r35 ^^^ x53) hi61.1) (by first | omega | (simp only [Flat.n] <;> omega))) (YM (o':=0 + ((orI s30.2 s40.2)).toNat * 1) hi58 (ZI (v:=x59) (x:=r35 ^^^ x53) hi61.1) (Zu (v:=x59) (x:=r35 ^^^ x53) hi61.1) (by first | omega | (simp only [Flat.n] <;> omega))) (by first | omega | (simp only [Flat.n] <;> omega))) fun w a hM hE=>Zi (Yi (Zt (wp_region_lit (Zk hE Za ld rfl rfl rfl fun a hE=>Zd hE Za ld rfl fun a hE=>Zi (Zj ?_)))))
          exact ⟨_,(ois hs41),hE.sub ⟨rfl,rfl,rfl,rfl,rfl,rfl,rfl,rfl,rfl,rfl,rfl,rfl,rfl,trivial⟩,hM⟩
        ·intro hb44
         have hs41:=Zx hs41 hb44
         refine wp_exit (Zp (Zp (Yj ?_)))
         have ht64:=hx42 _ (ois hs41)
         subst ht64
         refine Zj ?_
         exact ⟨hE.sub ⟨rfl,rfl,rfl,rfl,rfl,rfl,rfl,rfl,rfl,rfl,trivial⟩,hM⟩
       ·skip
        rintro a w ⟨hE,hM⟩
        refine Yi (Zt (wp_region_lit (Zd hE Za ld rfl fun a hE=>Zk hE Za ld rfl rfl rfl fun a hE=>Ze hE Za ld rfl fun a hE=>Zi (Zj ?_))))
        exact ⟨_,(ois hF39),hE.sub ⟨rfl,rfl,rfl,rfl,rfl,rfl,rfl,rfl,rfl,rfl,trivial⟩,hM⟩
      ·intro hb34
       have hs31:=Zx hs31 hb34
       refine wp_exit (Zp (Zp (Yj ?_)))
       have ht65:=hx32 _ (ois hs31)
       subst ht65
       refine Zj ?_
       exact ⟨hE.sub ⟨rfl,rfl,rfl,rfl,rfl,rfl,rfl,trivial⟩,hM⟩
     ·skip
      rintro a w ⟨hE,hM⟩
      refine Yi (Zt (wp_region_lit (Zk hE Za ld rfl rfl rfl fun a hE=>Zd hE Za ld rfl fun a hE=>Zi (Zj ?_))))
      exact ⟨_,(ois hF29),hE.sub ⟨rfl,rfl,rfl,rfl,rfl,rfl,rfl,trivial⟩,hM⟩
    ·intro hb23
     have hs20:=Zx hs20 hb23
     refine wp_exit (Zp (Zp (Yj ?_)))
     have ht66:=hx21 _ (ois hs20)
     subst ht66
     refine Zj ?_
     exact ⟨hE.sub ⟨rfl,rfl,rfl,rfl,trivial⟩,hM⟩
   ·skip
    rintro a w ⟨hE,hM⟩
    refine Yi (Zt (wp_region_lit (Zk hE Za ld rfl rfl rfl fun a hE=>Zd hE Za ld rfl fun a hE=>Zi (Zj ?_))))
    exact ⟨_,(ois hF18),hE.sub ⟨rfl,rfl,rfl,rfl,trivial⟩,hM⟩
  ·intro hb12
   have hs9:=Zx hs9 hb12
   refine wp_exit (Zp (Zp (Yj ?_)))
   have ht67:=hx10 _ (ois hs9)
   subst ht67
   refine Zj ?_
   have hM:=M.fst (l:=[_]) hM
   exact ⟨hE.sub ⟨rfl,trivial⟩,hM⟩
 ·skip
  rintro a w ⟨hE,hM⟩
  refine Zt (Zc (Zd hE Za ld rfl fun a hE=>Ze hE Za ld rfl fun a hE=>Zf ?_))
  have hM:=M.toRefF (x:=j5) hM
  have hr:=Option.some.inj hF7
  subst hr
  exact wp_ret (ZD hE rfl (ZA hE rfl) ⟨_,rfl,(ptr b3 0),rfl,hM.outF (locNO QZ),hM.kept⟩)
def Wm (p0 : GCipher) : Option ((Ref Gengine)) :=
 (Yp p0.Field p0.Mix).bind fun r3=>(XK p0.Box).bind fun r8=>(YQ p0.Places).bind fun r10=>(XY p0.Field p0.Mix).bind fun r12=>(XY p0.Field r3.2).bind fun r15=>some (⟨(⟨p0.Box,r8,p0.Places,r10,r12,r15,p0.Rounds⟩ : Gengine)⟩ : (Ref Gengine))
theorem QT (w0 : World) (p0 : GCipher) (r : (Ref Gengine)) (hF : Wm p0 = some r) :
  Calls Try.prog 75 [(Value.agg (enc p0).toArray)].toArray w0 (fun en w'=>∃ v,en = .returned v ∧ (∃ (y1 : Value),v = y1 ∧ Fr w0 w' [own NoB (r : (Ref Gengine)) [y1]] ∧ Kept (Old w0) w0 w')):=by
 refine ZC (n:=36) Try.func75 rfl rfl (nbl rfl) rfl ?_
 intro a hE
 have hM:=M.start w0
 unfold Wm at hF
 refine Zc (ZX (cs:=cat [[vI p0.Field],enc p0.Box,enc p0.Mix,enc p0.Places,[vI p0.Rounds]]) hE hM Za ld rfl rfl fun b1 w a hM hE=>Ze hE Za ld rfl fun a hE=>Zf (Zc (Zo hE Za ld rfl (Ud) fun a hE=>Zv (v:=(vI p0.Field)) hE Za ld rfl ty2 rfl (At.cat (pre:=[]) (hM.rawAt (pre:=[])) cl0) fun a hE=>Zo hE Za ld rfl (TV) fun a hE=>Zl (cs:=enc p0.Mix) hE Za ld rfl Yw rfl (At.cat (pre:=[[vI p0.Field],enc p0.Box]) (hM.rawAt (pre:=[])) (cl1 (n:=1) (m:=256) rfl (cl1 (n:=256) (m:=0) (Flat.len _) cl0))) (Flat.len _) ?_))); intro a hE
 obtain ⟨r3,e4,hF⟩:=bind_some hF
 refine Zq hE Za ld rfl cb126 (VX _ p0.Field p0.Mix r3 e4) ?_
 rintro v w a ⟨rfl,hK⟩ hE
 have hM:=hM.keep hK
 refine Zd hE Za ld rfl fun a hE=>Yt hE Za ld rfl rfl fun a hE=>Yt hE Za ld rfl rfl fun a hE=>ZF hE hM Za ld Yw fun b5 w a hM hE=>Ze hE Za ld rfl fun a hE=>Zm (seg:=enc r3.2) (cs':=enc r3.2) hE hM Za rfl rfl rfl Yw (Flat.len _) (zle flq) (Flat.cell _) (Zn flq) fun w a hM hE=>Zf (wp_seq ?_)
 obtain ⟨r8,e9,hF⟩:=bind_some hF
 obtain ⟨r10,e11,hF⟩:=bind_some hF
 obtain ⟨r12,e13,hF⟩:=bind_some hF
 obtain ⟨r15,e16,hF⟩:=bind_some hF
 refine HT (n:=36) (hd:=[_,_,_,_,_,_,_,_,_,_,_,_,_,_,_,_,_,_,_,_,_]) (tl:=[_,_,_]) (its:=[raw b5 (enc r3.2),raw b1 (cat [[vI p0.Field],enc p0.Box,enc p0.Mix,enc p0.Places,[vI p0.Rounds]])]) YR rfl rfl [13,14,15,16,17,18,19,20,21,22,23,24,25,26,27,28,29,30,31,32,33] (by decide) [(14,fun v=>own NoB (r12 : (Ref (Vector (Vector (Vector UInt8 256) 4) 4))) [v]),(18,fun v=>own NoB (r15 : (Ref (Vector (Vector (Vector UInt8 256) 4) 4))) [v])] rfl (fun j=>([fun v=>v = (ptr b1 (0 + 1)),fun v=>v = (Value.agg (enc p0.Box).toArray),fun v=>v = (ptr b1 (0 + 1)),fun v=>v = (Value.agg (enc p0.Box).toArray),fun v=>v = (Value.agg (enc r8).toArray),fun v=>v = (ptr b1 (0 + 273)),fun v=>v = (Value.agg (enc p0.Places).toArray),fun v=>v = (ptr b1 (0 + 273)),fun v=>v = (Value.agg (enc p0.Places).toArray),fun v=>v = (Value.agg (enc r10).toArray),fun v=>v = (ptr b1 (0 + 0)),fun v=>v = (vI p0.Field),fun v=>v = (ptr b1 (0 + 257)),fun v=>v = (Value.agg (enc p0.Mix).toArray),fun v=>True,fun v=>v = (ptr b1 (0 + 0)),fun v=>v = (vI p0.Field),fun v=>v = (Value.agg (enc r3.2).toArray),fun v=>True,fun v=>v = (ptr b1 (0 + 289)),fun v=>v = (vI p0.Rounds)] : List (Value → Prop)).getD j (fun _=>True)) hE hM.drew (ZK (Zb ?_ (Zb ?_ (Zb ?_ (Zb ?_ (Zb ?_ (Zb ?_ (Zb ?_ (Zb ?_ (Zb ?_ (Zb ?_ (Zb ?_ (Zb ?_ (Zb ?_ (Zb ?_ (Zb ?_ (Zb ?_ (Zb ?_ (Zb ?_ (Zb ?_ (Zb ?_ (Zb ?_ ZE)))))))))))))))))))))) ?_
 ·intro a w ux7 D hE hM hD hp
  have hM0:=hM
  exact Zo hE Za ld rfl (Ti) fun a hE=>⟨_,_,rfl,hE,rfl,hM0.optKeep rfl⟩
 ·intro a w ux7 D hE hM hD hp
  have f0 : ux7 0 = (ptr b1 (0 + 1)):=(hp 0 _ rfl rfl).2
  have hM0:=hM
  have hM : M (Old w0) w0 w [raw b5 (enc r3.2),raw b1 (cat [[vI p0.Field],enc p0.Box,enc p0.Mix,enc p0.Places,[vI p0.Rounds]]),opt (D 14) (own NoB (r12 : (Ref (Vector (Vector (Vector UInt8 256) 4) 4))) [(ux7 14)]),opt (D 18) (own NoB (r15 : (Ref (Vector (Vector (Vector UInt8 256) 4) 4))) [(ux7 18)])]:=hM
  exact Zl (cs:=enc p0.Box) hE Za ld (lk rfl f0) WO rfl (At.cat (pre:=[[vI p0.Field]]) (hM.rawAt (pre:=[_])) (cl1 (n:=1) (m:=0) rfl cl0)) (Flat.len _) fun a hE=>⟨_,_,rfl,hE,rfl,hM0.optKeep rfl⟩
 ·intro a w ux7 D hE hM hD hp
  have hM0:=hM
  exact Zo hE Za ld rfl (Ti) fun a hE=>⟨_,_,rfl,hE,rfl,hM0.optKeep rfl⟩
 ·intro a w ux7 D hE hM hD hp
  have f2 : ux7 2 = (ptr b1 (0 + 1)):=(hp 0 _ rfl rfl).2
  have hM0:=hM
  have hM : M (Old w0) w0 w [raw b5 (enc r3.2),raw b1 (cat [[vI p0.Field],enc p0.Box,enc p0.Mix,enc p0.Places,[vI p0.Rounds]]),opt (D 14) (own NoB (r12 : (Ref (Vector (Vector (Vector UInt8 256) 4) 4))) [(ux7 14)]),opt (D 18) (own NoB (r15 : (Ref (Vector (Vector (Vector UInt8 256) 4) 4))) [(ux7 18)])]:=hM
  exact Zl (cs:=enc p0.Box) hE Za ld (lk rfl f2) WO rfl (At.cat (pre:=[[vI p0.Field]]) (hM.rawAt (pre:=[_])) (cl1 (n:=1) (m:=0) rfl cl0)) (Flat.len _) fun a hE=>⟨_,_,rfl,hE,rfl,hM0.optKeep rfl⟩
 ·intro a w ux7 D hE hM hD hp
  have f3 : ux7 3 = (Value.agg (enc p0.Box).toArray):=(hp 0 _ rfl rfl).2
  have hM0:=hM
  refine Zq hE Za ld (ZV (ZT (lk rfl f3) Xw)) cb127 (TH _ p0.Box r8 e9) ?_
  rintro v w a ⟨rfl,hK⟩ hE
  exact ⟨_,_,rfl,hE,rfl,(hM0.keep hK).optKeep rfl⟩
 ·intro a w ux7 D hE hM hD hp
  have hM0:=hM
  exact Zo hE Za ld rfl (TK) fun a hE=>⟨_,_,rfl,hE,rfl,hM0.optKeep rfl⟩
 ·intro a w ux7 D hE hM hD hp
  have f5 : ux7 5 = (ptr b1 (0 + 273)):=(hp 0 _ rfl rfl).2
  have hM0:=hM
  have hM : M (Old w0) w0 w [raw b5 (enc r3.2),raw b1 (cat [[vI p0.Field],enc p0.Box,enc p0.Mix,enc p0.Places,[vI p0.Rounds]]),opt (D 14) (own NoB (r12 : (Ref (Vector (Vector (Vector UInt8 256) 4) 4))) [(ux7 14)]),opt (D 18) (own NoB (r15 : (Ref (Vector (Vector (Vector UInt8 256) 4) 4))) [(ux7 18)])]:=hM
  exact Zl (cs:=enc p0.Places) hE Za ld (lk rfl f5) WZ rfl (At.cat (pre:=[[vI p0.Field],enc p0.Box,enc p0.Mix]) (hM.rawAt (pre:=[_])) (cl1 (n:=1) (m:=272) rfl (cl1 (n:=256) (m:=16) (Flat.len _) (cl1 (n:=16) (m:=0) (Flat.len _) cl0)))) (Flat.len _) fun a hE=>⟨_,_,rfl,hE,rfl,hM0.optKeep rfl⟩
 ·intro a w ux7 D hE hM hD hp
  have hM0:=hM
  exact Zo hE Za ld rfl (TK) fun a hE=>⟨_,_,rfl,hE,rfl,hM0.optKeep rfl⟩
 ·intro a w ux7 D hE hM hD hp
  have f7 : ux7 7 = (ptr b1 (0 + 273)):=(hp 0 _ rfl rfl).2
  have hM0:=hM
  have hM : M (Old w0) w0 w [raw b5 (enc r3.2),raw b1 (cat [[vI p0.Field],enc p0.Box,enc p0.Mix,enc p0.Places,[vI p0.Rounds]]),opt (D 14) (own NoB (r12 : (Ref (Vector (Vector (Vector UInt8 256) 4) 4))) [(ux7 14)]),opt (D 18) (own NoB (r15 : (Ref (Vector (Vector (Vector UInt8 256) 4) 4))) [(ux7 18)])]:=hM
  exact Zl (cs:=enc p0.Places) hE Za ld (lk rfl f7) WZ rfl (At.cat (pre:=[[vI p0.Field],enc p0.Box,enc p0.Mix]) (hM.rawAt (pre:=[_])) (cl1 (n:=1) (m:=272) rfl (cl1 (n:=256) (m:=16) (Flat.len _) (cl1 (n:=16) (m:=0) (Flat.len _) cl0)))) (Flat.len _) fun a hE=>⟨_,_,rfl,hE,rfl,hM0.optKeep rfl⟩
 ·intro a w ux7 D hE hM hD hp
  have f8 : ux7 8 = (Value.agg (enc p0.Places).toArray):=(hp 0 _ rfl rfl).2
  have hM0:=hM
  refine Zq hE Za ld (ZV (ZT (lk rfl f8) Xw)) cb128 (U2 _ p0.Places r10 e11) ?_
  rintro v w a ⟨rfl,hK⟩ hE
  exact ⟨_,_,rfl,hE,rfl,(hM0.keep hK).optKeep rfl⟩
 ·intro a w ux7 D hE hM hD hp
  have hM0:=hM
  exact Zo hE Za ld rfl (Ud) fun a hE=>⟨_,_,rfl,hE,rfl,hM0.optKeep rfl⟩
 ·intro a w ux7 D hE hM hD hp
  have f10 : ux7 10 = (ptr b1 (0 + 0)):=(hp 0 _ rfl rfl).2
  have hM0:=hM
  have hM : M (Old w0) w0 w [raw b5 (enc r3.2),raw b1 (cat [[vI p0.Field],enc p0.Box,enc p0.Mix,enc p0.Places,[vI p0.Rounds]]),opt (D 14) (own NoB (r12 : (Ref (Vector (Vector (Vector UInt8 256) 4) 4))) [(ux7 14)]),opt (D 18) (own NoB (r15 : (Ref (Vector (Vector (Vector UInt8 256) 4) 4))) [(ux7 18)])]:=hM
  exact Zv (v:=(vI p0.Field)) hE Za ld (lk rfl f10) ty2 rfl (At.cat (pre:=[]) (hM.rawAt (pre:=[_])) cl0) fun a hE=>⟨_,_,rfl,hE,rfl,hM0.optKeep rfl⟩
 ·intro a w ux7 D hE hM hD hp
  have hM0:=hM
  exact Zo hE Za ld rfl (TV) fun a hE=>⟨_,_,rfl,hE,rfl,hM0.optKeep rfl⟩
 ·intro a w ux7 D hE hM hD hp
  have f12 : ux7 12 = (ptr b1 (0 + 257)):=(hp 0 _ rfl rfl).2
  have hM0:=hM
  have hM : M (Old w0) w0 w [raw b5 (enc r3.2),raw b1 (cat [[vI p0.Field],enc p0.Box,enc p0.Mix,enc p0.Places,[vI p0.Rounds]]),opt (D 14) (own NoB (r12 : (Ref (Vector (Vector (Vector UInt8 256) 4) 4))) [(ux7 14)]),opt (D 18) (own NoB (r15 : (Ref (Vector (Vector (Vector UInt8 256) 4) 4))) [(ux7 18)])]:=hM
  exact Zl (cs:=enc p0.Mix) hE Za ld (lk rfl f12) Yw rfl (At.cat (pre:=[[vI p0.Field],enc p0.Box]) (hM.rawAt (pre:=[_])) (cl1 (n:=1) (m:=256) rfl (cl1 (n:=256) (m:=0) (Flat.len _) cl0))) (Flat.len _) fun a hE=>⟨_,_,rfl,hE,rfl,hM0.optKeep rfl⟩
 ·intro a w ux7 D hE hM hD hp
  have f11 : ux7 11 = (vI p0.Field):=(hp 0 _ rfl rfl).2
  have f13 : ux7 13 = (Value.agg (enc p0.Mix).toArray):=(hp 1 _ rfl rfl).2
  have hM0:=hM
  have hM : M (Old w0) w0 w [raw b5 (enc r3.2),raw b1 (cat [[vI p0.Field],enc p0.Box,enc p0.Mix,enc p0.Places,[vI p0.Rounds]]),opt (D 14) (own NoB (r12 : (Ref (Vector (Vector (Vector UInt8 256) 4) 4))) [(ux7 14)]),opt (D 18) (own NoB (r15 : (Ref (Vector (Vector (Vector UInt8 256) 4) 4))) [(ux7 18)])]:=hM
  refine Zq hE Za ld (ZV (ZT (lk rfl f11) (ZT (lk rfl f13) Xw))) cb129 (UY _ p0.Field p0.Mix r12 e13) ?_
  rintro _ w a ⟨_,rfl,hFr,hK⟩ hE
  have hM:=hM0.add hK hFr
  exact ⟨_,_,rfl,hE,trivial,M.optFill (mk1:=[]) (mk2:=[_]) (f:=(fun v=>own NoB (r12 : (Ref (Vector (Vector (Vector UInt8 256) 4) 4))) [v])) hM rfl hD⟩
 ·intro a w ux7 D hE hM hD hp
  have hM0:=hM
  exact Zo hE Za ld rfl (Ud) fun a hE=>⟨_,_,rfl,hE,rfl,hM0.optKeep rfl⟩
 ·intro a w ux7 D hE hM hD hp
  have f15 : ux7 15 = (ptr b1 (0 + 0)):=(hp 0 _ rfl rfl).2
  have hM0:=hM
  have hM : M (Old w0) w0 w [raw b5 (enc r3.2),raw b1 (cat [[vI p0.Field],enc p0.Box,enc p0.Mix,enc p0.Places,[vI p0.Rounds]]),opt (D 14) (own NoB (r12 : (Ref (Vector (Vector (Vector UInt8 256) 4) 4))) [(ux7 14)]),opt (D 18) (own NoB (r15 : (Ref (Vector (Vector (Vector UInt8 256) 4) 4))) [(ux7 18)])]:=hM
  exact Zv (v:=(vI p0.Field)) hE Za ld (lk rfl f15) ty2 rfl (At.cat (pre:=[]) (hM.rawAt (pre:=[_])) cl0) fun a hE=>⟨_,_,rfl,hE,rfl,hM0.optKeep rfl⟩
 ·intro a w ux7 D hE hM hD hp
  have hM0:=hM
  have hM : M (Old w0) w0 w [raw b5 (enc r3.2),raw b1 (cat [[vI p0.Field],enc p0.Box,enc p0.Mix,enc p0.Places,[vI p0.Rounds]]),opt (D 14) (own NoB (r12 : (Ref (Vector (Vector (Vector UInt8 256) 4) 4))) [(ux7 14)]),opt (D 18) (own NoB (r15 : (Ref (Vector (Vector (Vector UInt8 256) 4) 4))) [(ux7 18)])]:=hM
  exact Zl (cs:=enc r3.2) hE Za ld rfl Yw rfl (hM.rawAt (pre:=[])) (Flat.len _) fun a hE=>⟨_,_,rfl,hE,rfl,hM0.optKeep rfl⟩
 ·intro a w ux7 D hE hM hD hp
  have f16 : ux7 16 = (vI p0.Field):=(hp 0 _ rfl rfl).2
  have f17 : ux7 17 = (Value.agg (enc r3.2).toArray):=(hp 1 _ rfl rfl).2
  have hM0:=hM
  have hM : M (Old w0) w0 w [raw b5 (enc r3.2),raw b1 (cat [[vI p0.Field],enc p0.Box,enc p0.Mix,enc p0.Places,[vI p0.Rounds]]),opt (D 14) (own NoB (r12 : (Ref (Vector (Vector (Vector UInt8 256) 4) 4))) [(ux7 14)]),opt (D 18) (own NoB (r15 : (Ref (Vector (Vector (Vector UInt8 256) 4) 4))) [(ux7 18)])]:=hM
  refine Zq hE Za ld (ZV (ZT (lk rfl f16) (ZT (lk rfl f17) Xw))) cb129 (UY _ p0.Field r3.2 r15 e16) ?_
  rintro _ w a ⟨_,rfl,hFr,hK⟩ hE
  have hM:=hM0.add hK hFr
  exact ⟨_,_,rfl,hE,trivial,M.optFill (mk1:=[_]) (mk2:=[]) (f:=(fun v=>own NoB (r15 : (Ref (Vector (Vector (Vector UInt8 256) 4) 4))) [v])) hM rfl hD⟩
 ·intro a w ux7 D hE hM hD hp
  have hM0:=hM
  exact Zo hE Za ld rfl (TJ) fun a hE=>⟨_,_,rfl,hE,rfl,hM0.optKeep rfl⟩
 ·intro a w ux7 D hE hM hD hp
  have f19 : ux7 19 = (ptr b1 (0 + 289)):=(hp 0 _ rfl rfl).2
  have hM0:=hM
  have hM : M (Old w0) w0 w [raw b5 (enc r3.2),raw b1 (cat [[vI p0.Field],enc p0.Box,enc p0.Mix,enc p0.Places,[vI p0.Rounds]]),opt (D 14) (own NoB (r12 : (Ref (Vector (Vector (Vector UInt8 256) 4) 4))) [(ux7 14)]),opt (D 18) (own NoB (r15 : (Ref (Vector (Vector (Vector UInt8 256) 4) 4))) [(ux7 18)])]:=hM
  exact Zv (v:=(vI p0.Rounds)) hE Za ld (lk rfl f19) ty2 rfl (At.cat (pre:=[[vI p0.Field],enc p0.Box,enc p0.Mix,enc p0.Places]) (hM.rawAt (pre:=[_])) (cl1 (n:=1) (m:=288) rfl (cl1 (n:=256) (m:=32) (Flat.len _) (cl1 (n:=16) (m:=16) (Flat.len _) (cl1 (n:=16) (m:=0) (Flat.len _) cl0))))) fun a hE=>⟨_,_,rfl,hE,rfl,hM0.optKeep rfl⟩
 ·intro a w ux7 hE hM hg
  have f1 : ux7 1 = (Value.agg (enc p0.Box).toArray):=hg 1 (by decide)
  have hM : M (Old w0) w0 w [raw b5 (enc r3.2),raw b1 (cat [[vI p0.Field],enc p0.Box,enc p0.Mix,enc p0.Places,[vI p0.Rounds]]),own NoB (r12 : (Ref (Vector (Vector (Vector UInt8 256) 4) 4))) [(ux7 14)],own NoB (r15 : (Ref (Vector (Vector (Vector UInt8 256) 4) 4))) [(ux7 18)]]:=hM
  have hE:=hE.sub (e':=[(14,(Value.agg (enc p0.Box).toArray)),(17,(Value.agg (enc r8).toArray)),(19,(Value.agg (enc p0.Places).toArray)),(22,(Value.agg (enc r10).toArray)),(27,(ux7 14)),(31,(ux7 18)),(33,vI p0.Rounds),(2,(Value.pointer none))]) ⟨lk rfl f1,lk rfl (hg 4 (by decide)),lk rfl (hg 6 (by decide)),lk rfl (hg 9 (by decide)),rfl,rfl,lk rfl (hg 20 (by decide)),rfl,trivial⟩
  refine TP (parts:=[(0,.tmp 14),(1,.tmp 17),(2,.tmp 19),(3,.tmp 22),(4,.tmp 27),(5,.tmp 31),(6,.tmp 33)]) (vs:=[(0,(Value.agg (enc p0.Box).toArray)),(1,(Value.agg (enc r8).toArray)),(2,(Value.agg (enc p0.Places).toArray)),(3,(Value.agg (enc r10).toArray)),(4,(ux7 14)),(5,(ux7 18)),(6,vI p0.Rounds)]) (cs:=cat [enc p0.Box,enc r8,enc p0.Places,enc r10,[(ux7 14)],[(ux7 18)],[vI p0.Rounds]]) hE Za ld rfl rfl Q3 pl157 (Wo (pre:=[]) (seg:=enc (Vector.replicate 256 (0 : UInt8))) (seg':=enc p0.Box) (post:=[enc (Vector.replicate 256 (0 : UInt8)),enc (Vector.replicate 16 (0 : UInt8)),enc (Vector.replicate 16 (0 : UInt8)),[(Value.pointer none)],[(Value.pointer none)],[vI 0]]) rfl cl0 (Flat.len _) (Flat.len _) rfl (Wo (pre:=[enc p0.Box]) (seg:=enc (Vector.replicate 256 (0 : UInt8))) (seg':=enc r8) (post:=[enc (Vector.replicate 16 (0 : UInt8)),enc (Vector.replicate 16 (0 : UInt8)),[(Value.pointer none)],[(Value.pointer none)],[vI 0]]) rfl (cl1 (n:=256) (m:=0) (Flat.len _) cl0) (Flat.len _) (Flat.len _) rfl (Wo (pre:=[enc p0.Box,enc r8]) (seg:=enc (Vector.replicate 16 (0 : UInt8))) (seg':=enc p0.Places) (post:=[enc (Vector.replicate 16 (0 : UInt8)),[(Value.pointer none)],[(Value.pointer none)],[vI 0]]) rfl (cl1 (n:=256) (m:=256) (Flat.len _) (cl1 (n:=256) (m:=0) (Flat.len _) cl0)) (Flat.len _) (Flat.len _) rfl (Wo (pre:=[enc p0.Box,enc r8,enc p0.Places]) (seg:=enc (Vector.replicate 16 (0 : UInt8))) (seg':=enc r10) (post:=[[(Value.pointer none)],[(Value.pointer none)],[vI 0]]) rfl (cl1 (n:=256) (m:=272) (Flat.len _) (cl1 (n:=256) (m:=16) (Flat.len _) (cl1 (n:=16) (m:=0) (Flat.len _) cl0))) (Flat.len _) (Flat.len _) rfl (Wo (pre:=[enc p0.Box,enc r8,enc p0.Places,enc r10]) (seg:=[(Value.pointer none)]) (seg':=[(ux7 14)]) (post:=[[(Value.pointer none)],[vI 0]]) rfl (cl1 (n:=256) (m:=288) (Flat.len _) (cl1 (n:=256) (m:=32) (Flat.len _) (cl1 (n:=16) (m:=16) (Flat.len _) (cl1 (n:=16) (m:=0) (Flat.len _) cl0)))) rfl rfl (Jl (hM.ro (pre:=[_,_]) noB)) (Wo (pre:=[enc p0.Box,enc r8,enc p0.Places,enc r10,[(ux7 14)]]) (seg:=[(Value.pointer none)]) (seg':=[(ux7 18)]) (post:=[[vI 0]]) rfl (cl1 (n:=256) (m:=289) (Flat.len _) (cl1 (n:=256) (m:=33) (Flat.len _) (cl1 (n:=16) (m:=17) (Flat.len _) (cl1 (n:=16) (m:=1) (Flat.len _) (cl1 (n:=1) (m:=0) rfl cl0))))) rfl rfl (Jl (hM.ro (pre:=[_,_,_]) noB)) (Wo (pre:=[enc p0.Box,enc r8,enc p0.Places,enc r10,[(ux7 14)],[(ux7 18)]]) (seg:=[vI 0]) (seg':=[vI p0.Rounds]) (post:=[]) rfl (cl1 (n:=256) (m:=290) (Flat.len _) (cl1 (n:=256) (m:=34) (Flat.len _) (cl1 (n:=16) (m:=18) (Flat.len _) (cl1 (n:=16) (m:=2) (Flat.len _) (cl1 (n:=1) (m:=1) rfl (cl1 (n:=1) (m:=0) rfl cl0)))))) rfl rfl rfl KJ))))))) fun a hE=>ZX (cs:=cat [enc p0.Box,enc r8,enc p0.Places,enc r10,[(ux7 14)],[(ux7 18)],[vI p0.Rounds]]) hE hM Za ld rfl rfl fun b18 w a hM hE=>Ze hE Za ld rfl fun a hE=>Zi (Zt ?_)
  have hM:=(hM.pull (pre:=[_,_,_,_])).pull (pre:=[_,_,_,_])
  have hM:=((hM.pack2 (it:=own NoB (⟨p0.Box,r8,p0.Places,r10,r12,r15,p0.Rounds⟩ : Gengine) (cat [enc p0.Box,enc r8,enc p0.Places,enc r10,[(ux7 14)],[(ux7 18)],[vI p0.Rounds]])) (Qc noB) (fun f0 f1 q0 q1=>(Hz q0 q1 (by simp)))).pull (pre:=[_])).pull (pre:=[_])
  have hM:=M.toRef (hM.pull (pre:=[_])) noB
  have hr:=Option.some.inj hF
  subst hr
  have hM:=M.fst (l:=[_]) hM
  exact wp_ret (ZD hE rfl (ZA hE rfl) ⟨_,rfl,(ptr b18 0),rfl,hM.outF (locNO QZ),hM.kept⟩)
def XP (p0 : Int) : Option ((Vector UInt8 16)) :=
 some ((Vector.replicate 16 (0 : UInt8)).setIfInBounds 0 (ZO p0))
theorem UW (w0 : World) (p0 : Int) (r : (Vector UInt8 16)) (hF : XP p0 = some r) :
  Calls Try.prog 78 [vI p0].toArray w0 (fun en w'=>∃ v,en = .returned v ∧ (v = (Value.agg (enc r).toArray) ∧ Kept (Old w0) w0 w')):=by
 refine ZC (n:=6) Try.func78 rfl rfl (nbl rfl) rfl ?_
 intro a hE
 have hM:=M.start w0
 unfold XP at hF
 refine Zc (ZF hE hM Za ld ZG fun b1 w a hM hE=>Zf (Zc (Zd hE Za ld rfl fun a hE=>Ve hE Za ld rfl Try.underlying2 Try.underlying5 ?_))); intro a hE
 rw [XH] at hE
 refine YP (parts:=[(0,.tmp 4)]) (vs:=[(0,(vB (ZO p0)))]) (cs:=enc ((Vector.replicate 16 (0 : UInt8)).setIfInBounds 0 (ZO p0))) hE Za ld rfl rfl ZG rfl ty5 (TU (v:=(Vector.replicate 16 (0 : UInt8))) (x:=ZO p0) rfl (by decide) rfl Yr) fun a hE=>Zm (seg:=enc ((Vector.replicate 16 (0 : UInt8)).setIfInBounds 0 (ZO p0))) (cs':=enc ((Vector.replicate 16 (0 : UInt8)).setIfInBounds 0 (ZO p0))) hE hM Za rfl rfl rfl ZG (Flat.len _) (zle flq) (Flat.cell _) (Zn flq) fun w a hM hE=>Zf ?_
 have hr:=Option.some.inj hF
 subst hr
 have hq3 : YD Try.prog _ _ (.cell 2 55) _:=ZW hE rfl ZG rfl (hM.rawAt (pre:=[])) (Flat.len _) rfl
 have hM:=M.fst (l:=[]) hM
 exact wp_ret (ZD hE rfl hq3 ⟨_,rfl,rfl,hM.kept⟩)
def Yo (p0 : (Ref Gengine)) (s35 : (Vector UInt8 16) × Int) : Option (Fl ((Vector UInt8 16) × Int) (Vector UInt8 16)) :=
 if (decide (s35.2 < 16)) = true then ((Zs s35.1 s35.2).bind fun x42=>(Zs s35.1 (wr (s35.2 - 1))).bind fun x45=>(Zs p0.v.box (bI x45)).bind fun x58=>(Zs s35.1 s35.2).bind fun x61=>some (Fl.nx ((s35.1.setIfInBounds (s35.2).toNat (x42 ^^^ x58)),wr (s35.2 + 1)))) else (some (Fl.ex s35.1))
def YS (p0 : (Ref Gengine)) (p1 : (Vector UInt8 16)) (p2 : Int) : Option ((Vector UInt8 16)) :=
 ((Zs p1 (0 : Int)).bind fun x10=>(Zs p1 (15 : Int)).bind fun x13=>(Zs p0.v.box (bI (x13 ^^^ (ZO p2)))).bind fun x26=>(Zs p1 (0 : Int)).bind fun x29=>some (p1.setIfInBounds ((0 : Int)).toNat (x10 ^^^ x26)) : Option ((Vector UInt8 16))).bind fun j5=>(ZB (Yo p0) (j5,1)).bind fun j32=>some j32
theorem U0 (w0 : World) (p0 : (Ref Gengine)) (v0_1 : Value) (hv0_1 : Ro w0 p0 [v0_1]) (p1 : (Vector UInt8 16)) (p2 : Int) (r : (Vector UInt8 16)) (hF : YS p0 p1 p2 = some r) :
  Calls Try.prog 133 [v0_1,(Value.agg (enc p1).toArray),vI p2].toArray w0 (fun en w'=>∃ v,en = .returned v ∧ (v = (Value.agg (enc r).toArray) ∧ Kept (Old w0) w0 w')):=by
 refine ZC (n:=41) Try.func133 rfl rfl (nbl rfl) rfl ?_
 intro a hE
 have hM:=M.start w0
 unfold YS at hF
 refine Zc (ZX (cs:=enc p1) hE hM Za ld rfl rfl fun b1 w a hM hE=>ZF hE hM Za ld ZG fun b3 w a hM hE=>Zf ?_)
 obtain ⟨j5,hl6,hF7⟩:=bind_some hF
 refine ZL (fun a w=>Env 41 a [(0,v0_1),(4,(ptr b1 0)),(6,(ptr b3 0))] ∧ M (Old w0) w0 w [raw b3 (enc (Vector.replicate 16 (0 : UInt8))),raw b1 (enc j5)]) ?_ ?_
 ·skip
  obtain ⟨x10,hi9,hl6⟩:=bvx hl6
  obtain ⟨x13,hi12,hl6⟩:=bvx hl6
  obtain ⟨pb15,ds16,hv17,hx18,hA19,hB20⟩:=Wc hv0_1 -- ^
  obtain ⟨u21,u23,rfl,h22,h24⟩:=Wr hx18 -- ^
  obtain ⟨x26,hi25,hl6⟩:=bvx hl6
  obtain ⟨x29,hi28,hl6⟩:=bvx hl6
  refine Yd (n:=41) (hd:=[_,_,_,_,_,_,_,_,_,_,_,_,_,_]) (tl:=[_]) YR rfl rfl [8,9,10,11,12,13,14,15,16,17,18,19,20,21] (by decide) (fun w=>M (Old w0) w0 w [raw b3 (enc (Vector.replicate 16 (0 : UInt8))),raw b1 (enc p1)]) (fun j=>([fun v _=>v = (ptr b1 (0 + ((0 : Int)).toNat * 1)),fun v _=>v = (vB x10),fun v _=>v = v0_1,fun v _=>v = (ptr b1 (0 + ((15 : Int)).toNat * 1)),fun v _=>v = (vB x13),fun v _=>v = (vI p2),fun v _=>v = (vB (ZO p2)),fun v _=>v = (vB (x13 ^^^ (ZO p2))),fun v _=>v = (ptr pb15 0),fun v _=>v = (ptr pb15 (0 + 0)),fun v _=>v = (ptr pb15 (0 + 0 + ((bI (x13 ^^^ (ZO p2)))).toNat * 1)),fun v _=>v = (vB x26),fun v _=>v = (vB (x10 ^^^ x26)),fun v _=>v = (ptr b1 (0 + ((0 : Int)).toNat * 1))] : List (Value → World → Prop)).getD j (fun _ _=>True)) (fun _ _ h hk=>h.keep hk) (gup (Zh (Zh (Zh (Zh (Zh (Zh (Zh (Zh (Zh (Zh (Zh (Zh (Zh (Zh WV))))))))))))))) hE hM.drew (ZK (Zb ?_ (Zb ?_ (Zb ?_ (Zb ?_ (Zb ?_ (Zb ?_ (Zb ?_ (Zb ?_ (Zb ?_ (Zb ?_ (Zb ?_ (Zb ?_ (Zb ?_ (Zb ?_ ZE))))))))))))))) ?_
  ·exact fun a w ux8 hE hM hp=>Zg hE Za ld rfl rfl Try.underlying55 ty5 hi9.1 fun a hE=>⟨Kept.refl _ _,_,_,rfl,hE,rfl⟩
  ·intro a w ux8 hE hM hp
   have f0 : ux8 0 = (ptr b1 (0 + ((0 : Int)).toNat * 1)):=hp 0 _ rfl rfl
   exact Zv (v:=(vB x10)) hE Za ld (lk rfl f0) ty5 rfl (At.vec (hM.rawAt (pre:=[_])) hi9.2) fun a hE=>⟨Kept.refl _ _,_,_,rfl,hE,rfl⟩
  ·exact fun a w ux8 hE hM hp=>Zd hE Za ld rfl fun a hE=>⟨Kept.refl _ _,_,_,rfl,hE,rfl⟩
  ·exact fun a w ux8 hE hM hp=>Zg hE Za ld rfl rfl Try.underlying55 ty5 hi12.1 fun a hE=>⟨Kept.refl _ _,_,_,rfl,hE,rfl⟩
  ·intro a w ux8 hE hM hp
   have f3 : ux8 3 = (ptr b1 (0 + ((15 : Int)).toNat * 1)):=hp 0 _ rfl rfl
   exact Zv (v:=(vB x13)) hE Za ld (lk rfl f3) ty5 rfl (At.vec (hM.rawAt (pre:=[_])) hi12.2) fun a hE=>⟨Kept.refl _ _,_,_,rfl,hE,rfl⟩
  ·exact fun a w ux8 hE hM hp=>Zd hE Za ld rfl fun a hE=>⟨Kept.refl _ _,_,_,rfl,hE,rfl⟩
  ·intro a w ux8 hE hM hp
   have f5 : ux8 5 = (vI p2):=hp 0 _ rfl rfl
   refine Ve hE Za ld (lk rfl f5) Try.underlying2 Try.underlying5 ?_; intro a hE
   rw [XH] at hE
   exact ⟨Kept.refl _ _,_,_,rfl,hE,rfl⟩
  ·intro a w ux8 hE hM hp
   have f4 : ux8 4 = (vB x13):=hp 0 _ rfl rfl
   have f6 : ux8 6 = (vB (ZO p2)):=hp 1 _ rfl rfl
   exact Zk hE Za ld (lk rfl f4) (lk rfl f6) (Vc x13 (ZO p2)) fun a hE=>⟨Kept.refl _ _,_,_,rfl,hE,rfl⟩
  ·intro a w ux8 hE hM hp
   have f2 : ux8 2 = v0_1:=hp 0 _ rfl rfl
   exact Yx hE Za ld (lk (lk rfl f2) hv17) fun a hE=>⟨Kept.refl _ _,_,_,rfl,hE,rfl⟩
  ·intro a w ux8 hE hM hp
   have f8 : ux8 8 = (ptr pb15 0):=hp 0 _ rfl rfl
   exact Zo hE Za ld (lk rfl f8) (Jy) fun a hE=>⟨Kept.refl _ _,_,_,rfl,hE,rfl⟩
  ·intro a w ux8 hE hM hp
   have f7 : ux8 7 = (vB (x13 ^^^ (ZO p2))):=hp 1 _ rfl rfl
   have f9 : ux8 9 = (ptr pb15 (0 + 0)):=hp 0 _ rfl rfl
   exact Zg hE Za ld (lk rfl f9) (lk rfl f7) Try.underlying49 ty5 hi25.1 fun a hE=>⟨Kept.refl _ _,_,_,rfl,hE,rfl⟩
  ·intro a w ux8 hE hM hp
   have f10 : ux8 10 = (ptr pb15 (0 + 0 + ((bI (x13 ^^^ (ZO p2)))).toNat * 1)):=hp 0 _ rfl rfl
   exact Zv (v:=(vB x26)) hE Za ld (lk rfl f10) ty5 rfl (At.vec (At.cat (pre:=[]) (hM.atk hA19 hB20) cl0) hi25.2) fun a hE=>⟨Kept.refl _ _,_,_,rfl,hE,rfl⟩
  ·intro a w ux8 hE hM hp
   have f1 : ux8 1 = (vB x10):=hp 0 _ rfl rfl
   have f11 : ux8 11 = (vB x26):=hp 1 _ rfl rfl
   exact Zk hE Za ld (lk rfl f1) (lk rfl f11) (Vc x10 x26) fun a hE=>⟨Kept.refl _ _,_,_,rfl,hE,rfl⟩
  ·exact fun a w ux8 hE hM hp=>Zg hE Za ld rfl rfl Try.underlying55 ty5 hi28.1 fun a hE=>⟨Kept.refl _ _,_,_,rfl,hE,rfl⟩
  ·intro a w ux8 hE hM hg
   have hE:=hE.sub (e':=[(20,(vB (x10 ^^^ x26))),(21,(ptr b1 (0 + ((0 : Int)).toNat * 1))),(0,v0_1),(4,(ptr b1 0)),(6,(ptr b3 0))]) ⟨lk rfl (hg 12 (by decide)),lk rfl (hg 13 (by decide)),rfl,rfl,rfl,trivial⟩
   have hM:=hM.pull (pre:=[_])
   refine Zm (seg:=[(vB (x10 ^^^ x26))]) (cs':=enc (p1.setIfInBounds ((0 : Int)).toNat (x10 ^^^ x26))) hE hM Za rfl rfl rfl ty5 rfl (ZI (v:=p1) (x:=x10 ^^^ x26) hi28.1) (Flat.cell (x10 ^^^ x26 : UInt8)) (Zu (v:=p1) (x:=x10 ^^^ x26) hi28.1) fun w a hM hE=>Zi ?_
   have ht31:=Option.some.inj hl6
   subst ht31
   refine Zj ?_
   have hM:=hM.pull (pre:=[_])
   exact ⟨hE.sub ⟨rfl,rfl,rfl,trivial⟩,hM⟩
 ·skip
  rintro a w ⟨hE,hM⟩
  refine wp_seq (Zc (Ze hE Za ld rfl fun a hE=>Zf ?_))
  obtain ⟨j32,hl33,hF34⟩:=bind_some hF7
  refine ZP (fun a w=>Env 41 a [(4,(ptr b1 0)),(6,(ptr b3 0))] ∧ M (Old w0) w0 w [raw b3 (enc (Vector.replicate 16 (0 : UInt8))),raw b1 (enc j32)]) ?_ ?_
  ·skip
   refine wp_block ?_
   refine ZJ (fun (s35 : (Vector UInt8 16) × Int) a w=>Env 41 a [(0,v0_1),(4,(ptr b1 0)),(6,(ptr b3 0)),(7,vI s35.2)] ∧ M (Old w0) w0 w [raw b3 (enc (Vector.replicate 16 (0 : UInt8))),raw b1 (enc s35.1)]) hl33 ⟨hE.sub ⟨rfl,rfl,rfl,rfl,trivial⟩,hM⟩ ?_
   rintro s35 a w ⟨hE,hM⟩ o38 hs36 hx37
   unfold Yo at hs36
   refine wp_seq (Zc (Zd hE Za ld rfl fun a hE=>Zk hE Za ld rfl rfl rfl fun a hE=>Zf ?_))
   refine Zr hE rfl ?_ ?_
   ·intro hb39
    have hs36:=Zw hs36 hb39
    refine wp_skip (Zt (wp_seq (wp_block ?_)))
    obtain ⟨x42,hi41,hs36⟩:=bvx hs36
    obtain ⟨x45,hi44,hs36⟩:=bvx hs36
    obtain ⟨pb47,ds48,hv49,hx50,hA51,hB52⟩:=Wc hv0_1 -- ^
    obtain ⟨u53,u55,rfl,h54,h56⟩:=Wr hx50 -- ^
    obtain ⟨x58,hi57,hs36⟩:=bvx hs36
    obtain ⟨x61,hi60,hs36⟩:=bvx hs36
    refine Yd (n:=41) (hd:=[_,_,_,_,_,_,_,_,_,_,_,_,_,_]) (tl:=[_]) YR rfl rfl [26,27,28,29,30,31,32,33,34,35,36,37,38,39] (by decide) (fun w=>M (Old w0) w0 w [raw b3 (enc (Vector.replicate 16 (0 : UInt8))),raw b1 (enc s35.1)]) (fun j=>([fun v _=>v = (vI s35.2),fun v _=>v = (ptr b1 (0 + (s35.2).toNat * 1)),fun v _=>v = (vB x42),fun v _=>v = v0_1,fun v _=>v = (vI s35.2),fun v _=>v = (vI (wr (s35.2 - 1))),fun v _=>v = (ptr b1 (0 + ((wr (s35.2 - 1))).toNat * 1)),fun v _=>v = (vB x45),fun v _=>v = (ptr pb47 0),fun v _=>v = (ptr pb47 (0 + 0)),fun v _=>v = (ptr pb47 (0 + 0 + ((bI x45)).toNat * 1)),fun v _=>v = (vB x58),fun v _=>v = (vB (x42 ^^^ x58)),fun v _=>v = (ptr b1 (0 + (s35.2).toNat * 1))] : List (Value → World → Prop)).getD j (fun _ _=>True)) (fun _ _ h hk=>h.keep hk) (gup (Zh (Zh (Zh (Zh (Zh (Zh (Zh (Zh (Zh (Zh (Zh (Zh (Zh (Zh WV))))))))))))))) hE hM.drew (ZK (Zb ?_ (Zb ?_ (Zb ?_ (Zb ?_ (Zb ?_ (Zb ?_ (Zb ?_ (Zb ?_ (Zb ?_ (Zb ?_ (Zb ?_ (Zb ?_ (Zb ?_ (Zb ?_ ZE))))))))))))))) ?_
    ·exact fun a w ux40 hE hM hp=>Zd hE Za ld rfl fun a hE=>⟨Kept.refl _ _,_,_,rfl,hE,rfl⟩
    ·intro a w ux40 hE hM hp
     have f0 : ux40 0 = (vI s35.2):=hp 0 _ rfl rfl
     exact Zg hE Za ld rfl (lk rfl f0) Try.underlying55 ty5 hi41.1 fun a hE=>⟨Kept.refl _ _,_,_,rfl,hE,rfl⟩
    ·intro a w ux40 hE hM hp
     have f1 : ux40 1 = (ptr b1 (0 + (s35.2).toNat * 1)):=hp 0 _ rfl rfl
     exact Zv (v:=(vB x42)) hE Za ld (lk rfl f1) ty5 rfl (At.vec (hM.rawAt (pre:=[_])) hi41.2) fun a hE=>⟨Kept.refl _ _,_,_,rfl,hE,rfl⟩
    ·exact fun a w ux40 hE hM hp=>Zd hE Za ld rfl fun a hE=>⟨Kept.refl _ _,_,_,rfl,hE,rfl⟩
    ·exact fun a w ux40 hE hM hp=>Zd hE Za ld rfl fun a hE=>⟨Kept.refl _ _,_,_,rfl,hE,rfl⟩
    ·intro a w ux40 hE hM hp
     have f4 : ux40 4 = (vI s35.2):=hp 0 _ rfl rfl
     exact Zk hE Za ld (lk rfl f4) rfl rfl fun a hE=>⟨Kept.refl _ _,_,_,rfl,hE,rfl⟩
    ·intro a w ux40 hE hM hp
     have f5 : ux40 5 = (vI (wr (s35.2 - 1))):=hp 0 _ rfl rfl
     exact Zg hE Za ld rfl (lk rfl f5) Try.underlying55 ty5 hi44.1 fun a hE=>⟨Kept.refl _ _,_,_,rfl,hE,rfl⟩
    ·intro a w ux40 hE hM hp
     have f6 : ux40 6 = (ptr b1 (0 + ((wr (s35.2 - 1))).toNat * 1)):=hp 0 _ rfl rfl
     exact Zv (v:=(vB x45)) hE Za ld (lk rfl f6) ty5 rfl (At.vec (hM.rawAt (pre:=[_])) hi44.2) fun a hE=>⟨Kept.refl _ _,_,_,rfl,hE,rfl⟩
    ·intro a w ux40 hE hM hp
     have f3 : ux40 3 = v0_1:=hp 0 _ rfl rfl
     exact Yx hE Za ld (lk (lk rfl f3) hv49) fun a hE=>⟨Kept.refl _ _,_,_,rfl,hE,rfl⟩
    ·intro a w ux40 hE hM hp
     have f8 : ux40 8 = (ptr pb47 0):=hp 0 _ rfl rfl
     exact Zo hE Za ld (lk rfl f8) (Jy) fun a hE=>⟨Kept.refl _ _,_,_,rfl,hE,rfl⟩
    ·intro a w ux40 hE hM hp
     have f7 : ux40 7 = (vB x45):=hp 1 _ rfl rfl
     have f9 : ux40 9 = (ptr pb47 (0 + 0)):=hp 0 _ rfl rfl
     exact Zg hE Za ld (lk rfl f9) (lk rfl f7) Try.underlying49 ty5 hi57.1 fun a hE=>⟨Kept.refl _ _,_,_,rfl,hE,rfl⟩
    ·intro a w ux40 hE hM hp
     have f10 : ux40 10 = (ptr pb47 (0 + 0 + ((bI x45)).toNat * 1)):=hp 0 _ rfl rfl
     exact Zv (v:=(vB x58)) hE Za ld (lk rfl f10) ty5 rfl (At.vec (At.cat (pre:=[]) (hM.atk hA51 hB52) cl0) hi57.2) fun a hE=>⟨Kept.refl _ _,_,_,rfl,hE,rfl⟩
    ·intro a w ux40 hE hM hp
     have f2 : ux40 2 = (vB x42):=hp 0 _ rfl rfl
     have f11 : ux40 11 = (vB x58):=hp 1 _ rfl rfl
     exact Zk hE Za ld (lk rfl f2) (lk rfl f11) (Vc x42 x58) fun a hE=>⟨Kept.refl _ _,_,_,rfl,hE,rfl⟩
    ·intro a w ux40 hE hM hp
     have f0 : ux40 0 = (vI s35.2):=hp 0 _ rfl rfl
     exact Zg hE Za ld rfl (lk rfl f0) Try.underlying55 ty5 hi60.1 fun a hE=>⟨Kept.refl _ _,_,_,rfl,hE,rfl⟩
    ·intro a w ux40 hE hM hg
     have hE:=hE.sub (e':=[(38,(vB (x42 ^^^ x58))),(39,(ptr b1 (0 + (s35.2).toNat * 1))),(0,v0_1),(4,(ptr b1 0)),(6,(ptr b3 0)),(7,vI s35.2),(22,vI s35.2),(23,(vT (decide (s35.2 < 16))))]) ⟨lk rfl (hg 12 (by decide)),lk rfl (hg 13 (by decide)),rfl,rfl,rfl,rfl,rfl,rfl,trivial⟩
     have hM:=hM.pull (pre:=[_])
     refine Zm (seg:=[(vB (x42 ^^^ x58))]) (cs':=enc (s35.1.setIfInBounds (s35.2).toNat (x42 ^^^ x58))) hE hM Za rfl rfl rfl ty5 rfl (ZI (v:=s35.1) (x:=x42 ^^^ x58) hi60.1) (Flat.cell (x42 ^^^ x58 : UInt8)) (Zu (v:=s35.1) (x:=x42 ^^^ x58) hi60.1) fun w a hM hE=>Zi (Yi (Zt (wp_region_lit (Zd hE Za ld rfl fun a hE=>Zk hE Za ld rfl rfl rfl fun a hE=>Ze hE Za ld rfl fun a hE=>Zi (Zj ?_)))))
     have hM:=hM.pull (pre:=[_])
     exact ⟨_,(ois hs36),hE.sub ⟨rfl,rfl,rfl,rfl,trivial⟩,hM⟩
   ·intro hb39
    have hs36:=Zx hs36 hb39
    refine wp_exit (Zp (Zp (Yj ?_)))
    have ht63:=hx37 _ (ois hs36)
    subst ht63
    refine Zj ?_
    exact ⟨hE.sub ⟨rfl,rfl,trivial⟩,hM⟩
  ·skip
   rintro a w ⟨hE,hM⟩
   refine Zt (Zc (Zl (cs:=enc j32) hE Za ld rfl ZG rfl (hM.rawAt (pre:=[_])) (Flat.len _) fun a hE=>Zm (seg:=enc j32) (cs':=enc j32) hE hM Za rfl rfl rfl ZG (Flat.len _) (zle flq) (Flat.cell _) (Zn flq) fun w a hM hE=>Zf ?_))
   have hr:=Option.some.inj hF34
   subst hr
   have hq64 : YD Try.prog _ _ (.cell 6 55) _:=ZW hE rfl ZG rfl (hM.rawAt (pre:=[])) (Flat.len _) rfl
   have hM:=M.fst (l:=[]) hM
   exact wp_ret (ZD hE rfl hq64 ⟨_,rfl,rfl,hM.kept⟩)
def YG (p0 : (Ref Gengine)) (p2 : Int) (s10 : (Vector UInt8 16) × (List (Vector UInt8 16)) × Int) : Option (Fl ((Vector UInt8 16) × (List (Vector UInt8 16)) × Int) (List (Vector UInt8 16))) :=
 if (decide (s10.2.2 ≤ p2)) = true then ((YS p0 s10.1 s10.2.2).bind fun r17=>(app 16 s10.2.1 ([r17] : List (Vector UInt8 16))).bind fun l21=>some (Fl.nx (r17,(s10.2.1 ++ ([r17] : List (Vector UInt8 16))),wr (s10.2.2 + 1)))) else (some (Fl.ex s10.2.1))
def Y4 (p0 : (Ref Gengine)) (p1 : (Vector UInt8 16)) (p2 : Int) : Option ((List (Vector UInt8 16))) :=
 (ZB (YG p0 p2) (p1,([p1] : List (Vector UInt8 16)),1)).bind fun j5=>some j5
theorem Uj (w0 : World) (p0 : (Ref Gengine)) (v0_1 : Value) (hv0_1 : Ro w0 p0 [v0_1]) (p1 : (Vector UInt8 16)) (p2 : Int) (r : (List (Vector UInt8 16))) (hF : Y4 p0 p1 p2 = some r) :
  Calls Try.prog 77 [v0_1,(Value.agg (enc p1).toArray),vI p2].toArray w0 (fun en w'=>∃ v,en = .returned v ∧ (∃ (y1 : Value),v = y1 ∧ Fr w0 w' [osl NoB (r : List (Vector UInt8 16)) y1] ∧ Kept (Old w0) w0 w')):=by
 refine ZC (n:=25) Try.func77 rfl rfl (nbl rfl) rfl ?_
 intro a hE
 have hM:=M.start w0
 unfold Y4 at hF
 refine Zc (ZX (cs:=enc p1) hE hM Za ld rfl rfl fun b1 w a hM hE=>Ze hE Za ld rfl fun a hE=>Zf (Zc (Zl (cs:=enc p1) hE Za ld rfl ZG rfl (hM.rawAt (pre:=[])) (Flat.len _) fun a hE=>WS (xs:=[.tmp 9]) (l:=([p1] : List (Vector UInt8 16))) (vs:=[(Value.agg (enc p1).toArray)]) hE hM Za ld rfl rfl Try.underlying69 ZG rfl (by decide) rfl fun u3 w a hM hE=>Ze hE Za ld rfl fun a hE=>Zf (wp_seq (Zc (Ze hE Za ld rfl fun a hE=>Zf ?_))))))
 obtain ⟨j5,hl6,hF7⟩:=bind_some hF
 refine ZP (fun a w=>∃ (u8 : Value),Env 25 a [(7,u8)] ∧ M (Old w0) w0 w [osl NoB (j5 : List (Vector UInt8 16)) u8]) ?_ ?_
 ·skip
  refine wp_block ?_
  have hM:=hM.pull (pre:=[_])
  refine ZJ (fun (s10 : (Vector UInt8 16) × (List (Vector UInt8 16)) × Int) a w=>∃ (u11 : Value),Env 25 a [(0,v0_1),(2,vI p2),(4,(ptr b1 0)),(7,u11),(8,vI s10.2.2)] ∧ M (Old w0) w0 w [raw b1 (enc s10.1),osl NoB (s10.2.1 : List (Vector UInt8 16)) u11]) hl6 ⟨u3,hE.sub ⟨rfl,rfl,rfl,rfl,rfl,trivial⟩,hM⟩ ?_
  rintro s10 a w ⟨u11,hE,hM⟩ o15 hs13 hx14
  unfold YG at hs13
  refine wp_seq (Zc (Zd hE Za ld rfl fun a hE=>Zd hE Za ld rfl fun a hE=>Zk hE Za ld rfl rfl rfl fun a hE=>Zf ?_))
  refine Zr hE rfl ?_ ?_
  ·intro hb16
   have hs13:=Zw hs13 hb16
   refine wp_skip (Zt (wp_seq (wp_block (Zc (Zd hE Za ld rfl fun a hE=>Zl (cs:=enc s10.1) hE Za ld rfl ZG rfl (hM.rawAt (pre:=[])) (Flat.len _) fun a hE=>Zd hE Za ld rfl ?_))))); intro a hE
   obtain ⟨r17,e18,hs13⟩:=bind_some hs13
   refine Zq hE Za ld rfl cb133 (U0 _ p0 v0_1 (hM.rdo hv0_1) s10.1 s10.2.2 r17 e18) ?_
   rintro v w a ⟨rfl,hK⟩ hE
   have hM:=hM.keep hK
   refine Zm (seg:=enc r17) (cs':=enc r17) hE hM Za rfl rfl rfl ZG (Flat.len _) (zle flq) (Flat.cell _) (Zn flq) fun w a hM hE=>Zf (wp_region_lit (Zd hE Za ld rfl fun a hE=>Zl (cs:=enc r17) hE Za ld rfl ZG rfl (hM.rawAt (pre:=[])) (Flat.len _) fun a hE=>WS (xs:=[.tmp 21]) (l:=([r17] : List (Vector UInt8 16))) (vs:=[(Value.agg (enc r17).toArray)]) hE hM Za ld rfl rfl Try.underlying69 ZG rfl (by decide) rfl ?_)); intro u19 w a hM hE
   obtain ⟨l21,e22,hs13⟩:=bind_some hs13
   obtain ⟨e25,rfl⟩:=UD e22
   have hM:=hM.pull (pre:=[_,_])
   refine V9 hE hM Za ld rfl rfl (hM.sl (pre:=[_]) noB) Try.underlying69 ZG rfl (by decide) e25 fun u23 w a hM hE=>Ze hE Za ld rfl fun a hE=>Zi (Yi (Zt (wp_region_lit (Zd hE Za ld rfl fun a hE=>Zk hE Za ld rfl rfl rfl fun a hE=>Ze hE Za ld rfl fun a hE=>Zi (Zj ?_)))))
   have hM:=M.fst (l:=[_,_]) (hM.pull (pre:=[_,_]))
   exact ⟨_,(ois hs13),u23,hE.sub ⟨rfl,rfl,rfl,rfl,rfl,trivial⟩,hM⟩
  ·intro hb16
   have hs13:=Zx hs13 hb16
   refine wp_exit (Zp (Zp (Yj ?_)))
   have ht26:=hx14 _ (ois hs13)
   subst ht26
   refine Zj ?_
   have hM:=M.fst (l:=[_]) (hM.pull (pre:=[_]))
   exact ⟨u11,hE.sub ⟨rfl,trivial⟩,hM⟩
 ·skip
  rintro a w ⟨u8,hE,hM⟩
  refine Zt (Zc (Zd hE Za ld rfl fun a hE=>Ze hE Za ld rfl fun a hE=>Zf ?_))
  have hr:=Option.some.inj hF7
  subst hr
  exact wp_ret (ZD hE rfl (ZA hE rfl) ⟨_,rfl,u8,rfl,hM.outF (Jf QZ),hM.kept⟩)
def Xn (p1 : (Vector UInt8 16)) (s10 : (Vector UInt8 16) × Int) : Option (Fl ((Vector UInt8 16) × Int) (Vector UInt8 16)) :=
 if (decide (s10.2 < 16)) = true then ((Zs s10.1 s10.2).bind fun x17=>(Zs p1 s10.2).bind fun x20=>(Zs s10.1 s10.2).bind fun x23=>some (Fl.nx ((s10.1.setIfInBounds (s10.2).toNat (x17 ^^^ x20)),wr (s10.2 + 1)))) else (some (Fl.ex s10.1))
def YB (p0 : (Vector UInt8 16)) (p1 : (Vector UInt8 16)) : Option ((Vector UInt8 16)) :=
 (ZB (Xn p1) (p0,0)).bind fun j7=>some j7
theorem W4 (w0 : World) (p0 : (Vector UInt8 16)) (p1 : (Vector UInt8 16)) (r : (Vector UInt8 16)) (hF : YB p0 p1 = some r) :
  Calls Try.prog 130 [(Value.agg (enc p0).toArray),(Value.agg (enc p1).toArray)].toArray w0 (fun en w'=>∃ v,en = .returned v ∧ (v = (Value.agg (enc r).toArray) ∧ Kept (Old w0) w0 w')):=by
 refine ZC (n:=19) Try.func130 rfl rfl (nbl rfl) rfl ?_
 intro a hE
 have hM:=M.start w0
 unfold YB at hF
 refine Zc (ZX (cs:=enc p0) hE hM Za ld rfl rfl fun b1 w a hM hE=>ZX (cs:=enc p1) hE hM Za ld rfl rfl fun b3 w a hM hE=>ZF hE hM Za ld ZG fun b5 w a hM hE=>Zf (wp_seq (Zc (Zd hE Za ld rfl fun a hE=>Zf ?_))))
 obtain ⟨j7,hl8,hF9⟩:=bind_some hF
 refine ZP (fun a w=>Env 19 a [(2,(ptr b1 0)),(4,(ptr b5 0))] ∧ M (Old w0) w0 w [raw b5 (enc (Vector.replicate 16 (0 : UInt8))),raw b1 (enc j7)]) ?_ ?_
 ·skip
  refine wp_block ?_
  refine ZJ (fun (s10 : (Vector UInt8 16) × Int) a w=>Env 19 a [(2,(ptr b1 0)),(3,(ptr b3 0)),(4,(ptr b5 0)),(6,vI s10.2)] ∧ M (Old w0) w0 w [raw b5 (enc (Vector.replicate 16 (0 : UInt8))),raw b3 (enc p1),raw b1 (enc s10.1)]) hl8 ⟨hE.sub ⟨rfl,rfl,rfl,rfl,trivial⟩,hM⟩ ?_
  rintro s10 a w ⟨hE,hM⟩ o13 hs11 hx12
  unfold Xn at hs11
  refine Zc (Zk hE Za ld rfl rfl rfl fun a hE=>Zf (wp_seq ?_))
  refine Zr hE rfl ?_ ?_
  ·intro hb14
   have hs11:=Zw hs11 hb14
   refine wp_skip (Zt (wp_seq (wp_block (Zc (Zd hE Za ld rfl fun a hE=>Ze hE Za ld rfl fun a hE=>Zf ?_)))))
   obtain ⟨x17,hi16,hs11⟩:=bvx hs11
   obtain ⟨x20,hi19,hs11⟩:=bvx hs11
   obtain ⟨x23,hi22,hs11⟩:=bvx hs11
   refine Yd (n:=19) (hd:=[_,_,_,_,_,_,_,_]) (tl:=[_]) YR rfl rfl [9,10,11,12,13,14,15,16] (by decide) (fun w=>M (Old w0) w0 w [raw b5 (enc (Vector.replicate 16 (0 : UInt8))),raw b3 (enc p1),raw b1 (enc s10.1)]) (fun j=>([fun v _=>v = (vI s10.2),fun v _=>v = (ptr b1 (0 + (s10.2).toNat * 1)),fun v _=>v = (vB x17),fun v _=>v = (vI s10.2),fun v _=>v = (ptr b3 (0 + (s10.2).toNat * 1)),fun v _=>v = (vB x20),fun v _=>v = (vB (x17 ^^^ x20)),fun v _=>v = (ptr b1 (0 + (s10.2).toNat * 1))] : List (Value → World → Prop)).getD j (fun _ _=>True)) (fun _ _ h hk=>h.keep hk) (gup (Zh (Zh (Zh (Zh (Zh (Zh (Zh (Zh WV))))))))) hE hM.drew (ZK (Zb ?_ (Zb ?_ (Zb ?_ (Zb ?_ (Zb ?_ (Zb ?_ (Zb ?_ (Zb ?_ ZE))))))))) ?_
   ·exact fun a w ux15 hE hM hp=>Zd hE Za ld rfl fun a hE=>⟨Kept.refl _ _,_,_,rfl,hE,rfl⟩
   ·intro a w ux15 hE hM hp
    have f0 : ux15 0 = (vI s10.2):=hp 0 _ rfl rfl
    exact Zg hE Za ld rfl (lk rfl f0) Try.underlying55 ty5 hi16.1 fun a hE=>⟨Kept.refl _ _,_,_,rfl,hE,rfl⟩
   ·intro a w ux15 hE hM hp
    have f1 : ux15 1 = (ptr b1 (0 + (s10.2).toNat * 1)):=hp 0 _ rfl rfl
    exact Zv (v:=(vB x17)) hE Za ld (lk rfl f1) ty5 rfl (At.vec (hM.rawAt (pre:=[_,_])) hi16.2) fun a hE=>⟨Kept.refl _ _,_,_,rfl,hE,rfl⟩
   ·exact fun a w ux15 hE hM hp=>Zd hE Za ld rfl fun a hE=>⟨Kept.refl _ _,_,_,rfl,hE,rfl⟩
   ·intro a w ux15 hE hM hp
    have f3 : ux15 3 = (vI s10.2):=hp 0 _ rfl rfl
    exact Zg hE Za ld rfl (lk rfl f3) Try.underlying55 ty5 hi19.1 fun a hE=>⟨Kept.refl _ _,_,_,rfl,hE,rfl⟩
   ·intro a w ux15 hE hM hp
    have f4 : ux15 4 = (ptr b3 (0 + (s10.2).toNat * 1)):=hp 0 _ rfl rfl
    exact Zv (v:=(vB x20)) hE Za ld (lk rfl f4) ty5 rfl (At.vec (hM.rawAt (pre:=[_])) hi19.2) fun a hE=>⟨Kept.refl _ _,_,_,rfl,hE,rfl⟩
   ·intro a w ux15 hE hM hp
    have f2 : ux15 2 = (vB x17):=hp 0 _ rfl rfl
    have f5 : ux15 5 = (vB x20):=hp 1 _ rfl rfl
    exact Zk hE Za ld (lk rfl f2) (lk rfl f5) (Vc x17 x20) fun a hE=>⟨Kept.refl _ _,_,_,rfl,hE,rfl⟩
   ·intro a w ux15 hE hM hp
    have f0 : ux15 0 = (vI s10.2):=hp 0 _ rfl rfl
    exact Zg hE Za ld rfl (lk rfl f0) Try.underlying55 ty5 hi22.1 fun a hE=>⟨Kept.refl _ _,_,_,rfl,hE,rfl⟩
   ·intro a w ux15 hE hM hg
    have hE:=hE.sub (e':=[(15,(vB (x17 ^^^ x20))),(16,(ptr b1 (0 + (s10.2).toNat * 1))),(2,(ptr b1 0)),(3,(ptr b3 0)),(4,(ptr b5 0)),(5,vI s10.2),(6,vI s10.2),(7,(vT (decide (s10.2 < 16)))),(8,vI s10.2)]) ⟨lk rfl (hg 6 (by decide)),lk rfl (hg 7 (by decide)),rfl,rfl,rfl,rfl,rfl,rfl,rfl,trivial⟩
    have hM:=hM.pull (pre:=[_,_])
    refine Zm (seg:=[(vB (x17 ^^^ x20))]) (cs':=enc (s10.1.setIfInBounds (s10.2).toNat (x17 ^^^ x20))) hE hM Za rfl rfl rfl ty5 rfl (ZI (v:=s10.1) (x:=x17 ^^^ x20) hi22.1) (Flat.cell (x17 ^^^ x20 : UInt8)) (Zu (v:=s10.1) (x:=x17 ^^^ x20) hi22.1) fun w a hM hE=>Zi (Yi (Zt (wp_region_lit (Zk hE Za ld rfl rfl rfl fun a hE=>Zd hE Za ld rfl fun a hE=>Zi (Zj ?_)))))
    have hM:=(hM.pull (pre:=[_,_])).pull (pre:=[_,_])
    exact ⟨_,(ois hs11),hE.sub ⟨rfl,rfl,rfl,rfl,trivial⟩,hM⟩
  ·intro hb14
   have hs11:=Zx hs11 hb14
   refine wp_exit (Zp (Zp (Yj ?_)))
   have ht25:=hx12 _ (ois hs11)
   subst ht25
   refine Zj ?_
   have hM:=M.fst (l:=[_,_]) ((hM.pull (pre:=[_,_])).pull (pre:=[_]))
   exact ⟨hE.sub ⟨rfl,rfl,trivial⟩,hM⟩
 ·skip
  rintro a w ⟨hE,hM⟩
  refine Zt (Zc (Zl (cs:=enc j7) hE Za ld rfl ZG rfl (hM.rawAt (pre:=[_])) (Flat.len _) fun a hE=>Zm (seg:=enc j7) (cs':=enc j7) hE hM Za rfl rfl rfl ZG (Flat.len _) (zle flq) (Flat.cell _) (Zn flq) fun w a hM hE=>Zf ?_))
  have hr:=Option.some.inj hF9
  subst hr
  have hq26 : YD Try.prog _ _ (.cell 4 55) _:=ZW hE rfl ZG rfl (hM.rawAt (pre:=[])) (Flat.len _) rfl
  have hM:=M.fst (l:=[]) hM
  exact wp_ret (ZD hE rfl hq26 ⟨_,rfl,rfl,hM.kept⟩)
def Xp (p0 : (Ref (Vector (Vector (Vector UInt8 256) 4) 4))) (s4 : (Vector UInt8 16) × Int) (j9 : UInt8 × UInt8 × UInt8 × UInt8) (s29 : (Vector UInt8 16) × Int) : Option (Fl ((Vector UInt8 16) × Int) (Vector UInt8 16)) :=
 if (decide (s29.2 < 4)) = true then ((Zs p0.v s29.2).bind fun x42=>(Zs x42 (0 : Int)).bind fun x45=>(Zs x45 (bI j9.1)).bind fun x48=>(Zs p0.v s29.2).bind fun x57=>(Zs x57 (1 : Int)).bind fun x60=>(Zs x60 (bI j9.2.1)).bind fun x63=>(Zs p0.v s29.2).bind fun x72=>(Zs x72 (2 : Int)).bind fun x75=>(Zs x75 (bI j9.2.2.1)).bind fun x78=>(Zs p0.v s29.2).bind fun x87=>(Zs x87 (3 : Int)).bind fun x90=>(Zs x90 (bI j9.2.2.2)).bind fun x93=>(Zs s29.1 (wr (s4.2 + s29.2))).bind fun x95=>some (Fl.nx ((s29.1.setIfInBounds ((wr (s4.2 + s29.2))).toNat (((x48 ^^^ x63) ^^^ x78) ^^^ x93)),wr (s29.2 + 1)))) else (some (Fl.ex s29.1))
def Xj (p0 : (Ref (Vector (Vector (Vector UInt8 256) 4) 4))) (s4 : (Vector UInt8 16) × Int) : Option (Fl ((Vector UInt8 16) × Int) (Vector UInt8 16)) :=
 if (decide (s4.2 < (s4.1.toList.length : Int))) = true then (((Zs s4.1 s4.2).bind fun x13=>(Zs s4.1 (wr (s4.2 + 1))).bind fun x16=>(Zs s4.1 (wr (s4.2 + 2))).bind fun x19=>(Zs s4.1 (wr (s4.2 + 3))).bind fun x22=>some (x13,x16,x19,x22) : Option (UInt8 × UInt8 × UInt8 × UInt8)).bind fun j9=>(ZB (Xp p0 s4 j9) (s4.1,0)).bind fun j26=>some (Fl.nx (j26,wr (s4.2 + 4)))) else (some (Fl.ex s4.1))
def XE (p0 : (Ref (Vector (Vector (Vector UInt8 256) 4) 4))) (p1 : (Vector UInt8 16)) : Option ((Vector UInt8 16)) :=
 (ZB (Xj p0) (p1,0)).bind fun j1=>some j1
theorem Uv (St : Nat → Prop) (W w0 : World) (its : List Item) (p0 : (Ref (Vector (Vector (Vector UInt8 256) 4) 4))) (v0_1 : Value) (hv0_1 : Rep.sat St W p0 [v0_1] []) (pb1 : Nat) (p1 : (Vector UInt8 16)) (hM : M St W w0 (raw pb1 (enc p1) :: its)) (r : (Vector UInt8 16)) (hF : XE p0 p1 = some r) :
  Calls Try.prog 131 [v0_1,(Value.slice (some ⟨pb1,0,none⟩) 16 16)].toArray w0 (fun en w'=>∃ v,en = .returned v ∧ (v = (Value.tuple [].toArray) ∧ M St W w' (raw pb1 (enc r) :: its))):=by
 refine ZC (n:=79) Try.func131 rfl rfl (nbl rfl) rfl ?_
 intro a hE
 unfold XE at hF
 refine Zc (Ze hE Za ld rfl fun a hE=>Zf ?_)
 obtain ⟨j1,hl2,hF3⟩:=bind_some hF
 refine ZP (fun a w=>Env 79 a [(1,(Value.slice (some ⟨pb1,0,none⟩) 16 16))] ∧ M St W w (raw pb1 (enc j1) :: its)) ?_ ?_
 ·skip
  refine wp_block ?_
  refine ZJ (fun (s4 : (Vector UInt8 16) × Int) a w=>Env 79 a [(0,v0_1),(1,(Value.slice (some ⟨pb1,0,none⟩) 16 16)),(4,vI s4.2)] ∧ M St W w (raw pb1 (enc s4.1) :: its)) hl2 ⟨hE.sub ⟨rfl,rfl,rfl,trivial⟩,hM⟩ ?_
  rintro s4 a w ⟨hE,hM⟩ o7 hs5 hx6
  unfold Xj at hs5
  refine wp_seq (Zc (Zd hE Za ld rfl fun a hE=>Zd hE Za ld rfl fun a hE=>UC hE Za ld rfl Try.underlying22 (BM (hM.rawAt (pre:=[]))) fun a hE=>Zk hE Za ld rfl rfl rfl fun a hE=>Zf ?_))
  refine Zr hE rfl ?_ ?_
  ·intro hb8
   have hs5:=Zw hs5 hb8
   refine wp_skip (Zt (wp_seq (wp_block ?_)))
   obtain ⟨j9,hl10,hF11⟩:=bind_some hs5
   refine ZL (fun a w=>Env 79 a [(0,v0_1),(1,(Value.slice (some ⟨pb1,0,none⟩) 16 16)),(4,vI s4.2),(5,vB j9.1),(6,vB j9.2.1),(7,vB j9.2.2.1),(8,vB j9.2.2.2)] ∧ M St W w (raw pb1 (enc s4.1) :: its)) ?_ ?_
   ·skip
    obtain ⟨x13,hi15,hl10⟩:=bvx hl10
    obtain ⟨x16,hi18,hl10⟩:=bvx hl10
    obtain ⟨x19,hi21,hl10⟩:=bvx hl10
    obtain ⟨x22,hi24,hl10⟩:=bvx hl10
    refine Yd (n:=79) (hd:=[_,_,_,_,_,_,_,_,_,_,_,_,_,_,_,_,_,_,_,_,_,_,_]) (tl:=[]) YR rfl rfl [16,17,18,19,20,21,22,23,24,25,26,27,28,29,30,31,32,33,34,5,6,7,8] (by decide) (fun w=>M St W w (raw pb1 (enc s4.1) :: its)) (fun j=>([fun v _=>v = (Value.slice (some ⟨pb1,0,none⟩) 16 16),fun v _=>v = (vI s4.2),fun v _=>v = (ptr pb1 (0 + (s4.2).toNat * 1)),fun v _=>v = (vB x13),fun v _=>v = (Value.slice (some ⟨pb1,0,none⟩) 16 16),fun v _=>v = (vI s4.2),fun v _=>v = (vI (wr (s4.2 + 1))),fun v _=>v = (ptr pb1 (0 + ((wr (s4.2 + 1))).toNat * 1)),fun v _=>v = (vB x16),fun v _=>v = (Value.slice (some ⟨pb1,0,none⟩) 16 16),fun v _=>v = (vI s4.2),fun v _=>v = (vI (wr (s4.2 + 2))),fun v _=>v = (ptr pb1 (0 + ((wr (s4.2 + 2))).toNat * 1)),fun v _=>v = (vB x19),fun v _=>v = (Value.slice (some ⟨pb1,0,none⟩) 16 16),fun v _=>v = (vI s4.2),fun v _=>v = (vI (wr (s4.2 + 3))),fun v _=>v = (ptr pb1 (0 + ((wr (s4.2 + 3))).toNat * 1)),fun v _=>v = (vB x22),fun v _=>v = (vB x13),fun v _=>v = (vB x16),fun v _=>v = (vB x19),fun v _=>v = (vB x22)] : List (Value → World → Prop)).getD j (fun _ _=>True)) (fun _ _ h hk=>h.keep hk) (gup (Zh (Zh (Zh (Zh (Zh (Zh (Zh (Zh (Zh (Zh (Zh (Zh (Zh (Zh (Zh (Zh (Zh (Zh (Zh (Zh (Zh (Zh (Zh WV)))))))))))))))))))))))) hE hM.drew (ZK (Zb ?_ (Zb ?_ (Zb ?_ (Zb ?_ (Zb ?_ (Zb ?_ (Zb ?_ (Zb ?_ (Zb ?_ (Zb ?_ (Zb ?_ (Zb ?_ (Zb ?_ (Zb ?_ (Zb ?_ (Zb ?_ (Zb ?_ (Zb ?_ (Zb ?_ (Zb ?_ (Zb ?_ (Zb ?_ (Zb ?_ ZE)))))))))))))))))))))))) ?_
    ·exact fun a w ux12 hE hM hp=>Zd hE Za ld rfl fun a hE=>⟨Kept.refl _ _,_,_,rfl,hE,rfl⟩
    ·exact fun a w ux12 hE hM hp=>Zd hE Za ld rfl fun a hE=>⟨Kept.refl _ _,_,_,rfl,hE,rfl⟩
    ·intro a w ux12 hE hM hp
     have f0 : ux12 0 = (Value.slice (some ⟨pb1,0,none⟩) 16 16):=hp 0 _ rfl rfl
     have f1 : ux12 1 = (vI s4.2):=hp 1 _ rfl rfl
     exact VR hE Za ld (lk rfl f0) (lk rfl f1) Try.underlying22 ty5 hi15.1 fun a hE=>⟨Kept.refl _ _,_,_,rfl,hE,rfl⟩
    ·intro a w ux12 hE hM hp
     have f2 : ux12 2 = (ptr pb1 (0 + (s4.2).toNat * 1)):=hp 0 _ rfl rfl
     exact Zv (v:=(vB x13)) hE Za ld (lk rfl f2) ty5 rfl (At.vec (hM.rawAt (pre:=[])) hi15.2) fun a hE=>⟨Kept.refl _ _,_,_,rfl,hE,rfl⟩
    ·exact fun a w ux12 hE hM hp=>Zd hE Za ld rfl fun a hE=>⟨Kept.refl _ _,_,_,rfl,hE,rfl⟩
    ·exact fun a w ux12 hE hM hp=>Zd hE Za ld rfl fun a hE=>⟨Kept.refl _ _,_,_,rfl,hE,rfl⟩
    ·intro a w ux12 hE hM hp
     have f5 : ux12 5 = (vI s4.2):=hp 0 _ rfl rfl
     exact Zk hE Za ld (lk rfl f5) rfl rfl fun a hE=>⟨Kept.refl _ _,_,_,rfl,hE,rfl⟩
    ·intro a w ux12 hE hM hp
     have f4 : ux12 4 = (Value.slice (some ⟨pb1,0,none⟩) 16 16):=hp 0 _ rfl rfl
     have f6 : ux12 6 = (vI (wr (s4.2 + 1))):=hp 1 _ rfl rfl
     exact VR hE Za ld (lk rfl f4) (lk rfl f6) Try.underlying22 ty5 hi18.1 fun a hE=>⟨Kept.refl _ _,_,_,rfl,hE,rfl⟩
    ·intro a w ux12 hE hM hp
     have f7 : ux12 7 = (ptr pb1 (0 + ((wr (s4.2 + 1))).toNat * 1)):=hp 0 _ rfl rfl
     exact Zv (v:=(vB x16)) hE Za ld (lk rfl f7) ty5 rfl (At.vec (hM.rawAt (pre:=[])) hi18.2) fun a hE=>⟨Kept.refl _ _,_,_,rfl,hE,rfl⟩
    ·exact fun a w ux12 hE hM hp=>Zd hE Za ld rfl fun a hE=>⟨Kept.refl _ _,_,_,rfl,hE,rfl⟩
    ·exact fun a w ux12 hE hM hp=>Zd hE Za ld rfl fun a hE=>⟨Kept.refl _ _,_,_,rfl,hE,rfl⟩
    ·intro a w ux12 hE hM hp
     have f10 : ux12 10 = (vI s4.2):=hp 0 _ rfl rfl
     exact Zk hE Za ld (lk rfl f10) rfl rfl fun a hE=>⟨Kept.refl _ _,_,_,rfl,hE,rfl⟩
    ·intro a w ux12 hE hM hp
     have f9 : ux12 9 = (Value.slice (some ⟨pb1,0,none⟩) 16 16):=hp 0 _ rfl rfl
     have f11 : ux12 11 = (vI (wr (s4.2 + 2))):=hp 1 _ rfl rfl
     exact VR hE Za ld (lk rfl f9) (lk rfl f11) Try.underlying22 ty5 hi21.1 fun a hE=>⟨Kept.refl _ _,_,_,rfl,hE,rfl⟩
    ·intro a w ux12 hE hM hp
     have f12 : ux12 12 = (ptr pb1 (0 + ((wr (s4.2 + 2))).toNat * 1)):=hp 0 _ rfl rfl
     exact Zv (v:=(vB x19)) hE Za ld (lk rfl f12) ty5 rfl (At.vec (hM.rawAt (pre:=[])) hi21.2) fun a hE=>⟨Kept.refl _ _,_,_,rfl,hE,rfl⟩
    ·exact fun a w ux12 hE hM hp=>Zd hE Za ld rfl fun a hE=>⟨Kept.refl _ _,_,_,rfl,hE,rfl⟩
    ·exact fun a w ux12 hE hM hp=>Zd hE Za ld rfl fun a hE=>⟨Kept.refl _ _,_,_,rfl,hE,rfl⟩
    ·intro a w ux12 hE hM hp
     have f15 : ux12 15 = (vI s4.2):=hp 0 _ rfl rfl
     exact Zk hE Za ld (lk rfl f15) rfl rfl fun a hE=>⟨Kept.refl _ _,_,_,rfl,hE,rfl⟩
    ·intro a w ux12 hE hM hp
     have f14 : ux12 14 = (Value.slice (some ⟨pb1,0,none⟩) 16 16):=hp 0 _ rfl rfl
     have f16 : ux12 16 = (vI (wr (s4.2 + 3))):=hp 1 _ rfl rfl
     exact VR hE Za ld (lk rfl f14) (lk rfl f16) Try.underlying22 ty5 hi24.1 fun a hE=>⟨Kept.refl _ _,_,_,rfl,hE,rfl⟩
    ·intro a w ux12 hE hM hp
     have f17 : ux12 17 = (ptr pb1 (0 + ((wr (s4.2 + 3))).toNat * 1)):=hp 0 _ rfl rfl
     exact Zv (v:=(vB x22)) hE Za ld (lk rfl f17) ty5 rfl (At.vec (hM.rawAt (pre:=[])) hi24.2) fun a hE=>⟨Kept.refl _ _,_,_,rfl,hE,rfl⟩
    ·intro a w ux12 hE hM hp
     have f3 : ux12 3 = (vB x13):=hp 0 _ rfl rfl
     exact Ze hE Za ld (lk rfl f3) fun a hE=>⟨Kept.refl _ _,_,_,rfl,hE,rfl⟩
    ·intro a w ux12 hE hM hp
     have f8 : ux12 8 = (vB x16):=hp 0 _ rfl rfl
     exact Ze hE Za ld (lk rfl f8) fun a hE=>⟨Kept.refl _ _,_,_,rfl,hE,rfl⟩
    ·intro a w ux12 hE hM hp
     have f13 : ux12 13 = (vB x19):=hp 0 _ rfl rfl
     exact Ze hE Za ld (lk rfl f13) fun a hE=>⟨Kept.refl _ _,_,_,rfl,hE,rfl⟩
    ·intro a w ux12 hE hM hp
     have f18 : ux12 18 = (vB x22):=hp 0 _ rfl rfl
     exact Ze hE Za ld (lk rfl f18) fun a hE=>⟨Kept.refl _ _,_,_,rfl,hE,rfl⟩
    ·intro a w ux12 hE hM hg
     have hE:=hE.sub (e':=[(5,vB x13),(6,vB x16),(7,vB x19),(8,vB x22),(0,v0_1),(1,(Value.slice (some ⟨pb1,0,none⟩) 16 16)),(4,vI s4.2),(10,vI s4.2),(11,(Value.slice (some ⟨pb1,0,none⟩) 16 16)),(12,(vI (s4.1.toList.length : Int))),(13,(vT (decide (s4.2 < (s4.1.toList.length : Int)))))]) ⟨lk rfl (hg 19 (by decide)),lk rfl (hg 20 (by decide)),lk rfl (hg 21 (by decide)),lk rfl (hg 22 (by decide)),rfl,rfl,rfl,rfl,rfl,rfl,rfl,trivial⟩
     refine Zi ?_
     have ht25:=Option.some.inj hl10
     subst ht25
     refine Zj ?_
     exact ⟨hE.sub ⟨rfl,rfl,rfl,rfl,rfl,rfl,rfl,trivial⟩,hM⟩
   ·skip
    rintro a w ⟨hE,hM⟩
    refine Zc (Zd hE Za ld rfl fun a hE=>Zf ?_)
    obtain ⟨j26,hl27,hF28⟩:=bind_some hF11
    refine ZP (fun a w=>Env 79 a [(0,v0_1),(1,(Value.slice (some ⟨pb1,0,none⟩) 16 16)),(4,vI s4.2)] ∧ M St W w (raw pb1 (enc j26) :: its)) ?_ ?_
    ·skip
     refine wp_block ?_
     refine ZJ (fun (s29 : (Vector UInt8 16) × Int) a w=>Env 79 a [(0,v0_1),(1,(Value.slice (some ⟨pb1,0,none⟩) 16 16)),(4,vI s4.2),(5,vB j9.1),(6,vB j9.2.1),(7,vB j9.2.2.1),(8,vB j9.2.2.2),(35,vI s29.2)] ∧ M St W w (raw pb1 (enc s29.1) :: its)) hl27 ⟨hE.sub ⟨rfl,rfl,rfl,rfl,rfl,rfl,rfl,rfl,trivial⟩,hM⟩ ?_
     rintro s29 a w ⟨hE,hM⟩ o32 hs30 hx31
     unfold Xp at hs30
     refine Zc (Zk hE Za ld rfl rfl rfl fun a hE=>Zf (wp_seq ?_))
     refine Zr hE rfl ?_ ?_
     ·intro hb33
      have hs30:=Zw hs30 hb33
      refine wp_skip (Zt (wp_seq (wp_block (Zc (Zd hE Za ld rfl fun a hE=>Ze hE Za ld rfl fun a hE=>Zf ?_)))))
      obtain ⟨pb35,ds36,hv37,hx38,hA39,hB40⟩:=Wc hv0_1 -- ^
      obtain ⟨rfl,_⟩:=Qm.1 hx38 -- ^
      obtain ⟨x42,hi41,hs30⟩:=bvx hs30
      obtain ⟨x45,hi44,hs30⟩:=bvx hs30
      obtain ⟨x48,hi47,hs30⟩:=bvx hs30
      obtain ⟨pb50,ds51,hv52,hx53,hA54,hB55⟩:=Wc hv0_1 -- ^
      obtain ⟨rfl,_⟩:=Qm.1 hx53 -- ^
      obtain ⟨x57,hi56,hs30⟩:=bvx hs30
      obtain ⟨x60,hi59,hs30⟩:=bvx hs30
      obtain ⟨x63,hi62,hs30⟩:=bvx hs30
      obtain ⟨pb65,ds66,hv67,hx68,hA69,hB70⟩:=Wc hv0_1 -- ^
      obtain ⟨rfl,_⟩:=Qm.1 hx68 -- ^
      obtain ⟨x72,hi71,hs30⟩:=bvx hs30
      obtain ⟨x75,hi74,hs30⟩:=bvx hs30
      obtain ⟨x78,hi77,hs30⟩:=bvx hs30
      obtain ⟨pb80,ds81,hv82,hx83,hA84,hB85⟩:=Wc hv0_1 -- ^
      obtain ⟨rfl,_⟩:=Qm.1 hx83 -- ^
      obtain ⟨x87,hi86,hs30⟩:=bvx hs30
      obtain ⟨x90,hi89,hs30⟩:=bvx hs30
      obtain ⟨x93,hi92,hs30⟩:=bvx hs30
      obtain ⟨x95,hi97,hs30⟩:=bvx hs30
      refine Yd (n:=79) (hd:=[_,_,_,_,_,_,_,_,_,_,_,_,_,_,_,_,_,_,_,_,_,_,_,_,_,_,_,_,_,_,_,_,_,_,_,_,_,_,_,_]) (tl:=[_]) YR rfl rfl [38,39,40,41,42,43,44,45,46,47,48,49,50,51,52,53,54,55,56,57,58,59,60,61,62,63,64,65,66,67,68,69,70,71,72,73,74,75,76,77] (by decide) (fun w=>M St W w (raw pb1 (enc s29.1) :: its)) (fun j=>([fun v _=>v = (Value.slice (some ⟨pb1,0,none⟩) 16 16),fun v _=>v = (vI s4.2),fun v _=>v = (vI s29.2),fun v _=>v = (vI (wr (s4.2 + s29.2))),fun v _=>v = v0_1,fun v _=>v = (vI s29.2),fun v _=>v = (vB j9.1),fun v _=>v = (ptr pb35 0),fun v _=>v = (ptr pb35 (0 + (s29.2).toNat * 1024)),fun v _=>v = (ptr pb35 (0 + (s29.2).toNat * 1024 + ((0 : Int)).toNat * 256)),fun v _=>v = (ptr pb35 (0 + (s29.2).toNat * 1024 + ((0 : Int)).toNat * 256 + ((bI j9.1)).toNat * 1)),fun v _=>v = (vB x48),fun v _=>v = v0_1,fun v _=>v = (vI s29.2),fun v _=>v = (vB j9.2.1),fun v _=>v = (ptr pb50 0),fun v _=>v = (ptr pb50 (0 + (s29.2).toNat * 1024)),fun v _=>v = (ptr pb50 (0 + (s29.2).toNat * 1024 + ((1 : Int)).toNat * 256)),fun v _=>v = (ptr pb50 (0 + (s29.2).toNat * 1024 + ((1 : Int)).toNat * 256 + ((bI j9.2.1)).toNat * 1)),fun v _=>v = (vB x63),fun v _=>v = (vB (x48 ^^^ x63)),fun v _=>v = v0_1,fun v _=>v = (vI s29.2),fun v _=>v = (vB j9.2.2.1),fun v _=>v = (ptr pb65 0),fun v _=>v = (ptr pb65 (0 + (s29.2).toNat * 1024)),fun v _=>v = (ptr pb65 (0 + (s29.2).toNat * 1024 + ((2 : Int)).toNat * 256)),fun v _=>v = (ptr pb65 (0 + (s29.2).toNat * 1024 + ((2 : Int)).toNat * 256 + ((bI j9.2.2.1)).toNat * 1)),fun v _=>v = (vB x78),fun v _=>v = (vB ((x48 ^^^ x63) ^^^ x78)),fun v _=>v = v0_1,fun v _=>v = (vI s29.2),fun v _=>v = (vB j9.2.2.2),fun v _=>v = (ptr pb80 0),fun v _=>v = (ptr pb80 (0 + (s29.2).toNat * 1024)),fun v _=>v = (ptr pb80 (0 + (s29.2).toNat * 1024 + ((3 : Int)).toNat * 256)),fun v _=>v = (ptr pb80 (0 + (s29.2).toNat * 1024 + ((3 : Int)).toNat * 256 + ((bI j9.2.2.2)).toNat * 1)),fun v _=>v = (vB x93),fun v _=>v = (vB (((x48 ^^^ x63) ^^^ x78) ^^^ x93)),fun v _=>v = (ptr pb1 (0 + ((wr (s4.2 + s29.2))).toNat * 1))] : List (Value → World → Prop)).getD j (fun _ _=>True)) (fun _ _ h hk=>h.keep hk) (gup (Zh (Zh (Zh (Zh (Zh (Zh (Zh (Zh (Zh (Zh (Zh (Zh (Zh (Zh (Zh (Zh (Zh (Zh (Zh (Zh (Zh (Zh (Zh (Zh (Zh (Zh (Zh (Zh (Zh (Zh (Zh (Zh (Zh (Zh (Zh (Zh (Zh (Zh (Zh (Zh WV))))))))))))))))))))))))))))))))))))))))) hE hM.drew (ZK (Zb ?_ (Zb ?_ (Zb ?_ (Zb ?_ (Zb ?_ (Zb ?_ (Zb ?_ (Zb ?_ (Zb ?_ (Zb ?_ (Zb ?_ (Zb ?_ (Zb ?_ (Zb ?_ (Zb ?_ (Zb ?_ (Zb ?_ (Zb ?_ (Zb ?_ (Zb ?_ (Zb ?_ (Zb ?_ (Zb ?_ (Zb ?_ (Zb ?_ (Zb ?_ (Zb ?_ (Zb ?_ (Zb ?_ (Zb ?_ (Zb ?_ (Zb ?_ (Zb ?_ (Zb ?_ (Zb ?_ (Zb ?_ (Zb ?_ (Zb ?_ (Zb ?_ (Zb ?_ ZE))))))))))))))))))))))))))))))))))))))))) ?_
      ·exact fun a w ux34 hE hM hp=>Zd hE Za ld rfl fun a hE=>⟨Kept.refl _ _,_,_,rfl,hE,rfl⟩
      ·exact fun a w ux34 hE hM hp=>Zd hE Za ld rfl fun a hE=>⟨Kept.refl _ _,_,_,rfl,hE,rfl⟩
      ·exact fun a w ux34 hE hM hp=>Zd hE Za ld rfl fun a hE=>⟨Kept.refl _ _,_,_,rfl,hE,rfl⟩
      ·intro a w ux34 hE hM hp
       have f1 : ux34 1 = (vI s4.2):=hp 0 _ rfl rfl
       have f2 : ux34 2 = (vI s29.2):=hp 1 _ rfl rfl
       exact Zk hE Za ld (lk rfl f1) (lk rfl f2) rfl fun a hE=>⟨Kept.refl _ _,_,_,rfl,hE,rfl⟩
      ·exact fun a w ux34 hE hM hp=>Zd hE Za ld rfl fun a hE=>⟨Kept.refl _ _,_,_,rfl,hE,rfl⟩
      ·exact fun a w ux34 hE hM hp=>Zd hE Za ld rfl fun a hE=>⟨Kept.refl _ _,_,_,rfl,hE,rfl⟩
      ·exact fun a w ux34 hE hM hp=>Zd hE Za ld rfl fun a hE=>⟨Kept.refl _ _,_,_,rfl,hE,rfl⟩
      ·intro a w ux34 hE hM hp
       have f4 : ux34 4 = v0_1:=hp 0 _ rfl rfl
       exact Yx hE Za ld (lk (lk rfl f4) hv37) fun a hE=>⟨Kept.refl _ _,_,_,rfl,hE,rfl⟩
      ·intro a w ux34 hE hM hp
       have f5 : ux34 5 = (vI s29.2):=hp 1 _ rfl rfl
       have f7 : ux34 7 = (ptr pb35 0):=hp 0 _ rfl rfl
       exact Zg hE Za ld (lk rfl f7) (lk rfl f5) Try.underlying180 KA hi41.1 fun a hE=>⟨Kept.refl _ _,_,_,rfl,hE,rfl⟩
      ·intro a w ux34 hE hM hp
       have f8 : ux34 8 = (ptr pb35 (0 + (s29.2).toNat * 1024)):=hp 0 _ rfl rfl
       exact Zg hE Za ld (lk rfl f8) rfl Try.underlying178 JY hi44.1 fun a hE=>⟨Kept.refl _ _,_,_,rfl,hE,rfl⟩
      ·intro a w ux34 hE hM hp
       have f6 : ux34 6 = (vB j9.1):=hp 1 _ rfl rfl
       have f9 : ux34 9 = (ptr pb35 (0 + (s29.2).toNat * 1024 + ((0 : Int)).toNat * 256)):=hp 0 _ rfl rfl
       exact Zg hE Za ld (lk rfl f9) (lk rfl f6) Try.underlying41 ty5 hi47.1 fun a hE=>⟨Kept.refl _ _,_,_,rfl,hE,rfl⟩
      ·intro a w ux34 hE hM hp
       have f10 : ux34 10 = (ptr pb35 (0 + (s29.2).toNat * 1024 + ((0 : Int)).toNat * 256 + ((bI j9.1)).toNat * 1)):=hp 0 _ rfl rfl
       exact Zv (v:=(vB x48)) hE Za ld (lk rfl f10) ty5 rfl (At.vec (At.vec (At.vec (hM.atk hA39 hB40) hi41.2) hi44.2) hi47.2) fun a hE=>⟨Kept.refl _ _,_,_,rfl,hE,rfl⟩
      ·exact fun a w ux34 hE hM hp=>Zd hE Za ld rfl fun a hE=>⟨Kept.refl _ _,_,_,rfl,hE,rfl⟩
      ·exact fun a w ux34 hE hM hp=>Zd hE Za ld rfl fun a hE=>⟨Kept.refl _ _,_,_,rfl,hE,rfl⟩
      ·exact fun a w ux34 hE hM hp=>Zd hE Za ld rfl fun a hE=>⟨Kept.refl _ _,_,_,rfl,hE,rfl⟩
      ·intro a w ux34 hE hM hp
       have f12 : ux34 12 = v0_1:=hp 0 _ rfl rfl
       exact Yx hE Za ld (lk (lk rfl f12) hv52) fun a hE=>⟨Kept.refl _ _,_,_,rfl,hE,rfl⟩
      ·intro a w ux34 hE hM hp
       have f13 : ux34 13 = (vI s29.2):=hp 1 _ rfl rfl
       have f15 : ux34 15 = (ptr pb50 0):=hp 0 _ rfl rfl
       exact Zg hE Za ld (lk rfl f15) (lk rfl f13) Try.underlying180 KA hi56.1 fun a hE=>⟨Kept.refl _ _,_,_,rfl,hE,rfl⟩
      ·intro a w ux34 hE hM hp
       have f16 : ux34 16 = (ptr pb50 (0 + (s29.2).toNat * 1024)):=hp 0 _ rfl rfl
       exact Zg hE Za ld (lk rfl f16) rfl Try.underlying178 JY hi59.1 fun a hE=>⟨Kept.refl _ _,_,_,rfl,hE,rfl⟩
      ·intro a w ux34 hE hM hp
       have f14 : ux34 14 = (vB j9.2.1):=hp 1 _ rfl rfl
       have f17 : ux34 17 = (ptr pb50 (0 + (s29.2).toNat * 1024 + ((1 : Int)).toNat * 256)):=hp 0 _ rfl rfl
       exact Zg hE Za ld (lk rfl f17) (lk rfl f14) Try.underlying41 ty5 hi62.1 fun a hE=>⟨Kept.refl _ _,_,_,rfl,hE,rfl⟩
      ·intro a w ux34 hE hM hp
       have f18 : ux34 18 = (ptr pb50 (0 + (s29.2).toNat * 1024 + ((1 : Int)).toNat * 256 + ((bI j9.2.1)).toNat * 1)):=hp 0 _ rfl rfl
       exact Zv (v:=(vB x63)) hE Za ld (lk rfl f18) ty5 rfl (At.vec (At.vec (At.vec (hM.atk hA54 hB55) hi56.2) hi59.2) hi62.2) fun a hE=>⟨Kept.refl _ _,_,_,rfl,hE,rfl⟩
      ·intro a w ux34 hE hM hp
       have f11 : ux34 11 = (vB x48):=hp 0 _ rfl rfl
       have f19 : ux34 19 = (vB x63):=hp 1 _ rfl rfl
       exact Zk hE Za ld (lk rfl f11) (lk rfl f19) (Vc x48 x63) fun a hE=>⟨Kept.refl _ _,_,_,rfl,hE,rfl⟩
      ·exact fun a w ux34 hE hM hp=>Zd hE Za ld rfl fun a hE=>⟨Kept.refl _ _,_,_,rfl,hE,rfl⟩
      ·exact fun a w ux34 hE hM hp=>Zd hE Za ld rfl fun a hE=>⟨Kept.refl _ _,_,_,rfl,hE,rfl⟩
      ·exact fun a w ux34 hE hM hp=>Zd hE Za ld rfl fun a hE=>⟨Kept.refl _ _,_,_,rfl,hE,rfl⟩
      ·intro a w ux34 hE hM hp
       have f21 : ux34 21 = v0_1:=hp 0 _ rfl rfl
       exact Yx hE Za ld (lk (lk rfl f21) hv67) fun a hE=>⟨Kept.refl _ _,_,_,rfl,hE,rfl⟩
      ·intro a w ux34 hE hM hp
       have f22 : ux34 22 = (vI s29.2):=hp 1 _ rfl rfl
       have f24 : ux34 24 = (ptr pb65 0):=hp 0 _ rfl rfl
       exact Zg hE Za ld (lk rfl f24) (lk rfl f22) Try.underlying180 KA hi71.1 fun a hE=>⟨Kept.refl _ _,_,_,rfl,hE,rfl⟩
      ·intro a w ux34 hE hM hp
       have f25 : ux34 25 = (ptr pb65 (0 + (s29.2).toNat * 1024)):=hp 0 _ rfl rfl
       exact Zg hE Za ld (lk rfl f25) rfl Try.underlying178 JY hi74.1 fun a hE=>⟨Kept.refl _ _,_,_,rfl,hE,rfl⟩
      ·intro a w ux34 hE hM hp
       have f23 : ux34 23 = (vB j9.2.2.1):=hp 1 _ rfl rfl
       have f26 : ux34 26 = (ptr pb65 (0 + (s29.2).toNat * 1024 + ((2 : Int)).toNat * 256)):=hp 0 _ rfl rfl
       exact Zg hE Za ld (lk rfl f26) (lk rfl f23) Try.underlying41 ty5 hi77.1 fun a hE=>⟨Kept.refl _ _,_,_,rfl,hE,rfl⟩
      ·intro a w ux34 hE hM hp
       have f27 : ux34 27 = (ptr pb65 (0 + (s29.2).toNat * 1024 + ((2 : Int)).toNat * 256 + ((bI j9.2.2.1)).toNat * 1)):=hp 0 _ rfl rfl
       exact Zv (v:=(vB x78)) hE Za ld (lk rfl f27) ty5 rfl (At.vec (At.vec (At.vec (hM.atk hA69 hB70) hi71.2) hi74.2) hi77.2) fun a hE=>⟨Kept.refl _ _,_,_,rfl,hE,rfl⟩
      ·intro a w ux34 hE hM hp
       have f20 : ux34 20 = (vB (x48 ^^^ x63)):=hp 0 _ rfl rfl
       have f28 : ux34 28 = (vB x78):=hp 1 _ rfl rfl
       exact Zk hE Za ld (lk rfl f20) (lk rfl f28) (Vc (x48 ^^^ x63) x78) fun a hE=>⟨Kept.refl _ _,_,_,rfl,hE,rfl⟩
      ·exact fun a w ux34 hE hM hp=>Zd hE Za ld rfl fun a hE=>⟨Kept.refl _ _,_,_,rfl,hE,rfl⟩
      ·exact fun a w ux34 hE hM hp=>Zd hE Za ld rfl fun a hE=>⟨Kept.refl _ _,_,_,rfl,hE,rfl⟩
      ·exact fun a w ux34 hE hM hp=>Zd hE Za ld rfl fun a hE=>⟨Kept.refl _ _,_,_,rfl,hE,rfl⟩
      ·intro a w ux34 hE hM hp
       have f30 : ux34 30 = v0_1:=hp 0 _ rfl rfl
       exact Yx hE Za ld (lk (lk rfl f30) hv82) fun a hE=>⟨Kept.refl _ _,_,_,rfl,hE,rfl⟩
      ·intro a w ux34 hE hM hp
       have f31 : ux34 31 = (vI s29.2):=hp 1 _ rfl rfl
       have f33 : ux34 33 = (ptr pb80 0):=hp 0 _ rfl rfl
       exact Zg hE Za ld (lk rfl f33) (lk rfl f31) Try.underlying180 KA hi86.1 fun a hE=>⟨Kept.refl _ _,_,_,rfl,hE,rfl⟩
      ·intro a w ux34 hE hM hp
       have f34 : ux34 34 = (ptr pb80 (0 + (s29.2).toNat * 1024)):=hp 0 _ rfl rfl
       exact Zg hE Za ld (lk rfl f34) rfl Try.underlying178 JY hi89.1 fun a hE=>⟨Kept.refl _ _,_,_,rfl,hE,rfl⟩
      ·intro a w ux34 hE hM hp
       have f32 : ux34 32 = (vB j9.2.2.2):=hp 1 _ rfl rfl
       have f35 : ux34 35 = (ptr pb80 (0 + (s29.2).toNat * 1024 + ((3 : Int)).toNat * 256)):=hp 0 _ rfl rfl
       exact Zg hE Za ld (lk rfl f35) (lk rfl f32) Try.underlying41 ty5 hi92.1 fun a hE=>⟨Kept.refl _ _,_,_,rfl,hE,rfl⟩
      ·intro a w ux34 hE hM hp
       have f36 : ux34 36 = (ptr pb80 (0 + (s29.2).toNat * 1024 + ((3 : Int)).toNat * 256 + ((bI j9.2.2.2)).toNat * 1)):=hp 0 _ rfl rfl
       exact Zv (v:=(vB x93)) hE Za ld (lk rfl f36) ty5 rfl (At.vec (At.vec (At.vec (hM.atk hA84 hB85) hi86.2) hi89.2) hi92.2) fun a hE=>⟨Kept.refl _ _,_,_,rfl,hE,rfl⟩
      ·intro a w ux34 hE hM hp
       have f29 : ux34 29 = (vB ((x48 ^^^ x63) ^^^ x78)):=hp 0 _ rfl rfl
       have f37 : ux34 37 = (vB x93):=hp 1 _ rfl rfl
       exact Zk hE Za ld (lk rfl f29) (lk rfl f37) (Vc ((x48 ^^^ x63) ^^^ x78) x93) fun a hE=>⟨Kept.refl _ _,_,_,rfl,hE,rfl⟩
      ·intro a w ux34 hE hM hp
       have f0 : ux34 0 = (Value.slice (some ⟨pb1,0,none⟩) 16 16):=hp 0 _ rfl rfl
       have f3 : ux34 3 = (vI (wr (s4.2 + s29.2))):=hp 1 _ rfl rfl
       exact VR hE Za ld (lk rfl f0) (lk rfl f3) Try.underlying22 ty5 hi97.1 fun a hE=>⟨Kept.refl _ _,_,_,rfl,hE,rfl⟩
      ·intro a w ux34 hE hM hg
       have hE:=hE.sub (e':=[(76,(vB (((x48 ^^^ x63) ^^^ x78) ^^^ x93))),(77,(ptr pb1 (0 + ((wr (s4.2 + s29.2))).toNat * 1))),(0,v0_1),(1,(Value.slice (some ⟨pb1,0,none⟩) 16 16)),(4,vI s4.2),(5,vB j9.1),(6,vB j9.2.1),(7,vB j9.2.2.1),(8,vB j9.2.2.2),(9,vI s29.2),(35,vI s29.2),(36,(vT (decide (s29.2 < 4)))),(37,vI s29.2)]) ⟨lk rfl (hg 38 (by decide)),lk rfl (hg 39 (by decide)),rfl,rfl,rfl,rfl,rfl,rfl,rfl,rfl,rfl,rfl,rfl,trivial⟩
       refine Zm (seg:=[(vB (((x48 ^^^ x63) ^^^ x78) ^^^ x93))]) (cs':=enc (s29.1.setIfInBounds ((wr (s4.2 + s29.2))).toNat (((x48 ^^^ x63) ^^^ x78) ^^^ x93))) hE hM Za rfl rfl rfl ty5 rfl (ZI (v:=s29.1) (x:=((x48 ^^^ x63) ^^^ x78) ^^^ x93) hi97.1) (Flat.cell (((x48 ^^^ x63) ^^^ x78) ^^^ x93 : UInt8)) (Zu (v:=s29.1) (x:=((x48 ^^^ x63) ^^^ x78) ^^^ x93) hi97.1) fun w a hM hE=>Zi (Yi (Zt (wp_region_lit (Zk hE Za ld rfl rfl rfl fun a hE=>Zd hE Za ld rfl fun a hE=>Zi (Zj ?_)))))
       exact ⟨_,(ois hs30),hE.sub ⟨rfl,rfl,rfl,rfl,rfl,rfl,rfl,rfl,trivial⟩,hM⟩
     ·intro hb33
      have hs30:=Zx hs30 hb33
      refine wp_exit (Zp (Zp (Yj ?_)))
      have ht98:=hx31 _ (ois hs30)
      subst ht98
      refine Zj ?_
      exact ⟨hE.sub ⟨rfl,rfl,rfl,trivial⟩,hM⟩
    ·skip
     rintro a w ⟨hE,hM⟩
     refine Yi (Zt (wp_region_lit (Zd hE Za ld rfl fun a hE=>Zk hE Za ld rfl rfl rfl fun a hE=>Ze hE Za ld rfl fun a hE=>Zi (Zj ?_))))
     exact ⟨_,(ois hF28),hE.sub ⟨rfl,rfl,rfl,trivial⟩,hM⟩
  ·intro hb8
   have hs5:=Zx hs5 hb8
   refine wp_exit (Zp (Zp (Yj ?_)))
   have ht99:=hx6 _ (ois hs5)
   subst ht99
   refine Zj ?_
   exact ⟨hE.sub ⟨rfl,trivial⟩,hM⟩
 ·skip
  rintro a w ⟨hE,hM⟩
  have hr:=Option.some.inj hF3
  subst hr
  exact Ab hE (by rfl) ⟨_,rfl,rfl,hM⟩
def ZZ (p0 : (Vector UInt8 16)) (p1 : (Vector UInt8 16)) (s12 : (Vector UInt8 16) × Int) : Option (Fl ((Vector UInt8 16) × Int) (Vector UInt8 16)) :=
 if (decide (s12.2 < 16)) = true then ((Zs p0 s12.2).bind fun x17=>(Zs p1 (bI x17)).bind fun x21=>(Zs s12.1 s12.2).bind fun x24=>some (Fl.nx ((s12.1.setIfInBounds (s12.2).toNat x21),wr (s12.2 + 1)))) else (some (Fl.ex s12.1))
def Yf (p0 : (Vector UInt8 16)) (p1 : (Vector UInt8 16)) : Option ((Vector UInt8 16)) :=
 (ZB (ZZ p0 p1) ((Vector.replicate 16 (0 : UInt8)),0)).bind fun j9=>some j9
theorem Ua (w0 : World) (p0 : (Vector UInt8 16)) (p1 : (Vector UInt8 16)) (r : (Vector UInt8 16)) (hF : Yf p0 p1 = some r) :
  Calls Try.prog 132 [(Value.agg (enc p0).toArray),(Value.agg (enc p1).toArray)].toArray w0 (fun en w'=>∃ v,en = .returned v ∧ (v = (Value.agg (enc r).toArray) ∧ Kept (Old w0) w0 w')):=by
 refine ZC (n:=21) Try.func132 rfl rfl (nbl rfl) rfl ?_
 intro a hE
 have hM:=M.start w0
 unfold Yf at hF
 refine Zc (ZX (cs:=enc p0) hE hM Za ld rfl rfl fun b1 w a hM hE=>ZX (cs:=enc p1) hE hM Za ld rfl rfl fun b3 w a hM hE=>ZF hE hM Za ld ZG fun b5 w a hM hE=>Zf (Zc (YP (parts:=[]) (vs:=[]) (cs:=enc (Vector.replicate 16 (0 : UInt8))) hE Za ld rfl rfl ZG rfl ty5 Yr fun a hE=>ZF hE hM Za ld ZG fun b7 w a hM hE=>Zm (seg:=enc (Vector.replicate 16 (0 : UInt8))) (cs':=enc (Vector.replicate 16 (0 : UInt8))) hE hM Za rfl rfl rfl ZG (Flat.len _) (zle flq) (Flat.cell _) (Zn flq) fun w a hM hE=>Zf (wp_seq (Zc (Zl (cs:=enc p0) hE Za ld rfl WZ rfl (hM.rawAt (pre:=[_,_,_])) (Flat.len _) fun a hE=>Zd hE Za ld rfl fun a hE=>Zf ?_))))))
 obtain ⟨j9,hl10,hF11⟩:=bind_some hF
 refine ZP (fun a w=>Env 21 a [(4,(ptr b5 0)),(5,(ptr b7 0))] ∧ M (Old w0) w0 w [raw b7 (enc j9),raw b5 (enc (Vector.replicate 16 (0 : UInt8)))]) ?_ ?_
 ·skip
  refine wp_block ?_
  have hM:=M.fst (l:=[_,_,_]) (((hM.pull (pre:=[_,_])).pull (pre:=[_,_])).pull (pre:=[_,_]))
  refine ZJ (fun (s12 : (Vector UInt8 16) × Int) a w=>Env 21 a [(3,(ptr b3 0)),(4,(ptr b5 0)),(5,(ptr b7 0)),(9,(Value.agg (enc p0).toArray)),(10,vI s12.2)] ∧ M (Old w0) w0 w [raw b7 (enc s12.1),raw b5 (enc (Vector.replicate 16 (0 : UInt8))),raw b3 (enc p1)]) hl10 ⟨hE.sub ⟨rfl,rfl,rfl,rfl,rfl,trivial⟩,hM⟩ ?_
  rintro s12 a w ⟨hE,hM⟩ o15 hs13 hx14
  unfold ZZ at hs13
  refine Zc (Zk hE Za ld rfl rfl rfl fun a hE=>Zf (wp_seq ?_))
  refine Zr hE rfl ?_ ?_
  ·intro hb16
   have hs13:=Zw hs13 hb16
   refine wp_skip (Zt (wp_seq (wp_block (Zc (Zd hE Za ld rfl ?_))))); intro a hE
   obtain ⟨x17,hi19,hs13⟩:=bvx hs13
   refine VT hE Za ld rfl rfl Try.underlying51 ty5 rfl rfl hi19 rfl fun a hE=>Ze hE Za ld rfl fun a hE=>Ze hE Za ld rfl fun a hE=>Zf (wp_region_lit (Zd hE Za ld rfl fun a hE=>Zd hE Za ld rfl ?_)); intro a hE
   obtain ⟨x21,hi20,hs13⟩:=bvx hs13
   refine Zg hE Za ld rfl rfl Try.underlying55 ty5 hi20.1 fun a hE=>Zv (v:=(vB x21)) hE Za ld rfl ty5 rfl (At.vec (hM.rawAt (pre:=[_,_])) hi20.2) ?_; intro a hE
   obtain ⟨x24,hi23,hs13⟩:=bvx hs13
   refine Zg hE Za ld rfl rfl Try.underlying55 ty5 hi23.1 fun a hE=>Zm (seg:=[vB x21]) (cs':=enc (s12.1.setIfInBounds (s12.2).toNat x21)) hE hM Za rfl rfl rfl ty5 rfl (ZI (v:=s12.1) (x:=x21) hi23.1) (Flat.cell (x21 : UInt8)) (Zu (v:=s12.1) (x:=x21) hi23.1) fun w a hM hE=>Zi (Yi (Zt (wp_region_lit (Zk hE Za ld rfl rfl rfl fun a hE=>Zd hE Za ld rfl fun a hE=>Zi (Zj ?_)))))
   exact ⟨_,(ois hs13),hE.sub ⟨rfl,rfl,rfl,rfl,rfl,trivial⟩,hM⟩
  ·intro hb16
   have hs13:=Zx hs13 hb16
   refine wp_exit (Zp (Zp (Yj ?_)))
   have ht26:=hx14 _ (ois hs13)
   subst ht26
   refine Zj ?_
   have hM:=M.fst (l:=[_,_]) ((hM.pull (pre:=[_])).pull (pre:=[_]))
   exact ⟨hE.sub ⟨rfl,rfl,trivial⟩,hM⟩
 ·skip
  rintro a w ⟨hE,hM⟩
  refine Zt (Zc (Zl (cs:=enc j9) hE Za ld rfl ZG rfl (hM.rawAt (pre:=[])) (Flat.len _) ?_)); intro a hE
  have hM:=hM.pull (pre:=[_])
  refine Zm (seg:=enc j9) (cs':=enc j9) hE hM Za rfl rfl rfl ZG (Flat.len _) (zle flq) (Flat.cell _) (Zn flq) fun w a hM hE=>Zf ?_
  have hr:=Option.some.inj hF11
  subst hr
  have hq27 : YD Try.prog _ _ (.cell 4 55) _:=ZW hE rfl ZG rfl (hM.rawAt (pre:=[])) (Flat.len _) rfl
  have hM:=M.fst (l:=[]) hM
  exact wp_ret (ZD hE rfl hq27 ⟨_,rfl,rfl,hM.kept⟩)
def Z2 (p0 : (Ref Gengine)) (j48 : (Vector UInt8 16)) (s68 : (Vector UInt8 16) × Int) : Option (Fl ((Vector UInt8 16) × Int) (Vector UInt8 16)) :=
 if (decide (s68.2 < 16)) = true then ((Zs j48 s68.2).bind fun x73=>(Zs p0.v.backBox (bI x73)).bind fun x87=>(Zs s68.1 s68.2).bind fun x90=>some (Fl.nx ((s68.1.setIfInBounds (s68.2).toNat x87),wr (s68.2 + 1)))) else (some (Fl.ex s68.1))
def Z3 (p0 : (Ref Gengine)) (p1 : (List (Vector UInt8 16))) (s8 : (Vector UInt8 16) × Int) : Option (Fl ((Vector UInt8 16) × Int) (Vector UInt8 16)) :=
 if (decide (s8.2 > 0)) = true then ((((idx p1 s8.2).bind fun x20=>(YB s8.1 x20).bind fun r23=>some r23 : Option ((Vector UInt8 16))).bind fun j16=>(if (decide (s8.2 < (wr ((p1.length : Int) - 1)))) = true then ((slc j16.toList (0 : Int) (16 : Int)).bind fun l41=>(XE p0.v.backMixer j16).bind fun r44=>some r44) else (some j16) : Option ((Vector UInt8 16))).bind fun j26=>((Yf p0.v.backPlaces j26).bind fun r62=>some r62 : Option ((Vector UInt8 16))).bind fun j48=>(ZB (Z2 p0 j48) (j48,0)).bind fun j65=>some j65 : Option ((Vector UInt8 16))).bind fun j13=>some (Fl.nx (j13,wr (s8.2 - 1)))) else (some (Fl.ex s8.1))
def Z6 (p0 : (Ref Gengine)) (p1 : (List (Vector UInt8 16))) (p2 : (Vector UInt8 16)) : Option ((Vector UInt8 16)) :=
 (ZB (Z3 p0 p1) (p2,wr ((p1.length : Int) - 1))).bind fun j5=>((idx p1 (0 : Int)).bind fun x99=>(YB j5 x99).bind fun r102=>some r102 : Option ((Vector UInt8 16))).bind fun j95=>some j95
theorem Uc (w0 : World) (p0 : (Ref Gengine)) (v0_1 : Value) (hv0_1 : Ro w0 p0 [v0_1]) (p1 : (List (Vector UInt8 16))) (v1_1 : Value) (hv1_1 : Ro w0 p1 [v1_1]) (p2 : (Vector UInt8 16)) (r : (Vector UInt8 16)) (hF : Z6 p0 p1 p2 = some r) :
  Calls Try.prog 76 [v0_1,v1_1,(Value.agg (enc p2).toArray)].toArray w0 (fun en w'=>∃ v,en = .returned v ∧ (v = (Value.agg (enc r).toArray) ∧ Kept (Old w0) w0 w')):=by
 refine ZC (n:=59) Try.func76 rfl rfl (nbl rfl) rfl ?_
 intro a hE
 have hM:=M.start w0
 unfold Z6 at hF
 refine Zc (ZX (cs:=enc p2) hE hM Za ld rfl rfl fun b1 w a hM hE=>ZF hE hM Za ld ZG fun b3 w a hM hE=>Zf (wp_seq (Zc (Zd hE Za ld rfl fun a hE=>UC hE Za ld rfl Try.underlying69 (hM.rd hv1_1) fun a hE=>Zk hE Za ld rfl rfl rfl fun a hE=>Ze hE Za ld rfl fun a hE=>Zf ?_))))
 obtain ⟨j5,hl6,hF7⟩:=bind_some hF
 refine ZP (fun a w=>Env 59 a [(1,v1_1),(5,(ptr b1 0)),(6,(ptr b3 0))] ∧ M (Old w0) w0 w [raw b3 (enc (Vector.replicate 16 (0 : UInt8))),raw b1 (enc j5)]) ?_ ?_
 ·skip
  refine wp_block ?_
  refine ZJ (fun (s8 : (Vector UInt8 16) × Int) a w=>Env 59 a [(0,v0_1),(1,v1_1),(5,(ptr b1 0)),(6,(ptr b3 0)),(7,vI s8.2)] ∧ M (Old w0) w0 w [raw b3 (enc (Vector.replicate 16 (0 : UInt8))),raw b1 (enc s8.1)]) hl6 ⟨hE.sub ⟨rfl,rfl,rfl,rfl,rfl,trivial⟩,hM⟩ ?_
  rintro s8 a w ⟨hE,hM⟩ o11 hs9 hx10
  unfold Z3 at hs9
  refine wp_seq (Zc (Zd hE Za ld rfl fun a hE=>Zk hE Za ld rfl rfl rfl fun a hE=>Zf ?_))
  refine Zr hE rfl ?_ ?_
  ·intro hb12
   have hs9:=Zw hs9 hb12
   refine wp_skip (Zt ?_)
   obtain ⟨j13,hl14,hF15⟩:=bind_some hs9
   refine ZL (fun a w=>Env 59 a [(0,v0_1),(1,v1_1),(5,(ptr b1 0)),(6,(ptr b3 0)),(7,vI s8.2)] ∧ M (Old w0) w0 w [raw b3 (enc (Vector.replicate 16 (0 : UInt8))),raw b1 (enc j13)]) ?_ ?_
   ·skip
    refine wp_block ?_
    obtain ⟨j16,hl17,hF18⟩:=bind_some hl14
    refine ZL (fun a w=>Env 59 a [(0,v0_1),(1,v1_1),(5,(ptr b1 0)),(6,(ptr b3 0)),(7,vI s8.2)] ∧ M (Old w0) w0 w [raw b3 (enc (Vector.replicate 16 (0 : UInt8))),raw b1 (enc j16)]) ?_ ?_
    ·skip
     obtain ⟨x20,hi22,hl17⟩:=bix hl17
     obtain ⟨r23,e24,hl17⟩:=bind_some hl17
     refine Yd (n:=59) (hd:=[_,_,_,_,_,_]) (tl:=[_]) YR rfl rfl [17,18,19,20,21,22] (by decide) (fun w=>M (Old w0) w0 w [raw b3 (enc (Vector.replicate 16 (0 : UInt8))),raw b1 (enc s8.1)]) (fun j=>([fun v _=>v = (Value.agg (enc s8.1).toArray),fun v _=>v = v1_1,fun v _=>v = (vI s8.2),fun v _=>v = (ptr (sb v1_1) (so v1_1 + (s8.2).toNat * 16)),fun v _=>v = (Value.agg (enc x20).toArray),fun v _=>v = (Value.agg (enc r23).toArray)] : List (Value → World → Prop)).getD j (fun _ _=>True)) (fun _ _ h hk=>h.keep hk) (gup (Zh (Zh (Zh (Zh (Zh (Zh WV))))))) hE hM.drew (ZK (Zb ?_ (Zb ?_ (Zb ?_ (Zb ?_ (Zb ?_ (Zb ?_ ZE))))))) ?_
     ·exact fun a w ux19 hE hM hp=>Zl (cs:=enc s8.1) hE Za ld rfl ZG rfl (hM.rawAt (pre:=[_])) (Flat.len _) fun a hE=>⟨Kept.refl _ _,_,_,rfl,hE,rfl⟩
     ·exact fun a w ux19 hE hM hp=>Zd hE Za ld rfl fun a hE=>⟨Kept.refl _ _,_,_,rfl,hE,rfl⟩
     ·exact fun a w ux19 hE hM hp=>Zd hE Za ld rfl fun a hE=>⟨Kept.refl _ _,_,_,rfl,hE,rfl⟩
     ·intro a w ux19 hE hM hp
      have f1 : ux19 1 = v1_1:=hp 0 _ rfl rfl
      have f2 : ux19 2 = (vI s8.2):=hp 1 _ rfl rfl
      exact YT hE Za ld (lk rfl f1) (lk rfl f2) Try.underlying69 ZG (hM.rd hv1_1) hi22.1 fun a hE=>⟨Kept.refl _ _,_,_,rfl,hE,rfl⟩
     ·intro a w ux19 hE hM hp
      have f3 : ux19 3 = (ptr (sb v1_1) (so v1_1 + (s8.2).toNat * 16)):=hp 0 _ rfl rfl
      exact Zl (cs:=enc x20) hE Za ld (lk rfl f3) ZG rfl (Vb (hM.rd hv1_1) hi22.2) (Flat.len _) fun a hE=>⟨Kept.refl _ _,_,_,rfl,hE,rfl⟩
     ·intro a w ux19 hE hM hp
      have f0 : ux19 0 = (Value.agg (enc s8.1).toArray):=hp 0 _ rfl rfl
      have f4 : ux19 4 = (Value.agg (enc x20).toArray):=hp 1 _ rfl rfl
      refine Zq hE Za ld (ZV (ZT (lk rfl f0) (ZT (lk rfl f4) Xw))) H4 (W4 _ s8.1 x20 r23 e24) ?_
      rintro v w a ⟨rfl,hK⟩ hE
      exact ⟨hK,_,_,rfl,hE,rfl⟩
     ·intro a w ux19 hE hM hg
      have hE:=hE.sub (e':=[(22,(Value.agg (enc r23).toArray)),(0,v0_1),(1,v1_1),(5,(ptr b1 0)),(6,(ptr b3 0)),(7,vI s8.2),(13,vI s8.2),(14,(vT (decide (s8.2 > 0))))]) ⟨lk rfl (hg 5 (by decide)),rfl,rfl,rfl,rfl,rfl,rfl,rfl,trivial⟩
      have hM:=hM.pull (pre:=[_])
      refine Zm (seg:=enc r23) (cs':=enc r23) hE hM Za rfl rfl rfl ZG (Flat.len _) (zle flq) (Flat.cell _) (Zn flq) fun w a hM hE=>Zi ?_
      have ht25:=Option.some.inj hl17
      subst ht25
      refine Zj ?_
      have hM:=hM.pull (pre:=[_])
      exact ⟨hE.sub ⟨rfl,rfl,rfl,rfl,rfl,trivial⟩,hM⟩
    ·skip
     rintro a w ⟨hE,hM⟩
     obtain ⟨j26,hl27,hF28⟩:=bind_some hF18
     refine ZL (fun a w=>Env 59 a [(0,v0_1),(1,v1_1),(5,(ptr b1 0)),(6,(ptr b3 0)),(7,vI s8.2)] ∧ M (Old w0) w0 w [raw b3 (enc (Vector.replicate 16 (0 : UInt8))),raw b1 (enc j26)]) ?_ ?_
     ·skip
      refine Zc (Zd hE Za ld rfl fun a hE=>Zd hE Za ld rfl fun a hE=>UC hE Za ld rfl Try.underlying69 (hM.rd hv1_1) fun a hE=>Zk hE Za ld rfl rfl rfl fun a hE=>Zk hE Za ld rfl rfl rfl fun a hE=>Zf ?_)
      refine Zr hE rfl ?_ ?_
      ·intro hb29
       have hl27:=Zw hl27 hb29
       obtain ⟨pb31,ds32,hv33,hx34,hA35,hB36⟩:=Wc hv0_1 -- ^
       obtain ⟨u37,u39,rfl,h38,h40⟩:=Wr hx34 -- ^
       obtain ⟨l41,e42,hl27⟩:=bind_some hl27
       have hb43:=Km e42 -- ^
       refine Yd (n:=59) (hd:=[_,_,_,_,_]) (tl:=[_]) YR rfl rfl [28,29,30,31,32] (by decide) (fun w=>M (Old w0) w0 w [raw b3 (enc (Vector.replicate 16 (0 : UInt8))),raw b1 (enc j16)]) (fun j=>([fun v _=>v = v0_1,fun v _=>v = (ptr pb31 0),fun v _=>v = (ptr pb31 (0 + 545)),fun v _=>v = u39,fun v _=>v = (Ws (.slice (some ⟨b1,0,none⟩) 16 16) ((0 : Int)).toNat ((16 : Int)).toNat 1)] : List (Value → World → Prop)).getD j (fun _ _=>True)) (fun _ _ h hk=>h.keep hk) (gup (Zh (Zh (Zh (Zh (Zh WV)))))) hE hM.drew (ZK (Zb ?_ (Zb ?_ (Zb ?_ (Zb ?_ (Zb ?_ ZE)))))) ?_
       ·exact fun a w ux30 hE hM hp=>Zd hE Za ld rfl fun a hE=>⟨Kept.refl _ _,_,_,rfl,hE,rfl⟩
       ·intro a w ux30 hE hM hp
        have f0 : ux30 0 = v0_1:=hp 0 _ rfl rfl
        exact Yx hE Za ld (lk (lk rfl f0) hv33) fun a hE=>⟨Kept.refl _ _,_,_,rfl,hE,rfl⟩
       ·intro a w ux30 hE hM hp
        have f1 : ux30 1 = (ptr pb31 0):=hp 0 _ rfl rfl
        exact Zo hE Za ld (lk rfl f1) (BZ) fun a hE=>⟨Kept.refl _ _,_,_,rfl,hE,rfl⟩
       ·intro a w ux30 hE hM hp
        have f2 : ux30 2 = (ptr pb31 (0 + 545)):=hp 0 _ rfl rfl
        exact Zv (v:=u39) hE Za ld (lk rfl f2) H2 rfl (At.cat (pre:=[enc p0.v.box,enc p0.v.backBox,enc p0.v.places,enc p0.v.backPlaces,[u37]]) (hM.atk hA35 hB36) (cl1 (n:=256) (m:=289) (Flat.len _) (cl1 (n:=256) (m:=33) (Flat.len _) (cl1 (n:=16) (m:=17) (Flat.len _) (cl1 (n:=16) (m:=1) (Flat.len _) (cl1 (n:=1) (m:=0) rfl cl0)))))) fun a hE=>⟨Kept.refl _ _,_,_,rfl,hE,rfl⟩
       ·exact fun a w ux30 hE hM hp=>UE (N:=16) hE Za ld rfl rfl rfl rfl rfl Try.underlying55 ty5 hb43 fun a hE=>⟨Kept.refl _ _,_,_,rfl,hE,rfl⟩
       ·intro a w ux30 hE hM hg
        have hE:=hE.sub (e':=[(31,u39),(32,(Ws (.slice (some ⟨b1,0,none⟩) 16 16) ((0 : Int)).toNat ((16 : Int)).toNat 1)),(0,v0_1),(1,v1_1),(5,(ptr b1 0)),(6,(ptr b3 0)),(7,vI s8.2),(23,vI s8.2),(24,v1_1),(25,(vI (p1.length : Int))),(26,(vI (wr ((p1.length : Int) - 1)))),(27,(vT (decide (s8.2 < (wr ((p1.length : Int) - 1))))))]) ⟨lk rfl (hg 3 (by decide)),lk rfl (hg 4 (by decide)),rfl,rfl,rfl,rfl,rfl,rfl,rfl,rfl,rfl,rfl,trivial⟩
        have hM:=hM.pull (pre:=[_])
        obtain ⟨r44,e45,hl27⟩:=bind_some hl27
        refine Zq hE Za ld rfl cb131 (Uv _ _ _ _ p0.v.backMixer u39 h40 b1 j16 hM r44 e45) ?_
        rintro v w a ⟨rfl,hM⟩ hE
        refine Zi ?_
        have ht46:=Option.some.inj hl27
        subst ht46
        refine Zj ?_
        have hM:=hM.pull (pre:=[_])
        exact ⟨hE.sub ⟨rfl,rfl,rfl,rfl,rfl,trivial⟩,hM⟩
      ·intro hb29
       have hl27:=Zx hl27 hb29
       refine wp_skip ?_
       have ht47:=Option.some.inj hl27
       subst ht47
       refine Zj ?_
       exact ⟨hE.sub ⟨rfl,rfl,rfl,rfl,rfl,trivial⟩,hM⟩
     ·skip
      rintro a w ⟨hE,hM⟩
      obtain ⟨j48,hl49,hF50⟩:=bind_some hF28
      refine ZL (fun a w=>Env 59 a [(0,v0_1),(1,v1_1),(5,(ptr b1 0)),(6,(ptr b3 0)),(7,vI s8.2)] ∧ M (Old w0) w0 w [raw b3 (enc (Vector.replicate 16 (0 : UInt8))),raw b1 (enc j48)]) ?_ ?_
      ·skip
       obtain ⟨pb52,ds53,hv54,hx55,hA56,hB57⟩:=Wc hv0_1 -- ^
       obtain ⟨u58,u60,rfl,h59,h61⟩:=Wr hx55 -- ^
       obtain ⟨r62,e63,hl49⟩:=bind_some hl49
       refine Yd (n:=59) (hd:=[_,_,_,_,_,_]) (tl:=[_]) YR rfl rfl [34,35,36,37,38,39] (by decide) (fun w=>M (Old w0) w0 w [raw b3 (enc (Vector.replicate 16 (0 : UInt8))),raw b1 (enc j26)]) (fun j=>([fun v _=>v = v0_1,fun v _=>v = (ptr pb52 0),fun v _=>v = (ptr pb52 (0 + 528)),fun v _=>v = (Value.agg (enc p0.v.backPlaces).toArray),fun v _=>v = (Value.agg (enc j26).toArray),fun v _=>v = (Value.agg (enc r62).toArray)] : List (Value → World → Prop)).getD j (fun _ _=>True)) (fun _ _ h hk=>h.keep hk) (gup (Zh (Zh (Zh (Zh (Zh (Zh WV))))))) hE hM.drew (ZK (Zb ?_ (Zb ?_ (Zb ?_ (Zb ?_ (Zb ?_ (Zb ?_ ZE))))))) ?_
       ·exact fun a w ux51 hE hM hp=>Zd hE Za ld rfl fun a hE=>⟨Kept.refl _ _,_,_,rfl,hE,rfl⟩
       ·intro a w ux51 hE hM hp
        have f0 : ux51 0 = v0_1:=hp 0 _ rfl rfl
        exact Yx hE Za ld (lk (lk rfl f0) hv54) fun a hE=>⟨Kept.refl _ _,_,_,rfl,hE,rfl⟩
       ·intro a w ux51 hE hM hp
        have f1 : ux51 1 = (ptr pb52 0):=hp 0 _ rfl rfl
        exact Zo hE Za ld (lk rfl f1) (B0) fun a hE=>⟨Kept.refl _ _,_,_,rfl,hE,rfl⟩
       ·intro a w ux51 hE hM hp
        have f2 : ux51 2 = (ptr pb52 (0 + 528)):=hp 0 _ rfl rfl
        exact Zl (cs:=enc p0.v.backPlaces) hE Za ld (lk rfl f2) WZ rfl (At.cat (pre:=[enc p0.v.box,enc p0.v.backBox,enc p0.v.places]) (hM.atk hA56 hB57) (cl1 (n:=256) (m:=272) (Flat.len _) (cl1 (n:=256) (m:=16) (Flat.len _) (cl1 (n:=16) (m:=0) (Flat.len _) cl0)))) (Flat.len _) fun a hE=>⟨Kept.refl _ _,_,_,rfl,hE,rfl⟩
       ·exact fun a w ux51 hE hM hp=>Zl (cs:=enc j26) hE Za ld rfl ZG rfl (hM.rawAt (pre:=[_])) (Flat.len _) fun a hE=>⟨Kept.refl _ _,_,_,rfl,hE,rfl⟩
       ·intro a w ux51 hE hM hp
        have f3 : ux51 3 = (Value.agg (enc p0.v.backPlaces).toArray):=hp 0 _ rfl rfl
        have f4 : ux51 4 = (Value.agg (enc j26).toArray):=hp 1 _ rfl rfl
        refine Zq hE Za ld (ZV (ZT (lk rfl f3) (ZT (lk rfl f4) Xw))) cb132 (Ua _ p0.v.backPlaces j26 r62 e63) ?_
        rintro v w a ⟨rfl,hK⟩ hE
        exact ⟨hK,_,_,rfl,hE,rfl⟩
       ·intro a w ux51 hE hM hg
        have hE:=hE.sub (e':=[(39,(Value.agg (enc r62).toArray)),(0,v0_1),(1,v1_1),(5,(ptr b1 0)),(6,(ptr b3 0)),(7,vI s8.2)]) ⟨lk rfl (hg 5 (by decide)),rfl,rfl,rfl,rfl,rfl,trivial⟩
        have hM:=hM.pull (pre:=[_])
        refine Zm (seg:=enc r62) (cs':=enc r62) hE hM Za rfl rfl rfl ZG (Flat.len _) (zle flq) (Flat.cell _) (Zn flq) fun w a hM hE=>Zi ?_
        have ht64:=Option.some.inj hl49
        subst ht64
        refine Zj ?_
        have hM:=hM.pull (pre:=[_])
        exact ⟨hE.sub ⟨rfl,rfl,rfl,rfl,rfl,trivial⟩,hM⟩
      ·skip
       rintro a w ⟨hE,hM⟩
       refine Zc (Zl (cs:=enc j48) hE Za ld rfl ZG rfl (hM.rawAt (pre:=[_])) (Flat.len _) fun a hE=>Zd hE Za ld rfl fun a hE=>Zf ?_)
       obtain ⟨j65,hl66,hF67⟩:=bind_some hF50
       refine ZP (fun a w=>Env 59 a [(0,v0_1),(1,v1_1),(5,(ptr b1 0)),(6,(ptr b3 0)),(7,vI s8.2)] ∧ M (Old w0) w0 w [raw b3 (enc (Vector.replicate 16 (0 : UInt8))),raw b1 (enc j65)]) ?_ ?_
       ·skip
        refine wp_block ?_
        refine ZJ (fun (s68 : (Vector UInt8 16) × Int) a w=>Env 59 a [(0,v0_1),(1,v1_1),(5,(ptr b1 0)),(6,(ptr b3 0)),(7,vI s8.2),(40,(Value.agg (enc j48).toArray)),(41,vI s68.2)] ∧ M (Old w0) w0 w [raw b3 (enc (Vector.replicate 16 (0 : UInt8))),raw b1 (enc s68.1)]) hl66 ⟨hE.sub ⟨rfl,rfl,rfl,rfl,rfl,rfl,rfl,trivial⟩,hM⟩ ?_
        rintro s68 a w ⟨hE,hM⟩ o71 hs69 hx70
        unfold Z2 at hs69
        refine Zc (Zk hE Za ld rfl rfl rfl fun a hE=>Zf (wp_seq ?_))
        refine Zr hE rfl ?_ ?_
        ·intro hb72
         have hs69:=Zw hs69 hb72
         refine wp_skip (Zt (wp_seq (wp_block (Zc (Zd hE Za ld rfl ?_))))); intro a hE
         obtain ⟨x73,hi75,hs69⟩:=bvx hs69
         refine VT hE Za ld rfl rfl Try.underlying55 ty5 rfl rfl hi75 rfl fun a hE=>Ze hE Za ld rfl fun a hE=>Ze hE Za ld rfl fun a hE=>Zf (wp_region_lit (Zd hE Za ld rfl fun a hE=>Zd hE Za ld rfl fun a hE=>Zd hE Za ld rfl ?_)); intro a hE
         obtain ⟨pb76,ds77,hv78,hx79,hA80,hB81⟩:=Wc hv0_1 -- ^
         obtain ⟨u82,u84,rfl,h83,h85⟩:=Wr hx79 -- ^
         refine Yx hE Za ld (lk rfl hv78) fun a hE=>Zo hE Za ld rfl (B4) ?_; intro a hE
         obtain ⟨x87,hi86,hs69⟩:=bvx hs69
         refine Zg hE Za ld rfl rfl Try.underlying49 ty5 hi86.1 fun a hE=>Zv (v:=(vB x87)) hE Za ld rfl ty5 rfl (At.vec (At.cat (pre:=[enc p0.v.box]) (hM.atk hA80 hB81) (cl1 (n:=256) (m:=0) (Flat.len _) cl0)) hi86.2) ?_; intro a hE
         obtain ⟨x90,hi89,hs69⟩:=bvx hs69
         refine Zg hE Za ld rfl rfl Try.underlying55 ty5 hi89.1 ?_; intro a hE
         have hM:=hM.pull (pre:=[_])
         refine Zm (seg:=[vB x87]) (cs':=enc (s68.1.setIfInBounds (s68.2).toNat x87)) hE hM Za rfl rfl rfl ty5 rfl (ZI (v:=s68.1) (x:=x87) hi89.1) (Flat.cell (x87 : UInt8)) (Zu (v:=s68.1) (x:=x87) hi89.1) fun w a hM hE=>Zi (Yi (Zt (wp_region_lit (Zk hE Za ld rfl rfl rfl fun a hE=>Zd hE Za ld rfl fun a hE=>Zi (Zj ?_)))))
         have hM:=hM.pull (pre:=[_])
         exact ⟨_,(ois hs69),hE.sub ⟨rfl,rfl,rfl,rfl,rfl,rfl,rfl,trivial⟩,hM⟩
        ·intro hb72
         have hs69:=Zx hs69 hb72
         refine wp_exit (Zp (Zp (Yj ?_)))
         have ht92:=hx70 _ (ois hs69)
         subst ht92
         refine Zj ?_
         exact ⟨hE.sub ⟨rfl,rfl,rfl,rfl,rfl,trivial⟩,hM⟩
       ·skip
        rintro a w ⟨hE,hM⟩
        refine Yi ?_
        have ht93:=Option.some.inj hF67
        subst ht93
        refine Zj ?_
        exact ⟨hE.sub ⟨rfl,rfl,rfl,rfl,rfl,trivial⟩,hM⟩
   ·skip
    rintro a w ⟨hE,hM⟩
    refine wp_region_lit (Zd hE Za ld rfl fun a hE=>Zk hE Za ld rfl rfl rfl fun a hE=>Ze hE Za ld rfl fun a hE=>Zi (Zj ?_))
    exact ⟨_,(ois hF15),hE.sub ⟨rfl,rfl,rfl,rfl,rfl,trivial⟩,hM⟩
  ·intro hb12
   have hs9:=Zx hs9 hb12
   refine wp_exit (Zp (Zp (Yj ?_)))
   have ht94:=hx10 _ (ois hs9)
   subst ht94
   refine Zj ?_
   exact ⟨hE.sub ⟨rfl,rfl,rfl,trivial⟩,hM⟩
 ·skip
  rintro a w ⟨hE,hM⟩
  refine Zt ?_
  obtain ⟨j95,hl96,hF97⟩:=bind_some hF7
  refine ZL (fun a w=>Env 59 a [(6,(ptr b3 0))] ∧ M (Old w0) w0 w [raw b3 (enc j95)]) ?_ ?_
  ·skip
   obtain ⟨x99,hi101,hl96⟩:=bix hl96
   obtain ⟨r102,e103,hl96⟩:=bind_some hl96
   refine Yd (n:=59) (hd:=[_,_,_,_,_]) (tl:=[_]) YR rfl rfl [54,55,56,57,58] (by decide) (fun w=>M (Old w0) w0 w [raw b3 (enc (Vector.replicate 16 (0 : UInt8))),raw b1 (enc j5)]) (fun j=>([fun v _=>v = (Value.agg (enc j5).toArray),fun v _=>v = v1_1,fun v _=>v = (ptr (sb v1_1) (so v1_1 + ((0 : Int)).toNat * 16)),fun v _=>v = (Value.agg (enc x99).toArray),fun v _=>v = (Value.agg (enc r102).toArray)] : List (Value → World → Prop)).getD j (fun _ _=>True)) (fun _ _ h hk=>h.keep hk) (gup (Zh (Zh (Zh (Zh (Zh WV)))))) hE hM.drew (ZK (Zb ?_ (Zb ?_ (Zb ?_ (Zb ?_ (Zb ?_ ZE)))))) ?_
   ·exact fun a w ux98 hE hM hp=>Zl (cs:=enc j5) hE Za ld rfl ZG rfl (hM.rawAt (pre:=[_])) (Flat.len _) fun a hE=>⟨Kept.refl _ _,_,_,rfl,hE,rfl⟩
   ·exact fun a w ux98 hE hM hp=>Zd hE Za ld rfl fun a hE=>⟨Kept.refl _ _,_,_,rfl,hE,rfl⟩
   ·intro a w ux98 hE hM hp
    have f1 : ux98 1 = v1_1:=hp 0 _ rfl rfl
    exact YT hE Za ld (lk rfl f1) rfl Try.underlying69 ZG (hM.rd hv1_1) hi101.1 fun a hE=>⟨Kept.refl _ _,_,_,rfl,hE,rfl⟩
   ·intro a w ux98 hE hM hp
    have f2 : ux98 2 = (ptr (sb v1_1) (so v1_1 + ((0 : Int)).toNat * 16)):=hp 0 _ rfl rfl
    exact Zl (cs:=enc x99) hE Za ld (lk rfl f2) ZG rfl (Vb (hM.rd hv1_1) hi101.2) (Flat.len _) fun a hE=>⟨Kept.refl _ _,_,_,rfl,hE,rfl⟩
   ·intro a w ux98 hE hM hp
    have f0 : ux98 0 = (Value.agg (enc j5).toArray):=hp 0 _ rfl rfl
    have f3 : ux98 3 = (Value.agg (enc x99).toArray):=hp 1 _ rfl rfl
    refine Zq hE Za ld (ZV (ZT (lk rfl f0) (ZT (lk rfl f3) Xw))) H4 (W4 _ j5 x99 r102 e103) ?_
    rintro v w a ⟨rfl,hK⟩ hE
    exact ⟨hK,_,_,rfl,hE,rfl⟩
   ·intro a w ux98 hE hM hg
    have hE:=hE.sub (e':=[(58,(Value.agg (enc r102).toArray)),(6,(ptr b3 0))]) ⟨lk rfl (hg 4 (by decide)),rfl,trivial⟩
    refine Zm (seg:=enc r102) (cs':=enc r102) hE hM Za rfl rfl rfl ZG (Flat.len _) (zle flq) (Flat.cell _) (Zn flq) fun w a hM hE=>Zi ?_
    have ht104:=Option.some.inj hl96
    subst ht104
    refine Zj ?_
    have hM:=M.fst (l:=[_]) hM
    exact ⟨hE.sub ⟨rfl,trivial⟩,hM⟩
  ·skip
   rintro a w ⟨hE,hM⟩
   have hr:=Option.some.inj hF97
   subst hr
   have hq105 : YD Try.prog _ _ (.cell 6 55) _:=ZW hE rfl ZG rfl (hM.rawAt (pre:=[])) (Flat.len _) rfl
   have hM:=M.fst (l:=[]) hM
   exact wp_ret (ZD hE rfl hq105 ⟨_,rfl,rfl,hM.kept⟩)
def Z1 (p0 : (Ref Gengine)) (s18 : (Vector UInt8 16) × Int) (s29 : (Vector UInt8 16) × Int) : Option (Fl ((Vector UInt8 16) × Int) (Vector UInt8 16)) :=
 if (decide (s29.2 < 16)) = true then ((Zs s18.1 s29.2).bind fun x34=>(Zs p0.v.box (bI x34)).bind fun x48=>(Zs s29.1 s29.2).bind fun x51=>some (Fl.nx ((s29.1.setIfInBounds (s29.2).toNat x48),wr (s29.2 + 1)))) else (some (Fl.ex s29.1))
def Z0 (p0 : (Ref Gengine)) (p1 : (List (Vector UInt8 16))) (s18 : (Vector UInt8 16) × Int) : Option (Fl ((Vector UInt8 16) × Int) (Vector UInt8 16)) :=
 if (decide (s18.2 < (p1.length : Int))) = true then (((ZB (Z1 p0 s18) (s18.1,0)).bind fun j26=>((Yf p0.v.places j26).bind fun r68=>some r68 : Option ((Vector UInt8 16))).bind fun j54=>(if (decide (s18.2 < (wr ((p1.length : Int) - 1)))) = true then ((slc j54.toList (0 : Int) (16 : Int)).bind fun l86=>(XE p0.v.mixer j54).bind fun r89=>some r89) else (some j54) : Option ((Vector UInt8 16))).bind fun j71=>(idx p1 s18.2).bind fun x94=>(YB j71 x94).bind fun r97=>some r97 : Option ((Vector UInt8 16))).bind fun j23=>some (Fl.nx (j23,wr (s18.2 + 1)))) else (some (Fl.ex s18.1))
def Yg (p0 : (Ref Gengine)) (p1 : (List (Vector UInt8 16))) (p2 : (Vector UInt8 16)) : Option ((Vector UInt8 16)) :=
 ((idx p1 (0 : Int)).bind fun x9=>(YB p2 x9).bind fun r12=>some r12 : Option ((Vector UInt8 16))).bind fun j5=>(ZB (Z0 p0 p1) (j5,1)).bind fun j15=>some j15
theorem Uf (w0 : World) (p0 : (Ref Gengine)) (v0_1 : Value) (hv0_1 : Ro w0 p0 [v0_1]) (p1 : (List (Vector UInt8 16))) (v1_1 : Value) (hv1_1 : Ro w0 p1 [v1_1]) (p2 : (Vector UInt8 16)) (r : (Vector UInt8 16)) (hF : Yg p0 p1 p2 = some r) :
  Calls Try.prog 134 [v0_1,v1_1,(Value.agg (enc p2).toArray)].toArray w0 (fun en w'=>∃ v,en = .returned v ∧ (v = (Value.agg (enc r).toArray) ∧ Kept (Old w0) w0 w')):=by
 refine ZC (n:=59) Try.func134 rfl rfl (nbl rfl) rfl ?_
 intro a hE
 have hM:=M.start w0
 unfold Yg at hF
 refine Zc (ZX (cs:=enc p2) hE hM Za ld rfl rfl fun b1 w a hM hE=>ZF hE hM Za ld ZG fun b3 w a hM hE=>Zf ?_)
 obtain ⟨j5,hl6,hF7⟩:=bind_some hF
 refine ZL (fun a w=>Env 59 a [(0,v0_1),(1,v1_1),(5,(ptr b1 0)),(6,(ptr b3 0))] ∧ M (Old w0) w0 w [raw b3 (enc (Vector.replicate 16 (0 : UInt8))),raw b1 (enc j5)]) ?_ ?_
 ·skip
  obtain ⟨x9,hi11,hl6⟩:=bix hl6
  obtain ⟨r12,e13,hl6⟩:=bind_some hl6
  refine Yd (n:=59) (hd:=[_,_,_,_,_]) (tl:=[_]) YR rfl rfl [10,11,12,13,14] (by decide) (fun w=>M (Old w0) w0 w [raw b3 (enc (Vector.replicate 16 (0 : UInt8))),raw b1 (enc p2)]) (fun j=>([fun v _=>v = (Value.agg (enc p2).toArray),fun v _=>v = v1_1,fun v _=>v = (ptr (sb v1_1) (so v1_1 + ((0 : Int)).toNat * 16)),fun v _=>v = (Value.agg (enc x9).toArray),fun v _=>v = (Value.agg (enc r12).toArray)] : List (Value → World → Prop)).getD j (fun _ _=>True)) (fun _ _ h hk=>h.keep hk) (gup (Zh (Zh (Zh (Zh (Zh WV)))))) hE hM.drew (ZK (Zb ?_ (Zb ?_ (Zb ?_ (Zb ?_ (Zb ?_ ZE)))))) ?_
  ·exact fun a w ux8 hE hM hp=>Zl (cs:=enc p2) hE Za ld rfl ZG rfl (hM.rawAt (pre:=[_])) (Flat.len _) fun a hE=>⟨Kept.refl _ _,_,_,rfl,hE,rfl⟩
  ·exact fun a w ux8 hE hM hp=>Zd hE Za ld rfl fun a hE=>⟨Kept.refl _ _,_,_,rfl,hE,rfl⟩
  ·intro a w ux8 hE hM hp
   have f1 : ux8 1 = v1_1:=hp 0 _ rfl rfl
   exact YT hE Za ld (lk rfl f1) rfl Try.underlying69 ZG (hM.rd hv1_1) hi11.1 fun a hE=>⟨Kept.refl _ _,_,_,rfl,hE,rfl⟩
  ·intro a w ux8 hE hM hp
   have f2 : ux8 2 = (ptr (sb v1_1) (so v1_1 + ((0 : Int)).toNat * 16)):=hp 0 _ rfl rfl
   exact Zl (cs:=enc x9) hE Za ld (lk rfl f2) ZG rfl (Vb (hM.rd hv1_1) hi11.2) (Flat.len _) fun a hE=>⟨Kept.refl _ _,_,_,rfl,hE,rfl⟩
  ·intro a w ux8 hE hM hp
   have f0 : ux8 0 = (Value.agg (enc p2).toArray):=hp 0 _ rfl rfl
   have f3 : ux8 3 = (Value.agg (enc x9).toArray):=hp 1 _ rfl rfl
   refine Zq hE Za ld (ZV (ZT (lk rfl f0) (ZT (lk rfl f3) Xw))) H4 (W4 _ p2 x9 r12 e13) ?_
   rintro v w a ⟨rfl,hK⟩ hE
   exact ⟨hK,_,_,rfl,hE,rfl⟩
  ·intro a w ux8 hE hM hg
   have hE:=hE.sub (e':=[(14,(Value.agg (enc r12).toArray)),(0,v0_1),(1,v1_1),(5,(ptr b1 0)),(6,(ptr b3 0))]) ⟨lk rfl (hg 4 (by decide)),rfl,rfl,rfl,rfl,trivial⟩
   have hM:=hM.pull (pre:=[_])
   refine Zm (seg:=enc r12) (cs':=enc r12) hE hM Za rfl rfl rfl ZG (Flat.len _) (zle flq) (Flat.cell _) (Zn flq) fun w a hM hE=>Zi ?_
   have ht14:=Option.some.inj hl6
   subst ht14
   refine Zj ?_
   have hM:=hM.pull (pre:=[_])
   exact ⟨hE.sub ⟨rfl,rfl,rfl,rfl,trivial⟩,hM⟩
 ·skip
  rintro a w ⟨hE,hM⟩
  refine wp_seq (Zc (Ze hE Za ld rfl fun a hE=>Zf ?_))
  obtain ⟨j15,hl16,hF17⟩:=bind_some hF7
  refine ZP (fun a w=>Env 59 a [(5,(ptr b1 0)),(6,(ptr b3 0))] ∧ M (Old w0) w0 w [raw b3 (enc (Vector.replicate 16 (0 : UInt8))),raw b1 (enc j15)]) ?_ ?_
  ·skip
   refine wp_block ?_
   refine ZJ (fun (s18 : (Vector UInt8 16) × Int) a w=>Env 59 a [(0,v0_1),(1,v1_1),(5,(ptr b1 0)),(6,(ptr b3 0)),(7,vI s18.2)] ∧ M (Old w0) w0 w [raw b3 (enc (Vector.replicate 16 (0 : UInt8))),raw b1 (enc s18.1)]) hl16 ⟨hE.sub ⟨rfl,rfl,rfl,rfl,rfl,trivial⟩,hM⟩ ?_
   rintro s18 a w ⟨hE,hM⟩ o21 hs19 hx20
   unfold Z0 at hs19
   refine wp_seq (Zc (Zd hE Za ld rfl fun a hE=>Zd hE Za ld rfl fun a hE=>UC hE Za ld rfl Try.underlying69 (hM.rd hv1_1) fun a hE=>Zk hE Za ld rfl rfl rfl fun a hE=>Zf ?_))
   refine Zr hE rfl ?_ ?_
   ·intro hb22
    have hs19:=Zw hs19 hb22
    refine wp_skip (Zt ?_)
    obtain ⟨j23,hl24,hF25⟩:=bind_some hs19
    refine ZL (fun a w=>Env 59 a [(0,v0_1),(1,v1_1),(5,(ptr b1 0)),(6,(ptr b3 0)),(7,vI s18.2)] ∧ M (Old w0) w0 w [raw b3 (enc (Vector.replicate 16 (0 : UInt8))),raw b1 (enc j23)]) ?_ ?_
    ·skip
     refine wp_block (wp_seq (Zc (Zl (cs:=enc s18.1) hE Za ld rfl ZG rfl (hM.rawAt (pre:=[_])) (Flat.len _) fun a hE=>Zd hE Za ld rfl fun a hE=>Zf ?_)))
     obtain ⟨j26,hl27,hF28⟩:=bind_some hl24
     refine ZP (fun a w=>Env 59 a [(0,v0_1),(1,v1_1),(5,(ptr b1 0)),(6,(ptr b3 0)),(7,vI s18.2)] ∧ M (Old w0) w0 w [raw b3 (enc (Vector.replicate 16 (0 : UInt8))),raw b1 (enc j26)]) ?_ ?_
     ·skip
      refine wp_block ?_
      refine ZJ (fun (s29 : (Vector UInt8 16) × Int) a w=>Env 59 a [(0,v0_1),(1,v1_1),(5,(ptr b1 0)),(6,(ptr b3 0)),(7,vI s18.2),(21,(Value.agg (enc s18.1).toArray)),(22,vI s29.2)] ∧ M (Old w0) w0 w [raw b3 (enc (Vector.replicate 16 (0 : UInt8))),raw b1 (enc s29.1)]) hl27 ⟨hE.sub ⟨rfl,rfl,rfl,rfl,rfl,rfl,rfl,trivial⟩,hM⟩ ?_
      rintro s29 a w ⟨hE,hM⟩ o32 hs30 hx31
      unfold Z1 at hs30
      refine Zc (Zk hE Za ld rfl rfl rfl fun a hE=>Zf (wp_seq ?_))
      refine Zr hE rfl ?_ ?_
      ·intro hb33
       have hs30:=Zw hs30 hb33
       refine wp_skip (Zt (wp_seq (wp_block (Zc (Zd hE Za ld rfl ?_))))); intro a hE
       obtain ⟨x34,hi36,hs30⟩:=bvx hs30
       refine VT hE Za ld rfl rfl Try.underlying55 ty5 rfl rfl hi36 rfl fun a hE=>Ze hE Za ld rfl fun a hE=>Ze hE Za ld rfl fun a hE=>Zf (wp_region_lit (Zd hE Za ld rfl fun a hE=>Zd hE Za ld rfl fun a hE=>Zd hE Za ld rfl ?_)); intro a hE
       obtain ⟨pb37,ds38,hv39,hx40,hA41,hB42⟩:=Wc hv0_1 -- ^
       obtain ⟨u43,u45,rfl,h44,h46⟩:=Wr hx40 -- ^
       refine Yx hE Za ld (lk rfl hv39) fun a hE=>Zo hE Za ld rfl (Jy) ?_; intro a hE
       obtain ⟨x48,hi47,hs30⟩:=bvx hs30
       refine Zg hE Za ld rfl rfl Try.underlying49 ty5 hi47.1 fun a hE=>Zv (v:=(vB x48)) hE Za ld rfl ty5 rfl (At.vec (At.cat (pre:=[]) (hM.atk hA41 hB42) cl0) hi47.2) ?_; intro a hE
       obtain ⟨x51,hi50,hs30⟩:=bvx hs30
       refine Zg hE Za ld rfl rfl Try.underlying55 ty5 hi50.1 ?_; intro a hE
       have hM:=hM.pull (pre:=[_])
       refine Zm (seg:=[vB x48]) (cs':=enc (s29.1.setIfInBounds (s29.2).toNat x48)) hE hM Za rfl rfl rfl ty5 rfl (ZI (v:=s29.1) (x:=x48) hi50.1) (Flat.cell (x48 : UInt8)) (Zu (v:=s29.1) (x:=x48) hi50.1) fun w a hM hE=>Zi (Yi (Zt (wp_region_lit (Zk hE Za ld rfl rfl rfl fun a hE=>Zd hE Za ld rfl fun a hE=>Zi (Zj ?_)))))
       have hM:=hM.pull (pre:=[_])
       exact ⟨_,(ois hs30),hE.sub ⟨rfl,rfl,rfl,rfl,rfl,rfl,rfl,trivial⟩,hM⟩
      ·intro hb33
       have hs30:=Zx hs30 hb33
       refine wp_exit (Zp (Zp (Yj ?_)))
       have ht53:=hx31 _ (ois hs30)
       subst ht53
       refine Zj ?_
       exact ⟨hE.sub ⟨rfl,rfl,rfl,rfl,rfl,trivial⟩,hM⟩
     ·skip
      rintro a w ⟨hE,hM⟩
      refine Zt ?_
      obtain ⟨j54,hl55,hF56⟩:=bind_some hF28
      refine ZL (fun a w=>Env 59 a [(0,v0_1),(1,v1_1),(5,(ptr b1 0)),(6,(ptr b3 0)),(7,vI s18.2)] ∧ M (Old w0) w0 w [raw b3 (enc (Vector.replicate 16 (0 : UInt8))),raw b1 (enc j54)]) ?_ ?_
      ·skip
       obtain ⟨pb58,ds59,hv60,hx61,hA62,hB63⟩:=Wc hv0_1 -- ^
       obtain ⟨u64,u66,rfl,h65,h67⟩:=Wr hx61 -- ^
       obtain ⟨r68,e69,hl55⟩:=bind_some hl55
       refine Yd (n:=59) (hd:=[_,_,_,_,_,_]) (tl:=[_]) YR rfl rfl [35,36,37,38,39,40] (by decide) (fun w=>M (Old w0) w0 w [raw b3 (enc (Vector.replicate 16 (0 : UInt8))),raw b1 (enc j26)]) (fun j=>([fun v _=>v = v0_1,fun v _=>v = (ptr pb58 0),fun v _=>v = (ptr pb58 (0 + 512)),fun v _=>v = (Value.agg (enc p0.v.places).toArray),fun v _=>v = (Value.agg (enc j26).toArray),fun v _=>v = (Value.agg (enc r68).toArray)] : List (Value → World → Prop)).getD j (fun _ _=>True)) (fun _ _ h hk=>h.keep hk) (gup (Zh (Zh (Zh (Zh (Zh (Zh WV))))))) hE hM.drew (ZK (Zb ?_ (Zb ?_ (Zb ?_ (Zb ?_ (Zb ?_ (Zb ?_ ZE))))))) ?_
       ·exact fun a w ux57 hE hM hp=>Zd hE Za ld rfl fun a hE=>⟨Kept.refl _ _,_,_,rfl,hE,rfl⟩
       ·intro a w ux57 hE hM hp
        have f0 : ux57 0 = v0_1:=hp 0 _ rfl rfl
        exact Yx hE Za ld (lk (lk rfl f0) hv60) fun a hE=>⟨Kept.refl _ _,_,_,rfl,hE,rfl⟩
       ·intro a w ux57 hE hM hp
        have f1 : ux57 1 = (ptr pb58 0):=hp 0 _ rfl rfl
        exact Zo hE Za ld (lk rfl f1) (Af) fun a hE=>⟨Kept.refl _ _,_,_,rfl,hE,rfl⟩
       ·intro a w ux57 hE hM hp
        have f2 : ux57 2 = (ptr pb58 (0 + 512)):=hp 0 _ rfl rfl
        exact Zl (cs:=enc p0.v.places) hE Za ld (lk rfl f2) WZ rfl (At.cat (pre:=[enc p0.v.box,enc p0.v.backBox]) (hM.atk hA62 hB63) (cl1 (n:=256) (m:=256) (Flat.len _) (cl1 (n:=256) (m:=0) (Flat.len _) cl0))) (Flat.len _) fun a hE=>⟨Kept.refl _ _,_,_,rfl,hE,rfl⟩
       ·exact fun a w ux57 hE hM hp=>Zl (cs:=enc j26) hE Za ld rfl ZG rfl (hM.rawAt (pre:=[_])) (Flat.len _) fun a hE=>⟨Kept.refl _ _,_,_,rfl,hE,rfl⟩
       ·intro a w ux57 hE hM hp
        have f3 : ux57 3 = (Value.agg (enc p0.v.places).toArray):=hp 0 _ rfl rfl
        have f4 : ux57 4 = (Value.agg (enc j26).toArray):=hp 1 _ rfl rfl
        refine Zq hE Za ld (ZV (ZT (lk rfl f3) (ZT (lk rfl f4) Xw))) cb132 (Ua _ p0.v.places j26 r68 e69) ?_
        rintro v w a ⟨rfl,hK⟩ hE
        exact ⟨hK,_,_,rfl,hE,rfl⟩
       ·intro a w ux57 hE hM hg
        have hE:=hE.sub (e':=[(40,(Value.agg (enc r68).toArray)),(0,v0_1),(1,v1_1),(5,(ptr b1 0)),(6,(ptr b3 0)),(7,vI s18.2)]) ⟨lk rfl (hg 5 (by decide)),rfl,rfl,rfl,rfl,rfl,trivial⟩
        have hM:=hM.pull (pre:=[_])
        refine Zm (seg:=enc r68) (cs':=enc r68) hE hM Za rfl rfl rfl ZG (Flat.len _) (zle flq) (Flat.cell _) (Zn flq) fun w a hM hE=>Zi ?_
        have ht70:=Option.some.inj hl55
        subst ht70
        refine Zj ?_
        have hM:=hM.pull (pre:=[_])
        exact ⟨hE.sub ⟨rfl,rfl,rfl,rfl,rfl,trivial⟩,hM⟩
      ·skip
       rintro a w ⟨hE,hM⟩
       obtain ⟨j71,hl72,hF73⟩:=bind_some hF56
       refine ZL (fun a w=>Env 59 a [(0,v0_1),(1,v1_1),(5,(ptr b1 0)),(6,(ptr b3 0)),(7,vI s18.2)] ∧ M (Old w0) w0 w [raw b3 (enc (Vector.replicate 16 (0 : UInt8))),raw b1 (enc j71)]) ?_ ?_
       ·skip
        refine Zc (Zd hE Za ld rfl fun a hE=>Zd hE Za ld rfl fun a hE=>UC hE Za ld rfl Try.underlying69 (hM.rd hv1_1) fun a hE=>Zk hE Za ld rfl rfl rfl fun a hE=>Zk hE Za ld rfl rfl rfl fun a hE=>Zf ?_)
        refine Zr hE rfl ?_ ?_
        ·intro hb74
         have hl72:=Zw hl72 hb74
         obtain ⟨pb76,ds77,hv78,hx79,hA80,hB81⟩:=Wc hv0_1 -- ^
         obtain ⟨u82,u84,rfl,h83,h85⟩:=Wr hx79 -- ^
         obtain ⟨l86,e87,hl72⟩:=bind_some hl72
         have hb88:=Km e87 -- ^
         refine Yd (n:=59) (hd:=[_,_,_,_,_]) (tl:=[_]) YR rfl rfl [46,47,48,49,50] (by decide) (fun w=>M (Old w0) w0 w [raw b3 (enc (Vector.replicate 16 (0 : UInt8))),raw b1 (enc j54)]) (fun j=>([fun v _=>v = v0_1,fun v _=>v = (ptr pb76 0),fun v _=>v = (ptr pb76 (0 + 544)),fun v _=>v = u82,fun v _=>v = (Ws (.slice (some ⟨b1,0,none⟩) 16 16) ((0 : Int)).toNat ((16 : Int)).toNat 1)] : List (Value → World → Prop)).getD j (fun _ _=>True)) (fun _ _ h hk=>h.keep hk) (gup (Zh (Zh (Zh (Zh (Zh WV)))))) hE hM.drew (ZK (Zb ?_ (Zb ?_ (Zb ?_ (Zb ?_ (Zb ?_ ZE)))))) ?_
         ·exact fun a w ux75 hE hM hp=>Zd hE Za ld rfl fun a hE=>⟨Kept.refl _ _,_,_,rfl,hE,rfl⟩
         ·intro a w ux75 hE hM hp
          have f0 : ux75 0 = v0_1:=hp 0 _ rfl rfl
          exact Yx hE Za ld (lk (lk rfl f0) hv78) fun a hE=>⟨Kept.refl _ _,_,_,rfl,hE,rfl⟩
         ·intro a w ux75 hE hM hp
          have f1 : ux75 1 = (ptr pb76 0):=hp 0 _ rfl rfl
          exact Zo hE Za ld (lk rfl f1) (B2) fun a hE=>⟨Kept.refl _ _,_,_,rfl,hE,rfl⟩
         ·intro a w ux75 hE hM hp
          have f2 : ux75 2 = (ptr pb76 (0 + 544)):=hp 0 _ rfl rfl
          exact Zv (v:=u82) hE Za ld (lk rfl f2) H2 rfl (At.cat (pre:=[enc p0.v.box,enc p0.v.backBox,enc p0.v.places,enc p0.v.backPlaces]) (hM.atk hA80 hB81) (cl1 (n:=256) (m:=288) (Flat.len _) (cl1 (n:=256) (m:=32) (Flat.len _) (cl1 (n:=16) (m:=16) (Flat.len _) (cl1 (n:=16) (m:=0) (Flat.len _) cl0))))) fun a hE=>⟨Kept.refl _ _,_,_,rfl,hE,rfl⟩
         ·exact fun a w ux75 hE hM hp=>UE (N:=16) hE Za ld rfl rfl rfl rfl rfl Try.underlying55 ty5 hb88 fun a hE=>⟨Kept.refl _ _,_,_,rfl,hE,rfl⟩
         ·intro a w ux75 hE hM hg
          have hE:=hE.sub (e':=[(49,u82),(50,(Ws (.slice (some ⟨b1,0,none⟩) 16 16) ((0 : Int)).toNat ((16 : Int)).toNat 1)),(0,v0_1),(1,v1_1),(5,(ptr b1 0)),(6,(ptr b3 0)),(7,vI s18.2),(41,vI s18.2),(42,v1_1),(43,(vI (p1.length : Int))),(44,(vI (wr ((p1.length : Int) - 1)))),(45,(vT (decide (s18.2 < (wr ((p1.length : Int) - 1))))))]) ⟨lk rfl (hg 3 (by decide)),lk rfl (hg 4 (by decide)),rfl,rfl,rfl,rfl,rfl,rfl,rfl,rfl,rfl,rfl,trivial⟩
          have hM:=hM.pull (pre:=[_])
          obtain ⟨r89,e90,hl72⟩:=bind_some hl72
          refine Zq hE Za ld rfl cb131 (Uv _ _ _ _ p0.v.mixer u82 h83 b1 j54 hM r89 e90) ?_
          rintro v w a ⟨rfl,hM⟩ hE
          refine Zi ?_
          have ht91:=Option.some.inj hl72
          subst ht91
          refine Zj ?_
          have hM:=hM.pull (pre:=[_])
          exact ⟨hE.sub ⟨rfl,rfl,rfl,rfl,rfl,trivial⟩,hM⟩
        ·intro hb74
         have hl72:=Zx hl72 hb74
         refine wp_skip ?_
         have ht92:=Option.some.inj hl72
         subst ht92
         refine Zj ?_
         exact ⟨hE.sub ⟨rfl,rfl,rfl,rfl,rfl,trivial⟩,hM⟩
       ·skip
        rintro a w ⟨hE,hM⟩
        obtain ⟨x94,hi96,hF73⟩:=bix hF73
        obtain ⟨r97,e98,hF73⟩:=bind_some hF73
        refine Yd (n:=59) (hd:=[_,_,_,_,_,_]) (tl:=[_]) YR rfl rfl [52,53,54,55,56,57] (by decide) (fun w=>M (Old w0) w0 w [raw b3 (enc (Vector.replicate 16 (0 : UInt8))),raw b1 (enc j71)]) (fun j=>([fun v _=>v = (Value.agg (enc j71).toArray),fun v _=>v = v1_1,fun v _=>v = (vI s18.2),fun v _=>v = (ptr (sb v1_1) (so v1_1 + (s18.2).toNat * 16)),fun v _=>v = (Value.agg (enc x94).toArray),fun v _=>v = (Value.agg (enc r97).toArray)] : List (Value → World → Prop)).getD j (fun _ _=>True)) (fun _ _ h hk=>h.keep hk) (gup (Zh (Zh (Zh (Zh (Zh (Zh WV))))))) hE hM.drew (ZK (Zb ?_ (Zb ?_ (Zb ?_ (Zb ?_ (Zb ?_ (Zb ?_ ZE))))))) ?_
        ·exact fun a w ux93 hE hM hp=>Zl (cs:=enc j71) hE Za ld rfl ZG rfl (hM.rawAt (pre:=[_])) (Flat.len _) fun a hE=>⟨Kept.refl _ _,_,_,rfl,hE,rfl⟩
        ·exact fun a w ux93 hE hM hp=>Zd hE Za ld rfl fun a hE=>⟨Kept.refl _ _,_,_,rfl,hE,rfl⟩
        ·exact fun a w ux93 hE hM hp=>Zd hE Za ld rfl fun a hE=>⟨Kept.refl _ _,_,_,rfl,hE,rfl⟩
        ·intro a w ux93 hE hM hp
         have f1 : ux93 1 = v1_1:=hp 0 _ rfl rfl
         have f2 : ux93 2 = (vI s18.2):=hp 1 _ rfl rfl
         exact YT hE Za ld (lk rfl f1) (lk rfl f2) Try.underlying69 ZG (hM.rd hv1_1) hi96.1 fun a hE=>⟨Kept.refl _ _,_,_,rfl,hE,rfl⟩
        ·intro a w ux93 hE hM hp
         have f3 : ux93 3 = (ptr (sb v1_1) (so v1_1 + (s18.2).toNat * 16)):=hp 0 _ rfl rfl
         exact Zl (cs:=enc x94) hE Za ld (lk rfl f3) ZG rfl (Vb (hM.rd hv1_1) hi96.2) (Flat.len _) fun a hE=>⟨Kept.refl _ _,_,_,rfl,hE,rfl⟩
        ·intro a w ux93 hE hM hp
         have f0 : ux93 0 = (Value.agg (enc j71).toArray):=hp 0 _ rfl rfl
         have f4 : ux93 4 = (Value.agg (enc x94).toArray):=hp 1 _ rfl rfl
         refine Zq hE Za ld (ZV (ZT (lk rfl f0) (ZT (lk rfl f4) Xw))) H4 (W4 _ j71 x94 r97 e98) ?_
         rintro v w a ⟨rfl,hK⟩ hE
         exact ⟨hK,_,_,rfl,hE,rfl⟩
        ·intro a w ux93 hE hM hg
         have hE:=hE.sub (e':=[(57,(Value.agg (enc r97).toArray)),(0,v0_1),(1,v1_1),(5,(ptr b1 0)),(6,(ptr b3 0)),(7,vI s18.2)]) ⟨lk rfl (hg 5 (by decide)),rfl,rfl,rfl,rfl,rfl,trivial⟩
         have hM:=hM.pull (pre:=[_])
         refine Zm (seg:=enc r97) (cs':=enc r97) hE hM Za rfl rfl rfl ZG (Flat.len _) (zle flq) (Flat.cell _) (Zn flq) fun w a hM hE=>Zi (Yi ?_)
         have ht99:=Option.some.inj hF73
         subst ht99
         refine Zj ?_
         have hM:=hM.pull (pre:=[_])
         exact ⟨hE.sub ⟨rfl,rfl,rfl,rfl,rfl,trivial⟩,hM⟩
    ·skip
     rintro a w ⟨hE,hM⟩
     refine wp_region_lit (Zd hE Za ld rfl fun a hE=>Zk hE Za ld rfl rfl rfl fun a hE=>Ze hE Za ld rfl fun a hE=>Zi (Zj ?_))
     exact ⟨_,(ois hF25),hE.sub ⟨rfl,rfl,rfl,rfl,rfl,trivial⟩,hM⟩
   ·intro hb22
    have hs19:=Zx hs19 hb22
    refine wp_exit (Zp (Zp (Yj ?_)))
    have ht100:=hx20 _ (ois hs19)
    subst ht100
    refine Zj ?_
    exact ⟨hE.sub ⟨rfl,rfl,trivial⟩,hM⟩
  ·skip
   rintro a w ⟨hE,hM⟩
   refine Zt (Zc (Zl (cs:=enc j15) hE Za ld rfl ZG rfl (hM.rawAt (pre:=[_])) (Flat.len _) fun a hE=>Zm (seg:=enc j15) (cs':=enc j15) hE hM Za rfl rfl rfl ZG (Flat.len _) (zle flq) (Flat.cell _) (Zn flq) fun w a hM hE=>Zf ?_))
   have hr:=Option.some.inj hF17
   subst hr
   have hq101 : YD Try.prog _ _ (.cell 6 55) _:=ZW hE rfl ZG rfl (hM.rawAt (pre:=[])) (Flat.len _) rfl
   have hM:=M.fst (l:=[]) hM
   exact wp_ret (ZD hE rfl hq101 ⟨_,rfl,rfl,hM.kept⟩)
def Yl (p0 : (Ref Gengine)) (p1 : (Vector UInt8 16)) (p2 : (Vector UInt8 16)) : Option ((Vector UInt8 16)) :=
 ((Y4 p0 p1 p0.v.rounds).bind fun r21=>(Yg p0 r21 p2).bind fun r24=>some r24 : Option ((Vector UInt8 16))).bind fun j7=>some j7
theorem UF (w0 : World) (p0 : (Ref Gengine)) (v0_1 : Value) (hv0_1 : Ro w0 p0 [v0_1]) (p1 : (Vector UInt8 16)) (p2 : (Vector UInt8 16)) (r : (Vector UInt8 16)) (hF : Yl p0 p1 p2 = some r) :
  Calls Try.prog 79 [v0_1,(Value.agg (enc p1).toArray),(Value.agg (enc p2).toArray)].toArray w0 (fun en w'=>∃ v,en = .returned v ∧ (v = (Value.agg (enc r).toArray) ∧ Kept (Old w0) w0 w')):=by
 refine ZC (n:=17) Try.func79 rfl rfl (nbl rfl) rfl ?_
 intro a hE
 have hM:=M.start w0
 unfold Yl at hF
 refine Zc (ZX (cs:=enc p1) hE hM Za ld rfl rfl fun b1 w a hM hE=>ZX (cs:=enc p2) hE hM Za ld rfl rfl fun b3 w a hM hE=>ZF hE hM Za ld ZG fun b5 w a hM hE=>Zf ?_)
 obtain ⟨j7,hl8,hF9⟩:=bind_some hF
 refine ZL (fun a w=>Env 17 a [(6,(ptr b5 0))] ∧ M (Old w0) w0 w [raw b5 (enc j7)]) ?_ ?_
 ·skip
  obtain ⟨pb11,ds12,hv13,hx14,hA15,hB16⟩:=Wc hv0_1 -- ^
  obtain ⟨u17,u19,rfl,h18,h20⟩:=Wr hx14 -- ^
  obtain ⟨r21,e22,hl8⟩:=bind_some hl8
  refine HT (n:=17) (hd:=[_,_,_,_,_,_,_,_,_]) (tl:=[_,_]) (its:=[raw b5 (enc (Vector.replicate 16 (0 : UInt8))),raw b3 (enc p2),raw b1 (enc p1)]) YR rfl rfl [7,8,9,10,11,12,13,14,15] (by decide) [(7,fun v=>osl NoB (r21 : List (Vector UInt8 16)) v)] rfl (fun j=>([fun v=>v = v0_1,fun v=>v = v0_1,fun v=>v = (Value.agg (enc p1).toArray),fun v=>v = v0_1,fun v=>v = (ptr pb11 0),fun v=>v = (ptr pb11 (0 + 546)),fun v=>v = (vI p0.v.rounds),fun v=>True,fun v=>v = (Value.agg (enc p2).toArray)] : List (Value → Prop)).getD j (fun _=>True)) hE hM.drew (ZK (Zb ?_ (Zb ?_ (Zb ?_ (Zb ?_ (Zb ?_ (Zb ?_ (Zb ?_ (Zb ?_ (Zb ?_ ZE)))))))))) ?_
  ·intro a w ux10 D hE hM hD hp
   have hM0:=hM
   exact Zd hE Za ld rfl fun a hE=>⟨_,_,rfl,hE,rfl,hM0.optKeep rfl⟩
  ·intro a w ux10 D hE hM hD hp
   have hM0:=hM
   exact Zd hE Za ld rfl fun a hE=>⟨_,_,rfl,hE,rfl,hM0.optKeep rfl⟩
  ·intro a w ux10 D hE hM hD hp
   have hM0:=hM
   have hM : M (Old w0) w0 w [raw b5 (enc (Vector.replicate 16 (0 : UInt8))),raw b3 (enc p2),raw b1 (enc p1),opt (D 7) (osl NoB (r21 : List (Vector UInt8 16)) (ux10 7))]:=hM
   exact Zl (cs:=enc p1) hE Za ld rfl ZG rfl (hM.rawAt (pre:=[_,_])) (Flat.len _) fun a hE=>⟨_,_,rfl,hE,rfl,hM0.optKeep rfl⟩
  ·intro a w ux10 D hE hM hD hp
   have hM0:=hM
   exact Zd hE Za ld rfl fun a hE=>⟨_,_,rfl,hE,rfl,hM0.optKeep rfl⟩
  ·intro a w ux10 D hE hM hD hp
   have f3 : ux10 3 = v0_1:=(hp 0 _ rfl rfl).2
   have hM0:=hM
   exact Yx hE Za ld (lk (lk rfl f3) hv13) fun a hE=>⟨_,_,rfl,hE,rfl,hM0.optKeep rfl⟩
  ·intro a w ux10 D hE hM hD hp
   have f4 : ux10 4 = (ptr pb11 0):=(hp 0 _ rfl rfl).2
   have hM0:=hM
   exact Zo hE Za ld (lk rfl f4) (B3) fun a hE=>⟨_,_,rfl,hE,rfl,hM0.optKeep rfl⟩
  ·intro a w ux10 D hE hM hD hp
   have f5 : ux10 5 = (ptr pb11 (0 + 546)):=(hp 0 _ rfl rfl).2
   have hM0:=hM
   have hM : M (Old w0) w0 w [raw b5 (enc (Vector.replicate 16 (0 : UInt8))),raw b3 (enc p2),raw b1 (enc p1),opt (D 7) (osl NoB (r21 : List (Vector UInt8 16)) (ux10 7))]:=hM
   exact Zv (v:=(vI p0.v.rounds)) hE Za ld (lk rfl f5) ty2 rfl (At.cat (pre:=[enc p0.v.box,enc p0.v.backBox,enc p0.v.places,enc p0.v.backPlaces,[u17],[u19]]) (hM.atk hA15 hB16) (cl1 (n:=256) (m:=290) (Flat.len _) (cl1 (n:=256) (m:=34) (Flat.len _) (cl1 (n:=16) (m:=18) (Flat.len _) (cl1 (n:=16) (m:=2) (Flat.len _) (cl1 (n:=1) (m:=1) rfl (cl1 (n:=1) (m:=0) rfl cl0))))))) fun a hE=>⟨_,_,rfl,hE,rfl,hM0.optKeep rfl⟩
  ·intro a w ux10 D hE hM hD hp
   have f1 : ux10 1 = v0_1:=(hp 0 _ rfl rfl).2
   have f2 : ux10 2 = (Value.agg (enc p1).toArray):=(hp 1 _ rfl rfl).2
   have f6 : ux10 6 = (vI p0.v.rounds):=(hp 2 _ rfl rfl).2
   have hM0:=hM
   have hM : M (Old w0) w0 w [raw b5 (enc (Vector.replicate 16 (0 : UInt8))),raw b3 (enc p2),raw b1 (enc p1),opt (D 7) (osl NoB (r21 : List (Vector UInt8 16)) (ux10 7))]:=hM
   refine Zq hE Za ld (ZV (ZT (lk rfl f1) (ZT (lk rfl f2) (ZT (lk rfl f6) Xw)))) cb77 (Uj _ p0 v0_1 (hM.rdo hv0_1) p1 p0.v.rounds r21 e22) ?_
   rintro _ w a ⟨_,rfl,hFr,hK⟩ hE
   have hM:=hM0.add hK hFr
   exact ⟨_,_,rfl,hE,trivial,M.optFill (mk1:=[]) (mk2:=[]) (f:=(fun v=>osl NoB (r21 : List (Vector UInt8 16)) v)) hM rfl hD⟩
  ·intro a w ux10 D hE hM hD hp
   have hM0:=hM
   have hM : M (Old w0) w0 w [raw b5 (enc (Vector.replicate 16 (0 : UInt8))),raw b3 (enc p2),raw b1 (enc p1),opt (D 7) (osl NoB (r21 : List (Vector UInt8 16)) (ux10 7))]:=hM
   exact Zl (cs:=enc p2) hE Za ld rfl ZG rfl (hM.rawAt (pre:=[_])) (Flat.len _) fun a hE=>⟨_,_,rfl,hE,rfl,hM0.optKeep rfl⟩
  ·intro a w ux10 hE hM hg
   have hM : M (Old w0) w0 w [raw b5 (enc (Vector.replicate 16 (0 : UInt8))),raw b3 (enc p2),raw b1 (enc p1),osl NoB (r21 : List (Vector UInt8 16)) (ux10 7)]:=hM
   have hE:=hE.sub (e':=[(7,v0_1),(14,(ux10 7)),(15,(Value.agg (enc p2).toArray)),(6,(ptr b5 0))]) ⟨lk rfl (hg 0 (by decide)),rfl,lk rfl (hg 8 (by decide)),rfl,trivial⟩
   obtain ⟨r24,e25,hl8⟩:=bind_some hl8
   refine Zq hE Za ld rfl cb134 (Uf _ p0 v0_1 (hM.rdo hv0_1) r21 (ux10 7) (hM.sl (pre:=[_,_,_]) noB) p2 r24 e25) ?_
   rintro v w a ⟨rfl,hK⟩ hE
   have hM:=hM.keep hK
   refine Zm (seg:=enc r24) (cs':=enc r24) hE hM Za rfl rfl rfl ZG (Flat.len _) (zle flq) (Flat.cell _) (Zn flq) fun w a hM hE=>Zi ?_
   have ht26:=Option.some.inj hl8
   subst ht26
   refine Zj ?_
   have hM:=M.fst (l:=[_]) hM
   exact ⟨hE.sub ⟨rfl,trivial⟩,hM⟩
 ·skip
  rintro a w ⟨hE,hM⟩
  have hr:=Option.some.inj hF9
  subst hr
  have hq27 : YD Try.prog _ _ (.cell 6 55) _:=ZW hE rfl ZG rfl (hM.rawAt (pre:=[])) (Flat.len _) rfl
  have hM:=M.fst (l:=[]) hM
  exact wp_ret (ZD hE rfl hq27 ⟨_,rfl,rfl,hM.kept⟩)
def Y0 (p0 : GCipher) (p2 : (Vector UInt8 16)) (r11 : (Ref Gengine)) (s19 : (List ((Vector UInt8 16) × (List Int))) × Int) : Option (Fl ((List ((Vector UInt8 16) × (List Int))) × Int) (List ((Vector UInt8 16) × (List Int)))) :=
 if (decide (s19.2 < 256)) = true then ((XP s19.2).bind fun r25=>(Y4 r11 r25 p0.Rounds).bind fun r27=>(Z6 r11 r27 p2).bind fun r30=>(app 8 ((VG s19.1 r30).getD []) ([s19.2] : List Int)).bind fun l41=>some (Fl.nx ((Tw s19.1 r30 (((VG s19.1 r30).getD []) ++ ([s19.2] : List Int))),wr (s19.2 + 1)))) else (some (Fl.ex s19.1))
def YV (s54 : (List GMeeting) × Int) (j61 : (List Int) × Int × Int) (s76 : (List GMeeting) × Int) : Option (Fl ((List GMeeting) × Int) (List GMeeting)) :=
 if (decide (s76.2 < j61.2.1)) = true then ((idx j61.1 s76.2).bind fun x83=>(app 16 s76.1 ([(⟨s54.2,x83⟩ : GMeeting)] : List GMeeting)).bind fun l88=>some (Fl.nx ((s76.1 ++ ([(⟨s54.2,x83⟩ : GMeeting)] : List GMeeting)),wr (s76.2 + 1)))) else (some (Fl.ex s76.1))
def YX (p1 : (Vector UInt8 16)) (r11 : (Ref Gengine)) (j16 : (List ((Vector UInt8 16) × (List Int)))) (s54 : (List GMeeting) × Int) : Option (Fl ((List GMeeting) × Int) (List GMeeting)) :=
 if (decide (s54.2 < 256)) = true then (((XP s54.2).bind fun r66=>(Yl r11 r66 p1).bind fun r68=>some (((VG j16 r68).getD []),(((VG j16 r68).getD []).length : Int),0) : Option ((List Int) × Int × Int)).bind fun j61=>(ZB (YV s54 j61) (s54.1,j61.2.2)).bind fun j71=>some (Fl.nx (j71,wr (s54.2 + 1)))) else (some (Fl.ex s54.1))
def Xl (p0 : GCipher) (p1 : (Vector UInt8 16)) (p2 : (Vector UInt8 16)) : Option ((List GMeeting) × Int) :=
 (WA p0).bind fun r7=>if (!r7) = true then (some ([],1)) else ((Wm p0).bind fun r11=>(ZB (Y0 p0 p2 r11) (([] : (List ((Vector UInt8 16) × (List Int)))),0)).bind fun j16=>(ZB (YX p1 r11 j16) (([] : List GMeeting),0)).bind fun j49=>some (j49,0))
theorem Up (w0 : World) (p0 : GCipher) (p1 : (Vector UInt8 16)) (p2 : (Vector UInt8 16)) (r : (List GMeeting) × Int) (hF : Xl p0 p1 p2 = some r) :
  Calls Try.prog 29 [(Value.agg (enc p0).toArray),(Value.agg (enc p1).toArray),(Value.agg (enc p2).toArray)].toArray w0 (fun en w'=>∃ v,en = .returned v ∧ (∃ (y1 : Value),v = (Value.tuple [y1,vI r.2].toArray) ∧ Fr w0 w' [osl NoB (r.1 : List GMeeting) y1] ∧ Kept (Old w0) w0 w')):=by
 refine ZC (n:=68) Try.func29 rfl rfl (nbl rfl) rfl ?_
 intro a hE
 have hM:=M.start w0
 unfold Xl at hF
 refine Zc (ZX (cs:=cat [[vI p0.Field],enc p0.Box,enc p0.Mix,enc p0.Places,[vI p0.Rounds]]) hE hM Za ld rfl rfl fun b1 w a hM hE=>ZX (cs:=enc p1) hE hM Za ld rfl rfl fun b3 w a hM hE=>ZX (cs:=enc p2) hE hM Za ld rfl rfl fun b5 w a hM hE=>Ze hE Za ld rfl fun a hE=>Ze hE Za ld rfl fun a hE=>Zf (wp_seq (Zc (Zl (cs:=enc p0) hE Za ld rfl U3 rfl (hM.rawAt (pre:=[_,_])) (Y8 (cl1 (n:=1) (m:=289) rfl (cl1 (n:=256) (m:=33) (Flat.len _) (cl1 (n:=16) (m:=17) (Flat.len _) (cl1 (n:=16) (m:=1) (Flat.len _) (cl1 (n:=1) (m:=0) rfl cl0)))))) ?_)))); intro a hE
 obtain ⟨r7,e8,hF⟩:=bind_some hF
 refine Zq hE Za ld rfl cb74 (Kg _ p0 r7 e8) ?_
 rintro v w a ⟨rfl,hK⟩ hE
 have hM:=hM.keep hK
 refine UV hE Za ld rfl fun a hE=>Zf ?_
 refine Zr hE rfl ?_ ?_
 ·intro hb9
  have hF:=Zw hF hb9
  refine Zc (Ze hE Za ld rfl fun a hE=>Ze hE Za ld rfl fun a hE=>Zf ?_)
  have hM:=M.nilS (α:=GMeeting) NoB noB hM
  have hr:=Option.some.inj hF
  subst hr
  have hM:=M.fst (l:=[_]) hM
  exact wp_ret (ZH (UM hE rfl (ZA hE rfl) (ZA hE rfl) ⟨_,rfl,(Value.slice none 0 0),rfl,hM.outF (Jf QZ),hM.kept⟩))
 ·intro hb9
  have hF:=Zx hF hb9
  refine wp_skip (Zt (Zc (Zl (cs:=enc p0) hE Za ld rfl U3 rfl (hM.rawAt (pre:=[_,_])) (Y8 (cl1 (n:=1) (m:=289) rfl (cl1 (n:=256) (m:=33) (Flat.len _) (cl1 (n:=16) (m:=17) (Flat.len _) (cl1 (n:=16) (m:=1) (Flat.len _) (cl1 (n:=1) (m:=0) rfl cl0)))))) ?_))); intro a hE
  obtain ⟨r11,e12,hF⟩:=bind_some hF
  refine Zq hE Za ld rfl cb75 (QT _ p0 r11 e12) ?_
  rintro u13 w a ⟨_,rfl,hFr,hK⟩ hE
  have hM:=hM.add hK hFr
  refine Bj (κ:=(Vector UInt8 16)) (α:=(List Int)) (S:=NoB) (fun x : Vector UInt8 16=>Value.agg (enc x).toArray) Ts hE hM noB Za ld fun b14 w a hM hE=>Ze hE Za ld rfl fun a hE=>Ze hE Za ld rfl fun a hE=>Zf (wp_seq (Zc (Zd hE Za ld rfl fun a hE=>Zf ?_)))
  obtain ⟨j16,hl17,hF18⟩:=bind_some hF
  refine ZP (fun a w=>Env 68 a [(4,(ptr b3 0)),(8,u13),(9,(Value.map (some b14)))] ∧ M (Old w0) w0 w [Tx (fun x : Vector UInt8 16=>Value.agg (enc x).toArray) (Uu NoB) (j16 : (List ((Vector UInt8 16) × (List Int)))) b14,own NoB (r11 : (Ref Gengine)) [u13],raw b3 (enc p1)]) ?_ ?_
  ·skip
   refine wp_block ?_
   refine ZJ (fun (s19 : (List ((Vector UInt8 16) × (List Int))) × Int) a w=>Env 68 a [(3,(ptr b1 0)),(4,(ptr b3 0)),(5,(ptr b5 0)),(8,u13),(9,(Value.map (some b14))),(22,vI s19.2)] ∧ M (Old w0) w0 w [Tx (fun x : Vector UInt8 16=>Value.agg (enc x).toArray) (Uu NoB) (s19.1 : (List ((Vector UInt8 16) × (List Int)))) b14,own NoB (r11 : (Ref Gengine)) [u13],raw b5 (enc p2),raw b3 (enc p1),raw b1 (cat [[vI p0.Field],enc p0.Box,enc p0.Mix,enc p0.Places,[vI p0.Rounds]])]) hl17 ⟨hE.sub ⟨rfl,rfl,rfl,rfl,rfl,rfl,trivial⟩,hM⟩ ?_
   rintro s19 a w ⟨hE,hM⟩ o22 hs20 hx21
   unfold Y0 at hs20
   refine Zc (Zk hE Za ld rfl rfl rfl fun a hE=>Zf (wp_seq ?_))
   refine Zr hE rfl ?_ ?_
   ·intro hb23
    have hs20:=Zw hs20 hb23
    refine wp_skip (Zt (wp_seq (wp_block (Zc (Zd hE Za ld rfl fun a hE=>Ze hE Za ld rfl fun a hE=>Zf (wp_seq ?_))))))
    obtain ⟨r25,e26,hs20⟩:=bind_some hs20
    obtain ⟨r27,e28,hs20⟩:=bind_some hs20
    obtain ⟨r30,e31,hs20⟩:=bind_some hs20
    refine V3 (n:=68) (hd:=[_,_,_,_,_,_,_,_,_,_]) (tl:=[_]) YR rfl rfl [25,26,27,28,29,30,31,32,33,11] (by decide) (fun D u w=>M (Old w0) w0 w ([Tx (fun x : Vector UInt8 16=>Value.agg (enc x).toArray) (Uu NoB) (s19.1 : (List ((Vector UInt8 16) × (List Int)))) b14,own NoB (r11 : (Ref Gengine)) [u13],raw b5 (enc p2),raw b3 (enc p1),raw b1 (cat [[vI p0.Field],enc p0.Box,enc p0.Mix,enc p0.Places,[vI p0.Rounds]])] ++ qL ([mkO 6 (fun v=>osl NoB (r27 : List (Vector UInt8 16)) v),mkO 9 (fun v=>UA v (enc (Vector.replicate 16 (0 : UInt8))))] : Mk) D u) ∧ GOk ([([],fun us v=>v = u13),([],fun us v=>v = u13),([],fun us v=>v = (vI s19.2)),([],fun us v=>v = (Value.agg (enc r25).toArray)),([],fun us v=>v = (ptr b1 (0 + 289))),([],fun us v=>v = (vI p0.Rounds)),([],fun us v=>True),([],fun us v=>v = (Value.agg (enc p2).toArray)),([],fun us v=>v = (Value.agg (enc r30).toArray)),([],fun us v=>True)] : Gs) D u) hE (fun u=>⟨M.qE (M.qE (M.q0 hM.drew u) emO) emO,JH⟩) (ZK (Zb ?_ (Zb ?_ (Zb ?_ (Zb ?_ (Zb ?_ (Zb ?_ (Zb ?_ (Zb ?_ (Zb ?_ (Zb ?_ ZE))))))))))) ?_
    ·intro a w ux24 D hE hI hD hdc hp
     have hM0:=hI.1
     exact Zd hE Za ld rfl fun a hE=>⟨_,_,rfl,hE,M.qKeep hM0 rfl,hI.2.put hD rfl ZQ rfl⟩
    ·intro a w ux24 D hE hI hD hdc hp
     have hM0:=hI.1
     exact Zd hE Za ld rfl fun a hE=>⟨_,_,rfl,hE,M.qKeep hM0 rfl,hI.2.put hD rfl ZQ rfl⟩
    ·intro a w ux24 D hE hI hD hdc hp
     have hM0:=hI.1
     exact Zd hE Za ld rfl fun a hE=>⟨_,_,rfl,hE,M.qKeep hM0 rfl,hI.2.put hD rfl ZQ rfl⟩
    ·intro a w ux24 D hE hI hD hdc hp
     have d2 : D 2 = true:=hp 0 _ rfl rfl
     have g2:=hI.2 2 d2 _ rfl
     have f2 : ux24 2 = (vI s19.2):=g2.2
     have hM0:=hI.1
     refine Zq hE Za ld (ZV (ZT (lk rfl f2) Xw)) cb78 (UW _ s19.2 r25 e26) ?_
     rintro v w a ⟨rfl,hK⟩ hE
     exact ⟨_,_,rfl,hE,M.qKeep (hM0.keep hK) rfl,hI.2.put hD rfl ZQ rfl⟩
    ·intro a w ux24 D hE hI hD hdc hp
     have hM0:=hI.1
     exact Zo hE Za ld rfl (TJ) fun a hE=>⟨_,_,rfl,hE,M.qKeep hM0 rfl,hI.2.put hD rfl ZQ rfl⟩
    ·intro a w ux24 D hE hI hD hdc hp
     have d4 : D 4 = true:=hp 0 _ rfl rfl
     have g4:=hI.2 4 d4 _ rfl
     have f4 : ux24 4 = (ptr b1 (0 + 289)):=g4.2
     have hM0:=hI.1
     have hM:=hI.1
     exact Zv (v:=(vI p0.Rounds)) hE Za ld (lk rfl f4) ty2 rfl (At.cat (pre:=[[vI p0.Field],enc p0.Box,enc p0.Mix,enc p0.Places]) (hM.rawAt (pre:=[_,_,_,_])) (cl1 (n:=1) (m:=288) rfl (cl1 (n:=256) (m:=32) (Flat.len _) (cl1 (n:=16) (m:=16) (Flat.len _) (cl1 (n:=16) (m:=0) (Flat.len _) cl0))))) fun a hE=>⟨_,_,rfl,hE,M.qKeep hM0 rfl,hI.2.put hD rfl ZQ rfl⟩
    ·intro a w ux24 D hE hI hD hdc hp
     have d1 : D 1 = true:=hp 0 _ rfl rfl
     have g1:=hI.2 1 d1 _ rfl
     have f1 : ux24 1 = u13:=g1.2
     have d3 : D 3 = true:=hp 1 _ rfl rfl
     have g3:=hI.2 3 d3 _ rfl
     have f3 : ux24 3 = (Value.agg (enc r25).toArray):=g3.2
     have d5 : D 5 = true:=hp 2 _ rfl rfl
     have g5:=hI.2 5 d5 _ rfl
     have f5 : ux24 5 = (vI p0.Rounds):=g5.2
     have hM0:=hI.1
     have hM:=hI.1
     refine Zq hE Za ld (ZV (ZT (lk rfl f1) (ZT (lk rfl f3) (ZT (lk rfl f5) Xw)))) cb77 (Uj _ r11 u13 (hM.ro (pre:=[_]) noB) r25 p0.Rounds r27 e28) ?_
     rintro _ w a ⟨_,rfl,hFr,hK⟩ hE
     have hM:=hM0.add hK hFr
     exact ⟨_,_,rfl,hE,M.qFill (mk1:=[]) (mk2:=[_]) (f:=(fun v=>osl NoB (r27 : List (Vector UInt8 16)) v)) hM rfl hD,hI.2.put hD rfl ZQ trivial⟩
    ·intro a w ux24 D hE hI hD hdc hp
     have hM0:=hI.1
     have hM:=hI.1
     exact Zl (cs:=enc p2) hE Za ld rfl ZG rfl (hM.rawAt (pre:=[_,_])) (Flat.len _) fun a hE=>⟨_,_,rfl,hE,M.qKeep hM0 rfl,hI.2.put hD rfl ZQ rfl⟩
    ·intro a w ux24 D hE hI hD hdc hp
     have d0 : D 0 = true:=hp 0 _ rfl rfl
     have g0:=hI.2 0 d0 _ rfl
     have f0 : ux24 0 = u13:=g0.2
     have d6 : D 6 = true:=hp 1 _ rfl rfl
     have g6:=hI.2 6 d6 _ rfl
     have d7 : D 7 = true:=hp 2 _ rfl rfl
     have g7:=hI.2 7 d7 _ rfl
     have f7 : ux24 7 = (Value.agg (enc p2).toArray):=g7.2
     have hM0:=hI.1
     have hM:=hI.1.sure (pre:=[_,_,_,_,_]) d6
     refine Zq hE Za ld (ZV (ZT (lk rfl f0) (ZT rfl (ZT (lk rfl f7) Xw)))) cb76 (Uc _ r11 u13 (hM.ro (pre:=[_]) noB) r27 (ux24 6) (hM.sl (pre:=[_,_,_,_,_]) noB) p2 r30 e31) ?_
     rintro v w a ⟨rfl,hK⟩ hE
     exact ⟨_,_,rfl,hE,M.qKeep (hM0.keep hK) rfl,hI.2.put hD rfl ZQ rfl⟩
    ·intro a w ux24 D hE hI hD hdc hp
     have hM0:=hI.1
     have hM:=hI.1
     refine ZF hE hM Za ld ZG ?_; intro b32 w a hM hE
     have hM:=hM.pack1 (it:=UA _ (enc (Vector.replicate 16 (0 : UInt8)))) (fun w w' fp ⟨b',e,k⟩ hb=>⟨b',e,Vx w w' fp k hb⟩) (fun fp k=>⟨_,rfl,k⟩)
     exact ⟨_,_,rfl,hE,M.qFill (mk1:=[_]) (mk2:=[]) (f:=fun v=>UA v (enc (Vector.replicate 16 (0 : UInt8)))) hM rfl hD,hI.2.put hD rfl ZQ trivial⟩
    ·intro a w ux24 D hE hI hall
     have hM : M (Old w0) w0 w [Tx (fun x : Vector UInt8 16=>Value.agg (enc x).toArray) (Uu NoB) (s19.1 : (List ((Vector UInt8 16) × (List Int)))) b14,own NoB (r11 : (Ref Gengine)) [u13],raw b5 (enc p2),raw b3 (enc p1),raw b1 (cat [[vI p0.Field],enc p0.Box,enc p0.Mix,enc p0.Places,[vI p0.Rounds]]),opt (D 6) (osl NoB (r27 : List (Vector UInt8 16)) (ux24 6)),opt (D 9) (UA (ux24 9) (enc (Vector.replicate 16 (0 : UInt8))))]:=hI.1
     have d0 : D 0 = true:=hall 0 (by decide)
     have d1 : D 1 = true:=hall 1 (by decide)
     have d2 : D 2 = true:=hall 2 (by decide)
     have d3 : D 3 = true:=hall 3 (by decide)
     have d4 : D 4 = true:=hall 4 (by decide)
     have d5 : D 5 = true:=hall 5 (by decide)
     have d6 : D 6 = true:=hall 6 (by decide)
     have d7 : D 7 = true:=hall 7 (by decide)
     have d8 : D 8 = true:=hall 8 (by decide)
     have d9 : D 9 = true:=hall 9 (by decide)
     have f0 : ux24 0 = u13:=(hI.2 0 d0 _ rfl).2
     have f1 : ux24 1 = u13:=(hI.2 1 d1 _ rfl).2
     have f2 : ux24 2 = (vI s19.2):=(hI.2 2 d2 _ rfl).2
     have f3 : ux24 3 = (Value.agg (enc r25).toArray):=(hI.2 3 d3 _ rfl).2
     have f4 : ux24 4 = (ptr b1 (0 + 289)):=(hI.2 4 d4 _ rfl).2
     have f5 : ux24 5 = (vI p0.Rounds):=(hI.2 5 d5 _ rfl).2
     have f7 : ux24 7 = (Value.agg (enc p2).toArray):=(hI.2 7 d7 _ rfl).2
     have f8 : ux24 8 = (Value.agg (enc r30).toArray):=(hI.2 8 d8 _ rfl).2
     have hM:=((hM.sure (pre:=[_,_,_,_,_]) d6).sure (pre:=[_,_,_,_,_,_]) d9).pull
     obtain ⟨_,⟨b34,f35,_⟩,_⟩:=hM.head
     have hM:=hM.pack1 Vx (it:=raw b34 (enc (Vector.replicate 16 (0 : UInt8)))) (fun fp ⟨b2,e2,k2⟩=>by rw [f35] at e2; simp [ptr] at e2; subst e2; exact k2)
     have hE:=hE.sub (e':=[(31,(ux24 6)),(33,(Value.agg (enc r30).toArray)),(11,(ptr b34 0)),(3,(ptr b1 0)),(4,(ptr b3 0)),(5,(ptr b5 0)),(8,u13),(9,(Value.map (some b14))),(10,vI s19.2),(22,vI s19.2),(23,(vT (decide (s19.2 < 256)))),(24,vI s19.2)]) ⟨rfl,lk rfl f8,lk rfl f35,rfl,rfl,rfl,rfl,rfl,rfl,rfl,rfl,rfl,trivial⟩
     refine Zm (seg:=enc r30) (cs':=enc r30) hE hM Za rfl rfl rfl ZG (Flat.len _) (zle flq) (Flat.cell _) (Zn flq) fun w a hM hE=>Zi (Zt (wp_region_lit (Zd hE Za ld rfl fun a hE=>Zl (cs:=enc r30) hE Za ld rfl ZG rfl (hM.rawAt (pre:=[])) (Flat.len _) fun a hE=>Zd hE Za ld rfl fun a hE=>WS (xs:=[.tmp 37]) (l:=([s19.2] : List Int)) (vs:=[vI s19.2]) hE hM Za ld rfl rfl Try.underlying66 ty2 rfl (by decide) rfl ?_))); intro u36 w a hM hE
     have hM:=hM.pull (pre:=[_,_])
     refine HK (Q1 Try.underlying55 Try.underlying5 ty5 rfl (KH Try.underlying55 ty5 rfl false rfl (by decide) (QM Try.underlying5)) (by decide)) hE hM Za ld rfl rfl Try.underlying110 (fun _=>zv_of (by kernel_rfl) _) fun u38 n40 w a hM hE=>Yt hE Za ld rfl rfl ?_; intro a hE
     obtain ⟨l41,e42,hs20⟩:=bind_some hs20
     obtain ⟨e45,rfl⟩:=UD e42
     refine V9 hE hM Za ld rfl rfl (hM.sl (pre:=[_,_]) noB) Try.underlying66 ty2 rfl (by decide) e45 fun u43 w a hM hE=>Yt hE Za ld rfl rfl ?_; intro a hE
     have hM:=(hM.pull (pre:=[_])).pull (pre:=[_])
     refine Js hE hM Za rfl rfl rfl fun w a hM hE=>Zi (Yi (Zt (wp_region_lit (Zk hE Za ld rfl rfl rfl fun a hE=>Zd hE Za ld rfl fun a hE=>Zi (Zj ?_)))))
     have hM:=M.fst (l:=[_,_,_,_,_]) (((((hM.pull (pre:=[_,_,_,_,_,_])).pull (pre:=[_,_,_,_,_,_])).pull (pre:=[_,_,_,_,_,_])).pull (pre:=[_,_,_,_,_,_])).pull (pre:=[_,_,_,_]))
     exact ⟨_,(ois hs20),hE.sub ⟨rfl,rfl,rfl,rfl,rfl,rfl,trivial⟩,hM⟩
   ·intro hb23
    have hs20:=Zx hs20 hb23
    refine wp_exit (Zp (Zp (Yj ?_)))
    have ht46:=hx21 _ (ois hs20)
    subst ht46
    refine Zj ?_
    have hM:=M.fst (l:=[_,_,_]) (((hM.pull (pre:=[_,_,_])).pull (pre:=[_,_])).pull (pre:=[_,_]))
    exact ⟨hE.sub ⟨rfl,rfl,rfl,trivial⟩,hM⟩
  ·skip
   rintro a w ⟨hE,hM⟩
   refine Zt (Zc (WS (xs:=[]) (l:=([] : List GMeeting)) (vs:=[]) hE hM Za ld rfl rfl Try.underlying58 VE rfl (by decide) rfl fun u47 w a hM hE=>Ze hE Za ld rfl fun a hE=>Zf (wp_seq (Zc (Zd hE Za ld rfl fun a hE=>Zf ?_)))))
   obtain ⟨j49,hl50,hF51⟩:=bind_some hF18
   refine ZP (fun a w=>∃ (u52 : Value),Env 68 a [(12,u52)] ∧ M (Old w0) w0 w [osl NoB (j49 : List GMeeting) u52]) ?_ ?_
   ·skip
    refine wp_block ?_
    have hM:=((hM.pull (pre:=[_,_,_])).pull (pre:=[_,_,_])).pull (pre:=[_,_,_])
    refine ZJ (fun (s54 : (List GMeeting) × Int) a w=>∃ (u55 : Value),Env 68 a [(4,(ptr b3 0)),(8,u13),(9,(Value.map (some b14))),(12,u55),(44,vI s54.2)] ∧ M (Old w0) w0 w [Tx (fun x : Vector UInt8 16=>Value.agg (enc x).toArray) (Uu NoB) (j16 : (List ((Vector UInt8 16) × (List Int)))) b14,own NoB (r11 : (Ref Gengine)) [u13],raw b3 (enc p1),osl NoB (s54.1 : List GMeeting) u55]) hl50 ⟨u47,hE.sub ⟨rfl,rfl,rfl,rfl,rfl,trivial⟩,hM⟩ ?_
    rintro s54 a w ⟨u55,hE,hM⟩ o59 hs57 hx58
    unfold YX at hs57
    refine Zc (Zk hE Za ld rfl rfl rfl fun a hE=>Zf (wp_seq ?_))
    refine Zr hE rfl ?_ ?_
    ·intro hb60
     have hs57:=Zw hs57 hb60
     refine wp_skip (Zt (wp_seq (wp_block (Zc (Zd hE Za ld rfl fun a hE=>Ze hE Za ld rfl fun a hE=>Zf ?_)))))
     obtain ⟨j61,hl62,hF63⟩:=bind_some hs57
     refine ZL (fun a w=>∃ (u64 : Value),Env 68 a [(4,(ptr b3 0)),(8,u13),(9,(Value.map (some b14))),(12,u55),(13,vI s54.2),(44,vI s54.2),(53,u64),(54,vI j61.2.1),(55,vI j61.2.2)] ∧ M (Old w0) w0 w [mapV (fun x : Vector UInt8 16=>Value.agg (enc x).toArray) (Uu NoB) (j16 : (List ((Vector UInt8 16) × (List Int)))) j61.1 u64 b14,own NoB (r11 : (Ref Gengine)) [u13],raw b3 (enc p1),osl NoB (s54.1 : List GMeeting) u55]) ?_ ?_
     ·skip
      obtain ⟨r66,e67,hl62⟩:=bind_some hl62
      obtain ⟨r68,e69,hl62⟩:=bind_some hl62
      refine Yd (n:=68) (hd:=[_,_,_,_,_,_,_,_,_]) (tl:=[]) YR rfl rfl [47,48,49,50,51,52,53,54,55] (by decide) (fun w=>M (Old w0) w0 w [Tx (fun x : Vector UInt8 16=>Value.agg (enc x).toArray) (Uu NoB) (j16 : (List ((Vector UInt8 16) × (List Int)))) b14,own NoB (r11 : (Ref Gengine)) [u13],raw b3 (enc p1),osl NoB (s54.1 : List GMeeting) u55]) (fun j=>([fun v _=>v = (Value.map (some b14)),fun v _=>v = u13,fun v _=>v = (vI s54.2),fun v _=>v = (Value.agg (enc r66).toArray),fun v _=>v = (Value.agg (enc p1).toArray),fun v _=>v = (Value.agg (enc r68).toArray),fun v w=>Ug j16 r68 b14 v w,fun v _=>v = (vI (((VG j16 r68).getD []).length : Int)),fun v _=>v = (vI 0)] : List (Value → World → Prop)).getD j (fun _ _=>True)) (fun _ _ h hk=>h.keep hk) (gup (Zh (Zh (Zh (Zh (Zh (Zh (gupK (Zh (Zh WV)))))))))) hE hM.drew (ZK (Zb ?_ (Zb ?_ (Zb ?_ (Zb ?_ (Zb ?_ (Zb ?_ (Zb ?_ (Zb ?_ (Zb ?_ ZE)))))))))) ?_
      ·exact fun a w ux65 hE hM hp=>Zd hE Za ld rfl fun a hE=>⟨Kept.refl _ _,_,_,rfl,hE,rfl⟩
      ·exact fun a w ux65 hE hM hp=>Zd hE Za ld rfl fun a hE=>⟨Kept.refl _ _,_,_,rfl,hE,rfl⟩
      ·exact fun a w ux65 hE hM hp=>Zd hE Za ld rfl fun a hE=>⟨Kept.refl _ _,_,_,rfl,hE,rfl⟩
      ·intro a w ux65 hE hM hp
       have f2 : ux65 2 = (vI s54.2):=hp 0 _ rfl rfl
       refine Zq hE Za ld (ZV (ZT (lk rfl f2) Xw)) cb78 (UW _ s54.2 r66 e67) ?_
       rintro v w a ⟨rfl,hK⟩ hE
       exact ⟨hK,_,_,rfl,hE,rfl⟩
      ·exact fun a w ux65 hE hM hp=>Zl (cs:=enc p1) hE Za ld rfl ZG rfl (hM.rawAt (pre:=[_,_])) (Flat.len _) fun a hE=>⟨Kept.refl _ _,_,_,rfl,hE,rfl⟩
      ·intro a w ux65 hE hM hp
       have f1 : ux65 1 = u13:=hp 0 _ rfl rfl
       have f3 : ux65 3 = (Value.agg (enc r66).toArray):=hp 1 _ rfl rfl
       have f4 : ux65 4 = (Value.agg (enc p1).toArray):=hp 2 _ rfl rfl
       refine Zq hE Za ld (ZV (ZT (lk rfl f1) (ZT (lk rfl f3) (ZT (lk rfl f4) Xw)))) cb79 (UF _ r11 u13 (hM.ro (pre:=[_]) noB) r66 p1 r68 e69) ?_
       rintro v w a ⟨rfl,hK⟩ hE
       exact ⟨hK,_,_,rfl,hE,rfl⟩
      ·intro a w ux65 hE hM hp
       have f0 : ux65 0 = (Value.map (some b14)):=hp 0 _ rfl rfl
       have f5 : ux65 5 = (Value.agg (enc r68).toArray):=hp 1 _ rfl rfl
       exact Bi (pre:=[]) (Q1 Try.underlying55 Try.underlying5 ty5 rfl (KH Try.underlying55 ty5 rfl false rfl (by decide) (QM Try.underlying5)) (by decide)) hE hM Za ld (lk rfl f0) (lk rfl f5) Try.underlying110 (zv_of (by kernel_rfl) _) fun v a hL hE=>⟨Kept.refl _ _,_,_,rfl,hE,hL⟩
      ·intro a w ux65 hE hM hp
       have L6 : Ug j16 r68 b14 (ux65 6) w:=hp 0 _ rfl rfl
       exact UC hE Za ld rfl Try.underlying66 (hM.lookRo (pre:=[]) L6) fun a hE=>⟨Kept.refl _ _,_,_,rfl,hE,rfl⟩
      ·exact fun a w ux65 hE hM hp=>Zd hE Za ld rfl fun a hE=>⟨Kept.refl _ _,_,_,rfl,hE,rfl⟩
      ·intro a w ux65 hE hM hg
       have L6 : Ug j16 r68 b14 (ux65 6) w:=hg 6 (by decide)
       have hM:=hM.see (pre:=[]) Ts noB L6
       have hE:=hE.sub (e':=[(53,(ux65 6)),(54,(vI (((VG j16 r68).getD []).length : Int))),(55,vI 0),(4,(ptr b3 0)),(8,u13),(9,(Value.map (some b14))),(12,u55),(13,vI s54.2),(44,vI s54.2),(45,(vT (decide (s54.2 < 256)))),(46,vI s54.2)]) ⟨rfl,lk rfl (hg 7 (by decide)),lk rfl (hg 8 (by decide)),rfl,rfl,rfl,rfl,rfl,rfl,rfl,rfl,trivial⟩
       refine Zi ?_
       have ht70:=Option.some.inj hl62
       subst ht70
       refine Zj ?_
       exact ⟨(ux65 6),hE.sub ⟨rfl,rfl,rfl,rfl,rfl,rfl,rfl,rfl,rfl,trivial⟩,hM⟩
     ·skip
      rintro a w ⟨u64,hE,hM⟩
      obtain ⟨j71,hl72,hF73⟩:=bind_some hF63
      refine ZP (fun a w=>∃ (u74 : Value),Env 68 a [(4,(ptr b3 0)),(8,u13),(9,(Value.map (some b14))),(12,u74),(44,vI s54.2)] ∧ M (Old w0) w0 w [mapV (fun x : Vector UInt8 16=>Value.agg (enc x).toArray) (Uu NoB) (j16 : (List ((Vector UInt8 16) × (List Int)))) j61.1 u64 b14,own NoB (r11 : (Ref Gengine)) [u13],raw b3 (enc p1),osl NoB (j71 : List GMeeting) u74]) ?_ ?_
      ·skip
       refine wp_block ?_
       refine ZJ (fun (s76 : (List GMeeting) × Int) a w=>∃ (u77 : Value),Env 68 a [(4,(ptr b3 0)),(8,u13),(9,(Value.map (some b14))),(12,u77),(13,vI s54.2),(44,vI s54.2),(53,u64),(54,vI j61.2.1),(55,vI s76.2)] ∧ M (Old w0) w0 w [mapV (fun x : Vector UInt8 16=>Value.agg (enc x).toArray) (Uu NoB) (j16 : (List ((Vector UInt8 16) × (List Int)))) j61.1 u64 b14,own NoB (r11 : (Ref Gengine)) [u13],raw b3 (enc p1),osl NoB (s76.1 : List GMeeting) u77]) hl72 ⟨u55,hE.sub ⟨rfl,rfl,rfl,rfl,rfl,rfl,rfl,rfl,rfl,trivial⟩,hM⟩ ?_
       rintro s76 a w ⟨u77,hE,hM⟩ o81 hs79 hx80
       unfold YV at hs79
       refine Zc (Zk hE Za ld rfl rfl rfl fun a hE=>Zf (wp_seq ?_))
       refine Zr hE rfl ?_ ?_
       ·intro hb82
        have hs79:=Zw hs79 hb82
        refine wp_skip (Zt (wp_seq (wp_block (Zc ?_))))
        obtain ⟨x83,hi85,hs79⟩:=bix hs79
        refine YT hE Za ld rfl rfl Try.underlying66 ty2 (hM.seeRo (pre:=[])) hi85.1 fun a hE=>Zv (v:=(vI x83)) hE Za ld rfl ty2 rfl (Vb (hM.seeRo (pre:=[])) hi85.2) fun a hE=>Ze hE Za ld rfl fun a hE=>Zf (wp_region_lit (Zd hE Za ld rfl fun a hE=>Zd hE Za ld rfl fun a hE=>Zd hE Za ld rfl fun a hE=>TP (parts:=[(0,.tmp 60),(1,.tmp 61)]) (vs:=[(0,vI s54.2),(1,vI x83)]) (cs:=cat [[vI s54.2],[vI x83]]) hE Za ld rfl rfl VE pl108 (Wo (pre:=[]) (seg:=[vI 0]) (seg':=[vI s54.2]) (post:=[[vI 0]]) rfl cl0 rfl rfl rfl (Wo (pre:=[[vI s54.2]]) (seg:=[vI 0]) (seg':=[vI x83]) (post:=[]) rfl (cl1 (n:=1) (m:=0) rfl cl0) rfl rfl rfl KJ)) fun a hE=>WS (xs:=[.tmp 62]) (l:=([(⟨s54.2,x83⟩ : GMeeting)] : List GMeeting)) (vs:=[(Value.agg (enc (⟨s54.2,x83⟩ : GMeeting)).toArray)]) hE hM Za ld rfl rfl Try.underlying58 VE rfl (by decide) rfl ?_)); intro u86 w a hM hE
        obtain ⟨l88,e89,hs79⟩:=bind_some hs79
        obtain ⟨e92,rfl⟩:=UD e89
        have hM:=hM.pull (pre:=[_,_,_,_])
        refine V9 hE hM Za ld rfl rfl (hM.sl (pre:=[_]) noB) Try.underlying58 VE rfl (by decide) e92 fun u90 w a hM hE=>Ze hE Za ld rfl fun a hE=>Zi (Yi (Zt (wp_region_lit (Zk hE Za ld rfl rfl rfl fun a hE=>Zd hE Za ld rfl fun a hE=>Zi (Zj ?_)))))
        have hM:=M.fst (l:=[_,_,_,_]) (((hM.pull (pre:=[_,_,_,_])).pull (pre:=[_,_,_,_])).pull (pre:=[_,_,_,_]))
        exact ⟨_,(ois hs79),u90,hE.sub ⟨rfl,rfl,rfl,rfl,rfl,rfl,rfl,rfl,rfl,trivial⟩,hM⟩
       ·intro hb82
        have hs79:=Zx hs79 hb82
        refine wp_exit (Zp (Zp (Yj ?_)))
        have ht93:=hx80 _ (ois hs79)
        subst ht93
        refine Zj ?_
        exact ⟨u77,hE.sub ⟨rfl,rfl,rfl,rfl,rfl,trivial⟩,hM⟩
      ·skip
       rintro a w ⟨u74,hE,hM⟩
       refine Yi (Zt (wp_region_lit (Zk hE Za ld rfl rfl rfl fun a hE=>Zd hE Za ld rfl fun a hE=>Zi (Zj ?_))))
       have hM:=hM.unsee Ts noB
       exact ⟨_,(ois hF73),u74,hE.sub ⟨rfl,rfl,rfl,rfl,rfl,trivial⟩,hM⟩
    ·intro hb60
     have hs57:=Zx hs57 hb60
     refine wp_exit (Zp (Zp (Yj ?_)))
     have ht94:=hx58 _ (ois hs57)
     subst ht94
     refine Zj ?_
     have hM:=M.fst (l:=[_]) (hM.pull (pre:=[_,_,_]))
     exact ⟨u55,hE.sub ⟨rfl,trivial⟩,hM⟩
   ·skip
    rintro a w ⟨u52,hE,hM⟩
    refine Zt (Zc (Zd hE Za ld rfl fun a hE=>Ze hE Za ld rfl fun a hE=>Ze hE Za ld rfl fun a hE=>Zf ?_))
    have hr:=Option.some.inj hF51
    subst hr
    exact wp_ret (UM hE rfl (ZA hE rfl) (ZA hE rfl) ⟨_,rfl,u52,rfl,hM.outF (Jf QZ),hM.kept⟩)
def Wh (p0 : GMeeting) (p1 : GMeeting) : Option (Bool) :=
 if (p0.First != p1.First) = true then (some false) else (if (p0.Second != p1.Second) = true then (some false) else (some true))
theorem QJ (w0 : World) (p0 : GMeeting) (p1 : GMeeting) (r : Bool) (hF : Wh p0 p1 = some r) :
  Calls Try.prog 80 [(Value.agg (enc p0).toArray),(Value.agg (enc p1).toArray)].toArray w0 (fun en w'=>∃ v,en = .returned v ∧ (v = (vT r) ∧ Kept (Old w0) w0 w')):=by
 refine ZC (n:=15) Try.func80 rfl rfl (nbl rfl) rfl ?_
 intro a hE
 have hM:=M.start w0
 unfold Wh at hF
 refine Zc (ZX (cs:=cat [[vI p0.First],[vI p0.Second]]) hE hM Za ld rfl rfl fun b1 w a hM hE=>ZX (cs:=cat [[vI p1.First],[vI p1.Second]]) hE hM Za ld rfl rfl fun b3 w a hM hE=>Ze hE Za ld rfl fun a hE=>Zf (wp_seq (Zc (Zo hE Za ld rfl (Kj) fun a hE=>Zv (v:=(vI p0.First)) hE Za ld rfl ty2 rfl (At.cat (pre:=[]) (hM.rawAt (pre:=[_])) cl0) fun a hE=>Zo hE Za ld rfl (Kj) fun a hE=>Zv (v:=(vI p1.First)) hE Za ld rfl ty2 rfl (At.cat (pre:=[]) (hM.rawAt (pre:=[])) cl0) fun a hE=>Zk hE Za ld rfl rfl rfl fun a hE=>Zf ?_))))
 refine Zr hE rfl ?_ ?_
 ·intro hb5
  have hF:=Zw hF hb5
  refine Zc (Ze hE Za ld rfl fun a hE=>Zf ?_)
  have hr:=Option.some.inj hF
  subst hr
  have hM:=M.fst (l:=[]) hM
  exact wp_ret (ZH (ZD hE rfl (ZA hE rfl) ⟨_,rfl,rfl,hM.kept⟩))
 ·intro hb5
  have hF:=Zx hF hb5
  refine wp_skip (Zt (wp_seq (Zc (Zo hE Za ld rfl (Kn) fun a hE=>Zv (v:=(vI p0.Second)) hE Za ld rfl ty2 rfl (At.cat (pre:=[[vI p0.First]]) (hM.rawAt (pre:=[_])) (cl1 (n:=1) (m:=0) rfl cl0)) fun a hE=>Zo hE Za ld rfl (Kn) fun a hE=>Zv (v:=(vI p1.Second)) hE Za ld rfl ty2 rfl (At.cat (pre:=[[vI p1.First]]) (hM.rawAt (pre:=[])) (cl1 (n:=1) (m:=0) rfl cl0)) fun a hE=>Zk hE Za ld rfl rfl rfl fun a hE=>Zf ?_))))
  refine Zr hE rfl ?_ ?_
  ·intro hb6
   have hF:=Zw hF hb6
   refine Zc (Ze hE Za ld rfl fun a hE=>Zf ?_)
   have hr:=Option.some.inj hF
   subst hr
   have hM:=M.fst (l:=[]) hM
   exact wp_ret (ZH (ZD hE rfl (ZA hE rfl) ⟨_,rfl,rfl,hM.kept⟩))
  ·intro hb6
   have hF:=Zx hF hb6
   refine wp_skip (Zt (Zc (Ze hE Za ld rfl fun a hE=>Zf ?_)))
   have hr:=Option.some.inj hF
   subst hr
   have hM:=M.fst (l:=[]) hM
   exact wp_ret (ZD hE rfl (ZA hE rfl) ⟨_,rfl,rfl,hM.kept⟩)
def Wu (p0 : (List GMeeting)) (p1 : (List GMeeting)) (s6 : Int) : Option (Fl Int (Fl Unit Bool)) :=
 if (decide (s6 < (p0.length : Int))) = true then (((idx p0 s6).bind fun x15=>(idx p1 s6).bind fun x18=>(Wh x15 x18).bind fun r21=>some (!r21) : Option (Bool)).bind fun j11=>if j11 = true then (some (Fl.ex (Fl.ex false))) else (some (Fl.nx (wr (s6 + 1))))) else (some (Fl.ex (Fl.nx ())))
def Xq (p0 : (List GMeeting)) (p1 : (List GMeeting)) : Option (Bool) :=
 if ((p0.length : Int) != (p1.length : Int)) = true then (some false) else ((ZB (Wu p0 p1) 0).bind fun j2=>j2.el (fun s5=>some true) (fun r=>some r))
theorem Um (w0 : World) (p0 : (List GMeeting)) (v0_1 : Value) (hv0_1 : Ro w0 p0 [v0_1]) (p1 : (List GMeeting)) (v1_1 : Value) (hv1_1 : Ro w0 p1 [v1_1]) (r : Bool) (hF : Xq p0 p1 = some r) :
  Calls Try.prog 30 [v0_1,v1_1].toArray w0 (fun en w'=>∃ v,en = .returned v ∧ (v = (vT r) ∧ Kept (Old w0) w0 w')):=by
 refine ZC (n:=27) Try.func30 rfl rfl (nbl rfl) rfl ?_
 intro a hE
 have hM:=M.start w0
 unfold Xq at hF
 refine Zc (Ze hE Za ld rfl fun a hE=>Zf (wp_seq (Zc (Zd hE Za ld rfl fun a hE=>UC hE Za ld rfl Try.underlying58 (hM.rd hv0_1) fun a hE=>Zd hE Za ld rfl fun a hE=>UC hE Za ld rfl Try.underlying58 (hM.rd hv1_1) fun a hE=>Zk hE Za ld rfl rfl rfl fun a hE=>Zf ?_))))
 refine Zr hE rfl ?_ ?_
 ·intro hb1
  have hF:=Zw hF hb1
  refine Zc (Ze hE Za ld rfl fun a hE=>Zf ?_)
  have hr:=Option.some.inj hF
  subst hr
  exact wp_ret (ZH (ZD hE rfl (ZA hE rfl) ⟨_,rfl,rfl,hM.kept⟩))
 ·intro hb1
  have hF:=Zx hF hb1
  refine wp_skip (Zt (wp_seq (Zc (Ze hE Za ld rfl fun a hE=>Zf ?_))))
  obtain ⟨j2,hl3,hF4⟩:=bind_some hF
  refine ZP (fun a w=>∃ s5 : Unit,j2 = Fl.nx s5 ∧ Env 27 a [] ∧ M (Old w0) w0 w []) ?_ ?_
  ·skip
   refine wp_block ?_
   refine ZJ (fun (s6 : Int) a w=>Env 27 a [(0,v0_1),(1,v1_1),(5,vI s6)] ∧ M (Old w0) w0 w []) hl3 ⟨hE.sub ⟨rfl,rfl,rfl,trivial⟩,hM⟩ ?_
   rintro s6 a w ⟨hE,hM⟩ o9 hs7 hx8
   unfold Wu at hs7
   refine wp_seq (Zc (Zd hE Za ld rfl fun a hE=>Zd hE Za ld rfl fun a hE=>UC hE Za ld rfl Try.underlying58 (hM.rd hv0_1) fun a hE=>Zk hE Za ld rfl rfl rfl fun a hE=>Zf ?_))
   refine Zr hE rfl ?_ ?_
   ·intro hb10
    have hs7:=Zw hs7 hb10
    refine wp_skip (Zt (wp_seq (wp_block ?_)))
    obtain ⟨j11,hl12,hF13⟩:=bind_some hs7
    refine ZL (fun a w=>Env 27 a [(0,v0_1),(1,v1_1),(5,vI s6),(26,vT j11)] ∧ M (Old w0) w0 w []) ?_ ?_
    ·skip
     obtain ⟨x15,hi17,hl12⟩:=bix hl12
     obtain ⟨x18,hi20,hl12⟩:=bix hl12
     obtain ⟨r21,e22,hl12⟩:=bind_some hl12
     refine Yd (n:=27) (hd:=[_,_,_,_,_,_,_,_,_,_]) (tl:=[]) YR rfl rfl [17,18,19,20,21,22,23,24,25,26] (by decide) (fun w=>M (Old w0) w0 w []) (fun j=>([fun v _=>v = v0_1,fun v _=>v = (vI s6),fun v _=>v = (ptr (sb v0_1) (so v0_1 + (s6).toNat * 2)),fun v _=>v = (Value.agg (enc x15).toArray),fun v _=>v = v1_1,fun v _=>v = (vI s6),fun v _=>v = (ptr (sb v1_1) (so v1_1 + (s6).toNat * 2)),fun v _=>v = (Value.agg (enc x18).toArray),fun v _=>v = (vT r21),fun v _=>v = (vT (!r21))] : List (Value → World → Prop)).getD j (fun _ _=>True)) (fun _ _ h hk=>h.keep hk) (gup (Zh (Zh (Zh (Zh (Zh (Zh (Zh (Zh (Zh (Zh WV))))))))))) hE hM.drew (ZK (Zb ?_ (Zb ?_ (Zb ?_ (Zb ?_ (Zb ?_ (Zb ?_ (Zb ?_ (Zb ?_ (Zb ?_ (Zb ?_ ZE))))))))))) ?_
     ·exact fun a w ux14 hE hM hp=>Zd hE Za ld rfl fun a hE=>⟨Kept.refl _ _,_,_,rfl,hE,rfl⟩
     ·exact fun a w ux14 hE hM hp=>Zd hE Za ld rfl fun a hE=>⟨Kept.refl _ _,_,_,rfl,hE,rfl⟩
     ·intro a w ux14 hE hM hp
      have f0 : ux14 0 = v0_1:=hp 0 _ rfl rfl
      have f1 : ux14 1 = (vI s6):=hp 1 _ rfl rfl
      exact YT hE Za ld (lk rfl f0) (lk rfl f1) Try.underlying58 VE (hM.rd hv0_1) hi17.1 fun a hE=>⟨Kept.refl _ _,_,_,rfl,hE,rfl⟩
     ·intro a w ux14 hE hM hp
      have f2 : ux14 2 = (ptr (sb v0_1) (so v0_1 + (s6).toNat * 2)):=hp 0 _ rfl rfl
      exact Zl (cs:=enc x15) hE Za ld (lk rfl f2) VE rfl (Vb (hM.rd hv0_1) hi17.2) (Y8 (cl1 (n:=1) (m:=1) rfl (cl1 (n:=1) (m:=0) rfl cl0))) fun a hE=>⟨Kept.refl _ _,_,_,rfl,hE,rfl⟩
     ·exact fun a w ux14 hE hM hp=>Zd hE Za ld rfl fun a hE=>⟨Kept.refl _ _,_,_,rfl,hE,rfl⟩
     ·exact fun a w ux14 hE hM hp=>Zd hE Za ld rfl fun a hE=>⟨Kept.refl _ _,_,_,rfl,hE,rfl⟩
     ·intro a w ux14 hE hM hp
      have f4 : ux14 4 = v1_1:=hp 0 _ rfl rfl
      have f5 : ux14 5 = (vI s6):=hp 1 _ rfl rfl
      exact YT hE Za ld (lk rfl f4) (lk rfl f5) Try.underlying58 VE (hM.rd hv1_1) hi20.1 fun a hE=>⟨Kept.refl _ _,_,_,rfl,hE,rfl⟩
     ·intro a w ux14 hE hM hp
      have f6 : ux14 6 = (ptr (sb v1_1) (so v1_1 + (s6).toNat * 2)):=hp 0 _ rfl rfl
      exact Zl (cs:=enc x18) hE Za ld (lk rfl f6) VE rfl (Vb (hM.rd hv1_1) hi20.2) (Y8 (cl1 (n:=1) (m:=1) rfl (cl1 (n:=1) (m:=0) rfl cl0))) fun a hE=>⟨Kept.refl _ _,_,_,rfl,hE,rfl⟩
     ·intro a w ux14 hE hM hp
      have f3 : ux14 3 = (Value.agg (enc x15).toArray):=hp 0 _ rfl rfl
      have f7 : ux14 7 = (Value.agg (enc x18).toArray):=hp 1 _ rfl rfl
      refine Zq hE Za ld (ZV (ZT (lk rfl f3) (ZT (lk rfl f7) Xw))) cb80 (QJ _ x15 x18 r21 e22) ?_
      rintro v w a ⟨rfl,hK⟩ hE
      exact ⟨hK,_,_,rfl,hE,rfl⟩
     ·intro a w ux14 hE hM hp
      have f8 : ux14 8 = (vT r21):=hp 0 _ rfl rfl
      exact UV hE Za ld (lk rfl f8) fun a hE=>⟨Kept.refl _ _,_,_,rfl,hE,rfl⟩
     ·intro a w ux14 hE hM hg
      have hE:=hE.sub (e':=[(26,(vT (!r21))),(0,v0_1),(1,v1_1),(5,vI s6),(11,vI s6),(12,v0_1),(13,(vI (p0.length : Int))),(14,(vT (decide (s6 < (p0.length : Int)))))]) ⟨lk rfl (hg 9 (by decide)),rfl,rfl,rfl,rfl,rfl,rfl,rfl,trivial⟩
      refine Zi ?_
      have ht23:=Option.some.inj hl12
      subst ht23
      refine Zj ?_
      exact ⟨hE.sub ⟨rfl,rfl,rfl,rfl,trivial⟩,hM⟩
    ·skip
     rintro a w ⟨hE,hM⟩
     refine Zr hE rfl ?_ ?_
     ·intro hb24
      have hF13:=Zw hF13 hb24
      refine Zc (Ze hE Za ld rfl fun a hE=>Zf ?_)
      have ht25:=hx8 _ (ois hF13)
      subst ht25
      have hr:=Option.some.inj hF4
      subst hr
      exact wp_ret (Wq (ZH (ZH (Wq (ZH (ZH (ZD hE rfl (ZA hE rfl) ⟨_,rfl,rfl,hM.kept⟩)))))))
     ·intro hb24
      have hF13:=Zx hF13 hb24
      refine wp_skip (Yi (Zt (wp_region_lit (Zd hE Za ld rfl fun a hE=>Zk hE Za ld rfl rfl rfl fun a hE=>Ze hE Za ld rfl fun a hE=>Zi (Zj ?_)))))
      exact ⟨_,(ois hF13),hE.sub ⟨rfl,rfl,rfl,trivial⟩,hM⟩
   ·intro hb10
    have hs7:=Zx hs7 hb10
    refine wp_exit (Zp (Zp (Yj ?_)))
    have ht26:=hx8 _ (ois hs7)
    subst ht26
    refine Zj ?_
    exact ⟨(),rfl,hE.sub trivial,hM⟩
  ·skip
   rintro a w ⟨s5,ht,hE,hM⟩
   subst ht
   have hF4:=UU hF4
   refine Zt (Zc (Ze hE Za ld rfl fun a hE=>Zf ?_))
   have hr:=Option.some.inj hF4
   subst hr
   exact wp_ret (ZD hE rfl (ZA hE rfl) ⟨_,rfl,rfl,hM.kept⟩)
def Xa (s4 : (List GMeeting) × Int × Int) : Option (Fl ((List GMeeting) × Int × Int) ((List GMeeting) × Int)) :=
 if (decide (s4.2.2 < (s4.1.length : Int))) = true then ((idx s4.1 s4.2.2).bind fun x9=>(idx (s4.1.set (s4.2.2).toNat (⟨s4.2.1,x9.Second⟩ : GMeeting)) s4.2.2).bind fun x12=>some (Fl.nx (((s4.1.set (s4.2.2).toNat (⟨s4.2.1,x9.Second⟩ : GMeeting)).set (s4.2.2).toNat (⟨x12.First,wr (s4.2.1 + 1)⟩ : GMeeting)),wr ((wr (s4.2.1 + 1)) + 1),wr (s4.2.2 + 1)))) else (some (Fl.ex (s4.1,s4.2.1)))
def Xv (p0 : (List GMeeting)) (p1 : Int) : Option ((List GMeeting) × Int) :=
 (ZB (Xa) (p0,p1,0)).bind fun j1=>some (j1.1,j1.2)
theorem TC (St : Nat → Prop) (W w0 : World) (its : List Item) (p0 : (List GMeeting)) (v0_1 : Value) (p1 : Int) (hM : M St W w0 (own NoB (p0 : (List GMeeting)) [v0_1] :: its)) (r : (List GMeeting) × Int) (hF : Xv p0 p1 = some r) :
  Calls Try.prog 31 [v0_1,vI p1].toArray w0 (fun en w'=>∃ v,en = .returned v ∧ (v = (vI r.2) ∧ M St W w' (own NoB (r.1 : (List GMeeting)) [v0_1] :: its))):=by
 refine ZC (n:=27) Try.func31 rfl rfl (nbl rfl) rfl ?_
 intro a hE
 unfold Xv at hF
 refine Zc (Ze hE Za ld rfl fun a hE=>Zf (wp_seq (Zc (Ze hE Za ld rfl fun a hE=>Zf ?_))))
 obtain ⟨j1,hl2,hF3⟩:=bind_some hF
 refine ZP (fun a w=>Env 27 a [(0,v0_1),(1,vI j1.2)] ∧ M St W w (own NoB (j1.1 : (List GMeeting)) [v0_1] :: its)) ?_ ?_
 ·skip
  refine wp_block ?_
  refine ZJ (fun (s4 : (List GMeeting) × Int × Int) a w=>Env 27 a [(0,v0_1),(1,vI s4.2.1),(5,vI s4.2.2)] ∧ M St W w (own NoB (s4.1 : (List GMeeting)) [v0_1] :: its)) hl2 ⟨hE.sub ⟨rfl,rfl,rfl,trivial⟩,hM⟩ ?_
  rintro s4 a w ⟨hE,hM⟩ o7 hs5 hx6
  unfold Xa at hs5
  refine wp_seq (Zc (Zd hE Za ld rfl fun a hE=>Zd hE Za ld rfl fun a hE=>UC hE Za ld rfl Try.underlying58 (hM.ro (pre:=[]) noB) fun a hE=>Zk hE Za ld rfl rfl rfl fun a hE=>Zf ?_))
  refine Zr hE rfl ?_ ?_
  ·intro hb8
   have hs5:=Zw hs5 hb8
   refine wp_skip (Zt (wp_seq (wp_block (Zc (Zd hE Za ld rfl fun a hE=>Zd hE Za ld rfl fun a hE=>Zd hE Za ld rfl ?_))))); intro a hE
   obtain ⟨x9,hi11,hs5⟩:=bix hs5
   refine YT hE Za ld rfl rfl Try.underlying58 VE (hM.ro (pre:=[]) noB) hi11.1 fun a hE=>Zo hE Za ld rfl (Kj) ?_; intro a hE
   have hM:=hM.toOsl (List.getElem?_eq_some_iff.1 hi11.2).1
   refine J2 (i:=(s4.2.2).toNat) (k0:=0 + 0) (seg:=[vI s4.2.1]) (xo:=x9) (xn:=(⟨s4.2.1,x9.Second⟩ : GMeeting)) hE hM Za rfl rfl rfl ty2 rfl (Flat.cell (s4.2.1 : Int)) hi11.2 (HZ (m:=1) rfl (by decide)) (W0 (pre:=[]) cl0 rfl) ?_; intro w a hM hE
   have hM:=hM.toOwn noB
   refine Zf (Zc (Zd hE Za ld rfl fun a hE=>Zk hE Za ld rfl rfl rfl fun a hE=>Ze hE Za ld rfl fun a hE=>Zf (Zc (Zd hE Za ld rfl fun a hE=>Zd hE Za ld rfl fun a hE=>Zd hE Za ld rfl ?_)))); intro a hE
   obtain ⟨x12,hi14,hs5⟩:=bix hs5
   refine YT hE Za ld rfl rfl Try.underlying58 VE (hM.ro (pre:=[]) noB) hi14.1 fun a hE=>Zo hE Za ld rfl (Kn) ?_; intro a hE
   have hM:=hM.toOsl (List.getElem?_eq_some_iff.1 hi14.2).1
   refine J2 (i:=(s4.2.2).toNat) (k0:=0 + 1) (seg:=[(vI (wr (s4.2.1 + 1)))]) (xo:=x12) (xn:=(⟨x12.First,wr (s4.2.1 + 1)⟩ : GMeeting)) hE hM Za rfl rfl rfl ty2 rfl (Flat.cell (wr (s4.2.1 + 1) : Int)) hi14.2 (HZ (m:=1) rfl (by decide)) (W0 (pre:=[[vI x12.First]]) (cl1 (n:=1) (m:=0) rfl cl0) rfl) ?_; intro w a hM hE
   have hM:=hM.toOwn noB
   refine Zf (wp_region_lit (Zd hE Za ld rfl fun a hE=>Zk hE Za ld rfl rfl rfl fun a hE=>Ze hE Za ld rfl fun a hE=>Zi (Yi (Zt (wp_region_lit (Zd hE Za ld rfl fun a hE=>Zk hE Za ld rfl rfl rfl fun a hE=>Ze hE Za ld rfl fun a hE=>Zi (Zj ?_)))))))
   exact ⟨_,(ois hs5),hE.sub ⟨rfl,rfl,rfl,trivial⟩,hM⟩
  ·intro hb8
   have hs5:=Zx hs5 hb8
   refine wp_exit (Zp (Zp (Yj ?_)))
   have ht15:=hx6 _ (ois hs5)
   subst ht15
   refine Zj ?_
   exact ⟨hE.sub ⟨rfl,rfl,trivial⟩,hM⟩
 ·skip
  rintro a w ⟨hE,hM⟩
  refine Zt (Zc (Zd hE Za ld rfl fun a hE=>Ze hE Za ld rfl fun a hE=>Zf ?_))
  have hr:=Option.some.inj hF3
  subst hr
  exact wp_ret (ZD hE (by rfl) (ZA hE rfl) ⟨_,rfl,rfl,hM⟩)
def Xb (p0 : (List GMeeting)) (s5 : Int × Int) : Option (Fl (Int × Int) (Fl Int Int)) :=
 if (decide (s5.2 < (p0.length : Int))) = true then ((idx p0 s5.2).bind fun x10=>if (x10.First != s5.1) = true then (some (Fl.ex (Fl.ex (-1)))) else ((idx p0 s5.2).bind fun x15=>if (x15.Second != (wr (s5.1 + 1))) = true then (some (Fl.ex (Fl.ex (-1)))) else (some (Fl.nx (wr ((wr (s5.1 + 1)) + 1),wr (s5.2 + 1)))))) else (some (Fl.ex (Fl.nx s5.1)))
def YF (p0 : (List GMeeting)) (p1 : Int) : Option (Int) :=
 (ZB (Xb p0) (p1,0)).bind fun j1=>j1.el (fun s4=>some s4) (fun r=>some r)
end

end Go.Proofs.Ytpjogonponkbmaa
