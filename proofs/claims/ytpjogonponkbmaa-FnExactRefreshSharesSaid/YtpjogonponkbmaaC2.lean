/- The walk of what the law reaches: contracts of functions. -/
import Derived.Test.YtpjogonponkbmaaC1
set_option linter.unusedVariables false
set_option linter.unusedSimpArgs false
set_option maxRecDepth 20000
set_option maxHeartbeats 400000
namespace Go.Proofs.Ytpjogonponkbmaa
open Go
open Flat (enc)
noncomputable section
def Y6 (p0 : (List UInt8)) (s5 : Int × Int) : Option (Fl (Int × Int) (Fl Int Int)) :=
 if (decide (s5.2 < (p0.length : Int))) = true then ((idx p0 s5.2).bind fun x10=>if (x10 != (Xa s5.1)) = true then (some (Fl.ex (Fl.ex (-1)))) else (some (Fl.nx (wr (s5.1 + 1),wr (s5.2 + 1))))) else (some (Fl.ex (Fl.nx s5.1)))
def Xm (p0 : (List UInt8)) (p1 : Int) : Option (Int) :=
 (ZB (Y6 p0) (p1,0)).bind fun j1=>j1.el (fun s4=>some s4) (fun r=>some r)
theorem Uk (w0 : World) (p0 : (List UInt8)) (v0_1 : Value) (hv0_1 : Ro w0 p0 [v0_1]) (p1 : Int) (r : Int) (hF : Xm p0 p1 = some r) :
  Calls Try.prog 54 [v0_1,vI p1].toArray w0 (fun en w'=>∃ v,en = .returned v ∧ (v = (vI r) ∧ Kept (Old w0) w0 w')):=by
 refine Zv (n:=22) Try.func54 rfl rfl (nbl rfl) rfl ?_
 intro a hE
 have hM:=M.start w0
 unfold Xm at hF
 refine Zb (Zc hE Za ld rfl fun a hE=>Zf (wp_seq (Zb (Zc hE Za ld rfl fun a hE=>Zf ?_))))
 obtain ⟨j1,hl2,hF3⟩:=bind_some hF
 refine ZS (fun a w=>∃ s4 : Int,j1 = Fl.nx s4 ∧ Env 22 a [(1,vI s4)] ∧ M (Old w0) w0 w []) ?_ ?_
 ·skip
  refine wp_block ?_
  refine ZG (fun (s5 : Int × Int) a w=>Env 22 a [(0,v0_1),(1,vI s5.1),(5,vI s5.2)] ∧ M (Old w0) w0 w []) hl2 ⟨hE.sub ⟨rfl,rfl,rfl,trivial⟩,hM⟩ ?_
  rintro s5 a w ⟨hE,hM⟩ o8 hs6 hx7
  unfold Y6 at hs6
  refine wp_seq (Zb (Zd hE Za ld rfl fun a hE=>Zd hE Za ld rfl fun a hE=>ZF hE Za ld rfl Try.underlying22 (hM.rd hv0_1) fun a hE=>Zh hE Za ld rfl rfl rfl fun a hE=>Zf ?_))
  refine Zm hE rfl ?_ ?_
  ·intro hb9
   have hs6:=Zr hs6 hb9
   refine wp_skip (Zt (wp_seq (wp_block (wp_seq (Zb (Zd hE Za ld rfl fun a hE=>Zd hE Za ld rfl ?_)))))); intro a hE
   obtain ⟨x10,hi12,hs6⟩:=bix hs6
   refine Zo hE Za ld rfl rfl Try.underlying22 ty5 (hM.rd hv0_1) hi12.1 fun a hE=>Zy (v:=(vB x10)) hE Za ld rfl ty5 rfl (Xr (hM.rd hv0_1) hi12.2) fun a hE=>Zd hE Za ld rfl fun a hE=>WX hE Za ld rfl Try.underlying3 Try.underlying5 ?_; intro a hE
   rw [Wn] at hE
   refine Zh hE Za ld rfl rfl (Um x10 (Xa s5.1)) fun a hE=>Zf ?_
   refine Zm hE rfl ?_ ?_
   ·intro hb13
    have hs6:=Zr hs6 hb13
    refine Zb (Zc hE Za ld rfl fun a hE=>Zf ?_)
    have ht14:=hx7 _ (ois hs6)
    subst ht14
    have hr:=Option.some.inj hF3
    subst hr
    exact wp_ret (Zj (Z5 (Zj (Zj (Z5 (Zj (Zj (Zl hE rfl (Zg hE rfl) ⟨_,rfl,rfl,hM.kept⟩))))))))
   ·intro hb13
    have hs6:=Zs hs6 hb13
    refine wp_skip (Zt (wp_region_lit (Zd hE Za ld rfl fun a hE=>Zh hE Za ld rfl rfl rfl fun a hE=>Zc hE Za ld rfl fun a hE=>Zi (Y0 (Zt (wp_region_lit (Zd hE Za ld rfl fun a hE=>Zh hE Za ld rfl rfl rfl fun a hE=>Zc hE Za ld rfl fun a hE=>Zi (Zk ?_))))))))
    exact ⟨_,(ois hs6),hE.sub ⟨rfl,rfl,rfl,trivial⟩,hM⟩
  ·intro hb9
   have hs6:=Zs hs6 hb9
   refine wp_exit (Zp (Zp (Y7 ?_)))
   have ht15:=hx7 _ (ois hs6)
   subst ht15
   refine Zk ?_
   exact ⟨s5.1,rfl,hE.sub ⟨rfl,trivial⟩,hM⟩
 ·skip
  rintro a w ⟨s4,ht,hE,hM⟩
  subst ht
  have hF3:=Wk hF3
  refine Zt (Zb (Zd hE Za ld rfl fun a hE=>Zc hE Za ld rfl fun a hE=>Zf ?_))
  have hr:=Option.some.inj hF3
  subst hr
  exact wp_ret (Zl hE rfl (Zg hE rfl) ⟨_,rfl,rfl,hM.kept⟩)
def YM (p0 : (List GShare)) (s5 : Int × Int) : Option (Fl (Int × Int) (Fl Int Int)) :=
 if (decide (s5.2 < (p0.length : Int))) = true then ((idx p0 s5.2).bind fun x10=>if (x10.Place != (Xa s5.1)) = true then (some (Fl.ex (Fl.ex (-1)))) else ((idx p0 s5.2).bind fun x20=>(Xm x20.Data (wr (s5.1 + 1))).bind fun r28=>if (decide (r28 < 0)) = true then (some (Fl.ex (Fl.ex (-1)))) else (some (Fl.nx (r28,wr (s5.2 + 1)))))) else (some (Fl.ex (Fl.nx s5.1)))
def Yq (p0 : (List GShare)) (p1 : Int) : Option (Int) :=
 (ZB (YM p0) (p1,0)).bind fun j1=>j1.el (fun s4=>some s4) (fun r=>some r)
theorem WV (w0 : World) (p0 : (List GShare)) (v0_1 : Value) (hv0_1 : Ro w0 p0 [v0_1]) (p1 : Int) (r : Int) (hF : Yq p0 p1 = some r) :
  Calls Try.prog 19 [v0_1,vI p1].toArray w0 (fun en w'=>∃ v,en = .returned v ∧ (v = (vI r) ∧ Kept (Old w0) w0 w')):=by
 refine Zv (n:=32) Try.func19 rfl rfl (nbl rfl) rfl ?_
 intro a hE
 have hM:=M.start w0
 unfold Yq at hF
 refine Zb (Zc hE Za ld rfl fun a hE=>Zf (wp_seq (Zb (Zc hE Za ld rfl fun a hE=>Zf ?_))))
 obtain ⟨j1,hl2,hF3⟩:=bind_some hF
 refine ZS (fun a w=>∃ s4 : Int,j1 = Fl.nx s4 ∧ Env 32 a [(1,vI s4)] ∧ M (Old w0) w0 w []) ?_ ?_
 ·skip
  refine wp_block ?_
  refine ZG (fun (s5 : Int × Int) a w=>Env 32 a [(0,v0_1),(1,vI s5.1),(5,vI s5.2)] ∧ M (Old w0) w0 w []) hl2 ⟨hE.sub ⟨rfl,rfl,rfl,trivial⟩,hM⟩ ?_
  rintro s5 a w ⟨hE,hM⟩ o8 hs6 hx7
  unfold YM at hs6
  refine wp_seq (Zb (Zd hE Za ld rfl fun a hE=>Zd hE Za ld rfl fun a hE=>ZF hE Za ld rfl Try.underlying25 (hM.rd hv0_1) fun a hE=>Zh hE Za ld rfl rfl rfl fun a hE=>Zf ?_))
  refine Zm hE rfl ?_ ?_
  ·intro hb9
   have hs6:=Zr hs6 hb9
   refine wp_skip (Zt (wp_seq (wp_block (wp_seq (Zb (Zd hE Za ld rfl fun a hE=>Zd hE Za ld rfl ?_)))))); intro a hE
   obtain ⟨x10,hi12,hs6⟩:=bix hs6
   refine Zo hE Za ld rfl rfl Try.underlying25 ZR (hM.rd hv0_1) hi12.1 fun a hE=>Zn hE Za ld rfl (Wx) ?_; intro a hE
   obtain ⟨cs13,hs14,hA15⟩:=ZM hv0_1 hi12.2 -- ^
   obtain ⟨u16,rfl,h17⟩:=ZJ hs14 -- ^
   refine Zy (v:=(vB x10.Place)) hE Za ld rfl ty5 rfl (At.cat (pre:=[]) (hM.atk hA15 (ZY hv0_1 hi12.2)) cl0) fun a hE=>Zd hE Za ld rfl fun a hE=>WX hE Za ld rfl Try.underlying3 Try.underlying5 ?_; intro a hE
   rw [Wn] at hE
   refine Zh hE Za ld rfl rfl (Um x10.Place (Xa s5.1)) fun a hE=>Zf ?_
   refine Zm hE rfl ?_ ?_
   ·intro hb18
    have hs6:=Zr hs6 hb18
    refine Zb (Zc hE Za ld rfl fun a hE=>Zf ?_)
    have ht19:=hx7 _ (ois hs6)
    subst ht19
    have hr:=Option.some.inj hF3
    subst hr
    exact wp_ret (Zj (Z5 (Zj (Zj (Z5 (Zj (Zj (Zl hE rfl (Zg hE rfl) ⟨_,rfl,rfl,hM.kept⟩))))))))
   ·intro hb18
    have hs6:=Zs hs6 hb18
    refine wp_skip (Zt (Zb (Zd hE Za ld rfl fun a hE=>Zh hE Za ld rfl rfl rfl fun a hE=>Zc hE Za ld rfl fun a hE=>Zf (Zb (Zd hE Za ld rfl fun a hE=>Zd hE Za ld rfl ?_))))); intro a hE
    obtain ⟨x20,hi22,hs6⟩:=bix hs6
    refine Zo hE Za ld rfl rfl Try.underlying25 ZR (hM.rd hv0_1) hi22.1 fun a hE=>Zn hE Za ld rfl (Yr) ?_; intro a hE
    obtain ⟨cs23,hs24,hA25⟩:=ZM hv0_1 hi22.2 -- ^
    obtain ⟨u26,rfl,h27⟩:=ZJ hs24 -- ^
    refine Zy (v:=u26) hE Za ld rfl Yv rfl (At.cat (pre:=[[vB x20.Place]]) (hM.atk hA25 (ZY hv0_1 hi22.2)) (cl1 (n:=1) (m:=0) rfl cl0)) fun a hE=>Zd hE Za ld rfl ?_; intro a hE
    obtain ⟨r28,e29,hs6⟩:=bind_some hs6
    refine Zu hE Za ld rfl cb54 (Uk _ x20.Data u26 (hM.rdo h27) (wr (s5.1 + 1)) r28 e29) ?_
    rintro v w a ⟨rfl,hK⟩ hE
    have hM:=hM.keep hK
    refine Zc hE Za ld rfl fun a hE=>Zf (Zb (Zd hE Za ld rfl fun a hE=>Zh hE Za ld rfl rfl rfl fun a hE=>Zf ?_))
    refine Zm hE rfl ?_ ?_
    ·intro hb30
     have hs6:=Zr hs6 hb30
     refine Zb (Zc hE Za ld rfl fun a hE=>Zf ?_)
     have ht31:=hx7 _ (ois hs6)
     subst ht31
     have hr:=Option.some.inj hF3
     subst hr
     exact wp_ret (Z5 (Zj (Zj (Z5 (Zj (Zj (Zl hE rfl (Zg hE rfl) ⟨_,rfl,rfl,hM.kept⟩)))))))
    ·intro hb30
     have hs6:=Zs hs6 hb30
     refine wp_skip (Y0 (Zt (wp_region_lit (Zd hE Za ld rfl fun a hE=>Zh hE Za ld rfl rfl rfl fun a hE=>Zc hE Za ld rfl fun a hE=>Zi (Zk ?_)))))
     exact ⟨_,(ois hs6),hE.sub ⟨rfl,rfl,rfl,trivial⟩,hM⟩
  ·intro hb9
   have hs6:=Zs hs6 hb9
   refine wp_exit (Zp (Zp (Y7 ?_)))
   have ht32:=hx7 _ (ois hs6)
   subst ht32
   refine Zk ?_
   exact ⟨s5.1,rfl,hE.sub ⟨rfl,trivial⟩,hM⟩
 ·skip
  rintro a w ⟨s4,ht,hE,hM⟩
  subst ht
  have hF3:=Wk hF3
  refine Zt (Zb (Zd hE Za ld rfl fun a hE=>Zc hE Za ld rfl fun a hE=>Zf ?_))
  have hr:=Option.some.inj hF3
  subst hr
  exact wp_ret (Zl hE rfl (Zg hE rfl) ⟨_,rfl,rfl,hM.kept⟩)
def Z4 (p0 : Int) (p1 : (List GShare)) (p2 : (List (List UInt8))) : Option (Bool) :=
 (YZ p1 1048576).bind fun r1=>if (decide (r1 < 0)) = true then (some true) else ((YR p2 r1).bind fun r4=>if (decide (r4 < 0)) = true then (some true) else ((Yb p1).bind fun r7=>(Yc p2).bind fun r10=>(Yo p0 r7 r10).bind fun r13=>(Yb p1).bind fun r16=>(Yc p2).bind fun r19=>(ZZ p0 r16 r19).bind fun r22=>((Yd r22.1 r13.1).bind fun r28=>if (!r28) = true then (some true) else (some (r22.2 != r13.2)) : Option (Bool)).bind fun j25=>if j25 = true then (some false) else ((Yb p1).bind fun r34=>(Yd r16 r34).bind fun r37=>if (!r37) = true then (some false) else ((Yc p2).bind fun r40=>(Xy r19 r40).bind fun r43=>if (!r43) = true then (some false) else ((ZU r16 1).bind fun r46=>(Y4 r19 r46.2).bind fun r48=>(if (decide (r48.2 < 0)) = true then (some true) else ((Yd r22.1 r13.1).bind fun r55=>if (!r55) = true then (some true) else (some (r22.2 != r13.2))) : Option (Bool)).bind fun j50=>if j50 = true then (some false) else ((ZU r22.1 1).bind fun r61=>(Yq r61.1 1).bind fun r63=>if (decide (r63 < 0)) = true then (some false) else (if (r63 != r61.2) = true then (some false) else ((Yb p1).bind fun r67=>(Yc p2).bind fun r70=>(ZZ p0 r67 r70).bind fun r73=>((Yd r73.1 r13.1).bind fun r79=>if (!r79) = true then (some true) else (some (r73.2 != r13.2)) : Option (Bool)).bind fun j76=>if j76 = true then (some false) else ((Yq r61.1 1).bind fun r85=>if (decide (r85 < 0)) = true then (some false) else (if (r85 != r61.2) = true then (some false) else (some true)))))))))))
theorem WA (w0 : World) (p0 : Int) (p1 : (List GShare)) (v1_1 : Value) (hv1_1 : Ro w0 p1 [v1_1]) (p2 : (List (List UInt8))) (v2_1 : Value) (hv2_1 : Ro w0 p2 [v2_1]) (r : Bool) (hF : Z4 p0 p1 p2 = some r) :
  Calls Try.prog 4 [vI p0,v1_1,v2_1].toArray w0 (fun en w'=>∃ v,en = .returned v ∧ (v = (vT r) ∧ Kept (Old w0) w0 w')):=by
 refine Zv (n:=124) Try.func4 rfl rfl (nbl rfl) rfl ?_
 intro a hE
 have hM:=M.start w0
 unfold Z4 at hF
 refine Zb (Zc hE Za ld rfl fun a hE=>Zf (Zb (Zc hE Za ld rfl fun a hE=>Zf (Zb (Zd hE Za ld rfl fun a hE=>Zd hE Za ld rfl ?_))))); intro a hE
 obtain ⟨r1,e2,hF⟩:=bind_some hF
 refine Zu hE Za ld rfl cb20 (UK _ p1 v1_1 (hM.rdo hv1_1) 1048576 r1 e2) ?_
 rintro v w a ⟨rfl,hK⟩ hE
 have hM:=hM.keep hK
 refine Zc hE Za ld rfl fun a hE=>Zf (wp_seq (Zb (Zd hE Za ld rfl fun a hE=>Zh hE Za ld rfl rfl rfl fun a hE=>Zf ?_)))
 refine Zm hE rfl ?_ ?_
 ·intro hb3
  have hF:=Zr hF hb3
  refine Zb (Zc hE Za ld rfl fun a hE=>Zf ?_)
  have hr:=Option.some.inj hF
  subst hr
  exact wp_ret (Zj (Zl hE rfl (Zg hE rfl) ⟨_,rfl,rfl,hM.kept⟩))
 ·intro hb3
  have hF:=Zs hF hb3
  refine wp_skip (Zt (Zb (Zd hE Za ld rfl fun a hE=>Zd hE Za ld rfl ?_))); intro a hE
  obtain ⟨r4,e5,hF⟩:=bind_some hF
  refine Zu hE Za ld rfl cb8 (UM _ p2 v2_1 (hM.rdo hv2_1) r1 r4 e5) ?_
  rintro v w a ⟨rfl,hK⟩ hE
  have hM:=hM.keep hK
  refine Zc hE Za ld rfl fun a hE=>Zf (wp_seq (Zb (Zd hE Za ld rfl fun a hE=>Zh hE Za ld rfl rfl rfl fun a hE=>Zf ?_)))
  refine Zm hE rfl ?_ ?_
  ·intro hb6
   have hF:=Zr hF hb6
   refine Zb (Zc hE Za ld rfl fun a hE=>Zf ?_)
   have hr:=Option.some.inj hF
   subst hr
   exact wp_ret (Zj (Zl hE rfl (Zg hE rfl) ⟨_,rfl,rfl,hM.kept⟩))
  ·intro hb6
   have hF:=Zs hF hb6
   refine wp_skip (Zt (Zb (Zd hE Za ld rfl fun a hE=>Zd hE Za ld rfl ?_))); intro a hE
   obtain ⟨r7,e8,hF⟩:=bind_some hF
   refine Zu hE Za ld rfl cb22 (X8 _ p1 v1_1 (hM.rdo hv1_1) r7 e8) ?_
   rintro u9 w a ⟨_,rfl,hFr,hK⟩ hE
   have hM:=hM.add hK hFr
   refine Zd hE Za ld rfl ?_; intro a hE
   obtain ⟨r10,e11,hF⟩:=bind_some hF
   refine Zu hE Za ld rfl cb11 (X7 _ p2 v2_1 (hM.rdo hv2_1) r10 e11) ?_
   rintro u12 w a ⟨_,rfl,hFr,hK⟩ hE
   have hM:=hM.add hK hFr
   obtain ⟨r13,e14,hF⟩:=bind_some hF
   refine Zu hE Za ld rfl cb21 (Vv _ p0 r7 u9 (hM.sl (pre:=[_]) noB) r10 u12 (hM.sl (pre:=[]) noB) r13 e14) ?_
   rintro v w a ⟨u15,rfl,hFr,hK⟩ hE
   have hM:=hM.add hK hFr
   refine Zd hE Za ld rfl fun a hE=>WD hE Za ld rfl rfl fun a hE=>WD hE Za ld rfl rfl fun a hE=>Zc hE Za ld rfl fun a hE=>Zc hE Za ld rfl fun a hE=>Zf (Zb (Zd hE Za ld rfl ?_)); intro a hE
   obtain ⟨r16,e17,hF⟩:=bind_some hF
   refine Zu hE Za ld rfl cb22 (X8 _ p1 v1_1 (hM.rdo hv1_1) r16 e17) ?_
   rintro u18 w a ⟨_,rfl,hFr,hK⟩ hE
   have hM:=hM.add hK hFr
   refine Zc hE Za ld rfl fun a hE=>Zf (Zb (Zd hE Za ld rfl ?_)); intro a hE
   obtain ⟨r19,e20,hF⟩:=bind_some hF
   refine Zu hE Za ld rfl cb11 (X7 _ p2 v2_1 (hM.rdo hv2_1) r19 e20) ?_
   rintro u21 w a ⟨_,rfl,hFr,hK⟩ hE
   have hM:=hM.add hK hFr
   refine Zc hE Za ld rfl fun a hE=>Zf (Zb (Zd hE Za ld rfl fun a hE=>Zd hE Za ld rfl fun a hE=>Zd hE Za ld rfl ?_)); intro a hE
   obtain ⟨r22,e23,hF⟩:=bind_some hF
   refine Zu hE Za ld rfl cb23 (Wu _ p0 r16 u18 (hM.sl (pre:=[_]) noB) r19 u21 (hM.sl (pre:=[]) noB) r22 e23) ?_
   rintro v w a ⟨u24,rfl,hFr,hK⟩ hE
   have hM:=hM.add hK hFr
   refine Zd hE Za ld rfl fun a hE=>WD hE Za ld rfl rfl fun a hE=>WD hE Za ld rfl rfl fun a hE=>Zc hE Za ld rfl fun a hE=>Zc hE Za ld rfl fun a hE=>Zf (wp_seq ?_)
   obtain ⟨j25,hl26,hF27⟩:=bind_some hF
   refine Ye (fun a w=>Env 124 a [(0,vI p0),(1,v1_1),(2,v2_1),(8,u15),(9,vI r13.2),(10,u18),(11,u21),(12,u24),(13,vI r22.2),(57,vT j25)] ∧ M (Old w0) w0 w [osl NoB (r22.1 : List GShare) u24,osl NoB (r19 : List (List UInt8)) u21,osl NoB (r16 : List GShare) u18,osl NoB (r13.1 : List GShare) u15]) ?_ ?_
   ·skip
    refine wp_region_lit (Zd hE Za ld rfl fun a hE=>Zd hE Za ld rfl ?_); intro a hE
    obtain ⟨r28,e29,hl26⟩:=bind_some hl26
    refine Zu hE Za ld rfl cb13 (Wa _ r22.1 u24 (hM.sl (pre:=[]) noB) r13.1 u15 (hM.sl (pre:=[_,_,_]) noB) r28 e29) ?_
    rintro v w a ⟨rfl,hK⟩ hE
    have hM:=hM.keep hK
    refine Xt hE Za ld rfl fun a hE=>Zd hE Za ld rfl ?_; intro a hE
    refine X3 (!r28) (fun hb30=>?_) (fun hb30=>?_)
    ·have hl26:=Zr hl26 hb30
     refine Zx hE rfl (lkb rfl hb30) rfl (by decide) fun a hE=>Zx hE rfl (lkb rfl hb30) rfl (by decide) fun a hE=>Zx hE rfl (lkb rfl hb30) rfl (by decide) fun a hE=>Yz hE Za ld (lkb rfl hb30) rfl fun a hE=>Zi ?_
     have ht31:=Option.some.inj hl26
     subst ht31
     refine Zk ?_
     have hM:=M.fst (l:=[_,_,_,_]) ((((hM.pull (pre:=[_,_,_])).pull (pre:=[_,_,_])).pull (pre:=[_,_,_])).pull (pre:=[_,_,_]))
     exact ⟨hE.sub ⟨rfl,rfl,rfl,rfl,rfl,rfl,rfl,rfl,rfl,rfl,trivial⟩,hM⟩
    ·have hl26:=Zs hl26 hb30
     refine Zd hE (Zq hE rfl (lkb rfl hb30)) (by decide) rfl fun a hE=>Zd hE (Zq hE rfl (lkb rfl hb30)) (by decide) rfl fun a hE=>Zh hE (Zq hE rfl (lkb rfl hb30)) (by decide) rfl rfl rfl fun a hE=>Xc hE Za ld (lkb rfl hb30) rfl fun a hE=>Zi ?_
     have ht32:=Option.some.inj hl26
     subst ht32
     refine Zk ?_
     have hM:=M.fst (l:=[_,_,_,_]) ((((hM.pull (pre:=[_,_,_])).pull (pre:=[_,_,_])).pull (pre:=[_,_,_])).pull (pre:=[_,_,_]))
     exact ⟨hE.sub ⟨rfl,rfl,rfl,rfl,rfl,rfl,rfl,rfl,rfl,rfl,trivial⟩,hM⟩
   ·skip
    rintro a w ⟨hE,hM⟩
    refine Zm hE rfl ?_ ?_
    ·intro hb33
     have hF27:=Zr hF27 hb33
     refine Zb (Zc hE Za ld rfl fun a hE=>Zf ?_)
     have hr:=Option.some.inj hF27
     subst hr
     have hM:=M.fst (l:=[]) hM
     exact wp_ret (Zj (Zl hE rfl (Zg hE rfl) ⟨_,rfl,rfl,hM.kept⟩))
    ·intro hb33
     have hF27:=Zs hF27 hb33
     refine wp_skip (Zt (wp_seq (Zb (Zd hE Za ld rfl fun a hE=>Zd hE Za ld rfl ?_)))); intro a hE
     obtain ⟨r34,e35,hF27⟩:=bind_some hF27
     refine Zu hE Za ld rfl cb22 (X8 _ p1 v1_1 (hM.rdo hv1_1) r34 e35) ?_
     rintro u36 w a ⟨_,rfl,hFr,hK⟩ hE
     have hM:=hM.add hK hFr
     obtain ⟨r37,e38,hF27⟩:=bind_some hF27
     refine Zu hE Za ld rfl cb13 (Wa _ r16 u18 (hM.sl (pre:=[_,_,_]) noB) r34 u36 (hM.sl (pre:=[]) noB) r37 e38) ?_
     rintro v w a ⟨rfl,hK⟩ hE
     have hM:=hM.keep hK
     refine Xt hE Za ld rfl fun a hE=>Zf ?_
     refine Zm hE rfl ?_ ?_
     ·intro hb39
      have hF27:=Zr hF27 hb39
      refine Zb (Zc hE Za ld rfl fun a hE=>Zf ?_)
      have hr:=Option.some.inj hF27
      subst hr
      have hM:=M.fst (l:=[]) hM
      exact wp_ret (Zj (Zl hE rfl (Zg hE rfl) ⟨_,rfl,rfl,hM.kept⟩))
     ·intro hb39
      have hF27:=Zs hF27 hb39
      refine wp_skip (Zt (wp_seq (Zb (Zd hE Za ld rfl fun a hE=>Zd hE Za ld rfl ?_)))); intro a hE
      obtain ⟨r40,e41,hF27⟩:=bind_some hF27
      refine Zu hE Za ld rfl cb11 (X7 _ p2 v2_1 (hM.rdo hv2_1) r40 e41) ?_
      rintro u42 w a ⟨_,rfl,hFr,hK⟩ hE
      have hM:=hM.add hK hFr
      obtain ⟨r43,e44,hF27⟩:=bind_some hF27
      refine Zu hE Za ld rfl cb15 (UP _ r19 u21 (hM.sl (pre:=[_,_,_]) noB) r40 u42 (hM.sl (pre:=[]) noB) r43 e44) ?_
      rintro v w a ⟨rfl,hK⟩ hE
      have hM:=hM.keep hK
      refine Xt hE Za ld rfl fun a hE=>Zf ?_
      refine Zm hE rfl ?_ ?_
      ·intro hb45
       have hF27:=Zr hF27 hb45
       refine Zb (Zc hE Za ld rfl fun a hE=>Zf ?_)
       have hr:=Option.some.inj hF27
       subst hr
       have hM:=M.fst (l:=[]) hM
       exact wp_ret (Zj (Zl hE rfl (Zg hE rfl) ⟨_,rfl,rfl,hM.kept⟩))
      ·intro hb45
       have hF27:=Zs hF27 hb45
       refine wp_skip (Zt (Zb (Zc hE Za ld rfl fun a hE=>Zf (Zb (Zd hE Za ld rfl fun a hE=>Zd hE Za ld rfl ?_))))); intro a hE
       have hM:=(hM.pull (pre:=[_,_,_,_])).toOwn noB
       obtain ⟨r46,e47,hF27⟩:=bind_some hF27
       refine Zu hE Za ld rfl cb18 (WT _ _ _ _ r16 u18 1 hM r46 e47) ?_
       rintro v w a ⟨rfl,hM⟩ hE
       refine Zc hE Za ld rfl fun a hE=>Zf (Zb (Zd hE Za ld rfl fun a hE=>Zd hE Za ld rfl ?_)); intro a hE
       have hM:=(hM.pull (pre:=[_,_,_,_])).toOwn noB
       obtain ⟨r48,e49,hF27⟩:=bind_some hF27
       refine Zu hE Za ld rfl cb17 (Ub _ _ _ _ r19 u21 r46.2 hM r48 e49) ?_
       rintro v w a ⟨rfl,hM⟩ hE
       refine Zc hE Za ld rfl fun a hE=>Zf (wp_seq ?_)
       obtain ⟨j50,hl51,hF52⟩:=bind_some hF27
       refine Ye (fun a w=>Env 124 a [(0,vI p0),(1,v1_1),(2,v2_1),(8,u15),(9,vI r13.2),(12,u24),(86,vT j50)] ∧ M (Old w0) w0 w [osl NoB (r22.1 : List GShare) u24,osl NoB (r13.1 : List GShare) u15]) ?_ ?_
       ·skip
        refine wp_region_lit (Zd hE Za ld rfl fun a hE=>Zh hE Za ld rfl rfl rfl fun a hE=>Zd hE Za ld rfl ?_); intro a hE
        refine X3 (decide (r48.2 < 0)) (fun hb53=>?_) (fun hb53=>?_)
        ·have hl51:=Zr hl51 hb53
         refine Zx hE rfl (lkb rfl hb53) rfl (by decide) fun a hE=>Zx hE rfl (lkb rfl hb53) rfl (by decide) fun a hE=>Zx hE rfl (lkb rfl hb53) rfl (by decide) fun a hE=>Zx hE rfl (lkb rfl hb53) rfl (by decide) fun a hE=>Yz hE Za ld (lkb rfl hb53) rfl fun a hE=>Zd hE Za ld rfl fun a hE=>Zx hE rfl rfl rfl (by decide) fun a hE=>Zx hE rfl rfl rfl (by decide) fun a hE=>Zx hE rfl rfl rfl (by decide) fun a hE=>Yz hE Za ld rfl rfl fun a hE=>Zi ?_
         have ht54:=Option.some.inj hl51
         subst ht54
         refine Zk ?_
         have hM:=M.fst (l:=[_,_]) ((hM.pull (pre:=[_,_,_,_,_])).pull (pre:=[_,_,_,_,_]))
         exact ⟨hE.sub ⟨rfl,rfl,rfl,rfl,rfl,rfl,rfl,trivial⟩,hM⟩
        ·have hl51:=Zs hl51 hb53
         refine Zd hE (Zq hE rfl (lkb rfl hb53)) (by decide) rfl fun a hE=>Zd hE (Zq hE rfl (lkb rfl hb53)) (by decide) rfl ?_; intro a hE
         obtain ⟨r55,e56,hl51⟩:=bind_some hl51
         refine Zu hE (Zq hE rfl (lkb rfl hb53)) (by decide) rfl cb13 (Wa _ r22.1 u24 (hM.sl (pre:=[_,_,_,_]) noB) r13.1 u15 (hM.sl (pre:=[_,_,_,_,_]) noB) r55 e56) ?_
         rintro v w a ⟨rfl,hK⟩ hE
         have hM:=hM.keep hK
         refine Xt hE (Zq hE rfl (lkb rfl hb53)) (by decide) rfl fun a hE=>Xc hE Za ld (lkb rfl hb53) rfl fun a hE=>Zd hE Za ld rfl ?_; intro a hE
         refine X3 (!r55) (fun hb57=>?_) (fun hb57=>?_)
         ·have hl51:=Zr hl51 hb57
          refine Zx hE rfl (lkb rfl hb57) rfl (by decide) fun a hE=>Zx hE rfl (lkb rfl hb57) rfl (by decide) fun a hE=>Zx hE rfl (lkb rfl hb57) rfl (by decide) fun a hE=>Yz hE Za ld (lkb rfl hb57) rfl fun a hE=>Zi ?_
          have ht58:=Option.some.inj hl51
          subst ht58
          refine Zk ?_
          have hM:=M.fst (l:=[_,_]) ((hM.pull (pre:=[_,_,_,_,_])).pull (pre:=[_,_,_,_,_]))
          exact ⟨hE.sub ⟨rfl,rfl,rfl,rfl,rfl,rfl,rfl,trivial⟩,hM⟩
         ·have hl51:=Zs hl51 hb57
          refine Zd hE (Zq hE rfl (lkb rfl hb57)) (by decide) rfl fun a hE=>Zd hE (Zq hE rfl (lkb rfl hb57)) (by decide) rfl fun a hE=>Zh hE (Zq hE rfl (lkb rfl hb57)) (by decide) rfl rfl rfl fun a hE=>Xc hE Za ld (lkb rfl hb57) rfl fun a hE=>Zi ?_
          have ht59:=Option.some.inj hl51
          subst ht59
          refine Zk ?_
          have hM:=M.fst (l:=[_,_]) ((hM.pull (pre:=[_,_,_,_,_])).pull (pre:=[_,_,_,_,_]))
          exact ⟨hE.sub ⟨rfl,rfl,rfl,rfl,rfl,rfl,rfl,trivial⟩,hM⟩
       ·skip
        rintro a w ⟨hE,hM⟩
        refine Zm hE rfl ?_ ?_
        ·intro hb60
         have hF52:=Zr hF52 hb60
         refine Zb (Zc hE Za ld rfl fun a hE=>Zf ?_)
         have hr:=Option.some.inj hF52
         subst hr
         have hM:=M.fst (l:=[]) hM
         exact wp_ret (Zj (Zl hE rfl (Zg hE rfl) ⟨_,rfl,rfl,hM.kept⟩))
        ·intro hb60
         have hF52:=Zs hF52 hb60
         refine wp_skip (Zt (Zb (Zc hE Za ld rfl fun a hE=>Zf (Zb (Zd hE Za ld rfl fun a hE=>Zd hE Za ld rfl ?_))))); intro a hE
         have hM:=hM.toOwn noB
         obtain ⟨r61,e62,hF52⟩:=bind_some hF52
         refine Zu hE Za ld rfl cb18 (WT _ _ _ _ r22.1 u24 1 hM r61 e62) ?_
         rintro v w a ⟨rfl,hM⟩ hE
         refine Zc hE Za ld rfl fun a hE=>Zf (Zb (Zc hE Za ld rfl fun a hE=>Zf (Zb (Zd hE Za ld rfl fun a hE=>Zd hE Za ld rfl ?_)))); intro a hE
         obtain ⟨r63,e64,hF52⟩:=bind_some hF52
         refine Zu hE Za ld rfl cb19 (WV _ r61.1 u24 (hM.ro (pre:=[]) noB) 1 r63 e64) ?_
         rintro v w a ⟨rfl,hK⟩ hE
         have hM:=hM.keep hK
         refine Zc hE Za ld rfl fun a hE=>Zf (wp_seq (Zb (Zd hE Za ld rfl fun a hE=>Zh hE Za ld rfl rfl rfl fun a hE=>Zf ?_)))
         refine Zm hE rfl ?_ ?_
         ·intro hb65
          have hF52:=Zr hF52 hb65
          refine Zb (Zc hE Za ld rfl fun a hE=>Zf ?_)
          have hr:=Option.some.inj hF52
          subst hr
          have hM:=M.fst (l:=[]) hM
          exact wp_ret (Zj (Zl hE rfl (Zg hE rfl) ⟨_,rfl,rfl,hM.kept⟩))
         ·intro hb65
          have hF52:=Zs hF52 hb65
          refine wp_skip (Zt (wp_seq (Zb (Zd hE Za ld rfl fun a hE=>Zd hE Za ld rfl fun a hE=>Zh hE Za ld rfl rfl rfl fun a hE=>Zf ?_))))
          refine Zm hE rfl ?_ ?_
          ·intro hb66
           have hF52:=Zr hF52 hb66
           refine Zb (Zc hE Za ld rfl fun a hE=>Zf ?_)
           have hr:=Option.some.inj hF52
           subst hr
           have hM:=M.fst (l:=[]) hM
           exact wp_ret (Zj (Zl hE rfl (Zg hE rfl) ⟨_,rfl,rfl,hM.kept⟩))
          ·intro hb66
           have hF52:=Zs hF52 hb66
           refine wp_skip (Zt (Zb (Zd hE Za ld rfl fun a hE=>Zd hE Za ld rfl ?_))); intro a hE
           obtain ⟨r67,e68,hF52⟩:=bind_some hF52
           refine Zu hE Za ld rfl cb22 (X8 _ p1 v1_1 (hM.rdo hv1_1) r67 e68) ?_
           rintro u69 w a ⟨_,rfl,hFr,hK⟩ hE
           have hM:=hM.add hK hFr
           refine Zd hE Za ld rfl ?_; intro a hE
           obtain ⟨r70,e71,hF52⟩:=bind_some hF52
           refine Zu hE Za ld rfl cb11 (X7 _ p2 v2_1 (hM.rdo hv2_1) r70 e71) ?_
           rintro u72 w a ⟨_,rfl,hFr,hK⟩ hE
           have hM:=hM.add hK hFr
           obtain ⟨r73,e74,hF52⟩:=bind_some hF52
           refine Zu hE Za ld rfl cb23 (Wu _ p0 r67 u69 (hM.sl (pre:=[_]) noB) r70 u72 (hM.sl (pre:=[]) noB) r73 e74) ?_
           rintro v w a ⟨u75,rfl,hFr,hK⟩ hE
           have hM:=hM.add hK hFr
           refine Zd hE Za ld rfl fun a hE=>WD hE Za ld rfl rfl fun a hE=>WD hE Za ld rfl rfl fun a hE=>Zc hE Za ld rfl fun a hE=>Zc hE Za ld rfl fun a hE=>Zf (wp_seq ?_)
           obtain ⟨j76,hl77,hF78⟩:=bind_some hF52
           refine Ye (fun a w=>Env 124 a [(12,u24),(15,vI r61.2),(115,vT j76)] ∧ M (Old w0) w0 w [own NoB (r61.1 : (List GShare)) [u24]]) ?_ ?_
           ·skip
            refine wp_region_lit (Zd hE Za ld rfl fun a hE=>Zd hE Za ld rfl ?_); intro a hE
            obtain ⟨r79,e80,hl77⟩:=bind_some hl77
            refine Zu hE Za ld rfl cb13 (Wa _ r73.1 u75 (hM.sl (pre:=[]) noB) r13.1 u15 (hM.sl (pre:=[_,_,_,_]) noB) r79 e80) ?_
            rintro v w a ⟨rfl,hK⟩ hE
            have hM:=hM.keep hK
            refine Xt hE Za ld rfl fun a hE=>Zd hE Za ld rfl ?_; intro a hE
            refine X3 (!r79) (fun hb81=>?_) (fun hb81=>?_)
            ·have hl77:=Zr hl77 hb81
             refine Zx hE rfl (lkb rfl hb81) rfl (by decide) fun a hE=>Zx hE rfl (lkb rfl hb81) rfl (by decide) fun a hE=>Zx hE rfl (lkb rfl hb81) rfl (by decide) fun a hE=>Yz hE Za ld (lkb rfl hb81) rfl fun a hE=>Zi ?_
             have ht82:=Option.some.inj hl77
             subst ht82
             refine Zk ?_
             have hM:=M.fst (l:=[_]) (hM.pull (pre:=[_,_,_]))
             exact ⟨hE.sub ⟨rfl,rfl,rfl,trivial⟩,hM⟩
            ·have hl77:=Zs hl77 hb81
             refine Zd hE (Zq hE rfl (lkb rfl hb81)) (by decide) rfl fun a hE=>Zd hE (Zq hE rfl (lkb rfl hb81)) (by decide) rfl fun a hE=>Zh hE (Zq hE rfl (lkb rfl hb81)) (by decide) rfl rfl rfl fun a hE=>Xc hE Za ld (lkb rfl hb81) rfl fun a hE=>Zi ?_
             have ht83:=Option.some.inj hl77
             subst ht83
             refine Zk ?_
             have hM:=M.fst (l:=[_]) (hM.pull (pre:=[_,_,_]))
             exact ⟨hE.sub ⟨rfl,rfl,rfl,trivial⟩,hM⟩
           ·skip
            rintro a w ⟨hE,hM⟩
            refine Zm hE rfl ?_ ?_
            ·intro hb84
             have hF78:=Zr hF78 hb84
             refine Zb (Zc hE Za ld rfl fun a hE=>Zf ?_)
             have hr:=Option.some.inj hF78
             subst hr
             have hM:=M.fst (l:=[]) hM
             exact wp_ret (Zj (Zl hE rfl (Zg hE rfl) ⟨_,rfl,rfl,hM.kept⟩))
            ·intro hb84
             have hF78:=Zs hF78 hb84
             refine wp_skip (Zt (Zb (Zc hE Za ld rfl fun a hE=>Zf (Zb (Zd hE Za ld rfl fun a hE=>Zd hE Za ld rfl ?_))))); intro a hE
             obtain ⟨r85,e86,hF78⟩:=bind_some hF78
             refine Zu hE Za ld rfl cb19 (WV _ r61.1 u24 (hM.ro (pre:=[]) noB) 1 r85 e86) ?_
             rintro v w a ⟨rfl,hK⟩ hE
             have hM:=hM.keep hK
             refine Zc hE Za ld rfl fun a hE=>Zf (wp_seq (Zb (Zd hE Za ld rfl fun a hE=>Zh hE Za ld rfl rfl rfl fun a hE=>Zf ?_)))
             refine Zm hE rfl ?_ ?_
             ·intro hb87
              have hF78:=Zr hF78 hb87
              refine Zb (Zc hE Za ld rfl fun a hE=>Zf ?_)
              have hr:=Option.some.inj hF78
              subst hr
              have hM:=M.fst (l:=[]) hM
              exact wp_ret (Zj (Zl hE rfl (Zg hE rfl) ⟨_,rfl,rfl,hM.kept⟩))
             ·intro hb87
              have hF78:=Zs hF78 hb87
              refine wp_skip (Zt (wp_seq (Zb (Zd hE Za ld rfl fun a hE=>Zd hE Za ld rfl fun a hE=>Zh hE Za ld rfl rfl rfl fun a hE=>Zf ?_))))
              refine Zm hE rfl ?_ ?_
              ·intro hb88
               have hF78:=Zr hF78 hb88
               refine Zb (Zc hE Za ld rfl fun a hE=>Zf ?_)
               have hr:=Option.some.inj hF78
               subst hr
               have hM:=M.fst (l:=[]) hM
               exact wp_ret (Zj (Zl hE rfl (Zg hE rfl) ⟨_,rfl,rfl,hM.kept⟩))
              ·intro hb88
               have hF78:=Zs hF78 hb88
               refine wp_skip (Zt (Zb (Zc hE Za ld rfl fun a hE=>Zf ?_)))
               have hr:=Option.some.inj hF78
               subst hr
               have hM:=M.fst (l:=[]) hM
               exact wp_ret (Zl hE rfl (Zg hE rfl) ⟨_,rfl,rfl,hM.kept⟩)
end

end Go.Proofs.Ytpjogonponkbmaa
