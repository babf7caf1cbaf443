/- The walk of what the law reaches: contracts of functions. -/
import Derived.Test.YtpjogonponkbmaaC1
set_option linter.unusedVariables false
set_option linter.unusedSimpArgs false
set_option maxRecDepth 20000
set_option maxHeartbeats 400000
namespace Go.Proofs.Ytpjogonponkbmaa
open Go
open Flat (enc)
noncomputable section
theorem KS (w0 : World) (p0 : Int) (r : Bool) (hF : Vm p0 = some r) :
  Calls Try.prog 47 [vI p0].toArray w0 (fun en w'=>∃ v,en = .returned v ∧ (v = (vT r) ∧ Kept (Old w0) w0 w')):=by
 refine ZB (n:=25) Try.func47 rfl rfl (nbl rfl) rfl ?_
 intro a hE
 have hM:=M.start w0
 unfold Vm at hF
 refine Zc (Ze hE Za ld rfl fun a hE=>Zf (wp_seq (Zc (Zd hE Za ld rfl ?_)))); intro a hE
 obtain ⟨r1,e2,hF⟩:=bind_some hF
 refine Zt hE Za ld rfl cb49 (W9 _ p0 256 511 r1 e2) ?_
 rintro v w a ⟨rfl,hK⟩ hE
 have hM:=hM.keep hK
 refine Vf hE Za ld rfl fun a hE=>Zf ?_
 refine Zq hE rfl ?_ ?_
 ·intro hb3
  have hF:=Zu hF hb3
  refine Zc (Ze hE Za ld rfl fun a hE=>Zf ?_)
  have hr:=Option.some.inj hF
  subst hr
  exact wp_ret (ZD (Zx hE rfl (Zs hE rfl) ⟨_,rfl,rfl,hM.kept⟩))
 ·intro hb3
  have hF:=Zv hF hb3
  refine wp_skip (Zw (wp_seq (Zc (Ze hE Za ld rfl fun a hE=>Zf ?_))))
  obtain ⟨j4,hl5,hF6⟩:=bind_some hF
  refine ZL (fun a w=>∃ s7 : Unit,j4 = Fl.nx s7 ∧ Env 25 a [] ∧ M (Old w0) w0 w []) ?_ ?_
  ·skip
   refine wp_block ?_
   refine ZF (fun (s8 : Int) a w=>Env 25 a [(0,vI p0),(3,vI s8)] ∧ M (Old w0) w0 w []) hl5 ⟨hE.sub ⟨rfl,rfl,trivial⟩,hM⟩ ?_
   rintro s8 a w ⟨hE,hM⟩ o11 hs9 hx10
   unfold X5 at hs9
   refine wp_seq (Zc (Zd hE Za ld rfl fun a hE=>Zi hE Za ld rfl rfl rfl fun a hE=>Zf ?_))
   refine Zq hE rfl ?_ ?_
   ·intro hb12
    have hs9:=Zu hs9 hb12
    refine wp_skip (Zw (wp_seq (wp_block (Zc (Zd hE Za ld rfl ?_))))); intro a hE
    obtain ⟨_,e13,hs9⟩:=bind_some hs9
    have e13:=Vl e13
    refine H8 hE Za ld rfl rfl (Ky _ _ e13) fun a hE=>Ze hE Za ld rfl fun a hE=>Zf ?_
    obtain ⟨j14,hl15,hF16⟩:=bind_some hs9
    refine ZL (fun a w=>∃ s17 : Unit,j14 = Fl.nx s17 ∧ Env 25 a [(0,vI p0),(3,vI s8)] ∧ M (Old w0) w0 w []) ?_ ?_
    ·skip
     refine wp_block ?_
     refine ZF (fun (s18 : Int) a w=>Env 25 a [(0,vI p0),(3,vI s8),(4,vI s18)] ∧ M (Old w0) w0 w []) hl15 ⟨hE.sub ⟨rfl,rfl,rfl,trivial⟩,hM⟩ ?_
     rintro s18 a w ⟨hE,hM⟩ o21 hs19 hx20
     unfold X1 at hs19
     refine wp_seq (Zc (Zd hE Za ld rfl fun a hE=>Zd hE Za ld rfl ?_)); intro a hE
     obtain ⟨_,e22,hs19⟩:=bind_some hs19
     have e22:=Vl e22
     refine H8 hE Za ld rfl rfl (Ky _ _ e22) fun a hE=>Zi hE Za ld rfl rfl rfl fun a hE=>Zf ?_
     refine Zq hE rfl ?_ ?_
     ·intro hb23
      have hs19:=Zu hs19 hb23
      refine wp_skip (Zw (wp_seq (wp_block (Zc (Zd hE Za ld rfl fun a hE=>Zd hE Za ld rfl fun a hE=>Zd hE Za ld rfl ?_))))); intro a hE
      obtain ⟨r24,e25,hs19⟩:=bind_some hs19
      refine Zt hE Za ld rfl cb98 (Q9 _ p0 s18 s8 r24 e25) ?_
      rintro v w a ⟨rfl,hK⟩ hE
      have hM:=hM.keep hK
      refine Zi hE Za ld rfl rfl rfl fun a hE=>Zf ?_
      refine Zq hE rfl ?_ ?_
      ·intro hb26
       have hs19:=Zu hs19 hb26
       refine Zc (Ze hE Za ld rfl fun a hE=>Zf ?_)
       have ht27:=hx20 _ (ois hs19)
       subst ht27
       have ht28:=hx10 _ (ois hF16)
       subst ht28
       have hr:=Option.some.inj hF6
       subst hr
       exact wp_ret (YG (ZD (ZD (YG (ZD (YG (ZD (ZD (YG (ZD (ZD (Zx hE rfl (Zs hE rfl) ⟨_,rfl,rfl,hM.kept⟩))))))))))))
      ·intro hb26
       have hs19:=Zv hs19 hb26
       refine wp_skip (Z9 (Zw (wp_region_lit (Zd hE Za ld rfl fun a hE=>Zi hE Za ld rfl rfl rfl fun a hE=>Ze hE Za ld rfl fun a hE=>Zh (Zj ?_)))))
       exact ⟨_,(ois hs19),hE.sub ⟨rfl,rfl,rfl,trivial⟩,hM⟩
     ·intro hb23
      have hs19:=Zv hs19 hb23
      refine wp_exit (Zm (Zm (Yf ?_)))
      have ht29:=hx20 _ (ois hs19)
      subst ht29
      refine Zj ?_
      exact ⟨(),rfl,hE.sub ⟨rfl,rfl,trivial⟩,hM⟩
    ·skip
     rintro a w ⟨s17,ht,hE,hM⟩
     subst ht
     have hF16:=Ur hF16
     refine Z9 (Zw (wp_region_lit (Zd hE Za ld rfl fun a hE=>Zi hE Za ld rfl rfl rfl fun a hE=>Ze hE Za ld rfl fun a hE=>Zh (Zj ?_))))
     exact ⟨_,(ois hF16),hE.sub ⟨rfl,rfl,trivial⟩,hM⟩
   ·intro hb12
    have hs9:=Zv hs9 hb12
    refine wp_exit (Zm (Zm (Yf ?_)))
    have ht30:=hx10 _ (ois hs9)
    subst ht30
    refine Zj ?_
    exact ⟨(),rfl,hE.sub trivial,hM⟩
  ·skip
   rintro a w ⟨s7,ht,hE,hM⟩
   subst ht
   have hF6:=Ur hF6
   refine Zw (Zc (Ze hE Za ld rfl fun a hE=>Zf ?_))
   have hr:=Option.some.inj hF6
   subst hr
   exact wp_ret (Zx hE rfl (Zs hE rfl) ⟨_,rfl,rfl,hM.kept⟩)
def Yd (p0 : (List Bool)) (p1 : Bool) (s5 : Int) : Option (Fl Int (Fl Unit Int)) :=
 if (decide (s5 < (p0.length : Int))) = true then ((idx p0 s5).bind fun x10=>if (p1 == x10) = true then (some (Fl.ex (Fl.ex s5))) else (some (Fl.nx (wr (s5 + 1))))) else (some (Fl.ex (Fl.nx ())))
def Xc (p0 : (List Bool)) (p1 : Bool) : Option (Int) :=
 (ZE (Yd p0 p1) 0).bind fun j1=>j1.el (fun s4=>some (-1)) (fun r=>some r)
theorem US (w0 : World) (p0 : (List Bool)) (v0_1 : Value) (hv0_1 : Ro w0 p0 [v0_1]) (p1 : Bool) (r : Int) (hF : Xc p0 p1 = some r) :
  Calls Try.prog 158 [v0_1,vT p1].toArray w0 (fun en w'=>∃ v,en = .returned v ∧ (v = (vI r) ∧ Kept (Old w0) w0 w')):=by
 refine ZB (n:=19) Try.func158 rfl rfl (nbl rfl) rfl ?_
 intro a hE
 have hM:=M.start w0
 unfold Xc at hF
 refine Zc (Ze hE Za ld rfl fun a hE=>Zf (wp_seq (Zc (Zd hE Za ld rfl fun a hE=>Ws hE Za ld rfl Try.underlying175 (hM.rd hv0_1) fun a hE=>Zd hE Za ld rfl fun a hE=>Zf ?_))))
 obtain ⟨j1,hl2,hF3⟩:=bind_some hF
 refine ZL (fun a w=>∃ s4 : Unit,j1 = Fl.nx s4 ∧ Env 19 a [] ∧ M (Old w0) w0 w []) ?_ ?_
 ·skip
  refine wp_block ?_
  refine ZF (fun (s5 : Int) a w=>Env 19 a [(0,v0_1),(1,vT p1),(7,(vI (p0.length : Int))),(8,vI s5)] ∧ M (Old w0) w0 w []) hl2 ⟨hE.sub ⟨rfl,rfl,rfl,rfl,trivial⟩,hM⟩ ?_
  rintro s5 a w ⟨hE,hM⟩ o8 hs6 hx7
  unfold Yd at hs6
  refine Zc (Zi hE Za ld rfl rfl rfl fun a hE=>Zf (wp_seq ?_))
  refine Zq hE rfl ?_ ?_
  ·intro hb9
   have hs6:=Zu hs6 hb9
   refine wp_skip (Zw (wp_seq (wp_block (Zc (Zd hE Za ld rfl fun a hE=>Ze hE Za ld rfl fun a hE=>Zf (Zc (Zd hE Za ld rfl fun a hE=>Zd hE Za ld rfl fun a hE=>Zd hE Za ld rfl ?_))))))); intro a hE
   obtain ⟨x10,hi12,hs6⟩:=bix hs6
   refine Yk hE Za ld rfl rfl Try.underlying175 ty4 (hM.rd hv0_1) hi12.1 fun a hE=>ZC (v:=(vT x10)) hE Za ld rfl ty4 rfl (WD (hM.rd hv0_1) hi12.2) fun a hE=>s_eqT hE Za ld rfl rfl Try.underlying4 fun a hE=>Zf ?_
   refine Zq hE rfl ?_ ?_
   ·intro hb13
    have hs6:=Zu hs6 hb13
    refine Zc (Zd hE Za ld rfl fun a hE=>Ze hE Za ld rfl fun a hE=>Zf ?_)
    have ht14:=hx7 _ (ois hs6)
    subst ht14
    have hr:=Option.some.inj hF3
    subst hr
    exact wp_ret (YG (ZD (ZD (YG (ZD (ZD (Zx hE rfl (Zs hE rfl) ⟨_,rfl,rfl,hM.kept⟩)))))))
   ·intro hb13
    have hs6:=Zv hs6 hb13
    refine wp_skip (Z9 (Zw (wp_region_lit (Zi hE Za ld rfl rfl rfl fun a hE=>Zd hE Za ld rfl fun a hE=>Zh (Zj ?_)))))
    exact ⟨_,(ois hs6),hE.sub ⟨rfl,rfl,rfl,rfl,trivial⟩,hM⟩
  ·intro hb9
   have hs6:=Zv hs6 hb9
   refine wp_exit (Zm (Zm (Yf ?_)))
   have ht15:=hx7 _ (ois hs6)
   subst ht15
   refine Zj ?_
   exact ⟨(),rfl,hE.sub trivial,hM⟩
 ·skip
  rintro a w ⟨s4,ht,hE,hM⟩
  subst ht
  have hF3:=Ur hF3
  refine Zw (Zc (Ze hE Za ld rfl fun a hE=>Zf ?_))
  have hr:=Option.some.inj hF3
  subst hr
  exact wp_ret (Zx hE rfl (Zs hE rfl) ⟨_,rfl,rfl,hM.kept⟩)
def Yj (p0 : (List Bool)) (p1 : Bool) : Option (Bool) :=
 (Xc p0 p1).bind fun r1=>some (decide (r1 ≥ 0))
theorem Uu (w0 : World) (p0 : (List Bool)) (v0_1 : Value) (hv0_1 : Ro w0 p0 [v0_1]) (p1 : Bool) (r : Bool) (hF : Yj p0 p1 = some r) :
  Calls Try.prog 152 [v0_1,vT p1].toArray w0 (fun en w'=>∃ v,en = .returned v ∧ (v = (vT r) ∧ Kept (Old w0) w0 w')):=by
 refine ZB (n:=9) Try.func152 rfl rfl (nbl rfl) rfl ?_
 intro a hE
 have hM:=M.start w0
 unfold Yj at hF
 refine Zc (Ze hE Za ld rfl fun a hE=>Zf (Zc (Zd hE Za ld rfl fun a hE=>Zd hE Za ld rfl ?_))); intro a hE
 obtain ⟨r1,e2,hF⟩:=bind_some hF
 refine Zt hE Za ld rfl cb158 (US _ p0 v0_1 (hM.rdo hv0_1) p1 r1 e2) ?_
 rintro v w a ⟨rfl,hK⟩ hE
 have hM:=hM.keep hK
 refine Zi hE Za ld rfl rfl rfl fun a hE=>Ze hE Za ld rfl fun a hE=>Zf ?_
 have hr:=Option.some.inj hF
 subst hr
 exact wp_ret (Zx hE rfl (Zs hE rfl) ⟨_,rfl,rfl,hM.kept⟩)
def YA (p0 : (Vector UInt8 256)) (s8 : (Vector Bool 256) × Int) : Option (Fl ((Vector Bool 256) × Int) (Vector Bool 256)) :=
 if (decide (s8.2 < 256)) = true then ((Zy p0 s8.2).bind fun x13=>(Zy s8.1 (bI x13)).bind fun x17=>some (Fl.nx ((s8.1.setIfInBounds ((bI x13)).toNat true),wr (s8.2 + 1)))) else (some (Fl.ex s8.1))
def Xj (p0 : (Vector UInt8 256)) : Option (Bool) :=
 (ZE (YA p0) ((Vector.replicate 256 false),0)).bind fun j5=>(slc j5.toList (0 : Int) (256 : Int)).bind fun l20=>(Yj l20 false).bind fun r23=>some (!r23)
theorem Ts (w0 : World) (p0 : (Vector UInt8 256)) (r : Bool) (hF : Xj p0 = some r) :
  Calls Try.prog 123 [(Value.agg (enc p0).toArray)].toArray w0 (fun en w'=>∃ v,en = .returned v ∧ (v = (vT r) ∧ Kept (Old w0) w0 w')):=by
 refine ZB (n:=17) Try.func123 rfl rfl (nbl rfl) rfl ?_
 intro a hE
 have hM:=M.start w0
 unfold Xj at hF
 refine Zc (ZZ (cs:=enc p0) hE hM Za ld rfl rfl fun b1 w a hM hE=>Ze hE Za ld rfl fun a hE=>Zf (Zc (XV (parts:=[]) (vs:=[]) (cs:=enc (Vector.replicate 256 false)) hE Za ld rfl rfl V4 rfl ty4 Y7 fun a hE=>ZH hE hM Za ld V4 fun b3 w a hM hE=>Zo (seg:=enc (Vector.replicate 256 false)) (cs':=enc (Vector.replicate 256 false)) hE hM Za rfl rfl rfl V4 (Flat.len _) (zle flq) (Flat.cell _) (Zr flq) fun w a hM hE=>Zf (wp_seq (Zc (Zn (cs:=enc p0) hE Za ld rfl Vq rfl (hM.rawAt (pre:=[_])) (Flat.len _) fun a hE=>Zd hE Za ld rfl fun a hE=>Zf ?_))))))
 obtain ⟨j5,hl6,hF7⟩:=bind_some hF
 refine ZL (fun a w=>Env 17 a [(3,(ptr b3 0))] ∧ M (Old w0) w0 w [raw b3 (enc j5)]) ?_ ?_
 ·skip
  refine wp_block ?_
  have hM:=M.fst (l:=[_]) hM
  refine ZF (fun (s8 : (Vector Bool 256) × Int) a w=>Env 17 a [(3,(ptr b3 0)),(7,(Value.agg (enc p0).toArray)),(8,vI s8.2)] ∧ M (Old w0) w0 w [raw b3 (enc s8.1)]) hl6 ⟨hE.sub ⟨rfl,rfl,rfl,trivial⟩,hM⟩ ?_
  rintro s8 a w ⟨hE,hM⟩ o11 hs9 hx10
  unfold YA at hs9
  refine Zc (Zi hE Za ld rfl rfl rfl fun a hE=>Zf (wp_seq ?_))
  refine Zq hE rfl ?_ ?_
  ·intro hb12
   have hs9:=Zu hs9 hb12
   refine wp_skip (Zw (wp_seq (wp_block (Zc ?_))))
   obtain ⟨x13,hi15,hs9⟩:=bvx hs9
   refine UC hE Za ld rfl rfl Try.underlying49 ty5 rfl rfl hi15 rfl fun a hE=>Ze hE Za ld rfl fun a hE=>Zf (wp_region_lit (Zd hE Za ld rfl ?_)); intro a hE
   obtain ⟨x17,hi16,hs9⟩:=bvx hs9
   refine Zg hE Za ld rfl rfl Try.underlying117 ty4 hi16.1 fun a hE=>Zo (seg:=[vT true]) (cs':=enc (s8.1.setIfInBounds ((bI x13)).toNat true)) hE hM Za rfl rfl rfl ty4 rfl (ZG (v:=s8.1) (x:=true) hi16.1) (Flat.cell (true : Bool)) (Zz (v:=s8.1) (x:=true) hi16.1) fun w a hM hE=>Zh (Z9 (Zw (wp_region_lit (Zi hE Za ld rfl rfl rfl fun a hE=>Zd hE Za ld rfl fun a hE=>Zh (Zj ?_)))))
   exact ⟨_,(ois hs9),hE.sub ⟨rfl,rfl,rfl,trivial⟩,hM⟩
  ·intro hb12
   have hs9:=Zv hs9 hb12
   refine wp_exit (Zm (Zm (Yf ?_)))
   have ht19:=hx10 _ (ois hs9)
   subst ht19
   refine Zj ?_
   exact ⟨hE.sub ⟨rfl,trivial⟩,hM⟩
 ·skip
  rintro a w ⟨hE,hM⟩
  refine Zw (Zc ?_)
  obtain ⟨l20,e21,hF7⟩:=bind_some hF7
  have hb22:=J7 e21 -- ^
  refine T6 (N:=256) hE Za ld rfl rfl rfl rfl rfl Try.underlying117 ty4 hb22 ?_; intro a hE
  obtain ⟨r23,e24,hF7⟩:=bind_some hF7
  refine Zt hE Za ld rfl cb152 (Uu _ l20 (WF (.slice (some ⟨b3,0,none⟩) 256 256) ((0 : Int)).toNat ((256 : Int)).toNat 1) (K7 (At.sat (hM.rawAt (pre:=[])) (by simp) (by decide)) e21) false r23 e24) ?_
  rintro v w a ⟨rfl,hK⟩ hE
  have hM:=hM.keep hK
  refine Vf hE Za ld rfl fun a hE=>Ze hE Za ld rfl fun a hE=>Zf ?_
  have hr:=Option.some.inj hF7
  subst hr
  have hM:=M.fst (l:=[]) hM
  exact wp_ret (Zx hE rfl (Zs hE rfl) ⟨_,rfl,rfl,hM.kept⟩)
def VI (s8 : (Vector (Vector UInt8 4) 4) × Int) : Option (Fl ((Vector (Vector UInt8 4) 4) × Int) (Vector (Vector UInt8 4) 4)) :=
 if (decide (s8.2 < 4)) = true then ((Zy s8.1 s8.2).bind fun x14=>(Zy x14 s8.2).bind fun x17=>some (Fl.nx ((s8.1.setIfInBounds (s8.2).toNat (x14.setIfInBounds (s8.2).toNat 1)),wr (s8.2 + 1)))) else (some (Fl.ex s8.1))
def Wb : Option ((Vector (Vector UInt8 4) 4)) :=
 (ZE (VI) ((Vector.replicate 4 (Vector.replicate 4 (0 : UInt8))),0)).bind fun j5=>some j5
theorem Qr (w0 : World)  (r : (Vector (Vector UInt8 4) 4)) (hF : Wb  = some r) :
  Calls Try.prog 153 [].toArray w0 (fun en w'=>∃ v,en = .returned v ∧ (v = (Value.agg (enc r).toArray) ∧ Kept (Old w0) w0 w')):=by
 refine ZB (n:=13) Try.func153 rfl rfl (nbl rfl) rfl ?_
 intro a hE
 have hM:=M.start w0
 unfold Wb at hF
 refine Zc (ZH hE hM Za ld YM fun b1 w a hM hE=>Zf (Zc (XV (parts:=[]) (vs:=[]) (cs:=enc (Vector.replicate 4 (Vector.replicate 4 (0 : UInt8)))) hE Za ld rfl rfl YM rfl Z7 Y7 fun a hE=>ZH hE hM Za ld YM fun b3 w a hM hE=>Zo (seg:=enc (Vector.replicate 4 (Vector.replicate 4 (0 : UInt8)))) (cs':=enc (Vector.replicate 4 (Vector.replicate 4 (0 : UInt8)))) hE hM Za rfl rfl rfl YM (Flat.len _) (zle flq) (Flat.cell _) (Zr flq) fun w a hM hE=>Zf (wp_seq (Zc (Zd hE Za ld rfl fun a hE=>Zf ?_))))))
 obtain ⟨j5,hl6,hF7⟩:=bind_some hF
 refine ZL (fun a w=>Env 13 a [(0,(ptr b1 0)),(1,(ptr b3 0))] ∧ M (Old w0) w0 w [raw b3 (enc j5),raw b1 (enc (Vector.replicate 4 (Vector.replicate 4 (0 : UInt8))))]) ?_ ?_
 ·skip
  refine wp_block ?_
  refine ZF (fun (s8 : (Vector (Vector UInt8 4) 4) × Int) a w=>Env 13 a [(0,(ptr b1 0)),(1,(ptr b3 0)),(4,vI s8.2)] ∧ M (Old w0) w0 w [raw b3 (enc s8.1),raw b1 (enc (Vector.replicate 4 (Vector.replicate 4 (0 : UInt8))))]) hl6 ⟨hE.sub ⟨rfl,rfl,rfl,trivial⟩,hM⟩ ?_
  rintro s8 a w ⟨hE,hM⟩ o11 hs9 hx10
  unfold VI at hs9
  refine Zc (Zi hE Za ld rfl rfl rfl fun a hE=>Zf (wp_seq ?_))
  refine Zq hE rfl ?_ ?_
  ·intro hb12
   have hs9:=Zu hs9 hb12
   refine wp_skip (Zw (wp_seq (wp_block (Zc (Zd hE Za ld rfl fun a hE=>Ze hE Za ld rfl fun a hE=>Zf (wp_region_lit (Zd hE Za ld rfl fun a hE=>Zd hE Za ld rfl ?_))))))); intro a hE
   obtain ⟨x14,hi13,hs9⟩:=bvx hs9
   refine Zg hE Za ld rfl rfl Try.underlying50 Z7 hi13.1 ?_; intro a hE
   obtain ⟨x17,hi16,hs9⟩:=bvx hs9
   refine Zg hE Za ld rfl rfl Try.underlying42 ty5 hi16.1 fun a hE=>Zo (seg:=[vB 1]) (cs':=enc (s8.1.setIfInBounds (s8.2).toNat (x14.setIfInBounds (s8.2).toNat 1))) hE hM Za rfl rfl rfl ty5 rfl (Wu (o':=0 + (s8.2).toNat * 1) hi13 (ZG (v:=x14) (x:=1) hi16.1) (by first | omega | (simp only [Flat.n] <;> omega))) (Flat.cell (1 : UInt8)) (YW (o':=0 + (s8.2).toNat * 1) hi13 (ZG (v:=x14) (x:=1) hi16.1) (Zz (v:=x14) (x:=1) hi16.1) (by first | omega | (simp only [Flat.n] <;> omega))) fun w a hM hE=>Zh (Z9 (Zw (wp_region_lit (Zi hE Za ld rfl rfl rfl fun a hE=>Zd hE Za ld rfl fun a hE=>Zh (Zj ?_)))))
   exact ⟨_,(ois hs9),hE.sub ⟨rfl,rfl,rfl,trivial⟩,hM⟩
  ·intro hb12
   have hs9:=Zv hs9 hb12
   refine wp_exit (Zm (Zm (Yf ?_)))
   have ht19:=hx10 _ (ois hs9)
   subst ht19
   refine Zj ?_
   exact ⟨hE.sub ⟨rfl,rfl,trivial⟩,hM⟩
 ·skip
  rintro a w ⟨hE,hM⟩
  refine Zw (Zc (Zn (cs:=enc j5) hE Za ld rfl YM rfl (hM.rawAt (pre:=[])) (Flat.len _) ?_)); intro a hE
  have hM:=hM.pull (pre:=[_])
  refine Zo (seg:=enc j5) (cs':=enc j5) hE hM Za rfl rfl rfl YM (Flat.len _) (zle flq) (Flat.cell _) (Zr flq) fun w a hM hE=>Zf ?_
  have hr:=Option.some.inj hF7
  subst hr
  have hq20 : Xp Try.prog _ _ (.cell 0 50) _:=Ya hE rfl YM rfl (hM.rawAt (pre:=[])) (Flat.len _) rfl
  have hM:=M.fst (l:=[]) hM
  exact wp_ret (Zx hE rfl hq20 ⟨_,rfl,rfl,hM.kept⟩)
def YR (p1 : UInt8) (p2 : UInt8) (s4 : Int × Int) : Option (Fl (Int × Int) Int) :=
 if (decide (s4.2 < 8)) = true then (((Wm s4.2).bind fun _=>(if (((HN p2 s4.2) &&& 1) == 1) = true then ((Wm s4.2).bind fun _=>some (JS s4.1 (QM (bI p1) s4.2))) else (some s4.1) : Option (Int)).bind fun j13=>some j13 : Option (Int)).bind fun j9=>some (Fl.nx (j9,wr (s4.2 + 1)))) else (some (Fl.ex s4.1))
def ZV (p0 : Int) (p1 : UInt8) (p2 : UInt8) : Option (UInt8) :=
 (ZE (YR p1 p2) (0,0)).bind fun j1=>(W8 j1 p0 8).bind fun r22=>some (ZI r22)
theorem Yr (w0 : World) (p0 : Int) (p1 : UInt8) (p2 : UInt8) (r : UInt8) (hF : ZV p0 p1 p2 = some r) :
  Calls Try.prog 144 [vI p0,vB p1,vB p2].toArray w0 (fun en w'=>∃ v,en = .returned v ∧ (v = (vB r) ∧ Kept (Old w0) w0 w')):=by
 refine ZB (n:=28) Try.func144 rfl rfl (nbl rfl) rfl ?_
 intro a hE
 have hM:=M.start w0
 unfold ZV at hF
 refine Zc (Ze hE Za ld rfl fun a hE=>Zf (Zc (Ze hE Za ld rfl fun a hE=>Zf (wp_seq (Zc (Zd hE Za ld rfl fun a hE=>Zf ?_))))))
 obtain ⟨j1,hl2,hF3⟩:=bind_some hF
 refine ZL (fun a w=>Env 28 a [(0,vI p0),(7,vI j1)] ∧ M (Old w0) w0 w []) ?_ ?_
 ·skip
  refine wp_block ?_
  refine ZF (fun (s4 : Int × Int) a w=>Env 28 a [(0,vI p0),(1,vB p1),(2,vB p2),(7,vI s4.1),(9,vI s4.2)] ∧ M (Old w0) w0 w []) hl2 ⟨hE.sub ⟨rfl,rfl,rfl,rfl,rfl,trivial⟩,hM⟩ ?_
  rintro s4 a w ⟨hE,hM⟩ o7 hs5 hx6
  unfold YR at hs5
  refine Zc (Zi hE Za ld rfl rfl rfl fun a hE=>Zf (wp_seq ?_))
  refine Zq hE rfl ?_ ?_
  ·intro hb8
   have hs5:=Zu hs5 hb8
   refine wp_skip (Zw ?_)
   obtain ⟨j9,hl10,hF11⟩:=bind_some hs5
   refine ZM (fun a w=>Env 28 a [(0,vI p0),(1,vB p1),(2,vB p2),(7,vI j9),(9,vI s4.2)] ∧ M (Old w0) w0 w []) ?_ ?_
   ·skip
    refine wp_block (Zc (Zd hE Za ld rfl fun a hE=>Ze hE Za ld rfl fun a hE=>Zf (Zc (Zd hE Za ld rfl fun a hE=>Zd hE Za ld rfl ?_)))); intro a hE
    obtain ⟨_,e12,hl10⟩:=bind_some hl10
    have e12:=Vl e12
    refine H8 hE Za ld rfl rfl (bB_shr _ _ e12) fun a hE=>Zi hE Za ld rfl rfl (bB_and (HN p2 s4.2) 1) fun a hE=>Zi hE Za ld rfl rfl (KQ ((HN p2 s4.2) &&& 1) 1) fun a hE=>Zf ?_
    obtain ⟨j13,hl14,hF15⟩:=bind_some hl10
    refine ZL (fun a w=>Env 28 a [(0,vI p0),(1,vB p1),(2,vB p2),(7,vI j13),(9,vI s4.2)] ∧ M (Old w0) w0 w []) ?_ ?_
    ·skip
     refine Zq hE rfl ?_ ?_
     ·intro hb16
      have hl14:=Zu hl14 hb16
      refine wp_region_lit (Zd hE Za ld rfl fun a hE=>Zd hE Za ld rfl fun a hE=>Vc hE Za ld rfl Try.underlying5 Try.underlying2 ?_); intro a hE
      rw [QZ] at hE
      refine Zd hE Za ld rfl ?_; intro a hE
      obtain ⟨_,e17,hl14⟩:=bind_some hl14
      have e17:=Vl e17
      refine H8 hE Za ld rfl rfl (Ky _ _ e17) fun a hE=>Zi hE Za ld rfl rfl rfl fun a hE=>Ze hE Za ld rfl fun a hE=>Zh ?_
      have ht18:=Option.some.inj hl14
      subst ht18
      refine Zj ?_
      exact ⟨hE.sub ⟨rfl,rfl,rfl,rfl,rfl,trivial⟩,hM⟩
     ·intro hb16
      have hl14:=Zv hl14 hb16
      refine wp_skip ?_
      have ht19:=Option.some.inj hl14
      subst ht19
      refine Zj ?_
      exact ⟨hE.sub ⟨rfl,rfl,rfl,rfl,rfl,trivial⟩,hM⟩
    ·skip
     rintro a w ⟨hE,hM⟩
     refine Z9 ?_
     have ht20:=Option.some.inj hF15
     subst ht20
     refine Zj ?_
     exact ⟨hE.sub ⟨rfl,rfl,rfl,rfl,rfl,trivial⟩,hM⟩
   ·skip
    rintro a w ⟨hE,hM⟩
    refine wp_region_lit (Zi hE Za ld rfl rfl rfl fun a hE=>Zd hE Za ld rfl fun a hE=>Zh (Zj ?_))
    exact ⟨_,(ois hF11),hE.sub ⟨rfl,rfl,rfl,rfl,rfl,trivial⟩,hM⟩
  ·intro hb8
   have hs5:=Zv hs5 hb8
   refine wp_exit (Zm (Zm (Yf ?_)))
   have ht21:=hx6 _ (ois hs5)
   subst ht21
   refine Zj ?_
   exact ⟨hE.sub ⟨rfl,rfl,trivial⟩,hM⟩
 ·skip
  rintro a w ⟨hE,hM⟩
  refine Zw (Zc (Zd hE Za ld rfl fun a hE=>Zd hE Za ld rfl ?_)); intro a hE
  obtain ⟨r22,e23,hF3⟩:=bind_some hF3
  refine Zt hE Za ld rfl cb98 (Q9 _ j1 p0 8 r22 e23) ?_
  rintro v w a ⟨rfl,hK⟩ hE
  have hM:=hM.keep hK
  refine Vc hE Za ld rfl Try.underlying2 Try.underlying5 ?_; intro a hE
  rw [Xs] at hE
  refine Ze hE Za ld rfl fun a hE=>Zf ?_
  have hr:=Option.some.inj hF3
  subst hr
  exact wp_ret (Zx hE rfl (Zs hE rfl) ⟨_,rfl,rfl,hM.kept⟩)
def Wq (p0 : Int) (s4 : UInt8 × Int × UInt8) : Option (Fl (UInt8 × Int × UInt8) UInt8) :=
 if (decide (s4.2.1 > 0)) = true then (((if ((Int.tmod s4.2.1 2) == 1) = true then ((ZV p0 s4.2.2 s4.1).bind fun r16=>some r16) else (some s4.2.2) : Option (UInt8)).bind fun j12=>(ZV p0 s4.1 s4.1).bind fun r20=>some (r20,j12) : Option (UInt8 × UInt8)).bind fun j9=>some (Fl.nx (j9.1,wr (Int.tdiv s4.2.1 2),j9.2))) else (some (Fl.ex s4.2.2))
def Xb (p0 : Int) (p1 : UInt8) (p2 : Int) : Option (UInt8) :=
 (ZE (Wq p0) (p1,p2,1)).bind fun j1=>some j1
theorem TW (w0 : World) (p0 : Int) (p1 : UInt8) (p2 : Int) (r : UInt8) (hF : Xb p0 p1 p2 = some r) :
  Calls Try.prog 159 [vI p0,vB p1,vI p2].toArray w0 (fun en w'=>∃ v,en = .returned v ∧ (v = (vB r) ∧ Kept (Old w0) w0 w')):=by
 refine ZB (n:=24) Try.func159 rfl rfl (nbl rfl) rfl ?_
 intro a hE
 have hM:=M.start w0
 unfold Xb at hF
 refine Zc (Ze hE Za ld rfl fun a hE=>Zf (Zc (Ze hE Za ld rfl fun a hE=>Zf ?_)))
 obtain ⟨j1,hl2,hF3⟩:=bind_some hF
 refine ZM (fun a w=>Env 24 a [(7,vB j1)] ∧ M (Old w0) w0 w []) ?_ ?_
 ·skip
  refine wp_block ?_
  refine ZF (fun (s4 : UInt8 × Int × UInt8) a w=>Env 24 a [(0,vI p0),(1,vB s4.1),(2,vI s4.2.1),(7,vB s4.2.2)] ∧ M (Old w0) w0 w []) hl2 ⟨hE.sub ⟨rfl,rfl,rfl,rfl,trivial⟩,hM⟩ ?_
  rintro s4 a w ⟨hE,hM⟩ o7 hs5 hx6
  unfold Wq at hs5
  refine wp_seq (Zc (Zd hE Za ld rfl fun a hE=>Zi hE Za ld rfl rfl rfl fun a hE=>Zf ?_))
  refine Zq hE rfl ?_ ?_
  ·intro hb8
   have hs5:=Zu hs5 hb8
   refine wp_skip (Zw ?_)
   obtain ⟨j9,hl10,hF11⟩:=bind_some hs5
   refine ZM (fun a w=>Env 24 a [(0,vI p0),(1,vB j9.1),(2,vI s4.2.1),(7,vB j9.2)] ∧ M (Old w0) w0 w []) ?_ ?_
   ·skip
    refine wp_block ?_
    obtain ⟨j12,hl13,hF14⟩:=bind_some hl10
    refine ZM (fun a w=>Env 24 a [(0,vI p0),(1,vB s4.1),(2,vI s4.2.1),(7,vB j12)] ∧ M (Old w0) w0 w []) ?_ ?_
    ·skip
     refine Zc (Zd hE Za ld rfl fun a hE=>Zi hE Za ld rfl rfl (JX _ _ (by decide)) fun a hE=>Zi hE Za ld rfl rfl rfl fun a hE=>Zf ?_)
     refine Zq hE rfl ?_ ?_
     ·intro hb15
      have hl13:=Zu hl13 hb15
      refine wp_region_lit (Zd hE Za ld rfl fun a hE=>Zd hE Za ld rfl fun a hE=>Zd hE Za ld rfl ?_); intro a hE
      obtain ⟨r16,e17,hl13⟩:=bind_some hl13
      refine Zt hE Za ld rfl Q2 (Yr _ p0 s4.2.2 s4.1 r16 e17) ?_
      rintro v w a ⟨rfl,hK⟩ hE
      have hM:=hM.keep hK
      refine Ze hE Za ld rfl fun a hE=>Zh ?_
      have ht18:=Option.some.inj hl13
      subst ht18
      refine Zj ?_
      exact ⟨hE.sub ⟨rfl,rfl,rfl,rfl,trivial⟩,hM⟩
     ·intro hb15
      have hl13:=Zv hl13 hb15
      refine wp_skip ?_
      have ht19:=Option.some.inj hl13
      subst ht19
      refine Zj ?_
      exact ⟨hE.sub ⟨rfl,rfl,rfl,rfl,trivial⟩,hM⟩
    ·skip
     rintro a w ⟨hE,hM⟩
     refine wp_region_lit (Zd hE Za ld rfl fun a hE=>Zd hE Za ld rfl fun a hE=>Zd hE Za ld rfl ?_); intro a hE
     obtain ⟨r20,e21,hF14⟩:=bind_some hF14
     refine Zt hE Za ld rfl Q2 (Yr _ p0 s4.1 s4.1 r20 e21) ?_
     rintro v w a ⟨rfl,hK⟩ hE
     have hM:=hM.keep hK
     refine Ze hE Za ld rfl fun a hE=>Zh (Z9 ?_)
     have ht22:=Option.some.inj hF14
     subst ht22
     refine Zj ?_
     exact ⟨hE.sub ⟨rfl,rfl,rfl,rfl,trivial⟩,hM⟩
   ·skip
    rintro a w ⟨hE,hM⟩
    refine wp_region_lit (Zd hE Za ld rfl fun a hE=>Zi hE Za ld rfl rfl (JF _ _ (by decide)) fun a hE=>Ze hE Za ld rfl fun a hE=>Zh (Zj ?_))
    exact ⟨_,(ois hF11),hE.sub ⟨rfl,rfl,rfl,rfl,trivial⟩,hM⟩
  ·intro hb8
   have hs5:=Zv hs5 hb8
   refine wp_exit (Zm (Zm (Yf ?_)))
   have ht23:=hx6 _ (ois hs5)
   subst ht23
   refine Zj ?_
   exact ⟨hE.sub ⟨rfl,trivial⟩,hM⟩
 ·skip
  rintro a w ⟨hE,hM⟩
  refine Zc (Zd hE Za ld rfl fun a hE=>Ze hE Za ld rfl fun a hE=>Zf ?_)
  have hr:=Option.some.inj hF3
  subst hr
  exact wp_ret (Zx hE rfl (Zs hE rfl) ⟨_,rfl,rfl,hM.kept⟩)
def Xi (p0 : Int) (p1 : UInt8) : Option (UInt8) :=
 (Xb p0 p1 254).bind fun r1=>some r1
theorem Tq (w0 : World) (p0 : Int) (p1 : UInt8) (r : UInt8) (hF : Xi p0 p1 = some r) :
  Calls Try.prog 154 [vI p0,vB p1].toArray w0 (fun en w'=>∃ v,en = .returned v ∧ (v = (vB r) ∧ Kept (Old w0) w0 w')):=by
 refine ZB (n:=8) Try.func154 rfl rfl (nbl rfl) rfl ?_
 intro a hE
 have hM:=M.start w0
 unfold Xi at hF
 refine Zc (Ze hE Za ld rfl fun a hE=>Zf (Zc (Zd hE Za ld rfl fun a hE=>Zd hE Za ld rfl ?_))); intro a hE
 obtain ⟨r1,e2,hF⟩:=bind_some hF
 refine Zt hE Za ld rfl cb159 (TW _ p0 p1 254 r1 e2) ?_
 rintro v w a ⟨rfl,hK⟩ hE
 have hM:=hM.keep hK
 refine Ze hE Za ld rfl fun a hE=>Zf ?_
 have hr:=Option.some.inj hF
 subst hr
 exact wp_ret (Zx hE rfl (Zs hE rfl) ⟨_,rfl,rfl,hM.kept⟩)
def Va (s13 : (Vector (Vector UInt8 4) 4) × (Vector (Vector UInt8 4) 4) × Int × UInt8) (s21 : Int) : Option (Fl Int Int) :=
 (if (decide (s21 < 4)) = true then ((Zy s13.1 s21).bind fun x30=>(Zy x30 s13.2.2.1).bind fun x33=>some (x33 == 0)) else (some false) : Option (Bool)).bind fun j25=>if j25 = true then (some (Fl.nx (wr (s21 + 1)))) else (some (Fl.ex s21))
def Xl (p0 : Int) (s13 : (Vector (Vector UInt8 4) 4) × (Vector (Vector UInt8 4) 4) × Int × UInt8) (r90 : UInt8) (s95 : (Vector (Vector UInt8 4) 4) × (Vector (Vector UInt8 4) 4) × Int) : Option (Fl ((Vector (Vector UInt8 4) 4) × (Vector (Vector UInt8 4) 4) × Int) ((Vector (Vector UInt8 4) 4) × (Vector (Vector UInt8 4) 4))) :=
 if (decide (s95.2.2 < 4)) = true then ((Zy s95.1 s13.2.2.1).bind fun x102=>(Zy x102 s95.2.2).bind fun x105=>(ZV p0 x105 r90).bind fun r107=>(Zy s95.2.1 s13.2.2.1).bind fun x110=>(Zy x110 s95.2.2).bind fun x113=>(ZV p0 x113 r90).bind fun r115=>(Zy s95.1 s13.2.2.1).bind fun x118=>(Zy x118 s95.2.2).bind fun x121=>(Zy s95.2.1 s13.2.2.1).bind fun x124=>(Zy x124 s95.2.2).bind fun x127=>some (Fl.nx ((s95.1.setIfInBounds (s13.2.2.1).toNat (x118.setIfInBounds (s95.2.2).toNat r107)),(s95.2.1.setIfInBounds (s13.2.2.1).toNat (x124.setIfInBounds (s95.2.2).toNat r115)),wr (s95.2.2 + 1)))) else (some (Fl.ex (s95.1,s95.2.1)))
def Xk (p0 : Int) (s13 : (Vector (Vector UInt8 4) 4) × (Vector (Vector UInt8 4) 4) × Int × UInt8) (s133 : (Vector (Vector UInt8 4) 4) × (Vector (Vector UInt8 4) 4) × Int) (x145 : UInt8) (s160 : (Vector (Vector UInt8 4) 4) × (Vector (Vector UInt8 4) 4) × Int) : Option (Fl ((Vector (Vector UInt8 4) 4) × (Vector (Vector UInt8 4) 4) × Int) ((Vector (Vector UInt8 4) 4) × (Vector (Vector UInt8 4) 4))) :=
 if (decide (s160.2.2 < 4)) = true then (((Zy s160.1 s133.2.2).bind fun x170=>(Zy x170 s160.2.2).bind fun x173=>(Zy s160.1 s13.2.2.1).bind fun x176=>(Zy x176 s160.2.2).bind fun x179=>(ZV p0 x145 x179).bind fun r181=>(Zy s160.1 s133.2.2).bind fun x184=>(Zy x184 s160.2.2).bind fun x187=>some (s160.1.setIfInBounds (s133.2.2).toNat (x184.setIfInBounds (s160.2.2).toNat (x173 ^^^ r181))) : Option ((Vector (Vector UInt8 4) 4))).bind fun j165=>(Zy s160.2.1 s133.2.2).bind fun x192=>(Zy x192 s160.2.2).bind fun x195=>(Zy s160.2.1 s13.2.2.1).bind fun x198=>(Zy x198 s160.2.2).bind fun x201=>(ZV p0 x145 x201).bind fun r203=>(Zy s160.2.1 s133.2.2).bind fun x206=>(Zy x206 s160.2.2).bind fun x209=>some (Fl.nx (j165,(s160.2.1.setIfInBounds (s133.2.2).toNat (x206.setIfInBounds (s160.2.2).toNat (x195 ^^^ r203))),wr (s160.2.2 + 1)))) else (some (Fl.ex (s160.1,s160.2.1)))
def Xm (p0 : Int) (s13 : (Vector (Vector UInt8 4) 4) × (Vector (Vector UInt8 4) 4) × Int × UInt8) (s133 : (Vector (Vector UInt8 4) 4) × (Vector (Vector UInt8 4) 4) × Int) : Option (Fl ((Vector (Vector UInt8 4) 4) × (Vector (Vector UInt8 4) 4) × Int) ((Vector (Vector UInt8 4) 4) × (Vector (Vector UInt8 4) 4))) :=
 if (decide (s133.2.2 < 4)) = true then (((Zy s133.1 s133.2.2).bind fun x142=>(Zy x142 s13.2.2.1).bind fun x145=>(if (s133.2.2 != s13.2.2.1) = true then (some (x145 != 0)) else (some false) : Option (Bool)).bind fun j147=>(if j147 = true then ((ZE (Xk p0 s13 s133 x145) (s133.1,s133.2.1,0)).bind fun j157=>some (j157.1,j157.2)) else (some (s133.1,s133.2.1)) : Option ((Vector (Vector UInt8 4) 4) × (Vector (Vector UInt8 4) 4))).bind fun j153=>some (j153.1,j153.2) : Option ((Vector (Vector UInt8 4) 4) × (Vector (Vector UInt8 4) 4))).bind fun j138=>some (Fl.nx (j138.1,j138.2,wr (s133.2.2 + 1)))) else (some (Fl.ex (s133.1,s133.2.1)))
def Ys (p0 : Int) (s13 : (Vector (Vector UInt8 4) 4) × (Vector (Vector UInt8 4) 4) × Int × UInt8) : Option (Fl ((Vector (Vector UInt8 4) 4) × (Vector (Vector UInt8 4) 4) × Int × UInt8) (Fl ((Vector (Vector UInt8 4) 4) × UInt8) (UInt8 × (Vector (Vector UInt8 4) 4)))) :=
 if (decide (s13.2.2.1 < 4)) = true then ((ZE (Va s13) s13.2.2.1).bind fun j18=>if (j18 == 4) = true then (some (Fl.ex (Fl.ex (0,(Vector.replicate 4 (Vector.replicate 4 (0 : UInt8))))))) else (((Zy s13.1 s13.2.2.1).bind fun x47=>(Zy s13.1 j18).bind fun x50=>(Zy s13.1 j18).bind fun x53=>(Zy (s13.1.setIfInBounds (j18).toNat x47) s13.2.2.1).bind fun x56=>some ((s13.1.setIfInBounds (j18).toNat x47).setIfInBounds (s13.2.2.1).toNat x50) : Option ((Vector (Vector UInt8 4) 4))).bind fun j42=>((Zy s13.2.1 s13.2.2.1).bind fun x64=>(Zy s13.2.1 j18).bind fun x67=>(Zy s13.2.1 j18).bind fun x70=>(Zy (s13.2.1.setIfInBounds (j18).toNat x64) s13.2.2.1).bind fun x73=>some ((s13.2.1.setIfInBounds (j18).toNat x64).setIfInBounds (s13.2.2.1).toNat x67) : Option ((Vector (Vector UInt8 4) 4))).bind fun j59=>(Zy j42 s13.2.2.1).bind fun x77=>(Zy x77 s13.2.2.1).bind fun x80=>(ZV p0 s13.2.2.2 x80).bind fun r82=>(Zy j42 s13.2.2.1).bind fun x85=>(Zy x85 s13.2.2.1).bind fun x88=>(Xi p0 x88).bind fun r90=>(ZE (Xl p0 s13 r90) (j42,j59,0)).bind fun j92=>(ZE (Xm p0 s13) (j92.1,j92.2,0)).bind fun j130=>some (Fl.nx (j130.1,j130.2,wr (s13.2.2.1 + 1),r82)))) else (some (Fl.ex (Fl.nx (s13.2.1,s13.2.2.2))))
def Yx (p0 : Int) (p1 : (Vector (Vector UInt8 4) 4)) : Option (UInt8 × (Vector (Vector UInt8 4) 4)) :=
 (Wb).bind fun r5=>(ZE (Ys p0) (p1,r5,0,1)).bind fun j9=>j9.el (fun s12=>(some (s12.1,s12.2) : Option ((Vector (Vector UInt8 4) 4) × UInt8)).bind fun j217=>some (j217.2,j217.1)) (fun r=>some r)
theorem Uq (w0 : World) (p0 : Int) (p1 : (Vector (Vector UInt8 4) 4)) (r : UInt8 × (Vector (Vector UInt8 4) 4)) (hF : Yx p0 p1 = some r) :
  Calls Try.prog 126 [vI p0,(Value.agg (enc p1).toArray)].toArray w0 (fun en w'=>∃ v,en = .returned v ∧ (v = (Value.tuple [vB r.1,(Value.agg (enc r.2).toArray)].toArray) ∧ Kept (Old w0) w0 w')):=by
 refine ZB (n:=153) Try.func126 rfl rfl (nbl rfl) rfl ?_
 intro a hE
 have hM:=M.start w0
 unfold Yx at hF
 refine Zc (ZZ (cs:=enc p1) hE hM Za ld rfl rfl fun b1 w a hM hE=>Ze hE Za ld rfl fun a hE=>ZH hE hM Za ld YM fun b3 w a hM hE=>Zf (Zc ?_))
 obtain ⟨r5,e6,hF⟩:=bind_some hF
 refine Zt hE Za ld rfl cb153 (Qr _  r5 e6) ?_
 rintro v w a ⟨rfl,hK⟩ hE
 have hM:=hM.keep hK
 refine ZH hE hM Za ld YM fun b7 w a hM hE=>Zo (seg:=enc r5) (cs':=enc r5) hE hM Za rfl rfl rfl YM (Flat.len _) (zle flq) (Flat.cell _) (Zr flq) fun w a hM hE=>Ze hE Za ld rfl fun a hE=>Zf (wp_seq (Zc (Zd hE Za ld rfl fun a hE=>Zf ?_)))
 obtain ⟨j9,hl10,hF11⟩:=bind_some hF
 refine ZL (fun a w=>∃ s12 : (Vector (Vector UInt8 4) 4) × UInt8,j9 = Fl.nx s12 ∧ Env 153 a [(5,(ptr b3 0)),(6,(ptr b7 0)),(7,vB s12.2)] ∧ M (Old w0) w0 w [raw b7 (enc s12.1),raw b3 (enc (Vector.replicate 4 (Vector.replicate 4 (0 : UInt8))))]) ?_ ?_
 ·skip
  refine wp_block ?_
  refine ZF (fun (s13 : (Vector (Vector UInt8 4) 4) × (Vector (Vector UInt8 4) 4) × Int × UInt8) a w=>Env 153 a [(0,vI p0),(3,(ptr b1 0)),(5,(ptr b3 0)),(6,(ptr b7 0)),(7,vB s13.2.2.2),(16,vI s13.2.2.1)] ∧ M (Old w0) w0 w [raw b7 (enc s13.2.1),raw b3 (enc (Vector.replicate 4 (Vector.replicate 4 (0 : UInt8)))),raw b1 (enc s13.1)]) hl10 ⟨hE.sub ⟨rfl,rfl,rfl,rfl,rfl,rfl,trivial⟩,hM⟩ ?_
  rintro s13 a w ⟨hE,hM⟩ o16 hs14 hx15
  unfold Ys at hs14
  refine Zc (Zi hE Za ld rfl rfl rfl fun a hE=>Zf (wp_seq ?_))
  refine Zq hE rfl ?_ ?_
  ·intro hb17
   have hs14:=Zu hs14 hb17
   refine wp_skip (Zw (wp_seq (wp_block (Zc (Zd hE Za ld rfl fun a hE=>Ze hE Za ld rfl fun a hE=>Zf (Zc (Zd hE Za ld rfl fun a hE=>Ze hE Za ld rfl fun a hE=>Zf ?_)))))))
   obtain ⟨j18,hl19,hF20⟩:=bind_some hs14
   refine ZM (fun a w=>Env 153 a [(0,vI p0),(3,(ptr b1 0)),(5,(ptr b3 0)),(6,(ptr b7 0)),(7,vB s13.2.2.2),(8,vI s13.2.2.1),(9,vI j18),(16,vI s13.2.2.1)] ∧ M (Old w0) w0 w [raw b7 (enc s13.2.1),raw b3 (enc (Vector.replicate 4 (Vector.replicate 4 (0 : UInt8)))),raw b1 (enc s13.1)]) ?_ ?_
   ·skip
    refine wp_block ?_
    refine ZF (fun (s21 : Int) a w=>Env 153 a [(0,vI p0),(3,(ptr b1 0)),(5,(ptr b3 0)),(6,(ptr b7 0)),(7,vB s13.2.2.2),(8,vI s13.2.2.1),(9,vI s21),(16,vI s13.2.2.1)] ∧ M (Old w0) w0 w [raw b7 (enc s13.2.1),raw b3 (enc (Vector.replicate 4 (Vector.replicate 4 (0 : UInt8)))),raw b1 (enc s13.1)]) hl19 ⟨hE.sub ⟨rfl,rfl,rfl,rfl,rfl,rfl,rfl,rfl,trivial⟩,hM⟩ ?_
    rintro s21 a w ⟨hE,hM⟩ o24 hs22 hx23
    unfold Va at hs22
    refine wp_seq ?_
    obtain ⟨j25,hl26,hF27⟩:=bind_some hs22
    refine ZM (fun a w=>Env 153 a [(0,vI p0),(3,(ptr b1 0)),(5,(ptr b3 0)),(6,(ptr b7 0)),(7,vB s13.2.2.2),(8,vI s13.2.2.1),(9,vI s21),(16,vI s13.2.2.1),(29,vT j25)] ∧ M (Old w0) w0 w [raw b7 (enc s13.2.1),raw b3 (enc (Vector.replicate 4 (Vector.replicate 4 (0 : UInt8)))),raw b1 (enc s13.1)]) ?_ ?_
    ·skip
     refine wp_region_lit (Zd hE Za ld rfl fun a hE=>Zi hE Za ld rfl rfl rfl fun a hE=>Zd hE Za ld rfl ?_); intro a hE
     refine Xh (decide (s21 < 4)) (fun hb28=>?_) (fun hb28=>?_)
     ·have hl26:=Zu hl26 hb28
      refine Zd hE (Zl hE rfl (lkb rfl hb28)) (by decide) rfl fun a hE=>Zd hE (Zl hE rfl (lkb rfl hb28)) (by decide) rfl ?_; intro a hE
      obtain ⟨x30,hi29,hl26⟩:=bvx hl26
      refine Zg hE (Zl hE rfl (lkb rfl hb28)) (by decide) rfl rfl Try.underlying50 Z7 hi29.1 ?_; intro a hE
      obtain ⟨x33,hi32,hl26⟩:=bvx hl26
      refine Zg hE (Zl hE rfl (lkb rfl hb28)) (by decide) rfl rfl Try.underlying42 ty5 hi32.1 fun a hE=>ZC (v:=(vB x33)) hE (Zl hE rfl (lkb rfl hb28)) (by decide) rfl ty5 rfl (At.vec (At.vec (hM.rawAt (pre:=[_,_])) hi29.2) hi32.2) fun a hE=>Zi hE (Zl hE rfl (lkb rfl hb28)) (by decide) rfl rfl (KQ x33 0) fun a hE=>Z0 hE Za ld (lkb rfl hb28) rfl fun a hE=>Zh ?_
      have ht35:=Option.some.inj hl26
      subst ht35
      refine Zj ?_
      exact ⟨hE.sub ⟨rfl,rfl,rfl,rfl,rfl,rfl,rfl,rfl,rfl,trivial⟩,hM⟩
     ·have hl26:=Zv hl26 hb28
      refine Zp hE rfl (lkb rfl hb28) rfl (by decide) fun a hE=>Zp hE rfl (lkb rfl hb28) rfl (by decide) fun a hE=>Zp hE rfl (lkb rfl hb28) rfl (by decide) fun a hE=>Zp hE rfl (lkb rfl hb28) rfl (by decide) fun a hE=>Zp hE rfl (lkb rfl hb28) rfl (by decide) fun a hE=>Zp hE rfl (lkb rfl hb28) rfl (by decide) fun a hE=>Yb hE Za ld (lkb rfl hb28) rfl fun a hE=>Zh ?_
      have ht36:=Option.some.inj hl26
      subst ht36
      refine Zj ?_
      exact ⟨hE.sub ⟨rfl,rfl,rfl,rfl,rfl,rfl,rfl,rfl,rfl,trivial⟩,hM⟩
    ·skip
     rintro a w ⟨hE,hM⟩
     refine Zq hE rfl ?_ ?_
     ·intro hb37
      have hF27:=Zu hF27 hb37
      refine wp_skip (Zw (wp_block (wp_region_lit (Zd hE Za ld rfl fun a hE=>Zi hE Za ld rfl rfl rfl fun a hE=>Ze hE Za ld rfl fun a hE=>Zh (Z9 (Zj ?_))))))
      exact ⟨_,(ois hF27),hE.sub ⟨rfl,rfl,rfl,rfl,rfl,rfl,rfl,rfl,trivial⟩,hM⟩
     ·intro hb37
      have hF27:=Zv hF27 hb37
      refine wp_exit (Zm (Zm (Yf ?_)))
      have ht38:=hx23 _ (ois hF27)
      subst ht38
      refine Zj ?_
      exact ⟨hE.sub ⟨rfl,rfl,rfl,rfl,rfl,rfl,rfl,rfl,trivial⟩,hM⟩
   ·skip
    rintro a w ⟨hE,hM⟩
    refine wp_seq (Zc (Zd hE Za ld rfl fun a hE=>Zi hE Za ld rfl rfl rfl fun a hE=>Zf ?_))
    refine Zq hE rfl ?_ ?_
    ·intro hb39
     have hF20:=Zu hF20 hb39
     refine Zc (XV (parts:=[]) (vs:=[]) (cs:=enc (Vector.replicate 4 (Vector.replicate 4 (0 : UInt8)))) hE Za ld rfl rfl YM rfl Z7 Y7 fun a hE=>Ze hE Za ld rfl ?_); intro a hE
     have hM:=hM.pull (pre:=[_])
     refine Zo (seg:=enc (Vector.replicate 4 (Vector.replicate 4 (0 : UInt8)))) (cs':=enc (Vector.replicate 4 (Vector.replicate 4 (0 : UInt8)))) hE hM Za rfl rfl rfl YM (Flat.len _) (zle flq) (Flat.cell _) (Zr flq) fun w a hM hE=>Zf ?_
     have ht40:=hx15 _ (ois hF20)
     subst ht40
     have hr:=Option.some.inj hF11
     subst hr
     have hq41 : Xp Try.prog _ _ (.cell 5 50) _:=Ya hE rfl YM rfl (hM.rawAt (pre:=[])) (Flat.len _) rfl
     have hM:=M.fst (l:=[]) hM
     exact wp_ret (ZD (YG (ZD (ZD (YG (ZD (ZD (UP hE rfl (Zs hE rfl) hq41 ⟨_,rfl,rfl,hM.kept⟩))))))))
    ·intro hb39
     have hF20:=Zv hF20 hb39
     refine wp_skip (Zw ?_)
     obtain ⟨j42,hl43,hF44⟩:=bind_some hF20
     refine ZM (fun a w=>Env 153 a [(0,vI p0),(3,(ptr b1 0)),(5,(ptr b3 0)),(6,(ptr b7 0)),(7,vB s13.2.2.2),(8,vI s13.2.2.1),(9,vI j18),(16,vI s13.2.2.1)] ∧ M (Old w0) w0 w [raw b7 (enc s13.2.1),raw b3 (enc (Vector.replicate 4 (Vector.replicate 4 (0 : UInt8)))),raw b1 (enc j42)]) ?_ ?_
     ·skip
      have hM:=hM.pull (pre:=[_,_])
      obtain ⟨x47,hi46,hl43⟩:=bvx hl43
      obtain ⟨x50,hi49,hl43⟩:=bvx hl43
      obtain ⟨x53,hi52,hl43⟩:=bvx hl43
      refine Ut (n:=153) (hd:=[_,_,_,_,_,_,_,_,_,_]) (tl:=[_,_]) Wl rfl rfl [35,36,37,38,39,40,41,42,43,162] (by decide) (fun D u w=>M (Old w0) w0 w ([raw b7 (enc s13.2.1),raw b3 (enc (Vector.replicate 4 (Vector.replicate 4 (0 : UInt8))))] ++ qL ([mkT 9 (raw b1 (enc s13.1)) (raw b1 (enc (s13.1.setIfInBounds (j18).toNat x47)))] : Mk) D u) ∧ GOk ([([],fun us v=>v = (vI j18)),([],fun us v=>v = (vI s13.2.2.1)),([],fun us v=>v = (vI s13.2.2.1)),([],fun us v=>v = (ptr b1 (0 + (s13.2.2.1).toNat * 4))),([],fun us v=>v = (Value.agg (enc x47).toArray)),([],fun us v=>v = (vI j18)),([],fun us v=>v = (ptr b1 (0 + (j18).toNat * 4))),([],fun us v=>v = (Value.agg (enc x50).toArray)),([],fun us v=>v = (ptr b1 (0 + (j18).toNat * 4))),([],fun us v=>True)] : Gs) D u) hE (fun u=>⟨M.qT (M.q0 hM.drew u),Hb⟩) (ZQ (Zb ?_ (Zb ?_ (Zb ?_ (Zb ?_ (Zb ?_ (Zb ?_ (Zb ?_ (Zb ?_ (Zb ?_ (Zb ?_ ZJ))))))))))) ?_
      ·intro a w ux45 D hE hI hD hdc hp
       have hM0:=hI.1
       have hM:=hI.1
       have hM:=hM.togA (pre:=[_,_]) (Bool.eq_false_iff.2 fun hx=>Bool.noConfusion (hD.symm.trans (hdc 9 _ _ rfl (List.mem_of_getElem? (i:=2) rfl) rfl hx)))
       exact Zd hE Za ld rfl fun a hE=>⟨_,_,rfl,hE,M.qKeep hM0 rfl,hI.2.put hD rfl ZO rfl⟩
      ·intro a w ux45 D hE hI hD hdc hp
       have hM0:=hI.1
       exact Zd hE Za ld rfl fun a hE=>⟨_,_,rfl,hE,M.qKeep hM0 rfl,hI.2.put hD rfl ZO rfl⟩
      ·intro a w ux45 D hE hI hD hdc hp
       have hM0:=hI.1
       have hM:=hI.1
       have hM:=hM.togA (pre:=[_,_]) (Bool.eq_false_iff.2 fun hx=>Bool.noConfusion (hD.symm.trans (hdc 9 _ _ rfl (List.mem_of_getElem? (i:=4) rfl) rfl hx)))
       exact Zd hE Za ld rfl fun a hE=>⟨_,_,rfl,hE,M.qKeep hM0 rfl,hI.2.put hD rfl ZO rfl⟩
      ·intro a w ux45 D hE hI hD hdc hp
       have d2 : D 2 = true:=hp 0 _ rfl rfl
       have g2:=hI.2 2 d2 _ rfl
       have f2 : ux45 2 = (vI s13.2.2.1):=g2.2
       have hM0:=hI.1
       have hM:=hI.1
       have hM:=hM.togA (pre:=[_,_]) (Bool.eq_false_iff.2 fun hx=>Bool.noConfusion (hD.symm.trans (hdc 9 _ _ rfl (List.mem_of_getElem? (i:=5) rfl) rfl hx)))
       exact Zg hE Za ld rfl (lk rfl f2) Try.underlying50 Z7 hi46.1 fun a hE=>⟨_,_,rfl,hE,M.qKeep hM0 rfl,hI.2.put hD rfl ZO rfl⟩
      ·intro a w ux45 D hE hI hD hdc hp
       have d3 : D 3 = true:=hp 0 _ rfl rfl
       have g3:=hI.2 3 d3 _ rfl
       have f3 : ux45 3 = (ptr b1 (0 + (s13.2.2.1).toNat * 4)):=g3.2
       have hM0:=hI.1
       have hM:=hI.1
       have hM:=hM.togA (pre:=[_,_]) (Bool.eq_false_iff.2 fun hx=>Bool.noConfusion (hD.symm.trans (hdc 9 _ _ rfl (List.mem_of_getElem? (i:=1) rfl) rfl hx)))
       exact Zn (cs:=enc x47) hE Za ld (lk rfl f3) Z7 rfl (At.vec (hM.rawAt (pre:=[_,_])) hi46.2) (Flat.len _) fun a hE=>⟨_,_,rfl,hE,M.qKeep hM0 rfl,hI.2.put hD rfl ZO rfl⟩
      ·intro a w ux45 D hE hI hD hdc hp
       have hM0:=hI.1
       exact Zd hE Za ld rfl fun a hE=>⟨_,_,rfl,hE,M.qKeep hM0 rfl,hI.2.put hD rfl ZO rfl⟩
      ·intro a w ux45 D hE hI hD hdc hp
       have d5 : D 5 = true:=hp 0 _ rfl rfl
       have g5:=hI.2 5 d5 _ rfl
       have f5 : ux45 5 = (vI j18):=g5.2
       have hM0:=hI.1
       have hM:=hI.1
       have hM:=hM.togA (pre:=[_,_]) (Bool.eq_false_iff.2 fun hx=>Bool.noConfusion (hD.symm.trans (hdc 9 _ _ rfl (List.mem_of_getElem? (i:=8) rfl) rfl hx)))
       exact Zg hE Za ld rfl (lk rfl f5) Try.underlying50 Z7 hi49.1 fun a hE=>⟨_,_,rfl,hE,M.qKeep hM0 rfl,hI.2.put hD rfl ZO rfl⟩
      ·intro a w ux45 D hE hI hD hdc hp
       have d6 : D 6 = true:=hp 0 _ rfl rfl
       have g6:=hI.2 6 d6 _ rfl
       have f6 : ux45 6 = (ptr b1 (0 + (j18).toNat * 4)):=g6.2
       have hM0:=hI.1
       have hM:=hI.1
       have hM:=hM.togA (pre:=[_,_]) (Bool.eq_false_iff.2 fun hx=>Bool.noConfusion (hD.symm.trans (hdc 9 _ _ rfl (List.mem_of_getElem? (i:=9) rfl) rfl hx)))
       exact Zn (cs:=enc x50) hE Za ld (lk rfl f6) Z7 rfl (At.vec (hM.rawAt (pre:=[_,_])) hi49.2) (Flat.len _) fun a hE=>⟨_,_,rfl,hE,M.qKeep hM0 rfl,hI.2.put hD rfl ZO rfl⟩
      ·intro a w ux45 D hE hI hD hdc hp
       have d0 : D 0 = true:=hp 0 _ rfl rfl
       have g0:=hI.2 0 d0 _ rfl
       have f0 : ux45 0 = (vI j18):=g0.2
       have hM0:=hI.1
       have hM:=hI.1
       have hM:=hM.togA (pre:=[_,_]) (Bool.eq_false_iff.2 fun hx=>Bool.noConfusion (hD.symm.trans (hdc 9 _ _ rfl (List.mem_of_getElem? (i:=0) rfl) rfl hx)))
       exact Zg hE Za ld rfl (lk rfl f0) Try.underlying50 Z7 hi52.1 fun a hE=>⟨_,_,rfl,hE,M.qKeep hM0 rfl,hI.2.put hD rfl ZO rfl⟩
      ·intro a w ux45 D hE hI hD hdc hp
       have d4 : D 4 = true:=hp 1 _ rfl rfl
       have g4:=hI.2 4 d4 _ rfl
       have f4 : ux45 4 = (Value.agg (enc x47).toArray):=g4.2
       have d8 : D 8 = true:=hp 0 _ rfl rfl
       have g8:=hI.2 8 d8 _ rfl
       have f8 : ux45 8 = (ptr b1 (0 + (j18).toNat * 4)):=g8.2
       have hM0:=hI.1
       have hM:=(hI.1.togA (pre:=[_,_]) hD).pull (pre:=[_,_])
       exact Zo (seg:=enc x47) (cs':=enc (s13.1.setIfInBounds (j18).toNat x47)) hE hM Za (lk rfl f8) (lk rfl f4) rfl Z7 (Flat.len _) (ZG (v:=s13.1) (x:=x47) hi52.1) (Flat.cell _) (Zz (v:=s13.1) (x:=x47) hi52.1) fun w a hM hE=>⟨undef,_,rfl,Env.dummy hE (by decide),M.qTog (mk1:=[]) (mk2:=[]) hM rfl,hI.2.put hD rfl ZO trivial⟩
      ·intro a w ux45 D hE hI hall
       have hM:=hI.1
       have d0 : D 0 = true:=hall 0 (by decide)
       have d1 : D 1 = true:=hall 1 (by decide)
       have d2 : D 2 = true:=hall 2 (by decide)
       have d3 : D 3 = true:=hall 3 (by decide)
       have d4 : D 4 = true:=hall 4 (by decide)
       have d5 : D 5 = true:=hall 5 (by decide)
       have d6 : D 6 = true:=hall 6 (by decide)
       have d7 : D 7 = true:=hall 7 (by decide)
       have d8 : D 8 = true:=hall 8 (by decide)
       have d9 : D 9 = true:=hall 9 (by decide)
       have f0 : ux45 0 = (vI j18):=(hI.2 0 d0 _ rfl).2
       have f1 : ux45 1 = (vI s13.2.2.1):=(hI.2 1 d1 _ rfl).2
       have f2 : ux45 2 = (vI s13.2.2.1):=(hI.2 2 d2 _ rfl).2
       have f3 : ux45 3 = (ptr b1 (0 + (s13.2.2.1).toNat * 4)):=(hI.2 3 d3 _ rfl).2
       have f4 : ux45 4 = (Value.agg (enc x47).toArray):=(hI.2 4 d4 _ rfl).2
       have f5 : ux45 5 = (vI j18):=(hI.2 5 d5 _ rfl).2
       have f6 : ux45 6 = (ptr b1 (0 + (j18).toNat * 4)):=(hI.2 6 d6 _ rfl).2
       have f7 : ux45 7 = (Value.agg (enc x50).toArray):=(hI.2 7 d7 _ rfl).2
       have f8 : ux45 8 = (ptr b1 (0 + (j18).toNat * 4)):=(hI.2 8 d8 _ rfl).2
       have hM:=hM.togB (pre:=[_,_]) d9
       have hE:=hE.sub (e':=[(36,vI s13.2.2.1),(42,(Value.agg (enc x50).toArray)),(0,vI p0),(3,(ptr b1 0)),(5,(ptr b3 0)),(6,(ptr b7 0)),(7,vB s13.2.2.2),(8,vI s13.2.2.1),(9,vI j18),(16,vI s13.2.2.1),(32,vI j18),(33,(vT (j18 == 4)))]) ⟨lk rfl f1,lk rfl f7,rfl,rfl,rfl,rfl,rfl,rfl,rfl,rfl,rfl,rfl,trivial⟩
       obtain ⟨x56,hi55,hl43⟩:=bvx hl43
       refine Zg hE Za ld rfl rfl Try.underlying50 Z7 hi55.1 ?_; intro a hE
       have hM:=hM.pull (pre:=[_,_])
       refine Zo (seg:=enc x50) (cs':=enc ((s13.1.setIfInBounds (j18).toNat x47).setIfInBounds (s13.2.2.1).toNat x50)) hE hM Za rfl rfl rfl Z7 (Flat.len _) (ZG (v:=(s13.1.setIfInBounds (j18).toNat x47)) (x:=x50) hi55.1) (Flat.cell _) (Zz (v:=(s13.1.setIfInBounds (j18).toNat x47)) (x:=x50) hi55.1) fun w a hM hE=>Zh ?_
       have ht58:=Option.some.inj hl43
       subst ht58
       refine Zj ?_
       have hM:=(hM.pull (pre:=[_,_])).pull (pre:=[_,_])
       exact ⟨hE.sub ⟨rfl,rfl,rfl,rfl,rfl,rfl,rfl,rfl,trivial⟩,hM⟩
     ·skip
      rintro a w ⟨hE,hM⟩
      obtain ⟨j59,hl60,hF61⟩:=bind_some hF44
      refine ZM (fun a w=>Env 153 a [(0,vI p0),(3,(ptr b1 0)),(5,(ptr b3 0)),(6,(ptr b7 0)),(7,vB s13.2.2.2),(8,vI s13.2.2.1),(16,vI s13.2.2.1)] ∧ M (Old w0) w0 w [raw b7 (enc j59),raw b3 (enc (Vector.replicate 4 (Vector.replicate 4 (0 : UInt8)))),raw b1 (enc j42)]) ?_ ?_
      ·skip
       obtain ⟨x64,hi63,hl60⟩:=bvx hl60
       obtain ⟨x67,hi66,hl60⟩:=bvx hl60
       obtain ⟨x70,hi69,hl60⟩:=bvx hl60
       refine Ut (n:=153) (hd:=[_,_,_,_,_,_,_,_,_,_]) (tl:=[_,_]) Wl rfl rfl [45,46,47,48,49,50,51,52,53,162] (by decide) (fun D u w=>M (Old w0) w0 w ([raw b3 (enc (Vector.replicate 4 (Vector.replicate 4 (0 : UInt8)))),raw b1 (enc j42)] ++ qL ([mkT 9 (raw b7 (enc s13.2.1)) (raw b7 (enc (s13.2.1.setIfInBounds (j18).toNat x64)))] : Mk) D u) ∧ GOk ([([],fun us v=>v = (vI j18)),([],fun us v=>v = (vI s13.2.2.1)),([],fun us v=>v = (vI s13.2.2.1)),([],fun us v=>v = (ptr b7 (0 + (s13.2.2.1).toNat * 4))),([],fun us v=>v = (Value.agg (enc x64).toArray)),([],fun us v=>v = (vI j18)),([],fun us v=>v = (ptr b7 (0 + (j18).toNat * 4))),([],fun us v=>v = (Value.agg (enc x67).toArray)),([],fun us v=>v = (ptr b7 (0 + (j18).toNat * 4))),([],fun us v=>True)] : Gs) D u) hE (fun u=>⟨M.qT (M.q0 hM.drew u),Hb⟩) (ZQ (Zb ?_ (Zb ?_ (Zb ?_ (Zb ?_ (Zb ?_ (Zb ?_ (Zb ?_ (Zb ?_ (Zb ?_ (Zb ?_ ZJ))))))))))) ?_
       ·intro a w ux62 D hE hI hD hdc hp
        have hM0:=hI.1
        have hM:=hI.1
        have hM:=hM.togA (pre:=[_,_]) (Bool.eq_false_iff.2 fun hx=>Bool.noConfusion (hD.symm.trans (hdc 9 _ _ rfl (List.mem_of_getElem? (i:=2) rfl) rfl hx)))
        exact Zd hE Za ld rfl fun a hE=>⟨_,_,rfl,hE,M.qKeep hM0 rfl,hI.2.put hD rfl ZO rfl⟩
       ·intro a w ux62 D hE hI hD hdc hp
        have hM0:=hI.1
        exact Zd hE Za ld rfl fun a hE=>⟨_,_,rfl,hE,M.qKeep hM0 rfl,hI.2.put hD rfl ZO rfl⟩
       ·intro a w ux62 D hE hI hD hdc hp
        have hM0:=hI.1
        have hM:=hI.1
        have hM:=hM.togA (pre:=[_,_]) (Bool.eq_false_iff.2 fun hx=>Bool.noConfusion (hD.symm.trans (hdc 9 _ _ rfl (List.mem_of_getElem? (i:=4) rfl) rfl hx)))
        exact Zd hE Za ld rfl fun a hE=>⟨_,_,rfl,hE,M.qKeep hM0 rfl,hI.2.put hD rfl ZO rfl⟩
       ·intro a w ux62 D hE hI hD hdc hp
        have d2 : D 2 = true:=hp 0 _ rfl rfl
        have g2:=hI.2 2 d2 _ rfl
        have f2 : ux62 2 = (vI s13.2.2.1):=g2.2
        have hM0:=hI.1
        have hM:=hI.1
        have hM:=hM.togA (pre:=[_,_]) (Bool.eq_false_iff.2 fun hx=>Bool.noConfusion (hD.symm.trans (hdc 9 _ _ rfl (List.mem_of_getElem? (i:=5) rfl) rfl hx)))
        exact Zg hE Za ld rfl (lk rfl f2) Try.underlying50 Z7 hi63.1 fun a hE=>⟨_,_,rfl,hE,M.qKeep hM0 rfl,hI.2.put hD rfl ZO rfl⟩
       ·intro a w ux62 D hE hI hD hdc hp
        have d3 : D 3 = true:=hp 0 _ rfl rfl
        have g3:=hI.2 3 d3 _ rfl
        have f3 : ux62 3 = (ptr b7 (0 + (s13.2.2.1).toNat * 4)):=g3.2
        have hM0:=hI.1
        have hM:=hI.1
        have hM:=hM.togA (pre:=[_,_]) (Bool.eq_false_iff.2 fun hx=>Bool.noConfusion (hD.symm.trans (hdc 9 _ _ rfl (List.mem_of_getElem? (i:=1) rfl) rfl hx)))
        exact Zn (cs:=enc x64) hE Za ld (lk rfl f3) Z7 rfl (At.vec (hM.rawAt (pre:=[_,_])) hi63.2) (Flat.len _) fun a hE=>⟨_,_,rfl,hE,M.qKeep hM0 rfl,hI.2.put hD rfl ZO rfl⟩
       ·intro a w ux62 D hE hI hD hdc hp
        have hM0:=hI.1
        exact Zd hE Za ld rfl fun a hE=>⟨_,_,rfl,hE,M.qKeep hM0 rfl,hI.2.put hD rfl ZO rfl⟩
       ·intro a w ux62 D hE hI hD hdc hp
        have d5 : D 5 = true:=hp 0 _ rfl rfl
        have g5:=hI.2 5 d5 _ rfl
        have f5 : ux62 5 = (vI j18):=g5.2
        have hM0:=hI.1
        have hM:=hI.1
        have hM:=hM.togA (pre:=[_,_]) (Bool.eq_false_iff.2 fun hx=>Bool.noConfusion (hD.symm.trans (hdc 9 _ _ rfl (List.mem_of_getElem? (i:=8) rfl) rfl hx)))
        exact Zg hE Za ld rfl (lk rfl f5) Try.underlying50 Z7 hi66.1 fun a hE=>⟨_,_,rfl,hE,M.qKeep hM0 rfl,hI.2.put hD rfl ZO rfl⟩
       ·intro a w ux62 D hE hI hD hdc hp
        have d6 : D 6 = true:=hp 0 _ rfl rfl
        have g6:=hI.2 6 d6 _ rfl
        have f6 : ux62 6 = (ptr b7 (0 + (j18).toNat * 4)):=g6.2
        have hM0:=hI.1
        have hM:=hI.1
        have hM:=hM.togA (pre:=[_,_]) (Bool.eq_false_iff.2 fun hx=>Bool.noConfusion (hD.symm.trans (hdc 9 _ _ rfl (List.mem_of_getElem? (i:=9) rfl) rfl hx)))
        exact Zn (cs:=enc x67) hE Za ld (lk rfl f6) Z7 rfl (At.vec (hM.rawAt (pre:=[_,_])) hi66.2) (Flat.len _) fun a hE=>⟨_,_,rfl,hE,M.qKeep hM0 rfl,hI.2.put hD rfl ZO rfl⟩
       ·intro a w ux62 D hE hI hD hdc hp
        have d0 : D 0 = true:=hp 0 _ rfl rfl
        have g0:=hI.2 0 d0 _ rfl
        have f0 : ux62 0 = (vI j18):=g0.2
        have hM0:=hI.1
        have hM:=hI.1
        have hM:=hM.togA (pre:=[_,_]) (Bool.eq_false_iff.2 fun hx=>Bool.noConfusion (hD.symm.trans (hdc 9 _ _ rfl (List.mem_of_getElem? (i:=0) rfl) rfl hx)))
        exact Zg hE Za ld rfl (lk rfl f0) Try.underlying50 Z7 hi69.1 fun a hE=>⟨_,_,rfl,hE,M.qKeep hM0 rfl,hI.2.put hD rfl ZO rfl⟩
       ·intro a w ux62 D hE hI hD hdc hp
        have d4 : D 4 = true:=hp 1 _ rfl rfl
        have g4:=hI.2 4 d4 _ rfl
        have f4 : ux62 4 = (Value.agg (enc x64).toArray):=g4.2
        have d8 : D 8 = true:=hp 0 _ rfl rfl
        have g8:=hI.2 8 d8 _ rfl
        have f8 : ux62 8 = (ptr b7 (0 + (j18).toNat * 4)):=g8.2
        have hM0:=hI.1
        have hM:=(hI.1.togA (pre:=[_,_]) hD).pull (pre:=[_,_])
        exact Zo (seg:=enc x64) (cs':=enc (s13.2.1.setIfInBounds (j18).toNat x64)) hE hM Za (lk rfl f8) (lk rfl f4) rfl Z7 (Flat.len _) (ZG (v:=s13.2.1) (x:=x64) hi69.1) (Flat.cell _) (Zz (v:=s13.2.1) (x:=x64) hi69.1) fun w a hM hE=>⟨undef,_,rfl,Env.dummy hE (by decide),M.qTog (mk1:=[]) (mk2:=[]) hM rfl,hI.2.put hD rfl ZO trivial⟩
       ·intro a w ux62 D hE hI hall
        have hM:=hI.1
        have d0 : D 0 = true:=hall 0 (by decide)
        have d1 : D 1 = true:=hall 1 (by decide)
        have d2 : D 2 = true:=hall 2 (by decide)
        have d3 : D 3 = true:=hall 3 (by decide)
        have d4 : D 4 = true:=hall 4 (by decide)
        have d5 : D 5 = true:=hall 5 (by decide)
        have d6 : D 6 = true:=hall 6 (by decide)
        have d7 : D 7 = true:=hall 7 (by decide)
        have d8 : D 8 = true:=hall 8 (by decide)
        have d9 : D 9 = true:=hall 9 (by decide)
        have f0 : ux62 0 = (vI j18):=(hI.2 0 d0 _ rfl).2
        have f1 : ux62 1 = (vI s13.2.2.1):=(hI.2 1 d1 _ rfl).2
        have f2 : ux62 2 = (vI s13.2.2.1):=(hI.2 2 d2 _ rfl).2
        have f3 : ux62 3 = (ptr b7 (0 + (s13.2.2.1).toNat * 4)):=(hI.2 3 d3 _ rfl).2
        have f4 : ux62 4 = (Value.agg (enc x64).toArray):=(hI.2 4 d4 _ rfl).2
        have f5 : ux62 5 = (vI j18):=(hI.2 5 d5 _ rfl).2
        have f6 : ux62 6 = (ptr b7 (0 + (j18).toNat * 4)):=(hI.2 6 d6 _ rfl).2
        have f7 : ux62 7 = (Value.agg (enc x67).toArray):=(hI.2 7 d7 _ rfl).2
        have f8 : ux62 8 = (ptr b7 (0 + (j18).toNat * 4)):=(hI.2 8 d8 _ rfl).2
        have hM:=hM.togB (pre:=[_,_]) d9
        have hE:=hE.sub (e':=[(46,vI s13.2.2.1),(52,(Value.agg (enc x67).toArray)),(0,vI p0),(3,(ptr b1 0)),(5,(ptr b3 0)),(6,(ptr b7 0)),(7,vB s13.2.2.2),(8,vI s13.2.2.1),(9,vI j18),(16,vI s13.2.2.1)]) ⟨lk rfl f1,lk rfl f7,rfl,rfl,rfl,rfl,rfl,rfl,rfl,rfl,trivial⟩
        obtain ⟨x73,hi72,hl60⟩:=bvx hl60
        refine Zg hE Za ld rfl rfl Try.underlying50 Z7 hi72.1 ?_; intro a hE
        have hM:=hM.pull (pre:=[_,_])
        refine Zo (seg:=enc x67) (cs':=enc ((s13.2.1.setIfInBounds (j18).toNat x64).setIfInBounds (s13.2.2.1).toNat x67)) hE hM Za rfl rfl rfl Z7 (Flat.len _) (ZG (v:=(s13.2.1.setIfInBounds (j18).toNat x64)) (x:=x67) hi72.1) (Flat.cell _) (Zz (v:=(s13.2.1.setIfInBounds (j18).toNat x64)) (x:=x67) hi72.1) fun w a hM hE=>Zh ?_
        have ht75:=Option.some.inj hl60
        subst ht75
        refine Zj ?_
        exact ⟨hE.sub ⟨rfl,rfl,rfl,rfl,rfl,rfl,rfl,trivial⟩,hM⟩
      ·skip
       rintro a w ⟨hE,hM⟩
       refine Zc (Zd hE Za ld rfl fun a hE=>Zd hE Za ld rfl fun a hE=>Zd hE Za ld rfl fun a hE=>Zd hE Za ld rfl ?_); intro a hE
       obtain ⟨x77,hi76,hF61⟩:=bvx hF61
       refine Zg hE Za ld rfl rfl Try.underlying50 Z7 hi76.1 ?_; intro a hE
       obtain ⟨x80,hi79,hF61⟩:=bvx hF61
       refine Zg hE Za ld rfl rfl Try.underlying42 ty5 hi79.1 fun a hE=>ZC (v:=(vB x80)) hE Za ld rfl ty5 rfl (At.vec (At.vec (hM.rawAt (pre:=[_,_])) hi76.2) hi79.2) ?_; intro a hE
       obtain ⟨r82,e83,hF61⟩:=bind_some hF61
       refine Zt hE Za ld rfl Q2 (Yr _ p0 s13.2.2.2 x80 r82 e83) ?_
       rintro v w a ⟨rfl,hK⟩ hE
       have hM:=hM.keep hK
       refine Ze hE Za ld rfl fun a hE=>Zf (Zc (Zd hE Za ld rfl fun a hE=>Zd hE Za ld rfl fun a hE=>Zd hE Za ld rfl ?_)); intro a hE
       obtain ⟨x85,hi84,hF61⟩:=bvx hF61
       refine Zg hE Za ld rfl rfl Try.underlying50 Z7 hi84.1 ?_; intro a hE
       obtain ⟨x88,hi87,hF61⟩:=bvx hF61
       refine Zg hE Za ld rfl rfl Try.underlying42 ty5 hi87.1 fun a hE=>ZC (v:=(vB x88)) hE Za ld rfl ty5 rfl (At.vec (At.vec (hM.rawAt (pre:=[_,_])) hi84.2) hi87.2) ?_; intro a hE
       obtain ⟨r90,e91,hF61⟩:=bind_some hF61
       refine Zt hE Za ld rfl cb154 (Tq _ p0 x88 r90 e91) ?_
       rintro v w a ⟨rfl,hK⟩ hE
       have hM:=hM.keep hK
       refine Ze hE Za ld rfl fun a hE=>Zf (wp_seq (Zc (Zd hE Za ld rfl fun a hE=>Zf ?_)))
       obtain ⟨j92,hl93,hF94⟩:=bind_some hF61
       refine ZL (fun a w=>Env 153 a [(0,vI p0),(3,(ptr b1 0)),(5,(ptr b3 0)),(6,(ptr b7 0)),(7,vB r82),(8,vI s13.2.2.1),(16,vI s13.2.2.1)] ∧ M (Old w0) w0 w [raw b7 (enc j92.2),raw b3 (enc (Vector.replicate 4 (Vector.replicate 4 (0 : UInt8)))),raw b1 (enc j92.1)]) ?_ ?_
       ·skip
        refine wp_block ?_
        refine ZF (fun (s95 : (Vector (Vector UInt8 4) 4) × (Vector (Vector UInt8 4) 4) × Int) a w=>Env 153 a [(0,vI p0),(3,(ptr b1 0)),(5,(ptr b3 0)),(6,(ptr b7 0)),(7,vB r82),(8,vI s13.2.2.1),(10,vB r90),(16,vI s13.2.2.1),(70,vI s95.2.2)] ∧ M (Old w0) w0 w [raw b7 (enc s95.2.1),raw b3 (enc (Vector.replicate 4 (Vector.replicate 4 (0 : UInt8)))),raw b1 (enc s95.1)]) hl93 ⟨hE.sub ⟨rfl,rfl,rfl,rfl,rfl,rfl,rfl,rfl,rfl,trivial⟩,hM⟩ ?_
        rintro s95 a w ⟨hE,hM⟩ o98 hs96 hx97
        unfold Xl at hs96
        refine Zc (Zi hE Za ld rfl rfl rfl fun a hE=>Zf (wp_seq ?_))
        refine Zq hE rfl ?_ ?_
        ·intro hb99
         have hs96:=Zu hs96 hb99
         refine wp_skip (Zw (wp_seq (wp_block (Zc (Zd hE Za ld rfl fun a hE=>Ze hE Za ld rfl fun a hE=>Zf ?_)))))
         have hM:=hM.pull (pre:=[_,_])
         obtain ⟨x102,hi101,hs96⟩:=bvx hs96
         obtain ⟨x105,hi104,hs96⟩:=bvx hs96
         obtain ⟨r107,e108,hs96⟩:=bind_some hs96
         obtain ⟨x110,hi109,hs96⟩:=bvx hs96
         obtain ⟨x113,hi112,hs96⟩:=bvx hs96
         obtain ⟨r115,e116,hs96⟩:=bind_some hs96
         obtain ⟨x118,hi117,hs96⟩:=bvx hs96
         obtain ⟨x121,hi120,hs96⟩:=bvx hs96
         obtain ⟨x124,hi123,hs96⟩:=bvx hs96
         refine Ut (n:=153) (hd:=[_,_,_,_,_,_,_,_,_,_,_,_,_,_,_,_,_,_,_,_,_,_,_,_]) (tl:=[_,_]) Wl rfl rfl [73,74,75,76,77,78,79,80,81,82,83,84,85,86,87,88,89,90,91,92,93,94,175,95] (by decide) (fun D u w=>M (Old w0) w0 w ([raw b7 (enc s95.2.1),raw b3 (enc (Vector.replicate 4 (Vector.replicate 4 (0 : UInt8))))] ++ qL ([mkT 22 (raw b1 (enc s95.1)) (raw b1 (enc (s95.1.setIfInBounds (s13.2.2.1).toNat (x118.setIfInBounds (s95.2.2).toNat r107))))] : Mk) D u) ∧ GOk ([([],fun us v=>v = (vI s13.2.2.1)),([],fun us v=>v = (vI s95.2.2)),([],fun us v=>v = (vI s13.2.2.1)),([],fun us v=>v = (vI s95.2.2)),([],fun us v=>v = (vI p0)),([],fun us v=>v = (vI s13.2.2.1)),([],fun us v=>v = (vI s95.2.2)),([],fun us v=>v = (ptr b1 (0 + (s13.2.2.1).toNat * 4))),([],fun us v=>v = (ptr b1 (0 + (s13.2.2.1).toNat * 4 + (s95.2.2).toNat * 1))),([],fun us v=>v = (vB x105)),([],fun us v=>v = (vB r90)),([],fun us v=>v = (vB r107)),([],fun us v=>v = (vI p0)),([],fun us v=>v = (vI s13.2.2.1)),([],fun us v=>v = (vI s95.2.2)),([],fun us v=>v = (ptr b7 (0 + (s13.2.2.1).toNat * 4))),([],fun us v=>v = (ptr b7 (0 + (s13.2.2.1).toNat * 4 + (s95.2.2).toNat * 1))),([],fun us v=>v = (vB x113)),([],fun us v=>v = (vB r90)),([],fun us v=>v = (vB r115)),([],fun us v=>v = (ptr b1 (0 + (s13.2.2.1).toNat * 4))),([],fun us v=>v = (ptr b1 (0 + (s13.2.2.1).toNat * 4 + (s95.2.2).toNat * 1))),([],fun us v=>True),([],fun us v=>v = (ptr b7 (0 + (s13.2.2.1).toNat * 4)))] : Gs) D u) hE (fun u=>⟨M.qT (M.q0 hM.drew u),Hb⟩) (ZQ (Zb ?_ (Zb ?_ (Zb ?_ (Zb ?_ (Zb ?_ (Zb ?_ (Zb ?_ (Zb ?_ (Zb ?_ (Zb ?_ (Zb ?_ (Zb ?_ (Zb ?_ (Zb ?_ (Zb ?_ (Zb ?_ (Zb ?_ (Zb ?_ (Zb ?_ (Zb ?_ (Zb ?_ (Zb ?_ (Zb ?_ (Zb ?_ ZJ))))))))))))))))))))))))) ?_
         ·intro a w ux100 D hE hI hD hdc hp
          have hM0:=hI.1
          have hM:=hI.1
          have hM:=hM.togA (pre:=[_,_]) (Bool.eq_false_iff.2 fun hx=>Bool.noConfusion (hD.symm.trans (hdc 22 _ _ rfl (List.mem_of_getElem? (i:=3) rfl) rfl hx)))
          exact Zd hE Za ld rfl fun a hE=>⟨_,_,rfl,hE,M.qKeep hM0 rfl,hI.2.put hD rfl ZO rfl⟩
         ·intro a w ux100 D hE hI hD hdc hp
          have hM0:=hI.1
          have hM:=hI.1
          have hM:=hM.togA (pre:=[_,_]) (Bool.eq_false_iff.2 fun hx=>Bool.noConfusion (hD.symm.trans (hdc 22 _ _ rfl (List.mem_of_getElem? (i:=4) rfl) rfl hx)))
          exact Zd hE Za ld rfl fun a hE=>⟨_,_,rfl,hE,M.qKeep hM0 rfl,hI.2.put hD rfl ZO rfl⟩
         ·intro a w ux100 D hE hI hD hdc hp
          have hM0:=hI.1
          exact Zd hE Za ld rfl fun a hE=>⟨_,_,rfl,hE,M.qKeep hM0 rfl,hI.2.put hD rfl ZO rfl⟩
         ·intro a w ux100 D hE hI hD hdc hp
          have hM0:=hI.1
          exact Zd hE Za ld rfl fun a hE=>⟨_,_,rfl,hE,M.qKeep hM0 rfl,hI.2.put hD rfl ZO rfl⟩
         ·intro a w ux100 D hE hI hD hdc hp
          have hM0:=hI.1
          have hM:=hI.1
          have hM:=hM.togA (pre:=[_,_]) (Bool.eq_false_iff.2 fun hx=>Bool.noConfusion (hD.symm.trans (hdc 22 _ _ rfl (List.mem_of_getElem? (i:=7) rfl) rfl hx)))
          exact Zd hE Za ld rfl fun a hE=>⟨_,_,rfl,hE,M.qKeep hM0 rfl,hI.2.put hD rfl ZO rfl⟩
         ·intro a w ux100 D hE hI hD hdc hp
          have hM0:=hI.1
          have hM:=hI.1
          have hM:=hM.togA (pre:=[_,_]) (Bool.eq_false_iff.2 fun hx=>Bool.noConfusion (hD.symm.trans (hdc 22 _ _ rfl (List.mem_of_getElem? (i:=8) rfl) rfl hx)))
          exact Zd hE Za ld rfl fun a hE=>⟨_,_,rfl,hE,M.qKeep hM0 rfl,hI.2.put hD rfl ZO rfl⟩
         ·intro a w ux100 D hE hI hD hdc hp
          have hM0:=hI.1
          have hM:=hI.1
          have hM:=hM.togA (pre:=[_,_]) (Bool.eq_false_iff.2 fun hx=>Bool.noConfusion (hD.symm.trans (hdc 22 _ _ rfl (List.mem_of_getElem? (i:=9) rfl) rfl hx)))
          exact Zd hE Za ld rfl fun a hE=>⟨_,_,rfl,hE,M.qKeep hM0 rfl,hI.2.put hD rfl ZO rfl⟩
         ·intro a w ux100 D hE hI hD hdc hp
          have d5 : D 5 = true:=hp 0 _ rfl rfl
          have g5:=hI.2 5 d5 _ rfl
          have f5 : ux100 5 = (vI s13.2.2.1):=g5.2
          have hM0:=hI.1
          have hM:=hI.1
          have hM:=hM.togA (pre:=[_,_]) (Bool.eq_false_iff.2 fun hx=>Bool.noConfusion (hD.symm.trans (hdc 22 _ _ rfl (List.mem_of_getElem? (i:=10) rfl) rfl hx)))
          exact Zg hE Za ld rfl (lk rfl f5) Try.underlying50 Z7 hi101.1 fun a hE=>⟨_,_,rfl,hE,M.qKeep hM0 rfl,hI.2.put hD rfl ZO rfl⟩
         ·intro a w ux100 D hE hI hD hdc hp
          have d6 : D 6 = true:=hp 1 _ rfl rfl
          have g6:=hI.2 6 d6 _ rfl
          have f6 : ux100 6 = (vI s95.2.2):=g6.2
          have d7 : D 7 = true:=hp 0 _ rfl rfl
          have g7:=hI.2 7 d7 _ rfl
          have f7 : ux100 7 = (ptr b1 (0 + (s13.2.2.1).toNat * 4)):=g7.2
          have hM0:=hI.1
          have hM:=hI.1
          have hM:=hM.togA (pre:=[_,_]) (Bool.eq_false_iff.2 fun hx=>Bool.noConfusion (hD.symm.trans (hdc 22 _ _ rfl (List.mem_of_getElem? (i:=11) rfl) rfl hx)))
          exact Zg hE Za ld (lk rfl f7) (lk rfl f6) Try.underlying42 ty5 hi104.1 fun a hE=>⟨_,_,rfl,hE,M.qKeep hM0 rfl,hI.2.put hD rfl ZO rfl⟩
         ·intro a w ux100 D hE hI hD hdc hp
          have d8 : D 8 = true:=hp 0 _ rfl rfl
          have g8:=hI.2 8 d8 _ rfl
          have f8 : ux100 8 = (ptr b1 (0 + (s13.2.2.1).toNat * 4 + (s95.2.2).toNat * 1)):=g8.2
          have hM0:=hI.1
          have hM:=hI.1
          have hM:=hM.togA (pre:=[_,_]) (Bool.eq_false_iff.2 fun hx=>Bool.noConfusion (hD.symm.trans (hdc 22 _ _ rfl (List.mem_of_getElem? (i:=12) rfl) rfl hx)))
          exact ZC (v:=(vB x105)) hE Za ld (lk rfl f8) ty5 rfl (At.vec (At.vec (hM.rawAt (pre:=[_,_])) hi101.2) hi104.2) fun a hE=>⟨_,_,rfl,hE,M.qKeep hM0 rfl,hI.2.put hD rfl ZO rfl⟩
         ·intro a w ux100 D hE hI hD hdc hp
          have hM0:=hI.1
          have hM:=hI.1
          have hM:=hM.togA (pre:=[_,_]) (Bool.eq_false_iff.2 fun hx=>Bool.noConfusion (hD.symm.trans (hdc 22 _ _ rfl (List.mem_of_getElem? (i:=13) rfl) rfl hx)))
          exact Zd hE Za ld rfl fun a hE=>⟨_,_,rfl,hE,M.qKeep hM0 rfl,hI.2.put hD rfl ZO rfl⟩
         ·intro a w ux100 D hE hI hD hdc hp
          have d4 : D 4 = true:=hp 0 _ rfl rfl
          have g4:=hI.2 4 d4 _ rfl
          have f4 : ux100 4 = (vI p0):=g4.2
          have d9 : D 9 = true:=hp 1 _ rfl rfl
          have g9:=hI.2 9 d9 _ rfl
          have f9 : ux100 9 = (vB x105):=g9.2
          have d10 : D 10 = true:=hp 2 _ rfl rfl
          have g10:=hI.2 10 d10 _ rfl
          have f10 : ux100 10 = (vB r90):=g10.2
          have hM0:=hI.1
          have hM:=hI.1
          have hM:=hM.togA (pre:=[_,_]) (Bool.eq_false_iff.2 fun hx=>Bool.noConfusion (hD.symm.trans (hdc 22 _ _ rfl (List.mem_of_getElem? (i:=1) rfl) rfl hx)))
          refine Zt hE Za ld (Yl (Z1 (lk rfl f4) (Z1 (lk rfl f9) (Z1 (lk rfl f10) W3)))) Q2 (Yr _ p0 x105 r90 r107 e108) ?_
          rintro v w a ⟨rfl,hK⟩ hE
          exact ⟨_,_,rfl,hE,M.qKeep (hM0.keep hK) rfl,hI.2.put hD rfl ZO rfl⟩
         ·intro a w ux100 D hE hI hD hdc hp
          have hM0:=hI.1
          exact Zd hE Za ld rfl fun a hE=>⟨_,_,rfl,hE,M.qKeep hM0 rfl,hI.2.put hD rfl ZO rfl⟩
         ·intro a w ux100 D hE hI hD hdc hp
          have hM0:=hI.1
          exact Zd hE Za ld rfl fun a hE=>⟨_,_,rfl,hE,M.qKeep hM0 rfl,hI.2.put hD rfl ZO rfl⟩
         ·intro a w ux100 D hE hI hD hdc hp
          have hM0:=hI.1
          exact Zd hE Za ld rfl fun a hE=>⟨_,_,rfl,hE,M.qKeep hM0 rfl,hI.2.put hD rfl ZO rfl⟩
         ·intro a w ux100 D hE hI hD hdc hp
          have d13 : D 13 = true:=hp 0 _ rfl rfl
          have g13:=hI.2 13 d13 _ rfl
          have f13 : ux100 13 = (vI s13.2.2.1):=g13.2
          have hM0:=hI.1
          exact Zg hE Za ld rfl (lk rfl f13) Try.underlying50 Z7 hi109.1 fun a hE=>⟨_,_,rfl,hE,M.qKeep hM0 rfl,hI.2.put hD rfl ZO rfl⟩
         ·intro a w ux100 D hE hI hD hdc hp
          have d14 : D 14 = true:=hp 1 _ rfl rfl
          have g14:=hI.2 14 d14 _ rfl
          have f14 : ux100 14 = (vI s95.2.2):=g14.2
          have d15 : D 15 = true:=hp 0 _ rfl rfl
          have g15:=hI.2 15 d15 _ rfl
          have f15 : ux100 15 = (ptr b7 (0 + (s13.2.2.1).toNat * 4)):=g15.2
          have hM0:=hI.1
          exact Zg hE Za ld (lk rfl f15) (lk rfl f14) Try.underlying42 ty5 hi112.1 fun a hE=>⟨_,_,rfl,hE,M.qKeep hM0 rfl,hI.2.put hD rfl ZO rfl⟩
         ·intro a w ux100 D hE hI hD hdc hp
          have d16 : D 16 = true:=hp 0 _ rfl rfl
          have g16:=hI.2 16 d16 _ rfl
          have f16 : ux100 16 = (ptr b7 (0 + (s13.2.2.1).toNat * 4 + (s95.2.2).toNat * 1)):=g16.2
          have hM0:=hI.1
          have hM:=hI.1
          exact ZC (v:=(vB x113)) hE Za ld (lk rfl f16) ty5 rfl (At.vec (At.vec (hM.rawAt (pre:=[])) hi109.2) hi112.2) fun a hE=>⟨_,_,rfl,hE,M.qKeep hM0 rfl,hI.2.put hD rfl ZO rfl⟩
         ·intro a w ux100 D hE hI hD hdc hp
          have hM0:=hI.1
          exact Zd hE Za ld rfl fun a hE=>⟨_,_,rfl,hE,M.qKeep hM0 rfl,hI.2.put hD rfl ZO rfl⟩
         ·intro a w ux100 D hE hI hD hdc hp
          have d12 : D 12 = true:=hp 0 _ rfl rfl
          have g12:=hI.2 12 d12 _ rfl
          have f12 : ux100 12 = (vI p0):=g12.2
          have d17 : D 17 = true:=hp 1 _ rfl rfl
          have g17:=hI.2 17 d17 _ rfl
          have f17 : ux100 17 = (vB x113):=g17.2
          have d18 : D 18 = true:=hp 2 _ rfl rfl
          have g18:=hI.2 18 d18 _ rfl
          have f18 : ux100 18 = (vB r90):=g18.2
          have hM0:=hI.1
          have hM:=hI.1
          have hM:=hM.togA (pre:=[_,_]) (Bool.eq_false_iff.2 fun hx=>Bool.noConfusion (hD.symm.trans (hdc 22 _ _ rfl (List.mem_of_getElem? (i:=2) rfl) rfl hx)))
          refine Zt hE Za ld (Yl (Z1 (lk rfl f12) (Z1 (lk rfl f17) (Z1 (lk rfl f18) W3)))) Q2 (Yr _ p0 x113 r90 r115 e116) ?_
          rintro v w a ⟨rfl,hK⟩ hE
          exact ⟨_,_,rfl,hE,M.qKeep (hM0.keep hK) rfl,hI.2.put hD rfl ZO rfl⟩
         ·intro a w ux100 D hE hI hD hdc hp
          have d0 : D 0 = true:=hp 0 _ rfl rfl
          have g0:=hI.2 0 d0 _ rfl
          have f0 : ux100 0 = (vI s13.2.2.1):=g0.2
          have hM0:=hI.1
          exact Zg hE Za ld rfl (lk rfl f0) Try.underlying50 Z7 hi117.1 fun a hE=>⟨_,_,rfl,hE,M.qKeep hM0 rfl,hI.2.put hD rfl ZO rfl⟩
         ·intro a w ux100 D hE hI hD hdc hp
          have d1 : D 1 = true:=hp 1 _ rfl rfl
          have g1:=hI.2 1 d1 _ rfl
          have f1 : ux100 1 = (vI s95.2.2):=g1.2
          have d20 : D 20 = true:=hp 0 _ rfl rfl
          have g20:=hI.2 20 d20 _ rfl
          have f20 : ux100 20 = (ptr b1 (0 + (s13.2.2.1).toNat * 4)):=g20.2
          have hM0:=hI.1
          have hM:=hI.1
          have hM:=hM.togA (pre:=[_,_]) (Bool.eq_false_iff.2 fun hx=>Bool.noConfusion (hD.symm.trans (hdc 22 _ _ rfl (List.mem_of_getElem? (i:=0) rfl) rfl hx)))
          exact Zg hE Za ld (lk rfl f20) (lk rfl f1) Try.underlying42 ty5 hi120.1 fun a hE=>⟨_,_,rfl,hE,M.qKeep hM0 rfl,hI.2.put hD rfl ZO rfl⟩
         ·intro a w ux100 D hE hI hD hdc hp
          have d11 : D 11 = true:=hp 1 _ rfl rfl
          have g11:=hI.2 11 d11 _ rfl
          have f11 : ux100 11 = (vB r107):=g11.2
          have d21 : D 21 = true:=hp 0 _ rfl rfl
          have g21:=hI.2 21 d21 _ rfl
          have f21 : ux100 21 = (ptr b1 (0 + (s13.2.2.1).toNat * 4 + (s95.2.2).toNat * 1)):=g21.2
          have hM0:=hI.1
          have hM:=(hI.1.togA (pre:=[_,_]) hD).pull (pre:=[_,_])
          exact Zo (seg:=[vB r107]) (cs':=enc (s95.1.setIfInBounds (s13.2.2.1).toNat (x118.setIfInBounds (s95.2.2).toNat r107))) hE hM Za (lk rfl f21) (lk rfl f11) rfl ty5 rfl (Wu (o':=0 + (s95.2.2).toNat * 1) hi117 (ZG (v:=x118) (x:=r107) hi120.1) (by first | omega | (simp only [Flat.n] <;> omega))) (Flat.cell (r107 : UInt8)) (YW (o':=0 + (s95.2.2).toNat * 1) hi117 (ZG (v:=x118) (x:=r107) hi120.1) (Zz (v:=x118) (x:=r107) hi120.1) (by first | omega | (simp only [Flat.n] <;> omega))) fun w a hM hE=>⟨undef,_,rfl,Env.dummy hE (by decide),M.qTog (mk1:=[]) (mk2:=[]) hM rfl,hI.2.put hD rfl ZO trivial⟩
         ·intro a w ux100 D hE hI hD hdc hp
          have d2 : D 2 = true:=hp 0 _ rfl rfl
          have g2:=hI.2 2 d2 _ rfl
          have f2 : ux100 2 = (vI s13.2.2.1):=g2.2
          have hM0:=hI.1
          exact Zg hE Za ld rfl (lk rfl f2) Try.underlying50 Z7 hi123.1 fun a hE=>⟨_,_,rfl,hE,M.qKeep hM0 rfl,hI.2.put hD rfl ZO rfl⟩
         ·intro a w ux100 D hE hI hall
          have hM:=hI.1
          have d0 : D 0 = true:=hall 0 (by decide)
          have d1 : D 1 = true:=hall 1 (by decide)
          have d2 : D 2 = true:=hall 2 (by decide)
          have d3 : D 3 = true:=hall 3 (by decide)
          have d4 : D 4 = true:=hall 4 (by decide)
          have d5 : D 5 = true:=hall 5 (by decide)
          have d6 : D 6 = true:=hall 6 (by decide)
          have d7 : D 7 = true:=hall 7 (by decide)
          have d8 : D 8 = true:=hall 8 (by decide)
          have d9 : D 9 = true:=hall 9 (by decide)
          have d10 : D 10 = true:=hall 10 (by decide)
          have d11 : D 11 = true:=hall 11 (by decide)
          have d12 : D 12 = true:=hall 12 (by decide)
          have d13 : D 13 = true:=hall 13 (by decide)
          have d14 : D 14 = true:=hall 14 (by decide)
          have d15 : D 15 = true:=hall 15 (by decide)
          have d16 : D 16 = true:=hall 16 (by decide)
          have d17 : D 17 = true:=hall 17 (by decide)
          have d18 : D 18 = true:=hall 18 (by decide)
          have d19 : D 19 = true:=hall 19 (by decide)
          have d20 : D 20 = true:=hall 20 (by decide)
          have d21 : D 21 = true:=hall 21 (by decide)
          have d22 : D 22 = true:=hall 22 (by decide)
          have d23 : D 23 = true:=hall 23 (by decide)
          have f0 : ux100 0 = (vI s13.2.2.1):=(hI.2 0 d0 _ rfl).2
          have f1 : ux100 1 = (vI s95.2.2):=(hI.2 1 d1 _ rfl).2
          have f2 : ux100 2 = (vI s13.2.2.1):=(hI.2 2 d2 _ rfl).2
          have f3 : ux100 3 = (vI s95.2.2):=(hI.2 3 d3 _ rfl).2
          have f4 : ux100 4 = (vI p0):=(hI.2 4 d4 _ rfl).2
          have f5 : ux100 5 = (vI s13.2.2.1):=(hI.2 5 d5 _ rfl).2
          have f6 : ux100 6 = (vI s95.2.2):=(hI.2 6 d6 _ rfl).2
          have f7 : ux100 7 = (ptr b1 (0 + (s13.2.2.1).toNat * 4)):=(hI.2 7 d7 _ rfl).2
          have f8 : ux100 8 = (ptr b1 (0 + (s13.2.2.1).toNat * 4 + (s95.2.2).toNat * 1)):=(hI.2 8 d8 _ rfl).2
          have f9 : ux100 9 = (vB x105):=(hI.2 9 d9 _ rfl).2
          have f10 : ux100 10 = (vB r90):=(hI.2 10 d10 _ rfl).2
          have f11 : ux100 11 = (vB r107):=(hI.2 11 d11 _ rfl).2
          have f12 : ux100 12 = (vI p0):=(hI.2 12 d12 _ rfl).2
          have f13 : ux100 13 = (vI s13.2.2.1):=(hI.2 13 d13 _ rfl).2
          have f14 : ux100 14 = (vI s95.2.2):=(hI.2 14 d14 _ rfl).2
          have f15 : ux100 15 = (ptr b7 (0 + (s13.2.2.1).toNat * 4)):=(hI.2 15 d15 _ rfl).2
          have f16 : ux100 16 = (ptr b7 (0 + (s13.2.2.1).toNat * 4 + (s95.2.2).toNat * 1)):=(hI.2 16 d16 _ rfl).2
          have f17 : ux100 17 = (vB x113):=(hI.2 17 d17 _ rfl).2
          have f18 : ux100 18 = (vB r90):=(hI.2 18 d18 _ rfl).2
          have f19 : ux100 19 = (vB r115):=(hI.2 19 d19 _ rfl).2
          have f20 : ux100 20 = (ptr b1 (0 + (s13.2.2.1).toNat * 4)):=(hI.2 20 d20 _ rfl).2
          have f21 : ux100 21 = (ptr b1 (0 + (s13.2.2.1).toNat * 4 + (s95.2.2).toNat * 1)):=(hI.2 21 d21 _ rfl).2
          have f23 : ux100 23 = (ptr b7 (0 + (s13.2.2.1).toNat * 4)):=(hI.2 23 d23 _ rfl).2
          have hM:=hM.togB (pre:=[_,_]) d22
          have hE:=hE.sub (e':=[(76,vI s95.2.2),(92,vB r115),(95,(ptr b7 (0 + (s13.2.2.1).toNat * 4))),(0,vI p0),(3,(ptr b1 0)),(5,(ptr b3 0)),(6,(ptr b7 0)),(7,vB r82),(8,vI s13.2.2.1),(10,vB r90),(11,vI s95.2.2),(16,vI s13.2.2.1),(70,vI s95.2.2),(71,(vT (decide (s95.2.2 < 4)))),(72,vI s95.2.2)]) ⟨lk rfl f3,lk rfl f19,lk rfl f23,rfl,rfl,rfl,rfl,rfl,rfl,rfl,rfl,rfl,rfl,rfl,rfl,trivial⟩
          obtain ⟨x127,hi126,hs96⟩:=bvx hs96
          refine Zg hE Za ld rfl rfl Try.underlying42 ty5 hi126.1 fun a hE=>Zo (seg:=[vB r115]) (cs':=enc (s95.2.1.setIfInBounds (s13.2.2.1).toNat (x124.setIfInBounds (s95.2.2).toNat r115))) hE hM Za rfl rfl rfl ty5 rfl (Wu (o':=0 + (s95.2.2).toNat * 1) hi123 (ZG (v:=x124) (x:=r115) hi126.1) (by first | omega | (simp only [Flat.n] <;> omega))) (Flat.cell (r115 : UInt8)) (YW (o':=0 + (s95.2.2).toNat * 1) hi123 (ZG (v:=x124) (x:=r115) hi126.1) (Zz (v:=x124) (x:=r115) hi126.1) (by first | omega | (simp only [Flat.n] <;> omega))) fun w a hM hE=>Zh (Z9 (Zw (wp_region_lit (Zi hE Za ld rfl rfl rfl fun a hE=>Zd hE Za ld rfl fun a hE=>Zh (Zj ?_)))))
          exact ⟨_,(ois hs96),hE.sub ⟨rfl,rfl,rfl,rfl,rfl,rfl,rfl,rfl,rfl,trivial⟩,hM⟩
        ·intro hb99
         have hs96:=Zv hs96 hb99
         refine wp_exit (Zm (Zm (Yf ?_)))
         have ht129:=hx97 _ (ois hs96)
         subst ht129
         refine Zj ?_
         exact ⟨hE.sub ⟨rfl,rfl,rfl,rfl,rfl,rfl,rfl,trivial⟩,hM⟩
       ·skip
        rintro a w ⟨hE,hM⟩
        refine Zw (Zc (Zd hE Za ld rfl fun a hE=>Zf ?_))
        obtain ⟨j130,hl131,hF132⟩:=bind_some hF94
        refine ZL (fun a w=>Env 153 a [(0,vI p0),(3,(ptr b1 0)),(5,(ptr b3 0)),(6,(ptr b7 0)),(7,vB r82),(16,vI s13.2.2.1)] ∧ M (Old w0) w0 w [raw b7 (enc j130.2),raw b3 (enc (Vector.replicate 4 (Vector.replicate 4 (0 : UInt8)))),raw b1 (enc j130.1)]) ?_ ?_
        ·skip
         refine wp_block ?_
         refine ZF (fun (s133 : (Vector (Vector UInt8 4) 4) × (Vector (Vector UInt8 4) 4) × Int) a w=>Env 153 a [(0,vI p0),(3,(ptr b1 0)),(5,(ptr b3 0)),(6,(ptr b7 0)),(7,vB r82),(8,vI s13.2.2.1),(16,vI s13.2.2.1),(98,vI s133.2.2)] ∧ M (Old w0) w0 w [raw b7 (enc s133.2.1),raw b3 (enc (Vector.replicate 4 (Vector.replicate 4 (0 : UInt8)))),raw b1 (enc s133.1)]) hl131 ⟨hE.sub ⟨rfl,rfl,rfl,rfl,rfl,rfl,rfl,rfl,trivial⟩,hM⟩ ?_
         rintro s133 a w ⟨hE,hM⟩ o136 hs134 hx135
         unfold Xm at hs134
         refine Zc (Zi hE Za ld rfl rfl rfl fun a hE=>Zf (wp_seq ?_))
         refine Zq hE rfl ?_ ?_
         ·intro hb137
          have hs134:=Zu hs134 hb137
          refine wp_skip (Zw ?_)
          obtain ⟨j138,hl139,hF140⟩:=bind_some hs134
          refine ZM (fun a w=>Env 153 a [(0,vI p0),(3,(ptr b1 0)),(5,(ptr b3 0)),(6,(ptr b7 0)),(7,vB r82),(8,vI s13.2.2.1),(16,vI s13.2.2.1),(98,vI s133.2.2)] ∧ M (Old w0) w0 w [raw b7 (enc j138.2),raw b3 (enc (Vector.replicate 4 (Vector.replicate 4 (0 : UInt8)))),raw b1 (enc j138.1)]) ?_ ?_
          ·skip
           refine wp_block (Zc (Zd hE Za ld rfl fun a hE=>Ze hE Za ld rfl fun a hE=>Zf (Zc (Zd hE Za ld rfl fun a hE=>Zd hE Za ld rfl ?_)))); intro a hE
           obtain ⟨x142,hi141,hl139⟩:=bvx hl139
           refine Zg hE Za ld rfl rfl Try.underlying50 Z7 hi141.1 ?_; intro a hE
           obtain ⟨x145,hi144,hl139⟩:=bvx hl139
           refine Zg hE Za ld rfl rfl Try.underlying42 ty5 hi144.1 fun a hE=>ZC (v:=(vB x145)) hE Za ld rfl ty5 rfl (At.vec (At.vec (hM.rawAt (pre:=[_,_])) hi141.2) hi144.2) fun a hE=>Ze hE Za ld rfl fun a hE=>Zf ?_
           obtain ⟨j147,hl148,hF149⟩:=bind_some hl139
           refine ZM (fun a w=>Env 153 a [(0,vI p0),(3,(ptr b1 0)),(5,(ptr b3 0)),(6,(ptr b7 0)),(7,vB r82),(8,vI s13.2.2.1),(12,vI s133.2.2),(13,vB x145),(16,vI s13.2.2.1),(98,vI s133.2.2),(112,vT j147)] ∧ M (Old w0) w0 w [raw b7 (enc s133.2.1),raw b3 (enc (Vector.replicate 4 (Vector.replicate 4 (0 : UInt8)))),raw b1 (enc s133.1)]) ?_ ?_
           ·skip
            refine wp_region_lit (Zd hE Za ld rfl fun a hE=>Zd hE Za ld rfl fun a hE=>Zi hE Za ld rfl rfl rfl fun a hE=>Zd hE Za ld rfl ?_); intro a hE
            refine Xh (s133.2.2 != s13.2.2.1) (fun hb150=>?_) (fun hb150=>?_)
            ·have hl148:=Zu hl148 hb150
             refine Zd hE (Zl hE rfl (lkb rfl hb150)) (by decide) rfl fun a hE=>Zi hE (Zl hE rfl (lkb rfl hb150)) (by decide) rfl rfl (Ha x145 0) fun a hE=>Z0 hE Za ld (lkb rfl hb150) rfl fun a hE=>Zh ?_
             have ht151:=Option.some.inj hl148
             subst ht151
             refine Zj ?_
             exact ⟨hE.sub ⟨rfl,rfl,rfl,rfl,rfl,rfl,rfl,rfl,rfl,rfl,rfl,trivial⟩,hM⟩
            ·have hl148:=Zv hl148 hb150
             refine Zp hE rfl (lkb rfl hb150) rfl (by decide) fun a hE=>Zp hE rfl (lkb rfl hb150) rfl (by decide) fun a hE=>Yb hE Za ld (lkb rfl hb150) rfl fun a hE=>Zh ?_
             have ht152:=Option.some.inj hl148
             subst ht152
             refine Zj ?_
             exact ⟨hE.sub ⟨rfl,rfl,rfl,rfl,rfl,rfl,rfl,rfl,rfl,rfl,rfl,trivial⟩,hM⟩
           ·skip
            rintro a w ⟨hE,hM⟩
            obtain ⟨j153,hl154,hF155⟩:=bind_some hF149
            refine ZL (fun a w=>Env 153 a [(0,vI p0),(3,(ptr b1 0)),(5,(ptr b3 0)),(6,(ptr b7 0)),(7,vB r82),(8,vI s13.2.2.1),(16,vI s13.2.2.1),(98,vI s133.2.2)] ∧ M (Old w0) w0 w [raw b7 (enc j153.2),raw b3 (enc (Vector.replicate 4 (Vector.replicate 4 (0 : UInt8)))),raw b1 (enc j153.1)]) ?_ ?_
            ·skip
             refine Zq hE rfl ?_ ?_
             ·intro hb156
              have hl154:=Zu hl154 hb156
              refine Zc (Zd hE Za ld rfl fun a hE=>Zf ?_)
              obtain ⟨j157,hl158,hF159⟩:=bind_some hl154
              refine ZL (fun a w=>Env 153 a [(0,vI p0),(3,(ptr b1 0)),(5,(ptr b3 0)),(6,(ptr b7 0)),(7,vB r82),(8,vI s13.2.2.1),(16,vI s13.2.2.1),(98,vI s133.2.2)] ∧ M (Old w0) w0 w [raw b7 (enc j157.2),raw b3 (enc (Vector.replicate 4 (Vector.replicate 4 (0 : UInt8)))),raw b1 (enc j157.1)]) ?_ ?_
              ·skip
               refine wp_block ?_
               refine ZF (fun (s160 : (Vector (Vector UInt8 4) 4) × (Vector (Vector UInt8 4) 4) × Int) a w=>Env 153 a [(0,vI p0),(3,(ptr b1 0)),(5,(ptr b3 0)),(6,(ptr b7 0)),(7,vB r82),(8,vI s13.2.2.1),(12,vI s133.2.2),(13,vB x145),(16,vI s13.2.2.1),(98,vI s133.2.2),(113,vI s160.2.2)] ∧ M (Old w0) w0 w [raw b7 (enc s160.2.1),raw b3 (enc (Vector.replicate 4 (Vector.replicate 4 (0 : UInt8)))),raw b1 (enc s160.1)]) hl158 ⟨hE.sub ⟨rfl,rfl,rfl,rfl,rfl,rfl,rfl,rfl,rfl,rfl,rfl,trivial⟩,hM⟩ ?_
               rintro s160 a w ⟨hE,hM⟩ o163 hs161 hx162
               unfold Xk at hs161
               refine Zc (Zi hE Za ld rfl rfl rfl fun a hE=>Zf (wp_seq ?_))
               refine Zq hE rfl ?_ ?_
               ·intro hb164
                have hs161:=Zu hs161 hb164
                refine wp_skip (Zw (wp_seq (wp_block (Zc (Zd hE Za ld rfl fun a hE=>Ze hE Za ld rfl fun a hE=>Zf ?_)))))
                obtain ⟨j165,hl166,hF167⟩:=bind_some hs161
                refine ZM (fun a w=>Env 153 a [(0,vI p0),(3,(ptr b1 0)),(5,(ptr b3 0)),(6,(ptr b7 0)),(7,vB r82),(8,vI s13.2.2.1),(12,vI s133.2.2),(13,vB x145),(14,vI s160.2.2),(16,vI s13.2.2.1),(98,vI s133.2.2),(113,vI s160.2.2)] ∧ M (Old w0) w0 w [raw b7 (enc s160.2.1),raw b3 (enc (Vector.replicate 4 (Vector.replicate 4 (0 : UInt8)))),raw b1 (enc j165)]) ?_ ?_
                ·skip
                 obtain ⟨x170,hi169,hl166⟩:=bvx hl166
                 obtain ⟨x173,hi172,hl166⟩:=bvx hl166
                 obtain ⟨x176,hi175,hl166⟩:=bvx hl166
                 obtain ⟨x179,hi178,hl166⟩:=bvx hl166
                 obtain ⟨r181,e182,hl166⟩:=bind_some hl166
                 obtain ⟨x184,hi183,hl166⟩:=bvx hl166
                 obtain ⟨x187,hi186,hl166⟩:=bvx hl166
                 refine YZ (n:=153) (hd:=[_,_,_,_,_,_,_,_,_,_,_,_,_,_,_,_]) (tl:=[_]) Wl rfl rfl [116,117,118,119,120,121,122,123,124,125,126,127,128,129,130,131] (by decide) (fun w=>M (Old w0) w0 w [raw b7 (enc s160.2.1),raw b3 (enc (Vector.replicate 4 (Vector.replicate 4 (0 : UInt8)))),raw b1 (enc s160.1)]) (fun j=>([fun v _=>v = (vI s133.2.2),fun v _=>v = (vI s160.2.2),fun v _=>v = (ptr b1 (0 + (s133.2.2).toNat * 4)),fun v _=>v = (ptr b1 (0 + (s133.2.2).toNat * 4 + (s160.2.2).toNat * 1)),fun v _=>v = (vB x173),fun v _=>v = (vI p0),fun v _=>v = (vB x145),fun v _=>v = (vI s13.2.2.1),fun v _=>v = (vI s160.2.2),fun v _=>v = (ptr b1 (0 + (s13.2.2.1).toNat * 4)),fun v _=>v = (ptr b1 (0 + (s13.2.2.1).toNat * 4 + (s160.2.2).toNat * 1)),fun v _=>v = (vB x179),fun v _=>v = (vB r181),fun v _=>v = (vB (x173 ^^^ r181)),fun v _=>v = (ptr b1 (0 + (s133.2.2).toNat * 4)),fun v _=>v = (ptr b1 (0 + (s133.2.2).toNat * 4 + (s160.2.2).toNat * 1))] : List (Value → World → Prop)).getD j (fun _ _=>True)) (fun _ _ h hk=>h.keep hk) (gup (Zk (Zk (Zk (Zk (Zk (Zk (Zk (Zk (Zk (Zk (Zk (Zk (Zk (Zk (Zk (Zk V3))))))))))))))))) hE hM.drew (ZQ (Zb ?_ (Zb ?_ (Zb ?_ (Zb ?_ (Zb ?_ (Zb ?_ (Zb ?_ (Zb ?_ (Zb ?_ (Zb ?_ (Zb ?_ (Zb ?_ (Zb ?_ (Zb ?_ (Zb ?_ (Zb ?_ ZJ))))))))))))))))) ?_
                 ·exact fun a w ux168 hE hM hp=>Zd hE Za ld rfl fun a hE=>⟨Kept.refl _ _,_,_,rfl,hE,rfl⟩
                 ·exact fun a w ux168 hE hM hp=>Zd hE Za ld rfl fun a hE=>⟨Kept.refl _ _,_,_,rfl,hE,rfl⟩
                 ·intro a w ux168 hE hM hp
                  have f0 : ux168 0 = (vI s133.2.2):=hp 0 _ rfl rfl
                  exact Zg hE Za ld rfl (lk rfl f0) Try.underlying50 Z7 hi169.1 fun a hE=>⟨Kept.refl _ _,_,_,rfl,hE,rfl⟩
                 ·intro a w ux168 hE hM hp
                  have f1 : ux168 1 = (vI s160.2.2):=hp 1 _ rfl rfl
                  have f2 : ux168 2 = (ptr b1 (0 + (s133.2.2).toNat * 4)):=hp 0 _ rfl rfl
                  exact Zg hE Za ld (lk rfl f2) (lk rfl f1) Try.underlying42 ty5 hi172.1 fun a hE=>⟨Kept.refl _ _,_,_,rfl,hE,rfl⟩
                 ·intro a w ux168 hE hM hp
                  have f3 : ux168 3 = (ptr b1 (0 + (s133.2.2).toNat * 4 + (s160.2.2).toNat * 1)):=hp 0 _ rfl rfl
                  exact ZC (v:=(vB x173)) hE Za ld (lk rfl f3) ty5 rfl (At.vec (At.vec (hM.rawAt (pre:=[_,_])) hi169.2) hi172.2) fun a hE=>⟨Kept.refl _ _,_,_,rfl,hE,rfl⟩
                 ·exact fun a w ux168 hE hM hp=>Zd hE Za ld rfl fun a hE=>⟨Kept.refl _ _,_,_,rfl,hE,rfl⟩
                 ·exact fun a w ux168 hE hM hp=>Zd hE Za ld rfl fun a hE=>⟨Kept.refl _ _,_,_,rfl,hE,rfl⟩
                 ·exact fun a w ux168 hE hM hp=>Zd hE Za ld rfl fun a hE=>⟨Kept.refl _ _,_,_,rfl,hE,rfl⟩
                 ·exact fun a w ux168 hE hM hp=>Zd hE Za ld rfl fun a hE=>⟨Kept.refl _ _,_,_,rfl,hE,rfl⟩
                 ·intro a w ux168 hE hM hp
                  have f7 : ux168 7 = (vI s13.2.2.1):=hp 0 _ rfl rfl
                  exact Zg hE Za ld rfl (lk rfl f7) Try.underlying50 Z7 hi175.1 fun a hE=>⟨Kept.refl _ _,_,_,rfl,hE,rfl⟩
                 ·intro a w ux168 hE hM hp
                  have f8 : ux168 8 = (vI s160.2.2):=hp 1 _ rfl rfl
                  have f9 : ux168 9 = (ptr b1 (0 + (s13.2.2.1).toNat * 4)):=hp 0 _ rfl rfl
                  exact Zg hE Za ld (lk rfl f9) (lk rfl f8) Try.underlying42 ty5 hi178.1 fun a hE=>⟨Kept.refl _ _,_,_,rfl,hE,rfl⟩
                 ·intro a w ux168 hE hM hp
                  have f10 : ux168 10 = (ptr b1 (0 + (s13.2.2.1).toNat * 4 + (s160.2.2).toNat * 1)):=hp 0 _ rfl rfl
                  exact ZC (v:=(vB x179)) hE Za ld (lk rfl f10) ty5 rfl (At.vec (At.vec (hM.rawAt (pre:=[_,_])) hi175.2) hi178.2) fun a hE=>⟨Kept.refl _ _,_,_,rfl,hE,rfl⟩
                 ·intro a w ux168 hE hM hp
                  have f5 : ux168 5 = (vI p0):=hp 0 _ rfl rfl
                  have f6 : ux168 6 = (vB x145):=hp 1 _ rfl rfl
                  have f11 : ux168 11 = (vB x179):=hp 2 _ rfl rfl
                  refine Zt hE Za ld (Yl (Z1 (lk rfl f5) (Z1 (lk rfl f6) (Z1 (lk rfl f11) W3)))) Q2 (Yr _ p0 x145 x179 r181 e182) ?_
                  rintro v w a ⟨rfl,hK⟩ hE
                  exact ⟨hK,_,_,rfl,hE,rfl⟩
                 ·intro a w ux168 hE hM hp
                  have f4 : ux168 4 = (vB x173):=hp 0 _ rfl rfl
                  have f12 : ux168 12 = (vB r181):=hp 1 _ rfl rfl
                  exact Zi hE Za ld (lk rfl f4) (lk rfl f12) (WJ x173 r181) fun a hE=>⟨Kept.refl _ _,_,_,rfl,hE,rfl⟩
                 ·intro a w ux168 hE hM hp
                  have f0 : ux168 0 = (vI s133.2.2):=hp 0 _ rfl rfl
                  exact Zg hE Za ld rfl (lk rfl f0) Try.underlying50 Z7 hi183.1 fun a hE=>⟨Kept.refl _ _,_,_,rfl,hE,rfl⟩
                 ·intro a w ux168 hE hM hp
                  have f1 : ux168 1 = (vI s160.2.2):=hp 1 _ rfl rfl
                  have f14 : ux168 14 = (ptr b1 (0 + (s133.2.2).toNat * 4)):=hp 0 _ rfl rfl
                  exact Zg hE Za ld (lk rfl f14) (lk rfl f1) Try.underlying42 ty5 hi186.1 fun a hE=>⟨Kept.refl _ _,_,_,rfl,hE,rfl⟩
                 ·intro a w ux168 hE hM hg
                  have hE:=hE.sub (e':=[(129,(vB (x173 ^^^ r181))),(131,(ptr b1 (0 + (s133.2.2).toNat * 4 + (s160.2.2).toNat * 1))),(0,vI p0),(3,(ptr b1 0)),(5,(ptr b3 0)),(6,(ptr b7 0)),(7,vB r82),(8,vI s13.2.2.1),(12,vI s133.2.2),(13,vB x145),(14,vI s160.2.2),(16,vI s13.2.2.1),(98,vI s133.2.2),(113,vI s160.2.2),(114,(vT (decide (s160.2.2 < 4)))),(115,vI s160.2.2)]) ⟨lk rfl (hg 13 (by decide)),lk rfl (hg 15 (by decide)),rfl,rfl,rfl,rfl,rfl,rfl,rfl,rfl,rfl,rfl,rfl,rfl,rfl,rfl,trivial⟩
                  have hM:=hM.pull (pre:=[_,_])
                  refine Zo (seg:=[(vB (x173 ^^^ r181))]) (cs':=enc (s160.1.setIfInBounds (s133.2.2).toNat (x184.setIfInBounds (s160.2.2).toNat (x173 ^^^ r181)))) hE hM Za rfl rfl rfl ty5 rfl (Wu (o':=0 + (s160.2.2).toNat * 1) hi183 (ZG (v:=x184) (x:=x173 ^^^ r181) hi186.1) (by first | omega | (simp only [Flat.n] <;> omega))) (Flat.cell (x173 ^^^ r181 : UInt8)) (YW (o':=0 + (s160.2.2).toNat * 1) hi183 (ZG (v:=x184) (x:=x173 ^^^ r181) hi186.1) (Zz (v:=x184) (x:=x173 ^^^ r181) hi186.1) (by first | omega | (simp only [Flat.n] <;> omega))) fun w a hM hE=>Zh ?_
                  have ht189:=Option.some.inj hl166
                  subst ht189
                  refine Zj ?_
                  have hM:=(hM.pull (pre:=[_,_])).pull (pre:=[_,_])
                  exact ⟨hE.sub ⟨rfl,rfl,rfl,rfl,rfl,rfl,rfl,rfl,rfl,rfl,rfl,rfl,trivial⟩,hM⟩
                ·skip
                 rintro a w ⟨hE,hM⟩
                 obtain ⟨x192,hi191,hF167⟩:=bvx hF167
                 obtain ⟨x195,hi194,hF167⟩:=bvx hF167
                 obtain ⟨x198,hi197,hF167⟩:=bvx hF167
                 obtain ⟨x201,hi200,hF167⟩:=bvx hF167
                 obtain ⟨r203,e204,hF167⟩:=bind_some hF167
                 obtain ⟨x206,hi205,hF167⟩:=bvx hF167
                 obtain ⟨x209,hi208,hF167⟩:=bvx hF167
                 refine YZ (n:=153) (hd:=[_,_,_,_,_,_,_,_,_,_,_,_,_,_,_,_]) (tl:=[_]) Wl rfl rfl [132,133,134,135,136,137,138,139,140,141,142,143,144,145,146,147] (by decide) (fun w=>M (Old w0) w0 w [raw b7 (enc s160.2.1),raw b3 (enc (Vector.replicate 4 (Vector.replicate 4 (0 : UInt8)))),raw b1 (enc j165)]) (fun j=>([fun v _=>v = (vI s133.2.2),fun v _=>v = (vI s160.2.2),fun v _=>v = (ptr b7 (0 + (s133.2.2).toNat * 4)),fun v _=>v = (ptr b7 (0 + (s133.2.2).toNat * 4 + (s160.2.2).toNat * 1)),fun v _=>v = (vB x195),fun v _=>v = (vI p0),fun v _=>v = (vB x145),fun v _=>v = (vI s13.2.2.1),fun v _=>v = (vI s160.2.2),fun v _=>v = (ptr b7 (0 + (s13.2.2.1).toNat * 4)),fun v _=>v = (ptr b7 (0 + (s13.2.2.1).toNat * 4 + (s160.2.2).toNat * 1)),fun v _=>v = (vB x201),fun v _=>v = (vB r203),fun v _=>v = (vB (x195 ^^^ r203)),fun v _=>v = (ptr b7 (0 + (s133.2.2).toNat * 4)),fun v _=>v = (ptr b7 (0 + (s133.2.2).toNat * 4 + (s160.2.2).toNat * 1))] : List (Value → World → Prop)).getD j (fun _ _=>True)) (fun _ _ h hk=>h.keep hk) (gup (Zk (Zk (Zk (Zk (Zk (Zk (Zk (Zk (Zk (Zk (Zk (Zk (Zk (Zk (Zk (Zk V3))))))))))))))))) hE hM.drew (ZQ (Zb ?_ (Zb ?_ (Zb ?_ (Zb ?_ (Zb ?_ (Zb ?_ (Zb ?_ (Zb ?_ (Zb ?_ (Zb ?_ (Zb ?_ (Zb ?_ (Zb ?_ (Zb ?_ (Zb ?_ (Zb ?_ ZJ))))))))))))))))) ?_
                 ·exact fun a w ux190 hE hM hp=>Zd hE Za ld rfl fun a hE=>⟨Kept.refl _ _,_,_,rfl,hE,rfl⟩
                 ·exact fun a w ux190 hE hM hp=>Zd hE Za ld rfl fun a hE=>⟨Kept.refl _ _,_,_,rfl,hE,rfl⟩
                 ·intro a w ux190 hE hM hp
                  have f0 : ux190 0 = (vI s133.2.2):=hp 0 _ rfl rfl
                  exact Zg hE Za ld rfl (lk rfl f0) Try.underlying50 Z7 hi191.1 fun a hE=>⟨Kept.refl _ _,_,_,rfl,hE,rfl⟩
                 ·intro a w ux190 hE hM hp
                  have f1 : ux190 1 = (vI s160.2.2):=hp 1 _ rfl rfl
                  have f2 : ux190 2 = (ptr b7 (0 + (s133.2.2).toNat * 4)):=hp 0 _ rfl rfl
                  exact Zg hE Za ld (lk rfl f2) (lk rfl f1) Try.underlying42 ty5 hi194.1 fun a hE=>⟨Kept.refl _ _,_,_,rfl,hE,rfl⟩
                 ·intro a w ux190 hE hM hp
                  have f3 : ux190 3 = (ptr b7 (0 + (s133.2.2).toNat * 4 + (s160.2.2).toNat * 1)):=hp 0 _ rfl rfl
                  exact ZC (v:=(vB x195)) hE Za ld (lk rfl f3) ty5 rfl (At.vec (At.vec (hM.rawAt (pre:=[])) hi191.2) hi194.2) fun a hE=>⟨Kept.refl _ _,_,_,rfl,hE,rfl⟩
                 ·exact fun a w ux190 hE hM hp=>Zd hE Za ld rfl fun a hE=>⟨Kept.refl _ _,_,_,rfl,hE,rfl⟩
                 ·exact fun a w ux190 hE hM hp=>Zd hE Za ld rfl fun a hE=>⟨Kept.refl _ _,_,_,rfl,hE,rfl⟩
                 ·exact fun a w ux190 hE hM hp=>Zd hE Za ld rfl fun a hE=>⟨Kept.refl _ _,_,_,rfl,hE,rfl⟩
                 ·exact fun a w ux190 hE hM hp=>Zd hE Za ld rfl fun a hE=>⟨Kept.refl _ _,_,_,rfl,hE,rfl⟩
                 ·intro a w ux190 hE hM hp
                  have f7 : ux190 7 = (vI s13.2.2.1):=hp 0 _ rfl rfl
                  exact Zg hE Za ld rfl (lk rfl f7) Try.underlying50 Z7 hi197.1 fun a hE=>⟨Kept.refl _ _,_,_,rfl,hE,rfl⟩
                 ·intro a w ux190 hE hM hp
                  have f8 : ux190 8 = (vI s160.2.2):=hp 1 _ rfl rfl
                  have f9 : ux190 9 = (ptr b7 (0 + (s13.2.2.1).toNat * 4)):=hp 0 _ rfl rfl
                  exact Zg hE Za ld (lk rfl f9) (lk rfl f8) Try.underlying42 ty5 hi200.1 fun a hE=>⟨Kept.refl _ _,_,_,rfl,hE,rfl⟩
                 ·intro a w ux190 hE hM hp
                  have f10 : ux190 10 = (ptr b7 (0 + (s13.2.2.1).toNat * 4 + (s160.2.2).toNat * 1)):=hp 0 _ rfl rfl
                  exact ZC (v:=(vB x201)) hE Za ld (lk rfl f10) ty5 rfl (At.vec (At.vec (hM.rawAt (pre:=[])) hi197.2) hi200.2) fun a hE=>⟨Kept.refl _ _,_,_,rfl,hE,rfl⟩
                 ·intro a w ux190 hE hM hp
                  have f5 : ux190 5 = (vI p0):=hp 0 _ rfl rfl
                  have f6 : ux190 6 = (vB x145):=hp 1 _ rfl rfl
                  have f11 : ux190 11 = (vB x201):=hp 2 _ rfl rfl
                  refine Zt hE Za ld (Yl (Z1 (lk rfl f5) (Z1 (lk rfl f6) (Z1 (lk rfl f11) W3)))) Q2 (Yr _ p0 x145 x201 r203 e204) ?_
                  rintro v w a ⟨rfl,hK⟩ hE
                  exact ⟨hK,_,_,rfl,hE,rfl⟩
                 ·intro a w ux190 hE hM hp
                  have f4 : ux190 4 = (vB x195):=hp 0 _ rfl rfl
                  have f12 : ux190 12 = (vB r203):=hp 1 _ rfl rfl
                  exact Zi hE Za ld (lk rfl f4) (lk rfl f12) (WJ x195 r203) fun a hE=>⟨Kept.refl _ _,_,_,rfl,hE,rfl⟩
                 ·intro a w ux190 hE hM hp
                  have f0 : ux190 0 = (vI s133.2.2):=hp 0 _ rfl rfl
                  exact Zg hE Za ld rfl (lk rfl f0) Try.underlying50 Z7 hi205.1 fun a hE=>⟨Kept.refl _ _,_,_,rfl,hE,rfl⟩
                 ·intro a w ux190 hE hM hp
                  have f1 : ux190 1 = (vI s160.2.2):=hp 1 _ rfl rfl
                  have f14 : ux190 14 = (ptr b7 (0 + (s133.2.2).toNat * 4)):=hp 0 _ rfl rfl
                  exact Zg hE Za ld (lk rfl f14) (lk rfl f1) Try.underlying42 ty5 hi208.1 fun a hE=>⟨Kept.refl _ _,_,_,rfl,hE,rfl⟩
                 ·intro a w ux190 hE hM hg
                  have hE:=hE.sub (e':=[(145,(vB (x195 ^^^ r203))),(147,(ptr b7 (0 + (s133.2.2).toNat * 4 + (s160.2.2).toNat * 1))),(0,vI p0),(3,(ptr b1 0)),(5,(ptr b3 0)),(6,(ptr b7 0)),(7,vB r82),(8,vI s13.2.2.1),(12,vI s133.2.2),(13,vB x145),(14,vI s160.2.2),(16,vI s13.2.2.1),(98,vI s133.2.2),(113,vI s160.2.2)]) ⟨lk rfl (hg 13 (by decide)),lk rfl (hg 15 (by decide)),rfl,rfl,rfl,rfl,rfl,rfl,rfl,rfl,rfl,rfl,rfl,rfl,trivial⟩
                  refine Zo (seg:=[(vB (x195 ^^^ r203))]) (cs':=enc (s160.2.1.setIfInBounds (s133.2.2).toNat (x206.setIfInBounds (s160.2.2).toNat (x195 ^^^ r203)))) hE hM Za rfl rfl rfl ty5 rfl (Wu (o':=0 + (s160.2.2).toNat * 1) hi205 (ZG (v:=x206) (x:=x195 ^^^ r203) hi208.1) (by first | omega | (simp only [Flat.n] <;> omega))) (Flat.cell (x195 ^^^ r203 : UInt8)) (YW (o':=0 + (s160.2.2).toNat * 1) hi205 (ZG (v:=x206) (x:=x195 ^^^ r203) hi208.1) (Zz (v:=x206) (x:=x195 ^^^ r203) hi208.1) (by first | omega | (simp only [Flat.n] <;> omega))) fun w a hM hE=>Zh (Z9 (Zw (wp_region_lit (Zi hE Za ld rfl rfl rfl fun a hE=>Zd hE Za ld rfl fun a hE=>Zh (Zj ?_)))))
                  exact ⟨_,(ois hF167),hE.sub ⟨rfl,rfl,rfl,rfl,rfl,rfl,rfl,rfl,rfl,rfl,rfl,trivial⟩,hM⟩
               ·intro hb164
                have hs161:=Zv hs161 hb164
                refine wp_exit (Zm (Zm (Yf ?_)))
                have ht211:=hx162 _ (ois hs161)
                subst ht211
                refine Zj ?_
                exact ⟨hE.sub ⟨rfl,rfl,rfl,rfl,rfl,rfl,rfl,rfl,trivial⟩,hM⟩
              ·skip
               rintro a w ⟨hE,hM⟩
               have ht212:=Option.some.inj hF159
               subst ht212
               refine Zj ?_
               exact ⟨hE.sub ⟨rfl,rfl,rfl,rfl,rfl,rfl,rfl,rfl,trivial⟩,hM⟩
             ·intro hb156
              have hl154:=Zv hl154 hb156
              refine wp_skip ?_
              have ht213:=Option.some.inj hl154
              subst ht213
              refine Zj ?_
              exact ⟨hE.sub ⟨rfl,rfl,rfl,rfl,rfl,rfl,rfl,rfl,trivial⟩,hM⟩
            ·skip
             rintro a w ⟨hE,hM⟩
             refine Z9 ?_
             have ht214:=Option.some.inj hF155
             subst ht214
             refine Zj ?_
             exact ⟨hE.sub ⟨rfl,rfl,rfl,rfl,rfl,rfl,rfl,rfl,trivial⟩,hM⟩
          ·skip
           rintro a w ⟨hE,hM⟩
           refine wp_region_lit (Zi hE Za ld rfl rfl rfl fun a hE=>Zd hE Za ld rfl fun a hE=>Zh (Zj ?_))
           exact ⟨_,(ois hF140),hE.sub ⟨rfl,rfl,rfl,rfl,rfl,rfl,rfl,rfl,trivial⟩,hM⟩
         ·intro hb137
          have hs134:=Zv hs134 hb137
          refine wp_exit (Zm (Zm (Yf ?_)))
          have ht215:=hx135 _ (ois hs134)
          subst ht215
          refine Zj ?_
          exact ⟨hE.sub ⟨rfl,rfl,rfl,rfl,rfl,rfl,trivial⟩,hM⟩
        ·skip
         rintro a w ⟨hE,hM⟩
         refine Z9 (Zw (wp_region_lit (Zi hE Za ld rfl rfl rfl fun a hE=>Zd hE Za ld rfl fun a hE=>Zh (Zj ?_))))
         exact ⟨_,(ois hF132),hE.sub ⟨rfl,rfl,rfl,rfl,rfl,rfl,trivial⟩,hM⟩
  ·intro hb17
   have hs14:=Zv hs14 hb17
   refine wp_exit (Zm (Zm (Yf ?_)))
   have ht216:=hx15 _ (ois hs14)
   subst ht216
   refine Zj ?_
   have hM:=M.fst (l:=[_,_]) ((hM.pull (pre:=[_])).pull (pre:=[_]))
   exact ⟨(s13.2.1,s13.2.2.2),rfl,hE.sub ⟨rfl,rfl,rfl,trivial⟩,hM⟩
 ·skip
  rintro a w ⟨s12,ht,hE,hM⟩
  subst ht
  have hF11:=Ur hF11
  refine Zw ?_
  obtain ⟨j217,hl218,hF219⟩:=bind_some hF11
  refine ZM (fun a w=>Env 153 a [(4,vB j217.2),(5,(ptr b3 0))] ∧ M (Old w0) w0 w [raw b3 (enc j217.1)]) ?_ ?_
  ·skip
   refine YZ (n:=153) (hd:=[_,_,_]) (tl:=[_]) Wl rfl rfl [151,152,4] (by decide) (fun w=>M (Old w0) w0 w [raw b7 (enc s12.1),raw b3 (enc (Vector.replicate 4 (Vector.replicate 4 (0 : UInt8))))]) (fun j=>([fun v _=>v = (vB s12.2),fun v _=>v = (Value.agg (enc s12.1).toArray),fun v _=>v = (vB s12.2)] : List (Value → World → Prop)).getD j (fun _ _=>True)) (fun _ _ h hk=>h.keep hk) (gup (Zk (Zk (Zk V3)))) hE hM.drew (ZQ (Zb ?_ (Zb ?_ (Zb ?_ ZJ)))) ?_
   ·exact fun a w ux220 hE hM hp=>Zd hE Za ld rfl fun a hE=>⟨Kept.refl _ _,_,_,rfl,hE,rfl⟩
   ·exact fun a w ux220 hE hM hp=>Zn (cs:=enc s12.1) hE Za ld rfl YM rfl (hM.rawAt (pre:=[])) (Flat.len _) fun a hE=>⟨Kept.refl _ _,_,_,rfl,hE,rfl⟩
   ·intro a w ux220 hE hM hp
    have f0 : ux220 0 = (vB s12.2):=hp 0 _ rfl rfl
    exact Ze hE Za ld (lk rfl f0) fun a hE=>⟨Kept.refl _ _,_,_,rfl,hE,rfl⟩
   ·intro a w ux220 hE hM hg
    have hE:=hE.sub (e':=[(152,(Value.agg (enc s12.1).toArray)),(4,vB s12.2),(5,(ptr b3 0))]) ⟨lk rfl (hg 1 (by decide)),lk rfl (hg 2 (by decide)),rfl,trivial⟩
    have hM:=hM.pull (pre:=[_])
    refine Zo (seg:=enc s12.1) (cs':=enc s12.1) hE hM Za rfl rfl rfl YM (Flat.len _) (zle flq) (Flat.cell _) (Zr flq) fun w a hM hE=>Zh ?_
    have ht221:=Option.some.inj hl218
    subst ht221
    refine Zj ?_
    have hM:=M.fst (l:=[_]) hM
    exact ⟨hE.sub ⟨rfl,rfl,trivial⟩,hM⟩
  ·skip
   rintro a w ⟨hE,hM⟩
   have hr:=Option.some.inj hF219
   subst hr
   have hq222 : Xp Try.prog _ _ (.cell 5 50) _:=Ya hE rfl YM rfl (hM.rawAt (pre:=[])) (Flat.len _) rfl
   have hM:=M.fst (l:=[]) hM
   exact wp_ret (UP hE rfl (Zs hE rfl) hq222 ⟨_,rfl,rfl,hM.kept⟩)
def Wp (p0 : Int) (p1 : (Vector (Vector UInt8 4) 4)) : Option (Bool) :=
 (Yx p0 p1).bind fun r3=>some (r3.1 != 0)
theorem TO (w0 : World) (p0 : Int) (p1 : (Vector (Vector UInt8 4) 4)) (r : Bool) (hF : Wp p0 p1 = some r) :
  Calls Try.prog 124 [vI p0,(Value.agg (enc p1).toArray)].toArray w0 (fun en w'=>∃ v,en = .returned v ∧ (v = (vT r) ∧ Kept (Old w0) w0 w')):=by
 refine ZB (n:=15) Try.func124 rfl rfl (nbl rfl) rfl ?_
 intro a hE
 have hM:=M.start w0
 unfold Wp at hF
 refine Zc (ZZ (cs:=enc p1) hE hM Za ld rfl rfl fun b1 w a hM hE=>Ze hE Za ld rfl fun a hE=>Zf (Zc (Zd hE Za ld rfl fun a hE=>Zn (cs:=enc p1) hE Za ld rfl YM rfl (hM.rawAt (pre:=[])) (Flat.len _) ?_))); intro a hE
 obtain ⟨r3,e4,hF⟩:=bind_some hF
 refine Zt hE Za ld rfl cb126 (Uq _ p0 p1 r3 e4) ?_
 rintro v w a ⟨rfl,hK⟩ hE
 have hM:=hM.keep hK
 refine Zd hE Za ld rfl fun a hE=>Xo hE Za ld rfl rfl fun a hE=>Xo hE Za ld rfl rfl fun a hE=>ZH hE hM Za ld YM fun b5 w a hM hE=>Ze hE Za ld rfl fun a hE=>Zo (seg:=enc r3.2) (cs':=enc r3.2) hE hM Za rfl rfl rfl YM (Flat.len _) (zle flq) (Flat.cell _) (Zr flq) fun w a hM hE=>Zf (Zc (Zd hE Za ld rfl fun a hE=>Zi hE Za ld rfl rfl (Ha r3.1 0) fun a hE=>Ze hE Za ld rfl fun a hE=>Zf ?_))
 have hr:=Option.some.inj hF
 subst hr
 have hM:=M.fst (l:=[]) hM
 exact wp_ret (Zx hE rfl (Zs hE rfl) ⟨_,rfl,rfl,hM.kept⟩)
def W0 (p0 : (List UInt8)) (p1 : UInt8) : Option (Int) :=
 some (indexByte p0 p1)
theorem Qw (w0 : World) (p0 : (List UInt8)) (v0_1 : Value) (hv0_1 : Ro w0 p0 [v0_1]) (p1 : UInt8) (r : Int) (hF : W0 p0 p1 = some r) :
  Calls Try.prog 102 [v0_1,vB p1].toArray w0 (fun en w'=>∃ v,en = .returned v ∧ (v = (vI r) ∧ Kept (Old w0) w0 w')):=by
 refine ZB (n:=8) Try.func102 rfl rfl (nbl rfl) rfl ?_
 intro a hE
 have hM:=M.start w0
 unfold W0 at hF
 refine Zc (Ze hE Za ld rfl fun a hE=>Zf (Zc (Zd hE Za ld rfl fun a hE=>Zd hE Za ld rfl fun a hE=>Hz hE Za ld rfl Try.func142 rfl (by decide) (by kernel_rfl) (by kernel_rfl) (hM.rd hv0_1) fun a hE=>Ze hE Za ld rfl fun a hE=>Zf ?_)))
 have hr:=Option.some.inj hF
 subst hr
 exact wp_ret (Zx hE rfl (Zs hE rfl) ⟨_,rfl,rfl,hM.kept⟩)
def YC (p0 : (List UInt8)) (s5 : Int) : Option (Fl Int (Fl Unit Bool)) :=
 if (decide (s5 < (p0.length : Int))) = true then ((idx p0 s5).bind fun x10=>(slc p0 (0 : Int) s5).bind fun l13=>(W0 l13 x10).bind fun r16=>if (decide (r16 ≥ 0)) = true then (some (Fl.ex (Fl.ex false))) else (some (Fl.nx (wr (s5 + 1))))) else (some (Fl.ex (Fl.nx ())))
def XB (p0 : (List UInt8)) : Option (Bool) :=
 (ZE (YC p0) 0).bind fun j1=>j1.el (fun s4=>some true) (fun r=>some r)
theorem TN (w0 : World) (p0 : (List UInt8)) (v0_1 : Value) (hv0_1 : Ro w0 p0 [v0_1]) (r : Bool) (hF : XB p0 = some r) :
  Calls Try.prog 101 [v0_1].toArray w0 (fun en w'=>∃ v,en = .returned v ∧ (v = (vT r) ∧ Kept (Old w0) w0 w')):=by
 refine ZB (n:=19) Try.func101 rfl rfl (nbl rfl) rfl ?_
 intro a hE
 have hM:=M.start w0
 unfold XB at hF
 refine Zc (Ze hE Za ld rfl fun a hE=>Zf (wp_seq (Zc (Zd hE Za ld rfl fun a hE=>Ws hE Za ld rfl Try.underlying22 (hM.rd hv0_1) fun a hE=>Zd hE Za ld rfl fun a hE=>Zf ?_))))
 obtain ⟨j1,hl2,hF3⟩:=bind_some hF
 refine ZL (fun a w=>∃ s4 : Unit,j1 = Fl.nx s4 ∧ Env 19 a [] ∧ M (Old w0) w0 w []) ?_ ?_
 ·skip
  refine wp_block ?_
  refine ZF (fun (s5 : Int) a w=>Env 19 a [(0,v0_1),(5,v0_1),(6,(vI (p0.length : Int))),(7,vI s5)] ∧ M (Old w0) w0 w []) hl2 ⟨hE.sub ⟨rfl,rfl,rfl,rfl,trivial⟩,hM⟩ ?_
  rintro s5 a w ⟨hE,hM⟩ o8 hs6 hx7
  unfold YC at hs6
  refine Zc (Zi hE Za ld rfl rfl rfl fun a hE=>Zf (wp_seq ?_))
  refine Zq hE rfl ?_ ?_
  ·intro hb9
   have hs6:=Zu hs6 hb9
   refine wp_skip (Zw (wp_seq (wp_block (Zc (Zd hE Za ld rfl ?_))))); intro a hE
   obtain ⟨x10,hi12,hs6⟩:=bix hs6
   refine Yk hE Za ld rfl rfl Try.underlying22 ty5 (hM.rd hv0_1) hi12.1 fun a hE=>ZC (v:=(vB x10)) hE Za ld rfl ty5 rfl (WD (hM.rd hv0_1) hi12.2) fun a hE=>Ze hE Za ld rfl fun a hE=>Ze hE Za ld rfl fun a hE=>Zf (Zc (Zd hE Za ld rfl fun a hE=>Zd hE Za ld rfl ?_)); intro a hE
   obtain ⟨l13,e14,hs6⟩:=bind_some hs6
   refine J4 hE Za ld rfl rfl rfl rfl rfl Try.underlying22 ty5 (hM.rd hv0_1) e14 ?_; intro a hE
   have h15 : Rep.sat (Old w0) w0 l13 [(WF v0_1 ((0 : Int)).toNat (s5).toNat 1)] []:=K7 hv0_1 e14 -- ^
   refine Zd hE Za ld rfl ?_; intro a hE
   obtain ⟨r16,e17,hs6⟩:=bind_some hs6
   refine Zt hE Za ld rfl cb102 (Qw _ l13 (WF v0_1 ((0 : Int)).toNat (s5).toNat 1) (hM.rdo h15) x10 r16 e17) ?_
   rintro v w a ⟨rfl,hK⟩ hE
   have hM:=hM.keep hK
   refine Zi hE Za ld rfl rfl rfl fun a hE=>Zf ?_
   refine Zq hE rfl ?_ ?_
   ·intro hb18
    have hs6:=Zu hs6 hb18
    refine Zc (Ze hE Za ld rfl fun a hE=>Zf ?_)
    have ht19:=hx7 _ (ois hs6)
    subst ht19
    have hr:=Option.some.inj hF3
    subst hr
    exact wp_ret (YG (ZD (ZD (YG (ZD (ZD (Zx hE rfl (Zs hE rfl) ⟨_,rfl,rfl,hM.kept⟩)))))))
   ·intro hb18
    have hs6:=Zv hs6 hb18
    refine wp_skip (Z9 (Zw (wp_region_lit (Zi hE Za ld rfl rfl rfl fun a hE=>Zd hE Za ld rfl fun a hE=>Zh (Zj ?_)))))
    exact ⟨_,(ois hs6),hE.sub ⟨rfl,rfl,rfl,rfl,trivial⟩,hM⟩
  ·intro hb9
   have hs6:=Zv hs6 hb9
   refine wp_exit (Zm (Zm (Yf ?_)))
   have ht20:=hx7 _ (ois hs6)
   subst ht20
   refine Zj ?_
   exact ⟨(),rfl,hE.sub trivial,hM⟩
 ·skip
  rintro a w ⟨s4,ht,hE,hM⟩
  subst ht
  have hF3:=Ur hF3
  refine Zw (Zc (Ze hE Za ld rfl fun a hE=>Zf ?_))
  have hr:=Option.some.inj hF3
  subst hr
  exact wp_ret (Zx hE rfl (Zs hE rfl) ⟨_,rfl,rfl,hM.kept⟩)
def Xn (p0 : (Vector UInt8 16)) (s7 : Int) : Option (Fl Int (Fl Unit Bool)) :=
 if (decide (s7 < 16)) = true then ((Zy p0 s7).bind fun x12=>if (decide (x12 > 15)) = true then (some (Fl.ex (Fl.ex false))) else (some (Fl.nx (wr (s7 + 1))))) else (some (Fl.ex (Fl.nx ())))
def Wz (p0 : (Vector UInt8 16)) : Option (Bool) :=
 (ZE (Xn p0) 0).bind fun j3=>j3.el (fun s6=>(slc p0.toList (0 : Int) (16 : Int)).bind fun l18=>(XB l18).bind fun r21=>some r21) (fun r=>some r)
theorem Q0 (w0 : World) (p0 : (Vector UInt8 16)) (r : Bool) (hF : Wz p0 = some r) :
  Calls Try.prog 125 [(Value.agg (enc p0).toArray)].toArray w0 (fun en w'=>∃ v,en = .returned v ∧ (v = (vT r) ∧ Kept (Old w0) w0 w')):=by
 refine ZB (n:=14) Try.func125 rfl rfl (nbl rfl) rfl ?_
 intro a hE
 have hM:=M.start w0
 unfold Wz at hF
 refine Zc (ZZ (cs:=enc p0) hE hM Za ld rfl rfl fun b1 w a hM hE=>Ze hE Za ld rfl fun a hE=>Zf (wp_seq (Zc (Zn (cs:=enc p0) hE Za ld rfl Ul rfl (hM.rawAt (pre:=[])) (Flat.len _) fun a hE=>Zd hE Za ld rfl fun a hE=>Zf ?_))))
 obtain ⟨j3,hl4,hF5⟩:=bind_some hF
 refine ZL (fun a w=>∃ s6 : Unit,j3 = Fl.nx s6 ∧ Env 14 a [(1,(ptr b1 0))] ∧ M (Old w0) w0 w [raw b1 (enc p0)]) ?_ ?_
 ·skip
  refine wp_block ?_
  refine ZF (fun (s7 : Int) a w=>Env 14 a [(1,(ptr b1 0)),(5,(Value.agg (enc p0).toArray)),(6,vI s7)] ∧ M (Old w0) w0 w [raw b1 (enc p0)]) hl4 ⟨hE.sub ⟨rfl,rfl,rfl,trivial⟩,hM⟩ ?_
  rintro s7 a w ⟨hE,hM⟩ o10 hs8 hx9
  unfold Xn at hs8
  refine Zc (Zi hE Za ld rfl rfl rfl fun a hE=>Zf (wp_seq ?_))
  refine Zq hE rfl ?_ ?_
  ·intro hb11
   have hs8:=Zu hs8 hb11
   refine wp_skip (Zw (wp_seq (wp_block (Zc ?_))))
   obtain ⟨x12,hi14,hs8⟩:=bvx hs8
   refine UC hE Za ld rfl rfl Try.underlying51 ty5 rfl rfl hi14 rfl fun a hE=>Ze hE Za ld rfl fun a hE=>Zf (Zc (Zd hE Za ld rfl fun a hE=>Zi hE Za ld rfl rfl (bB_gtr x12 15) fun a hE=>Zf ?_))
   refine Zq hE rfl ?_ ?_
   ·intro hb15
    have hs8:=Zu hs8 hb15
    refine Zc (Ze hE Za ld rfl fun a hE=>Zf ?_)
    have ht16:=hx9 _ (ois hs8)
    subst ht16
    have hr:=Option.some.inj hF5
    subst hr
    have hM:=M.fst (l:=[]) hM
    exact wp_ret (YG (ZD (ZD (YG (ZD (ZD (Zx hE rfl (Zs hE rfl) ⟨_,rfl,rfl,hM.kept⟩)))))))
   ·intro hb15
    have hs8:=Zv hs8 hb15
    refine wp_skip (Z9 (Zw (wp_region_lit (Zi hE Za ld rfl rfl rfl fun a hE=>Zd hE Za ld rfl fun a hE=>Zh (Zj ?_)))))
    exact ⟨_,(ois hs8),hE.sub ⟨rfl,rfl,rfl,trivial⟩,hM⟩
  ·intro hb11
   have hs8:=Zv hs8 hb11
   refine wp_exit (Zm (Zm (Yf ?_)))
   have ht17:=hx9 _ (ois hs8)
   subst ht17
   refine Zj ?_
   exact ⟨(),rfl,hE.sub ⟨rfl,trivial⟩,hM⟩
 ·skip
  rintro a w ⟨s6,ht,hE,hM⟩
  subst ht
  have hF5:=Ur hF5
  refine Zw (Zc ?_)
  obtain ⟨l18,e19,hF5⟩:=bind_some hF5
  have hb20:=J7 e19 -- ^
  refine T6 (N:=16) hE Za ld rfl rfl rfl rfl rfl Try.underlying51 ty5 hb20 ?_; intro a hE
  obtain ⟨r21,e22,hF5⟩:=bind_some hF5
  refine Zt hE Za ld rfl cb101 (TN _ l18 (WF (.slice (some ⟨b1,0,none⟩) 16 16) ((0 : Int)).toNat ((16 : Int)).toNat 1) (K7 (At.sat (hM.rawAt (pre:=[])) (by simp) (by decide)) e19) r21 e22) ?_
  rintro v w a ⟨rfl,hK⟩ hE
  have hM:=hM.keep hK
  refine Ze hE Za ld rfl fun a hE=>Zf ?_
  have hr:=Option.some.inj hF5
  subst hr
  have hM:=M.fst (l:=[]) hM
  exact wp_ret (Zx hE rfl (Zs hE rfl) ⟨_,rfl,rfl,hM.kept⟩)
def WQ (p0 : GCipher) : Option (Bool) :=
 ((Vm p0.Field).bind fun r6=>if r6 = true then ((Xj p0.Box).bind fun r9=>if r9 = true then ((Wp p0.Field p0.Mix).bind fun r12=>if r12 = true then ((Wz p0.Places).bind fun r15=>if r15 = true then ((YO p0.Rounds 1 20).bind fun r18=>some r18) else (some false)) else (some false)) else (some false)) else (some false) : Option (Bool)).bind fun j3=>some j3
theorem Kr (w0 : World) (p0 : GCipher) (r : Bool) (hF : WQ p0 = some r) :
  Calls Try.prog 74 [(Value.agg (enc p0).toArray)].toArray w0 (fun en w'=>∃ v,en = .returned v ∧ (v = (vT r) ∧ Kept (Old w0) w0 w')):=by
 refine ZB (n:=28) Try.func74 rfl rfl (nbl rfl) rfl ?_
 intro a hE
 have hM:=M.start w0
 unfold WQ at hF
 refine Zc (ZZ (cs:=cat [[vI p0.Field],enc p0.Box,enc p0.Mix,enc p0.Places,[vI p0.Rounds]]) hE hM Za ld rfl rfl fun b1 w a hM hE=>Ze hE Za ld rfl fun a hE=>Zf ?_)
 obtain ⟨j3,hl4,hF5⟩:=bind_some hF
 refine ZM (fun a w=>Env 28 a [(2,vT j3)] ∧ M (Old w0) w0 w []) ?_ ?_
 ·skip
  refine wp_region_lit (ZA hE Za ld rfl (Th) fun a hE=>ZC (v:=(vI p0.Field)) hE Za ld rfl ty2 rfl (At.cat (pre:=[]) (hM.rawAt (pre:=[])) cl0) ?_); intro a hE
  obtain ⟨r6,e7,hl4⟩:=bind_some hl4
  refine Zt hE Za ld rfl cb47 (KS _ p0.Field r6 e7) ?_
  rintro v w a ⟨rfl,hK⟩ hE
  have hM:=hM.keep hK
  refine Zd hE Za ld rfl ?_; intro a hE
  refine Xh r6 (fun hb8=>?_) (fun hb8=>?_)
  ·have hl4:=Zu hl4 hb8
   refine ZA hE (Zl hE rfl (lkb rfl hb8)) (by decide) rfl (Tz) fun a hE=>Zn (cs:=enc p0.Box) hE (Zl hE rfl (lkb rfl hb8)) (by decide) rfl Vq rfl (At.cat (pre:=[[vI p0.Field]]) (hM.rawAt (pre:=[])) (cl1 (n:=1) (m:=0) rfl cl0)) (Flat.len _) ?_; intro a hE
   obtain ⟨r9,e10,hl4⟩:=bind_some hl4
   refine Zt hE (Zl hE rfl (lkb rfl hb8)) (by decide) rfl cb123 (Ts _ p0.Box r9 e10) ?_
   rintro v w a ⟨rfl,hK⟩ hE
   have hM:=hM.keep hK
   refine Z0 hE Za ld (lkb rfl hb8) rfl fun a hE=>Zd hE Za ld rfl ?_; intro a hE
   refine Xh r9 (fun hb11=>?_) (fun hb11=>?_)
   ·have hl4:=Zu hl4 hb11
    refine ZA hE (Zl hE rfl (lkb rfl hb11)) (by decide) rfl (Th) fun a hE=>ZC (v:=(vI p0.Field)) hE (Zl hE rfl (lkb rfl hb11)) (by decide) rfl ty2 rfl (At.cat (pre:=[]) (hM.rawAt (pre:=[])) cl0) fun a hE=>ZA hE (Zl hE rfl (lkb rfl hb11)) (by decide) rfl (QP) fun a hE=>Zn (cs:=enc p0.Mix) hE (Zl hE rfl (lkb rfl hb11)) (by decide) rfl YM rfl (At.cat (pre:=[[vI p0.Field],enc p0.Box]) (hM.rawAt (pre:=[])) (cl1 (n:=1) (m:=256) rfl (cl1 (n:=256) (m:=0) (Flat.len _) cl0))) (Flat.len _) ?_; intro a hE
    obtain ⟨r12,e13,hl4⟩:=bind_some hl4
    refine Zt hE (Zl hE rfl (lkb rfl hb11)) (by decide) rfl cb124 (TO _ p0.Field p0.Mix r12 e13) ?_
    rintro v w a ⟨rfl,hK⟩ hE
    have hM:=hM.keep hK
    refine Z0 hE Za ld (lkb rfl hb11) rfl fun a hE=>Zd hE Za ld rfl ?_; intro a hE
    refine Xh r12 (fun hb14=>?_) (fun hb14=>?_)
    ·have hl4:=Zu hl4 hb14
     refine ZA hE (Zl hE rfl (lkb rfl hb14)) (by decide) rfl (QC) fun a hE=>Zn (cs:=enc p0.Places) hE (Zl hE rfl (lkb rfl hb14)) (by decide) rfl Ul rfl (At.cat (pre:=[[vI p0.Field],enc p0.Box,enc p0.Mix]) (hM.rawAt (pre:=[])) (cl1 (n:=1) (m:=272) rfl (cl1 (n:=256) (m:=16) (Flat.len _) (cl1 (n:=16) (m:=0) (Flat.len _) cl0)))) (Flat.len _) ?_; intro a hE
     obtain ⟨r15,e16,hl4⟩:=bind_some hl4
     refine Zt hE (Zl hE rfl (lkb rfl hb14)) (by decide) rfl cb125 (Q0 _ p0.Places r15 e16) ?_
     rintro v w a ⟨rfl,hK⟩ hE
     have hM:=hM.keep hK
     refine Z0 hE Za ld (lkb rfl hb14) rfl fun a hE=>Zd hE Za ld rfl ?_; intro a hE
     refine Xh r15 (fun hb17=>?_) (fun hb17=>?_)
     ·have hl4:=Zu hl4 hb17
      refine ZA hE (Zl hE rfl (lkb rfl hb17)) (by decide) rfl (Q1) fun a hE=>ZC (v:=(vI p0.Rounds)) hE (Zl hE rfl (lkb rfl hb17)) (by decide) rfl ty2 rfl (At.cat (pre:=[[vI p0.Field],enc p0.Box,enc p0.Mix,enc p0.Places]) (hM.rawAt (pre:=[])) (cl1 (n:=1) (m:=288) rfl (cl1 (n:=256) (m:=32) (Flat.len _) (cl1 (n:=16) (m:=16) (Flat.len _) (cl1 (n:=16) (m:=0) (Flat.len _) cl0))))) ?_; intro a hE
      obtain ⟨r18,e19,hl4⟩:=bind_some hl4
      refine Zt hE (Zl hE rfl (lkb rfl hb17)) (by decide) rfl cb49 (W9 _ p0.Rounds 1 20 r18 e19) ?_
      rintro v w a ⟨rfl,hK⟩ hE
      have hM:=hM.keep hK
      refine Z0 hE Za ld (lkb rfl hb17) rfl fun a hE=>Ze hE Za ld rfl fun a hE=>Zh ?_
      have ht20:=Option.some.inj hl4
      subst ht20
      refine Zj ?_
      have hM:=M.fst (l:=[]) hM
      exact ⟨hE.sub ⟨rfl,trivial⟩,hM⟩
     ·have hl4:=Zv hl4 hb17
      refine Zp hE rfl (lkb rfl hb17) rfl (by decide) fun a hE=>Zp hE rfl (lkb rfl hb17) rfl (by decide) fun a hE=>Zp hE rfl (lkb rfl hb17) rfl (by decide) fun a hE=>Yb hE Za ld (lkb rfl hb17) rfl fun a hE=>Ze hE Za ld rfl fun a hE=>Zh ?_
      have ht21:=Option.some.inj hl4
      subst ht21
      refine Zj ?_
      have hM:=M.fst (l:=[]) hM
      exact ⟨hE.sub ⟨rfl,trivial⟩,hM⟩
    ·have hl4:=Zv hl4 hb14
     refine Zp hE rfl (lkb rfl hb14) rfl (by decide) fun a hE=>Zp hE rfl (lkb rfl hb14) rfl (by decide) fun a hE=>Zp hE rfl (lkb rfl hb14) rfl (by decide) fun a hE=>Yb hE Za ld (lkb rfl hb14) rfl fun a hE=>Zd hE Za ld rfl fun a hE=>Zp hE rfl rfl rfl (by decide) fun a hE=>Zp hE rfl rfl rfl (by decide) fun a hE=>Zp hE rfl rfl rfl (by decide) fun a hE=>Yb hE Za ld rfl rfl fun a hE=>Ze hE Za ld rfl fun a hE=>Zh ?_
     have ht22:=Option.some.inj hl4
     subst ht22
     refine Zj ?_
     have hM:=M.fst (l:=[]) hM
     exact ⟨hE.sub ⟨rfl,trivial⟩,hM⟩
   ·have hl4:=Zv hl4 hb11
    refine Zp hE rfl (lkb rfl hb11) rfl (by decide) fun a hE=>Zp hE rfl (lkb rfl hb11) rfl (by decide) fun a hE=>Zp hE rfl (lkb rfl hb11) rfl (by decide) fun a hE=>Zp hE rfl (lkb rfl hb11) rfl (by decide) fun a hE=>Zp hE rfl (lkb rfl hb11) rfl (by decide) fun a hE=>Yb hE Za ld (lkb rfl hb11) rfl fun a hE=>Zd hE Za ld rfl fun a hE=>Zp hE rfl rfl rfl (by decide) fun a hE=>Zp hE rfl rfl rfl (by decide) fun a hE=>Zp hE rfl rfl rfl (by decide) fun a hE=>Yb hE Za ld rfl rfl fun a hE=>Zd hE Za ld rfl ?_; intro a hE
    refine Zp hE rfl rfl rfl (by decide) fun a hE=>Zp hE rfl rfl rfl (by decide) fun a hE=>Zp hE rfl rfl rfl (by decide) fun a hE=>Yb hE Za ld rfl rfl fun a hE=>Ze hE Za ld rfl fun a hE=>Zh ?_
    have ht23:=Option.some.inj hl4
    subst ht23
    refine Zj ?_
    have hM:=M.fst (l:=[]) hM
    exact ⟨hE.sub ⟨rfl,trivial⟩,hM⟩
  ·have hl4:=Zv hl4 hb8
   refine Zp hE rfl (lkb rfl hb8) rfl (by decide) fun a hE=>Zp hE rfl (lkb rfl hb8) rfl (by decide) fun a hE=>Zp hE rfl (lkb rfl hb8) rfl (by decide) fun a hE=>Yb hE Za ld (lkb rfl hb8) rfl fun a hE=>Zd hE Za ld rfl fun a hE=>Zp hE rfl rfl rfl (by decide) fun a hE=>Zp hE rfl rfl rfl (by decide) fun a hE=>Zp hE rfl rfl rfl (by decide) fun a hE=>Zp hE rfl rfl rfl (by decide) fun a hE=>Zp hE rfl rfl rfl (by decide) fun a hE=>Yb hE Za ld rfl rfl fun a hE=>Zd hE Za ld rfl ?_; intro a hE
   refine Zp hE rfl rfl rfl (by decide) fun a hE=>Zp hE rfl rfl rfl (by decide) fun a hE=>Zp hE rfl rfl rfl (by decide) fun a hE=>Yb hE Za ld rfl rfl fun a hE=>Zd hE Za ld rfl fun a hE=>Zp hE rfl rfl rfl (by decide) fun a hE=>Zp hE rfl rfl rfl (by decide) fun a hE=>Zp hE rfl rfl rfl (by decide) fun a hE=>Yb hE Za ld rfl rfl fun a hE=>Ze hE Za ld rfl fun a hE=>Zh ?_
   have ht24:=Option.some.inj hl4
   subst ht24
   refine Zj ?_
   have hM:=M.fst (l:=[]) hM
   exact ⟨hE.sub ⟨rfl,trivial⟩,hM⟩
 ·skip
  rintro a w ⟨hE,hM⟩
  have hr:=Option.some.inj hF5
  subst hr
  exact wp_ret (Zx hE rfl (Zs hE rfl) ⟨_,rfl,rfl,hM.kept⟩)
def W1 (p0 : GCipher) (p1 : Int) : Option (Int) :=
 (WQ p0).bind fun r3=>if (!r3) = true then (some 1) else ((YO p1 0 p0.Rounds).bind fun r6=>if (!r6) = true then (some 2) else (some 0))
theorem Qs (w0 : World) (p0 : GCipher) (p1 : Int) (r : Int) (hF : W1 p0 p1 = some r) :
  Calls Try.prog 136 [(Value.agg (enc p0).toArray),vI p1].toArray w0 (fun en w'=>∃ v,en = .returned v ∧ (v = (vI r) ∧ Kept (Old w0) w0 w')):=by
 refine ZB (n:=15) Try.func136 rfl rfl (nbl rfl) rfl ?_
 intro a hE
 have hM:=M.start w0
 unfold W1 at hF
 refine Zc (ZZ (cs:=cat [[vI p0.Field],enc p0.Box,enc p0.Mix,enc p0.Places,[vI p0.Rounds]]) hE hM Za ld rfl rfl fun b1 w a hM hE=>Ze hE Za ld rfl fun a hE=>Zf (wp_seq (wp_block (Zc (Zn (cs:=enc p0) hE Za ld rfl Uz rfl (hM.rawAt (pre:=[])) (YF (cl1 (n:=1) (m:=289) rfl (cl1 (n:=256) (m:=33) (Flat.len _) (cl1 (n:=16) (m:=17) (Flat.len _) (cl1 (n:=16) (m:=1) (Flat.len _) (cl1 (n:=1) (m:=0) rfl cl0)))))) ?_))))); intro a hE
 obtain ⟨r3,e4,hF⟩:=bind_some hF
 refine Zt hE Za ld rfl cb74 (Kr _ p0 r3 e4) ?_
 rintro v w a ⟨rfl,hK⟩ hE
 have hM:=hM.keep hK
 refine Vf hE Za ld rfl fun a hE=>Ze hE Za ld rfl fun a hE=>Zf ?_
 refine Zq hE rfl ?_ ?_
 ·intro hb5
  have hF:=Zu hF hb5
  refine Zc (Ze hE Za ld rfl fun a hE=>Zf ?_)
  have hr:=Option.some.inj hF
  subst hr
  have hM:=M.fst (l:=[]) hM
  exact wp_ret (YG (ZD (Zx hE rfl (Zs hE rfl) ⟨_,rfl,rfl,hM.kept⟩)))
 ·intro hb5
  have hF:=Zv hF hb5
  refine Zc (Zd hE Za ld rfl fun a hE=>ZA hE Za ld rfl (Q1) fun a hE=>ZC (v:=(vI p0.Rounds)) hE Za ld rfl ty2 rfl (At.cat (pre:=[[vI p0.Field],enc p0.Box,enc p0.Mix,enc p0.Places]) (hM.rawAt (pre:=[])) (cl1 (n:=1) (m:=288) rfl (cl1 (n:=256) (m:=32) (Flat.len _) (cl1 (n:=16) (m:=16) (Flat.len _) (cl1 (n:=16) (m:=0) (Flat.len _) cl0))))) ?_); intro a hE
  obtain ⟨r6,e7,hF⟩:=bind_some hF
  refine Zt hE Za ld rfl cb49 (W9 _ p1 0 p0.Rounds r6 e7) ?_
  rintro v w a ⟨rfl,hK⟩ hE
  have hM:=hM.keep hK
  refine Vf hE Za ld rfl fun a hE=>Ze hE Za ld rfl fun a hE=>Zf ?_
  refine Zq hE rfl ?_ ?_
  ·intro hb8
   have hF:=Zu hF hb8
   refine Zc (Ze hE Za ld rfl fun a hE=>Zf ?_)
   have hr:=Option.some.inj hF
   subst hr
   have hM:=M.fst (l:=[]) hM
   exact wp_ret (YG (ZD (Zx hE rfl (Zs hE rfl) ⟨_,rfl,rfl,hM.kept⟩)))
  ·intro hb8
   have hF:=Zv hF hb8
   refine wp_skip (Z9 (Zw (Zc (Ze hE Za ld rfl fun a hE=>Zf ?_))))
   have hr:=Option.some.inj hF
   subst hr
   have hM:=M.fst (l:=[]) hM
   exact wp_ret (Zx hE rfl (Zs hE rfl) ⟨_,rfl,rfl,hM.kept⟩)
def WI (p0 : Int) : Option (Bool) :=
 (YO p0 0 15).bind fun r1=>some r1
theorem TA (w0 : World) (p0 : Int) (r : Bool) (hF : WI p0 = some r) :
  Calls Try.prog 88 [vI p0].toArray w0 (fun en w'=>∃ v,en = .returned v ∧ (v = (vT r) ∧ Kept (Old w0) w0 w')):=by
 refine ZB (n:=5) Try.func88 rfl rfl (nbl rfl) rfl ?_
 intro a hE
 have hM:=M.start w0
 unfold WI at hF
 refine Zc (Ze hE Za ld rfl fun a hE=>Zf (Zc (Zd hE Za ld rfl ?_))); intro a hE
 obtain ⟨r1,e2,hF⟩:=bind_some hF
 refine Zt hE Za ld rfl cb49 (W9 _ p0 0 15 r1 e2) ?_
 rintro v w a ⟨rfl,hK⟩ hE
 have hM:=hM.keep hK
 refine Ze hE Za ld rfl fun a hE=>Zf ?_
 have hr:=Option.some.inj hF
 subst hr
 exact wp_ret (Zx hE rfl (Zs hE rfl) ⟨_,rfl,rfl,hM.kept⟩)
def WS (p0 : GCipher) (p1 : Int) (p2 : Int) : Option (Int) :=
 (W1 p0 p2).bind fun r3=>if (r3 != 0) = true then (some r3) else ((WI p1).bind fun r6=>if (!r6) = true then (some 2) else (some 0))
theorem Kk (w0 : World) (p0 : GCipher) (p1 : Int) (p2 : Int) (r : Int) (hF : WS p0 p1 p2 = some r) :
  Calls Try.prog 86 [(Value.agg (enc p0).toArray),vI p1,vI p2].toArray w0 (fun en w'=>∃ v,en = .returned v ∧ (v = (vI r) ∧ Kept (Old w0) w0 w')):=by
 refine ZB (n:=19) Try.func86 rfl rfl (nbl rfl) rfl ?_
 intro a hE
 have hM:=M.start w0
 unfold WS at hF
 refine Zc (ZZ (cs:=cat [[vI p0.Field],enc p0.Box,enc p0.Mix,enc p0.Places,[vI p0.Rounds]]) hE hM Za ld rfl rfl fun b1 w a hM hE=>Ze hE Za ld rfl fun a hE=>Zf (wp_seq (Zc (Zn (cs:=enc p0) hE Za ld rfl Uz rfl (hM.rawAt (pre:=[])) (YF (cl1 (n:=1) (m:=289) rfl (cl1 (n:=256) (m:=33) (Flat.len _) (cl1 (n:=16) (m:=17) (Flat.len _) (cl1 (n:=16) (m:=1) (Flat.len _) (cl1 (n:=1) (m:=0) rfl cl0)))))) fun a hE=>Zd hE Za ld rfl ?_)))); intro a hE
 obtain ⟨r3,e4,hF⟩:=bind_some hF
 refine Zt hE Za ld rfl cb136 (Qs _ p0 p2 r3 e4) ?_
 rintro v w a ⟨rfl,hK⟩ hE
 have hM:=hM.keep hK
 refine Ze hE Za ld rfl fun a hE=>Zf (wp_block (Zc (Zd hE Za ld rfl fun a hE=>Zi hE Za ld rfl rfl rfl fun a hE=>Ze hE Za ld rfl fun a hE=>Zf ?_)))
 refine Zq hE rfl ?_ ?_
 ·intro hb5
  have hF:=Zu hF hb5
  refine Zc (Zd hE Za ld rfl fun a hE=>Ze hE Za ld rfl fun a hE=>Zf ?_)
  have hr:=Option.some.inj hF
  subst hr
  have hM:=M.fst (l:=[]) hM
  exact wp_ret (YG (ZD (Zx hE rfl (Zs hE rfl) ⟨_,rfl,rfl,hM.kept⟩)))
 ·intro hb5
  have hF:=Zv hF hb5
  refine Zc (Zd hE Za ld rfl ?_); intro a hE
  obtain ⟨r6,e7,hF⟩:=bind_some hF
  refine Zt hE Za ld rfl cb88 (TA _ p1 r6 e7) ?_
  rintro v w a ⟨rfl,hK⟩ hE
  have hM:=hM.keep hK
  refine Vf hE Za ld rfl fun a hE=>Ze hE Za ld rfl fun a hE=>Zf ?_
  refine Zq hE rfl ?_ ?_
  ·intro hb8
   have hF:=Zu hF hb8
   refine Zc (Ze hE Za ld rfl fun a hE=>Zf ?_)
   have hr:=Option.some.inj hF
   subst hr
   have hM:=M.fst (l:=[]) hM
   exact wp_ret (YG (ZD (Zx hE rfl (Zs hE rfl) ⟨_,rfl,rfl,hM.kept⟩)))
  ·intro hb8
   have hF:=Zv hF hb8
   refine wp_skip (Z9 (Zw (Zc (Ze hE Za ld rfl fun a hE=>Zf ?_))))
   have hr:=Option.some.inj hF
   subst hr
   have hM:=M.fst (l:=[]) hM
   exact wp_ret (Zx hE rfl (Zs hE rfl) ⟨_,rfl,rfl,hM.kept⟩)
def Xf (p0 : (List (Vector UInt8 16))) : Option (Int) :=
 some (p0.length : Int)
theorem UT (w0 : World) (p0 : (List (Vector UInt8 16))) (v0_1 : Value) (hv0_1 : Ro w0 p0 [v0_1]) (r : Int) (hF : Xf p0 = some r) :
  Calls Try.prog 87 [v0_1].toArray w0 (fun en w'=>∃ v,en = .returned v ∧ (v = (vI r) ∧ Kept (Old w0) w0 w')):=by
 refine ZB (n:=5) Try.func87 rfl rfl (nbl rfl) rfl ?_
 intro a hE
 have hM:=M.start w0
 unfold Xf at hF
 refine Zc (Ze hE Za ld rfl fun a hE=>Zf (Zc (Zd hE Za ld rfl fun a hE=>Ws hE Za ld rfl Try.underlying69 (hM.rd hv0_1) fun a hE=>Ze hE Za ld rfl fun a hE=>Zf ?_)))
 have hr:=Option.some.inj hF
 subst hr
 exact wp_ret (Zx hE rfl (Zs hE rfl) ⟨_,rfl,rfl,hM.kept⟩)
def YQ (p0 : (Vector UInt8 256)) (s10 : (Vector UInt8 256) × Int) : Option (Fl ((Vector UInt8 256) × Int) (Vector UInt8 256)) :=
 if (decide (s10.2 < 256)) = true then ((Zy p0 s10.2).bind fun x15=>(Zy s10.1 (bI x15)).bind fun x19=>some (Fl.nx ((s10.1.setIfInBounds ((bI x15)).toNat (ZI s10.2)),wr (s10.2 + 1)))) else (some (Fl.ex s10.1))
def XS (p0 : (Vector UInt8 256)) : Option ((Vector UInt8 256)) :=
 (ZE (YQ p0) ((Vector.replicate 256 (0 : UInt8)),0)).bind fun j7=>some j7
theorem TX (w0 : World) (p0 : (Vector UInt8 256)) (r : (Vector UInt8 256)) (hF : XS p0 = some r) :
  Calls Try.prog 127 [(Value.agg (enc p0).toArray)].toArray w0 (fun en w'=>∃ v,en = .returned v ∧ (v = (Value.agg (enc r).toArray) ∧ Kept (Old w0) w0 w')):=by
 refine ZB (n:=18) Try.func127 rfl rfl (nbl rfl) rfl ?_
 intro a hE
 have hM:=M.start w0
 unfold XS at hF
 refine Zc (ZZ (cs:=enc p0) hE hM Za ld rfl rfl fun b1 w a hM hE=>ZH hE hM Za ld Vq fun b3 w a hM hE=>Zf (Zc (XV (parts:=[]) (vs:=[]) (cs:=enc (Vector.replicate 256 (0 : UInt8))) hE Za ld rfl rfl Vq rfl ty5 Y7 fun a hE=>ZH hE hM Za ld Vq fun b5 w a hM hE=>Zo (seg:=enc (Vector.replicate 256 (0 : UInt8))) (cs':=enc (Vector.replicate 256 (0 : UInt8))) hE hM Za rfl rfl rfl Vq (Flat.len _) (zle flq) (Flat.cell _) (Zr flq) fun w a hM hE=>Zf (wp_seq (Zc (Zn (cs:=enc p0) hE Za ld rfl Vq rfl (hM.rawAt (pre:=[_,_])) (Flat.len _) fun a hE=>Zd hE Za ld rfl fun a hE=>Zf ?_))))))
 obtain ⟨j7,hl8,hF9⟩:=bind_some hF
 refine ZL (fun a w=>Env 18 a [(2,(ptr b3 0)),(3,(ptr b5 0))] ∧ M (Old w0) w0 w [raw b5 (enc j7),raw b3 (enc (Vector.replicate 256 (0 : UInt8)))]) ?_ ?_
 ·skip
  refine wp_block ?_
  have hM:=M.fst (l:=[_,_]) ((hM.pull (pre:=[_])).pull (pre:=[_]))
  refine ZF (fun (s10 : (Vector UInt8 256) × Int) a w=>Env 18 a [(2,(ptr b3 0)),(3,(ptr b5 0)),(7,(Value.agg (enc p0).toArray)),(8,vI s10.2)] ∧ M (Old w0) w0 w [raw b5 (enc s10.1),raw b3 (enc (Vector.replicate 256 (0 : UInt8)))]) hl8 ⟨hE.sub ⟨rfl,rfl,rfl,rfl,trivial⟩,hM⟩ ?_
  rintro s10 a w ⟨hE,hM⟩ o13 hs11 hx12
  unfold YQ at hs11
  refine Zc (Zi hE Za ld rfl rfl rfl fun a hE=>Zf (wp_seq ?_))
  refine Zq hE rfl ?_ ?_
  ·intro hb14
   have hs11:=Zu hs11 hb14
   refine wp_skip (Zw (wp_seq (wp_block (Zc (Zd hE Za ld rfl ?_))))); intro a hE
   obtain ⟨x15,hi17,hs11⟩:=bvx hs11
   refine UC hE Za ld rfl rfl Try.underlying49 ty5 rfl rfl hi17 rfl fun a hE=>Ze hE Za ld rfl fun a hE=>Ze hE Za ld rfl fun a hE=>Zf (wp_region_lit (Zd hE Za ld rfl fun a hE=>Zd hE Za ld rfl fun a hE=>Vc hE Za ld rfl Try.underlying3 Try.underlying5 ?_)); intro a hE
   rw [Xs] at hE
   obtain ⟨x19,hi18,hs11⟩:=bvx hs11
   refine Zg hE Za ld rfl rfl Try.underlying49 ty5 hi18.1 fun a hE=>Zo (seg:=[(vB (ZI s10.2))]) (cs':=enc (s10.1.setIfInBounds ((bI x15)).toNat (ZI s10.2))) hE hM Za rfl rfl rfl ty5 rfl (ZG (v:=s10.1) (x:=ZI s10.2) hi18.1) (Flat.cell (ZI s10.2 : UInt8)) (Zz (v:=s10.1) (x:=ZI s10.2) hi18.1) fun w a hM hE=>Zh (Z9 (Zw (wp_region_lit (Zi hE Za ld rfl rfl rfl fun a hE=>Zd hE Za ld rfl fun a hE=>Zh (Zj ?_)))))
   exact ⟨_,(ois hs11),hE.sub ⟨rfl,rfl,rfl,rfl,trivial⟩,hM⟩
  ·intro hb14
   have hs11:=Zv hs11 hb14
   refine wp_exit (Zm (Zm (Yf ?_)))
   have ht21:=hx12 _ (ois hs11)
   subst ht21
   refine Zj ?_
   exact ⟨hE.sub ⟨rfl,rfl,trivial⟩,hM⟩
 ·skip
  rintro a w ⟨hE,hM⟩
  refine Zw (Zc (Zn (cs:=enc j7) hE Za ld rfl Vq rfl (hM.rawAt (pre:=[])) (Flat.len _) ?_)); intro a hE
  have hM:=hM.pull (pre:=[_])
  refine Zo (seg:=enc j7) (cs':=enc j7) hE hM Za rfl rfl rfl Vq (Flat.len _) (zle flq) (Flat.cell _) (Zr flq) fun w a hM hE=>Zf ?_
  have hr:=Option.some.inj hF9
  subst hr
  have hq22 : Xp Try.prog _ _ (.cell 2 49) _:=Ya hE rfl Vq rfl (hM.rawAt (pre:=[])) (Flat.len _) rfl
  have hM:=M.fst (l:=[]) hM
  exact wp_ret (Zx hE rfl hq22 ⟨_,rfl,rfl,hM.kept⟩)
def Yv (p0 : (Vector UInt8 16)) (s10 : (Vector UInt8 16) × Int) : Option (Fl ((Vector UInt8 16) × Int) (Vector UInt8 16)) :=
 if (decide (s10.2 < 16)) = true then ((Zy p0 s10.2).bind fun x15=>(Zy s10.1 (bI x15)).bind fun x19=>some (Fl.nx ((s10.1.setIfInBounds ((bI x15)).toNat (ZI s10.2)),wr (s10.2 + 1)))) else (some (Fl.ex s10.1))
def Y1 (p0 : (Vector UInt8 16)) : Option ((Vector UInt8 16)) :=
 (ZE (Yv p0) ((Vector.replicate 16 (0 : UInt8)),0)).bind fun j7=>some j7
theorem Tp (w0 : World) (p0 : (Vector UInt8 16)) (r : (Vector UInt8 16)) (hF : Y1 p0 = some r) :
  Calls Try.prog 128 [(Value.agg (enc p0).toArray)].toArray w0 (fun en w'=>∃ v,en = .returned v ∧ (v = (Value.agg (enc r).toArray) ∧ Kept (Old w0) w0 w')):=by
 refine ZB (n:=18) Try.func128 rfl rfl (nbl rfl) rfl ?_
 intro a hE
 have hM:=M.start w0
 unfold Y1 at hF
 refine Zc (ZZ (cs:=enc p0) hE hM Za ld rfl rfl fun b1 w a hM hE=>ZH hE hM Za ld Ul fun b3 w a hM hE=>Zf (Zc (XV (parts:=[]) (vs:=[]) (cs:=enc (Vector.replicate 16 (0 : UInt8))) hE Za ld rfl rfl Ul rfl ty5 Y7 fun a hE=>ZH hE hM Za ld Ul fun b5 w a hM hE=>Zo (seg:=enc (Vector.replicate 16 (0 : UInt8))) (cs':=enc (Vector.replicate 16 (0 : UInt8))) hE hM Za rfl rfl rfl Ul (Flat.len _) (zle flq) (Flat.cell _) (Zr flq) fun w a hM hE=>Zf (wp_seq (Zc (Zn (cs:=enc p0) hE Za ld rfl Ul rfl (hM.rawAt (pre:=[_,_])) (Flat.len _) fun a hE=>Zd hE Za ld rfl fun a hE=>Zf ?_))))))
 obtain ⟨j7,hl8,hF9⟩:=bind_some hF
 refine ZL (fun a w=>Env 18 a [(2,(ptr b3 0)),(3,(ptr b5 0))] ∧ M (Old w0) w0 w [raw b5 (enc j7),raw b3 (enc (Vector.replicate 16 (0 : UInt8)))]) ?_ ?_
 ·skip
  refine wp_block ?_
  have hM:=M.fst (l:=[_,_]) ((hM.pull (pre:=[_])).pull (pre:=[_]))
  refine ZF (fun (s10 : (Vector UInt8 16) × Int) a w=>Env 18 a [(2,(ptr b3 0)),(3,(ptr b5 0)),(7,(Value.agg (enc p0).toArray)),(8,vI s10.2)] ∧ M (Old w0) w0 w [raw b5 (enc s10.1),raw b3 (enc (Vector.replicate 16 (0 : UInt8)))]) hl8 ⟨hE.sub ⟨rfl,rfl,rfl,rfl,trivial⟩,hM⟩ ?_
  rintro s10 a w ⟨hE,hM⟩ o13 hs11 hx12
  unfold Yv at hs11
  refine Zc (Zi hE Za ld rfl rfl rfl fun a hE=>Zf (wp_seq ?_))
  refine Zq hE rfl ?_ ?_
  ·intro hb14
   have hs11:=Zu hs11 hb14
   refine wp_skip (Zw (wp_seq (wp_block (Zc (Zd hE Za ld rfl ?_))))); intro a hE
   obtain ⟨x15,hi17,hs11⟩:=bvx hs11
   refine UC hE Za ld rfl rfl Try.underlying51 ty5 rfl rfl hi17 rfl fun a hE=>Ze hE Za ld rfl fun a hE=>Ze hE Za ld rfl fun a hE=>Zf (wp_region_lit (Zd hE Za ld rfl fun a hE=>Zd hE Za ld rfl fun a hE=>Vc hE Za ld rfl Try.underlying3 Try.underlying5 ?_)); intro a hE
   rw [Xs] at hE
   obtain ⟨x19,hi18,hs11⟩:=bvx hs11
   refine Zg hE Za ld rfl rfl Try.underlying51 ty5 hi18.1 fun a hE=>Zo (seg:=[(vB (ZI s10.2))]) (cs':=enc (s10.1.setIfInBounds ((bI x15)).toNat (ZI s10.2))) hE hM Za rfl rfl rfl ty5 rfl (ZG (v:=s10.1) (x:=ZI s10.2) hi18.1) (Flat.cell (ZI s10.2 : UInt8)) (Zz (v:=s10.1) (x:=ZI s10.2) hi18.1) fun w a hM hE=>Zh (Z9 (Zw (wp_region_lit (Zi hE Za ld rfl rfl rfl fun a hE=>Zd hE Za ld rfl fun a hE=>Zh (Zj ?_)))))
   exact ⟨_,(ois hs11),hE.sub ⟨rfl,rfl,rfl,rfl,trivial⟩,hM⟩
  ·intro hb14
   have hs11:=Zv hs11 hb14
   refine wp_exit (Zm (Zm (Yf ?_)))
   have ht21:=hx12 _ (ois hs11)
   subst ht21
   refine Zj ?_
   exact ⟨hE.sub ⟨rfl,rfl,trivial⟩,hM⟩
 ·skip
  rintro a w ⟨hE,hM⟩
  refine Zw (Zc (Zn (cs:=enc j7) hE Za ld rfl Ul rfl (hM.rawAt (pre:=[])) (Flat.len _) ?_)); intro a hE
  have hM:=hM.pull (pre:=[_])
  refine Zo (seg:=enc j7) (cs':=enc j7) hE hM Za rfl rfl rfl Ul (Flat.len _) (zle flq) (Flat.cell _) (Zr flq) fun w a hM hE=>Zf ?_
  have hr:=Option.some.inj hF9
  subst hr
  have hq22 : Xp Try.prog _ _ (.cell 2 51) _:=Ya hE rfl Ul rfl (hM.rawAt (pre:=[])) (Flat.len _) rfl
  have hM:=M.fst (l:=[]) hM
  exact wp_ret (Zx hE rfl hq22 ⟨_,rfl,rfl,hM.kept⟩)
def XM (s8 : (Vector (Vector (Vector UInt8 256) 4) 4) × Int) (s19 : (Vector (Vector (Vector UInt8 256) 4) 4) × Int) (s30 : (Vector (Vector (Vector UInt8 256) 4) 4) × Int) (r35 : UInt8) (s40 : (Vector (Vector (Vector UInt8 256) 4) 4) × Int) : Option (Fl ((Vector (Vector (Vector UInt8 256) 4) 4) × Int) (Vector (Vector (Vector UInt8 256) 4) 4)) :=
 if (decide (s40.2 < s30.2)) = true then ((Zy s40.1 s8.2).bind fun x47=>(Zy x47 s19.2).bind fun x50=>(Zy x50 s40.2).bind fun x53=>(Zy s40.1 s8.2).bind fun x56=>(Zy x56 s19.2).bind fun x59=>(Zy x59 (orI s30.2 s40.2)).bind fun x62=>some (Fl.nx ((s40.1.setIfInBounds (s8.2).toNat (x56.setIfInBounds (s19.2).toNat (x59.setIfInBounds ((orI s30.2 s40.2)).toNat (r35 ^^^ x53)))),wr (s40.2 + 1)))) else (some (Fl.ex s40.1))
def XO (p0 : Int) (s8 : (Vector (Vector (Vector UInt8 256) 4) 4) × Int) (s19 : (Vector (Vector (Vector UInt8 256) 4) 4) × Int) (x24 : UInt8) (s30 : (Vector (Vector (Vector UInt8 256) 4) 4) × Int) : Option (Fl ((Vector (Vector (Vector UInt8 256) 4) 4) × Int) (Vector (Vector (Vector UInt8 256) 4) 4)) :=
 if (decide (s30.2 < 256)) = true then ((ZV p0 x24 (ZI s30.2)).bind fun r35=>(ZE (XM s8 s19 s30 r35) (s30.1,0)).bind fun j37=>some (Fl.nx (j37,wr (s30.2 * 2)))) else (some (Fl.ex s30.1))
def XI (p0 : Int) (s8 : (Vector (Vector (Vector UInt8 256) 4) 4) × Int) (x14 : (Vector UInt8 4)) (s19 : (Vector (Vector (Vector UInt8 256) 4) 4) × Int) : Option (Fl ((Vector (Vector (Vector UInt8 256) 4) 4) × Int) (Vector (Vector (Vector UInt8 256) 4) 4)) :=
 if (decide (s19.2 < 4)) = true then ((Zy x14 s19.2).bind fun x24=>(ZE (XO p0 s8 s19 x24) (s19.1,1)).bind fun j27=>some (Fl.nx (j27,wr (s19.2 + 1)))) else (some (Fl.ex s19.1))
def XJ (p0 : Int) (p1 : (Vector (Vector UInt8 4) 4)) (s8 : (Vector (Vector (Vector UInt8 256) 4) 4) × Int) : Option (Fl ((Vector (Vector (Vector UInt8 256) 4) 4) × Int) (Vector (Vector (Vector UInt8 256) 4) 4)) :=
 if (decide (s8.2 < 4)) = true then ((Zy p1 s8.2).bind fun x14=>(ZE (XI p0 s8 x14) (s8.1,0)).bind fun j16=>some (Fl.nx (j16,wr (s8.2 + 1)))) else (some (Fl.ex s8.1))
def X3 (p0 : Int) (p1 : (Vector (Vector UInt8 4) 4)) : Option ((Ref (Vector (Vector (Vector UInt8 256) 4) 4))) :=
 (ZE (XJ p0 p1) ((Vector.replicate 4 (Vector.replicate 4 (Vector.replicate 256 (0 : UInt8)))),0)).bind fun j5=>some (⟨j5⟩ : (Ref (Vector (Vector (Vector UInt8 256) 4) 4)))
theorem Tm (w0 : World) (p0 : Int) (p1 : (Vector (Vector UInt8 4) 4)) (r : (Ref (Vector (Vector (Vector UInt8 256) 4) 4))) (hF : X3 p0 p1 = some r) :
  Calls Try.prog 129 [vI p0,(Value.agg (enc p1).toArray)].toArray w0 (fun en w'=>∃ v,en = .returned v ∧ (∃ (y1 : Value),v = y1 ∧ Fr w0 w' [own NoB (r : (Ref (Vector (Vector (Vector UInt8 256) 4) 4))) [y1]] ∧ Kept (Old w0) w0 w')):=by
 refine ZB (n:=62) Try.func129 rfl rfl (nbl rfl) rfl ?_
 intro a hE
 have hM:=M.start w0
 unfold X3 at hF
 refine Zc (ZZ (cs:=enc p1) hE hM Za ld rfl rfl fun b1 w a hM hE=>Ze hE Za ld rfl fun a hE=>Zf (Zc (XV (parts:=[]) (vs:=[]) (cs:=enc (Vector.replicate 4 (Vector.replicate 4 (Vector.replicate 256 (0 : UInt8))))) hE Za ld rfl rfl ty180 rfl KF Y7 fun a hE=>ZZ (cs:=enc (Vector.replicate 4 (Vector.replicate 4 (Vector.replicate 256 (0 : UInt8))))) hE hM Za ld rfl rfl fun b3 w a hM hE=>Ze hE Za ld rfl fun a hE=>Zf (wp_seq (Zc (Zd hE Za ld rfl fun a hE=>Zf ?_))))))
 obtain ⟨j5,hl6,hF7⟩:=bind_some hF
 refine ZL (fun a w=>Env 62 a [(5,(ptr b3 0))] ∧ M (Old w0) w0 w [raw b3 (enc j5)]) ?_ ?_
 ·skip
  refine wp_block ?_
  refine ZF (fun (s8 : (Vector (Vector (Vector UInt8 256) 4) 4) × Int) a w=>Env 62 a [(0,vI p0),(3,(ptr b1 0)),(5,(ptr b3 0)),(14,vI s8.2)] ∧ M (Old w0) w0 w [raw b3 (enc s8.1),raw b1 (enc p1)]) hl6 ⟨hE.sub ⟨rfl,rfl,rfl,rfl,trivial⟩,hM⟩ ?_
  rintro s8 a w ⟨hE,hM⟩ o11 hs9 hx10
  unfold XJ at hs9
  refine Zc (Zi hE Za ld rfl rfl rfl fun a hE=>Zf (wp_seq ?_))
  refine Zq hE rfl ?_ ?_
  ·intro hb12
   have hs9:=Zu hs9 hb12
   refine wp_skip (Zw (wp_seq (wp_block (Zc (Zd hE Za ld rfl fun a hE=>Ze hE Za ld rfl fun a hE=>Zf (Zc (Zd hE Za ld rfl ?_))))))); intro a hE
   obtain ⟨x14,hi13,hs9⟩:=bvx hs9
   refine Zg hE Za ld rfl rfl Try.underlying50 Z7 hi13.1 fun a hE=>Zn (cs:=enc x14) hE Za ld rfl Z7 rfl (At.vec (hM.rawAt (pre:=[_])) hi13.2) (Flat.len _) fun a hE=>Zd hE Za ld rfl fun a hE=>Zf ?_
   obtain ⟨j16,hl17,hF18⟩:=bind_some hs9
   refine ZL (fun a w=>Env 62 a [(0,vI p0),(3,(ptr b1 0)),(5,(ptr b3 0)),(14,vI s8.2)] ∧ M (Old w0) w0 w [raw b3 (enc j16),raw b1 (enc p1)]) ?_ ?_
   ·skip
    refine wp_block ?_
    refine ZF (fun (s19 : (Vector (Vector (Vector UInt8 256) 4) 4) × Int) a w=>Env 62 a [(0,vI p0),(3,(ptr b1 0)),(5,(ptr b3 0)),(6,vI s8.2),(14,vI s8.2),(19,(Value.agg (enc x14).toArray)),(20,vI s19.2)] ∧ M (Old w0) w0 w [raw b3 (enc s19.1),raw b1 (enc p1)]) hl17 ⟨hE.sub ⟨rfl,rfl,rfl,rfl,rfl,rfl,rfl,trivial⟩,hM⟩ ?_
    rintro s19 a w ⟨hE,hM⟩ o22 hs20 hx21
    unfold XI at hs20
    refine Zc (Zi hE Za ld rfl rfl rfl fun a hE=>Zf (wp_seq ?_))
    refine Zq hE rfl ?_ ?_
    ·intro hb23
     have hs20:=Zu hs20 hb23
     refine wp_skip (Zw (wp_seq (wp_block (Zc (Zd hE Za ld rfl ?_))))); intro a hE
     obtain ⟨x24,hi26,hs20⟩:=bvx hs20
     refine UC hE Za ld rfl rfl Try.underlying42 ty5 rfl rfl hi26 rfl fun a hE=>Ze hE Za ld rfl fun a hE=>Ze hE Za ld rfl fun a hE=>Zf (Zc (Ze hE Za ld rfl fun a hE=>Zf ?_))
     obtain ⟨j27,hl28,hF29⟩:=bind_some hs20
     refine ZL (fun a w=>Env 62 a [(0,vI p0),(3,(ptr b1 0)),(5,(ptr b3 0)),(6,vI s8.2),(14,vI s8.2),(19,(Value.agg (enc x14).toArray)),(20,vI s19.2)] ∧ M (Old w0) w0 w [raw b3 (enc j27),raw b1 (enc p1)]) ?_ ?_
     ·skip
      refine wp_block ?_
      refine ZF (fun (s30 : (Vector (Vector (Vector UInt8 256) 4) 4) × Int) a w=>Env 62 a [(0,vI p0),(3,(ptr b1 0)),(5,(ptr b3 0)),(6,vI s8.2),(7,vI s19.2),(8,vB x24),(9,vI s30.2),(14,vI s8.2),(19,(Value.agg (enc x14).toArray)),(20,vI s19.2)] ∧ M (Old w0) w0 w [raw b3 (enc s30.1),raw b1 (enc p1)]) hl28 ⟨hE.sub ⟨rfl,rfl,rfl,rfl,rfl,rfl,rfl,rfl,rfl,rfl,trivial⟩,hM⟩ ?_
      rintro s30 a w ⟨hE,hM⟩ o33 hs31 hx32
      unfold XO at hs31
      refine wp_seq (Zc (Zd hE Za ld rfl fun a hE=>Zi hE Za ld rfl rfl rfl fun a hE=>Zf ?_))
      refine Zq hE rfl ?_ ?_
      ·intro hb34
       have hs31:=Zu hs31 hb34
       refine wp_skip (Zw (wp_seq (wp_block (Zc (Zd hE Za ld rfl fun a hE=>Zd hE Za ld rfl fun a hE=>Zd hE Za ld rfl fun a hE=>Vc hE Za ld rfl Try.underlying3 Try.underlying5 ?_))))); intro a hE
       rw [Xs] at hE
       obtain ⟨r35,e36,hs31⟩:=bind_some hs31
       refine Zt hE Za ld rfl Q2 (Yr _ p0 x24 (ZI s30.2) r35 e36) ?_
       rintro v w a ⟨rfl,hK⟩ hE
       have hM:=hM.keep hK
       refine Ze hE Za ld rfl fun a hE=>Zf (Zc (Zd hE Za ld rfl fun a hE=>Zd hE Za ld rfl fun a hE=>Zf ?_))
       obtain ⟨j37,hl38,hF39⟩:=bind_some hs31
       refine ZL (fun a w=>Env 62 a [(0,vI p0),(3,(ptr b1 0)),(5,(ptr b3 0)),(6,vI s8.2),(7,vI s19.2),(8,vB x24),(9,vI s30.2),(14,vI s8.2),(19,(Value.agg (enc x14).toArray)),(20,vI s19.2)] ∧ M (Old w0) w0 w [raw b3 (enc j37),raw b1 (enc p1)]) ?_ ?_
       ·skip
        refine wp_block ?_
        refine ZF (fun (s40 : (Vector (Vector (Vector UInt8 256) 4) 4) × Int) a w=>Env 62 a [(0,vI p0),(3,(ptr b1 0)),(5,(ptr b3 0)),(6,vI s8.2),(7,vI s19.2),(8,vB x24),(9,vI s30.2),(10,vB r35),(14,vI s8.2),(19,(Value.agg (enc x14).toArray)),(20,vI s19.2),(33,vI s30.2),(34,vI s40.2)] ∧ M (Old w0) w0 w [raw b3 (enc s40.1),raw b1 (enc p1)]) hl38 ⟨hE.sub ⟨rfl,rfl,rfl,rfl,rfl,rfl,rfl,rfl,rfl,rfl,rfl,rfl,rfl,trivial⟩,hM⟩ ?_
        rintro s40 a w ⟨hE,hM⟩ o43 hs41 hx42
        unfold XM at hs41
        refine Zc (Zi hE Za ld rfl rfl rfl fun a hE=>Zf (wp_seq ?_))
        refine Zq hE rfl ?_ ?_
        ·intro hb44
         have hs41:=Zu hs41 hb44
         refine wp_skip (Zw (wp_seq (wp_block (Zc (Zd hE Za ld rfl fun a hE=>Ze hE Za ld rfl fun a hE=>Zf ?_)))))
         obtain ⟨x47,hi46,hs41⟩:=bvx hs41
         obtain ⟨x50,hi49,hs41⟩:=bvx hs41
         obtain ⟨x53,hi52,hs41⟩:=bvx hs41
         obtain ⟨x56,hi55,hs41⟩:=bvx hs41
         obtain ⟨x59,hi58,hs41⟩:=bvx hs41
         obtain ⟨x62,hi61,hs41⟩:=bvx hs41
         refine YZ (n:=62) (hd:=[_,_,_,_,_,_,_,_,_,_,_,_,_,_,_,_,_,_,_,_,_]) (tl:=[_]) Wl rfl rfl [37,38,39,40,41,42,43,44,45,46,47,48,49,50,51,52,53,54,55,56,57] (by decide) (fun w=>M (Old w0) w0 w [raw b3 (enc s40.1),raw b1 (enc p1)]) (fun j=>([fun v _=>v = (ptr b3 0),fun v _=>v = (vI s8.2),fun v _=>v = (vI s19.2),fun v _=>v = (vI s30.2),fun v _=>v = (vI s40.2),fun v _=>v = (vI (orI s30.2 s40.2)),fun v _=>v = (vB r35),fun v _=>v = (ptr b3 0),fun v _=>v = (vI s8.2),fun v _=>v = (vI s19.2),fun v _=>v = (vI s40.2),fun v _=>v = (ptr b3 0),fun v _=>v = (ptr b3 (0 + (s8.2).toNat * 1024)),fun v _=>v = (ptr b3 (0 + (s8.2).toNat * 1024 + (s19.2).toNat * 256)),fun v _=>v = (ptr b3 (0 + (s8.2).toNat * 1024 + (s19.2).toNat * 256 + (s40.2).toNat * 1)),fun v _=>v = (vB x53),fun v _=>v = (vB (r35 ^^^ x53)),fun v _=>v = (ptr b3 0),fun v _=>v = (ptr b3 (0 + (s8.2).toNat * 1024)),fun v _=>v = (ptr b3 (0 + (s8.2).toNat * 1024 + (s19.2).toNat * 256)),fun v _=>v = (ptr b3 (0 + (s8.2).toNat * 1024 + (s19.2).toNat * 256 + ((orI s30.2 s40.2)).toNat * 1))] : List (Value → World → Prop)).getD j (fun _ _=>True)) (fun _ _ h hk=>h.keep hk) (gup (Zk (Zk (Zk (Zk (Zk (Zk (Zk (Zk (Zk (Zk (Zk (Zk (Zk (Zk (Zk (Zk (Zk (Zk (Zk (Zk (Zk V3)))))))))))))))))))))) hE hM.drew (ZQ (Zb ?_ (Zb ?_ (Zb ?_ (Zb ?_ (Zb ?_ (Zb ?_ (Zb ?_ (Zb ?_ (Zb ?_ (Zb ?_ (Zb ?_ (Zb ?_ (Zb ?_ (Zb ?_ (Zb ?_ (Zb ?_ (Zb ?_ (Zb ?_ (Zb ?_ (Zb ?_ (Zb ?_ ZJ)))))))))))))))))))))) ?_
         ·exact fun a w ux45 hE hM hp=>Zd hE Za ld rfl fun a hE=>⟨Kept.refl _ _,_,_,rfl,hE,rfl⟩
         ·exact fun a w ux45 hE hM hp=>Zd hE Za ld rfl fun a hE=>⟨Kept.refl _ _,_,_,rfl,hE,rfl⟩
         ·exact fun a w ux45 hE hM hp=>Zd hE Za ld rfl fun a hE=>⟨Kept.refl _ _,_,_,rfl,hE,rfl⟩
         ·exact fun a w ux45 hE hM hp=>Zd hE Za ld rfl fun a hE=>⟨Kept.refl _ _,_,_,rfl,hE,rfl⟩
         ·exact fun a w ux45 hE hM hp=>Zd hE Za ld rfl fun a hE=>⟨Kept.refl _ _,_,_,rfl,hE,rfl⟩
         ·intro a w ux45 hE hM hp
          have f3 : ux45 3 = (vI s30.2):=hp 0 _ rfl rfl
          have f4 : ux45 4 = (vI s40.2):=hp 1 _ rfl rfl
          exact Zi hE Za ld (lk rfl f3) (lk rfl f4) rfl fun a hE=>⟨Kept.refl _ _,_,_,rfl,hE,rfl⟩
         ·exact fun a w ux45 hE hM hp=>Zd hE Za ld rfl fun a hE=>⟨Kept.refl _ _,_,_,rfl,hE,rfl⟩
         ·exact fun a w ux45 hE hM hp=>Zd hE Za ld rfl fun a hE=>⟨Kept.refl _ _,_,_,rfl,hE,rfl⟩
         ·exact fun a w ux45 hE hM hp=>Zd hE Za ld rfl fun a hE=>⟨Kept.refl _ _,_,_,rfl,hE,rfl⟩
         ·exact fun a w ux45 hE hM hp=>Zd hE Za ld rfl fun a hE=>⟨Kept.refl _ _,_,_,rfl,hE,rfl⟩
         ·exact fun a w ux45 hE hM hp=>Zd hE Za ld rfl fun a hE=>⟨Kept.refl _ _,_,_,rfl,hE,rfl⟩
         ·intro a w ux45 hE hM hp
          have f7 : ux45 7 = (ptr b3 0):=hp 0 _ rfl rfl
          exact Xy hE Za ld (lk rfl f7) fun a hE=>⟨Kept.refl _ _,_,_,rfl,hE,rfl⟩
         ·intro a w ux45 hE hM hp
          have f8 : ux45 8 = (vI s8.2):=hp 1 _ rfl rfl
          have f11 : ux45 11 = (ptr b3 0):=hp 0 _ rfl rfl
          exact Zg hE Za ld (lk rfl f11) (lk rfl f8) Try.underlying180 KF hi46.1 fun a hE=>⟨Kept.refl _ _,_,_,rfl,hE,rfl⟩
         ·intro a w ux45 hE hM hp
          have f9 : ux45 9 = (vI s19.2):=hp 1 _ rfl rfl
          have f12 : ux45 12 = (ptr b3 (0 + (s8.2).toNat * 1024)):=hp 0 _ rfl rfl
          exact Zg hE Za ld (lk rfl f12) (lk rfl f9) Try.underlying178 HK hi49.1 fun a hE=>⟨Kept.refl _ _,_,_,rfl,hE,rfl⟩
         ·intro a w ux45 hE hM hp
          have f10 : ux45 10 = (vI s40.2):=hp 1 _ rfl rfl
          have f13 : ux45 13 = (ptr b3 (0 + (s8.2).toNat * 1024 + (s19.2).toNat * 256)):=hp 0 _ rfl rfl
          exact Zg hE Za ld (lk rfl f13) (lk rfl f10) Try.underlying41 ty5 hi52.1 fun a hE=>⟨Kept.refl _ _,_,_,rfl,hE,rfl⟩
         ·intro a w ux45 hE hM hp
          have f14 : ux45 14 = (ptr b3 (0 + (s8.2).toNat * 1024 + (s19.2).toNat * 256 + (s40.2).toNat * 1)):=hp 0 _ rfl rfl
          exact ZC (v:=(vB x53)) hE Za ld (lk rfl f14) ty5 rfl (At.vec (At.vec (At.vec (hM.rawAt (pre:=[])) hi46.2) hi49.2) hi52.2) fun a hE=>⟨Kept.refl _ _,_,_,rfl,hE,rfl⟩
         ·intro a w ux45 hE hM hp
          have f6 : ux45 6 = (vB r35):=hp 0 _ rfl rfl
          have f15 : ux45 15 = (vB x53):=hp 1 _ rfl rfl
          exact Zi hE Za ld (lk rfl f6) (lk rfl f15) (WJ r35 x53) fun a hE=>⟨Kept.refl _ _,_,_,rfl,hE,rfl⟩
         ·intro a w ux45 hE hM hp
          have f0 : ux45 0 = (ptr b3 0):=hp 0 _ rfl rfl
          exact Xy hE Za ld (lk rfl f0) fun a hE=>⟨Kept.refl _ _,_,_,rfl,hE,rfl⟩
         ·intro a w ux45 hE hM hp
          have f1 : ux45 1 = (vI s8.2):=hp 1 _ rfl rfl
          have f17 : ux45 17 = (ptr b3 0):=hp 0 _ rfl rfl
          exact Zg hE Za ld (lk rfl f17) (lk rfl f1) Try.underlying180 KF hi55.1 fun a hE=>⟨Kept.refl _ _,_,_,rfl,hE,rfl⟩
         ·intro a w ux45 hE hM hp
          have f2 : ux45 2 = (vI s19.2):=hp 1 _ rfl rfl
          have f18 : ux45 18 = (ptr b3 (0 + (s8.2).toNat * 1024)):=hp 0 _ rfl rfl
          exact Zg hE Za ld (lk rfl f18) (lk rfl f2) Try.underlying178 HK hi58.1 fun a hE=>⟨Kept.refl _ _,_,_,rfl,hE,rfl⟩
         ·intro a w ux45 hE hM hp
          have f5 : ux45 5 = (vI (orI s30.2 s40.2)):=hp 1 _ rfl rfl
          have f19 : ux45 19 = (ptr b3 (0 + (s8.2).toNat * 1024 + (s19.2).toNat * 256)):=hp 0 _ rfl rfl
          exact Zg hE Za ld (lk rfl f19) (lk rfl f5) Try.underlying41 ty5 hi61.1 fun a hE=>⟨Kept.refl _ _,_,_,rfl,hE,rfl⟩
         ·intro a w ux45 hE hM hg
          have hE:=hE.sub (e':=[(53,(vB (r35 ^^^ x53))),(57,(ptr b3 (0 + (s8.2).toNat * 1024 + (s19.2).toNat * 256 + ((orI s30.2 s40.2)).toNat * 1))),(0,vI p0),(3,(ptr b1 0)),(5,(ptr b3 0)),(6,vI s8.2),(7,vI s19.2),(8,vB x24),(9,vI s30.2),(10,vB r35),(11,vI s40.2),(14,vI s8.2),(19,(Value.agg (enc x14).toArray)),(20,vI s19.2),(33,vI s30.2),(34,vI s40.2),(35,(vT (decide (s40.2 < s30.2)))),(36,vI s40.2)]) ⟨lk rfl (hg 16 (by decide)),lk rfl (hg 20 (by decide)),rfl,rfl,rfl,rfl,rfl,rfl,rfl,rfl,rfl,rfl,rfl,rfl,rfl,rfl,rfl,rfl,trivial⟩
          refine Zo (seg:=[(vB (r35 ^^^ x53))]) (cs':=enc (s40.1.setIfInBounds (s8.2).toNat (x56.setIfInBounds (s19.2).toNat (x59.setIfInBounds ((orI s30.2 s40.2)).toNat (r35 ^^^ x53))))) hE hM Za rfl rfl rfl ty5 rfl (Wu (o':=(s19.2).toNat * 256 + (0 + ((orI s30.2 s40.2)).toNat * 1)) hi55 (Wu (o':=0 + ((orI s30.2 s40.2)).toNat * 1) hi58 (ZG (v:=x59) (x:=r35 ^^^ x53) hi61.1) (by first | omega | (simp only [Flat.n] <;> omega))) (by first | omega | (simp only [Flat.n] <;> omega))) (Flat.cell (r35 ^^^ x53 : UInt8)) (YW (o':=(s19.2).toNat * 256 + (0 + ((orI s30.2 s40.2)).toNat * 1)) hi55 (Wu (o':=0 + ((orI s30.2 s40.2)).toNat * 1) hi58 (ZG (v:=x59) (x:=r35 ^^^ x53) hi61.1) (by first | omega | (simp only [Flat.n] <;> omega))) (YW (o':=0 + ((orI s30.2 s40.2)).toNat * 1) hi58 (ZG (v:=x59) (x:=r35 ^^^ x53) hi61.1) (Zz (v:=x59) (x:=r35 ^^^ x53) hi61.1) (by first | omega | (simp only [Flat.n] <;> omega))) (by first | omega | (simp only [Flat.n] <;> omega))) fun w a hM hE=>Zh (Z9 (Zw (wp_region_lit (Zi hE Za ld rfl rfl rfl fun a hE=>Zd hE Za ld rfl fun a hE=>Zh (Zj ?_)))))
          exact ⟨_,(ois hs41),hE.sub ⟨rfl,rfl,rfl,rfl,rfl,rfl,rfl,rfl,rfl,rfl,rfl,rfl,rfl,trivial⟩,hM⟩
        ·intro hb44
         have hs41:=Zv hs41 hb44
         refine wp_exit (Zm (Zm (Yf ?_)))
         have ht64:=hx42 _ (ois hs41)
         subst ht64
         refine Zj ?_
         exact ⟨hE.sub ⟨rfl,rfl,rfl,rfl,rfl,rfl,rfl,rfl,rfl,rfl,trivial⟩,hM⟩
       ·skip
        rintro a w ⟨hE,hM⟩
        refine Z9 (Zw (wp_region_lit (Zd hE Za ld rfl fun a hE=>Zi hE Za ld rfl rfl rfl fun a hE=>Ze hE Za ld rfl fun a hE=>Zh (Zj ?_))))
        exact ⟨_,(ois hF39),hE.sub ⟨rfl,rfl,rfl,rfl,rfl,rfl,rfl,rfl,rfl,rfl,trivial⟩,hM⟩
      ·intro hb34
       have hs31:=Zv hs31 hb34
       refine wp_exit (Zm (Zm (Yf ?_)))
       have ht65:=hx32 _ (ois hs31)
       subst ht65
       refine Zj ?_
       exact ⟨hE.sub ⟨rfl,rfl,rfl,rfl,rfl,rfl,rfl,trivial⟩,hM⟩
     ·skip
      rintro a w ⟨hE,hM⟩
      refine Z9 (Zw (wp_region_lit (Zi hE Za ld rfl rfl rfl fun a hE=>Zd hE Za ld rfl fun a hE=>Zh (Zj ?_))))
      exact ⟨_,(ois hF29),hE.sub ⟨rfl,rfl,rfl,rfl,rfl,rfl,rfl,trivial⟩,hM⟩
    ·intro hb23
     have hs20:=Zv hs20 hb23
     refine wp_exit (Zm (Zm (Yf ?_)))
     have ht66:=hx21 _ (ois hs20)
     subst ht66
     refine Zj ?_
     exact ⟨hE.sub ⟨rfl,rfl,rfl,rfl,trivial⟩,hM⟩
   ·skip
    rintro a w ⟨hE,hM⟩
    refine Z9 (Zw (wp_region_lit (Zi hE Za ld rfl rfl rfl fun a hE=>Zd hE Za ld rfl fun a hE=>Zh (Zj ?_))))
    exact ⟨_,(ois hF18),hE.sub ⟨rfl,rfl,rfl,rfl,trivial⟩,hM⟩
  ·intro hb12
   have hs9:=Zv hs9 hb12
   refine wp_exit (Zm (Zm (Yf ?_)))
   have ht67:=hx10 _ (ois hs9)
   subst ht67
   refine Zj ?_
   have hM:=M.fst (l:=[_]) hM
   exact ⟨hE.sub ⟨rfl,trivial⟩,hM⟩
 ·skip
  rintro a w ⟨hE,hM⟩
  refine Zw (Zc (Zd hE Za ld rfl fun a hE=>Ze hE Za ld rfl fun a hE=>Zf ?_))
  have hM:=M.toRefF (x:=j5) hM
  have hr:=Option.some.inj hF7
  subst hr
  exact wp_ret (Zx hE rfl (Zs hE rfl) ⟨_,rfl,(ptr b3 0),rfl,hM.outF (locNO UM),hM.kept⟩)
def WE (p0 : GCipher) : Option ((Ref Gengine)) :=
 (Yx p0.Field p0.Mix).bind fun r3=>(XS p0.Box).bind fun r8=>(Y1 p0.Places).bind fun r10=>(X3 p0.Field p0.Mix).bind fun r12=>(X3 p0.Field r3.2).bind fun r15=>some (⟨(⟨p0.Box,r8,p0.Places,r10,r12,r15,p0.Rounds⟩ : Gengine)⟩ : (Ref Gengine))
theorem QU (w0 : World) (p0 : GCipher) (r : (Ref Gengine)) (hF : WE p0 = some r) :
  Calls Try.prog 75 [(Value.agg (enc p0).toArray)].toArray w0 (fun en w'=>∃ v,en = .returned v ∧ (∃ (y1 : Value),v = y1 ∧ Fr w0 w' [own NoB (r : (Ref Gengine)) [y1]] ∧ Kept (Old w0) w0 w')):=by
 refine ZB (n:=36) Try.func75 rfl rfl (nbl rfl) rfl ?_
 intro a hE
 have hM:=M.start w0
 unfold WE at hF
 refine Zc (ZZ (cs:=cat [[vI p0.Field],enc p0.Box,enc p0.Mix,enc p0.Places,[vI p0.Rounds]]) hE hM Za ld rfl rfl fun b1 w a hM hE=>Ze hE Za ld rfl fun a hE=>Zf (Zc (ZA hE Za ld rfl (Th) fun a hE=>ZC (v:=(vI p0.Field)) hE Za ld rfl ty2 rfl (At.cat (pre:=[]) (hM.rawAt (pre:=[])) cl0) fun a hE=>ZA hE Za ld rfl (QP) fun a hE=>Zn (cs:=enc p0.Mix) hE Za ld rfl YM rfl (At.cat (pre:=[[vI p0.Field],enc p0.Box]) (hM.rawAt (pre:=[])) (cl1 (n:=1) (m:=256) rfl (cl1 (n:=256) (m:=0) (Flat.len _) cl0))) (Flat.len _) ?_))); intro a hE
 obtain ⟨r3,e4,hF⟩:=bind_some hF
 refine Zt hE Za ld rfl cb126 (Uq _ p0.Field p0.Mix r3 e4) ?_
 rintro v w a ⟨rfl,hK⟩ hE
 have hM:=hM.keep hK
 refine Zd hE Za ld rfl fun a hE=>Xo hE Za ld rfl rfl fun a hE=>Xo hE Za ld rfl rfl fun a hE=>ZH hE hM Za ld YM fun b5 w a hM hE=>Ze hE Za ld rfl fun a hE=>Zo (seg:=enc r3.2) (cs':=enc r3.2) hE hM Za rfl rfl rfl YM (Flat.len _) (zle flq) (Flat.cell _) (Zr flq) fun w a hM hE=>Zf (wp_seq ?_)
 obtain ⟨r8,e9,hF⟩:=bind_some hF
 obtain ⟨r10,e11,hF⟩:=bind_some hF
 obtain ⟨r12,e13,hF⟩:=bind_some hF
 obtain ⟨r15,e16,hF⟩:=bind_some hF
 refine zf (n:=36) (hd:=[_,_,_,_,_,_,_,_,_,_,_,_,_,_,_,_,_,_,_,_,_]) (tl:=[_,_,_]) (its:=[raw b5 (enc r3.2),raw b1 (cat [[vI p0.Field],enc p0.Box,enc p0.Mix,enc p0.Places,[vI p0.Rounds]])]) Wl rfl rfl [13,14,15,16,17,18,19,20,21,22,23,24,25,26,27,28,29,30,31,32,33] (by decide) [(14,fun v=>own NoB (r12 : (Ref (Vector (Vector (Vector UInt8 256) 4) 4))) [v]),(18,fun v=>own NoB (r15 : (Ref (Vector (Vector (Vector UInt8 256) 4) 4))) [v])] rfl (fun j=>([fun v=>v = (ptr b1 (0 + 1)),fun v=>v = (Value.agg (enc p0.Box).toArray),fun v=>v = (ptr b1 (0 + 1)),fun v=>v = (Value.agg (enc p0.Box).toArray),fun v=>v = (Value.agg (enc r8).toArray),fun v=>v = (ptr b1 (0 + 273)),fun v=>v = (Value.agg (enc p0.Places).toArray),fun v=>v = (ptr b1 (0 + 273)),fun v=>v = (Value.agg (enc p0.Places).toArray),fun v=>v = (Value.agg (enc r10).toArray),fun v=>v = (ptr b1 (0 + 0)),fun v=>v = (vI p0.Field),fun v=>v = (ptr b1 (0 + 257)),fun v=>v = (Value.agg (enc p0.Mix).toArray),fun v=>True,fun v=>v = (ptr b1 (0 + 0)),fun v=>v = (vI p0.Field),fun v=>v = (Value.agg (enc r3.2).toArray),fun v=>True,fun v=>v = (ptr b1 (0 + 289)),fun v=>v = (vI p0.Rounds)] : List (Value → Prop)).getD j (fun _=>True)) hE hM.drew (ZQ (Zb ?_ (Zb ?_ (Zb ?_ (Zb ?_ (Zb ?_ (Zb ?_ (Zb ?_ (Zb ?_ (Zb ?_ (Zb ?_ (Zb ?_ (Zb ?_ (Zb ?_ (Zb ?_ (Zb ?_ (Zb ?_ (Zb ?_ (Zb ?_ (Zb ?_ (Zb ?_ (Zb ?_ ZJ)))))))))))))))))))))) ?_
 ·intro a w ux7 D hE hM hD hp
  have hM0:=hM
  exact ZA hE Za ld rfl (Tz) fun a hE=>⟨_,_,rfl,hE,rfl,hM0.optKeep rfl⟩
 ·intro a w ux7 D hE hM hD hp
  have f0 : ux7 0 = (ptr b1 (0 + 1)):=(hp 0 _ rfl rfl).2
  have hM0:=hM
  have hM : M (Old w0) w0 w [raw b5 (enc r3.2),raw b1 (cat [[vI p0.Field],enc p0.Box,enc p0.Mix,enc p0.Places,[vI p0.Rounds]]),opt (D 14) (own NoB (r12 : (Ref (Vector (Vector (Vector UInt8 256) 4) 4))) [(ux7 14)]),opt (D 18) (own NoB (r15 : (Ref (Vector (Vector (Vector UInt8 256) 4) 4))) [(ux7 18)])]:=hM
  exact Zn (cs:=enc p0.Box) hE Za ld (lk rfl f0) Vq rfl (At.cat (pre:=[[vI p0.Field]]) (hM.rawAt (pre:=[_])) (cl1 (n:=1) (m:=0) rfl cl0)) (Flat.len _) fun a hE=>⟨_,_,rfl,hE,rfl,hM0.optKeep rfl⟩
 ·intro a w ux7 D hE hM hD hp
  have hM0:=hM
  exact ZA hE Za ld rfl (Tz) fun a hE=>⟨_,_,rfl,hE,rfl,hM0.optKeep rfl⟩
 ·intro a w ux7 D hE hM hD hp
  have f2 : ux7 2 = (ptr b1 (0 + 1)):=(hp 0 _ rfl rfl).2
  have hM0:=hM
  have hM : M (Old w0) w0 w [raw b5 (enc r3.2),raw b1 (cat [[vI p0.Field],enc p0.Box,enc p0.Mix,enc p0.Places,[vI p0.Rounds]]),opt (D 14) (own NoB (r12 : (Ref (Vector (Vector (Vector UInt8 256) 4) 4))) [(ux7 14)]),opt (D 18) (own NoB (r15 : (Ref (Vector (Vector (Vector UInt8 256) 4) 4))) [(ux7 18)])]:=hM
  exact Zn (cs:=enc p0.Box) hE Za ld (lk rfl f2) Vq rfl (At.cat (pre:=[[vI p0.Field]]) (hM.rawAt (pre:=[_])) (cl1 (n:=1) (m:=0) rfl cl0)) (Flat.len _) fun a hE=>⟨_,_,rfl,hE,rfl,hM0.optKeep rfl⟩
 ·intro a w ux7 D hE hM hD hp
  have f3 : ux7 3 = (Value.agg (enc p0.Box).toArray):=(hp 0 _ rfl rfl).2
  have hM0:=hM
  refine Zt hE Za ld (Yl (Z1 (lk rfl f3) W3)) cb127 (TX _ p0.Box r8 e9) ?_
  rintro v w a ⟨rfl,hK⟩ hE
  exact ⟨_,_,rfl,hE,rfl,(hM0.keep hK).optKeep rfl⟩
 ·intro a w ux7 D hE hM hD hp
  have hM0:=hM
  exact ZA hE Za ld rfl (QC) fun a hE=>⟨_,_,rfl,hE,rfl,hM0.optKeep rfl⟩
 ·intro a w ux7 D hE hM hD hp
  have f5 : ux7 5 = (ptr b1 (0 + 273)):=(hp 0 _ rfl rfl).2
  have hM0:=hM
  have hM : M (Old w0) w0 w [raw b5 (enc r3.2),raw b1 (cat [[vI p0.Field],enc p0.Box,enc p0.Mix,enc p0.Places,[vI p0.Rounds]]),opt (D 14) (own NoB (r12 : (Ref (Vector (Vector (Vector UInt8 256) 4) 4))) [(ux7 14)]),opt (D 18) (own NoB (r15 : (Ref (Vector (Vector (Vector UInt8 256) 4) 4))) [(ux7 18)])]:=hM
  exact Zn (cs:=enc p0.Places) hE Za ld (lk rfl f5) Ul rfl (At.cat (pre:=[[vI p0.Field],enc p0.Box,enc p0.Mix]) (hM.rawAt (pre:=[_])) (cl1 (n:=1) (m:=272) rfl (cl1 (n:=256) (m:=16) (Flat.len _) (cl1 (n:=16) (m:=0) (Flat.len _) cl0)))) (Flat.len _) fun a hE=>⟨_,_,rfl,hE,rfl,hM0.optKeep rfl⟩
 ·intro a w ux7 D hE hM hD hp
  have hM0:=hM
  exact ZA hE Za ld rfl (QC) fun a hE=>⟨_,_,rfl,hE,rfl,hM0.optKeep rfl⟩
 ·intro a w ux7 D hE hM hD hp
  have f7 : ux7 7 = (ptr b1 (0 + 273)):=(hp 0 _ rfl rfl).2
  have hM0:=hM
  have hM : M (Old w0) w0 w [raw b5 (enc r3.2),raw b1 (cat [[vI p0.Field],enc p0.Box,enc p0.Mix,enc p0.Places,[vI p0.Rounds]]),opt (D 14) (own NoB (r12 : (Ref (Vector (Vector (Vector UInt8 256) 4) 4))) [(ux7 14)]),opt (D 18) (own NoB (r15 : (Ref (Vector (Vector (Vector UInt8 256) 4) 4))) [(ux7 18)])]:=hM
  exact Zn (cs:=enc p0.Places) hE Za ld (lk rfl f7) Ul rfl (At.cat (pre:=[[vI p0.Field],enc p0.Box,enc p0.Mix]) (hM.rawAt (pre:=[_])) (cl1 (n:=1) (m:=272) rfl (cl1 (n:=256) (m:=16) (Flat.len _) (cl1 (n:=16) (m:=0) (Flat.len _) cl0)))) (Flat.len _) fun a hE=>⟨_,_,rfl,hE,rfl,hM0.optKeep rfl⟩
 ·intro a w ux7 D hE hM hD hp
  have f8 : ux7 8 = (Value.agg (enc p0.Places).toArray):=(hp 0 _ rfl rfl).2
  have hM0:=hM
  refine Zt hE Za ld (Yl (Z1 (lk rfl f8) W3)) cb128 (Tp _ p0.Places r10 e11) ?_
  rintro v w a ⟨rfl,hK⟩ hE
  exact ⟨_,_,rfl,hE,rfl,(hM0.keep hK).optKeep rfl⟩
 ·intro a w ux7 D hE hM hD hp
  have hM0:=hM
  exact ZA hE Za ld rfl (Th) fun a hE=>⟨_,_,rfl,hE,rfl,hM0.optKeep rfl⟩
 ·intro a w ux7 D hE hM hD hp
  have f10 : ux7 10 = (ptr b1 (0 + 0)):=(hp 0 _ rfl rfl).2
  have hM0:=hM
  have hM : M (Old w0) w0 w [raw b5 (enc r3.2),raw b1 (cat [[vI p0.Field],enc p0.Box,enc p0.Mix,enc p0.Places,[vI p0.Rounds]]),opt (D 14) (own NoB (r12 : (Ref (Vector (Vector (Vector UInt8 256) 4) 4))) [(ux7 14)]),opt (D 18) (own NoB (r15 : (Ref (Vector (Vector (Vector UInt8 256) 4) 4))) [(ux7 18)])]:=hM
  exact ZC (v:=(vI p0.Field)) hE Za ld (lk rfl f10) ty2 rfl (At.cat (pre:=[]) (hM.rawAt (pre:=[_])) cl0) fun a hE=>⟨_,_,rfl,hE,rfl,hM0.optKeep rfl⟩
 ·intro a w ux7 D hE hM hD hp
  have hM0:=hM
  exact ZA hE Za ld rfl (QP) fun a hE=>⟨_,_,rfl,hE,rfl,hM0.optKeep rfl⟩
 ·intro a w ux7 D hE hM hD hp
  have f12 : ux7 12 = (ptr b1 (0 + 257)):=(hp 0 _ rfl rfl).2
  have hM0:=hM
  have hM : M (Old w0) w0 w [raw b5 (enc r3.2),raw b1 (cat [[vI p0.Field],enc p0.Box,enc p0.Mix,enc p0.Places,[vI p0.Rounds]]),opt (D 14) (own NoB (r12 : (Ref (Vector (Vector (Vector UInt8 256) 4) 4))) [(ux7 14)]),opt (D 18) (own NoB (r15 : (Ref (Vector (Vector (Vector UInt8 256) 4) 4))) [(ux7 18)])]:=hM
  exact Zn (cs:=enc p0.Mix) hE Za ld (lk rfl f12) YM rfl (At.cat (pre:=[[vI p0.Field],enc p0.Box]) (hM.rawAt (pre:=[_])) (cl1 (n:=1) (m:=256) rfl (cl1 (n:=256) (m:=0) (Flat.len _) cl0))) (Flat.len _) fun a hE=>⟨_,_,rfl,hE,rfl,hM0.optKeep rfl⟩
 ·intro a w ux7 D hE hM hD hp
  have f11 : ux7 11 = (vI p0.Field):=(hp 0 _ rfl rfl).2
  have f13 : ux7 13 = (Value.agg (enc p0.Mix).toArray):=(hp 1 _ rfl rfl).2
  have hM0:=hM
  have hM : M (Old w0) w0 w [raw b5 (enc r3.2),raw b1 (cat [[vI p0.Field],enc p0.Box,enc p0.Mix,enc p0.Places,[vI p0.Rounds]]),opt (D 14) (own NoB (r12 : (Ref (Vector (Vector (Vector UInt8 256) 4) 4))) [(ux7 14)]),opt (D 18) (own NoB (r15 : (Ref (Vector (Vector (Vector UInt8 256) 4) 4))) [(ux7 18)])]:=hM
  refine Zt hE Za ld (Yl (Z1 (lk rfl f11) (Z1 (lk rfl f13) W3))) cb129 (Tm _ p0.Field p0.Mix r12 e13) ?_
  rintro _ w a ⟨_,rfl,hFr,hK⟩ hE
  have hM:=hM0.add hK hFr
  exact ⟨_,_,rfl,hE,trivial,M.optFill (mk1:=[]) (mk2:=[_]) (f:=(fun v=>own NoB (r12 : (Ref (Vector (Vector (Vector UInt8 256) 4) 4))) [v])) hM rfl hD⟩
 ·intro a w ux7 D hE hM hD hp
  have hM0:=hM
  exact ZA hE Za ld rfl (Th) fun a hE=>⟨_,_,rfl,hE,rfl,hM0.optKeep rfl⟩
 ·intro a w ux7 D hE hM hD hp
  have f15 : ux7 15 = (ptr b1 (0 + 0)):=(hp 0 _ rfl rfl).2
  have hM0:=hM
  have hM : M (Old w0) w0 w [raw b5 (enc r3.2),raw b1 (cat [[vI p0.Field],enc p0.Box,enc p0.Mix,enc p0.Places,[vI p0.Rounds]]),opt (D 14) (own NoB (r12 : (Ref (Vector (Vector (Vector UInt8 256) 4) 4))) [(ux7 14)]),opt (D 18) (own NoB (r15 : (Ref (Vector (Vector (Vector UInt8 256) 4) 4))) [(ux7 18)])]:=hM
  exact ZC (v:=(vI p0.Field)) hE Za ld (lk rfl f15) ty2 rfl (At.cat (pre:=[]) (hM.rawAt (pre:=[_])) cl0) fun a hE=>⟨_,_,rfl,hE,rfl,hM0.optKeep rfl⟩
 ·intro a w ux7 D hE hM hD hp
  have hM0:=hM
  have hM : M (Old w0) w0 w [raw b5 (enc r3.2),raw b1 (cat [[vI p0.Field],enc p0.Box,enc p0.Mix,enc p0.Places,[vI p0.Rounds]]),opt (D 14) (own NoB (r12 : (Ref (Vector (Vector (Vector UInt8 256) 4) 4))) [(ux7 14)]),opt (D 18) (own NoB (r15 : (Ref (Vector (Vector (Vector UInt8 256) 4) 4))) [(ux7 18)])]:=hM
  exact Zn (cs:=enc r3.2) hE Za ld rfl YM rfl (hM.rawAt (pre:=[])) (Flat.len _) fun a hE=>⟨_,_,rfl,hE,rfl,hM0.optKeep rfl⟩
 ·intro a w ux7 D hE hM hD hp
  have f16 : ux7 16 = (vI p0.Field):=(hp 0 _ rfl rfl).2
  have f17 : ux7 17 = (Value.agg (enc r3.2).toArray):=(hp 1 _ rfl rfl).2
  have hM0:=hM
  have hM : M (Old w0) w0 w [raw b5 (enc r3.2),raw b1 (cat [[vI p0.Field],enc p0.Box,enc p0.Mix,enc p0.Places,[vI p0.Rounds]]),opt (D 14) (own NoB (r12 : (Ref (Vector (Vector (Vector UInt8 256) 4) 4))) [(ux7 14)]),opt (D 18) (own NoB (r15 : (Ref (Vector (Vector (Vector UInt8 256) 4) 4))) [(ux7 18)])]:=hM
  refine Zt hE Za ld (Yl (Z1 (lk rfl f16) (Z1 (lk rfl f17) W3))) cb129 (Tm _ p0.Field r3.2 r15 e16) ?_
  rintro _ w a ⟨_,rfl,hFr,hK⟩ hE
  have hM:=hM0.add hK hFr
  exact ⟨_,_,rfl,hE,trivial,M.optFill (mk1:=[_]) (mk2:=[]) (f:=(fun v=>own NoB (r15 : (Ref (Vector (Vector (Vector UInt8 256) 4) 4))) [v])) hM rfl hD⟩
 ·intro a w ux7 D hE hM hD hp
  have hM0:=hM
  exact ZA hE Za ld rfl (Q1) fun a hE=>⟨_,_,rfl,hE,rfl,hM0.optKeep rfl⟩
 ·intro a w ux7 D hE hM hD hp
  have f19 : ux7 19 = (ptr b1 (0 + 289)):=(hp 0 _ rfl rfl).2
  have hM0:=hM
  have hM : M (Old w0) w0 w [raw b5 (enc r3.2),raw b1 (cat [[vI p0.Field],enc p0.Box,enc p0.Mix,enc p0.Places,[vI p0.Rounds]]),opt (D 14) (own NoB (r12 : (Ref (Vector (Vector (Vector UInt8 256) 4) 4))) [(ux7 14)]),opt (D 18) (own NoB (r15 : (Ref (Vector (Vector (Vector UInt8 256) 4) 4))) [(ux7 18)])]:=hM
  exact ZC (v:=(vI p0.Rounds)) hE Za ld (lk rfl f19) ty2 rfl (At.cat (pre:=[[vI p0.Field],enc p0.Box,enc p0.Mix,enc p0.Places]) (hM.rawAt (pre:=[_])) (cl1 (n:=1) (m:=288) rfl (cl1 (n:=256) (m:=32) (Flat.len _) (cl1 (n:=16) (m:=16) (Flat.len _) (cl1 (n:=16) (m:=0) (Flat.len _) cl0))))) fun a hE=>⟨_,_,rfl,hE,rfl,hM0.optKeep rfl⟩
 ·intro a w ux7 hE hM hg
  have f1 : ux7 1 = (Value.agg (enc p0.Box).toArray):=hg 1 (by decide)
  have hM : M (Old w0) w0 w [raw b5 (enc r3.2),raw b1 (cat [[vI p0.Field],enc p0.Box,enc p0.Mix,enc p0.Places,[vI p0.Rounds]]),own NoB (r12 : (Ref (Vector (Vector (Vector UInt8 256) 4) 4))) [(ux7 14)],own NoB (r15 : (Ref (Vector (Vector (Vector UInt8 256) 4) 4))) [(ux7 18)]]:=hM
  have hE:=hE.sub (e':=[(14,(Value.agg (enc p0.Box).toArray)),(17,(Value.agg (enc r8).toArray)),(19,(Value.agg (enc p0.Places).toArray)),(22,(Value.agg (enc r10).toArray)),(27,(ux7 14)),(31,(ux7 18)),(33,vI p0.Rounds),(2,(Value.pointer none))]) ⟨lk rfl f1,lk rfl (hg 4 (by decide)),lk rfl (hg 6 (by decide)),lk rfl (hg 9 (by decide)),rfl,rfl,lk rfl (hg 20 (by decide)),rfl,trivial⟩
  refine Bo (parts:=[(0,.tmp 14),(1,.tmp 17),(2,.tmp 19),(3,.tmp 22),(4,.tmp 27),(5,.tmp 31),(6,.tmp 33)]) (vs:=[(0,(Value.agg (enc p0.Box).toArray)),(1,(Value.agg (enc r8).toArray)),(2,(Value.agg (enc p0.Places).toArray)),(3,(Value.agg (enc r10).toArray)),(4,(ux7 14)),(5,(ux7 18)),(6,vI p0.Rounds)]) (cs:=cat [enc p0.Box,enc r8,enc p0.Places,enc r10,[(ux7 14)],[(ux7 18)],[vI p0.Rounds]]) hE Za ld rfl rfl Q6 pl157 (V5 (pre:=[]) (seg:=enc (Vector.replicate 256 (0 : UInt8))) (seg':=enc p0.Box) (post:=[enc (Vector.replicate 256 (0 : UInt8)),enc (Vector.replicate 16 (0 : UInt8)),enc (Vector.replicate 16 (0 : UInt8)),[(Value.pointer none)],[(Value.pointer none)],[vI 0]]) rfl cl0 (Flat.len _) (Flat.len _) rfl (V5 (pre:=[enc p0.Box]) (seg:=enc (Vector.replicate 256 (0 : UInt8))) (seg':=enc r8) (post:=[enc (Vector.replicate 16 (0 : UInt8)),enc (Vector.replicate 16 (0 : UInt8)),[(Value.pointer none)],[(Value.pointer none)],[vI 0]]) rfl (cl1 (n:=256) (m:=0) (Flat.len _) cl0) (Flat.len _) (Flat.len _) rfl (V5 (pre:=[enc p0.Box,enc r8]) (seg:=enc (Vector.replicate 16 (0 : UInt8))) (seg':=enc p0.Places) (post:=[enc (Vector.replicate 16 (0 : UInt8)),[(Value.pointer none)],[(Value.pointer none)],[vI 0]]) rfl (cl1 (n:=256) (m:=256) (Flat.len _) (cl1 (n:=256) (m:=0) (Flat.len _) cl0)) (Flat.len _) (Flat.len _) rfl (V5 (pre:=[enc p0.Box,enc r8,enc p0.Places]) (seg:=enc (Vector.replicate 16 (0 : UInt8))) (seg':=enc r10) (post:=[[(Value.pointer none)],[(Value.pointer none)],[vI 0]]) rfl (cl1 (n:=256) (m:=272) (Flat.len _) (cl1 (n:=256) (m:=16) (Flat.len _) (cl1 (n:=16) (m:=0) (Flat.len _) cl0))) (Flat.len _) (Flat.len _) rfl (V5 (pre:=[enc p0.Box,enc r8,enc p0.Places,enc r10]) (seg:=[(Value.pointer none)]) (seg':=[(ux7 14)]) (post:=[[(Value.pointer none)],[vI 0]]) rfl (cl1 (n:=256) (m:=288) (Flat.len _) (cl1 (n:=256) (m:=32) (Flat.len _) (cl1 (n:=16) (m:=16) (Flat.len _) (cl1 (n:=16) (m:=0) (Flat.len _) cl0)))) rfl rfl (JA (hM.ro (pre:=[_,_]) noB)) (V5 (pre:=[enc p0.Box,enc r8,enc p0.Places,enc r10,[(ux7 14)]]) (seg:=[(Value.pointer none)]) (seg':=[(ux7 18)]) (post:=[[vI 0]]) rfl (cl1 (n:=256) (m:=289) (Flat.len _) (cl1 (n:=256) (m:=33) (Flat.len _) (cl1 (n:=16) (m:=17) (Flat.len _) (cl1 (n:=16) (m:=1) (Flat.len _) (cl1 (n:=1) (m:=0) rfl cl0))))) rfl rfl (JA (hM.ro (pre:=[_,_,_]) noB)) (V5 (pre:=[enc p0.Box,enc r8,enc p0.Places,enc r10,[(ux7 14)],[(ux7 18)]]) (seg:=[vI 0]) (seg':=[vI p0.Rounds]) (post:=[]) rfl (cl1 (n:=256) (m:=290) (Flat.len _) (cl1 (n:=256) (m:=34) (Flat.len _) (cl1 (n:=16) (m:=18) (Flat.len _) (cl1 (n:=16) (m:=2) (Flat.len _) (cl1 (n:=1) (m:=1) rfl (cl1 (n:=1) (m:=0) rfl cl0)))))) rfl rfl rfl Ae))))))) fun a hE=>ZZ (cs:=cat [enc p0.Box,enc r8,enc p0.Places,enc r10,[(ux7 14)],[(ux7 18)],[vI p0.Rounds]]) hE hM Za ld rfl rfl fun b18 w a hM hE=>Ze hE Za ld rfl fun a hE=>Zh (Zw ?_)
  have hM:=(hM.pull (pre:=[_,_,_,_])).pull (pre:=[_,_,_,_])
  have hM:=((hM.pack2 (it:=own NoB (⟨p0.Box,r8,p0.Places,r10,r12,r15,p0.Rounds⟩ : Gengine) (cat [enc p0.Box,enc r8,enc p0.Places,enc r10,[(ux7 14)],[(ux7 18)],[vI p0.Rounds]])) (T9 noB) (fun f0 f1 q0 q1=>(Bt q0 q1 (by simp)))).pull (pre:=[_])).pull (pre:=[_])
  have hM:=M.toRef (hM.pull (pre:=[_])) noB
  have hr:=Option.some.inj hF
  subst hr
  have hM:=M.fst (l:=[_]) hM
  exact wp_ret (Zx hE rfl (Zs hE rfl) ⟨_,rfl,(ptr b18 0),rfl,hM.outF (locNO UM),hM.kept⟩)
def Yu (p0 : (Ref Gengine)) (s35 : (Vector UInt8 16) × Int) : Option (Fl ((Vector UInt8 16) × Int) (Vector UInt8 16)) :=
 if (decide (s35.2 < 16)) = true then ((Zy s35.1 s35.2).bind fun x42=>(Zy s35.1 (wr (s35.2 - 1))).bind fun x45=>(Zy p0.v.box (bI x45)).bind fun x58=>(Zy s35.1 s35.2).bind fun x61=>some (Fl.nx ((s35.1.setIfInBounds (s35.2).toNat (x42 ^^^ x58)),wr (s35.2 + 1)))) else (some (Fl.ex s35.1))
def Y2 (p0 : (Ref Gengine)) (p1 : (Vector UInt8 16)) (p2 : Int) : Option ((Vector UInt8 16)) :=
 ((Zy p1 (0 : Int)).bind fun x10=>(Zy p1 (15 : Int)).bind fun x13=>(Zy p0.v.box (bI (x13 ^^^ (ZI p2)))).bind fun x26=>(Zy p1 (0 : Int)).bind fun x29=>some (p1.setIfInBounds ((0 : Int)).toNat (x10 ^^^ x26)) : Option ((Vector UInt8 16))).bind fun j5=>(ZE (Yu p0) (j5,1)).bind fun j32=>some j32
theorem To (w0 : World) (p0 : (Ref Gengine)) (v0_1 : Value) (hv0_1 : Ro w0 p0 [v0_1]) (p1 : (Vector UInt8 16)) (p2 : Int) (r : (Vector UInt8 16)) (hF : Y2 p0 p1 p2 = some r) :
  Calls Try.prog 133 [v0_1,(Value.agg (enc p1).toArray),vI p2].toArray w0 (fun en w'=>∃ v,en = .returned v ∧ (v = (Value.agg (enc r).toArray) ∧ Kept (Old w0) w0 w')):=by
 refine ZB (n:=41) Try.func133 rfl rfl (nbl rfl) rfl ?_
 intro a hE
 have hM:=M.start w0
 unfold Y2 at hF
 refine Zc (ZZ (cs:=enc p1) hE hM Za ld rfl rfl fun b1 w a hM hE=>ZH hE hM Za ld ZK fun b3 w a hM hE=>Zf ?_)
 obtain ⟨j5,hl6,hF7⟩:=bind_some hF
 refine ZM (fun a w=>Env 41 a [(0,v0_1),(4,(ptr b1 0)),(6,(ptr b3 0))] ∧ M (Old w0) w0 w [raw b3 (enc (Vector.replicate 16 (0 : UInt8))),raw b1 (enc j5)]) ?_ ?_
 ·skip
  obtain ⟨x10,hi9,hl6⟩:=bvx hl6
  obtain ⟨x13,hi12,hl6⟩:=bvx hl6
  obtain ⟨pb15,ds16,hv17,hx18,hA19,hB20⟩:=Vy hv0_1 -- ^
  obtain ⟨u21,u23,rfl,h22,h24⟩:=V9 hx18 -- ^
  obtain ⟨x26,hi25,hl6⟩:=bvx hl6
  obtain ⟨x29,hi28,hl6⟩:=bvx hl6
  refine YZ (n:=41) (hd:=[_,_,_,_,_,_,_,_,_,_,_,_,_,_]) (tl:=[_]) Wl rfl rfl [8,9,10,11,12,13,14,15,16,17,18,19,20,21] (by decide) (fun w=>M (Old w0) w0 w [raw b3 (enc (Vector.replicate 16 (0 : UInt8))),raw b1 (enc p1)]) (fun j=>([fun v _=>v = (ptr b1 (0 + ((0 : Int)).toNat * 1)),fun v _=>v = (vB x10),fun v _=>v = v0_1,fun v _=>v = (ptr b1 (0 + ((15 : Int)).toNat * 1)),fun v _=>v = (vB x13),fun v _=>v = (vI p2),fun v _=>v = (vB (ZI p2)),fun v _=>v = (vB (x13 ^^^ (ZI p2))),fun v _=>v = (ptr pb15 0),fun v _=>v = (ptr pb15 (0 + 0)),fun v _=>v = (ptr pb15 (0 + 0 + ((bI (x13 ^^^ (ZI p2)))).toNat * 1)),fun v _=>v = (vB x26),fun v _=>v = (vB (x10 ^^^ x26)),fun v _=>v = (ptr b1 (0 + ((0 : Int)).toNat * 1))] : List (Value → World → Prop)).getD j (fun _ _=>True)) (fun _ _ h hk=>h.keep hk) (gup (Zk (Zk (Zk (Zk (Zk (Zk (Zk (Zk (Zk (Zk (Zk (Zk (Zk (Zk V3))))))))))))))) hE hM.drew (ZQ (Zb ?_ (Zb ?_ (Zb ?_ (Zb ?_ (Zb ?_ (Zb ?_ (Zb ?_ (Zb ?_ (Zb ?_ (Zb ?_ (Zb ?_ (Zb ?_ (Zb ?_ (Zb ?_ ZJ))))))))))))))) ?_
  ·exact fun a w ux8 hE hM hp=>Zg hE Za ld rfl rfl Try.underlying55 ty5 hi9.1 fun a hE=>⟨Kept.refl _ _,_,_,rfl,hE,rfl⟩
  ·intro a w ux8 hE hM hp
   have f0 : ux8 0 = (ptr b1 (0 + ((0 : Int)).toNat * 1)):=hp 0 _ rfl rfl
   exact ZC (v:=(vB x10)) hE Za ld (lk rfl f0) ty5 rfl (At.vec (hM.rawAt (pre:=[_])) hi9.2) fun a hE=>⟨Kept.refl _ _,_,_,rfl,hE,rfl⟩
  ·exact fun a w ux8 hE hM hp=>Zd hE Za ld rfl fun a hE=>⟨Kept.refl _ _,_,_,rfl,hE,rfl⟩
  ·exact fun a w ux8 hE hM hp=>Zg hE Za ld rfl rfl Try.underlying55 ty5 hi12.1 fun a hE=>⟨Kept.refl _ _,_,_,rfl,hE,rfl⟩
  ·intro a w ux8 hE hM hp
   have f3 : ux8 3 = (ptr b1 (0 + ((15 : Int)).toNat * 1)):=hp 0 _ rfl rfl
   exact ZC (v:=(vB x13)) hE Za ld (lk rfl f3) ty5 rfl (At.vec (hM.rawAt (pre:=[_])) hi12.2) fun a hE=>⟨Kept.refl _ _,_,_,rfl,hE,rfl⟩
  ·exact fun a w ux8 hE hM hp=>Zd hE Za ld rfl fun a hE=>⟨Kept.refl _ _,_,_,rfl,hE,rfl⟩
  ·intro a w ux8 hE hM hp
   have f5 : ux8 5 = (vI p2):=hp 0 _ rfl rfl
   refine Vc hE Za ld (lk rfl f5) Try.underlying2 Try.underlying5 ?_; intro a hE
   rw [Xs] at hE
   exact ⟨Kept.refl _ _,_,_,rfl,hE,rfl⟩
  ·intro a w ux8 hE hM hp
   have f4 : ux8 4 = (vB x13):=hp 0 _ rfl rfl
   have f6 : ux8 6 = (vB (ZI p2)):=hp 1 _ rfl rfl
   exact Zi hE Za ld (lk rfl f4) (lk rfl f6) (WJ x13 (ZI p2)) fun a hE=>⟨Kept.refl _ _,_,_,rfl,hE,rfl⟩
  ·intro a w ux8 hE hM hp
   have f2 : ux8 2 = v0_1:=hp 0 _ rfl rfl
   exact Xy hE Za ld (lk (lk rfl f2) hv17) fun a hE=>⟨Kept.refl _ _,_,_,rfl,hE,rfl⟩
  ·intro a w ux8 hE hM hp
   have f8 : ux8 8 = (ptr pb15 0):=hp 0 _ rfl rfl
   exact ZA hE Za ld (lk rfl f8) (JD) fun a hE=>⟨Kept.refl _ _,_,_,rfl,hE,rfl⟩
  ·intro a w ux8 hE hM hp
   have f7 : ux8 7 = (vB (x13 ^^^ (ZI p2))):=hp 1 _ rfl rfl
   have f9 : ux8 9 = (ptr pb15 (0 + 0)):=hp 0 _ rfl rfl
   exact Zg hE Za ld (lk rfl f9) (lk rfl f7) Try.underlying49 ty5 hi25.1 fun a hE=>⟨Kept.refl _ _,_,_,rfl,hE,rfl⟩
  ·intro a w ux8 hE hM hp
   have f10 : ux8 10 = (ptr pb15 (0 + 0 + ((bI (x13 ^^^ (ZI p2)))).toNat * 1)):=hp 0 _ rfl rfl
   exact ZC (v:=(vB x26)) hE Za ld (lk rfl f10) ty5 rfl (At.vec (At.cat (pre:=[]) (hM.atk hA19 hB20) cl0) hi25.2) fun a hE=>⟨Kept.refl _ _,_,_,rfl,hE,rfl⟩
  ·intro a w ux8 hE hM hp
   have f1 : ux8 1 = (vB x10):=hp 0 _ rfl rfl
   have f11 : ux8 11 = (vB x26):=hp 1 _ rfl rfl
   exact Zi hE Za ld (lk rfl f1) (lk rfl f11) (WJ x10 x26) fun a hE=>⟨Kept.refl _ _,_,_,rfl,hE,rfl⟩
  ·exact fun a w ux8 hE hM hp=>Zg hE Za ld rfl rfl Try.underlying55 ty5 hi28.1 fun a hE=>⟨Kept.refl _ _,_,_,rfl,hE,rfl⟩
  ·intro a w ux8 hE hM hg
   have hE:=hE.sub (e':=[(20,(vB (x10 ^^^ x26))),(21,(ptr b1 (0 + ((0 : Int)).toNat * 1))),(0,v0_1),(4,(ptr b1 0)),(6,(ptr b3 0))]) ⟨lk rfl (hg 12 (by decide)),lk rfl (hg 13 (by decide)),rfl,rfl,rfl,trivial⟩
   have hM:=hM.pull (pre:=[_])
   refine Zo (seg:=[(vB (x10 ^^^ x26))]) (cs':=enc (p1.setIfInBounds ((0 : Int)).toNat (x10 ^^^ x26))) hE hM Za rfl rfl rfl ty5 rfl (ZG (v:=p1) (x:=x10 ^^^ x26) hi28.1) (Flat.cell (x10 ^^^ x26 : UInt8)) (Zz (v:=p1) (x:=x10 ^^^ x26) hi28.1) fun w a hM hE=>Zh ?_
   have ht31:=Option.some.inj hl6
   subst ht31
   refine Zj ?_
   have hM:=hM.pull (pre:=[_])
   exact ⟨hE.sub ⟨rfl,rfl,rfl,trivial⟩,hM⟩
 ·skip
  rintro a w ⟨hE,hM⟩
  refine wp_seq (Zc (Ze hE Za ld rfl fun a hE=>Zf ?_))
  obtain ⟨j32,hl33,hF34⟩:=bind_some hF7
  refine ZL (fun a w=>Env 41 a [(4,(ptr b1 0)),(6,(ptr b3 0))] ∧ M (Old w0) w0 w [raw b3 (enc (Vector.replicate 16 (0 : UInt8))),raw b1 (enc j32)]) ?_ ?_
  ·skip
   refine wp_block ?_
   refine ZF (fun (s35 : (Vector UInt8 16) × Int) a w=>Env 41 a [(0,v0_1),(4,(ptr b1 0)),(6,(ptr b3 0)),(7,vI s35.2)] ∧ M (Old w0) w0 w [raw b3 (enc (Vector.replicate 16 (0 : UInt8))),raw b1 (enc s35.1)]) hl33 ⟨hE.sub ⟨rfl,rfl,rfl,rfl,trivial⟩,hM⟩ ?_
   rintro s35 a w ⟨hE,hM⟩ o38 hs36 hx37
   unfold Yu at hs36
   refine wp_seq (Zc (Zd hE Za ld rfl fun a hE=>Zi hE Za ld rfl rfl rfl fun a hE=>Zf ?_))
   refine Zq hE rfl ?_ ?_
   ·intro hb39
    have hs36:=Zu hs36 hb39
    refine wp_skip (Zw (wp_seq (wp_block ?_)))
    obtain ⟨x42,hi41,hs36⟩:=bvx hs36
    obtain ⟨x45,hi44,hs36⟩:=bvx hs36
    obtain ⟨pb47,ds48,hv49,hx50,hA51,hB52⟩:=Vy hv0_1 -- ^
    obtain ⟨u53,u55,rfl,h54,h56⟩:=V9 hx50 -- ^
    obtain ⟨x58,hi57,hs36⟩:=bvx hs36
    obtain ⟨x61,hi60,hs36⟩:=bvx hs36
    refine YZ (n:=41) (hd:=[_,_,_,_,_,_,_,_,_,_,_,_,_,_]) (tl:=[_]) Wl rfl rfl [26,27,28,29,30,31,32,33,34,35,36,37,38,39] (by decide) (fun w=>M (Old w0) w0 w [raw b3 (enc (Vector.replicate 16 (0 : UInt8))),raw b1 (enc s35.1)]) (fun j=>([fun v _=>v = (vI s35.2),fun v _=>v = (ptr b1 (0 + (s35.2).toNat * 1)),fun v _=>v = (vB x42),fun v _=>v = v0_1,fun v _=>v = (vI s35.2),fun v _=>v = (vI (wr (s35.2 - 1))),fun v _=>v = (ptr b1 (0 + ((wr (s35.2 - 1))).toNat * 1)),fun v _=>v = (vB x45),fun v _=>v = (ptr pb47 0),fun v _=>v = (ptr pb47 (0 + 0)),fun v _=>v = (ptr pb47 (0 + 0 + ((bI x45)).toNat * 1)),fun v _=>v = (vB x58),fun v _=>v = (vB (x42 ^^^ x58)),fun v _=>v = (ptr b1 (0 + (s35.2).toNat * 1))] : List (Value → World → Prop)).getD j (fun _ _=>True)) (fun _ _ h hk=>h.keep hk) (gup (Zk (Zk (Zk (Zk (Zk (Zk (Zk (Zk (Zk (Zk (Zk (Zk (Zk (Zk V3))))))))))))))) hE hM.drew (ZQ (Zb ?_ (Zb ?_ (Zb ?_ (Zb ?_ (Zb ?_ (Zb ?_ (Zb ?_ (Zb ?_ (Zb ?_ (Zb ?_ (Zb ?_ (Zb ?_ (Zb ?_ (Zb ?_ ZJ))))))))))))))) ?_
    ·exact fun a w ux40 hE hM hp=>Zd hE Za ld rfl fun a hE=>⟨Kept.refl _ _,_,_,rfl,hE,rfl⟩
    ·intro a w ux40 hE hM hp
     have f0 : ux40 0 = (vI s35.2):=hp 0 _ rfl rfl
     exact Zg hE Za ld rfl (lk rfl f0) Try.underlying55 ty5 hi41.1 fun a hE=>⟨Kept.refl _ _,_,_,rfl,hE,rfl⟩
    ·intro a w ux40 hE hM hp
     have f1 : ux40 1 = (ptr b1 (0 + (s35.2).toNat * 1)):=hp 0 _ rfl rfl
     exact ZC (v:=(vB x42)) hE Za ld (lk rfl f1) ty5 rfl (At.vec (hM.rawAt (pre:=[_])) hi41.2) fun a hE=>⟨Kept.refl _ _,_,_,rfl,hE,rfl⟩
    ·exact fun a w ux40 hE hM hp=>Zd hE Za ld rfl fun a hE=>⟨Kept.refl _ _,_,_,rfl,hE,rfl⟩
    ·exact fun a w ux40 hE hM hp=>Zd hE Za ld rfl fun a hE=>⟨Kept.refl _ _,_,_,rfl,hE,rfl⟩
    ·intro a w ux40 hE hM hp
     have f4 : ux40 4 = (vI s35.2):=hp 0 _ rfl rfl
     exact Zi hE Za ld (lk rfl f4) rfl rfl fun a hE=>⟨Kept.refl _ _,_,_,rfl,hE,rfl⟩
    ·intro a w ux40 hE hM hp
     have f5 : ux40 5 = (vI (wr (s35.2 - 1))):=hp 0 _ rfl rfl
     exact Zg hE Za ld rfl (lk rfl f5) Try.underlying55 ty5 hi44.1 fun a hE=>⟨Kept.refl _ _,_,_,rfl,hE,rfl⟩
    ·intro a w ux40 hE hM hp
     have f6 : ux40 6 = (ptr b1 (0 + ((wr (s35.2 - 1))).toNat * 1)):=hp 0 _ rfl rfl
     exact ZC (v:=(vB x45)) hE Za ld (lk rfl f6) ty5 rfl (At.vec (hM.rawAt (pre:=[_])) hi44.2) fun a hE=>⟨Kept.refl _ _,_,_,rfl,hE,rfl⟩
    ·intro a w ux40 hE hM hp
     have f3 : ux40 3 = v0_1:=hp 0 _ rfl rfl
     exact Xy hE Za ld (lk (lk rfl f3) hv49) fun a hE=>⟨Kept.refl _ _,_,_,rfl,hE,rfl⟩
    ·intro a w ux40 hE hM hp
     have f8 : ux40 8 = (ptr pb47 0):=hp 0 _ rfl rfl
     exact ZA hE Za ld (lk rfl f8) (JD) fun a hE=>⟨Kept.refl _ _,_,_,rfl,hE,rfl⟩
    ·intro a w ux40 hE hM hp
     have f7 : ux40 7 = (vB x45):=hp 1 _ rfl rfl
     have f9 : ux40 9 = (ptr pb47 (0 + 0)):=hp 0 _ rfl rfl
     exact Zg hE Za ld (lk rfl f9) (lk rfl f7) Try.underlying49 ty5 hi57.1 fun a hE=>⟨Kept.refl _ _,_,_,rfl,hE,rfl⟩
    ·intro a w ux40 hE hM hp
     have f10 : ux40 10 = (ptr pb47 (0 + 0 + ((bI x45)).toNat * 1)):=hp 0 _ rfl rfl
     exact ZC (v:=(vB x58)) hE Za ld (lk rfl f10) ty5 rfl (At.vec (At.cat (pre:=[]) (hM.atk hA51 hB52) cl0) hi57.2) fun a hE=>⟨Kept.refl _ _,_,_,rfl,hE,rfl⟩
    ·intro a w ux40 hE hM hp
     have f2 : ux40 2 = (vB x42):=hp 0 _ rfl rfl
     have f11 : ux40 11 = (vB x58):=hp 1 _ rfl rfl
     exact Zi hE Za ld (lk rfl f2) (lk rfl f11) (WJ x42 x58) fun a hE=>⟨Kept.refl _ _,_,_,rfl,hE,rfl⟩
    ·intro a w ux40 hE hM hp
     have f0 : ux40 0 = (vI s35.2):=hp 0 _ rfl rfl
     exact Zg hE Za ld rfl (lk rfl f0) Try.underlying55 ty5 hi60.1 fun a hE=>⟨Kept.refl _ _,_,_,rfl,hE,rfl⟩
    ·intro a w ux40 hE hM hg
     have hE:=hE.sub (e':=[(38,(vB (x42 ^^^ x58))),(39,(ptr b1 (0 + (s35.2).toNat * 1))),(0,v0_1),(4,(ptr b1 0)),(6,(ptr b3 0)),(7,vI s35.2),(22,vI s35.2),(23,(vT (decide (s35.2 < 16))))]) ⟨lk rfl (hg 12 (by decide)),lk rfl (hg 13 (by decide)),rfl,rfl,rfl,rfl,rfl,rfl,trivial⟩
     have hM:=hM.pull (pre:=[_])
     refine Zo (seg:=[(vB (x42 ^^^ x58))]) (cs':=enc (s35.1.setIfInBounds (s35.2).toNat (x42 ^^^ x58))) hE hM Za rfl rfl rfl ty5 rfl (ZG (v:=s35.1) (x:=x42 ^^^ x58) hi60.1) (Flat.cell (x42 ^^^ x58 : UInt8)) (Zz (v:=s35.1) (x:=x42 ^^^ x58) hi60.1) fun w a hM hE=>Zh (Z9 (Zw (wp_region_lit (Zd hE Za ld rfl fun a hE=>Zi hE Za ld rfl rfl rfl fun a hE=>Ze hE Za ld rfl fun a hE=>Zh (Zj ?_)))))
     have hM:=hM.pull (pre:=[_])
     exact ⟨_,(ois hs36),hE.sub ⟨rfl,rfl,rfl,rfl,trivial⟩,hM⟩
   ·intro hb39
    have hs36:=Zv hs36 hb39
    refine wp_exit (Zm (Zm (Yf ?_)))
    have ht63:=hx37 _ (ois hs36)
    subst ht63
    refine Zj ?_
    exact ⟨hE.sub ⟨rfl,rfl,trivial⟩,hM⟩
  ·skip
   rintro a w ⟨hE,hM⟩
   refine Zw (Zc (Zn (cs:=enc j32) hE Za ld rfl ZK rfl (hM.rawAt (pre:=[_])) (Flat.len _) fun a hE=>Zo (seg:=enc j32) (cs':=enc j32) hE hM Za rfl rfl rfl ZK (Flat.len _) (zle flq) (Flat.cell _) (Zr flq) fun w a hM hE=>Zf ?_))
   have hr:=Option.some.inj hF34
   subst hr
   have hq64 : Xp Try.prog _ _ (.cell 6 55) _:=Ya hE rfl ZK rfl (hM.rawAt (pre:=[])) (Flat.len _) rfl
   have hM:=M.fst (l:=[]) hM
   exact wp_ret (Zx hE rfl hq64 ⟨_,rfl,rfl,hM.kept⟩)
def YS (p0 : (Ref Gengine)) (p2 : Int) (s10 : (Vector UInt8 16) × (List (Vector UInt8 16)) × Int) : Option (Fl ((Vector UInt8 16) × (List (Vector UInt8 16)) × Int) (List (Vector UInt8 16))) :=
 if (decide (s10.2.2 ≤ p2)) = true then ((Y2 p0 s10.1 s10.2.2).bind fun r17=>(app 16 s10.2.1 ([r17] : List (Vector UInt8 16))).bind fun l21=>some (Fl.nx (r17,(s10.2.1 ++ ([r17] : List (Vector UInt8 16))),wr (s10.2.2 + 1)))) else (some (Fl.ex s10.2.1))
def Y4 (p0 : (Ref Gengine)) (p1 : (Vector UInt8 16)) (p2 : Int) : Option ((List (Vector UInt8 16))) :=
 (ZE (YS p0 p2) (p1,([p1] : List (Vector UInt8 16)),1)).bind fun j5=>some j5
theorem TV (w0 : World) (p0 : (Ref Gengine)) (v0_1 : Value) (hv0_1 : Ro w0 p0 [v0_1]) (p1 : (Vector UInt8 16)) (p2 : Int) (r : (List (Vector UInt8 16))) (hF : Y4 p0 p1 p2 = some r) :
  Calls Try.prog 77 [v0_1,(Value.agg (enc p1).toArray),vI p2].toArray w0 (fun en w'=>∃ v,en = .returned v ∧ (∃ (y1 : Value),v = y1 ∧ Fr w0 w' [osl NoB (r : List (Vector UInt8 16)) y1] ∧ Kept (Old w0) w0 w')):=by
 refine ZB (n:=25) Try.func77 rfl rfl (nbl rfl) rfl ?_
 intro a hE
 have hM:=M.start w0
 unfold Y4 at hF
 refine Zc (ZZ (cs:=enc p1) hE hM Za ld rfl rfl fun b1 w a hM hE=>Ze hE Za ld rfl fun a hE=>Zf (Zc (Zn (cs:=enc p1) hE Za ld rfl ZK rfl (hM.rawAt (pre:=[])) (Flat.len _) fun a hE=>WG (xs:=[.tmp 9]) (l:=([p1] : List (Vector UInt8 16))) (vs:=[(Value.agg (enc p1).toArray)]) hE hM Za ld rfl rfl Try.underlying69 ZK rfl (by decide) rfl fun u3 w a hM hE=>Ze hE Za ld rfl fun a hE=>Zf (wp_seq (Zc (Ze hE Za ld rfl fun a hE=>Zf ?_))))))
 obtain ⟨j5,hl6,hF7⟩:=bind_some hF
 refine ZL (fun a w=>∃ (u8 : Value),Env 25 a [(7,u8)] ∧ M (Old w0) w0 w [osl NoB (j5 : List (Vector UInt8 16)) u8]) ?_ ?_
 ·skip
  refine wp_block ?_
  have hM:=hM.pull (pre:=[_])
  refine ZF (fun (s10 : (Vector UInt8 16) × (List (Vector UInt8 16)) × Int) a w=>∃ (u11 : Value),Env 25 a [(0,v0_1),(2,vI p2),(4,(ptr b1 0)),(7,u11),(8,vI s10.2.2)] ∧ M (Old w0) w0 w [raw b1 (enc s10.1),osl NoB (s10.2.1 : List (Vector UInt8 16)) u11]) hl6 ⟨u3,hE.sub ⟨rfl,rfl,rfl,rfl,rfl,trivial⟩,hM⟩ ?_
  rintro s10 a w ⟨u11,hE,hM⟩ o15 hs13 hx14
  unfold YS at hs13
  refine wp_seq (Zc (Zd hE Za ld rfl fun a hE=>Zd hE Za ld rfl fun a hE=>Zi hE Za ld rfl rfl rfl fun a hE=>Zf ?_))
  refine Zq hE rfl ?_ ?_
  ·intro hb16
   have hs13:=Zu hs13 hb16
   refine wp_skip (Zw (wp_seq (wp_block (Zc (Zd hE Za ld rfl fun a hE=>Zn (cs:=enc s10.1) hE Za ld rfl ZK rfl (hM.rawAt (pre:=[])) (Flat.len _) fun a hE=>Zd hE Za ld rfl ?_))))); intro a hE
   obtain ⟨r17,e18,hs13⟩:=bind_some hs13
   refine Zt hE Za ld rfl cb133 (To _ p0 v0_1 (hM.rdo hv0_1) s10.1 s10.2.2 r17 e18) ?_
   rintro v w a ⟨rfl,hK⟩ hE
   have hM:=hM.keep hK
   refine Zo (seg:=enc r17) (cs':=enc r17) hE hM Za rfl rfl rfl ZK (Flat.len _) (zle flq) (Flat.cell _) (Zr flq) fun w a hM hE=>Zf (wp_region_lit (Zd hE Za ld rfl fun a hE=>Zn (cs:=enc r17) hE Za ld rfl ZK rfl (hM.rawAt (pre:=[])) (Flat.len _) fun a hE=>WG (xs:=[.tmp 21]) (l:=([r17] : List (Vector UInt8 16))) (vs:=[(Value.agg (enc r17).toArray)]) hE hM Za ld rfl rfl Try.underlying69 ZK rfl (by decide) rfl ?_)); intro u19 w a hM hE
   obtain ⟨l21,e22,hs13⟩:=bind_some hs13
   obtain ⟨e25,rfl⟩:=UV e22
   have hM:=hM.pull (pre:=[_,_])
   refine Uv hE hM Za ld rfl rfl (hM.sl (pre:=[_]) noB) Try.underlying69 ZK rfl (by decide) e25 fun u23 w a hM hE=>Ze hE Za ld rfl fun a hE=>Zh (Z9 (Zw (wp_region_lit (Zd hE Za ld rfl fun a hE=>Zi hE Za ld rfl rfl rfl fun a hE=>Ze hE Za ld rfl fun a hE=>Zh (Zj ?_)))))
   have hM:=M.fst (l:=[_,_]) (hM.pull (pre:=[_,_]))
   exact ⟨_,(ois hs13),u23,hE.sub ⟨rfl,rfl,rfl,rfl,rfl,trivial⟩,hM⟩
  ·intro hb16
   have hs13:=Zv hs13 hb16
   refine wp_exit (Zm (Zm (Yf ?_)))
   have ht26:=hx14 _ (ois hs13)
   subst ht26
   refine Zj ?_
   have hM:=M.fst (l:=[_]) (hM.pull (pre:=[_]))
   exact ⟨u11,hE.sub ⟨rfl,trivial⟩,hM⟩
 ·skip
  rintro a w ⟨u8,hE,hM⟩
  refine Zw (Zc (Zd hE Za ld rfl fun a hE=>Ze hE Za ld rfl fun a hE=>Zf ?_))
  have hr:=Option.some.inj hF7
  subst hr
  exact wp_ret (Zx hE rfl (Zs hE rfl) ⟨_,rfl,u8,rfl,hM.outF (Tn UM),hM.kept⟩)
def Xq (p1 : (Vector UInt8 16)) (s10 : (Vector UInt8 16) × Int) : Option (Fl ((Vector UInt8 16) × Int) (Vector UInt8 16)) :=
 if (decide (s10.2 < 16)) = true then ((Zy s10.1 s10.2).bind fun x17=>(Zy p1 s10.2).bind fun x20=>(Zy s10.1 s10.2).bind fun x23=>some (Fl.nx ((s10.1.setIfInBounds (s10.2).toNat (x17 ^^^ x20)),wr (s10.2 + 1)))) else (some (Fl.ex s10.1))
def XN (p0 : (Vector UInt8 16)) (p1 : (Vector UInt8 16)) : Option ((Vector UInt8 16)) :=
 (ZE (Xq p1) (p0,0)).bind fun j7=>some j7
theorem UY (w0 : World) (p0 : (Vector UInt8 16)) (p1 : (Vector UInt8 16)) (r : (Vector UInt8 16)) (hF : XN p0 p1 = some r) :
  Calls Try.prog 130 [(Value.agg (enc p0).toArray),(Value.agg (enc p1).toArray)].toArray w0 (fun en w'=>∃ v,en = .returned v ∧ (v = (Value.agg (enc r).toArray) ∧ Kept (Old w0) w0 w')):=by
 refine ZB (n:=19) Try.func130 rfl rfl (nbl rfl) rfl ?_
 intro a hE
 have hM:=M.start w0
 unfold XN at hF
 refine Zc (ZZ (cs:=enc p0) hE hM Za ld rfl rfl fun b1 w a hM hE=>ZZ (cs:=enc p1) hE hM Za ld rfl rfl fun b3 w a hM hE=>ZH hE hM Za ld ZK fun b5 w a hM hE=>Zf (wp_seq (Zc (Zd hE Za ld rfl fun a hE=>Zf ?_))))
 obtain ⟨j7,hl8,hF9⟩:=bind_some hF
 refine ZL (fun a w=>Env 19 a [(2,(ptr b1 0)),(4,(ptr b5 0))] ∧ M (Old w0) w0 w [raw b5 (enc (Vector.replicate 16 (0 : UInt8))),raw b1 (enc j7)]) ?_ ?_
 ·skip
  refine wp_block ?_
  refine ZF (fun (s10 : (Vector UInt8 16) × Int) a w=>Env 19 a [(2,(ptr b1 0)),(3,(ptr b3 0)),(4,(ptr b5 0)),(6,vI s10.2)] ∧ M (Old w0) w0 w [raw b5 (enc (Vector.replicate 16 (0 : UInt8))),raw b3 (enc p1),raw b1 (enc s10.1)]) hl8 ⟨hE.sub ⟨rfl,rfl,rfl,rfl,trivial⟩,hM⟩ ?_
  rintro s10 a w ⟨hE,hM⟩ o13 hs11 hx12
  unfold Xq at hs11
  refine Zc (Zi hE Za ld rfl rfl rfl fun a hE=>Zf (wp_seq ?_))
  refine Zq hE rfl ?_ ?_
  ·intro hb14
   have hs11:=Zu hs11 hb14
   refine wp_skip (Zw (wp_seq (wp_block (Zc (Zd hE Za ld rfl fun a hE=>Ze hE Za ld rfl fun a hE=>Zf ?_)))))
   obtain ⟨x17,hi16,hs11⟩:=bvx hs11
   obtain ⟨x20,hi19,hs11⟩:=bvx hs11
   obtain ⟨x23,hi22,hs11⟩:=bvx hs11
   refine YZ (n:=19) (hd:=[_,_,_,_,_,_,_,_]) (tl:=[_]) Wl rfl rfl [9,10,11,12,13,14,15,16] (by decide) (fun w=>M (Old w0) w0 w [raw b5 (enc (Vector.replicate 16 (0 : UInt8))),raw b3 (enc p1),raw b1 (enc s10.1)]) (fun j=>([fun v _=>v = (vI s10.2),fun v _=>v = (ptr b1 (0 + (s10.2).toNat * 1)),fun v _=>v = (vB x17),fun v _=>v = (vI s10.2),fun v _=>v = (ptr b3 (0 + (s10.2).toNat * 1)),fun v _=>v = (vB x20),fun v _=>v = (vB (x17 ^^^ x20)),fun v _=>v = (ptr b1 (0 + (s10.2).toNat * 1))] : List (Value → World → Prop)).getD j (fun _ _=>True)) (fun _ _ h hk=>h.keep hk) (gup (Zk (Zk (Zk (Zk (Zk (Zk (Zk (Zk V3))))))))) hE hM.drew (ZQ (Zb ?_ (Zb ?_ (Zb ?_ (Zb ?_ (Zb ?_ (Zb ?_ (Zb ?_ (Zb ?_ ZJ))))))))) ?_
   ·exact fun a w ux15 hE hM hp=>Zd hE Za ld rfl fun a hE=>⟨Kept.refl _ _,_,_,rfl,hE,rfl⟩
   ·intro a w ux15 hE hM hp
    have f0 : ux15 0 = (vI s10.2):=hp 0 _ rfl rfl
    exact Zg hE Za ld rfl (lk rfl f0) Try.underlying55 ty5 hi16.1 fun a hE=>⟨Kept.refl _ _,_,_,rfl,hE,rfl⟩
   ·intro a w ux15 hE hM hp
    have f1 : ux15 1 = (ptr b1 (0 + (s10.2).toNat * 1)):=hp 0 _ rfl rfl
    exact ZC (v:=(vB x17)) hE Za ld (lk rfl f1) ty5 rfl (At.vec (hM.rawAt (pre:=[_,_])) hi16.2) fun a hE=>⟨Kept.refl _ _,_,_,rfl,hE,rfl⟩
   ·exact fun a w ux15 hE hM hp=>Zd hE Za ld rfl fun a hE=>⟨Kept.refl _ _,_,_,rfl,hE,rfl⟩
   ·intro a w ux15 hE hM hp
    have f3 : ux15 3 = (vI s10.2):=hp 0 _ rfl rfl
    exact Zg hE Za ld rfl (lk rfl f3) Try.underlying55 ty5 hi19.1 fun a hE=>⟨Kept.refl _ _,_,_,rfl,hE,rfl⟩
   ·intro a w ux15 hE hM hp
    have f4 : ux15 4 = (ptr b3 (0 + (s10.2).toNat * 1)):=hp 0 _ rfl rfl
    exact ZC (v:=(vB x20)) hE Za ld (lk rfl f4) ty5 rfl (At.vec (hM.rawAt (pre:=[_])) hi19.2) fun a hE=>⟨Kept.refl _ _,_,_,rfl,hE,rfl⟩
   ·intro a w ux15 hE hM hp
    have f2 : ux15 2 = (vB x17):=hp 0 _ rfl rfl
    have f5 : ux15 5 = (vB x20):=hp 1 _ rfl rfl
    exact Zi hE Za ld (lk rfl f2) (lk rfl f5) (WJ x17 x20) fun a hE=>⟨Kept.refl _ _,_,_,rfl,hE,rfl⟩
   ·intro a w ux15 hE hM hp
    have f0 : ux15 0 = (vI s10.2):=hp 0 _ rfl rfl
    exact Zg hE Za ld rfl (lk rfl f0) Try.underlying55 ty5 hi22.1 fun a hE=>⟨Kept.refl _ _,_,_,rfl,hE,rfl⟩
   ·intro a w ux15 hE hM hg
    have hE:=hE.sub (e':=[(15,(vB (x17 ^^^ x20))),(16,(ptr b1 (0 + (s10.2).toNat * 1))),(2,(ptr b1 0)),(3,(ptr b3 0)),(4,(ptr b5 0)),(5,vI s10.2),(6,vI s10.2),(7,(vT (decide (s10.2 < 16)))),(8,vI s10.2)]) ⟨lk rfl (hg 6 (by decide)),lk rfl (hg 7 (by decide)),rfl,rfl,rfl,rfl,rfl,rfl,rfl,trivial⟩
    have hM:=hM.pull (pre:=[_,_])
    refine Zo (seg:=[(vB (x17 ^^^ x20))]) (cs':=enc (s10.1.setIfInBounds (s10.2).toNat (x17 ^^^ x20))) hE hM Za rfl rfl rfl ty5 rfl (ZG (v:=s10.1) (x:=x17 ^^^ x20) hi22.1) (Flat.cell (x17 ^^^ x20 : UInt8)) (Zz (v:=s10.1) (x:=x17 ^^^ x20) hi22.1) fun w a hM hE=>Zh (Z9 (Zw (wp_region_lit (Zi hE Za ld rfl rfl rfl fun a hE=>Zd hE Za ld rfl fun a hE=>Zh (Zj ?_)))))
    have hM:=(hM.pull (pre:=[_,_])).pull (pre:=[_,_])
    exact ⟨_,(ois hs11),hE.sub ⟨rfl,rfl,rfl,rfl,trivial⟩,hM⟩
  ·intro hb14
   have hs11:=Zv hs11 hb14
   refine wp_exit (Zm (Zm (Yf ?_)))
   have ht25:=hx12 _ (ois hs11)
   subst ht25
   refine Zj ?_
   have hM:=M.fst (l:=[_,_]) ((hM.pull (pre:=[_,_])).pull (pre:=[_]))
   exact ⟨hE.sub ⟨rfl,rfl,trivial⟩,hM⟩
 ·skip
  rintro a w ⟨hE,hM⟩
  refine Zw (Zc (Zn (cs:=enc j7) hE Za ld rfl ZK rfl (hM.rawAt (pre:=[_])) (Flat.len _) fun a hE=>Zo (seg:=enc j7) (cs':=enc j7) hE hM Za rfl rfl rfl ZK (Flat.len _) (zle flq) (Flat.cell _) (Zr flq) fun w a hM hE=>Zf ?_))
  have hr:=Option.some.inj hF9
  subst hr
  have hq26 : Xp Try.prog _ _ (.cell 4 55) _:=Ya hE rfl ZK rfl (hM.rawAt (pre:=[])) (Flat.len _) rfl
  have hM:=M.fst (l:=[]) hM
  exact wp_ret (Zx hE rfl hq26 ⟨_,rfl,rfl,hM.kept⟩)
def YU (p0 : (Vector UInt8 16)) (p1 : (Vector UInt8 16)) (s12 : (Vector UInt8 16) × Int) : Option (Fl ((Vector UInt8 16) × Int) (Vector UInt8 16)) :=
 if (decide (s12.2 < 16)) = true then ((Zy p0 s12.2).bind fun x17=>(Zy p1 (bI x17)).bind fun x21=>(Zy s12.1 s12.2).bind fun x24=>some (Fl.nx ((s12.1.setIfInBounds (s12.2).toNat x21),wr (s12.2 + 1)))) else (some (Fl.ex s12.1))
def XT (p0 : (Vector UInt8 16)) (p1 : (Vector UInt8 16)) : Option ((Vector UInt8 16)) :=
 (ZE (YU p0 p1) ((Vector.replicate 16 (0 : UInt8)),0)).bind fun j9=>some j9
theorem TZ (w0 : World) (p0 : (Vector UInt8 16)) (p1 : (Vector UInt8 16)) (r : (Vector UInt8 16)) (hF : XT p0 p1 = some r) :
  Calls Try.prog 132 [(Value.agg (enc p0).toArray),(Value.agg (enc p1).toArray)].toArray w0 (fun en w'=>∃ v,en = .returned v ∧ (v = (Value.agg (enc r).toArray) ∧ Kept (Old w0) w0 w')):=by
 refine ZB (n:=21) Try.func132 rfl rfl (nbl rfl) rfl ?_
 intro a hE
 have hM:=M.start w0
 unfold XT at hF
 refine Zc (ZZ (cs:=enc p0) hE hM Za ld rfl rfl fun b1 w a hM hE=>ZZ (cs:=enc p1) hE hM Za ld rfl rfl fun b3 w a hM hE=>ZH hE hM Za ld ZK fun b5 w a hM hE=>Zf (Zc (XV (parts:=[]) (vs:=[]) (cs:=enc (Vector.replicate 16 (0 : UInt8))) hE Za ld rfl rfl ZK rfl ty5 Y7 fun a hE=>ZH hE hM Za ld ZK fun b7 w a hM hE=>Zo (seg:=enc (Vector.replicate 16 (0 : UInt8))) (cs':=enc (Vector.replicate 16 (0 : UInt8))) hE hM Za rfl rfl rfl ZK (Flat.len _) (zle flq) (Flat.cell _) (Zr flq) fun w a hM hE=>Zf (wp_seq (Zc (Zn (cs:=enc p0) hE Za ld rfl Ul rfl (hM.rawAt (pre:=[_,_,_])) (Flat.len _) fun a hE=>Zd hE Za ld rfl fun a hE=>Zf ?_))))))
 obtain ⟨j9,hl10,hF11⟩:=bind_some hF
 refine ZL (fun a w=>Env 21 a [(4,(ptr b5 0)),(5,(ptr b7 0))] ∧ M (Old w0) w0 w [raw b7 (enc j9),raw b5 (enc (Vector.replicate 16 (0 : UInt8)))]) ?_ ?_
 ·skip
  refine wp_block ?_
  have hM:=M.fst (l:=[_,_,_]) (((hM.pull (pre:=[_,_])).pull (pre:=[_,_])).pull (pre:=[_,_]))
  refine ZF (fun (s12 : (Vector UInt8 16) × Int) a w=>Env 21 a [(3,(ptr b3 0)),(4,(ptr b5 0)),(5,(ptr b7 0)),(9,(Value.agg (enc p0).toArray)),(10,vI s12.2)] ∧ M (Old w0) w0 w [raw b7 (enc s12.1),raw b5 (enc (Vector.replicate 16 (0 : UInt8))),raw b3 (enc p1)]) hl10 ⟨hE.sub ⟨rfl,rfl,rfl,rfl,rfl,trivial⟩,hM⟩ ?_
  rintro s12 a w ⟨hE,hM⟩ o15 hs13 hx14
  unfold YU at hs13
  refine Zc (Zi hE Za ld rfl rfl rfl fun a hE=>Zf (wp_seq ?_))
  refine Zq hE rfl ?_ ?_
  ·intro hb16
   have hs13:=Zu hs13 hb16
   refine wp_skip (Zw (wp_seq (wp_block (Zc (Zd hE Za ld rfl ?_))))); intro a hE
   obtain ⟨x17,hi19,hs13⟩:=bvx hs13
   refine UC hE Za ld rfl rfl Try.underlying51 ty5 rfl rfl hi19 rfl fun a hE=>Ze hE Za ld rfl fun a hE=>Ze hE Za ld rfl fun a hE=>Zf (wp_region_lit (Zd hE Za ld rfl fun a hE=>Zd hE Za ld rfl ?_)); intro a hE
   obtain ⟨x21,hi20,hs13⟩:=bvx hs13
   refine Zg hE Za ld rfl rfl Try.underlying55 ty5 hi20.1 fun a hE=>ZC (v:=(vB x21)) hE Za ld rfl ty5 rfl (At.vec (hM.rawAt (pre:=[_,_])) hi20.2) ?_; intro a hE
   obtain ⟨x24,hi23,hs13⟩:=bvx hs13
   refine Zg hE Za ld rfl rfl Try.underlying55 ty5 hi23.1 fun a hE=>Zo (seg:=[vB x21]) (cs':=enc (s12.1.setIfInBounds (s12.2).toNat x21)) hE hM Za rfl rfl rfl ty5 rfl (ZG (v:=s12.1) (x:=x21) hi23.1) (Flat.cell (x21 : UInt8)) (Zz (v:=s12.1) (x:=x21) hi23.1) fun w a hM hE=>Zh (Z9 (Zw (wp_region_lit (Zi hE Za ld rfl rfl rfl fun a hE=>Zd hE Za ld rfl fun a hE=>Zh (Zj ?_)))))
   exact ⟨_,(ois hs13),hE.sub ⟨rfl,rfl,rfl,rfl,rfl,trivial⟩,hM⟩
  ·intro hb16
   have hs13:=Zv hs13 hb16
   refine wp_exit (Zm (Zm (Yf ?_)))
   have ht26:=hx14 _ (ois hs13)
   subst ht26
   refine Zj ?_
   have hM:=M.fst (l:=[_,_]) ((hM.pull (pre:=[_])).pull (pre:=[_]))
   exact ⟨hE.sub ⟨rfl,rfl,trivial⟩,hM⟩
 ·skip
  rintro a w ⟨hE,hM⟩
  refine Zw (Zc (Zn (cs:=enc j9) hE Za ld rfl ZK rfl (hM.rawAt (pre:=[])) (Flat.len _) ?_)); intro a hE
  have hM:=hM.pull (pre:=[_])
  refine Zo (seg:=enc j9) (cs':=enc j9) hE hM Za rfl rfl rfl ZK (Flat.len _) (zle flq) (Flat.cell _) (Zr flq) fun w a hM hE=>Zf ?_
  have hr:=Option.some.inj hF11
  subst hr
  have hq27 : Xp Try.prog _ _ (.cell 4 55) _:=Ya hE rfl ZK rfl (hM.rawAt (pre:=[])) (Flat.len _) rfl
  have hM:=M.fst (l:=[]) hM
  exact wp_ret (Zx hE rfl hq27 ⟨_,rfl,rfl,hM.kept⟩)
def Xw (p0 : (Ref (Vector (Vector (Vector UInt8 256) 4) 4))) (s4 : (Vector UInt8 16) × Int) (j9 : UInt8 × UInt8 × UInt8 × UInt8) (s29 : (Vector UInt8 16) × Int) : Option (Fl ((Vector UInt8 16) × Int) (Vector UInt8 16)) :=
 if (decide (s29.2 < 4)) = true then ((Zy p0.v s29.2).bind fun x42=>(Zy x42 (0 : Int)).bind fun x45=>(Zy x45 (bI j9.1)).bind fun x48=>(Zy p0.v s29.2).bind fun x57=>(Zy x57 (1 : Int)).bind fun x60=>(Zy x60 (bI j9.2.1)).bind fun x63=>(Zy p0.v s29.2).bind fun x72=>(Zy x72 (2 : Int)).bind fun x75=>(Zy x75 (bI j9.2.2.1)).bind fun x78=>(Zy p0.v s29.2).bind fun x87=>(Zy x87 (3 : Int)).bind fun x90=>(Zy x90 (bI j9.2.2.2)).bind fun x93=>(Zy s29.1 (wr (s4.2 + s29.2))).bind fun x95=>some (Fl.nx ((s29.1.setIfInBounds ((wr (s4.2 + s29.2))).toNat (((x48 ^^^ x63) ^^^ x78) ^^^ x93)),wr (s29.2 + 1)))) else (some (Fl.ex s29.1))
def Xx (p0 : (Ref (Vector (Vector (Vector UInt8 256) 4) 4))) (s4 : (Vector UInt8 16) × Int) : Option (Fl ((Vector UInt8 16) × Int) (Vector UInt8 16)) :=
 if (decide (s4.2 < (s4.1.toList.length : Int))) = true then (((Zy s4.1 s4.2).bind fun x13=>(Zy s4.1 (wr (s4.2 + 1))).bind fun x16=>(Zy s4.1 (wr (s4.2 + 2))).bind fun x19=>(Zy s4.1 (wr (s4.2 + 3))).bind fun x22=>some (x13,x16,x19,x22) : Option (UInt8 × UInt8 × UInt8 × UInt8)).bind fun j9=>(ZE (Xw p0 s4 j9) (s4.1,0)).bind fun j26=>some (Fl.nx (j26,wr (s4.2 + 4)))) else (some (Fl.ex s4.1))
def WC (p0 : (Ref (Vector (Vector (Vector UInt8 256) 4) 4))) (p1 : (Vector UInt8 16)) : Option ((Vector UInt8 16)) :=
 (ZE (Xx p0) (p1,0)).bind fun j1=>some j1
theorem QN (St : Nat → Prop) (W w0 : World) (its : List Item) (p0 : (Ref (Vector (Vector (Vector UInt8 256) 4) 4))) (v0_1 : Value) (hv0_1 : Rep.sat St W p0 [v0_1] []) (pb1 : Nat) (p1 : (Vector UInt8 16)) (hM : M St W w0 (raw pb1 (enc p1) :: its)) (r : (Vector UInt8 16)) (hF : WC p0 p1 = some r) :
  Calls Try.prog 131 [v0_1,(Value.slice (some ⟨pb1,0,none⟩) 16 16)].toArray w0 (fun en w'=>∃ v,en = .returned v ∧ (v = (Value.tuple [].toArray) ∧ M St W w' (raw pb1 (enc r) :: its))):=by
 refine ZB (n:=79) Try.func131 rfl rfl (nbl rfl) rfl ?_
 intro a hE
 unfold WC at hF
 refine Zc (Ze hE Za ld rfl fun a hE=>Zf ?_)
 obtain ⟨j1,hl2,hF3⟩:=bind_some hF
 refine ZL (fun a w=>Env 79 a [(1,(Value.slice (some ⟨pb1,0,none⟩) 16 16))] ∧ M St W w (raw pb1 (enc j1) :: its)) ?_ ?_
 ·skip
  refine wp_block ?_
  refine ZF (fun (s4 : (Vector UInt8 16) × Int) a w=>Env 79 a [(0,v0_1),(1,(Value.slice (some ⟨pb1,0,none⟩) 16 16)),(4,vI s4.2)] ∧ M St W w (raw pb1 (enc s4.1) :: its)) hl2 ⟨hE.sub ⟨rfl,rfl,rfl,trivial⟩,hM⟩ ?_
  rintro s4 a w ⟨hE,hM⟩ o7 hs5 hx6
  unfold Xx at hs5
  refine wp_seq (Zc (Zd hE Za ld rfl fun a hE=>Zd hE Za ld rfl fun a hE=>Ws hE Za ld rfl Try.underlying22 (Aw (hM.rawAt (pre:=[]))) fun a hE=>Zi hE Za ld rfl rfl rfl fun a hE=>Zf ?_))
  refine Zq hE rfl ?_ ?_
  ·intro hb8
   have hs5:=Zu hs5 hb8
   refine wp_skip (Zw (wp_seq (wp_block ?_)))
   obtain ⟨j9,hl10,hF11⟩:=bind_some hs5
   refine ZM (fun a w=>Env 79 a [(0,v0_1),(1,(Value.slice (some ⟨pb1,0,none⟩) 16 16)),(4,vI s4.2),(5,vB j9.1),(6,vB j9.2.1),(7,vB j9.2.2.1),(8,vB j9.2.2.2)] ∧ M St W w (raw pb1 (enc s4.1) :: its)) ?_ ?_
   ·skip
    obtain ⟨x13,hi15,hl10⟩:=bvx hl10
    obtain ⟨x16,hi18,hl10⟩:=bvx hl10
    obtain ⟨x19,hi21,hl10⟩:=bvx hl10
    obtain ⟨x22,hi24,hl10⟩:=bvx hl10
    refine YZ (n:=79) (hd:=[_,_,_,_,_,_,_,_,_,_,_,_,_,_,_,_,_,_,_,_,_,_,_]) (tl:=[]) Wl rfl rfl [16,17,18,19,20,21,22,23,24,25,26,27,28,29,30,31,32,33,34,5,6,7,8] (by decide) (fun w=>M St W w (raw pb1 (enc s4.1) :: its)) (fun j=>([fun v _=>v = (Value.slice (some ⟨pb1,0,none⟩) 16 16),fun v _=>v = (vI s4.2),fun v _=>v = (ptr pb1 (0 + (s4.2).toNat * 1)),fun v _=>v = (vB x13),fun v _=>v = (Value.slice (some ⟨pb1,0,none⟩) 16 16),fun v _=>v = (vI s4.2),fun v _=>v = (vI (wr (s4.2 + 1))),fun v _=>v = (ptr pb1 (0 + ((wr (s4.2 + 1))).toNat * 1)),fun v _=>v = (vB x16),fun v _=>v = (Value.slice (some ⟨pb1,0,none⟩) 16 16),fun v _=>v = (vI s4.2),fun v _=>v = (vI (wr (s4.2 + 2))),fun v _=>v = (ptr pb1 (0 + ((wr (s4.2 + 2))).toNat * 1)),fun v _=>v = (vB x19),fun v _=>v = (Value.slice (some ⟨pb1,0,none⟩) 16 16),fun v _=>v = (vI s4.2),fun v _=>v = (vI (wr (s4.2 + 3))),fun v _=>v = (ptr pb1 (0 + ((wr (s4.2 + 3))).toNat * 1)),fun v _=>v = (vB x22),fun v _=>v = (vB x13),fun v _=>v = (vB x16),fun v _=>v = (vB x19),fun v _=>v = (vB x22)] : List (Value → World → Prop)).getD j (fun _ _=>True)) (fun _ _ h hk=>h.keep hk) (gup (Zk (Zk (Zk (Zk (Zk (Zk (Zk (Zk (Zk (Zk (Zk (Zk (Zk (Zk (Zk (Zk (Zk (Zk (Zk (Zk (Zk (Zk (Zk V3)))))))))))))))))))))))) hE hM.drew (ZQ (Zb ?_ (Zb ?_ (Zb ?_ (Zb ?_ (Zb ?_ (Zb ?_ (Zb ?_ (Zb ?_ (Zb ?_ (Zb ?_ (Zb ?_ (Zb ?_ (Zb ?_ (Zb ?_ (Zb ?_ (Zb ?_ (Zb ?_ (Zb ?_ (Zb ?_ (Zb ?_ (Zb ?_ (Zb ?_ (Zb ?_ ZJ)))))))))))))))))))))))) ?_
    ·exact fun a w ux12 hE hM hp=>Zd hE Za ld rfl fun a hE=>⟨Kept.refl _ _,_,_,rfl,hE,rfl⟩
    ·exact fun a w ux12 hE hM hp=>Zd hE Za ld rfl fun a hE=>⟨Kept.refl _ _,_,_,rfl,hE,rfl⟩
    ·intro a w ux12 hE hM hp
     have f0 : ux12 0 = (Value.slice (some ⟨pb1,0,none⟩) 16 16):=hp 0 _ rfl rfl
     have f1 : ux12 1 = (vI s4.2):=hp 1 _ rfl rfl
     exact Uj hE Za ld (lk rfl f0) (lk rfl f1) Try.underlying22 ty5 hi15.1 fun a hE=>⟨Kept.refl _ _,_,_,rfl,hE,rfl⟩
    ·intro a w ux12 hE hM hp
     have f2 : ux12 2 = (ptr pb1 (0 + (s4.2).toNat * 1)):=hp 0 _ rfl rfl
     exact ZC (v:=(vB x13)) hE Za ld (lk rfl f2) ty5 rfl (At.vec (hM.rawAt (pre:=[])) hi15.2) fun a hE=>⟨Kept.refl _ _,_,_,rfl,hE,rfl⟩
    ·exact fun a w ux12 hE hM hp=>Zd hE Za ld rfl fun a hE=>⟨Kept.refl _ _,_,_,rfl,hE,rfl⟩
    ·exact fun a w ux12 hE hM hp=>Zd hE Za ld rfl fun a hE=>⟨Kept.refl _ _,_,_,rfl,hE,rfl⟩
    ·intro a w ux12 hE hM hp
     have f5 : ux12 5 = (vI s4.2):=hp 0 _ rfl rfl
     exact Zi hE Za ld (lk rfl f5) rfl rfl fun a hE=>⟨Kept.refl _ _,_,_,rfl,hE,rfl⟩
    ·intro a w ux12 hE hM hp
     have f4 : ux12 4 = (Value.slice (some ⟨pb1,0,none⟩) 16 16):=hp 0 _ rfl rfl
     have f6 : ux12 6 = (vI (wr (s4.2 + 1))):=hp 1 _ rfl rfl
     exact Uj hE Za ld (lk rfl f4) (lk rfl f6) Try.underlying22 ty5 hi18.1 fun a hE=>⟨Kept.refl _ _,_,_,rfl,hE,rfl⟩
    ·intro a w ux12 hE hM hp
     have f7 : ux12 7 = (ptr pb1 (0 + ((wr (s4.2 + 1))).toNat * 1)):=hp 0 _ rfl rfl
     exact ZC (v:=(vB x16)) hE Za ld (lk rfl f7) ty5 rfl (At.vec (hM.rawAt (pre:=[])) hi18.2) fun a hE=>⟨Kept.refl _ _,_,_,rfl,hE,rfl⟩
    ·exact fun a w ux12 hE hM hp=>Zd hE Za ld rfl fun a hE=>⟨Kept.refl _ _,_,_,rfl,hE,rfl⟩
    ·exact fun a w ux12 hE hM hp=>Zd hE Za ld rfl fun a hE=>⟨Kept.refl _ _,_,_,rfl,hE,rfl⟩
    ·intro a w ux12 hE hM hp
     have f10 : ux12 10 = (vI s4.2):=hp 0 _ rfl rfl
     exact Zi hE Za ld (lk rfl f10) rfl rfl fun a hE=>⟨Kept.refl _ _,_,_,rfl,hE,rfl⟩
    ·intro a w ux12 hE hM hp
     have f9 : ux12 9 = (Value.slice (some ⟨pb1,0,none⟩) 16 16):=hp 0 _ rfl rfl
     have f11 : ux12 11 = (vI (wr (s4.2 + 2))):=hp 1 _ rfl rfl
     exact Uj hE Za ld (lk rfl f9) (lk rfl f11) Try.underlying22 ty5 hi21.1 fun a hE=>⟨Kept.refl _ _,_,_,rfl,hE,rfl⟩
    ·intro a w ux12 hE hM hp
     have f12 : ux12 12 = (ptr pb1 (0 + ((wr (s4.2 + 2))).toNat * 1)):=hp 0 _ rfl rfl
     exact ZC (v:=(vB x19)) hE Za ld (lk rfl f12) ty5 rfl (At.vec (hM.rawAt (pre:=[])) hi21.2) fun a hE=>⟨Kept.refl _ _,_,_,rfl,hE,rfl⟩
    ·exact fun a w ux12 hE hM hp=>Zd hE Za ld rfl fun a hE=>⟨Kept.refl _ _,_,_,rfl,hE,rfl⟩
    ·exact fun a w ux12 hE hM hp=>Zd hE Za ld rfl fun a hE=>⟨Kept.refl _ _,_,_,rfl,hE,rfl⟩
    ·intro a w ux12 hE hM hp
     have f15 : ux12 15 = (vI s4.2):=hp 0 _ rfl rfl
     exact Zi hE Za ld (lk rfl f15) rfl rfl fun a hE=>⟨Kept.refl _ _,_,_,rfl,hE,rfl⟩
    ·intro a w ux12 hE hM hp
     have f14 : ux12 14 = (Value.slice (some ⟨pb1,0,none⟩) 16 16):=hp 0 _ rfl rfl
     have f16 : ux12 16 = (vI (wr (s4.2 + 3))):=hp 1 _ rfl rfl
     exact Uj hE Za ld (lk rfl f14) (lk rfl f16) Try.underlying22 ty5 hi24.1 fun a hE=>⟨Kept.refl _ _,_,_,rfl,hE,rfl⟩
    ·intro a w ux12 hE hM hp
     have f17 : ux12 17 = (ptr pb1 (0 + ((wr (s4.2 + 3))).toNat * 1)):=hp 0 _ rfl rfl
     exact ZC (v:=(vB x22)) hE Za ld (lk rfl f17) ty5 rfl (At.vec (hM.rawAt (pre:=[])) hi24.2) fun a hE=>⟨Kept.refl _ _,_,_,rfl,hE,rfl⟩
    ·intro a w ux12 hE hM hp
     have f3 : ux12 3 = (vB x13):=hp 0 _ rfl rfl
     exact Ze hE Za ld (lk rfl f3) fun a hE=>⟨Kept.refl _ _,_,_,rfl,hE,rfl⟩
    ·intro a w ux12 hE hM hp
     have f8 : ux12 8 = (vB x16):=hp 0 _ rfl rfl
     exact Ze hE Za ld (lk rfl f8) fun a hE=>⟨Kept.refl _ _,_,_,rfl,hE,rfl⟩
    ·intro a w ux12 hE hM hp
     have f13 : ux12 13 = (vB x19):=hp 0 _ rfl rfl
     exact Ze hE Za ld (lk rfl f13) fun a hE=>⟨Kept.refl _ _,_,_,rfl,hE,rfl⟩
    ·intro a w ux12 hE hM hp
     have f18 : ux12 18 = (vB x22):=hp 0 _ rfl rfl
     exact Ze hE Za ld (lk rfl f18) fun a hE=>⟨Kept.refl _ _,_,_,rfl,hE,rfl⟩
    ·intro a w ux12 hE hM hg
     have hE:=hE.sub (e':=[(5,vB x13),(6,vB x16),(7,vB x19),(8,vB x22),(0,v0_1),(1,(Value.slice (some ⟨pb1,0,none⟩) 16 16)),(4,vI s4.2),(10,vI s4.2),(11,(Value.slice (some ⟨pb1,0,none⟩) 16 16)),(12,(vI (s4.1.toList.length : Int))),(13,(vT (decide (s4.2 < (s4.1.toList.length : Int)))))]) ⟨lk rfl (hg 19 (by decide)),lk rfl (hg 20 (by decide)),lk rfl (hg 21 (by decide)),lk rfl (hg 22 (by decide)),rfl,rfl,rfl,rfl,rfl,rfl,rfl,trivial⟩
     refine Zh ?_
     have ht25:=Option.some.inj hl10
     subst ht25
     refine Zj ?_
     exact ⟨hE.sub ⟨rfl,rfl,rfl,rfl,rfl,rfl,rfl,trivial⟩,hM⟩
   ·skip
    rintro a w ⟨hE,hM⟩
    refine Zc (Zd hE Za ld rfl fun a hE=>Zf ?_)
    obtain ⟨j26,hl27,hF28⟩:=bind_some hF11
    refine ZL (fun a w=>Env 79 a [(0,v0_1),(1,(Value.slice (some ⟨pb1,0,none⟩) 16 16)),(4,vI s4.2)] ∧ M St W w (raw pb1 (enc j26) :: its)) ?_ ?_
    ·skip
     refine wp_block ?_
     refine ZF (fun (s29 : (Vector UInt8 16) × Int) a w=>Env 79 a [(0,v0_1),(1,(Value.slice (some ⟨pb1,0,none⟩) 16 16)),(4,vI s4.2),(5,vB j9.1),(6,vB j9.2.1),(7,vB j9.2.2.1),(8,vB j9.2.2.2),(35,vI s29.2)] ∧ M St W w (raw pb1 (enc s29.1) :: its)) hl27 ⟨hE.sub ⟨rfl,rfl,rfl,rfl,rfl,rfl,rfl,rfl,trivial⟩,hM⟩ ?_
     rintro s29 a w ⟨hE,hM⟩ o32 hs30 hx31
     unfold Xw at hs30
     refine Zc (Zi hE Za ld rfl rfl rfl fun a hE=>Zf (wp_seq ?_))
     refine Zq hE rfl ?_ ?_
     ·intro hb33
      have hs30:=Zu hs30 hb33
      refine wp_skip (Zw (wp_seq (wp_block (Zc (Zd hE Za ld rfl fun a hE=>Ze hE Za ld rfl fun a hE=>Zf ?_)))))
      obtain ⟨pb35,ds36,hv37,hx38,hA39,hB40⟩:=Vy hv0_1 -- ^
      obtain ⟨rfl,_⟩:=TE.1 hx38 -- ^
      obtain ⟨x42,hi41,hs30⟩:=bvx hs30
      obtain ⟨x45,hi44,hs30⟩:=bvx hs30
      obtain ⟨x48,hi47,hs30⟩:=bvx hs30
      obtain ⟨pb50,ds51,hv52,hx53,hA54,hB55⟩:=Vy hv0_1 -- ^
      obtain ⟨rfl,_⟩:=TE.1 hx53 -- ^
      obtain ⟨x57,hi56,hs30⟩:=bvx hs30
      obtain ⟨x60,hi59,hs30⟩:=bvx hs30
      obtain ⟨x63,hi62,hs30⟩:=bvx hs30
      obtain ⟨pb65,ds66,hv67,hx68,hA69,hB70⟩:=Vy hv0_1 -- ^
      obtain ⟨rfl,_⟩:=TE.1 hx68 -- ^
      obtain ⟨x72,hi71,hs30⟩:=bvx hs30
      obtain ⟨x75,hi74,hs30⟩:=bvx hs30
      obtain ⟨x78,hi77,hs30⟩:=bvx hs30
      obtain ⟨pb80,ds81,hv82,hx83,hA84,hB85⟩:=Vy hv0_1 -- ^
      obtain ⟨rfl,_⟩:=TE.1 hx83 -- ^
      obtain ⟨x87,hi86,hs30⟩:=bvx hs30
      obtain ⟨x90,hi89,hs30⟩:=bvx hs30
      obtain ⟨x93,hi92,hs30⟩:=bvx hs30
      obtain ⟨x95,hi97,hs30⟩:=bvx hs30
      refine YZ (n:=79) (hd:=[_,_,_,_,_,_,_,_,_,_,_,_,_,_,_,_,_,_,_,_,_,_,_,_,_,_,_,_,_,_,_,_,_,_,_,_,_,_,_,_]) (tl:=[_]) Wl rfl rfl [38,39,40,41,42,43,44,45,46,47,48,49,50,51,52,53,54,55,56,57,58,59,60,61,62,63,64,65,66,67,68,69,70,71,72,73,74,75,76,77] (by decide) (fun w=>M St W w (raw pb1 (enc s29.1) :: its)) (fun j=>([fun v _=>v = (Value.slice (some ⟨pb1,0,none⟩) 16 16),fun v _=>v = (vI s4.2),fun v _=>v = (vI s29.2),fun v _=>v = (vI (wr (s4.2 + s29.2))),fun v _=>v = v0_1,fun v _=>v = (vI s29.2),fun v _=>v = (vB j9.1),fun v _=>v = (ptr pb35 0),fun v _=>v = (ptr pb35 (0 + (s29.2).toNat * 1024)),fun v _=>v = (ptr pb35 (0 + (s29.2).toNat * 1024 + ((0 : Int)).toNat * 256)),fun v _=>v = (ptr pb35 (0 + (s29.2).toNat * 1024 + ((0 : Int)).toNat * 256 + ((bI j9.1)).toNat * 1)),fun v _=>v = (vB x48),fun v _=>v = v0_1,fun v _=>v = (vI s29.2),fun v _=>v = (vB j9.2.1),fun v _=>v = (ptr pb50 0),fun v _=>v = (ptr pb50 (0 + (s29.2).toNat * 1024)),fun v _=>v = (ptr pb50 (0 + (s29.2).toNat * 1024 + ((1 : Int)).toNat * 256)),fun v _=>v = (ptr pb50 (0 + (s29.2).toNat * 1024 + ((1 : Int)).toNat * 256 + ((bI j9.2.1)).toNat * 1)),fun v _=>v = (vB x63),fun v _=>v = (vB (x48 ^^^ x63)),fun v _=>v = v0_1,fun v _=>v = (vI s29.2),fun v _=>v = (vB j9.2.2.1),fun v _=>v = (ptr pb65 0),fun v _=>v = (ptr pb65 (0 + (s29.2).toNat * 1024)),fun v _=>v = (ptr pb65 (0 + (s29.2).toNat * 1024 + ((2 : Int)).toNat * 256)),fun v _=>v = (ptr pb65 (0 + (s29.2).toNat * 1024 + ((2 : Int)).toNat * 256 + ((bI j9.2.2.1)).toNat * 1)),fun v _=>v = (vB x78),fun v _=>v = (vB ((x48 ^^^ x63) ^^^ x78)),fun v _=>v = v0_1,fun v _=>v = (vI s29.2),fun v _=>v = (vB j9.2.2.2),fun v _=>v = (ptr pb80 0),fun v _=>v = (ptr pb80 (0 + (s29.2).toNat * 1024)),fun v _=>v = (ptr pb80 (0 + (s29.2).toNat * 1024 + ((3 : Int)).toNat * 256)),fun v _=>v = (ptr pb80 (0 + (s29.2).toNat * 1024 + ((3 : Int)).toNat * 256 + ((bI j9.2.2.2)).toNat * 1)),fun v _=>v = (vB x93),fun v _=>v = (vB (((x48 ^^^ x63) ^^^ x78) ^^^ x93)),fun v _=>v = (ptr pb1 (0 + ((wr (s4.2 + s29.2))).toNat * 1))] : List (Value → World → Prop)).getD j (fun _ _=>True)) (fun _ _ h hk=>h.keep hk) (gup (Zk (Zk (Zk (Zk (Zk (Zk (Zk (Zk (Zk (Zk (Zk (Zk (Zk (Zk (Zk (Zk (Zk (Zk (Zk (Zk (Zk (Zk (Zk (Zk (Zk (Zk (Zk (Zk (Zk (Zk (Zk (Zk (Zk (Zk (Zk (Zk (Zk (Zk (Zk (Zk V3))))))))))))))))))))))))))))))))))))))))) hE hM.drew (ZQ (Zb ?_ (Zb ?_ (Zb ?_ (Zb ?_ (Zb ?_ (Zb ?_ (Zb ?_ (Zb ?_ (Zb ?_ (Zb ?_ (Zb ?_ (Zb ?_ (Zb ?_ (Zb ?_ (Zb ?_ (Zb ?_ (Zb ?_ (Zb ?_ (Zb ?_ (Zb ?_ (Zb ?_ (Zb ?_ (Zb ?_ (Zb ?_ (Zb ?_ (Zb ?_ (Zb ?_ (Zb ?_ (Zb ?_ (Zb ?_ (Zb ?_ (Zb ?_ (Zb ?_ (Zb ?_ (Zb ?_ (Zb ?_ (Zb ?_ (Zb ?_ (Zb ?_ (Zb ?_ ZJ))))))))))))))))))))))))))))))))))))))))) ?_
      ·exact fun a w ux34 hE hM hp=>Zd hE Za ld rfl fun a hE=>⟨Kept.refl _ _,_,_,rfl,hE,rfl⟩
      ·exact fun a w ux34 hE hM hp=>Zd hE Za ld rfl fun a hE=>⟨Kept.refl _ _,_,_,rfl,hE,rfl⟩
      ·exact fun a w ux34 hE hM hp=>Zd hE Za ld rfl fun a hE=>⟨Kept.refl _ _,_,_,rfl,hE,rfl⟩
      ·intro a w ux34 hE hM hp
       have f1 : ux34 1 = (vI s4.2):=hp 0 _ rfl rfl
       have f2 : ux34 2 = (vI s29.2):=hp 1 _ rfl rfl
       exact Zi hE Za ld (lk rfl f1) (lk rfl f2) rfl fun a hE=>⟨Kept.refl _ _,_,_,rfl,hE,rfl⟩
      ·exact fun a w ux34 hE hM hp=>Zd hE Za ld rfl fun a hE=>⟨Kept.refl _ _,_,_,rfl,hE,rfl⟩
      ·exact fun a w ux34 hE hM hp=>Zd hE Za ld rfl fun a hE=>⟨Kept.refl _ _,_,_,rfl,hE,rfl⟩
      ·exact fun a w ux34 hE hM hp=>Zd hE Za ld rfl fun a hE=>⟨Kept.refl _ _,_,_,rfl,hE,rfl⟩
      ·intro a w ux34 hE hM hp
       have f4 : ux34 4 = v0_1:=hp 0 _ rfl rfl
       exact Xy hE Za ld (lk (lk rfl f4) hv37) fun a hE=>⟨Kept.refl _ _,_,_,rfl,hE,rfl⟩
      ·intro a w ux34 hE hM hp
       have f5 : ux34 5 = (vI s29.2):=hp 1 _ rfl rfl
       have f7 : ux34 7 = (ptr pb35 0):=hp 0 _ rfl rfl
       exact Zg hE Za ld (lk rfl f7) (lk rfl f5) Try.underlying180 KF hi41.1 fun a hE=>⟨Kept.refl _ _,_,_,rfl,hE,rfl⟩
      ·intro a w ux34 hE hM hp
       have f8 : ux34 8 = (ptr pb35 (0 + (s29.2).toNat * 1024)):=hp 0 _ rfl rfl
       exact Zg hE Za ld (lk rfl f8) rfl Try.underlying178 HK hi44.1 fun a hE=>⟨Kept.refl _ _,_,_,rfl,hE,rfl⟩
      ·intro a w ux34 hE hM hp
       have f6 : ux34 6 = (vB j9.1):=hp 1 _ rfl rfl
       have f9 : ux34 9 = (ptr pb35 (0 + (s29.2).toNat * 1024 + ((0 : Int)).toNat * 256)):=hp 0 _ rfl rfl
       exact Zg hE Za ld (lk rfl f9) (lk rfl f6) Try.underlying41 ty5 hi47.1 fun a hE=>⟨Kept.refl _ _,_,_,rfl,hE,rfl⟩
      ·intro a w ux34 hE hM hp
       have f10 : ux34 10 = (ptr pb35 (0 + (s29.2).toNat * 1024 + ((0 : Int)).toNat * 256 + ((bI j9.1)).toNat * 1)):=hp 0 _ rfl rfl
       exact ZC (v:=(vB x48)) hE Za ld (lk rfl f10) ty5 rfl (At.vec (At.vec (At.vec (hM.atk hA39 hB40) hi41.2) hi44.2) hi47.2) fun a hE=>⟨Kept.refl _ _,_,_,rfl,hE,rfl⟩
      ·exact fun a w ux34 hE hM hp=>Zd hE Za ld rfl fun a hE=>⟨Kept.refl _ _,_,_,rfl,hE,rfl⟩
      ·exact fun a w ux34 hE hM hp=>Zd hE Za ld rfl fun a hE=>⟨Kept.refl _ _,_,_,rfl,hE,rfl⟩
      ·exact fun a w ux34 hE hM hp=>Zd hE Za ld rfl fun a hE=>⟨Kept.refl _ _,_,_,rfl,hE,rfl⟩
      ·intro a w ux34 hE hM hp
       have f12 : ux34 12 = v0_1:=hp 0 _ rfl rfl
       exact Xy hE Za ld (lk (lk rfl f12) hv52) fun a hE=>⟨Kept.refl _ _,_,_,rfl,hE,rfl⟩
      ·intro a w ux34 hE hM hp
       have f13 : ux34 13 = (vI s29.2):=hp 1 _ rfl rfl
       have f15 : ux34 15 = (ptr pb50 0):=hp 0 _ rfl rfl
       exact Zg hE Za ld (lk rfl f15) (lk rfl f13) Try.underlying180 KF hi56.1 fun a hE=>⟨Kept.refl _ _,_,_,rfl,hE,rfl⟩
      ·intro a w ux34 hE hM hp
       have f16 : ux34 16 = (ptr pb50 (0 + (s29.2).toNat * 1024)):=hp 0 _ rfl rfl
       exact Zg hE Za ld (lk rfl f16) rfl Try.underlying178 HK hi59.1 fun a hE=>⟨Kept.refl _ _,_,_,rfl,hE,rfl⟩
      ·intro a w ux34 hE hM hp
       have f14 : ux34 14 = (vB j9.2.1):=hp 1 _ rfl rfl
       have f17 : ux34 17 = (ptr pb50 (0 + (s29.2).toNat * 1024 + ((1 : Int)).toNat * 256)):=hp 0 _ rfl rfl
       exact Zg hE Za ld (lk rfl f17) (lk rfl f14) Try.underlying41 ty5 hi62.1 fun a hE=>⟨Kept.refl _ _,_,_,rfl,hE,rfl⟩
      ·intro a w ux34 hE hM hp
       have f18 : ux34 18 = (ptr pb50 (0 + (s29.2).toNat * 1024 + ((1 : Int)).toNat * 256 + ((bI j9.2.1)).toNat * 1)):=hp 0 _ rfl rfl
       exact ZC (v:=(vB x63)) hE Za ld (lk rfl f18) ty5 rfl (At.vec (At.vec (At.vec (hM.atk hA54 hB55) hi56.2) hi59.2) hi62.2) fun a hE=>⟨Kept.refl _ _,_,_,rfl,hE,rfl⟩
      ·intro a w ux34 hE hM hp
       have f11 : ux34 11 = (vB x48):=hp 0 _ rfl rfl
       have f19 : ux34 19 = (vB x63):=hp 1 _ rfl rfl
       exact Zi hE Za ld (lk rfl f11) (lk rfl f19) (WJ x48 x63) fun a hE=>⟨Kept.refl _ _,_,_,rfl,hE,rfl⟩
      ·exact fun a w ux34 hE hM hp=>Zd hE Za ld rfl fun a hE=>⟨Kept.refl _ _,_,_,rfl,hE,rfl⟩
      ·exact fun a w ux34 hE hM hp=>Zd hE Za ld rfl fun a hE=>⟨Kept.refl _ _,_,_,rfl,hE,rfl⟩
      ·exact fun a w ux34 hE hM hp=>Zd hE Za ld rfl fun a hE=>⟨Kept.refl _ _,_,_,rfl,hE,rfl⟩
      ·intro a w ux34 hE hM hp
       have f21 : ux34 21 = v0_1:=hp 0 _ rfl rfl
       exact Xy hE Za ld (lk (lk rfl f21) hv67) fun a hE=>⟨Kept.refl _ _,_,_,rfl,hE,rfl⟩
      ·intro a w ux34 hE hM hp
       have f22 : ux34 22 = (vI s29.2):=hp 1 _ rfl rfl
       have f24 : ux34 24 = (ptr pb65 0):=hp 0 _ rfl rfl
       exact Zg hE Za ld (lk rfl f24) (lk rfl f22) Try.underlying180 KF hi71.1 fun a hE=>⟨Kept.refl _ _,_,_,rfl,hE,rfl⟩
      ·intro a w ux34 hE hM hp
       have f25 : ux34 25 = (ptr pb65 (0 + (s29.2).toNat * 1024)):=hp 0 _ rfl rfl
       exact Zg hE Za ld (lk rfl f25) rfl Try.underlying178 HK hi74.1 fun a hE=>⟨Kept.refl _ _,_,_,rfl,hE,rfl⟩
      ·intro a w ux34 hE hM hp
       have f23 : ux34 23 = (vB j9.2.2.1):=hp 1 _ rfl rfl
       have f26 : ux34 26 = (ptr pb65 (0 + (s29.2).toNat * 1024 + ((2 : Int)).toNat * 256)):=hp 0 _ rfl rfl
       exact Zg hE Za ld (lk rfl f26) (lk rfl f23) Try.underlying41 ty5 hi77.1 fun a hE=>⟨Kept.refl _ _,_,_,rfl,hE,rfl⟩
      ·intro a w ux34 hE hM hp
       have f27 : ux34 27 = (ptr pb65 (0 + (s29.2).toNat * 1024 + ((2 : Int)).toNat * 256 + ((bI j9.2.2.1)).toNat * 1)):=hp 0 _ rfl rfl
       exact ZC (v:=(vB x78)) hE Za ld (lk rfl f27) ty5 rfl (At.vec (At.vec (At.vec (hM.atk hA69 hB70) hi71.2) hi74.2) hi77.2) fun a hE=>⟨Kept.refl _ _,_,_,rfl,hE,rfl⟩
      ·intro a w ux34 hE hM hp
       have f20 : ux34 20 = (vB (x48 ^^^ x63)):=hp 0 _ rfl rfl
       have f28 : ux34 28 = (vB x78):=hp 1 _ rfl rfl
       exact Zi hE Za ld (lk rfl f20) (lk rfl f28) (WJ (x48 ^^^ x63) x78) fun a hE=>⟨Kept.refl _ _,_,_,rfl,hE,rfl⟩
      ·exact fun a w ux34 hE hM hp=>Zd hE Za ld rfl fun a hE=>⟨Kept.refl _ _,_,_,rfl,hE,rfl⟩
      ·exact fun a w ux34 hE hM hp=>Zd hE Za ld rfl fun a hE=>⟨Kept.refl _ _,_,_,rfl,hE,rfl⟩
      ·exact fun a w ux34 hE hM hp=>Zd hE Za ld rfl fun a hE=>⟨Kept.refl _ _,_,_,rfl,hE,rfl⟩
      ·intro a w ux34 hE hM hp
       have f30 : ux34 30 = v0_1:=hp 0 _ rfl rfl
       exact Xy hE Za ld (lk (lk rfl f30) hv82) fun a hE=>⟨Kept.refl _ _,_,_,rfl,hE,rfl⟩
      ·intro a w ux34 hE hM hp
       have f31 : ux34 31 = (vI s29.2):=hp 1 _ rfl rfl
       have f33 : ux34 33 = (ptr pb80 0):=hp 0 _ rfl rfl
       exact Zg hE Za ld (lk rfl f33) (lk rfl f31) Try.underlying180 KF hi86.1 fun a hE=>⟨Kept.refl _ _,_,_,rfl,hE,rfl⟩
      ·intro a w ux34 hE hM hp
       have f34 : ux34 34 = (ptr pb80 (0 + (s29.2).toNat * 1024)):=hp 0 _ rfl rfl
       exact Zg hE Za ld (lk rfl f34) rfl Try.underlying178 HK hi89.1 fun a hE=>⟨Kept.refl _ _,_,_,rfl,hE,rfl⟩
      ·intro a w ux34 hE hM hp
       have f32 : ux34 32 = (vB j9.2.2.2):=hp 1 _ rfl rfl
       have f35 : ux34 35 = (ptr pb80 (0 + (s29.2).toNat * 1024 + ((3 : Int)).toNat * 256)):=hp 0 _ rfl rfl
       exact Zg hE Za ld (lk rfl f35) (lk rfl f32) Try.underlying41 ty5 hi92.1 fun a hE=>⟨Kept.refl _ _,_,_,rfl,hE,rfl⟩
      ·intro a w ux34 hE hM hp
       have f36 : ux34 36 = (ptr pb80 (0 + (s29.2).toNat * 1024 + ((3 : Int)).toNat * 256 + ((bI j9.2.2.2)).toNat * 1)):=hp 0 _ rfl rfl
       exact ZC (v:=(vB x93)) hE Za ld (lk rfl f36) ty5 rfl (At.vec (At.vec (At.vec (hM.atk hA84 hB85) hi86.2) hi89.2) hi92.2) fun a hE=>⟨Kept.refl _ _,_,_,rfl,hE,rfl⟩
      ·intro a w ux34 hE hM hp
       have f29 : ux34 29 = (vB ((x48 ^^^ x63) ^^^ x78)):=hp 0 _ rfl rfl
       have f37 : ux34 37 = (vB x93):=hp 1 _ rfl rfl
       exact Zi hE Za ld (lk rfl f29) (lk rfl f37) (WJ ((x48 ^^^ x63) ^^^ x78) x93) fun a hE=>⟨Kept.refl _ _,_,_,rfl,hE,rfl⟩
      ·intro a w ux34 hE hM hp
       have f0 : ux34 0 = (Value.slice (some ⟨pb1,0,none⟩) 16 16):=hp 0 _ rfl rfl
       have f3 : ux34 3 = (vI (wr (s4.2 + s29.2))):=hp 1 _ rfl rfl
       exact Uj hE Za ld (lk rfl f0) (lk rfl f3) Try.underlying22 ty5 hi97.1 fun a hE=>⟨Kept.refl _ _,_,_,rfl,hE,rfl⟩
      ·intro a w ux34 hE hM hg
       have hE:=hE.sub (e':=[(76,(vB (((x48 ^^^ x63) ^^^ x78) ^^^ x93))),(77,(ptr pb1 (0 + ((wr (s4.2 + s29.2))).toNat * 1))),(0,v0_1),(1,(Value.slice (some ⟨pb1,0,none⟩) 16 16)),(4,vI s4.2),(5,vB j9.1),(6,vB j9.2.1),(7,vB j9.2.2.1),(8,vB j9.2.2.2),(9,vI s29.2),(35,vI s29.2),(36,(vT (decide (s29.2 < 4)))),(37,vI s29.2)]) ⟨lk rfl (hg 38 (by decide)),lk rfl (hg 39 (by decide)),rfl,rfl,rfl,rfl,rfl,rfl,rfl,rfl,rfl,rfl,rfl,trivial⟩
       refine Zo (seg:=[(vB (((x48 ^^^ x63) ^^^ x78) ^^^ x93))]) (cs':=enc (s29.1.setIfInBounds ((wr (s4.2 + s29.2))).toNat (((x48 ^^^ x63) ^^^ x78) ^^^ x93))) hE hM Za rfl rfl rfl ty5 rfl (ZG (v:=s29.1) (x:=((x48 ^^^ x63) ^^^ x78) ^^^ x93) hi97.1) (Flat.cell (((x48 ^^^ x63) ^^^ x78) ^^^ x93 : UInt8)) (Zz (v:=s29.1) (x:=((x48 ^^^ x63) ^^^ x78) ^^^ x93) hi97.1) fun w a hM hE=>Zh (Z9 (Zw (wp_region_lit (Zi hE Za ld rfl rfl rfl fun a hE=>Zd hE Za ld rfl fun a hE=>Zh (Zj ?_)))))
       exact ⟨_,(ois hs30),hE.sub ⟨rfl,rfl,rfl,rfl,rfl,rfl,rfl,rfl,trivial⟩,hM⟩
     ·intro hb33
      have hs30:=Zv hs30 hb33
      refine wp_exit (Zm (Zm (Yf ?_)))
      have ht98:=hx31 _ (ois hs30)
      subst ht98
      refine Zj ?_
      exact ⟨hE.sub ⟨rfl,rfl,rfl,trivial⟩,hM⟩
    ·skip
     rintro a w ⟨hE,hM⟩
     refine Z9 (Zw (wp_region_lit (Zd hE Za ld rfl fun a hE=>Zi hE Za ld rfl rfl rfl fun a hE=>Ze hE Za ld rfl fun a hE=>Zh (Zj ?_))))
     exact ⟨_,(ois hF28),hE.sub ⟨rfl,rfl,rfl,trivial⟩,hM⟩
  ·intro hb8
   have hs5:=Zv hs5 hb8
   refine wp_exit (Zm (Zm (Yf ?_)))
   have ht99:=hx6 _ (ois hs5)
   subst ht99
   refine Zj ?_
   exact ⟨hE.sub ⟨rfl,trivial⟩,hM⟩
 ·skip
  rintro a w ⟨hE,hM⟩
  have hr:=Option.some.inj hF3
  subst hr
  exact AU hE (by rfl) ⟨_,rfl,rfl,hM⟩
def Z4 (p0 : (Ref Gengine)) (s18 : (Vector UInt8 16) × Int) (s29 : (Vector UInt8 16) × Int) : Option (Fl ((Vector UInt8 16) × Int) (Vector UInt8 16)) :=
 if (decide (s29.2 < 16)) = true then ((Zy s18.1 s29.2).bind fun x34=>(Zy p0.v.box (bI x34)).bind fun x48=>(Zy s29.1 s29.2).bind fun x51=>some (Fl.nx ((s29.1.setIfInBounds (s29.2).toNat x48),wr (s29.2 + 1)))) else (some (Fl.ex s29.1))
def Z5 (p0 : (Ref Gengine)) (p1 : (List (Vector UInt8 16))) (s18 : (Vector UInt8 16) × Int) : Option (Fl ((Vector UInt8 16) × Int) (Vector UInt8 16)) :=
 if (decide (s18.2 < (p1.length : Int))) = true then (((ZE (Z4 p0 s18) (s18.1,0)).bind fun j26=>((XT p0.v.places j26).bind fun r68=>some r68 : Option ((Vector UInt8 16))).bind fun j54=>(if (decide (s18.2 < (wr ((p1.length : Int) - 1)))) = true then ((slc j54.toList (0 : Int) (16 : Int)).bind fun l86=>(WC p0.v.mixer j54).bind fun r89=>some r89) else (some j54) : Option ((Vector UInt8 16))).bind fun j71=>(idx p1 s18.2).bind fun x94=>(XN j71 x94).bind fun r97=>some r97 : Option ((Vector UInt8 16))).bind fun j23=>some (Fl.nx (j23,wr (s18.2 + 1)))) else (some (Fl.ex s18.1))
def Yq (p0 : (Ref Gengine)) (p1 : (List (Vector UInt8 16))) (p2 : (Vector UInt8 16)) : Option ((Vector UInt8 16)) :=
 ((idx p1 (0 : Int)).bind fun x9=>(XN p2 x9).bind fun r12=>some r12 : Option ((Vector UInt8 16))).bind fun j5=>(ZE (Z5 p0 p1) (j5,1)).bind fun j15=>some j15
theorem UE (w0 : World) (p0 : (Ref Gengine)) (v0_1 : Value) (hv0_1 : Ro w0 p0 [v0_1]) (p1 : (List (Vector UInt8 16))) (v1_1 : Value) (hv1_1 : Ro w0 p1 [v1_1]) (p2 : (Vector UInt8 16)) (r : (Vector UInt8 16)) (hF : Yq p0 p1 p2 = some r) :
  Calls Try.prog 134 [v0_1,v1_1,(Value.agg (enc p2).toArray)].toArray w0 (fun en w'=>∃ v,en = .returned v ∧ (v = (Value.agg (enc r).toArray) ∧ Kept (Old w0) w0 w')):=by
 refine ZB (n:=59) Try.func134 rfl rfl (nbl rfl) rfl ?_
 intro a hE
 have hM:=M.start w0
 unfold Yq at hF
 refine Zc (ZZ (cs:=enc p2) hE hM Za ld rfl rfl fun b1 w a hM hE=>ZH hE hM Za ld ZK fun b3 w a hM hE=>Zf ?_)
 obtain ⟨j5,hl6,hF7⟩:=bind_some hF
 refine ZM (fun a w=>Env 59 a [(0,v0_1),(1,v1_1),(5,(ptr b1 0)),(6,(ptr b3 0))] ∧ M (Old w0) w0 w [raw b3 (enc (Vector.replicate 16 (0 : UInt8))),raw b1 (enc j5)]) ?_ ?_
 ·skip
  obtain ⟨x9,hi11,hl6⟩:=bix hl6
  obtain ⟨r12,e13,hl6⟩:=bind_some hl6
  refine YZ (n:=59) (hd:=[_,_,_,_,_]) (tl:=[_]) Wl rfl rfl [10,11,12,13,14] (by decide) (fun w=>M (Old w0) w0 w [raw b3 (enc (Vector.replicate 16 (0 : UInt8))),raw b1 (enc p2)]) (fun j=>([fun v _=>v = (Value.agg (enc p2).toArray),fun v _=>v = v1_1,fun v _=>v = (ptr (sb v1_1) (so v1_1 + ((0 : Int)).toNat * 16)),fun v _=>v = (Value.agg (enc x9).toArray),fun v _=>v = (Value.agg (enc r12).toArray)] : List (Value → World → Prop)).getD j (fun _ _=>True)) (fun _ _ h hk=>h.keep hk) (gup (Zk (Zk (Zk (Zk (Zk V3)))))) hE hM.drew (ZQ (Zb ?_ (Zb ?_ (Zb ?_ (Zb ?_ (Zb ?_ ZJ)))))) ?_
  ·exact fun a w ux8 hE hM hp=>Zn (cs:=enc p2) hE Za ld rfl ZK rfl (hM.rawAt (pre:=[_])) (Flat.len _) fun a hE=>⟨Kept.refl _ _,_,_,rfl,hE,rfl⟩
  ·exact fun a w ux8 hE hM hp=>Zd hE Za ld rfl fun a hE=>⟨Kept.refl _ _,_,_,rfl,hE,rfl⟩
  ·intro a w ux8 hE hM hp
   have f1 : ux8 1 = v1_1:=hp 0 _ rfl rfl
   exact Yk hE Za ld (lk rfl f1) rfl Try.underlying69 ZK (hM.rd hv1_1) hi11.1 fun a hE=>⟨Kept.refl _ _,_,_,rfl,hE,rfl⟩
  ·intro a w ux8 hE hM hp
   have f2 : ux8 2 = (ptr (sb v1_1) (so v1_1 + ((0 : Int)).toNat * 16)):=hp 0 _ rfl rfl
   exact Zn (cs:=enc x9) hE Za ld (lk rfl f2) ZK rfl (WD (hM.rd hv1_1) hi11.2) (Flat.len _) fun a hE=>⟨Kept.refl _ _,_,_,rfl,hE,rfl⟩
  ·intro a w ux8 hE hM hp
   have f0 : ux8 0 = (Value.agg (enc p2).toArray):=hp 0 _ rfl rfl
   have f3 : ux8 3 = (Value.agg (enc x9).toArray):=hp 1 _ rfl rfl
   refine Zt hE Za ld (Yl (Z1 (lk rfl f0) (Z1 (lk rfl f3) W3))) cb130 (UY _ p2 x9 r12 e13) ?_
   rintro v w a ⟨rfl,hK⟩ hE
   exact ⟨hK,_,_,rfl,hE,rfl⟩
  ·intro a w ux8 hE hM hg
   have hE:=hE.sub (e':=[(14,(Value.agg (enc r12).toArray)),(0,v0_1),(1,v1_1),(5,(ptr b1 0)),(6,(ptr b3 0))]) ⟨lk rfl (hg 4 (by decide)),rfl,rfl,rfl,rfl,trivial⟩
   have hM:=hM.pull (pre:=[_])
   refine Zo (seg:=enc r12) (cs':=enc r12) hE hM Za rfl rfl rfl ZK (Flat.len _) (zle flq) (Flat.cell _) (Zr flq) fun w a hM hE=>Zh ?_
   have ht14:=Option.some.inj hl6
   subst ht14
   refine Zj ?_
   have hM:=hM.pull (pre:=[_])
   exact ⟨hE.sub ⟨rfl,rfl,rfl,rfl,trivial⟩,hM⟩
 ·skip
  rintro a w ⟨hE,hM⟩
  refine wp_seq (Zc (Ze hE Za ld rfl fun a hE=>Zf ?_))
  obtain ⟨j15,hl16,hF17⟩:=bind_some hF7
  refine ZL (fun a w=>Env 59 a [(5,(ptr b1 0)),(6,(ptr b3 0))] ∧ M (Old w0) w0 w [raw b3 (enc (Vector.replicate 16 (0 : UInt8))),raw b1 (enc j15)]) ?_ ?_
  ·skip
   refine wp_block ?_
   refine ZF (fun (s18 : (Vector UInt8 16) × Int) a w=>Env 59 a [(0,v0_1),(1,v1_1),(5,(ptr b1 0)),(6,(ptr b3 0)),(7,vI s18.2)] ∧ M (Old w0) w0 w [raw b3 (enc (Vector.replicate 16 (0 : UInt8))),raw b1 (enc s18.1)]) hl16 ⟨hE.sub ⟨rfl,rfl,rfl,rfl,rfl,trivial⟩,hM⟩ ?_
   rintro s18 a w ⟨hE,hM⟩ o21 hs19 hx20
   unfold Z5 at hs19
   refine wp_seq (Zc (Zd hE Za ld rfl fun a hE=>Zd hE Za ld rfl fun a hE=>Ws hE Za ld rfl Try.underlying69 (hM.rd hv1_1) fun a hE=>Zi hE Za ld rfl rfl rfl fun a hE=>Zf ?_))
   refine Zq hE rfl ?_ ?_
   ·intro hb22
    have hs19:=Zu hs19 hb22
    refine wp_skip (Zw ?_)
    obtain ⟨j23,hl24,hF25⟩:=bind_some hs19
    refine ZM (fun a w=>Env 59 a [(0,v0_1),(1,v1_1),(5,(ptr b1 0)),(6,(ptr b3 0)),(7,vI s18.2)] ∧ M (Old w0) w0 w [raw b3 (enc (Vector.replicate 16 (0 : UInt8))),raw b1 (enc j23)]) ?_ ?_
    ·skip
     refine wp_block (wp_seq (Zc (Zn (cs:=enc s18.1) hE Za ld rfl ZK rfl (hM.rawAt (pre:=[_])) (Flat.len _) fun a hE=>Zd hE Za ld rfl fun a hE=>Zf ?_)))
     obtain ⟨j26,hl27,hF28⟩:=bind_some hl24
     refine ZL (fun a w=>Env 59 a [(0,v0_1),(1,v1_1),(5,(ptr b1 0)),(6,(ptr b3 0)),(7,vI s18.2)] ∧ M (Old w0) w0 w [raw b3 (enc (Vector.replicate 16 (0 : UInt8))),raw b1 (enc j26)]) ?_ ?_
     ·skip
      refine wp_block ?_
      refine ZF (fun (s29 : (Vector UInt8 16) × Int) a w=>Env 59 a [(0,v0_1),(1,v1_1),(5,(ptr b1 0)),(6,(ptr b3 0)),(7,vI s18.2),(21,(Value.agg (enc s18.1).toArray)),(22,vI s29.2)] ∧ M (Old w0) w0 w [raw b3 (enc (Vector.replicate 16 (0 : UInt8))),raw b1 (enc s29.1)]) hl27 ⟨hE.sub ⟨rfl,rfl,rfl,rfl,rfl,rfl,rfl,trivial⟩,hM⟩ ?_
      rintro s29 a w ⟨hE,hM⟩ o32 hs30 hx31
      unfold Z4 at hs30
      refine Zc (Zi hE Za ld rfl rfl rfl fun a hE=>Zf (wp_seq ?_))
      refine Zq hE rfl ?_ ?_
      ·intro hb33
       have hs30:=Zu hs30 hb33
       refine wp_skip (Zw (wp_seq (wp_block (Zc (Zd hE Za ld rfl ?_))))); intro a hE
       obtain ⟨x34,hi36,hs30⟩:=bvx hs30
       refine UC hE Za ld rfl rfl Try.underlying55 ty5 rfl rfl hi36 rfl fun a hE=>Ze hE Za ld rfl fun a hE=>Ze hE Za ld rfl fun a hE=>Zf (wp_region_lit (Zd hE Za ld rfl fun a hE=>Zd hE Za ld rfl fun a hE=>Zd hE Za ld rfl ?_)); intro a hE
       obtain ⟨pb37,ds38,hv39,hx40,hA41,hB42⟩:=Vy hv0_1 -- ^
       obtain ⟨u43,u45,rfl,h44,h46⟩:=V9 hx40 -- ^
       refine Xy hE Za ld (lk rfl hv39) fun a hE=>ZA hE Za ld rfl (JD) ?_; intro a hE
       obtain ⟨x48,hi47,hs30⟩:=bvx hs30
       refine Zg hE Za ld rfl rfl Try.underlying49 ty5 hi47.1 fun a hE=>ZC (v:=(vB x48)) hE Za ld rfl ty5 rfl (At.vec (At.cat (pre:=[]) (hM.atk hA41 hB42) cl0) hi47.2) ?_; intro a hE
       obtain ⟨x51,hi50,hs30⟩:=bvx hs30
       refine Zg hE Za ld rfl rfl Try.underlying55 ty5 hi50.1 ?_; intro a hE
       have hM:=hM.pull (pre:=[_])
       refine Zo (seg:=[vB x48]) (cs':=enc (s29.1.setIfInBounds (s29.2).toNat x48)) hE hM Za rfl rfl rfl ty5 rfl (ZG (v:=s29.1) (x:=x48) hi50.1) (Flat.cell (x48 : UInt8)) (Zz (v:=s29.1) (x:=x48) hi50.1) fun w a hM hE=>Zh (Z9 (Zw (wp_region_lit (Zi hE Za ld rfl rfl rfl fun a hE=>Zd hE Za ld rfl fun a hE=>Zh (Zj ?_)))))
       have hM:=hM.pull (pre:=[_])
       exact ⟨_,(ois hs30),hE.sub ⟨rfl,rfl,rfl,rfl,rfl,rfl,rfl,trivial⟩,hM⟩
      ·intro hb33
       have hs30:=Zv hs30 hb33
       refine wp_exit (Zm (Zm (Yf ?_)))
       have ht53:=hx31 _ (ois hs30)
       subst ht53
       refine Zj ?_
       exact ⟨hE.sub ⟨rfl,rfl,rfl,rfl,rfl,trivial⟩,hM⟩
     ·skip
      rintro a w ⟨hE,hM⟩
      refine Zw ?_
      obtain ⟨j54,hl55,hF56⟩:=bind_some hF28
      refine ZM (fun a w=>Env 59 a [(0,v0_1),(1,v1_1),(5,(ptr b1 0)),(6,(ptr b3 0)),(7,vI s18.2)] ∧ M (Old w0) w0 w [raw b3 (enc (Vector.replicate 16 (0 : UInt8))),raw b1 (enc j54)]) ?_ ?_
      ·skip
       obtain ⟨pb58,ds59,hv60,hx61,hA62,hB63⟩:=Vy hv0_1 -- ^
       obtain ⟨u64,u66,rfl,h65,h67⟩:=V9 hx61 -- ^
       obtain ⟨r68,e69,hl55⟩:=bind_some hl55
       refine YZ (n:=59) (hd:=[_,_,_,_,_,_]) (tl:=[_]) Wl rfl rfl [35,36,37,38,39,40] (by decide) (fun w=>M (Old w0) w0 w [raw b3 (enc (Vector.replicate 16 (0 : UInt8))),raw b1 (enc j26)]) (fun j=>([fun v _=>v = v0_1,fun v _=>v = (ptr pb58 0),fun v _=>v = (ptr pb58 (0 + 512)),fun v _=>v = (Value.agg (enc p0.v.places).toArray),fun v _=>v = (Value.agg (enc j26).toArray),fun v _=>v = (Value.agg (enc r68).toArray)] : List (Value → World → Prop)).getD j (fun _ _=>True)) (fun _ _ h hk=>h.keep hk) (gup (Zk (Zk (Zk (Zk (Zk (Zk V3))))))) hE hM.drew (ZQ (Zb ?_ (Zb ?_ (Zb ?_ (Zb ?_ (Zb ?_ (Zb ?_ ZJ))))))) ?_
       ·exact fun a w ux57 hE hM hp=>Zd hE Za ld rfl fun a hE=>⟨Kept.refl _ _,_,_,rfl,hE,rfl⟩
       ·intro a w ux57 hE hM hp
        have f0 : ux57 0 = v0_1:=hp 0 _ rfl rfl
        exact Xy hE Za ld (lk (lk rfl f0) hv60) fun a hE=>⟨Kept.refl _ _,_,_,rfl,hE,rfl⟩
       ·intro a w ux57 hE hM hp
        have f1 : ux57 1 = (ptr pb58 0):=hp 0 _ rfl rfl
        exact ZA hE Za ld (lk rfl f1) (zd) fun a hE=>⟨Kept.refl _ _,_,_,rfl,hE,rfl⟩
       ·intro a w ux57 hE hM hp
        have f2 : ux57 2 = (ptr pb58 (0 + 512)):=hp 0 _ rfl rfl
        exact Zn (cs:=enc p0.v.places) hE Za ld (lk rfl f2) Ul rfl (At.cat (pre:=[enc p0.v.box,enc p0.v.backBox]) (hM.atk hA62 hB63) (cl1 (n:=256) (m:=256) (Flat.len _) (cl1 (n:=256) (m:=0) (Flat.len _) cl0))) (Flat.len _) fun a hE=>⟨Kept.refl _ _,_,_,rfl,hE,rfl⟩
       ·exact fun a w ux57 hE hM hp=>Zn (cs:=enc j26) hE Za ld rfl ZK rfl (hM.rawAt (pre:=[_])) (Flat.len _) fun a hE=>⟨Kept.refl _ _,_,_,rfl,hE,rfl⟩
       ·intro a w ux57 hE hM hp
        have f3 : ux57 3 = (Value.agg (enc p0.v.places).toArray):=hp 0 _ rfl rfl
        have f4 : ux57 4 = (Value.agg (enc j26).toArray):=hp 1 _ rfl rfl
        refine Zt hE Za ld (Yl (Z1 (lk rfl f3) (Z1 (lk rfl f4) W3))) cb132 (TZ _ p0.v.places j26 r68 e69) ?_
        rintro v w a ⟨rfl,hK⟩ hE
        exact ⟨hK,_,_,rfl,hE,rfl⟩
       ·intro a w ux57 hE hM hg
        have hE:=hE.sub (e':=[(40,(Value.agg (enc r68).toArray)),(0,v0_1),(1,v1_1),(5,(ptr b1 0)),(6,(ptr b3 0)),(7,vI s18.2)]) ⟨lk rfl (hg 5 (by decide)),rfl,rfl,rfl,rfl,rfl,trivial⟩
        have hM:=hM.pull (pre:=[_])
        refine Zo (seg:=enc r68) (cs':=enc r68) hE hM Za rfl rfl rfl ZK (Flat.len _) (zle flq) (Flat.cell _) (Zr flq) fun w a hM hE=>Zh ?_
        have ht70:=Option.some.inj hl55
        subst ht70
        refine Zj ?_
        have hM:=hM.pull (pre:=[_])
        exact ⟨hE.sub ⟨rfl,rfl,rfl,rfl,rfl,trivial⟩,hM⟩
      ·skip
       rintro a w ⟨hE,hM⟩
       obtain ⟨j71,hl72,hF73⟩:=bind_some hF56
       refine ZM (fun a w=>Env 59 a [(0,v0_1),(1,v1_1),(5,(ptr b1 0)),(6,(ptr b3 0)),(7,vI s18.2)] ∧ M (Old w0) w0 w [raw b3 (enc (Vector.replicate 16 (0 : UInt8))),raw b1 (enc j71)]) ?_ ?_
       ·skip
        refine Zc (Zd hE Za ld rfl fun a hE=>Zd hE Za ld rfl fun a hE=>Ws hE Za ld rfl Try.underlying69 (hM.rd hv1_1) fun a hE=>Zi hE Za ld rfl rfl rfl fun a hE=>Zi hE Za ld rfl rfl rfl fun a hE=>Zf ?_)
        refine Zq hE rfl ?_ ?_
        ·intro hb74
         have hl72:=Zu hl72 hb74
         obtain ⟨pb76,ds77,hv78,hx79,hA80,hB81⟩:=Vy hv0_1 -- ^
         obtain ⟨u82,u84,rfl,h83,h85⟩:=V9 hx79 -- ^
         obtain ⟨l86,e87,hl72⟩:=bind_some hl72
         have hb88:=J7 e87 -- ^
         refine YZ (n:=59) (hd:=[_,_,_,_,_]) (tl:=[_]) Wl rfl rfl [46,47,48,49,50] (by decide) (fun w=>M (Old w0) w0 w [raw b3 (enc (Vector.replicate 16 (0 : UInt8))),raw b1 (enc j54)]) (fun j=>([fun v _=>v = v0_1,fun v _=>v = (ptr pb76 0),fun v _=>v = (ptr pb76 (0 + 544)),fun v _=>v = u82,fun v _=>v = (WF (.slice (some ⟨b1,0,none⟩) 16 16) ((0 : Int)).toNat ((16 : Int)).toNat 1)] : List (Value → World → Prop)).getD j (fun _ _=>True)) (fun _ _ h hk=>h.keep hk) (gup (Zk (Zk (Zk (Zk (Zk V3)))))) hE hM.drew (ZQ (Zb ?_ (Zb ?_ (Zb ?_ (Zb ?_ (Zb ?_ ZJ)))))) ?_
         ·exact fun a w ux75 hE hM hp=>Zd hE Za ld rfl fun a hE=>⟨Kept.refl _ _,_,_,rfl,hE,rfl⟩
         ·intro a w ux75 hE hM hp
          have f0 : ux75 0 = v0_1:=hp 0 _ rfl rfl
          exact Xy hE Za ld (lk (lk rfl f0) hv78) fun a hE=>⟨Kept.refl _ _,_,_,rfl,hE,rfl⟩
         ·intro a w ux75 hE hM hp
          have f1 : ux75 1 = (ptr pb76 0):=hp 0 _ rfl rfl
          exact ZA hE Za ld (lk rfl f1) (AV) fun a hE=>⟨Kept.refl _ _,_,_,rfl,hE,rfl⟩
         ·intro a w ux75 hE hM hp
          have f2 : ux75 2 = (ptr pb76 (0 + 544)):=hp 0 _ rfl rfl
          exact ZC (v:=u82) hE Za ld (lk rfl f2) AP rfl (At.cat (pre:=[enc p0.v.box,enc p0.v.backBox,enc p0.v.places,enc p0.v.backPlaces]) (hM.atk hA80 hB81) (cl1 (n:=256) (m:=288) (Flat.len _) (cl1 (n:=256) (m:=32) (Flat.len _) (cl1 (n:=16) (m:=16) (Flat.len _) (cl1 (n:=16) (m:=0) (Flat.len _) cl0))))) fun a hE=>⟨Kept.refl _ _,_,_,rfl,hE,rfl⟩
         ·exact fun a w ux75 hE hM hp=>T6 (N:=16) hE Za ld rfl rfl rfl rfl rfl Try.underlying55 ty5 hb88 fun a hE=>⟨Kept.refl _ _,_,_,rfl,hE,rfl⟩
         ·intro a w ux75 hE hM hg
          have hE:=hE.sub (e':=[(49,u82),(50,(WF (.slice (some ⟨b1,0,none⟩) 16 16) ((0 : Int)).toNat ((16 : Int)).toNat 1)),(0,v0_1),(1,v1_1),(5,(ptr b1 0)),(6,(ptr b3 0)),(7,vI s18.2),(41,vI s18.2),(42,v1_1),(43,(vI (p1.length : Int))),(44,(vI (wr ((p1.length : Int) - 1)))),(45,(vT (decide (s18.2 < (wr ((p1.length : Int) - 1))))))]) ⟨lk rfl (hg 3 (by decide)),lk rfl (hg 4 (by decide)),rfl,rfl,rfl,rfl,rfl,rfl,rfl,rfl,rfl,rfl,trivial⟩
          have hM:=hM.pull (pre:=[_])
          obtain ⟨r89,e90,hl72⟩:=bind_some hl72
          refine Zt hE Za ld rfl cb131 (QN _ _ _ _ p0.v.mixer u82 h83 b1 j54 hM r89 e90) ?_
          rintro v w a ⟨rfl,hM⟩ hE
          refine Zh ?_
          have ht91:=Option.some.inj hl72
          subst ht91
          refine Zj ?_
          have hM:=hM.pull (pre:=[_])
          exact ⟨hE.sub ⟨rfl,rfl,rfl,rfl,rfl,trivial⟩,hM⟩
        ·intro hb74
         have hl72:=Zv hl72 hb74
         refine wp_skip ?_
         have ht92:=Option.some.inj hl72
         subst ht92
         refine Zj ?_
         exact ⟨hE.sub ⟨rfl,rfl,rfl,rfl,rfl,trivial⟩,hM⟩
       ·skip
        rintro a w ⟨hE,hM⟩
        obtain ⟨x94,hi96,hF73⟩:=bix hF73
        obtain ⟨r97,e98,hF73⟩:=bind_some hF73
        refine YZ (n:=59) (hd:=[_,_,_,_,_,_]) (tl:=[_]) Wl rfl rfl [52,53,54,55,56,57] (by decide) (fun w=>M (Old w0) w0 w [raw b3 (enc (Vector.replicate 16 (0 : UInt8))),raw b1 (enc j71)]) (fun j=>([fun v _=>v = (Value.agg (enc j71).toArray),fun v _=>v = v1_1,fun v _=>v = (vI s18.2),fun v _=>v = (ptr (sb v1_1) (so v1_1 + (s18.2).toNat * 16)),fun v _=>v = (Value.agg (enc x94).toArray),fun v _=>v = (Value.agg (enc r97).toArray)] : List (Value → World → Prop)).getD j (fun _ _=>True)) (fun _ _ h hk=>h.keep hk) (gup (Zk (Zk (Zk (Zk (Zk (Zk V3))))))) hE hM.drew (ZQ (Zb ?_ (Zb ?_ (Zb ?_ (Zb ?_ (Zb ?_ (Zb ?_ ZJ))))))) ?_
        ·exact fun a w ux93 hE hM hp=>Zn (cs:=enc j71) hE Za ld rfl ZK rfl (hM.rawAt (pre:=[_])) (Flat.len _) fun a hE=>⟨Kept.refl _ _,_,_,rfl,hE,rfl⟩
        ·exact fun a w ux93 hE hM hp=>Zd hE Za ld rfl fun a hE=>⟨Kept.refl _ _,_,_,rfl,hE,rfl⟩
        ·exact fun a w ux93 hE hM hp=>Zd hE Za ld rfl fun a hE=>⟨Kept.refl _ _,_,_,rfl,hE,rfl⟩
        ·intro a w ux93 hE hM hp
         have f1 : ux93 1 = v1_1:=hp 0 _ rfl rfl
         have f2 : ux93 2 = (vI s18.2):=hp 1 _ rfl rfl
         exact Yk hE Za ld (lk rfl f1) (lk rfl f2) Try.underlying69 ZK (hM.rd hv1_1) hi96.1 fun a hE=>⟨Kept.refl _ _,_,_,rfl,hE,rfl⟩
        ·intro a w ux93 hE hM hp
         have f3 : ux93 3 = (ptr (sb v1_1) (so v1_1 + (s18.2).toNat * 16)):=hp 0 _ rfl rfl
         exact Zn (cs:=enc x94) hE Za ld (lk rfl f3) ZK rfl (WD (hM.rd hv1_1) hi96.2) (Flat.len _) fun a hE=>⟨Kept.refl _ _,_,_,rfl,hE,rfl⟩
        ·intro a w ux93 hE hM hp
         have f0 : ux93 0 = (Value.agg (enc j71).toArray):=hp 0 _ rfl rfl
         have f4 : ux93 4 = (Value.agg (enc x94).toArray):=hp 1 _ rfl rfl
         refine Zt hE Za ld (Yl (Z1 (lk rfl f0) (Z1 (lk rfl f4) W3))) cb130 (UY _ j71 x94 r97 e98) ?_
         rintro v w a ⟨rfl,hK⟩ hE
         exact ⟨hK,_,_,rfl,hE,rfl⟩
        ·intro a w ux93 hE hM hg
         have hE:=hE.sub (e':=[(57,(Value.agg (enc r97).toArray)),(0,v0_1),(1,v1_1),(5,(ptr b1 0)),(6,(ptr b3 0)),(7,vI s18.2)]) ⟨lk rfl (hg 5 (by decide)),rfl,rfl,rfl,rfl,rfl,trivial⟩
         have hM:=hM.pull (pre:=[_])
         refine Zo (seg:=enc r97) (cs':=enc r97) hE hM Za rfl rfl rfl ZK (Flat.len _) (zle flq) (Flat.cell _) (Zr flq) fun w a hM hE=>Zh (Z9 ?_)
         have ht99:=Option.some.inj hF73
         subst ht99
         refine Zj ?_
         have hM:=hM.pull (pre:=[_])
         exact ⟨hE.sub ⟨rfl,rfl,rfl,rfl,rfl,trivial⟩,hM⟩
    ·skip
     rintro a w ⟨hE,hM⟩
     refine wp_region_lit (Zd hE Za ld rfl fun a hE=>Zi hE Za ld rfl rfl rfl fun a hE=>Ze hE Za ld rfl fun a hE=>Zh (Zj ?_))
     exact ⟨_,(ois hF25),hE.sub ⟨rfl,rfl,rfl,rfl,rfl,trivial⟩,hM⟩
   ·intro hb22
    have hs19:=Zv hs19 hb22
    refine wp_exit (Zm (Zm (Yf ?_)))
    have ht100:=hx20 _ (ois hs19)
    subst ht100
    refine Zj ?_
    exact ⟨hE.sub ⟨rfl,rfl,trivial⟩,hM⟩
  ·skip
   rintro a w ⟨hE,hM⟩
   refine Zw (Zc (Zn (cs:=enc j15) hE Za ld rfl ZK rfl (hM.rawAt (pre:=[_])) (Flat.len _) fun a hE=>Zo (seg:=enc j15) (cs':=enc j15) hE hM Za rfl rfl rfl ZK (Flat.len _) (zle flq) (Flat.cell _) (Zr flq) fun w a hM hE=>Zf ?_))
   have hr:=Option.some.inj hF17
   subst hr
   have hq101 : Xp Try.prog _ _ (.cell 6 55) _:=Ya hE rfl ZK rfl (hM.rawAt (pre:=[])) (Flat.len _) rfl
   have hM:=M.fst (l:=[]) hM
   exact wp_ret (Zx hE rfl hq101 ⟨_,rfl,rfl,hM.kept⟩)
def Y5 (p0 : (Ref Gengine)) (p1 : (List (Vector UInt8 16))) (p3 : Int) (s10 : (Vector UInt8 16) × Int × (List (Vector UInt8 16))) : Option (Fl ((Vector UInt8 16) × Int × (List (Vector UInt8 16))) (List (Vector UInt8 16))) :=
 if (decide (s10.2.1 < 256)) = true then ((Zy s10.1 p3).bind fun x18=>(Yq p0 p1 (s10.1.setIfInBounds (p3).toNat (ZI s10.2.1))).bind fun r20=>(app 16 s10.2.2 ([r20] : List (Vector UInt8 16))).bind fun l24=>some (Fl.nx ((s10.1.setIfInBounds (p3).toNat (ZI s10.2.1)),wr (s10.2.1 + 1),(s10.2.2 ++ ([r20] : List (Vector UInt8 16)))))) else (some (Fl.ex s10.2.2))
def Xr (p0 : (Ref Gengine)) (p1 : (List (Vector UInt8 16))) (p2 : (Vector UInt8 16)) (p3 : Int) : Option ((List (Vector UInt8 16))) :=
 (ZE (Y5 p0 p1 p3) (p2,0,([] : List (Vector UInt8 16)))).bind fun j5=>some j5
theorem Qv (w0 : World) (p0 : (Ref Gengine)) (v0_1 : Value) (hv0_1 : Ro w0 p0 [v0_1]) (p1 : (List (Vector UInt8 16))) (v1_1 : Value) (hv1_1 : Ro w0 p1 [v1_1]) (p2 : (Vector UInt8 16)) (p3 : Int) (r : (List (Vector UInt8 16))) (hF : Xr p0 p1 p2 p3 = some r) :
  Calls Try.prog 90 [v0_1,v1_1,(Value.agg (enc p2).toArray),vI p3].toArray w0 (fun en w'=>∃ v,en = .returned v ∧ (∃ (y1 : Value),v = y1 ∧ Fr w0 w' [osl NoB (r : List (Vector UInt8 16)) y1] ∧ Kept (Old w0) w0 w')):=by
 refine ZB (n:=28) Try.func90 rfl rfl (nbl rfl) rfl ?_
 intro a hE
 have hM:=M.start w0
 unfold Xr at hF
 refine Zc (ZZ (cs:=enc p2) hE hM Za ld rfl rfl fun b1 w a hM hE=>Ze hE Za ld rfl fun a hE=>Zf (Zc (WG (xs:=[]) (l:=([] : List (Vector UInt8 16))) (vs:=[]) hE hM Za ld rfl rfl Try.underlying69 ZK rfl (by decide) rfl fun u3 w a hM hE=>Ze hE Za ld rfl fun a hE=>Zf (wp_seq (Zc (Zd hE Za ld rfl fun a hE=>Zf ?_))))))
 obtain ⟨j5,hl6,hF7⟩:=bind_some hF
 refine ZL (fun a w=>∃ (u8 : Value),Env 28 a [(9,u8)] ∧ M (Old w0) w0 w [osl NoB (j5 : List (Vector UInt8 16)) u8]) ?_ ?_
 ·skip
  refine wp_block ?_
  have hM:=hM.pull (pre:=[_])
  refine ZF (fun (s10 : (Vector UInt8 16) × Int × (List (Vector UInt8 16))) a w=>∃ (u11 : Value),Env 28 a [(0,v0_1),(1,v1_1),(3,vI p3),(6,(ptr b1 0)),(9,u11),(12,vI s10.2.1)] ∧ M (Old w0) w0 w [raw b1 (enc s10.1),osl NoB (s10.2.2 : List (Vector UInt8 16)) u11]) hl6 ⟨u3,hE.sub ⟨rfl,rfl,rfl,rfl,rfl,rfl,trivial⟩,hM⟩ ?_
  rintro s10 a w ⟨u11,hE,hM⟩ o15 hs13 hx14
  unfold Y5 at hs13
  refine Zc (Zi hE Za ld rfl rfl rfl fun a hE=>Zf (wp_seq ?_))
  refine Zq hE rfl ?_ ?_
  ·intro hb16
   have hs13:=Zu hs13 hb16
   refine wp_skip (Zw (wp_seq (wp_block (Zc (Zd hE Za ld rfl fun a hE=>Ze hE Za ld rfl fun a hE=>Zf (Zc (Zd hE Za ld rfl fun a hE=>Zd hE Za ld rfl fun a hE=>Vc hE Za ld rfl Try.underlying3 Try.underlying5 ?_))))))); intro a hE
   rw [Xs] at hE
   obtain ⟨x18,hi17,hs13⟩:=bvx hs13
   refine Zg hE Za ld rfl rfl Try.underlying55 ty5 hi17.1 fun a hE=>Zo (seg:=[(vB (ZI s10.2.1))]) (cs':=enc (s10.1.setIfInBounds (p3).toNat (ZI s10.2.1))) hE hM Za rfl rfl rfl ty5 rfl (ZG (v:=s10.1) (x:=ZI s10.2.1) hi17.1) (Flat.cell (ZI s10.2.1 : UInt8)) (Zz (v:=s10.1) (x:=ZI s10.2.1) hi17.1) fun w a hM hE=>Zf (wp_region_lit (Zd hE Za ld rfl fun a hE=>Zd hE Za ld rfl fun a hE=>Zd hE Za ld rfl fun a hE=>Zn (cs:=enc (s10.1.setIfInBounds (p3).toNat (ZI s10.2.1))) hE Za ld rfl ZK rfl (hM.rawAt (pre:=[])) (Flat.len _) ?_)); intro a hE
   obtain ⟨r20,e21,hs13⟩:=bind_some hs13
   refine Zt hE Za ld rfl cb134 (UE _ p0 v0_1 (hM.rdo hv0_1) p1 v1_1 (hM.rdo hv1_1) (s10.1.setIfInBounds (p3).toNat (ZI s10.2.1)) r20 e21) ?_
   rintro v w a ⟨rfl,hK⟩ hE
   have hM:=hM.keep hK
   refine WG (xs:=[.tmp 23]) (l:=([r20] : List (Vector UInt8 16))) (vs:=[(Value.agg (enc r20).toArray)]) hE hM Za ld rfl rfl Try.underlying69 ZK rfl (by decide) rfl ?_; intro u22 w a hM hE
   obtain ⟨l24,e25,hs13⟩:=bind_some hs13
   obtain ⟨e28,rfl⟩:=UV e25
   have hM:=hM.pull (pre:=[_,_])
   refine Uv hE hM Za ld rfl rfl (hM.sl (pre:=[_]) noB) Try.underlying69 ZK rfl (by decide) e28 fun u26 w a hM hE=>Ze hE Za ld rfl fun a hE=>Zh (Z9 (Zw (wp_region_lit (Zi hE Za ld rfl rfl rfl fun a hE=>Zd hE Za ld rfl fun a hE=>Zh (Zj ?_)))))
   have hM:=M.fst (l:=[_,_]) (hM.pull (pre:=[_,_]))
   exact ⟨_,(ois hs13),u26,hE.sub ⟨rfl,rfl,rfl,rfl,rfl,rfl,trivial⟩,hM⟩
  ·intro hb16
   have hs13:=Zv hs13 hb16
   refine wp_exit (Zm (Zm (Yf ?_)))
   have ht29:=hx14 _ (ois hs13)
   subst ht29
   refine Zj ?_
   have hM:=M.fst (l:=[_]) (hM.pull (pre:=[_]))
   exact ⟨u11,hE.sub ⟨rfl,trivial⟩,hM⟩
 ·skip
  rintro a w ⟨u8,hE,hM⟩
  refine Zw (Zc (Zd hE Za ld rfl fun a hE=>Ze hE Za ld rfl fun a hE=>Zf ?_))
  have hr:=Option.some.inj hF7
  subst hr
  exact wp_ret (Zx hE rfl (Zs hE rfl) ⟨_,rfl,u8,rfl,hM.outF (Tn UM),hM.kept⟩)
def YB (p0 : (Ref Gengine)) (p1 : (List (Vector UInt8 16))) (p2 : Int) (s8 : Int × (List Int)) (s23 : Int × UInt8) : Option (Fl (Int × UInt8) UInt8) :=
 if (decide (s23.1 < (p1.length : Int))) = true then ((idx p1 s23.1).bind fun x28=>(Zy x28 p2).bind fun x35=>(Zy p0.v.backBox (bI (x35 ^^^ (ZI s8.1)))).bind fun x48=>some (Fl.nx (wr (s23.1 + 1),s23.2 ^^^ x48))) else (some (Fl.ex s23.2))
def Yh (p0 : (Ref Gengine)) (p1 : (List (Vector UInt8 16))) (p2 : Int) (s8 : Int × (List Int)) : Option (Fl (Int × (List Int)) (List Int)) :=
 if (decide (s8.1 < 256)) = true then (((ZE (YB p0 p1 p2 s8) (0,0)).bind fun j20=>(if (j20 == 0) = true then ((app 8 s8.2 ([s8.1] : List Int)).bind fun l59=>some (s8.2 ++ ([s8.1] : List Int))) else (some s8.2) : Option ((List Int))).bind fun j51=>some j51 : Option ((List Int))).bind fun j15=>some (Fl.nx (wr (s8.1 + 1),j15))) else (some (Fl.ex s8.2))
def Yo (p0 : (Ref Gengine)) (p1 : (List (Vector UInt8 16))) (p2 : Int) : Option ((List Int)) :=
 (ZE (Yh p0 p1 p2) (0,([] : List Int))).bind fun j3=>some j3
theorem U0 (w0 : World) (p0 : (Ref Gengine)) (v0_1 : Value) (hv0_1 : Ro w0 p0 [v0_1]) (p1 : (List (Vector UInt8 16))) (v1_1 : Value) (hv1_1 : Ro w0 p1 [v1_1]) (p2 : Int) (r : (List Int)) (hF : Yo p0 p1 p2 = some r) :
  Calls Try.prog 89 [v0_1,v1_1,vI p2].toArray w0 (fun en w'=>∃ v,en = .returned v ∧ (∃ (y1 : Value),v = y1 ∧ Fr w0 w' [osl NoB (r : List Int) y1] ∧ Kept (Old w0) w0 w')):=by
 refine ZB (n:=44) Try.func89 rfl rfl (nbl rfl) rfl ?_
 intro a hE
 have hM:=M.start w0
 unfold Yo at hF
 refine Zc (Ze hE Za ld rfl fun a hE=>Zf (Zc (WG (xs:=[]) (l:=([] : List Int)) (vs:=[]) hE hM Za ld rfl rfl Try.underlying66 ty2 rfl (by decide) rfl fun u1 w a hM hE=>Ze hE Za ld rfl fun a hE=>Zf (wp_seq (Zc (Zd hE Za ld rfl fun a hE=>Zf ?_))))))
 obtain ⟨j3,hl4,hF5⟩:=bind_some hF
 refine ZL (fun a w=>∃ (u6 : Value),Env 44 a [(7,u6)] ∧ M (Old w0) w0 w [osl NoB (j3 : List Int) u6]) ?_ ?_
 ·skip
  refine wp_block ?_
  refine ZF (fun (s8 : Int × (List Int)) a w=>∃ (u9 : Value),Env 44 a [(0,v0_1),(1,v1_1),(2,vI p2),(7,u9),(13,vI s8.1)] ∧ M (Old w0) w0 w [osl NoB (s8.2 : List Int) u9]) hl4 ⟨u1,hE.sub ⟨rfl,rfl,rfl,rfl,rfl,trivial⟩,hM⟩ ?_
  rintro s8 a w ⟨u9,hE,hM⟩ o13 hs11 hx12
  unfold Yh at hs11
  refine Zc (Zi hE Za ld rfl rfl rfl fun a hE=>Zf (wp_seq ?_))
  refine Zq hE rfl ?_ ?_
  ·intro hb14
   have hs11:=Zu hs11 hb14
   refine wp_skip (Zw ?_)
   obtain ⟨j15,hl16,hF17⟩:=bind_some hs11
   refine ZM (fun a w=>∃ (u18 : Value),Env 44 a [(0,v0_1),(1,v1_1),(2,vI p2),(7,u18),(13,vI s8.1)] ∧ M (Old w0) w0 w [osl NoB (j15 : List Int) u18]) ?_ ?_
   ·skip
    refine wp_block (Zc (Zd hE Za ld rfl fun a hE=>Ze hE Za ld rfl fun a hE=>Zf (Zc (Ze hE Za ld rfl fun a hE=>Zf (wp_seq (Zc (Zd hE Za ld rfl fun a hE=>Ws hE Za ld rfl Try.underlying69 (hM.rd hv1_1) fun a hE=>Zd hE Za ld rfl fun a hE=>Zf ?_)))))))
    obtain ⟨j20,hl21,hF22⟩:=bind_some hl16
    refine ZL (fun a w=>Env 44 a [(0,v0_1),(1,v1_1),(2,vI p2),(7,u9),(8,vI s8.1),(9,vB j20),(13,vI s8.1)] ∧ M (Old w0) w0 w [osl NoB (s8.2 : List Int) u9]) ?_ ?_
    ·skip
     refine wp_block ?_
     refine ZF (fun (s23 : Int × UInt8) a w=>Env 44 a [(0,v0_1),(1,v1_1),(2,vI p2),(7,u9),(8,vI s8.1),(9,vB s23.2),(13,vI s8.1),(16,v1_1),(17,(vI (p1.length : Int))),(18,vI s23.1)] ∧ M (Old w0) w0 w [osl NoB (s8.2 : List Int) u9]) hl21 ⟨hE.sub ⟨rfl,rfl,rfl,rfl,rfl,rfl,rfl,rfl,rfl,rfl,trivial⟩,hM⟩ ?_
     rintro s23 a w ⟨hE,hM⟩ o26 hs24 hx25
     unfold YB at hs24
     refine Zc (Zi hE Za ld rfl rfl rfl fun a hE=>Zf (wp_seq ?_))
     refine Zq hE rfl ?_ ?_
     ·intro hb27
      have hs24:=Zu hs24 hb27
      refine wp_skip (Zw (wp_seq (wp_block (Zc ?_))))
      obtain ⟨x28,hi30,hs24⟩:=bix hs24
      refine Yk hE Za ld rfl rfl Try.underlying69 ZK (hM.rd hv1_1) hi30.1 fun a hE=>Zn (cs:=enc x28) hE Za ld rfl ZK rfl (WD (hM.rd hv1_1) hi30.2) (Flat.len _) fun a hE=>ZH hE hM Za ld ZK fun b31 w a hM hE=>Zo (seg:=enc x28) (cs':=enc x28) hE hM Za rfl rfl rfl ZK (Flat.len _) (zle flq) (Flat.cell _) (Zr flq) fun w a hM hE=>Zf ?_
      obtain ⟨x35,hi34,hs24⟩:=bvx hs24
      obtain ⟨pb37,ds38,hv39,hx40,hA41,hB42⟩:=Vy hv0_1 -- ^
      obtain ⟨u43,u45,rfl,h44,h46⟩:=V9 hx40 -- ^
      obtain ⟨x48,hi47,hs24⟩:=bvx hs24
      refine YZ (n:=44) (hd:=[_,_,_,_,_,_,_,_,_,_,_,_,_]) (tl:=[_]) Wl rfl rfl [22,23,24,25,26,27,28,29,30,31,32,33,34] (by decide) (fun w=>M (Old w0) w0 w [raw b31 (enc x28),osl NoB (s8.2 : List Int) u9]) (fun j=>([fun v _=>v = (vB s23.2),fun v _=>v = v0_1,fun v _=>v = (vI p2),fun v _=>v = (ptr b31 (0 + (p2).toNat * 1)),fun v _=>v = (vB x35),fun v _=>v = (vI s8.1),fun v _=>v = (vB (ZI s8.1)),fun v _=>v = (vB (x35 ^^^ (ZI s8.1))),fun v _=>v = (ptr pb37 0),fun v _=>v = (ptr pb37 (0 + 256)),fun v _=>v = (ptr pb37 (0 + 256 + ((bI (x35 ^^^ (ZI s8.1)))).toNat * 1)),fun v _=>v = (vB x48),fun v _=>v = (vB (s23.2 ^^^ x48))] : List (Value → World → Prop)).getD j (fun _ _=>True)) (fun _ _ h hk=>h.keep hk) (gup (Zk (Zk (Zk (Zk (Zk (Zk (Zk (Zk (Zk (Zk (Zk (Zk (Zk V3)))))))))))))) hE hM.drew (ZQ (Zb ?_ (Zb ?_ (Zb ?_ (Zb ?_ (Zb ?_ (Zb ?_ (Zb ?_ (Zb ?_ (Zb ?_ (Zb ?_ (Zb ?_ (Zb ?_ (Zb ?_ ZJ)))))))))))))) ?_
      ·exact fun a w ux33 hE hM hp=>Zd hE Za ld rfl fun a hE=>⟨Kept.refl _ _,_,_,rfl,hE,rfl⟩
      ·exact fun a w ux33 hE hM hp=>Zd hE Za ld rfl fun a hE=>⟨Kept.refl _ _,_,_,rfl,hE,rfl⟩
      ·exact fun a w ux33 hE hM hp=>Zd hE Za ld rfl fun a hE=>⟨Kept.refl _ _,_,_,rfl,hE,rfl⟩
      ·intro a w ux33 hE hM hp
       have f2 : ux33 2 = (vI p2):=hp 0 _ rfl rfl
       exact Zg hE Za ld rfl (lk rfl f2) Try.underlying55 ty5 hi34.1 fun a hE=>⟨Kept.refl _ _,_,_,rfl,hE,rfl⟩
      ·intro a w ux33 hE hM hp
       have f3 : ux33 3 = (ptr b31 (0 + (p2).toNat * 1)):=hp 0 _ rfl rfl
       exact ZC (v:=(vB x35)) hE Za ld (lk rfl f3) ty5 rfl (At.vec (hM.rawAt (pre:=[])) hi34.2) fun a hE=>⟨Kept.refl _ _,_,_,rfl,hE,rfl⟩
      ·exact fun a w ux33 hE hM hp=>Zd hE Za ld rfl fun a hE=>⟨Kept.refl _ _,_,_,rfl,hE,rfl⟩
      ·intro a w ux33 hE hM hp
       have f5 : ux33 5 = (vI s8.1):=hp 0 _ rfl rfl
       refine Vc hE Za ld (lk rfl f5) Try.underlying3 Try.underlying5 ?_; intro a hE
       rw [Xs] at hE
       exact ⟨Kept.refl _ _,_,_,rfl,hE,rfl⟩
      ·intro a w ux33 hE hM hp
       have f4 : ux33 4 = (vB x35):=hp 0 _ rfl rfl
       have f6 : ux33 6 = (vB (ZI s8.1)):=hp 1 _ rfl rfl
       exact Zi hE Za ld (lk rfl f4) (lk rfl f6) (WJ x35 (ZI s8.1)) fun a hE=>⟨Kept.refl _ _,_,_,rfl,hE,rfl⟩
      ·intro a w ux33 hE hM hp
       have f1 : ux33 1 = v0_1:=hp 0 _ rfl rfl
       exact Xy hE Za ld (lk (lk rfl f1) hv39) fun a hE=>⟨Kept.refl _ _,_,_,rfl,hE,rfl⟩
      ·intro a w ux33 hE hM hp
       have f8 : ux33 8 = (ptr pb37 0):=hp 0 _ rfl rfl
       exact ZA hE Za ld (lk rfl f8) (A3) fun a hE=>⟨Kept.refl _ _,_,_,rfl,hE,rfl⟩
      ·intro a w ux33 hE hM hp
       have f7 : ux33 7 = (vB (x35 ^^^ (ZI s8.1))):=hp 1 _ rfl rfl
       have f9 : ux33 9 = (ptr pb37 (0 + 256)):=hp 0 _ rfl rfl
       exact Zg hE Za ld (lk rfl f9) (lk rfl f7) Try.underlying49 ty5 hi47.1 fun a hE=>⟨Kept.refl _ _,_,_,rfl,hE,rfl⟩
      ·intro a w ux33 hE hM hp
       have f10 : ux33 10 = (ptr pb37 (0 + 256 + ((bI (x35 ^^^ (ZI s8.1)))).toNat * 1)):=hp 0 _ rfl rfl
       exact ZC (v:=(vB x48)) hE Za ld (lk rfl f10) ty5 rfl (At.vec (At.cat (pre:=[enc p0.v.box]) (hM.atk hA41 hB42) (cl1 (n:=256) (m:=0) (Flat.len _) cl0)) hi47.2) fun a hE=>⟨Kept.refl _ _,_,_,rfl,hE,rfl⟩
      ·intro a w ux33 hE hM hp
       have f0 : ux33 0 = (vB s23.2):=hp 0 _ rfl rfl
       have f11 : ux33 11 = (vB x48):=hp 1 _ rfl rfl
       exact Zi hE Za ld (lk rfl f0) (lk rfl f11) (WJ s23.2 x48) fun a hE=>⟨Kept.refl _ _,_,_,rfl,hE,rfl⟩
      ·intro a w ux33 hE hM hg
       have hE:=hE.sub (e':=[(34,(vB (s23.2 ^^^ x48))),(0,v0_1),(1,v1_1),(2,vI p2),(7,u9),(8,vI s8.1),(9,vB s23.2),(11,(ptr b31 0)),(13,vI s8.1),(16,v1_1),(17,(vI (p1.length : Int))),(18,vI s23.1),(19,(vT (decide (s23.1 < (p1.length : Int))))),(20,(ptr (sb v1_1) (so v1_1 + (s23.1).toNat * 16))),(21,(Value.agg (enc x28).toArray))]) ⟨lk rfl (hg 12 (by decide)),rfl,rfl,rfl,rfl,rfl,rfl,rfl,rfl,rfl,rfl,rfl,rfl,rfl,rfl,trivial⟩
       refine Ze hE Za ld rfl fun a hE=>Zh (Z9 (Zw (wp_region_lit (Zi hE Za ld rfl rfl rfl fun a hE=>Zd hE Za ld rfl fun a hE=>Zh (Zj ?_)))))
       have hM:=M.fst (l:=[_]) (hM.pull (pre:=[_]))
       exact ⟨_,(ois hs24),hE.sub ⟨rfl,rfl,rfl,rfl,rfl,rfl,rfl,rfl,rfl,rfl,trivial⟩,hM⟩
     ·intro hb27
      have hs24:=Zv hs24 hb27
      refine wp_exit (Zm (Zm (Yf ?_)))
      have ht50:=hx25 _ (ois hs24)
      subst ht50
      refine Zj ?_
      exact ⟨hE.sub ⟨rfl,rfl,rfl,rfl,rfl,rfl,rfl,trivial⟩,hM⟩
    ·skip
     rintro a w ⟨hE,hM⟩
     refine Zw (Zc (Zd hE Za ld rfl fun a hE=>Zi hE Za ld rfl rfl (KQ j20 0) fun a hE=>Zf ?_))
     obtain ⟨j51,hl52,hF53⟩:=bind_some hF22
     refine ZL (fun a w=>∃ (u54 : Value),Env 44 a [(0,v0_1),(1,v1_1),(2,vI p2),(7,u54),(13,vI s8.1)] ∧ M (Old w0) w0 w [osl NoB (j51 : List Int) u54]) ?_ ?_
     ·skip
      refine Zq hE rfl ?_ ?_
      ·intro hb56
       have hl52:=Zu hl52 hb56
       refine wp_region_lit (Zd hE Za ld rfl fun a hE=>Zd hE Za ld rfl fun a hE=>WG (xs:=[.tmp 39]) (l:=([s8.1] : List Int)) (vs:=[vI s8.1]) hE hM Za ld rfl rfl Try.underlying66 ty2 rfl (by decide) rfl ?_); intro u57 w a hM hE
       obtain ⟨l59,e60,hl52⟩:=bind_some hl52
       obtain ⟨e63,rfl⟩:=UV e60
       have hM:=hM.pull (pre:=[_])
       refine Uv hE hM Za ld rfl rfl (hM.sl (pre:=[_]) noB) Try.underlying66 ty2 rfl (by decide) e63 fun u61 w a hM hE=>Ze hE Za ld rfl fun a hE=>Zh ?_
       have ht64:=Option.some.inj hl52
       subst ht64
       refine Zj ?_
       have hM:=M.fst (l:=[_]) hM
       exact ⟨u61,hE.sub ⟨rfl,rfl,rfl,rfl,rfl,trivial⟩,hM⟩
      ·intro hb56
       have hl52:=Zv hl52 hb56
       refine wp_skip ?_
       have ht65:=Option.some.inj hl52
       subst ht65
       refine Zj ?_
       exact ⟨u9,hE.sub ⟨rfl,rfl,rfl,rfl,rfl,trivial⟩,hM⟩
     ·skip
      rintro a w ⟨u54,hE,hM⟩
      refine Z9 ?_
      have ht66:=Option.some.inj hF53
      subst ht66
      refine Zj ?_
      exact ⟨u54,hE.sub ⟨rfl,rfl,rfl,rfl,rfl,trivial⟩,hM⟩
   ·skip
    rintro a w ⟨u18,hE,hM⟩
    refine wp_region_lit (Zi hE Za ld rfl rfl rfl fun a hE=>Zd hE Za ld rfl fun a hE=>Zh (Zj ?_))
    exact ⟨_,(ois hF17),u18,hE.sub ⟨rfl,rfl,rfl,rfl,rfl,trivial⟩,hM⟩
  ·intro hb14
   have hs11:=Zv hs11 hb14
   refine wp_exit (Zm (Zm (Yf ?_)))
   have ht67:=hx12 _ (ois hs11)
   subst ht67
   refine Zj ?_
   exact ⟨u9,hE.sub ⟨rfl,trivial⟩,hM⟩
 ·skip
  rintro a w ⟨u6,hE,hM⟩
  refine Zw (Zc (Zd hE Za ld rfl fun a hE=>Ze hE Za ld rfl fun a hE=>Zf ?_))
  have hr:=Option.some.inj hF5
  subst hr
  exact wp_ret (Zx hE rfl (Zs hE rfl) ⟨_,rfl,u6,rfl,hM.outF (Tn UM),hM.kept⟩)
def YY (p0 : (List Int)) (p1 : Int → Option (Bool)) (s5 : Int) : Option (Fl Int (Fl Unit Int)) :=
 if (decide (s5 < (p0.length : Int))) = true then ((idx p0 s5).bind fun x10=>((p1 x10)).bind fun r13=>if r13 = true then (some (Fl.ex (Fl.ex s5))) else (some (Fl.nx (wr (s5 + 1))))) else (some (Fl.ex (Fl.nx ())))
def ZX (p0 : (List Int)) (p1 : Int → Option (Bool)) : Option (Int) :=
 (ZE (YY p0 p1) 0).bind fun j1=>j1.el (fun s4=>some (-1)) (fun r=>some r)
theorem Wy (w0 : World) (p0 : (List Int)) (v0_1 : Value) (hv0_1 : Ro w0 p0 [v0_1]) (p1 : Int → Option (Bool)) (k1 : Nat) (q1 : List Value) (hcb1 : Callable Try.prog k1) (hg1 : ∀ (w2 : World),Kept (Old w0) w0 w2 → ∀ (z0 : Int) (zr : Bool),p1 z0 = some zr → Calls Try.prog k1 ([vI z0] ++ q1).toArray w2 (fun en w3=>∃ v,en = .returned v ∧ (v = (vT zr) ∧ Kept (Old w2) w2 w3))) (r : Int) (hF : ZX p0 p1 = some r) :
  Calls Try.prog 137 [v0_1,(Value.func (.func k1) #[] q1.toArray)].toArray w0 (fun en w'=>∃ v,en = .returned v ∧ (v = (vI r) ∧ Kept (Old w0) w0 w')):=by
 refine ZB (n:=19) Try.func137 rfl rfl (nbl rfl) rfl ?_
 intro a hE
 have hM:=M.start w0
 unfold ZX at hF
 refine Zc (Ze hE Za ld rfl fun a hE=>Zf (wp_seq (Zc (Zd hE Za ld rfl fun a hE=>Ws hE Za ld rfl Try.underlying66 (hM.rd hv0_1) fun a hE=>Zd hE Za ld rfl fun a hE=>Zf ?_))))
 obtain ⟨j1,hl2,hF3⟩:=bind_some hF
 refine ZL (fun a w=>∃ s4 : Unit,j1 = Fl.nx s4 ∧ Env 19 a [] ∧ M (Old w0) w0 w []) ?_ ?_
 ·skip
  refine wp_block ?_
  refine ZF (fun (s5 : Int) a w=>Env 19 a [(0,v0_1),(1,(Value.func (.func k1) #[] q1.toArray)),(7,(vI (p0.length : Int))),(8,vI s5)] ∧ M (Old w0) w0 w []) hl2 ⟨hE.sub ⟨rfl,rfl,rfl,rfl,trivial⟩,hM⟩ ?_
  rintro s5 a w ⟨hE,hM⟩ o8 hs6 hx7
  unfold YY at hs6
  refine Zc (Zi hE Za ld rfl rfl rfl fun a hE=>Zf (wp_seq ?_))
  refine Zq hE rfl ?_ ?_
  ·intro hb9
   have hs6:=Zu hs6 hb9
   refine wp_skip (Zw (wp_seq (wp_block (Zc (Zd hE Za ld rfl fun a hE=>Ze hE Za ld rfl fun a hE=>Zf (Zc (Zd hE Za ld rfl fun a hE=>Zd hE Za ld rfl fun a hE=>Zd hE Za ld rfl ?_))))))); intro a hE
   obtain ⟨x10,hi12,hs6⟩:=bix hs6
   refine Yk hE Za ld rfl rfl Try.underlying66 ty2 (hM.rd hv0_1) hi12.1 fun a hE=>ZC (v:=(vI x10)) hE Za ld rfl ty2 rfl (WD (hM.rd hv0_1) hi12.2) ?_; intro a hE
   obtain ⟨r13,e14,hs6⟩:=bind_some hs6
   refine He (vs:=[vI x10]) hE Za ld rfl rfl hcb1 (hg1 _ hM.kept x10 r13 e14) ?_
   rintro v w a ⟨rfl,hK⟩ hE
   have hM:=hM.keep hK
   refine Zf ?_
   refine Zq hE rfl ?_ ?_
   ·intro hb15
    have hs6:=Zu hs6 hb15
    refine Zc (Zd hE Za ld rfl fun a hE=>Ze hE Za ld rfl fun a hE=>Zf ?_)
    have ht16:=hx7 _ (ois hs6)
    subst ht16
    have hr:=Option.some.inj hF3
    subst hr
    exact wp_ret (YG (ZD (ZD (YG (ZD (ZD (Zx hE rfl (Zs hE rfl) ⟨_,rfl,rfl,hM.kept⟩)))))))
   ·intro hb15
    have hs6:=Zv hs6 hb15
    refine wp_skip (Z9 (Zw (wp_region_lit (Zi hE Za ld rfl rfl rfl fun a hE=>Zd hE Za ld rfl fun a hE=>Zh (Zj ?_)))))
    exact ⟨_,(ois hs6),hE.sub ⟨rfl,rfl,rfl,rfl,trivial⟩,hM⟩
  ·intro hb9
   have hs6:=Zv hs6 hb9
   refine wp_exit (Zm (Zm (Yf ?_)))
   have ht17:=hx7 _ (ois hs6)
   subst ht17
   refine Zj ?_
   exact ⟨(),rfl,hE.sub trivial,hM⟩
 ·skip
  rintro a w ⟨s4,ht,hE,hM⟩
  subst ht
  have hF3:=Ur hF3
  refine Zw (Zc (Ze hE Za ld rfl fun a hE=>Zf ?_))
  have hr:=Option.some.inj hF3
  subst hr
  exact wp_ret (Zx hE rfl (Zs hE rfl) ⟨_,rfl,rfl,hM.kept⟩)
def ZU (p1 : Int → Option (Bool)) (s9 : (List Int) × Int × Int) : Option (Fl ((List Int) × Int × Int) ((List Int) × Int)) :=
 if (decide (s9.2.2 < (s9.1.length : Int))) = true then (((idx s9.1 s9.2.2).bind fun x21=>((p1 x21)).bind fun r24=>(if (!r24) = true then ((idx s9.1 s9.2.1).bind fun x32=>some ((s9.1.set (s9.2.1).toNat x21),wr (s9.2.1 + 1))) else (some (s9.1,s9.2.1)) : Option ((List Int) × Int)).bind fun j26=>some (j26.1,j26.2) : Option ((List Int) × Int)).bind fun j16=>some (Fl.nx (j16.1,j16.2,wr (s9.2.2 + 1)))) else (some (Fl.ex (s9.1,s9.2.1)))
def Z6 (p0 : (List Int)) (p1 : Int → Option (Bool)) : Option ((List Int)) :=
 (ZX p0 p1).bind fun r1=>if (r1 == (-1)) = true then (some p0) else ((ZE (ZU p1) (p0,r1,wr (r1 + 1))).bind fun j4=>(slc j4.1 j4.2 (j4.1.length : Int)).bind fun l39=>(clr j4.1 j4.2 (0 : Int)).bind fun c41=>(slc c41 (0 : Int) j4.2).bind fun l43=>some l43)
theorem V2 (St : Nat → Prop) (W w0 : World) (its : List Item) (p0 : (List Int)) (v0_1 : Value) (p1 : Int → Option (Bool)) (k1 : Nat) (q1 : List Value) (hcb1 : Callable Try.prog k1) (hg1 : ∀ (w2 : World),(∃ (x0 : List Int) (y0 : Value),M St W w2 (osl NoB x0 y0 :: its)) → ∀ (z0 : Int) (zr : Bool),p1 z0 = some zr → Calls Try.prog k1 ([vI z0] ++ q1).toArray w2 (fun en w3=>∃ v,en = .returned v ∧ (v = (vT zr) ∧ Kept (Old w2) w2 w3))) (hM : M St W w0 (osl NoB (p0 : List Int) v0_1 :: its)) (r : (List Int)) (hF : Z6 p0 p1 = some r) :
  Calls Try.prog 91 [v0_1,(Value.func (.func k1) #[] q1.toArray)].toArray w0 (fun en w'=>∃ v,en = .returned v ∧ (∃ (y1 : Value),v = y1 ∧ M St W w' (osl NoB (r : List Int) y1 :: its))):=by
 refine ZB (n:=42) Try.func91 rfl rfl (nbl rfl) rfl ?_
 intro a hE
 unfold Z6 at hF
 refine Zc (Ze hE Za ld rfl fun a hE=>Zf (Zc (Zd hE Za ld rfl fun a hE=>Zd hE Za ld rfl ?_))); intro a hE
 obtain ⟨r1,e2,hF⟩:=bind_some hF
 refine Zt hE Za ld rfl cb137 (Wy _ p0 v0_1 (hM.sl (pre:=[]) noB) p1 k1 q1 hcb1 (fun w2 hk2=>hg1 w2 ⟨_,_,hM.keep hk2⟩) r1 e2) ?_
 rintro v w a ⟨rfl,hK⟩ hE
 have hM:=hM.keep hK
 refine Ze hE Za ld rfl fun a hE=>Zf (wp_seq (Zc (Zd hE Za ld rfl fun a hE=>Zi hE Za ld rfl rfl rfl fun a hE=>Zf ?_)))
 refine Zq hE rfl ?_ ?_
 ·intro hb3
  have hF:=Zu hF hb3
  refine Zc (Zd hE Za ld rfl fun a hE=>Ze hE Za ld rfl fun a hE=>Zf ?_)
  have hr:=Option.some.inj hF
  subst hr
  exact wp_ret (ZD (Zx hE rfl (Zs hE rfl) ⟨_,rfl,v0_1,rfl,hM⟩))
 ·intro hb3
  have hF:=Zv hF hb3
  refine wp_skip (Zw (wp_seq (Zc (Zd hE Za ld rfl fun a hE=>Zi hE Za ld rfl rfl rfl fun a hE=>Ze hE Za ld rfl fun a hE=>Zf ?_))))
  obtain ⟨j4,hl5,hF6⟩:=bind_some hF
  refine ZL (fun a w=>∃ (u7 : Value),Env 42 a [(0,u7),(5,vI j4.2)] ∧ M St W w (osl NoB (j4.1 : List Int) u7 :: its)) ?_ ?_
  ·skip
   refine wp_block ?_
   refine ZF (fun (s9 : (List Int) × Int × Int) a w=>∃ (u10 : Value),Env 42 a [(0,u10),(1,(Value.func (.func k1) #[] q1.toArray)),(5,vI s9.2.1),(6,vI s9.2.2)] ∧ M St W w (osl NoB (s9.1 : List Int) u10 :: its)) hl5 ⟨v0_1,hE.sub ⟨rfl,rfl,rfl,rfl,trivial⟩,hM⟩ ?_
   rintro s9 a w ⟨u10,hE,hM⟩ o14 hs12 hx13
   unfold ZU at hs12
   refine wp_seq (Zc (Zd hE Za ld rfl fun a hE=>Zd hE Za ld rfl fun a hE=>Ws hE Za ld rfl Try.underlying66 (hM.sl (pre:=[]) noB) fun a hE=>Zi hE Za ld rfl rfl rfl fun a hE=>Zf ?_))
   refine Zq hE rfl ?_ ?_
   ·intro hb15
    have hs12:=Zu hs12 hb15
    refine wp_skip (Zw ?_)
    obtain ⟨j16,hl17,hF18⟩:=bind_some hs12
    refine ZM (fun a w=>∃ (u19 : Value),Env 42 a [(0,u19),(1,(Value.func (.func k1) #[] q1.toArray)),(5,vI j16.2),(6,vI s9.2.2)] ∧ M St W w (osl NoB (j16.1 : List Int) u19 :: its)) ?_ ?_
    ·skip
     refine wp_block (Zc (Zd hE Za ld rfl fun a hE=>Zd hE Za ld rfl ?_)); intro a hE
     obtain ⟨x21,hi23,hl17⟩:=bix hl17
     refine Yk hE Za ld rfl rfl Try.underlying66 ty2 (hM.sl (pre:=[]) noB) hi23.1 fun a hE=>ZC (v:=(vI x21)) hE Za ld rfl ty2 rfl (WD (hM.sl (pre:=[]) noB) hi23.2) fun a hE=>Ze hE Za ld rfl fun a hE=>Zf (Zc (Zd hE Za ld rfl fun a hE=>Zd hE Za ld rfl ?_)); intro a hE
     obtain ⟨r24,e25,hl17⟩:=bind_some hl17
     refine He (vs:=[vI x21]) hE Za ld rfl rfl hcb1 (hg1 _ ⟨_,_,hM⟩ x21 r24 e25) ?_
     rintro v w a ⟨rfl,hK⟩ hE
     have hM:=hM.keep hK
     refine Vf hE Za ld rfl fun a hE=>Zf ?_
     obtain ⟨j26,hl27,hF28⟩:=bind_some hl17
     refine ZL (fun a w=>∃ (u29 : Value),Env 42 a [(0,u29),(1,(Value.func (.func k1) #[] q1.toArray)),(5,vI j26.2),(6,vI s9.2.2)] ∧ M St W w (osl NoB (j26.1 : List Int) u29 :: its)) ?_ ?_
     ·skip
      refine Zq hE rfl ?_ ?_
      ·intro hb31
       have hl27:=Zu hl27 hb31
       refine Zc (Zd hE Za ld rfl fun a hE=>Zd hE Za ld rfl fun a hE=>Zd hE Za ld rfl ?_); intro a hE
       obtain ⟨x32,hi34,hl27⟩:=bix hl27
       refine Yk hE Za ld rfl rfl Try.underlying66 ty2 (hM.sl (pre:=[]) noB) hi34.1 fun a hE=>Qo (i:=(s9.2.1).toNat) (k0:=0) (seg:=[vI x21]) (xo:=x32) (xn:=x21) hE hM Za rfl rfl rfl ty2 rfl (Flat.cell (x21 : Int)) hi34.2 (JY (m:=1) rfl (by decide)) (Zr rfl) fun w a hM hE=>Zf (wp_region_lit (Zd hE Za ld rfl fun a hE=>Zi hE Za ld rfl rfl rfl fun a hE=>Ze hE Za ld rfl fun a hE=>Zh ?_))
       have ht35:=Option.some.inj hl27
       subst ht35
       refine Zj ?_
       exact ⟨u10,hE.sub ⟨rfl,rfl,rfl,rfl,trivial⟩,hM⟩
      ·intro hb31
       have hl27:=Zv hl27 hb31
       refine wp_skip ?_
       have ht36:=Option.some.inj hl27
       subst ht36
       refine Zj ?_
       exact ⟨u10,hE.sub ⟨rfl,rfl,rfl,rfl,trivial⟩,hM⟩
     ·skip
      rintro a w ⟨u29,hE,hM⟩
      refine Z9 ?_
      have ht37:=Option.some.inj hF28
      subst ht37
      refine Zj ?_
      exact ⟨u29,hE.sub ⟨rfl,rfl,rfl,rfl,trivial⟩,hM⟩
    ·skip
     rintro a w ⟨u19,hE,hM⟩
     refine wp_region_lit (Zd hE Za ld rfl fun a hE=>Zi hE Za ld rfl rfl rfl fun a hE=>Ze hE Za ld rfl fun a hE=>Zh (Zj ?_))
     exact ⟨_,(ois hF18),u19,hE.sub ⟨rfl,rfl,rfl,rfl,trivial⟩,hM⟩
   ·intro hb15
    have hs12:=Zv hs12 hb15
    refine wp_exit (Zm (Zm (Yf ?_)))
    have ht38:=hx13 _ (ois hs12)
    subst ht38
    refine Zj ?_
    exact ⟨u10,hE.sub ⟨rfl,rfl,trivial⟩,hM⟩
  ·skip
   rintro a w ⟨u7,hE,hM⟩
   refine Zw (Zc (Zd hE Za ld rfl fun a hE=>Zd hE Za ld rfl ?_)); intro a hE
   obtain ⟨l39,e40,hF6⟩:=bind_some hF6
   refine J4 hE Za ld rfl rfl rfl rfl rfl Try.underlying66 ty2 (hM.sl (pre:=[]) noB) e40 ?_; intro a hE
   obtain ⟨c41,e42,hF6⟩:=bind_some hF6
   refine Ay (zero:=(0 : Int)) (i:=j4.2) hE hM Za rfl Try.underlying66 (zv_of (by kernel_rfl)) rfl rfl rfl rfl e42 fun w a hM hE=>Zf (Zc (Zd hE Za ld rfl fun a hE=>Zd hE Za ld rfl ?_)); intro a hE
   obtain ⟨l43,e44,hF6⟩:=bind_some hF6
   refine J4 hE Za ld rfl rfl rfl rfl rfl Try.underlying66 ty2 (hM.sl (pre:=[]) noB) e44 ?_; intro a hE
   have hM:=hM.cut noB e44
   refine Ze hE Za ld rfl fun a hE=>Zf ?_
   have hr:=Option.some.inj hF6
   subst hr
   exact wp_ret (Zx hE rfl (Zs hE rfl) ⟨_,rfl,(WF u7 ((0 : Int)).toNat (j4.2).toNat 1),rfl,hM⟩)
def Z2 (p0 : List Int) (p1 : Int → Option Bool) : Option Unit:=(ZX p0 p1).bind fun (r1 : Int)=>if (r1 == (-1)) = true then some () else none
theorem VT (w0 : World) (p0 : (List Int)) (v0_1 : Value) (hv0_1 : Ro w0 p0 [v0_1]) (p1 : Int → Option (Bool)) (k1 : Nat) (q1 : List Value) (hcb1 : Callable Try.prog k1) (hg1 : ∀ (w2 : World),Kept (Old w0) w0 w2 → ∀ (z0 : Int) (zr : Bool),p1 z0 = some zr → Calls Try.prog k1 ([vI z0] ++ q1).toArray w2 (fun en w3=>∃ v,en = .returned v ∧ (v = (vT zr) ∧ Kept (Old w2) w2 w3))) (r : Unit) (hF : Z2 p0 p1 = some r) :
  Calls Try.prog 91 [v0_1,(Value.func (.func k1) #[] q1.toArray)].toArray w0 (fun en w'=>∃ v,en = .returned v ∧ (v = v0_1 ∧ Kept (Old w0) w0 w')):=by
 refine ZB (n:=42) Try.func91 rfl rfl (nbl rfl) rfl ?_
 intro a hE
 have hM:=M.start w0
 unfold Z2 at hF
 refine Zc (Ze hE Za ld rfl fun a hE=>Zf (Zc (Zd hE Za ld rfl fun a hE=>Zd hE Za ld rfl ?_))); intro a hE
 obtain ⟨r1,e2,hF⟩:=bind_some hF
 refine Zt hE Za ld rfl cb137 (Wy _ p0 v0_1 (hM.rdo hv0_1) p1 k1 q1 hcb1 (fun w2 hk2=>hg1 w2 (hM.kept.trans hk2)) r1 e2) ?_
 rintro v w a ⟨rfl,hK⟩ hE
 have hM:=hM.keep hK
 refine Ze hE Za ld rfl fun a hE=>Zf (wp_seq (Zc (Zd hE Za ld rfl fun a hE=>Zi hE Za ld rfl rfl rfl fun a hE=>Zf ?_)))
 refine Zq hE rfl ?_ ?_
 ·intro hb3
  have hF:=Zu hF hb3
  refine Zc (Zd hE Za ld rfl fun a hE=>Ze hE Za ld rfl fun a hE=>Zf ?_)
  exact wp_ret (ZD (Zx hE rfl (Zs hE rfl) ⟨_,rfl,rfl,hM.kept⟩))
 ·intro hb3
  have hF:=Zv hF hb3
  cases hF
def YE (p0 : (List Int)) (p1 : Int) (s5 : Int) : Option (Fl Int (Fl Unit Int)) :=
 if (decide (s5 < (p0.length : Int))) = true then ((idx p0 s5).bind fun x10=>if (p1 == x10) = true then (some (Fl.ex (Fl.ex s5))) else (some (Fl.nx (wr (s5 + 1))))) else (some (Fl.ex (Fl.nx ())))
def YI (p0 : (List Int)) (p1 : Int) : Option (Int) :=
 (ZE (YE p0 p1) 0).bind fun j1=>j1.el (fun s4=>some (-1)) (fun r=>some r)
theorem UA (w0 : World) (p0 : (List Int)) (v0_1 : Value) (hv0_1 : Ro w0 p0 [v0_1]) (p1 : Int) (r : Int) (hF : YI p0 p1 = some r) :
  Calls Try.prog 138 [v0_1,vI p1].toArray w0 (fun en w'=>∃ v,en = .returned v ∧ (v = (vI r) ∧ Kept (Old w0) w0 w')):=by
 refine ZB (n:=19) Try.func138 rfl rfl (nbl rfl) rfl ?_
 intro a hE
 have hM:=M.start w0
 unfold YI at hF
 refine Zc (Ze hE Za ld rfl fun a hE=>Zf (wp_seq (Zc (Zd hE Za ld rfl fun a hE=>Ws hE Za ld rfl Try.underlying66 (hM.rd hv0_1) fun a hE=>Zd hE Za ld rfl fun a hE=>Zf ?_))))
 obtain ⟨j1,hl2,hF3⟩:=bind_some hF
 refine ZL (fun a w=>∃ s4 : Unit,j1 = Fl.nx s4 ∧ Env 19 a [] ∧ M (Old w0) w0 w []) ?_ ?_
 ·skip
  refine wp_block ?_
  refine ZF (fun (s5 : Int) a w=>Env 19 a [(0,v0_1),(1,vI p1),(7,(vI (p0.length : Int))),(8,vI s5)] ∧ M (Old w0) w0 w []) hl2 ⟨hE.sub ⟨rfl,rfl,rfl,rfl,trivial⟩,hM⟩ ?_
  rintro s5 a w ⟨hE,hM⟩ o8 hs6 hx7
  unfold YE at hs6
  refine Zc (Zi hE Za ld rfl rfl rfl fun a hE=>Zf (wp_seq ?_))
  refine Zq hE rfl ?_ ?_
  ·intro hb9
   have hs6:=Zu hs6 hb9
   refine wp_skip (Zw (wp_seq (wp_block (Zc (Zd hE Za ld rfl fun a hE=>Ze hE Za ld rfl fun a hE=>Zf (Zc (Zd hE Za ld rfl fun a hE=>Zd hE Za ld rfl fun a hE=>Zd hE Za ld rfl ?_))))))); intro a hE
   obtain ⟨x10,hi12,hs6⟩:=bix hs6
   refine Yk hE Za ld rfl rfl Try.underlying66 ty2 (hM.rd hv0_1) hi12.1 fun a hE=>ZC (v:=(vI x10)) hE Za ld rfl ty2 rfl (WD (hM.rd hv0_1) hi12.2) fun a hE=>Zi hE Za ld rfl rfl rfl fun a hE=>Zf ?_
   refine Zq hE rfl ?_ ?_
   ·intro hb13
    have hs6:=Zu hs6 hb13
    refine Zc (Zd hE Za ld rfl fun a hE=>Ze hE Za ld rfl fun a hE=>Zf ?_)
    have ht14:=hx7 _ (ois hs6)
    subst ht14
    have hr:=Option.some.inj hF3
    subst hr
    exact wp_ret (YG (ZD (ZD (YG (ZD (ZD (Zx hE rfl (Zs hE rfl) ⟨_,rfl,rfl,hM.kept⟩)))))))
   ·intro hb13
    have hs6:=Zv hs6 hb13
    refine wp_skip (Z9 (Zw (wp_region_lit (Zi hE Za ld rfl rfl rfl fun a hE=>Zd hE Za ld rfl fun a hE=>Zh (Zj ?_)))))
    exact ⟨_,(ois hs6),hE.sub ⟨rfl,rfl,rfl,rfl,trivial⟩,hM⟩
  ·intro hb9
   have hs6:=Zv hs6 hb9
   refine wp_exit (Zm (Zm (Yf ?_)))
   have ht15:=hx7 _ (ois hs6)
   subst ht15
   refine Zj ?_
   exact ⟨(),rfl,hE.sub trivial,hM⟩
 ·skip
  rintro a w ⟨s4,ht,hE,hM⟩
  subst ht
  have hF3:=Ur hF3
  refine Zw (Zc (Ze hE Za ld rfl fun a hE=>Zf ?_))
  have hr:=Option.some.inj hF3
  subst hr
  exact wp_ret (Zx hE rfl (Zs hE rfl) ⟨_,rfl,rfl,hM.kept⟩)
def Yc (p0 : (List Int)) (p1 : Int) : Option (Bool) :=
 (YI p0 p1).bind fun r1=>some (decide (r1 ≥ 0))
theorem Uh (w0 : World) (p0 : (List Int)) (v0_1 : Value) (hv0_1 : Ro w0 p0 [v0_1]) (p1 : Int) (r : Bool) (hF : Yc p0 p1 = some r) :
  Calls Try.prog 93 [v0_1,vI p1].toArray w0 (fun en w'=>∃ v,en = .returned v ∧ (v = (vT r) ∧ Kept (Old w0) w0 w')):=by
 refine ZB (n:=9) Try.func93 rfl rfl (nbl rfl) rfl ?_
 intro a hE
 have hM:=M.start w0
 unfold Yc at hF
 refine Zc (Ze hE Za ld rfl fun a hE=>Zf (Zc (Zd hE Za ld rfl fun a hE=>Zd hE Za ld rfl ?_))); intro a hE
 obtain ⟨r1,e2,hF⟩:=bind_some hF
 refine Zt hE Za ld rfl cb138 (UA _ p0 v0_1 (hM.rdo hv0_1) p1 r1 e2) ?_
 rintro v w a ⟨rfl,hK⟩ hE
 have hM:=hM.keep hK
 refine Zi hE Za ld rfl rfl rfl fun a hE=>Ze hE Za ld rfl fun a hE=>Zf ?_
 have hr:=Option.some.inj hF
 subst hr
 exact wp_ret (Zx hE rfl (Zs hE rfl) ⟨_,rfl,rfl,hM.kept⟩)
def ZN (p0 : Int) (p1 : (List Int)) : Option (Bool) :=
 (Yc p1 p0).bind fun r1=>some (!r1)
theorem VA (w0 : World) (p0 : Int) (pb1 : Nat) (p1 : (List Int)) (v1_2 : Value) (hv1_2 : Ro w0 p1 [v1_2]) (hA1 : At w0 pb1 0 ([v1_2])) (hB1 : Old w0 pb1) (r : Bool) (hF : ZN p0 p1 = some r) :
  Calls Try.prog 92 [vI p0,(ptr pb1 0)].toArray w0 (fun en w'=>∃ v,en = .returned v ∧ (v = (vT r) ∧ Kept (Old w0) w0 w')):=by
 refine ZB (n:=8) Try.func92 rfl rfl (nbl rfl) rfl ?_
 intro a hE
 have hM:=M.start w0
 unfold ZN at hF
 refine Zc (Ze hE Za ld rfl fun a hE=>Zf (Zc (ZC (v:=v1_2) hE Za ld rfl ty66 rfl (hM.atk hA1 hB1) fun a hE=>Zd hE Za ld rfl ?_))); intro a hE
 obtain ⟨r1,e2,hF⟩:=bind_some hF
 refine Zt hE Za ld rfl cb93 (Uh _ p1 v1_2 (hM.rdo hv1_2) p0 r1 e2) ?_
 rintro v w a ⟨rfl,hK⟩ hE
 have hM:=hM.keep hK
 refine Vf hE Za ld rfl fun a hE=>Ze hE Za ld rfl fun a hE=>Zf ?_
 have hr:=Option.some.inj hF
 subst hr
 exact wp_ret (Zx hE rfl (Zs hE rfl) ⟨_,rfl,rfl,hM.kept⟩)
def Ym (p2 : (List (Vector UInt8 16))) (p3 : Int) (p4 : Int) (r25 : (Ref Gengine)) (r28 : (List (Vector UInt8 16))) (s38 : (List Int) × Int) : Option (Fl ((List Int) × Int) (List Int)) :=
 if (decide (s38.2 < (p2.length : Int))) = true then (((idx p2 s38.2).bind fun x50=>(Xr r25 r28 x50 p3).bind fun r55=>(Yo r25 r55 p4).bind fun r58=>if (s38.2 == 0) = true then ((Z2 r58 (fun z0=>ZN z0 r58)).bind fun r64=>some r58) else ((Z6 s38.1 (fun z0=>ZN z0 r58)).bind fun r67=>some r67) : Option ((List Int))).bind fun j45=>some (Fl.nx (j45,wr (s38.2 + 1)))) else (some (Fl.ex s38.1))
def Yw (p0 : GCipher) (p1 : (Vector UInt8 16)) (p2 : (List (Vector UInt8 16))) (p3 : Int) (p4 : Int) (p5 : Int) : Option ((List Int) × Int) :=
 (WS p0 p3 p5).bind fun r5=>if (r5 != 0) = true then (some ([],r5)) else (((Xf p2).bind fun r12=>(YO r12 1 8).bind fun r14=>if (!r14) = true then (some true) else ((WI p4).bind fun r18=>if (!r18) = true then (some true) else (some (decide (p5 < 1)))) : Option (Bool)).bind fun j9=>if j9 = true then (some ([],2)) else ((WE p0).bind fun r25=>(Y4 r25 p1 p5).bind fun r28=>(ZE (Ym p2 p3 p4 r25 r28) (([] : List Int),0)).bind fun j33=>some (j33,0)))
end

end Go.Proofs.Ytpjogonponkbmaa
