/- The walk of what the law reaches: contracts of functions. -/
import Derived.Test.YtkajmkegelcfjaaGreatC2
set_option linter.unusedVariables false
set_option linter.unusedSimpArgs false
set_option maxRecDepth 20000
set_option maxHeartbeats 400000
namespace Go.Proofs.YtkajmkegelcfjaaGreat
open Go
open Flat (enc)
noncomputable section
theorem TK (w0 : World) (p0 : GCipher) (p1 : (List (Vector UInt8 16))) (v1_1 : Value) (hv1_1 : Ro w0 p1 [v1_1]) (p2 : Int) (r : (Vector Bool 256)) (hF : Xs p0 p1 p2 = some r) :
  Calls Tryz.prog 46 [(Value.agg (enc p0).toArray),v1_1,vI p2].toArray w0 (Rt w0 (Value.agg (enc r).toArray)):=by
 refine ce Tryz.func46 ?_
 intro a hE
 have hM:=M.start w0
 unfold Xs at hF
 refine Zb (ZY (cs:=cat [[vI p0.Field],enc p0.Box,enc p0.Mix,enc p0.Places,[vI p0.Rounds]]) hE hM Za ld rfl rfl fun b1 w a hM hE=>Zs hE hM Qm fun b3 w a hM hE=>Ze (Zb (ZJ hE rfl (Qa) fun a hE=>Zk hE rfl YN rfl (At.cat (pre:=[[vI p0.Field]]) hM.rawAt1 ck) (Flat.len _) ?_))); intro a hE
 obtain ⟨r5,e6,hF⟩:=bind_some hF
 refine Zo hE rfl (cbm Tryz.func72) (Hb _ p0.Box r5 e6) ?_
 rintro v w a ⟨rfl,hK⟩ hE
 have hM:=hM.keep hK
 refine Z8 (parts:=[]) (vs:=[]) (cs:=enc (Vector.replicate 256 false)) hE Za ld rfl rfl Qm rfl ty4 ZZ fun a hE=>Zs hE hM YN fun b7 w a hM hE=>Zs hE hM Qm ?_; intro b9 w a hM hE
 have hM:=hM.pull1
 refine Zg (seg:=enc r5) (cs':=enc r5) hE hM Za rfl rfl rfl YN (Flat.len _) (zle flq) (Flat.cell _) (Zf flq) ?_; intro w a hM hE
 have hM:=hM.pull1
 refine Zg (seg:=enc (Vector.replicate 256 false)) (cs':=enc (Vector.replicate 256 false)) hE hM Za rfl rfl rfl Qm (Flat.len _) (zle flq) (Flat.cell _) (Zf flq) fun w a hM hE=>Ze (wp_seq (Zb (Zc hE rfl fun a hE=>Ze ?_)))
 obtain ⟨j11,hl12,hF13⟩:=bind_some hF
 refine ZS (fun a w=>Env 44 a [(6,(ptr b3 0)),(8,(ptr b9 0))] ∧ M (Old w0) w0 w [raw b9 (enc j11),raw b3 (enc (Vector.replicate 256 false))]) ?_ ?_
 ·skip
  refine wp_block ?_
  have hM:=M.fst (l:=[_,_,_]) hM.pull2.pull2.pull2
  refine ZO (fun (s14 : (Vector Bool 256) × Int) a w=>Env 44 a [(1,v1_1),(2,vI p2),(6,(ptr b3 0)),(7,(ptr b7 0)),(8,(ptr b9 0)),(9,vI s14.2)] ∧ M (Old w0) w0 w [raw b9 (enc s14.1),raw b7 (enc r5),raw b3 (enc (Vector.replicate 256 false))]) hl12 ⟨hE.sub ⟨rfl,rfl,rfl,rfl,rfl,rfl,trivial⟩,hM⟩ ?_
  rintro s14 a w ⟨hE,hM⟩ o17 hs15 hx16
  unfold WF at hs15
  refine wp_seq (Zb (Zd hE rfl fun a hE=>Zl hE rfl rfl rfl fun a hE=>Ze ?_))
  refine Zr hE rfl ?_ ?_
  ·intro hb18
   have hs15:=Zu hs15 hb18
   refine wp_skip (Zz (wp_seq (wp_block (Zb (Zc hE rfl fun a hE=>Ze (wp_seq (Zb (Zc hE rfl fun a hE=>Ze ?_))))))))
   obtain ⟨j19,hl20,hF21⟩:=bind_some hs15
   refine ZS (fun a w=>Env 44 a [(1,v1_1),(2,vI p2),(6,(ptr b3 0)),(7,(ptr b7 0)),(8,(ptr b9 0)),(9,vI s14.2),(10,vB j19)] ∧ M (Old w0) w0 w [raw b9 (enc s14.1),raw b7 (enc r5),raw b3 (enc (Vector.replicate 256 false))]) ?_ ?_
   ·skip
    refine wp_block ?_
    refine ZO (fun (s22 : UInt8 × Int) a w=>Env 44 a [(1,v1_1),(2,vI p2),(6,(ptr b3 0)),(7,(ptr b7 0)),(8,(ptr b9 0)),(9,vI s14.2),(10,vB s22.1),(11,vI s22.2)] ∧ M (Old w0) w0 w [raw b9 (enc s14.1),raw b7 (enc r5),raw b3 (enc (Vector.replicate 256 false))]) hl20 ⟨hE.sub ⟨rfl,rfl,rfl,rfl,rfl,rfl,rfl,rfl,trivial⟩,hM⟩ ?_
    rintro s22 a w ⟨hE,hM⟩ o25 hs23 hx24
    unfold Vz at hs23
    refine wp_seq (Zb (Zd hE rfl fun a hE=>Zd hE rfl fun a hE=>Wm hE rfl Tryz.underlying36 (hM.rd hv1_1) fun a hE=>Zl hE rfl rfl rfl fun a hE=>Ze ?_))
    refine Zr hE rfl ?_ ?_
    ·intro hb26
     have hs23:=Zu hs23 hb26
     refine wp_skip (Zz (wp_seq (wp_block (wp_region_lit (Zd hE rfl fun a hE=>Zd hE rfl fun a hE=>Zd hE rfl fun a hE=>Zd hE rfl ?_))))); intro a hE
     obtain ⟨x27,hi29,hs23⟩:=bix hs23
     refine XM hE rfl rfl Tryz.underlying36 Zv (hM.rd hv1_1) hi29.1 ?_; intro a hE
     obtain ⟨x31,hi30,hs23⟩:=bvx hs23
     refine Zw hE rfl rfl Tryz.underlying33 ty5 hi30.1 fun a hE=>ZR (v:=(vB x31)) hE rfl ty5 rfl (At.vec (Y1 (hM.rd hv1_1) hi29.2) hi30.2) fun a hE=>Zd hE rfl fun a hE=>YX hE Za ld rfl Tryz.underlying3 Tryz.underlying5 fun a hE=>Zl hE rfl rfl (WI x31 (ZH s14.2)) ?_; intro a hE
     obtain ⟨x34,hi33,hs23⟩:=bvx hs23
     refine Zw hE rfl rfl Tryz.underlying25 ty5 hi33.1 fun a hE=>ZR (v:=(vB x34)) hE rfl ty5 rfl (At.vec hM.rawAt1 hi33.2) fun a hE=>Zl hE rfl rfl (WI s22.1 x34) fun a hE=>Zc hE rfl fun a hE=>Zh (Z9 (Zz (wp_region_lit (Zd hE rfl fun a hE=>Zl hE rfl rfl rfl fun a hE=>Zc hE rfl fun a hE=>Zh (Zi ?_)))))
     exact ⟨_,(ois hs23),hE.sub ⟨rfl,rfl,rfl,rfl,rfl,rfl,rfl,rfl,trivial⟩,hM⟩
    ·intro hb26
     have hs23:=Zt hs23 hb26
     refine wp_exit (Zq (Zq (Yi ?_)))
     obtain rfl:=hx24 _ (ois hs23)
     refine Zi ?_
     exact ⟨hE.sub ⟨rfl,rfl,rfl,rfl,rfl,rfl,rfl,trivial⟩,hM⟩
   ·skip
    rintro a w ⟨hE,hM⟩
    refine Zz (wp_region_lit (Zd hE rfl fun a hE=>Zd hE rfl fun a hE=>Zl hE rfl rfl (Al j19 0) ?_)); intro a hE
    obtain ⟨x38,hi37,hF21⟩:=bvx hF21
    refine Zw hE rfl rfl Tryz.underlying74 ty4 hi37.1 fun a hE=>Zg (seg:=[(vT (j19 == 0))]) (cs':=enc (s14.1.setIfInBounds (s14.2).toNat (j19 == 0))) hE hM Za rfl rfl rfl ty4 rfl (ZE (v:=s14.1) (x:=j19 == 0) hi37.1) (Flat.cell (j19 == 0 : Bool)) (Zy (v:=s14.1) (x:=j19 == 0) hi37.1) fun w a hM hE=>Zh (Z9 (Zz (wp_region_lit (Zd hE rfl fun a hE=>Zl hE rfl rfl rfl fun a hE=>Zc hE rfl fun a hE=>Zh (Zi ?_)))))
    exact ⟨_,(ois hF21),hE.sub ⟨rfl,rfl,rfl,rfl,rfl,rfl,trivial⟩,hM⟩
  ·intro hb18
   have hs15:=Zt hs15 hb18
   refine wp_exit (Zq (Zq (Yi ?_)))
   obtain rfl:=hx16 _ (ois hs15)
   refine Zi ?_
   have hM:=M.fst (l:=[_,_]) hM.pull2.pull1
   exact ⟨hE.sub ⟨rfl,rfl,trivial⟩,hM⟩
 ·skip
  rintro a w ⟨hE,hM⟩
  refine Zz (Zb (Zk hE rfl Qm rfl hM.rawAt0 (Flat.len _) ?_)); intro a hE
  have hM:=hM.pull1
  refine Zg (seg:=enc j11) (cs':=enc j11) hE hM Za rfl rfl rfl Qm (Flat.len _) (zle flq) (Flat.cell _) (Zf flq) fun w a hM hE=>Ze ?_
  obtain rfl:=Option.some.inj hF13
  have hq41 : ZX Tryz.prog _ _ (.cell 6 74) _:=ZN hE rfl Qm rfl hM.rawAt0 (Flat.len _) rfl
  exact wp_ret (Z2 hE rfl hq41 ⟨_,rfl,rfl,hM.kept⟩)
def WZ (p0 : (Vector Bool 256)) (s10 : (List Int) × Int) : Option (Fl ((List Int) × Int) (List Int)) :=
 if (decide (s10.2 < 256)) = true then (((ZB p0 s10.2).bind fun x23=>(if x23 = true then ((app 8 s10.1 ([s10.2] : List Int)).bind fun l33=>some (s10.1 ++ ([s10.2] : List Int))) else (some s10.1) : Option ((List Int))).bind fun j25=>some j25 : Option ((List Int))).bind fun j17=>some (Fl.nx (j17,wr (s10.2 + 1)))) else (some (Fl.ex s10.1))
def Vl (p0 : (Vector Bool 256)) : Option ((List Int)) :=
 (ZK (WZ p0) (([] : List Int),0)).bind fun j5=>some j5
theorem KM (w0 : World) (p0 : (Vector Bool 256)) (r : (List Int)) (hF : Vl p0 = some r) :
  Calls Tryz.prog 45 [(Value.agg (enc p0).toArray)].toArray w0 (fun en w'=>∃ v,en = .returned v ∧ (∃ (y1 : Value),v = y1 ∧ Fr w0 w' [osl NoB (r : List Int) y1] ∧ Kept (Old w0) w0 w')):=by
 refine ce Tryz.func45 ?_
 intro a hE
 have hM:=M.start w0
 unfold Vl at hF
 refine Zb (ZY (cs:=enc p0) hE hM Za ld rfl rfl fun b1 w a hM hE=>Zc hE rfl fun a hE=>Ze (Zb (Yc (xs:=[]) (l:=([] : List Int)) (vs:=[]) hE hM Za ld rfl rfl Tryz.underlying44 ty2 rfl (by decide) rfl fun u3 w a hM hE=>Zc hE rfl fun a hE=>Ze (wp_seq (Zb (Zc hE rfl fun a hE=>Ze ?_))))))
 obtain ⟨j5,hl6,hF7⟩:=bind_some hF
 refine ZS (fun a w=>∃ (u8 : Value),Env 18 a [(3,u8)] ∧ M (Old w0) w0 w [osl NoB (j5 : List Int) u8]) ?_ ?_
 ·skip
  refine wp_block ?_
  have hM:=hM.pull1
  refine ZO (fun (s10 : (List Int) × Int) a w=>∃ (u11 : Value),Env 18 a [(1,(ptr b1 0)),(3,u11),(4,vI s10.2)] ∧ M (Old w0) w0 w [raw b1 (enc p0),osl NoB (s10.1 : List Int) u11]) hl6 ⟨u3,hE.sub ⟨rfl,rfl,rfl,trivial⟩,hM⟩ ?_
  rintro s10 a w ⟨u11,hE,hM⟩ o15 hs13 hx14
  unfold WZ at hs13
  refine wp_seq (Zb (Zd hE rfl fun a hE=>Zl hE rfl rfl rfl fun a hE=>Ze ?_))
  refine Zr hE rfl ?_ ?_
  ·intro hb16
   have hs13:=Zu hs13 hb16
   refine wp_skip (Zz ?_)
   obtain ⟨j17,hl18,hF19⟩:=bind_some hs13
   refine ZQ (fun a w=>∃ (u20 : Value),Env 18 a [(1,(ptr b1 0)),(3,u20),(4,vI s10.2)] ∧ M (Old w0) w0 w [raw b1 (enc p0),osl NoB (j17 : List Int) u20]) ?_ ?_
   ·skip
    refine wp_block (Zb (Zd hE rfl ?_)); intro a hE
    obtain ⟨x23,hi22,hl18⟩:=bvx hl18
    refine Zw hE rfl rfl Tryz.underlying74 ty4 hi22.1 fun a hE=>ZR (v:=(vT x23)) hE rfl ty4 rfl (At.vec hM.rawAt0 hi22.2) fun a hE=>Ze ?_
    obtain ⟨j25,hl26,hF27⟩:=bind_some hl18
    refine ZS (fun a w=>∃ (u28 : Value),Env 18 a [(1,(ptr b1 0)),(3,u28),(4,vI s10.2)] ∧ M (Old w0) w0 w [raw b1 (enc p0),osl NoB (j25 : List Int) u28]) ?_ ?_
    ·skip
     refine Zr hE rfl ?_ ?_
     ·intro hb30
      have hl26:=Zu hl26 hb30
      refine wp_region_lit (Zd hE rfl fun a hE=>Zd hE rfl fun a hE=>Yc (xs:=[.tmp 14]) (l:=([s10.2] : List Int)) (vs:=[vI s10.2]) hE hM Za ld rfl rfl Tryz.underlying44 ty2 rfl (by decide) rfl ?_); intro u31 w a hM hE
      obtain ⟨l33,e34,hl26⟩:=bind_some hl26
      obtain ⟨e37,rfl⟩:=U3 e34
      have hM:=hM.pull2
      refine Uo hE hM Za ld rfl rfl (hM.sl (pre:=[_]) noB) Tryz.underlying44 ty2 rfl (by decide) e37 fun u35 w a hM hE=>Zc hE rfl fun a hE=>Zh ?_
      obtain rfl:=Option.some.inj hl26
      refine Zi ?_
      have hM:=M.fst (l:=[_,_]) hM.pull2
      exact ⟨u35,hE.sub ⟨rfl,rfl,rfl,trivial⟩,hM⟩
     ·intro hb30
      have hl26:=Zt hl26 hb30
      refine wp_skip ?_
      obtain rfl:=Option.some.inj hl26
      refine Zi ?_
      exact ⟨u11,hE.sub ⟨rfl,rfl,rfl,trivial⟩,hM⟩
    ·skip
     rintro a w ⟨u28,hE,hM⟩
     refine Z9 ?_
     obtain rfl:=Option.some.inj hF27
     refine Zi ?_
     exact ⟨u28,hE.sub ⟨rfl,rfl,rfl,trivial⟩,hM⟩
   ·skip
    rintro a w ⟨u20,hE,hM⟩
    refine wp_region_lit (Zd hE rfl fun a hE=>Zl hE rfl rfl rfl fun a hE=>Zc hE rfl fun a hE=>Zh (Zi ?_))
    exact ⟨_,(ois hF19),u20,hE.sub ⟨rfl,rfl,rfl,trivial⟩,hM⟩
  ·intro hb16
   have hs13:=Zt hs13 hb16
   refine wp_exit (Zq (Zq (Yi ?_)))
   obtain rfl:=hx14 _ (ois hs13)
   refine Zi ?_
   have hM:=M.fst (l:=[_]) hM.pull1
   exact ⟨u11,hE.sub ⟨rfl,trivial⟩,hM⟩
 ·skip
  rintro a w ⟨u8,hE,hM⟩
  refine Zz (Zb (Zd hE rfl fun a hE=>Zc hE rfl fun a hE=>Ze ?_))
  obtain rfl:=Option.some.inj hF7
  exact wp_ret (Z2 hE rfl (ZF hE rfl) ⟨_,rfl,u8,rfl,hM.outF (WU WD),hM.kept⟩)
def X6 (p0 : GCipher) (p1 : (List (Vector UInt8 16))) (p2 : Int) : Option ((List Int) × Int) :=
 (UM p0).bind fun r3=>if (!r3) = true then (some ([],1)) else ((if (decide ((p1.length : Int) < 1)) = true then (some true) else (if (decide ((p1.length : Int) > 256)) = true then (some true) else ((XL p2 0 15).bind fun r14=>some (!r14))) : Option (Bool)).bind fun j7=>if j7 = true then (some ([],2)) else ((Xs p0 p1 p2).bind fun r19=>(Vl r19).bind fun r21=>some (r21,0)))
theorem KV (w0 : World) (p0 : GCipher) (p1 : (List (Vector UInt8 16))) (v1_1 : Value) (hv1_1 : Ro w0 p1 [v1_1]) (p2 : Int) (r : (List Int) × Int) (hF : X6 p0 p1 p2 = some r) :
  Calls Tryz.prog 14 [(Value.agg (enc p0).toArray),v1_1,vI p2].toArray w0 (fun en w'=>∃ v,en = .returned v ∧ (∃ (y1 : Value),v = (Value.tuple [y1,vI r.2].toArray) ∧ Fr w0 w' [osl NoB (r.1 : List Int) y1] ∧ Kept (Old w0) w0 w')):=by
 refine ce Tryz.func14 ?_
 intro a hE
 have hM:=M.start w0
 unfold X6 at hF
 refine Zb (ZY (cs:=cat [[vI p0.Field],enc p0.Box,enc p0.Mix,enc p0.Places,[vI p0.Rounds]]) hE hM Za ld rfl rfl fun b1 w a hM hE=>Zc hE rfl fun a hE=>Zc hE rfl fun a hE=>Ze (wp_seq (wp_block (Zb (Zk hE rfl ZT rfl hM.rawAt0 cq ?_))))); intro a hE
 obtain ⟨r3,e4,hF⟩:=bind_some hF
 refine Zo hE rfl (cbm Tryz.func43) (He _ p0 r3 e4) ?_
 rintro v w a ⟨rfl,hK⟩ hE
 have hM:=hM.keep hK
 refine TH hE rfl fun a hE=>Zc hE rfl fun a hE=>Ze ?_
 refine Zr hE rfl ?_ ?_
 ·intro hb5
  have hF:=Zu hF hb5
  refine Zb (Zc hE rfl fun a hE=>Zc hE rfl fun a hE=>Ze ?_)
  have hM:=M.nilS (α:=Int) NoB noB hM
  obtain rfl:=Option.some.inj hF
  have hM:=M.fst (l:=[_]) hM
  exact wp_ret (Y8 (ZI (Xk hE rfl (ZF hE rfl) (ZF hE rfl) ⟨_,rfl,(Value.slice none 0 0),rfl,hM.outF (WU WD),hM.kept⟩)))
 ·intro hb5
  have hF:=Zt hF hb5
  obtain ⟨j7,hl8,hF9⟩:=bind_some hF
  refine ZQ (fun a w=>Env 31 a [(1,v1_1),(2,vI p2),(3,(ptr b1 0)),(12,vT j7)] ∧ M (Old w0) w0 w [raw b1 (cat [[vI p0.Field],enc p0.Box,enc p0.Mix,enc p0.Places,[vI p0.Rounds]])]) ?_ ?_
  ·skip
   refine wp_region_lit (Zd hE rfl fun a hE=>Wm hE rfl Tryz.underlying36 (hM.rd hv1_1) fun a hE=>Zl hE rfl rfl rfl fun a hE=>Zd hE rfl ?_); intro a hE
   refine YF (decide ((p1.length : Int) < 1)) (fun hb10=>?_) (fun hb10=>?_)
   ·have hl8:=Zu hl8 hb10
    refine Zp hE rfl (lkb rfl hb10) rfl (by decide) fun a hE=>Zp hE rfl (lkb rfl hb10) rfl (by decide) fun a hE=>Zp hE rfl (lkb rfl hb10) rfl (by decide) fun a hE=>ZW hE (lkb rfl hb10) rfl fun a hE=>Zd hE rfl fun a hE=>Zp hE rfl rfl rfl (by decide) fun a hE=>Zp hE rfl rfl rfl (by decide) fun a hE=>Zp hE rfl rfl rfl (by decide) fun a hE=>ZW hE rfl rfl fun a hE=>Zc hE rfl fun a hE=>Zh ?_
    obtain rfl:=Option.some.inj hl8
    refine Zi ?_
    exact ⟨hE.sub ⟨rfl,rfl,rfl,rfl,trivial⟩,hM⟩
   ·have hl8:=Zt hl8 hb10
    refine Zj hE (Zm hE rfl (lkb rfl hb10)) (by decide) rfl fun a hE=>AE hE (Zm hE rfl (lkb rfl hb10)) (by decide) rfl Tryz.underlying36 (hM.rd hv1_1) fun a hE=>Yk hE (Zm hE rfl (lkb rfl hb10)) (by decide) rfl rfl rfl fun a hE=>Z7 hE (lkb rfl hb10) rfl fun a hE=>Zd hE rfl ?_; intro a hE
    refine YF (decide ((p1.length : Int) > 256)) (fun hb12=>?_) (fun hb12=>?_)
    ·have hl8:=Zu hl8 hb12
     refine Zp hE rfl (lkb rfl hb12) rfl (by decide) fun a hE=>Zp hE rfl (lkb rfl hb12) rfl (by decide) fun a hE=>Zp hE rfl (lkb rfl hb12) rfl (by decide) fun a hE=>ZW hE (lkb rfl hb12) rfl fun a hE=>Zc hE rfl fun a hE=>Zh ?_
     obtain rfl:=Option.some.inj hl8
     refine Zi ?_
     exact ⟨hE.sub ⟨rfl,rfl,rfl,rfl,trivial⟩,hM⟩
    ·have hl8:=Zt hl8 hb12
     refine Zj hE (Zm hE rfl (lkb rfl hb12)) (by decide) rfl ?_; intro a hE
     obtain ⟨r14,e15,hl8⟩:=bind_some hl8
     refine YD hE (Zm hE rfl (lkb rfl hb12)) (by decide) rfl cb44 (UR _ p2 0 15 r14 e15) ?_
     rintro v w a ⟨rfl,hK⟩ hE
     have hM:=hM.keep hK
     refine Q0 hE (Zm hE rfl (lkb rfl hb12)) (by decide) rfl fun a hE=>Z7 hE (lkb rfl hb12) rfl fun a hE=>Zc hE rfl fun a hE=>Zh ?_
     obtain rfl:=Option.some.inj hl8
     refine Zi ?_
     exact ⟨hE.sub ⟨rfl,rfl,rfl,rfl,trivial⟩,hM⟩
  ·skip
   rintro a w ⟨hE,hM⟩
   refine Zr hE rfl ?_ ?_
   ·intro hb17
    have hF9:=Zu hF9 hb17
    refine Zb (Zc hE rfl fun a hE=>Zc hE rfl fun a hE=>Ze ?_)
    have hM:=M.nilS (α:=Int) NoB noB hM
    obtain rfl:=Option.some.inj hF9
    have hM:=M.fst (l:=[_]) hM
    exact wp_ret (Y8 (ZI (Xk hE rfl (ZF hE rfl) (ZF hE rfl) ⟨_,rfl,(Value.slice none 0 0),rfl,hM.outF (WU WD),hM.kept⟩)))
   ·intro hb17
    have hF9:=Zt hF9 hb17
    refine wp_skip (Z9 (Zz (Zb (Zk hE rfl ZT rfl hM.rawAt0 cq fun a hE=>Zd hE rfl fun a hE=>Zd hE rfl ?_)))); intro a hE
    obtain ⟨r19,e20,hF9⟩:=bind_some hF9
    refine Zo hE rfl cb46 (TK _ p0 p1 v1_1 (hM.rdo hv1_1) p2 r19 e20) ?_
    rintro v w a ⟨rfl,hK⟩ hE
    have hM:=hM.keep hK
    obtain ⟨r21,e22,hF9⟩:=bind_some hF9
    refine Zo hE rfl (cbm Tryz.func45) (KM _ r19 r21 e22) ?_
    rintro u23 w a ⟨_,rfl,hFr,hK⟩ hE
    have hM:=hM.add hK hFr
    refine Zc hE rfl fun a hE=>Zc hE rfl fun a hE=>Ze ?_
    obtain rfl:=Option.some.inj hF9
    have hM:=M.fst (l:=[_]) hM
    exact wp_ret (Xk hE rfl (ZF hE rfl) (ZF hE rfl) ⟨_,rfl,u23,rfl,hM.outF (WU WD),hM.kept⟩)
def V5 (p0 : (List Int)) (p1 : (List Int)) (s6 : Int) : Option (Fl Int (Fl Unit Bool)) :=
 if (decide (s6 < (p0.length : Int))) = true then (((idx p0 s6).bind fun x15=>(idx p1 s6).bind fun x18=>some (x15 != x18) : Option (Bool)).bind fun j11=>if j11 = true then (some (Fl.ex (Fl.ex false))) else (some (Fl.nx (wr (s6 + 1))))) else (some (Fl.ex (Fl.nx ())))
def WJ (p0 : (List Int)) (p1 : (List Int)) : Option (Bool) :=
 if ((p0.length : Int) != (p1.length : Int)) = true then (some false) else ((ZK (V5 p0 p1) 0).bind fun j2=>j2.el (fun s5=>some true) (fun r=>some r))
theorem T8 (w0 : World) (p0 : (List Int)) (v0_1 : Value) (hv0_1 : Ro w0 p0 [v0_1]) (p1 : (List Int)) (v1_1 : Value) (hv1_1 : Ro w0 p1 [v1_1]) (r : Bool) (hF : WJ p0 p1 = some r) :
  Calls Tryz.prog 15 [v0_1,v1_1].toArray w0 (Rt w0 (vT r)):=by
 refine ce Tryz.func15 ?_
 intro a hE
 have hM:=M.start w0
 unfold WJ at hF
 refine Zb (Zc hE rfl fun a hE=>Ze (wp_seq (Zb (Zd hE rfl fun a hE=>Wm hE rfl Tryz.underlying44 (hM.rd hv0_1) fun a hE=>Zd hE rfl fun a hE=>Wm hE rfl Tryz.underlying44 (hM.rd hv1_1) fun a hE=>Zl hE rfl rfl rfl fun a hE=>Ze ?_))))
 refine Zr hE rfl ?_ ?_
 ·intro hb1
  have hF:=Zu hF hb1
  refine Zb (Zc hE rfl fun a hE=>Ze ?_)
  obtain rfl:=Option.some.inj hF
  exact wp_ret (ZI (kr1 hE rfl rfl hM.kept))
 ·intro hb1
  have hF:=Zt hF hb1
  refine wp_skip (Zz (wp_seq (Zb (Zc hE rfl fun a hE=>Ze ?_))))
  obtain ⟨j2,hl3,hF4⟩:=bind_some hF
  refine ZS (fun a w=>∃ s5 : Unit,j2 = Fl.nx s5 ∧ Env 26 a [] ∧ M (Old w0) w0 w []) ?_ ?_
  ·skip
   refine wp_block ?_
   refine ZO (fun (s6 : Int) a w=>Env 26 a [(0,v0_1),(1,v1_1),(5,vI s6)] ∧ M (Old w0) w0 w []) hl3 ⟨hE.sub ⟨rfl,rfl,rfl,trivial⟩,hM⟩ ?_
   rintro s6 a w ⟨hE,hM⟩ o9 hs7 hx8
   unfold V5 at hs7
   refine wp_seq (Zb (Zd hE rfl fun a hE=>Zd hE rfl fun a hE=>Wm hE rfl Tryz.underlying44 (hM.rd hv0_1) fun a hE=>Zl hE rfl rfl rfl fun a hE=>Ze ?_))
   refine Zr hE rfl ?_ ?_
   ·intro hb10
    have hs7:=Zu hs7 hb10
    refine wp_skip (Zz (wp_seq (wp_block ?_)))
    obtain ⟨j11,hl12,hF13⟩:=bind_some hs7
    refine ZQ (fun a w=>Env 26 a [(0,v0_1),(1,v1_1),(5,vI s6),(25,vT j11)] ∧ M (Old w0) w0 w []) ?_ ?_
    ·skip
     obtain ⟨x15,hi17,hl12⟩:=bix hl12
     obtain ⟨x18,hi20,hl12⟩:=bix hl12
     refine Yl [17,18,19,20,21,22,23,24,25] Xm rfl rfl (by decide) rfl hE hM (qsP (fun z=>Zj z.E Za ld rfl (kr0 rfl)) (qsP (fun z=>Zj z.E Za ld rfl (kr0 rfl)) (qsP (fun z=>X7 z.E Za ld rfl rfl Tryz.underlying44 ty2 (z.M.rd hv0_1) hi17.1 (kr0 rfl)) (qsP (fun z=>Z0 (v:=(vI x15)) z.E Za ld rfl ty2 rfl (Y1 (z.M.rd hv0_1) hi17.2) (kr0 rfl)) (qsP (fun z=>Zj z.E Za ld rfl (kr0 rfl)) (qsP (fun z=>Zj z.E Za ld rfl (kr0 rfl)) (qsP (fun z=>X7 z.E Za ld rfl rfl Tryz.underlying44 ty2 (z.M.rd hv1_1) hi20.1 (kr0 rfl)) (qsP (fun z=>Z0 (v:=(vI x18)) z.E Za ld rfl ty2 rfl (Y1 (z.M.rd hv1_1) hi20.2) (kr0 rfl)) (qsP (fun z=>Yk z.E Za ld rfl rfl rfl (kr0 rfl)) qs0))))))))) ?_
     ·intro a w u hE hM
      refine Zh ?_
      obtain rfl:=Option.some.inj hl12
      refine Zi ?_
      exact ⟨hE.sub ⟨rfl,rfl,rfl,rfl,trivial⟩,hM⟩
    ·skip
     rintro a w ⟨hE,hM⟩
     refine Zr hE rfl ?_ ?_
     ·intro hb22
      have hF13:=Zu hF13 hb22
      refine Zb (Zc hE rfl fun a hE=>Ze ?_)
      obtain rfl:=hx8 _ (ois hF13)
      obtain rfl:=Option.some.inj hF4
      exact wp_ret (Y8 (ZI (ZI (Y8 (ZI (ZI (kr1 hE rfl rfl hM.kept)))))))
     ·intro hb22
      have hF13:=Zt hF13 hb22
      refine wp_skip (Z9 (Zz (wp_region_lit (Zd hE rfl fun a hE=>Zl hE rfl rfl rfl fun a hE=>Zc hE rfl fun a hE=>Zh (Zi ?_)))))
      exact ⟨_,(ois hF13),hE.sub ⟨rfl,rfl,rfl,trivial⟩,hM⟩
   ·intro hb10
    have hs7:=Zt hs7 hb10
    refine wp_exit (Zq (Zq (Yi ?_)))
    obtain rfl:=hx8 _ (ois hs7)
    refine Zi ?_
    exact ⟨(),rfl,hE.sub trivial,hM⟩
  ·skip
   rintro a w ⟨s5,ht,hE,hM⟩
   subst ht
   have hF4:=Qi hF4
   refine Zz (Zb (Zc hE rfl fun a hE=>Ze ?_))
   obtain rfl:=Option.some.inj hF4
   exact wp_ret (kr1 hE rfl rfl hM.kept)
def Xy (s28 : (Vector UInt8 16) × (List (Vector UInt8 16)) × Int) : Option (Fl ((Vector UInt8 16) × (List (Vector UInt8 16)) × Int) (List (Vector UInt8 16))) :=
 if (decide (s28.2.2 > 0)) = true then ((app 16 s28.2.1 ([s28.1] : List (Vector UInt8 16))).bind fun l37=>(ZB s28.1 (wr (15 - s28.2.2))).bind fun x43=>(ZB s28.1 (wr (15 - s28.2.2))).bind fun x46=>some (Fl.nx ((s28.1.setIfInBounds ((wr (15 - s28.2.2))).toNat (x43 + 1)),(s28.2.1 ++ ([s28.1] : List (Vector UInt8 16))),wr (s28.2.2 - 1)))) else (some (Fl.ex s28.2.1))
def Y5 (p0 : (List UInt8)) : Option (GCipher × (Vector UInt8 16) × (List (Vector UInt8 16)) × Int × Int × Int) :=
 (Wu p0).bind fun r5=>(XN p0).bind fun r9=>(Y0 p0 (r5.1,r5.2) ([1,1,2,2,0,9] : List Int)).bind fun r21=>(ZK (Xy) (r9.2.2.1,([] : List (Vector UInt8 16)),r21.2)).bind fun j23=>((ZD p0 (r21.1.1,r21.1.2) 17).bind fun r55=>some (r9.1.Field,r9.1.Box,r9.1.Mix,r9.1.Places,r9.1.Rounds,r9.2.1,j23,r9.2.2.2.1,r55.2,r9.2.2.2.2) : Option (Int × (Vector UInt8 256) × (Vector (Vector UInt8 4) 4) × (Vector UInt8 16) × Int × (Vector UInt8 16) × (List (Vector UInt8 16)) × Int × Int × Int)).bind fun j49=>some ((⟨j49.1,j49.2.1,j49.2.2.1,j49.2.2.2.1,j49.2.2.2.2.1⟩ : GCipher),j49.2.2.2.2.2.1,j49.2.2.2.2.2.2.1,j49.2.2.2.2.2.2.2.1,j49.2.2.2.2.2.2.2.2.1,j49.2.2.2.2.2.2.2.2.2)
theorem QE (w0 : World) (p0 : (List UInt8)) (v0_1 : Value) (hv0_1 : Ro w0 p0 [v0_1]) (r : GCipher × (Vector UInt8 16) × (List (Vector UInt8 16)) × Int × Int × Int) (hF : Y5 p0 = some r) :
  Calls Tryz.prog 16 [v0_1].toArray w0 (fun en w'=>∃ v,en = .returned v ∧ (∃ (y1 : Value),v = (Value.tuple [(Value.agg (enc r.1).toArray),(Value.agg (enc r.2.1).toArray),y1,vI r.2.2.2.1,vI r.2.2.2.2.1,vI r.2.2.2.2.2].toArray) ∧ Fr w0 w' [osl NoB (r.2.2.1 : List (Vector UInt8 16)) y1] ∧ Kept (Old w0) w0 w')):=by
 refine ce Tryz.func16 ?_
 intro a hE
 have hM:=M.start w0
 unfold Y5 at hF
 refine Zb (Zs hE hM ZT fun b1 w a hM hE=>Zs hE hM Zv fun b3 w a hM hE=>Zc hE rfl fun a hE=>Zc hE rfl fun a hE=>Zc hE rfl fun a hE=>Zc hE rfl fun a hE=>Ze (Zb (Zd hE rfl ?_))); intro a hE
 have hM:=M.tailP (m:=[]) hM
 obtain ⟨r5,e6,hF⟩:=bind_some hF
 refine Zo hE rfl cb35 (Ts _ _ _ _ p0 v0_1 hv0_1 hM r5 e6) ?_
 rintro v w a ⟨b7,rfl,hM⟩ hE
 have hM:=M.tailU (m:=[_]) hM
 simp only [List.cons_append,List.nil_append] at hM
 refine Zc hE rfl fun a hE=>Ze (Zb (Zd hE rfl ?_)); intro a hE
 obtain ⟨r9,e10,hF⟩:=bind_some hF
 refine Zo hE rfl cb28 (UI _ p0 v0_1 (hM.rdo hv0_1) r9 e10) ?_
 rintro v w a ⟨rfl,hK⟩ hE
 have hM:=hM.keep hK
 refine Zd hE rfl fun a hE=>Zx hE Za ld rfl rfl fun a hE=>Zx hE Za ld rfl rfl fun a hE=>Zx hE Za ld rfl rfl fun a hE=>Zx hE Za ld rfl rfl fun a hE=>Zx hE Za ld rfl rfl fun a hE=>Zs hE hM ZT fun b11 w a hM hE=>Zs hE hM Zv fun b13 w a hM hE=>Zs hE hM Zv ?_; intro b15 w a hM hE
 have hM:=hM.pull2
 refine Zg (seg:=cat [[vI r9.1.Field],enc r9.1.Box,enc r9.1.Mix,enc r9.1.Places,[vI r9.1.Rounds]]) (cs':=cat [[vI r9.1.Field],enc r9.1.Box,enc r9.1.Mix,enc r9.1.Places,[vI r9.1.Rounds]]) hE hM Za rfl rfl rfl ZT cq (Nat.le_of_eq ((Nat.zero_add _).trans (Eq.trans cq (Eq.symm cq)))) (Yf (cc1 (Flat.cell (r9.1.Field : Int)) (cc1 (Flat.cell _) (cc1 (Flat.cell _) (cc1 (Flat.cell _) (cc1 (Flat.cell (r9.1.Rounds : Int)) cc0)))))) (Zf (Eq.trans cq (Eq.symm cq))) ?_; intro w a hM hE
 have hM:=hM.pull2
 refine Zg (seg:=enc r9.2.1) (cs':=enc r9.2.1) hE hM Za rfl rfl rfl Zv (Flat.len _) (zle flq) (Flat.cell _) (Zf flq) ?_; intro w a hM hE
 have hM:=hM.pull2
 refine Zg (seg:=enc r9.2.2.1) (cs':=enc r9.2.2.1) hE hM Za rfl rfl rfl Zv (Flat.len _) (zle flq) (Flat.cell _) (Zf flq) fun w a hM hE=>Zc hE rfl fun a hE=>Zc hE rfl fun a hE=>Ze (Zb (Yc (xs:=[]) (l:=([] : List (Vector UInt8 16))) (vs:=[]) hE hM Za ld rfl rfl Tryz.underlying36 Zv rfl (by decide) rfl fun u17 w a hM hE=>Zc hE rfl fun a hE=>Ze (wp_seq (Zb (Zd hE rfl fun a hE=>Yc (xs:=[.const (vI 1),.const (vI 1),.const (vI 2),.const (vI 2),.const (vI 0),.const (vI 9)]) (l:=([1,1,2,2,0,9] : List Int)) (vs:=[vI 1,vI 1,vI 2,vI 2,vI 0,vI 9]) hE hM Za ld rfl rfl Tryz.underlying44 ty2 rfl (by decide) rfl ?_))))); intro u19 w a hM hE
 have hM:=M.tailP (m:=[_,_]) hM.pull5
 obtain ⟨r21,e22,hF⟩:=bind_some hF
 refine Zo hE rfl yU (W7 _ _ _ _ b7 p0 v0_1 hv0_1 (r5.1,r5.2) ([1,1,2,2,0,9] : List Int) u19 hM r21 e22) ?_
 rintro v w a ⟨rfl,hM⟩ hE
 have hM:=M.tailU (m:=[_,_]) hM
 simp only [List.cons_append,List.nil_append] at hM
 refine Zc hE rfl fun a hE=>Ze ?_
 obtain ⟨j23,hl24,hF25⟩:=bind_some hF
 refine ZS (fun a w=>∃ (u26 : Value),Env 51 a [(2,(ptr b1 0)),(3,(ptr b3 0)),(8,(ptr b7 0)),(9,(ptr b11 0)),(10,(ptr b13 0)),(12,vI r9.2.2.2.1),(13,vI r9.2.2.2.2),(14,u26)] ∧ M (Old w0) w0 w [raw b7 (cat [[v0_1],[vI r21.1.1],[(Value.int .u64 r21.1.2)]]),raw b13 (enc r9.2.1),raw b11 (cat [[vI r9.1.Field],enc r9.1.Box,enc r9.1.Mix,enc r9.1.Places,[vI r9.1.Rounds]]),raw b3 (enc (Vector.replicate 16 (0 : UInt8))),raw b1 (cat [[vI 0],enc (Vector.replicate 256 (0 : UInt8)),enc (Vector.replicate 4 (Vector.replicate 4 (0 : UInt8))),enc (Vector.replicate 16 (0 : UInt8)),[vI 0]]),osl NoB (j23 : List (Vector UInt8 16)) u26]) ?_ ?_
 ·skip
  refine wp_block ?_
  have hM:=M.fst (l:=[_,_,_,_,_,_,_]) hM.pull2.pull7.pull7.pull7.pull7.pull7.pull6
  refine ZO (fun (s28 : (Vector UInt8 16) × (List (Vector UInt8 16)) × Int) a w=>∃ (u29 : Value),Env 51 a [(2,(ptr b1 0)),(3,(ptr b3 0)),(8,(ptr b7 0)),(9,(ptr b11 0)),(10,(ptr b13 0)),(11,(ptr b15 0)),(12,vI r9.2.2.2.1),(13,vI r9.2.2.2.2),(14,u29),(15,vI s28.2.2)] ∧ M (Old w0) w0 w [raw b7 (cat [[v0_1],[vI r21.1.1],[(Value.int .u64 r21.1.2)]]),raw b15 (enc s28.1),raw b13 (enc r9.2.1),raw b11 (cat [[vI r9.1.Field],enc r9.1.Box,enc r9.1.Mix,enc r9.1.Places,[vI r9.1.Rounds]]),raw b3 (enc (Vector.replicate 16 (0 : UInt8))),raw b1 (cat [[vI 0],enc (Vector.replicate 256 (0 : UInt8)),enc (Vector.replicate 4 (Vector.replicate 4 (0 : UInt8))),enc (Vector.replicate 16 (0 : UInt8)),[vI 0]]),osl NoB (s28.2.1 : List (Vector UInt8 16)) u29]) hl24 ⟨u17,hE.sub ⟨rfl,rfl,rfl,rfl,rfl,rfl,rfl,rfl,rfl,rfl,trivial⟩,hM⟩ ?_
  rintro s28 a w ⟨u29,hE,hM⟩ o33 hs31 hx32
  unfold Xy at hs31
  refine wp_seq (Zb (Zd hE rfl fun a hE=>Zl hE rfl rfl rfl fun a hE=>Ze ?_))
  refine Zr hE rfl ?_ ?_
  ·intro hb34
   have hs31:=Zu hs31 hb34
   refine wp_skip (Zz (wp_seq (wp_block (Zb (Zd hE rfl fun a hE=>Zk hE rfl Zv rfl hM.rawAt1 (Flat.len _) fun a hE=>Yc (xs:=[.tmp 35]) (l:=([s28.1] : List (Vector UInt8 16))) (vs:=[(Value.agg (enc s28.1).toArray)]) hE hM Za ld rfl rfl Tryz.underlying36 Zv rfl (by decide) rfl ?_))))); intro u35 w a hM hE
   obtain ⟨l37,e38,hs31⟩:=bind_some hs31
   obtain ⟨e41,rfl⟩:=U3 e38
   have hM:=hM.pull7
   refine Uo hE hM Za ld rfl rfl (hM.sl (pre:=[_]) noB) Tryz.underlying36 Zv rfl (by decide) e41 fun u39 w a hM hE=>Zc hE rfl fun a hE=>Ze (wp_region_lit (Zd hE rfl fun a hE=>Zl hE rfl rfl rfl ?_)); intro a hE
   obtain ⟨x43,hi42,hs31⟩:=bvx hs31
   refine Zw hE rfl rfl Tryz.underlying33 ty5 hi42.1 fun a hE=>ZR (v:=(vB x43)) hE rfl ty5 rfl (At.vec hM.rawAt3 hi42.2) fun a hE=>Zl hE rfl rfl (bB_add x43 1) ?_; intro a hE
   obtain ⟨x46,hi45,hs31⟩:=bvx hs31
   refine Zw hE rfl rfl Tryz.underlying33 ty5 hi45.1 ?_; intro a hE
   have hM:=hM.pull3
   refine Zg (seg:=[(vB (x43 + 1))]) (cs':=enc (s28.1.setIfInBounds ((wr (15 - s28.2.2))).toNat (x43 + 1))) hE hM Za rfl rfl rfl ty5 rfl (ZE (v:=s28.1) (x:=x43 + 1) hi45.1) (Flat.cell (x43 + 1 : UInt8)) (Zy (v:=s28.1) (x:=x43 + 1) hi45.1) fun w a hM hE=>Zh (Z9 (Zz (wp_region_lit (Zd hE rfl fun a hE=>Zl hE rfl rfl rfl fun a hE=>Zc hE rfl fun a hE=>Zh (Zi ?_)))))
   have hM:=M.fst (l:=[_,_,_,_,_,_,_]) hM.pull1.pull7.pull7.pull7.pull7.pull5.pull7
   exact ⟨_,(ois hs31),u39,hE.sub ⟨rfl,rfl,rfl,rfl,rfl,rfl,rfl,rfl,rfl,rfl,trivial⟩,hM⟩
  ·intro hb34
   have hs31:=Zt hs31 hb34
   refine wp_exit (Zq (Zq (Yi ?_)))
   obtain rfl:=hx32 _ (ois hs31)
   refine Zi ?_
   have hM:=M.fst (l:=[_,_,_,_,_,_]) hM.pull6.pull6.pull6.pull6.pull6.pull5
   exact ⟨u29,hE.sub ⟨rfl,rfl,rfl,rfl,rfl,rfl,rfl,rfl,trivial⟩,hM⟩
 ·skip
  rintro a w ⟨u26,hE,hM⟩
  refine Zz ?_
  obtain ⟨j49,hl50,hF51⟩:=bind_some hF25
  refine ZQ (fun a w=>∃ (u52 : Value),Env 51 a [(2,(ptr b1 0)),(3,(ptr b3 0)),(4,u52),(5,vI j49.2.2.2.2.2.2.2.1),(6,vI j49.2.2.2.2.2.2.2.2.1),(7,vI j49.2.2.2.2.2.2.2.2.2)] ∧ M (Old w0) w0 w [raw b3 (enc j49.2.2.2.2.2.1),raw b1 (cat [[vI j49.1],enc j49.2.1,enc j49.2.2.1,enc j49.2.2.2.1,[vI j49.2.2.2.2.1]]),osl NoB (j49.2.2.2.2.2.2.1 : List (Vector UInt8 16)) u52]) ?_ ?_
  ·skip
   have hM:=hM.pull4.pull4.pull2
   obtain ⟨r55,e56,hl50⟩:=bind_some hl50
   refine Wk (its:=[raw b13 (enc r9.2.1),raw b11 (cat [[vI r9.1.Field],enc r9.1.Box,enc r9.1.Mix,enc r9.1.Places,[vI r9.1.Rounds]]),osl NoB (j23 : List (Vector UInt8 16)) u26]) (mk:=([mkT 7 (raw b1 (cat [[vI 0],enc (Vector.replicate 256 (0 : UInt8)),enc (Vector.replicate 4 (Vector.replicate 4 (0 : UInt8))),enc (Vector.replicate 16 (0 : UInt8)),[vI 0]])) (raw b1 (cat [[vI r9.1.Field],enc r9.1.Box,enc r9.1.Mix,enc r9.1.Places,[vI r9.1.Rounds]])),mkT 8 (raw b3 (enc (Vector.replicate 16 (0 : UInt8)))) (raw b3 (enc r9.2.1)),([5],fun bs _=>(tog (bs.getD 0 false) (raw b7 (cat [[v0_1],[vI r21.1.1],[(Value.int .u64 r21.1.2)]])) (raw b7 (cat [[v0_1],[vI r55.1.1],[(Value.int .u64 r55.1.2)]]))))] : Mk)) [44,45,46,47,48,49,50,58,59,4,5,6] Xm rfl rfl (by decide) rfl hE (fun u=>M.qT (M.qT (M.qS (M.q0 hM.drew u) fun _=>rfl))) (qsP (v:=(Value.agg (enc r9.1).toArray)) ?_ (qsP (v:=(Value.agg (enc r9.2.1).toArray)) ?_ (qsP (fun z=>Zj z.E Za ld rfl (kr0 rfl)) (qsP (fun z=>Zj z.E Za ld rfl (kr0 rfl)) (qsP (fun z=>Zj z.E Za ld rfl (kr0 rfl)) (qsV (v:=(vI r55.2)) ?_ (qsP (fun z=>Zj z.E Za ld rfl (kr0 rfl)) (qsM (pr:=fun v=>True) ?_ (qsM (pr:=fun v=>True) ?_ (qsP (fun z=>U6 z.E Za ld rfl (kr0 rfl)) (qsP (fun z=>U6 z.E Za ld rfl (kr0 rfl)) (qsP (fun z=>U6 z.E Za ld rfl (kr0 rfl)) qs0)))))))))))) ?_
   ·intro a w ux54 D z
    have hE:=z.E
    have hD : D 0 = false:=z.F
    have hM:=(z.M.togA (pre:=[_,_,_]) (VH (j:=7) (k:=0) z.c rfl rfl rfl hD)).togA (pre:=[_,_,_,_]) (VH (j:=8) (k:=2) z.c rfl rfl rfl hD)
    exact Zk hE rfl ZT rfl hM.rawAt1 cq fun a hE=>⟨Kept.refl _ _,_,rfl,hE⟩
   ·intro a w ux54 D z
    have hE:=z.E
    have hD : D 1 = false:=z.F
    have hM:=z.M.togA (pre:=[_,_,_,_]) (VH (j:=8) (k:=0) z.c rfl rfl rfl hD)
    exact Zk hE rfl Zv rfl hM.rawAt0 (Flat.len _) fun a hE=>⟨Kept.refl _ _,_,rfl,hE⟩
   ·intro a w ux54 D z
    have hE:=z.E
    have hD : D 5 = false:=z.F
    have hM:=M.tailP (m:=[_]) ((z.M.togA (pre:=[_,_,_,_,_]) hD).pull5)
    refine Zo hE rfl Uu (ZG _ _ _ _ b7 p0 v0_1 hv0_1 (r21.1.1,r21.1.2) 17 hM r55 e56) ?_
    rintro v w a ⟨rfl,hM⟩ hE
    have hM:=M.tailU (m:=[_]) hM
    simp only [List.cons_append,List.nil_append] at hM
    exact ⟨_,rfl,hE,M.qTogS (p:=([5],fun bs _=>(tog (bs.getD 0 false) (raw b7 (cat [[v0_1],[vI r21.1.1],[(Value.int .u64 r21.1.2)]])) (raw b7 (cat [[v0_1],[vI r55.1.1],[(Value.int .u64 r55.1.2)]]))))) (mk1:=[_,_]) (mk2:=[]) hM rfl (by show tog (YW D 5 5) (raw b7 (cat [[v0_1],[vI r21.1.1],[(Value.int .u64 r21.1.2)]])) (raw b7 (cat [[v0_1],[vI r55.1.1],[(Value.int .u64 r55.1.2)]])) = _; rw [tg1 JH])⟩
   ·intro a w ux54 D z
    have hE:=z.E
    have hD : D 7 = false:=z.F
    have hM:=(z.M.togA (pre:=[_,_,_]) hD).pull3
    exact Zg (seg:=cat [[vI r9.1.Field],enc r9.1.Box,enc r9.1.Mix,enc r9.1.Places,[vI r9.1.Rounds]]) (cs':=cat [[vI r9.1.Field],enc r9.1.Box,enc r9.1.Mix,enc r9.1.Places,[vI r9.1.Rounds]]) hE hM Za rfl rfl rfl ZT cq (Nat.le_of_eq ((Nat.zero_add _).trans (Eq.trans cq (Eq.symm cq)))) (Yf (cc1 (Flat.cell (r9.1.Field : Int)) (cc1 (Flat.cell _) (cc1 (Flat.cell _) (cc1 (Flat.cell _) (cc1 (Flat.cell (r9.1.Rounds : Int)) cc0)))))) (Zf (Eq.trans cq (Eq.symm cq))) fun w a hM hE=>⟨undef,_,rfl,Env.dummy hE (by decide),M.qTog (mk1:=[]) (mk2:=[_,_]) hM rfl,trivial⟩
   ·intro a w ux54 D z
    have hE:=z.E
    have hD : D 8 = false:=z.F
    have hM:=(z.M.togA (pre:=[_,_,_,_]) hD).pull4
    exact Zg (seg:=enc r9.2.1) (cs':=enc r9.2.1) hE hM Za rfl rfl rfl Zv (Flat.len _) (zle flq) (Flat.cell _) (Zf flq) fun w a hM hE=>⟨undef,_,rfl,Env.dummy hE (by decide),M.qTog (mk1:=[_]) (mk2:=[_]) hM rfl,trivial⟩
   ·intro a w ux54 D hE hM hG hall
    have d5:=hall 5 (by decide)
    have d7:=hall 7 (by decide)
    have d8:=hall 8 (by decide)
    have hM:=((hM.togB (pre:=[_,_,_]) d7).togB (pre:=[_,_,_,_]) d8).togB (pre:=[_,_,_,_,_]) d5
    refine Zc hE rfl fun a hE=>Zh ?_
    obtain rfl:=Option.some.inj hl50
    refine Zi ?_
    have hM:=M.fst (l:=[_,_,_]) hM.pull2.pull3.pull4
    exact ⟨u26,hE.sub ⟨rfl,rfl,rfl,rfl,rfl,rfl,trivial⟩,hM⟩
  ·skip
   rintro a w ⟨u52,hE,hM⟩
   obtain rfl:=Option.some.inj hF51
   have hq58 : ZX Tryz.prog _ _ (.cell 2 32) _:=ZN hE rfl ZT rfl hM.rawAt1 cq rfl
   have hq59 : ZX Tryz.prog _ _ (.cell 3 33) _:=ZN hE rfl Zv rfl hM.rawAt0 (Flat.len _) rfl
   have hM:=M.fst (l:=[_]) hM.pull2
   exact wp_ret (k_ret6 hE rfl hq58 hq59 (ZF hE rfl) (ZF hE rfl) (ZF hE rfl) (ZF hE rfl) ⟨_,rfl,u52,rfl,hM.outF (WU WD),hM.kept⟩)
def X1 (p0 : (List Int)) (p1 : Int → Option (Bool)) (s5 : Int) : Option (Fl Int (Fl Unit Int)) :=
 if (decide (s5 < (p0.length : Int))) = true then ((idx p0 s5).bind fun x10=>((p1 x10)).bind fun r13=>if r13 = true then (some (Fl.ex (Fl.ex s5))) else (some (Fl.nx (wr (s5 + 1))))) else (some (Fl.ex (Fl.nx ())))
def Yh (p0 : (List Int)) (p1 : Int → Option (Bool)) : Option (Int) :=
 (ZK (X1 p0 p1) 0).bind fun j1=>j1.el (fun s4=>some (-1)) (fun r=>some r)
theorem VV (w0 : World) (p0 : (List Int)) (v0_1 : Value) (hv0_1 : Ro w0 p0 [v0_1]) (p1 : Int → Option (Bool)) (k1 : Nat) (q1 : List Value) (hcb1 : Callable Tryz.prog k1) (hg1 : ∀ (w2 : World),Kept (Old w0) w0 w2 → ∀ (z0 : Int) (zr : Bool),p1 z0 = some zr → Calls Tryz.prog k1 ([vI z0] ++ q1).toArray w2 (fun en w3=>∃ v,en = .returned v ∧ (v = (vT zr) ∧ Kept (Old w2) w2 w3))) (r : Int) (hF : Yh p0 p1 = some r) :
  Calls Tryz.prog 75 [v0_1,(Value.func (.func k1) #[] q1.toArray)].toArray w0 (Rt w0 (vI r)):=by
 refine ce Tryz.func75 ?_
 intro a hE
 have hM:=M.start w0
 unfold Yh at hF
 refine Zb (Zc hE rfl fun a hE=>Ze (wp_seq (Zb (Zd hE rfl fun a hE=>Wm hE rfl Tryz.underlying44 (hM.rd hv0_1) fun a hE=>Zd hE rfl fun a hE=>Ze ?_))))
 obtain ⟨j1,hl2,hF3⟩:=bind_some hF
 refine ZS (fun a w=>∃ s4 : Unit,j1 = Fl.nx s4 ∧ Env 19 a [] ∧ M (Old w0) w0 w []) ?_ ?_
 ·skip
  refine wp_block ?_
  refine ZO (fun (s5 : Int) a w=>Env 19 a [(0,v0_1),(1,(Value.func (.func k1) #[] q1.toArray)),(7,(vI (p0.length : Int))),(8,vI s5)] ∧ M (Old w0) w0 w []) hl2 ⟨hE.sub ⟨rfl,rfl,rfl,rfl,trivial⟩,hM⟩ ?_
  rintro s5 a w ⟨hE,hM⟩ o8 hs6 hx7
  unfold X1 at hs6
  refine Zb (Zl hE rfl rfl rfl fun a hE=>Ze (wp_seq ?_))
  refine Zr hE rfl ?_ ?_
  ·intro hb9
   have hs6:=Zu hs6 hb9
   refine wp_skip (Zz (wp_seq (wp_block (Zb (Zd hE rfl fun a hE=>Zc hE rfl fun a hE=>Ze (Zb (Zd hE rfl fun a hE=>Zd hE rfl fun a hE=>Zd hE rfl ?_))))))); intro a hE
   obtain ⟨x10,hi12,hs6⟩:=bix hs6
   refine XM hE rfl rfl Tryz.underlying44 ty2 (hM.rd hv0_1) hi12.1 fun a hE=>ZR (v:=(vI x10)) hE rfl ty2 rfl (Y1 (hM.rd hv0_1) hi12.2) ?_; intro a hE
   obtain ⟨r13,e14,hs6⟩:=bind_some hs6
   refine z3 (vs:=[vI x10]) hE Za ld rfl rfl hcb1 (hg1 _ hM.kept x10 r13 e14) ?_
   rintro v w a ⟨rfl,hK⟩ hE
   have hM:=hM.keep hK
   refine Ze ?_
   refine Zr hE rfl ?_ ?_
   ·intro hb15
    have hs6:=Zu hs6 hb15
    refine Zb (Zd hE rfl fun a hE=>Zc hE rfl fun a hE=>Ze ?_)
    obtain rfl:=hx7 _ (ois hs6)
    obtain rfl:=Option.some.inj hF3
    exact wp_ret (Y8 (ZI (ZI (Y8 (ZI (ZI (kr1 hE rfl rfl hM.kept)))))))
   ·intro hb15
    have hs6:=Zt hs6 hb15
    refine wp_skip (Z9 (Zz (wp_region_lit (Zl hE rfl rfl rfl fun a hE=>Zd hE rfl fun a hE=>Zh (Zi ?_)))))
    exact ⟨_,(ois hs6),hE.sub ⟨rfl,rfl,rfl,rfl,trivial⟩,hM⟩
  ·intro hb9
   have hs6:=Zt hs6 hb9
   refine wp_exit (Zq (Zq (Yi ?_)))
   obtain rfl:=hx7 _ (ois hs6)
   refine Zi ?_
   exact ⟨(),rfl,hE.sub trivial,hM⟩
 ·skip
  rintro a w ⟨s4,ht,hE,hM⟩
  subst ht
  have hF3:=Qi hF3
  refine Zz (Zb (Zc hE rfl fun a hE=>Ze ?_))
  obtain rfl:=Option.some.inj hF3
  exact wp_ret (kr1 hE rfl rfl hM.kept)
def Ya (p1 : Int → Option (Bool)) (s9 : (List Int) × Int × Int) : Option (Fl ((List Int) × Int × Int) ((List Int) × Int)) :=
 if (decide (s9.2.2 < (s9.1.length : Int))) = true then (((idx s9.1 s9.2.2).bind fun x21=>((p1 x21)).bind fun r24=>(if (!r24) = true then ((idx s9.1 s9.2.1).bind fun x32=>some ((s9.1.set (s9.2.1).toNat x21),wr (s9.2.1 + 1))) else (some (s9.1,s9.2.1)) : Option ((List Int) × Int)).bind fun j26=>some (j26.1,j26.2) : Option ((List Int) × Int)).bind fun j16=>some (Fl.nx (j16.1,j16.2,wr (s9.2.2 + 1)))) else (some (Fl.ex (s9.1,s9.2.1)))
def Yv (p0 : (List Int)) (p1 : Int → Option (Bool)) : Option ((List Int)) :=
 (Yh p0 p1).bind fun r1=>if (r1 == (-1)) = true then (some p0) else ((ZK (Ya p1) (p0,r1,wr (r1 + 1))).bind fun j4=>(slc j4.1 j4.2 (j4.1.length : Int)).bind fun l39=>(clr j4.1 j4.2 (0 : Int)).bind fun c41=>(slc c41 (0 : Int) j4.2).bind fun l43=>some l43)
theorem TI (St : Nat → Prop) (W w0 : World) (its : List Item) (p0 : (List Int)) (v0_1 : Value) (p1 : Int → Option (Bool)) (k1 : Nat) (q1 : List Value) (hcb1 : Callable Tryz.prog k1) (hg1 : ∀ (w2 : World),(∃ (x0 : List Int) (y0 : Value),M St W w2 (osl NoB x0 y0 :: its)) → ∀ (z0 : Int) (zr : Bool),p1 z0 = some zr → Calls Tryz.prog k1 ([vI z0] ++ q1).toArray w2 (fun en w3=>∃ v,en = .returned v ∧ (v = (vT zr) ∧ Kept (Old w2) w2 w3))) (hM : M St W w0 (osl NoB (p0 : List Int) v0_1 :: its)) (r : (List Int)) (hF : Yv p0 p1 = some r) :
  Calls Tryz.prog 50 [v0_1,(Value.func (.func k1) #[] q1.toArray)].toArray w0 (fun en w'=>∃ v,en = .returned v ∧ (∃ (y1 : Value),v = y1 ∧ M St W w' (osl NoB (r : List Int) y1 :: its))):=by
 refine ce Tryz.func50 ?_
 intro a hE
 unfold Yv at hF
 refine Zb (Zc hE rfl fun a hE=>Ze (Zb (Zd hE rfl fun a hE=>Zd hE rfl ?_))); intro a hE
 obtain ⟨r1,e2,hF⟩:=bind_some hF
 refine Zo hE rfl (cbm Tryz.func75) (VV _ p0 v0_1 (hM.sl (pre:=[]) noB) p1 k1 q1 hcb1 (fun w2 hk2=>hg1 w2 ⟨_,_,hM.keep hk2⟩) r1 e2) ?_
 rintro v w a ⟨rfl,hK⟩ hE
 have hM:=hM.keep hK
 refine Zc hE rfl fun a hE=>Ze (wp_seq (Zb (Zd hE rfl fun a hE=>Zl hE rfl rfl rfl fun a hE=>Ze ?_)))
 refine Zr hE rfl ?_ ?_
 ·intro hb3
  have hF:=Zu hF hb3
  refine Zb (Zd hE rfl fun a hE=>Zc hE rfl fun a hE=>Ze ?_)
  obtain rfl:=Option.some.inj hF
  exact wp_ret (ZI (Z2 hE rfl (ZF hE rfl) ⟨_,rfl,v0_1,rfl,hM⟩))
 ·intro hb3
  have hF:=Zt hF hb3
  refine wp_skip (Zz (wp_seq (Zb (Zd hE rfl fun a hE=>Zl hE rfl rfl rfl fun a hE=>Zc hE rfl fun a hE=>Ze ?_))))
  obtain ⟨j4,hl5,hF6⟩:=bind_some hF
  refine ZS (fun a w=>∃ (u7 : Value),Env 42 a [(0,u7),(5,vI j4.2)] ∧ M St W w (osl NoB (j4.1 : List Int) u7 :: its)) ?_ ?_
  ·skip
   refine wp_block ?_
   refine ZO (fun (s9 : (List Int) × Int × Int) a w=>∃ (u10 : Value),Env 42 a [(0,u10),(1,(Value.func (.func k1) #[] q1.toArray)),(5,vI s9.2.1),(6,vI s9.2.2)] ∧ M St W w (osl NoB (s9.1 : List Int) u10 :: its)) hl5 ⟨v0_1,hE.sub ⟨rfl,rfl,rfl,rfl,trivial⟩,hM⟩ ?_
   rintro s9 a w ⟨u10,hE,hM⟩ o14 hs12 hx13
   unfold Ya at hs12
   refine wp_seq (Zb (Zd hE rfl fun a hE=>Zd hE rfl fun a hE=>Wm hE rfl Tryz.underlying44 (hM.sl (pre:=[]) noB) fun a hE=>Zl hE rfl rfl rfl fun a hE=>Ze ?_))
   refine Zr hE rfl ?_ ?_
   ·intro hb15
    have hs12:=Zu hs12 hb15
    refine wp_skip (Zz ?_)
    obtain ⟨j16,hl17,hF18⟩:=bind_some hs12
    refine ZQ (fun a w=>∃ (u19 : Value),Env 42 a [(0,u19),(1,(Value.func (.func k1) #[] q1.toArray)),(5,vI j16.2),(6,vI s9.2.2)] ∧ M St W w (osl NoB (j16.1 : List Int) u19 :: its)) ?_ ?_
    ·skip
     refine wp_block (Zb (Zd hE rfl fun a hE=>Zd hE rfl ?_)); intro a hE
     obtain ⟨x21,hi23,hl17⟩:=bix hl17
     refine XM hE rfl rfl Tryz.underlying44 ty2 (hM.sl (pre:=[]) noB) hi23.1 fun a hE=>ZR (v:=(vI x21)) hE rfl ty2 rfl (Y1 (hM.sl (pre:=[]) noB) hi23.2) fun a hE=>Zc hE rfl fun a hE=>Ze (Zb (Zd hE rfl fun a hE=>Zd hE rfl ?_)); intro a hE
     obtain ⟨r24,e25,hl17⟩:=bind_some hl17
     refine z3 (vs:=[vI x21]) hE Za ld rfl rfl hcb1 (hg1 _ ⟨_,_,hM⟩ x21 r24 e25) ?_
     rintro v w a ⟨rfl,hK⟩ hE
     have hM:=hM.keep hK
     refine TH hE rfl fun a hE=>Ze ?_
     obtain ⟨j26,hl27,hF28⟩:=bind_some hl17
     refine ZS (fun a w=>∃ (u29 : Value),Env 42 a [(0,u29),(1,(Value.func (.func k1) #[] q1.toArray)),(5,vI j26.2),(6,vI s9.2.2)] ∧ M St W w (osl NoB (j26.1 : List Int) u29 :: its)) ?_ ?_
     ·skip
      refine Zr hE rfl ?_ ?_
      ·intro hb31
       have hl27:=Zu hl27 hb31
       refine Zb (Zd hE rfl fun a hE=>Zd hE rfl fun a hE=>Zd hE rfl ?_); intro a hE
       obtain ⟨x32,hi34,hl27⟩:=bix hl27
       refine XM hE rfl rfl Tryz.underlying44 ty2 (hM.sl (pre:=[]) noB) hi34.1 fun a hE=>qh (i:=(s9.2.1).toNat) (k0:=0) (seg:=[vI x21]) (xo:=x32) (xn:=x21) hE hM Za rfl rfl rfl ty2 rfl (Flat.cell (x21 : Int)) hi34.2 (Zas (m:=1) rfl (by decide)) (Zf rfl) fun w a hM hE=>Ze (wp_region_lit (Zd hE rfl fun a hE=>Zl hE rfl rfl rfl fun a hE=>Zc hE rfl fun a hE=>Zh ?_))
       obtain rfl:=Option.some.inj hl27
       refine Zi ?_
       exact ⟨u10,hE.sub ⟨rfl,rfl,rfl,rfl,trivial⟩,hM⟩
      ·intro hb31
       have hl27:=Zt hl27 hb31
       refine wp_skip ?_
       obtain rfl:=Option.some.inj hl27
       refine Zi ?_
       exact ⟨u10,hE.sub ⟨rfl,rfl,rfl,rfl,trivial⟩,hM⟩
     ·skip
      rintro a w ⟨u29,hE,hM⟩
      refine Z9 ?_
      obtain rfl:=Option.some.inj hF28
      refine Zi ?_
      exact ⟨u29,hE.sub ⟨rfl,rfl,rfl,rfl,trivial⟩,hM⟩
    ·skip
     rintro a w ⟨u19,hE,hM⟩
     refine wp_region_lit (Zd hE rfl fun a hE=>Zl hE rfl rfl rfl fun a hE=>Zc hE rfl fun a hE=>Zh (Zi ?_))
     exact ⟨_,(ois hF18),u19,hE.sub ⟨rfl,rfl,rfl,rfl,trivial⟩,hM⟩
   ·intro hb15
    have hs12:=Zt hs12 hb15
    refine wp_exit (Zq (Zq (Yi ?_)))
    obtain rfl:=hx13 _ (ois hs12)
    refine Zi ?_
    exact ⟨u10,hE.sub ⟨rfl,rfl,trivial⟩,hM⟩
  ·skip
   rintro a w ⟨u7,hE,hM⟩
   refine Zz (Zb (Zd hE rfl fun a hE=>Zd hE rfl ?_)); intro a hE
   obtain ⟨l39,e40,hF6⟩:=bind_some hF6
   refine By hE Za ld rfl rfl rfl rfl rfl Tryz.underlying44 ty2 (hM.sl (pre:=[]) noB) e40 ?_; intro a hE
   obtain ⟨c41,e42,hF6⟩:=bind_some hF6
   refine qd (zero:=(0 : Int)) (i:=j4.2) hE hM Za rfl Tryz.underlying44 (zv_of (by kernel_rfl)) rfl rfl rfl rfl e42 fun w a hM hE=>Ze (Zb (Zd hE rfl fun a hE=>Zd hE rfl ?_)); intro a hE
   obtain ⟨l43,e44,hF6⟩:=bind_some hF6
   refine By hE Za ld rfl rfl rfl rfl rfl Tryz.underlying44 ty2 (hM.sl (pre:=[]) noB) e44 ?_; intro a hE
   have hM:=hM.cut noB e44
   refine Zc hE rfl fun a hE=>Ze ?_
   obtain rfl:=Option.some.inj hF6
   exact wp_ret (Z2 hE rfl (ZF hE rfl) ⟨_,rfl,(Vh u7 ((0 : Int)).toNat (j4.2).toNat 1),rfl,hM⟩)
def Yp (p0 : List Int) (p1 : Int → Option Bool) : Option Unit:=(Yh p0 p1).bind fun (r1 : Int)=>if (r1 == (-1)) = true then some () else none
theorem Tr (w0 : World) (p0 : (List Int)) (v0_1 : Value) (hv0_1 : Ro w0 p0 [v0_1]) (p1 : Int → Option (Bool)) (k1 : Nat) (q1 : List Value) (hcb1 : Callable Tryz.prog k1) (hg1 : ∀ (w2 : World),Kept (Old w0) w0 w2 → ∀ (z0 : Int) (zr : Bool),p1 z0 = some zr → Calls Tryz.prog k1 ([vI z0] ++ q1).toArray w2 (fun en w3=>∃ v,en = .returned v ∧ (v = (vT zr) ∧ Kept (Old w2) w2 w3))) (r : Unit) (hF : Yp p0 p1 = some r) :
  Calls Tryz.prog 50 [v0_1,(Value.func (.func k1) #[] q1.toArray)].toArray w0 (Rt w0 v0_1):=by
 refine ce Tryz.func50 ?_
 intro a hE
 have hM:=M.start w0
 unfold Yp at hF
 refine Zb (Zc hE rfl fun a hE=>Ze (Zb (Zd hE rfl fun a hE=>Zd hE rfl ?_))); intro a hE
 obtain ⟨r1,e2,hF⟩:=bind_some hF
 refine Zo hE rfl (cbm Tryz.func75) (VV _ p0 v0_1 (hM.rdo hv0_1) p1 k1 q1 hcb1 (fun w2 hk2=>hg1 w2 (hM.kept.trans hk2)) r1 e2) ?_
 rintro v w a ⟨rfl,hK⟩ hE
 have hM:=hM.keep hK
 refine Zc hE rfl fun a hE=>Ze (wp_seq (Zb (Zd hE rfl fun a hE=>Zl hE rfl rfl rfl fun a hE=>Ze ?_)))
 refine Zr hE rfl ?_ ?_
 ·intro hb3
  have hF:=Zu hF hb3
  refine Zb (Zd hE rfl fun a hE=>Zc hE rfl fun a hE=>Ze ?_)
  exact wp_ret (ZI (kr1 hE rfl rfl hM.kept))
 ·intro hb3
  have hF:=Zt hF hb3
  cases hF
def Xz (p0 : (List Int)) (p1 : Int) (s5 : Int) : Option (Fl Int (Fl Unit Int)) :=
 if (decide (s5 < (p0.length : Int))) = true then ((idx p0 s5).bind fun x10=>if (p1 == x10) = true then (some (Fl.ex (Fl.ex s5))) else (some (Fl.nx (wr (s5 + 1))))) else (some (Fl.ex (Fl.nx ())))
def XO (p0 : (List Int)) (p1 : Int) : Option (Int) :=
 (ZK (Xz p0 p1) 0).bind fun j1=>j1.el (fun s4=>some (-1)) (fun r=>some r)
theorem QB (w0 : World) (p0 : (List Int)) (v0_1 : Value) (hv0_1 : Ro w0 p0 [v0_1]) (p1 : Int) (r : Int) (hF : XO p0 p1 = some r) :
  Calls Tryz.prog 76 [v0_1,vI p1].toArray w0 (Rt w0 (vI r)):=by
 refine ce Tryz.func76 ?_
 intro a hE
 have hM:=M.start w0
 unfold XO at hF
 refine Zb (Zc hE rfl fun a hE=>Ze (wp_seq (Zb (Zd hE rfl fun a hE=>Wm hE rfl Tryz.underlying44 (hM.rd hv0_1) fun a hE=>Zd hE rfl fun a hE=>Ze ?_))))
 obtain ⟨j1,hl2,hF3⟩:=bind_some hF
 refine ZS (fun a w=>∃ s4 : Unit,j1 = Fl.nx s4 ∧ Env 19 a [] ∧ M (Old w0) w0 w []) ?_ ?_
 ·skip
  refine wp_block ?_
  refine ZO (fun (s5 : Int) a w=>Env 19 a [(0,v0_1),(1,vI p1),(7,(vI (p0.length : Int))),(8,vI s5)] ∧ M (Old w0) w0 w []) hl2 ⟨hE.sub ⟨rfl,rfl,rfl,rfl,trivial⟩,hM⟩ ?_
  rintro s5 a w ⟨hE,hM⟩ o8 hs6 hx7
  unfold Xz at hs6
  refine Zb (Zl hE rfl rfl rfl fun a hE=>Ze (wp_seq ?_))
  refine Zr hE rfl ?_ ?_
  ·intro hb9
   have hs6:=Zu hs6 hb9
   refine wp_skip (Zz (wp_seq (wp_block (Zb (Zd hE rfl fun a hE=>Zc hE rfl fun a hE=>Ze (Zb (Zd hE rfl fun a hE=>Zd hE rfl fun a hE=>Zd hE rfl ?_))))))); intro a hE
   obtain ⟨x10,hi12,hs6⟩:=bix hs6
   refine XM hE rfl rfl Tryz.underlying44 ty2 (hM.rd hv0_1) hi12.1 fun a hE=>ZR (v:=(vI x10)) hE rfl ty2 rfl (Y1 (hM.rd hv0_1) hi12.2) fun a hE=>Zl hE rfl rfl rfl fun a hE=>Ze ?_
   refine Zr hE rfl ?_ ?_
   ·intro hb13
    have hs6:=Zu hs6 hb13
    refine Zb (Zd hE rfl fun a hE=>Zc hE rfl fun a hE=>Ze ?_)
    obtain rfl:=hx7 _ (ois hs6)
    obtain rfl:=Option.some.inj hF3
    exact wp_ret (Y8 (ZI (ZI (Y8 (ZI (ZI (kr1 hE rfl rfl hM.kept)))))))
   ·intro hb13
    have hs6:=Zt hs6 hb13
    refine wp_skip (Z9 (Zz (wp_region_lit (Zl hE rfl rfl rfl fun a hE=>Zd hE rfl fun a hE=>Zh (Zi ?_)))))
    exact ⟨_,(ois hs6),hE.sub ⟨rfl,rfl,rfl,rfl,trivial⟩,hM⟩
  ·intro hb9
   have hs6:=Zt hs6 hb9
   refine wp_exit (Zq (Zq (Yi ?_)))
   obtain rfl:=hx7 _ (ois hs6)
   refine Zi ?_
   exact ⟨(),rfl,hE.sub trivial,hM⟩
 ·skip
  rintro a w ⟨s4,ht,hE,hM⟩
  subst ht
  have hF3:=Qi hF3
  refine Zz (Zb (Zc hE rfl fun a hE=>Ze ?_))
  obtain rfl:=Option.some.inj hF3
  exact wp_ret (kr1 hE rfl rfl hM.kept)
def YG (p0 : (List Int)) (p1 : Int) : Option (Bool) :=
 (XO p0 p1).bind fun r1=>some (decide (r1 ≥ 0))
theorem T1 (w0 : World) (p0 : (List Int)) (v0_1 : Value) (hv0_1 : Ro w0 p0 [v0_1]) (p1 : Int) (r : Bool) (hF : YG p0 p1 = some r) :
  Calls Tryz.prog 52 [v0_1,vI p1].toArray w0 (Rt w0 (vT r)):=by
 refine ce Tryz.func52 ?_
 intro a hE
 have hM:=M.start w0
 unfold YG at hF
 refine Zb (Zc hE rfl fun a hE=>Ze (Zb (Zd hE rfl fun a hE=>Zd hE rfl ?_))); intro a hE
 obtain ⟨r1,e2,hF⟩:=bind_some hF
 refine Zo hE rfl (cbm Tryz.func76) (QB _ p0 v0_1 (hM.rdo hv0_1) p1 r1 e2) ?_
 rintro v w a ⟨rfl,hK⟩ hE
 have hM:=hM.keep hK
 refine Zl hE rfl rfl rfl fun a hE=>Zc hE rfl fun a hE=>Ze ?_
 obtain rfl:=Option.some.inj hF
 exact wp_ret (kr1 hE rfl rfl hM.kept)
def Z1 (p0 : Int) (p1 : (List Int)) : Option (Bool) :=
 (YG p1 p0).bind fun r1=>some (!r1)
theorem U9 (w0 : World) (p0 : Int) (pb1 : Nat) (p1 : (List Int)) (v1_2 : Value) (hv1_2 : Ro w0 p1 [v1_2]) (hA1 : At w0 pb1 0 ([v1_2])) (hB1 : Old w0 pb1) (r : Bool) (hF : Z1 p0 p1 = some r) :
  Calls Tryz.prog 51 [vI p0,(ptr pb1 0)].toArray w0 (Rt w0 (vT r)):=by
 refine ce Tryz.func51 ?_
 intro a hE
 have hM:=M.start w0
 unfold Z1 at hF
 refine Zb (Zc hE rfl fun a hE=>Ze (Zb (ZR (v:=v1_2) hE rfl ty44 rfl (hM.atk hA1 hB1) fun a hE=>Zd hE rfl ?_))); intro a hE
 obtain ⟨r1,e2,hF⟩:=bind_some hF
 refine Zo hE rfl (cbm Tryz.func52) (T1 _ p1 v1_2 (hM.rdo hv1_2) p0 r1 e2) ?_
 rintro v w a ⟨rfl,hK⟩ hE
 have hM:=hM.keep hK
 refine TH hE rfl fun a hE=>Zc hE rfl fun a hE=>Ze ?_
 obtain rfl:=Option.some.inj hF
 exact wp_ret (kr1 hE rfl rfl hM.kept)
def YV (p2 : (List (Vector UInt8 16))) (p3 : Int) (p4 : Int) (r25 : (Ref Gengine)) (r28 : (List (Vector UInt8 16))) (s38 : (List Int) × Int) : Option (Fl ((List Int) × Int) (List Int)) :=
 if (decide (s38.2 < (p2.length : Int))) = true then (((idx p2 s38.2).bind fun x50=>(XI r25 r28 x50 p3).bind fun r55=>(Yx r25 r55 p4).bind fun r58=>if (s38.2 == 0) = true then ((Yp r58 (fun z0=>Z1 z0 r58)).bind fun r64=>some r58) else ((Yv s38.1 (fun z0=>Z1 z0 r58)).bind fun r67=>some r67) : Option ((List Int))).bind fun j45=>some (Fl.nx (j45,wr (s38.2 + 1)))) else (some (Fl.ex s38.1))
def YK (p0 : GCipher) (p1 : (Vector UInt8 16)) (p2 : (List (Vector UInt8 16))) (p3 : Int) (p4 : Int) (p5 : Int) : Option ((List Int) × Int) :=
 (XX p0 p3 p5).bind fun r5=>if (r5 != 0) = true then (some ([],r5)) else (((Xl p2).bind fun r12=>(Y2 r12 1 8).bind fun r14=>if (!r14) = true then (some true) else ((Wq p4).bind fun r18=>if (!r18) = true then (some true) else (some (decide (p5 < 1)))) : Option (Bool)).bind fun j9=>if j9 = true then (some ([],2)) else ((Xt p0).bind fun r25=>(Y6 r25 p1 p5).bind fun r28=>(ZK (YV p2 p3 p4 r25 r28) (([] : List Int),0)).bind fun j33=>some (j33,0)))
theorem Tz (w0 : World) (p0 : GCipher) (p1 : (Vector UInt8 16)) (p2 : (List (Vector UInt8 16))) (v2_1 : Value) (hv2_1 : Ro w0 p2 [v2_1]) (p3 : Int) (p4 : Int) (p5 : Int) (r : (List Int) × Int) (hF : YK p0 p1 p2 p3 p4 p5 = some r) :
  Calls Tryz.prog 17 [(Value.agg (enc p0).toArray),(Value.agg (enc p1).toArray),v2_1,vI p3,vI p4,vI p5].toArray w0 (fun en w'=>∃ v,en = .returned v ∧ (∃ (y1 : Value),v = (Value.tuple [y1,vI r.2].toArray) ∧ Fr w0 w' [osl NoB (r.1 : List Int) y1] ∧ Kept (Old w0) w0 w')):=by
 refine ce Tryz.func17 ?_
 intro a hE
 have hM:=M.start w0
 unfold YK at hF
 refine Zb (ZY (cs:=cat [[vI p0.Field],enc p0.Box,enc p0.Mix,enc p0.Places,[vI p0.Rounds]]) hE hM Za ld rfl rfl fun b1 w a hM hE=>ZY (cs:=enc p1) hE hM Za ld rfl rfl fun b3 w a hM hE=>Zc hE rfl fun a hE=>Zc hE rfl fun a hE=>Ze (wp_seq (Zb (Zk hE rfl ZT rfl hM.rawAt1 cq fun a hE=>Zd hE rfl fun a hE=>Zd hE rfl ?_)))); intro a hE
 obtain ⟨r5,e6,hF⟩:=bind_some hF
 refine Zo hE rfl cb29 (Tb _ p0 p3 p5 r5 e6) ?_
 rintro v w a ⟨rfl,hK⟩ hE
 have hM:=hM.keep hK
 refine Zc hE rfl fun a hE=>Ze (wp_block (Zb (Zd hE rfl fun a hE=>Zl hE rfl rfl rfl fun a hE=>Zc hE rfl fun a hE=>Ze ?_)))
 refine Zr hE rfl ?_ ?_
 ·intro hb7
  have hF:=Zu hF hb7
  refine Zb (Zd hE rfl fun a hE=>Zc hE rfl fun a hE=>Zc hE rfl fun a hE=>Ze ?_)
  have hM:=M.nilS (α:=Int) NoB noB hM
  obtain rfl:=Option.some.inj hF
  have hM:=M.fst (l:=[_]) hM
  exact wp_ret (Y8 (ZI (Xk hE rfl (ZF hE rfl) (ZF hE rfl) ⟨_,rfl,(Value.slice none 0 0),rfl,hM.outF (WU WD),hM.kept⟩)))
 ·intro hb7
  have hF:=Zt hF hb7
  obtain ⟨j9,hl10,hF11⟩:=bind_some hF
  refine ZQ (fun a w=>Env 73 a [(2,v2_1),(3,vI p3),(4,vI p4),(5,vI p5),(6,(ptr b1 0)),(7,(ptr b3 0)),(29,vT j9)] ∧ M (Old w0) w0 w [raw b3 (enc p1),raw b1 (cat [[vI p0.Field],enc p0.Box,enc p0.Mix,enc p0.Places,[vI p0.Rounds]])]) ?_ ?_
  ·skip
   refine wp_region_lit (Zd hE rfl ?_); intro a hE
   obtain ⟨r12,e13,hl10⟩:=bind_some hl10
   refine Zo hE rfl (cbm Tryz.func39) (U2 _ p2 v2_1 (hM.rdo hv2_1) r12 e13) ?_
   rintro v w a ⟨rfl,hK⟩ hE
   have hM:=hM.keep hK
   obtain ⟨r14,e15,hl10⟩:=bind_some hl10
   refine Zo hE rfl yL (W5 _ r12 1 8 r14 e15) ?_
   rintro v w a ⟨rfl,hK⟩ hE
   have hM:=hM.keep hK
   refine TH hE rfl fun a hE=>Zd hE rfl ?_; intro a hE
   refine YF (!r14) (fun hb16=>?_) (fun hb16=>?_)
   ·have hl10:=Zu hl10 hb16
    refine Zp hE rfl (lkb rfl hb16) rfl (by decide) fun a hE=>Zp hE rfl (lkb rfl hb16) rfl (by decide) fun a hE=>Zp hE rfl (lkb rfl hb16) rfl (by decide) fun a hE=>ZW hE (lkb rfl hb16) rfl fun a hE=>Zd hE rfl fun a hE=>Zp hE rfl rfl rfl (by decide) fun a hE=>Zp hE rfl rfl rfl (by decide) fun a hE=>ZW hE rfl rfl fun a hE=>Zc hE rfl fun a hE=>Zh ?_
    obtain rfl:=Option.some.inj hl10
    refine Zi ?_
    exact ⟨hE.sub ⟨rfl,rfl,rfl,rfl,rfl,rfl,rfl,trivial⟩,hM⟩
   ·have hl10:=Zt hl10 hb16
    refine Zj hE (Zm hE rfl (lkb rfl hb16)) (by decide) rfl ?_; intro a hE
    obtain ⟨r18,e19,hl10⟩:=bind_some hl10
    refine YD hE (Zm hE rfl (lkb rfl hb16)) (by decide) rfl cb40 (QH _ p4 r18 e19) ?_
    rintro v w a ⟨rfl,hK⟩ hE
    have hM:=hM.keep hK
    refine Q0 hE (Zm hE rfl (lkb rfl hb16)) (by decide) rfl fun a hE=>Z7 hE (lkb rfl hb16) rfl fun a hE=>Zd hE rfl ?_; intro a hE
    refine YF (!r18) (fun hb20=>?_) (fun hb20=>?_)
    ·have hl10:=Zu hl10 hb20
     refine Zp hE rfl (lkb rfl hb20) rfl (by decide) fun a hE=>Zp hE rfl (lkb rfl hb20) rfl (by decide) fun a hE=>ZW hE (lkb rfl hb20) rfl fun a hE=>Zc hE rfl fun a hE=>Zh ?_
     obtain rfl:=Option.some.inj hl10
     refine Zi ?_
     exact ⟨hE.sub ⟨rfl,rfl,rfl,rfl,rfl,rfl,rfl,trivial⟩,hM⟩
    ·have hl10:=Zt hl10 hb20
     refine Zj hE (Zm hE rfl (lkb rfl hb20)) (by decide) rfl fun a hE=>Yk hE (Zm hE rfl (lkb rfl hb20)) (by decide) rfl rfl rfl fun a hE=>Z7 hE (lkb rfl hb20) rfl fun a hE=>Zc hE rfl fun a hE=>Zh ?_
     obtain rfl:=Option.some.inj hl10
     refine Zi ?_
     exact ⟨hE.sub ⟨rfl,rfl,rfl,rfl,rfl,rfl,rfl,trivial⟩,hM⟩
  ·skip
   rintro a w ⟨hE,hM⟩
   refine Zr hE rfl ?_ ?_
   ·intro hb23
    have hF11:=Zu hF11 hb23
    refine Zb (Zc hE rfl fun a hE=>Zc hE rfl fun a hE=>Ze ?_)
    have hM:=M.nilS (α:=Int) NoB noB hM
    obtain rfl:=Option.some.inj hF11
    have hM:=M.fst (l:=[_]) hM
    exact wp_ret (Y8 (ZI (Xk hE rfl (ZF hE rfl) (ZF hE rfl) ⟨_,rfl,(Value.slice none 0 0),rfl,hM.outF (WU WD),hM.kept⟩)))
   ·intro hb23
    have hF11:=Zt hF11 hb23
    refine wp_skip (Z9 (Zz (Zb (Zk hE rfl ZT rfl hM.rawAt1 cq ?_)))); intro a hE
    obtain ⟨r25,e26,hF11⟩:=bind_some hF11
    refine Zo hE rfl cb41 (UX _ p0 r25 e26) ?_
    rintro u27 w a ⟨_,rfl,hFr,hK⟩ hE
    have hM:=hM.add hK hFr
    refine Zc hE rfl fun a hE=>Ze (Zb (Zd hE rfl fun a hE=>Zk hE rfl Zv rfl hM.rawAt1 (Flat.len _) fun a hE=>Zd hE rfl ?_)); intro a hE
    obtain ⟨r28,e29,hF11⟩:=bind_some hF11
    refine Zo hE rfl cb48 (Tg _ r25 u27 (hM.ro (pre:=[]) noB) p1 p5 r28 e29) ?_
    rintro u30 w a ⟨_,rfl,hFr,hK⟩ hE
    have hM:=hM.add hK hFr
    refine Yc (xs:=[]) (l:=([] : List Int)) (vs:=[]) hE hM Za ld rfl rfl Tryz.underlying44 ty2 rfl (by decide) rfl fun u31 w a hM hE=>Zc hE rfl fun a hE=>Zc hE rfl fun a hE=>Ze (wp_seq (Zb (Zd hE rfl fun a hE=>Wm hE rfl Tryz.underlying36 (hM.rd hv2_1) fun a hE=>Zd hE rfl fun a hE=>Ze ?_)))
    obtain ⟨j33,hl34,hF35⟩:=bind_some hF11
    refine ZS (fun a w=>∃ (u36 : Value),Env 73 a [(17,u36)] ∧ M (Old w0) w0 w [osl NoB (j33 : List Int) u36]) ?_ ?_
    ·skip
     refine wp_block ?_
     have hM:=M.fst (l:=[_,_,_]) hM.pull2.pull2
     refine ZO (fun (s38 : (List Int) × Int) a w=>∃ (u39 : Value),Env 73 a [(3,vI p3),(4,vI p4),(15,u27),(16,u30),(17,u39),(50,v2_1),(51,(vI (p2.length : Int))),(52,vI s38.2)] ∧ M (Old w0) w0 w [osl NoB (r28 : List (Vector UInt8 16)) u30,own NoB (r25 : (Ref Gengine)) [u27],osl NoB (s38.1 : List Int) u39]) hl34 ⟨u31,hE.sub ⟨rfl,rfl,rfl,rfl,rfl,rfl,rfl,rfl,trivial⟩,hM⟩ ?_
     rintro s38 a w ⟨u39,hE,hM⟩ o43 hs41 hx42
     unfold YV at hs41
     refine Zb (Zl hE rfl rfl rfl fun a hE=>Ze (wp_seq ?_))
     refine Zr hE rfl ?_ ?_
     ·intro hb44
      have hs41:=Zu hs41 hb44
      refine wp_skip (Zz ?_)
      obtain ⟨j45,hl46,hF47⟩:=bind_some hs41
      refine ZQ (fun a w=>∃ (u48 : Value),Env 73 a [(3,vI p3),(4,vI p4),(15,u27),(16,u30),(17,u48),(50,v2_1),(51,(vI (p2.length : Int))),(52,vI s38.2)] ∧ M (Old w0) w0 w [osl NoB (r28 : List (Vector UInt8 16)) u30,own NoB (r25 : (Ref Gengine)) [u27],osl NoB (j45 : List Int) u48]) ?_ ?_
      ·skip
       refine wp_block (Zb (Zd hE rfl ?_)); intro a hE
       obtain ⟨x50,hi52,hl46⟩:=bix hl46
       refine XM hE rfl rfl Tryz.underlying36 Zv (hM.rd hv2_1) hi52.1 fun a hE=>Zk hE rfl Zv rfl (Y1 (hM.rd hv2_1) hi52.2) (Flat.len _) fun a hE=>Zs hE hM Zv fun b53 w a hM hE=>Zc hE rfl fun a hE=>Zg (seg:=enc x50) (cs':=enc x50) hE hM Za rfl rfl rfl Zv (Flat.len _) (zle flq) (Flat.cell _) (Zf flq) fun w a hM hE=>Ze (Zb (Zd hE rfl fun a hE=>Zd hE rfl fun a hE=>Zd hE rfl fun a hE=>Zk hE rfl Zv rfl hM.rawAt0 (Flat.len _) fun a hE=>Zd hE rfl ?_)); intro a hE
       obtain ⟨r55,e56,hl46⟩:=bind_some hl46
       refine Zo hE rfl (cbm Tryz.func49) (QU _ r25 u27 (hM.ro (pre:=[_,_]) noB) r28 u30 (hM.sl (pre:=[_]) noB) x50 p3 r55 e56) ?_
       rintro u57 w a ⟨_,rfl,hFr,hK⟩ hE
       have hM:=hM.add hK hFr
       refine Zd hE rfl ?_; intro a hE
       obtain ⟨r58,e59,hl46⟩:=bind_some hl46
       refine Zo hE rfl (cbm Tryz.func42) (Tm _ r25 u27 (hM.ro (pre:=[_,_,_]) noB) r55 u57 (hM.sl (pre:=[]) noB) p4 r58 e59) ?_
       rintro u60 w a ⟨_,rfl,hFr,hK⟩ hE
       have hM:=hM.add hK hFr
       refine Zs hE hM ty44 fun b61 w a hM hE=>Zg (seg:=[u60]) (cs':=[u60]) hE hM Za rfl rfl (Aq (hM.sl (pre:=[_]) noB)) ty44 rfl (Nat.le_of_eq ((Nat.zero_add _).trans rfl)) (Rep.cell (hM.sl (pre:=[_]) noB)) (Zf rfl) fun w a hM hE=>Ze (wp_seq (Zb (Zd hE rfl fun a hE=>Zl hE rfl rfl rfl fun a hE=>Ze ?_)))
       refine Zr hE rfl ?_ ?_
       ·intro hb63
        have hl46:=Zu hl46 hb63
        refine wp_region_lit (ZR (v:=u60) hE rfl ty44 rfl hM.rawAt0 fun a hE=>Zc hE rfl fun a hE=>Zh (Zz (wp_region_lit (Zd hE rfl fun a hE=>Ax hE Za ld rfl ?_)))); intro a hE
        obtain ⟨r64,e65,hl46⟩:=bind_some hl46
        refine Zo hE rfl (cbm Tryz.func50) (Tr _ r58 u60 (hM.sl (pre:=[_]) noB) (fun z0=>Z1 z0 r58) 51 [(ptr b61 0)] (cbm Tryz.func51) (fun w2 hk2 z0 zr zhr=>U9 w2 z0 b61 r58 u60 (z9 (hM.sl (pre:=[_]) noB) hk2) (yv hM.rawAt0 hk2 (by simp [cat])) (Bf hM.rawAt0 hk2 (by simp [cat])) zr zhr) r64 e65) ?_
        rintro v w a ⟨hv,hK⟩ hE
        subst v
        have hM:=hM.keep hK
        refine Zc hE rfl fun a hE=>Zh (Z9 ?_)
        obtain rfl:=Option.some.inj hl46
        refine Zi ?_
        have hM:=M.fst (l:=[_,_,_]) hM.pull1.pull5.pull5
        exact ⟨u60,hE.sub ⟨rfl,rfl,rfl,rfl,rfl,rfl,rfl,rfl,trivial⟩,hM⟩
       ·intro hb63
        have hl46:=Zt hl46 hb63
        refine wp_skip (Zz (wp_region_lit (Zd hE rfl fun a hE=>Ax hE Za ld rfl ?_))); intro a hE
        have hM:=hM.pull6
        have hM0:=hM
        obtain ⟨r67,e68,hl46⟩:=bind_some hl46
        refine Zo hE rfl (cbm Tryz.func50) (TI _ _ _ _ s38.1 u39 (fun z0=>Z1 z0 r58) 51 [(ptr b61 0)] (cbm Tryz.func51) (fun w2 hq2 z0 zr zhr=>by obtain ⟨_,_,hM⟩:=hq2; have hk2 : Kept (Old w2) w2 w2:=Kept.refl _ _; exact U9 w2 z0 b61 r58 u60 (z9 (hM.sl (pre:=[_,_]) noB) hk2) (yv hM.rawAt1 hk2 (by simp [cat])) (Bf hM.rawAt1 hk2 (by simp [cat])) zr zhr) hM r67 e68) ?_
        rintro u69 w a ⟨_,rfl,hM⟩ hE
        refine Zc hE rfl fun a hE=>Zh (Z9 ?_)
        obtain rfl:=Option.some.inj hl46
        refine Zi ?_
        have hM:=M.fst (l:=[_,_,_]) hM.pull6.pull6
        exact ⟨u69,hE.sub ⟨rfl,rfl,rfl,rfl,rfl,rfl,rfl,rfl,trivial⟩,hM⟩
      ·skip
       rintro a w ⟨u48,hE,hM⟩
       refine wp_region_lit (Zl hE rfl rfl rfl fun a hE=>Zd hE rfl fun a hE=>Zh (Zi ?_))
       exact ⟨_,(ois hF47),u48,hE.sub ⟨rfl,rfl,rfl,rfl,rfl,rfl,rfl,rfl,trivial⟩,hM⟩
     ·intro hb44
      have hs41:=Zt hs41 hb44
      refine wp_exit (Zq (Zq (Yi ?_)))
      obtain rfl:=hx42 _ (ois hs41)
      refine Zi ?_
      have hM:=M.fst (l:=[_]) hM.pull2
      exact ⟨u39,hE.sub ⟨rfl,trivial⟩,hM⟩
    ·skip
     rintro a w ⟨u36,hE,hM⟩
     refine Zz (Zb (Zd hE rfl fun a hE=>Zc hE rfl fun a hE=>Zc hE rfl fun a hE=>Ze ?_))
     obtain rfl:=Option.some.inj hF35
     exact wp_ret (Xk hE rfl (ZF hE rfl) (ZF hE rfl) ⟨_,rfl,u36,rfl,hM.outF (WU WD),hM.kept⟩)
def YU (r57 : (Vector Bool 256)) (s66 : (Vector Bool 256) × Int) : Option (Fl ((Vector Bool 256) × Int) (Vector Bool 256)) :=
 if (decide (s66.2 < 256)) = true then (((ZB s66.1 s66.2).bind fun x75=>if x75 = true then ((ZB r57 s66.2).bind fun x79=>(ZB s66.1 s66.2).bind fun x82=>some (s66.1.setIfInBounds (s66.2).toNat x79)) else ((ZB s66.1 s66.2).bind fun x86=>some (s66.1.setIfInBounds (s66.2).toNat false)) : Option ((Vector Bool 256))).bind fun j71=>some (Fl.nx (j71,wr (s66.2 + 1)))) else (some (Fl.ex s66.1))
def YT (p0 : GCipher) (p1 : (Vector UInt8 16)) (p2 : (List (Vector UInt8 16))) (p3 : Int) (p4 : Int) (p5 : Int) (s45 : (Vector Bool 256) × Int) : Option (Fl ((Vector Bool 256) × Int) (Vector Bool 256)) :=
 if (decide (s45.2 < (p2.length : Int))) = true then ((idx p2 s45.2).bind fun x51=>(Xi p0 p1 x51 p3 p5).bind fun r54=>(Xs p0 r54 p4).bind fun r57=>(ZK (YU r57) (s45.1,0)).bind fun j63=>some (Fl.nx (j63,wr (s45.2 + 1)))) else (some (Fl.ex s45.1))
def XH (p0 : GCipher) (p1 : (Vector UInt8 16)) (p2 : (List (Vector UInt8 16))) (p3 : Int) (p4 : Int) (p5 : Int) : Option ((List Int) × Int) :=
 (XK p0 p3 p5).bind fun r5=>((if (r5 != 1) = true then (if (decide ((p2.length : Int) < 1)) = true then (some true) else (if (decide ((p2.length : Int) > 8)) = true then (some true) else ((XL p4 0 15).bind fun r18=>if (!r18) = true then (some true) else (some (decide (p5 < 1)))))) else (some false) : Option (Bool)).bind fun j10=>if j10 = true then (some 2) else (some r5) : Option (Int)).bind fun j7=>if (j7 != 0) = true then (some ([],j7)) else ((idx p2 (0 : Int)).bind fun x30=>(Xi p0 p1 x30 p3 p5).bind fun r33=>(Xs p0 r33 p4).bind fun r36=>(ZK (YT p0 p1 p2 p3 p4 p5) (r36,1)).bind fun j42=>(Vl j42).bind fun r91=>some (r91,0))
theorem Ks (w0 : World) (p0 : GCipher) (p1 : (Vector UInt8 16)) (p2 : (List (Vector UInt8 16))) (v2_1 : Value) (hv2_1 : Ro w0 p2 [v2_1]) (p3 : Int) (p4 : Int) (p5 : Int) (r : (List Int) × Int) (hF : XH p0 p1 p2 p3 p4 p5 = some r) :
  Calls Tryz.prog 18 [(Value.agg (enc p0).toArray),(Value.agg (enc p1).toArray),v2_1,vI p3,vI p4,vI p5].toArray w0 (fun en w'=>∃ v,en = .returned v ∧ (∃ (y1 : Value),v = (Value.tuple [y1,vI r.2].toArray) ∧ Fr w0 w' [osl NoB (r.1 : List Int) y1] ∧ Kept (Old w0) w0 w')):=by
 refine ce Tryz.func18 ?_
 intro a hE
 have hM:=M.start w0
 unfold XH at hF
 refine Zb (ZY (cs:=cat [[vI p0.Field],enc p0.Box,enc p0.Mix,enc p0.Places,[vI p0.Rounds]]) hE hM Za ld rfl rfl fun b1 w a hM hE=>ZY (cs:=enc p1) hE hM Za ld rfl rfl fun b3 w a hM hE=>Zc hE rfl fun a hE=>Zc hE rfl fun a hE=>Ze (Zb (Zk hE rfl ZT rfl hM.rawAt1 cq fun a hE=>Zd hE rfl fun a hE=>Zd hE rfl ?_))); intro a hE
 obtain ⟨r5,e6,hF⟩:=bind_some hF
 refine Zo hE rfl cb31 (Ux _ p0 p3 p5 r5 e6) ?_
 rintro v w a ⟨rfl,hK⟩ hE
 have hM:=hM.keep hK
 refine Zc hE rfl fun a hE=>Ze ?_
 obtain ⟨j7,hl8,hF9⟩:=bind_some hF
 refine ZQ (fun a w=>Env 92 a [(2,v2_1),(3,vI p3),(4,vI p4),(5,vI p5),(6,(ptr b1 0)),(7,(ptr b3 0)),(14,vI j7)] ∧ M (Old w0) w0 w [raw b3 (enc p1),raw b1 (cat [[vI p0.Field],enc p0.Box,enc p0.Mix,enc p0.Places,[vI p0.Rounds]])]) ?_ ?_
 ·skip
  obtain ⟨j10,hl11,hF12⟩:=bind_some hl8
  refine ZQ (fun a w=>Env 92 a [(2,v2_1),(3,vI p3),(4,vI p4),(5,vI p5),(6,(ptr b1 0)),(7,(ptr b3 0)),(14,vI r5),(43,vT j10)] ∧ M (Old w0) w0 w [raw b3 (enc p1),raw b1 (cat [[vI p0.Field],enc p0.Box,enc p0.Mix,enc p0.Places,[vI p0.Rounds]])]) ?_ ?_
  ·skip
   refine wp_region_lit (Zd hE rfl fun a hE=>Zl hE rfl rfl rfl fun a hE=>Zd hE rfl ?_); intro a hE
   refine YF (r5 != 1) (fun hb13=>?_) (fun hb13=>?_)
   ·have hl11:=Zu hl11 hb13
    refine Zj hE (Zm hE rfl (lkb rfl hb13)) (by decide) rfl fun a hE=>AE hE (Zm hE rfl (lkb rfl hb13)) (by decide) rfl Tryz.underlying36 (hM.rd hv2_1) fun a hE=>Yk hE (Zm hE rfl (lkb rfl hb13)) (by decide) rfl rfl rfl fun a hE=>Zj hE (Zm hE rfl (lkb rfl hb13)) (by decide) rfl ?_; intro a hE
    refine YF (decide ((p2.length : Int) < 1)) (fun hb14=>?_) (fun hb14=>?_)
    ·have hl11:=Zu hl11 hb14
     refine Zp hE rfl (lkb rfl hb14) rfl (by decide) fun a hE=>Zp hE rfl (lkb rfl hb14) rfl (by decide) fun a hE=>Zp hE rfl (lkb rfl hb14) rfl (by decide) fun a hE=>KC hE (Zm hE rfl (lkb rfl hb13)) (by decide) (lkb rfl hb14) rfl fun a hE=>Zj hE (Zm hE rfl (lkb rfl hb13)) (by decide) rfl fun a hE=>Zp hE rfl rfl rfl (by decide) fun a hE=>Zp hE rfl rfl rfl (by decide) fun a hE=>Zp hE rfl rfl rfl (by decide) fun a hE=>KC hE (Zm hE rfl (lkb rfl hb13)) (by decide) rfl rfl fun a hE=>Zj hE (Zm hE rfl (lkb rfl hb13)) (by decide) rfl fun a hE=>Zp hE rfl rfl rfl (by decide) fun a hE=>Zp hE rfl rfl rfl (by decide) ?_; intro a hE
     refine KC hE (Zm hE rfl (lkb rfl hb13)) (by decide) rfl rfl fun a hE=>ZW hE (lkb rfl hb13) rfl fun a hE=>Zh ?_
     obtain rfl:=Option.some.inj hl11
     refine Zi ?_
     exact ⟨hE.sub ⟨rfl,rfl,rfl,rfl,rfl,rfl,rfl,rfl,trivial⟩,hM⟩
    ·have hl11:=Zt hl11 hb14
     refine Zj hE (Zm hE rfl (lkb rfl hb14)) (by decide) rfl fun a hE=>AE hE (Zm hE rfl (lkb rfl hb14)) (by decide) rfl Tryz.underlying36 (hM.rd hv2_1) fun a hE=>Yk hE (Zm hE rfl (lkb rfl hb14)) (by decide) rfl rfl rfl fun a hE=>Bx hE (Zm hE rfl (lkb rfl hb13)) (by decide) (lkb rfl hb14) rfl fun a hE=>Zj hE (Zm hE rfl (lkb rfl hb13)) (by decide) rfl ?_; intro a hE
     refine YF (decide ((p2.length : Int) > 8)) (fun hb16=>?_) (fun hb16=>?_)
     ·have hl11:=Zu hl11 hb16
      refine Zp hE rfl (lkb rfl hb16) rfl (by decide) fun a hE=>Zp hE rfl (lkb rfl hb16) rfl (by decide) fun a hE=>Zp hE rfl (lkb rfl hb16) rfl (by decide) fun a hE=>KC hE (Zm hE rfl (lkb rfl hb13)) (by decide) (lkb rfl hb16) rfl fun a hE=>Zj hE (Zm hE rfl (lkb rfl hb13)) (by decide) rfl fun a hE=>Zp hE rfl rfl rfl (by decide) fun a hE=>Zp hE rfl rfl rfl (by decide) fun a hE=>KC hE (Zm hE rfl (lkb rfl hb13)) (by decide) rfl rfl fun a hE=>ZW hE (lkb rfl hb13) rfl fun a hE=>Zh ?_
      obtain rfl:=Option.some.inj hl11
      refine Zi ?_
      exact ⟨hE.sub ⟨rfl,rfl,rfl,rfl,rfl,rfl,rfl,rfl,trivial⟩,hM⟩
     ·have hl11:=Zt hl11 hb16
      refine Zj hE (Zm hE rfl (lkb rfl hb16)) (by decide) rfl ?_; intro a hE
      obtain ⟨r18,e19,hl11⟩:=bind_some hl11
      refine YD hE (Zm hE rfl (lkb rfl hb16)) (by decide) rfl cb44 (UR _ p4 0 15 r18 e19) ?_
      rintro v w a ⟨rfl,hK⟩ hE
      have hM:=hM.keep hK
      refine Q0 hE (Zm hE rfl (lkb rfl hb16)) (by decide) rfl fun a hE=>Bx hE (Zm hE rfl (lkb rfl hb13)) (by decide) (lkb rfl hb16) rfl fun a hE=>Zj hE (Zm hE rfl (lkb rfl hb13)) (by decide) rfl ?_; intro a hE
      refine YF (!r18) (fun hb20=>?_) (fun hb20=>?_)
      ·have hl11:=Zu hl11 hb20
       refine Zp hE rfl (lkb rfl hb20) rfl (by decide) fun a hE=>Zp hE rfl (lkb rfl hb20) rfl (by decide) fun a hE=>KC hE (Zm hE rfl (lkb rfl hb13)) (by decide) (lkb rfl hb20) rfl fun a hE=>ZW hE (lkb rfl hb13) rfl fun a hE=>Zh ?_
       obtain rfl:=Option.some.inj hl11
       refine Zi ?_
       exact ⟨hE.sub ⟨rfl,rfl,rfl,rfl,rfl,rfl,rfl,rfl,trivial⟩,hM⟩
      ·have hl11:=Zt hl11 hb20
       refine Zj hE (Zm hE rfl (lkb rfl hb20)) (by decide) rfl fun a hE=>Yk hE (Zm hE rfl (lkb rfl hb20)) (by decide) rfl rfl rfl fun a hE=>Bx hE (Zm hE rfl (lkb rfl hb13)) (by decide) (lkb rfl hb20) rfl fun a hE=>ZW hE (lkb rfl hb13) rfl fun a hE=>Zh ?_
       obtain rfl:=Option.some.inj hl11
       refine Zi ?_
       exact ⟨hE.sub ⟨rfl,rfl,rfl,rfl,rfl,rfl,rfl,rfl,trivial⟩,hM⟩
   ·have hl11:=Zt hl11 hb13
    refine Zp hE rfl (lkb rfl hb13) rfl (by decide) fun a hE=>Zp hE rfl (lkb rfl hb13) rfl (by decide) fun a hE=>Zp hE rfl (lkb rfl hb13) rfl (by decide) fun a hE=>Zp hE rfl (lkb rfl hb13) rfl (by decide) fun a hE=>QR hE rfl rfl (by decide) fun a hE=>QR hE rfl rfl (by decide) fun a hE=>QR hE rfl rfl (by decide) fun a hE=>Zp hE rfl (lkb rfl hb13) rfl (by decide) fun a hE=>Zp hE rfl (lkb rfl hb13) rfl (by decide) fun a hE=>QR hE rfl rfl (by decide) fun a hE=>QR hE rfl rfl (by decide) fun a hE=>QR hE rfl rfl (by decide) ?_; intro a hE
    refine Zp hE rfl (lkb rfl hb13) rfl (by decide) fun a hE=>Zp hE rfl (lkb rfl hb13) rfl (by decide) fun a hE=>QR hE rfl rfl (by decide) fun a hE=>QR hE rfl rfl (by decide) fun a hE=>Zp hE rfl (lkb rfl hb13) rfl (by decide) fun a hE=>Z7 hE (lkb rfl hb13) rfl fun a hE=>Zh ?_
    obtain rfl:=Option.some.inj hl11
    refine Zi ?_
    exact ⟨hE.sub ⟨rfl,rfl,rfl,rfl,rfl,rfl,rfl,rfl,trivial⟩,hM⟩
  ·skip
   rintro a w ⟨hE,hM⟩
   refine Zr hE rfl ?_ ?_
   ·intro hb24
    have hF12:=Zu hF12 hb24
    refine wp_region_lit (Zc hE rfl fun a hE=>Zh ?_)
    obtain rfl:=Option.some.inj hF12
    refine Zi ?_
    exact ⟨hE.sub ⟨rfl,rfl,rfl,rfl,rfl,rfl,rfl,trivial⟩,hM⟩
   ·intro hb24
    have hF12:=Zt hF12 hb24
    refine wp_skip ?_
    obtain rfl:=Option.some.inj hF12
    refine Zi ?_
    exact ⟨hE.sub ⟨rfl,rfl,rfl,rfl,rfl,rfl,rfl,trivial⟩,hM⟩
 ·skip
  rintro a w ⟨hE,hM⟩
  refine wp_seq (Zb (Zd hE rfl fun a hE=>Zl hE rfl rfl rfl fun a hE=>Ze ?_))
  refine Zr hE rfl ?_ ?_
  ·intro hb27
   have hF9:=Zu hF9 hb27
   refine Zb (Zd hE rfl fun a hE=>Zc hE rfl fun a hE=>Zc hE rfl fun a hE=>Ze ?_)
   have hM:=M.nilS (α:=Int) NoB noB hM
   obtain rfl:=Option.some.inj hF9
   have hM:=M.fst (l:=[_]) hM
   exact wp_ret (ZI (Xk hE rfl (ZF hE rfl) (ZF hE rfl) ⟨_,rfl,(Value.slice none 0 0),rfl,hM.outF (WU WD),hM.kept⟩))
  ·intro hb27
   have hF9:=Zt hF9 hb27
   refine wp_skip (Zz (wp_seq ?_))
   obtain ⟨x30,hi32,hF9⟩:=bix hF9
   obtain ⟨r33,e34,hF9⟩:=bind_some hF9
   obtain ⟨r36,e37,hF9⟩:=bind_some hF9
   refine Wk (its:=[raw b3 (enc p1),raw b1 (cat [[vI p0.Field],enc p0.Box,enc p0.Mix,enc p0.Places,[vI p0.Rounds]])]) (mk:=([mkO 8 (fun v=>osl NoB (r33 : List (Vector UInt8 16)) v),mkO 11 (fun v=>Jp v (enc (Vector.replicate 256 false)))] : Mk)) [47,48,49,50,51,52,53,54,55,56,57,15] Xm rfl rfl (by decide) rfl hE (fun u=>M.qE (M.qE (M.q0 hM.drew u) emO) emO) (qsP (v:=(Value.agg (enc p0).toArray)) ?_ (qsP (v:=(Value.agg (enc p0).toArray)) ?_ (qsP (v:=(Value.agg (enc p1).toArray)) ?_ (qsP (fun z=>Zj z.E Za ld rfl (kr0 rfl)) (qsP (v:=(ptr (sb v2_1) (so v2_1 + ((0 : Int)).toNat * 16))) ?_ (qsP (v:=(Value.agg (enc x30).toArray)) ?_ (qsP (fun z=>Zj z.E Za ld rfl (kr0 rfl)) (qsP (fun z=>Zj z.E Za ld rfl (kr0 rfl)) (qsM (pr:=fun v=>True) ?_ (qsP (fun z=>Zj z.E Za ld rfl (kr0 rfl)) (qsP (v:=(Value.agg (enc r36).toArray)) ?_ (qsM (pr:=fun v=>True) ?_ qs0)))))))))))) ?_
   ·intro a w ux29 D z
    have hE:=z.E
    have hM:=z.M
    exact Zk hE rfl ZT rfl hM.rawAt1 cq fun a hE=>⟨Kept.refl _ _,_,rfl,hE⟩
   ·intro a w ux29 D z
    have hE:=z.E
    have hM:=z.M
    exact Zk hE rfl ZT rfl hM.rawAt1 cq fun a hE=>⟨Kept.refl _ _,_,rfl,hE⟩
   ·intro a w ux29 D z
    have hE:=z.E
    have hM:=z.M
    exact Zk hE rfl Zv rfl hM.rawAt0 (Flat.len _) fun a hE=>⟨Kept.refl _ _,_,rfl,hE⟩
   ·intro a w ux29 D z
    have hE:=z.E
    have hM:=z.M
    exact XM hE rfl rfl Tryz.underlying36 Zv (hM.rd hv2_1) hi32.1 fun a hE=>⟨Kept.refl _ _,_,rfl,hE⟩
   ·intro a w ux29 D z
    have hE:=z.E
    have hM:=z.M
    exact Zk hE rfl Zv rfl (Y1 (hM.rd hv2_1) hi32.2) (Flat.len _) fun a hE=>⟨Kept.refl _ _,_,rfl,hE⟩
   ·intro a w ux29 D z
    have hE:=z.E
    have hD : D 8 = false:=z.F
    have hM0:=z.M
    have hM:=z.M
    refine Zo hE rfl cb32 (Un _ p0 p1 x30 p3 p5 r33 e34) ?_
    rintro _ w a ⟨_,rfl,hFr,hK⟩ hE
    have hM:=hM0.add hK hFr
    exact ⟨_,_,rfl,hE,M.qFill (mk1:=[]) (mk2:=[_]) (f:=(fun v=>osl NoB (r33 : List (Vector UInt8 16)) v)) hM rfl hD,trivial⟩
   ·intro a w ux29 D z
    have hE:=z.E
    have d8 : D 8 = true:=z.p 1 _ rfl rfl
    have hM:=z.M.sure (pre:=[_,_]) d8
    refine Zo hE rfl cb46 (TK _ p0 r33 (ux29 8) (hM.sl (pre:=[_,_]) noB) p4 r36 e37) ?_
    rintro v w a ⟨rfl,hK⟩ hE
    exact ⟨hK,_,rfl,hE⟩
   ·intro a w ux29 D z
    have hE:=z.E
    have hD : D 11 = false:=z.F
    have hM:=z.M
    refine Zs hE hM Qm ?_; intro b38 w a hM hE
    have hM:=hM.pack1 (it:=Jp _ (enc (Vector.replicate 256 false))) (fun w w' fp ⟨b',e,k⟩ hb=>⟨b',e,Tw w w' fp k hb⟩) (fun fp k=>⟨_,rfl,k⟩)
    exact ⟨_,_,rfl,hE,M.qFill (mk1:=[_]) (mk2:=[]) (f:=fun v=>Jp v (enc (Vector.replicate 256 false))) hM rfl hD,trivial⟩
   ·intro a w ux29 D hE hM hG hall
    have d8:=hall 8 (by decide)
    have d11:=hall 11 (by decide)
    have hM:=((hM.sure (pre:=[_,_]) d8).sure (pre:=[_,_,_]) d11).pull
    obtain ⟨_,⟨b40,f41,_⟩,_⟩:=hM.head
    have hM:=hM.pack1 Tw (it:=raw b40 (enc (Vector.replicate 256 false))) (fun fp ⟨b2,e2,k2⟩=>by rw [f41] at e2; simp [ptr] at e2; subst e2; exact k2)
    have hE:=hE.setq (t:=15) rfl f41
    refine Zg (seg:=enc r36) (cs':=enc r36) hE hM Za rfl rfl rfl Qm (Flat.len _) (zle flq) (Flat.cell _) (Zf flq) fun w a hM hE=>Zh (Zz (wp_seq (Zb (Zc hE rfl fun a hE=>Ze ?_))))
    obtain ⟨j42,hl43,hF44⟩:=bind_some hF9
    refine ZS (fun a w=>Env 92 a [(15,(ptr b40 0))] ∧ M (Old w0) w0 w [raw b40 (enc j42)]) ?_ ?_
    ·skip
     refine wp_block ?_
     have hM:=M.fst (l:=[_,_,_]) hM.pull2.pull2.pull2
     refine ZO (fun (s45 : (Vector Bool 256) × Int) a w=>Env 92 a [(2,v2_1),(3,vI p3),(4,vI p4),(5,vI p5),(6,(ptr b1 0)),(7,(ptr b3 0)),(15,(ptr b40 0)),(16,vI s45.2)] ∧ M (Old w0) w0 w [raw b40 (enc s45.1),raw b3 (enc p1),raw b1 (cat [[vI p0.Field],enc p0.Box,enc p0.Mix,enc p0.Places,[vI p0.Rounds]])]) hl43 ⟨hE.sub ⟨rfl,rfl,rfl,rfl,rfl,rfl,rfl,rfl,trivial⟩,hM⟩ ?_
     rintro s45 a w ⟨hE,hM⟩ o48 hs46 hx47
     unfold YT at hs46
     refine wp_seq (Zb (Zd hE rfl fun a hE=>Zd hE rfl fun a hE=>Wm hE rfl Tryz.underlying36 (hM.rd hv2_1) fun a hE=>Zl hE rfl rfl rfl fun a hE=>Ze ?_))
     refine Zr hE rfl ?_ ?_
     ·intro hb49
      have hs46:=Zu hs46 hb49
      refine wp_skip (Zz (wp_seq (wp_block (wp_seq ?_))))
      obtain ⟨x51,hi53,hs46⟩:=bix hs46
      obtain ⟨r54,e55,hs46⟩:=bind_some hs46
      obtain ⟨r57,e58,hs46⟩:=bind_some hs46
      refine Wk (its:=[raw b40 (enc s45.1),raw b3 (enc p1),raw b1 (cat [[vI p0.Field],enc p0.Box,enc p0.Mix,enc p0.Places,[vI p0.Rounds]])]) (mk:=([mkO 9 (fun v=>osl NoB (r54 : List (Vector UInt8 16)) v),mkO 12 (fun v=>Jp v (enc (Vector.replicate 256 false)))] : Mk)) [64,65,66,67,68,69,70,71,72,73,74,75,17] Xm rfl rfl (by decide) rfl hE (fun u=>M.qE (M.qE (M.q0 hM.drew u) emO) emO) (qsP (v:=(Value.agg (enc p0).toArray)) ?_ (qsP (v:=(Value.agg (enc p0).toArray)) ?_ (qsP (v:=(Value.agg (enc p1).toArray)) ?_ (qsP (fun z=>Zj z.E Za ld rfl (kr0 rfl)) (qsP (fun z=>Zj z.E Za ld rfl (kr0 rfl)) (qsP (v:=(ptr (sb v2_1) (so v2_1 + (s45.2).toNat * 16))) ?_ (qsP (v:=(Value.agg (enc x51).toArray)) ?_ (qsP (fun z=>Zj z.E Za ld rfl (kr0 rfl)) (qsP (fun z=>Zj z.E Za ld rfl (kr0 rfl)) (qsM (pr:=fun v=>True) ?_ (qsP (fun z=>Zj z.E Za ld rfl (kr0 rfl)) (qsP (v:=(Value.agg (enc r57).toArray)) ?_ (qsM (pr:=fun v=>True) ?_ qs0))))))))))))) ?_
      ·intro a w ux50 D z
       have hE:=z.E
       have hM:=z.M
       exact Zk hE rfl ZT rfl hM.rawAt2 cq fun a hE=>⟨Kept.refl _ _,_,rfl,hE⟩
      ·intro a w ux50 D z
       have hE:=z.E
       have hM:=z.M
       exact Zk hE rfl ZT rfl hM.rawAt2 cq fun a hE=>⟨Kept.refl _ _,_,rfl,hE⟩
      ·intro a w ux50 D z
       have hE:=z.E
       have hM:=z.M
       exact Zk hE rfl Zv rfl hM.rawAt1 (Flat.len _) fun a hE=>⟨Kept.refl _ _,_,rfl,hE⟩
      ·intro a w ux50 D z
       have hE:=z.E
       have hM:=z.M
       exact XM hE rfl rfl Tryz.underlying36 Zv (hM.rd hv2_1) hi53.1 fun a hE=>⟨Kept.refl _ _,_,rfl,hE⟩
      ·intro a w ux50 D z
       have hE:=z.E
       have hM:=z.M
       exact Zk hE rfl Zv rfl (Y1 (hM.rd hv2_1) hi53.2) (Flat.len _) fun a hE=>⟨Kept.refl _ _,_,rfl,hE⟩
      ·intro a w ux50 D z
       have hE:=z.E
       have hD : D 9 = false:=z.F
       have hM0:=z.M
       have hM:=z.M
       refine Zo hE rfl cb32 (Un _ p0 p1 x51 p3 p5 r54 e55) ?_
       rintro _ w a ⟨_,rfl,hFr,hK⟩ hE
       have hM:=hM0.add hK hFr
       exact ⟨_,_,rfl,hE,M.qFill (mk1:=[]) (mk2:=[_]) (f:=(fun v=>osl NoB (r54 : List (Vector UInt8 16)) v)) hM rfl hD,trivial⟩
      ·intro a w ux50 D z
       have hE:=z.E
       have d9 : D 9 = true:=z.p 1 _ rfl rfl
       have hM:=z.M.sure (pre:=[_,_,_]) d9
       refine Zo hE rfl cb46 (TK _ p0 r54 (ux50 9) (hM.sl (pre:=[_,_,_]) noB) p4 r57 e58) ?_
       rintro v w a ⟨rfl,hK⟩ hE
       exact ⟨hK,_,rfl,hE⟩
      ·intro a w ux50 D z
       have hE:=z.E
       have hD : D 12 = false:=z.F
       have hM:=z.M
       refine Zs hE hM Qm ?_; intro b59 w a hM hE
       have hM:=hM.pack1 (it:=Jp _ (enc (Vector.replicate 256 false))) (fun w w' fp ⟨b',e,k⟩ hb=>⟨b',e,Tw w w' fp k hb⟩) (fun fp k=>⟨_,rfl,k⟩)
       exact ⟨_,_,rfl,hE,M.qFill (mk1:=[_]) (mk2:=[]) (f:=fun v=>Jp v (enc (Vector.replicate 256 false))) hM rfl hD,trivial⟩
      ·intro a w ux50 D hE hM hG hall
       have d9:=hall 9 (by decide)
       have d12:=hall 12 (by decide)
       have hM:=((hM.sure (pre:=[_,_,_]) d9).sure (pre:=[_,_,_,_]) d12).pull
       obtain ⟨_,⟨b61,f62,_⟩,_⟩:=hM.head
       have hM:=hM.pack1 Tw (it:=raw b61 (enc (Vector.replicate 256 false))) (fun fp ⟨b2,e2,k2⟩=>by rw [f62] at e2; simp [ptr] at e2; subst e2; exact k2)
       have hE:=hE.setq (t:=17) rfl f62
       refine Zg (seg:=enc r57) (cs':=enc r57) hE hM Za rfl rfl rfl Qm (Flat.len _) (zle flq) (Flat.cell _) (Zf flq) fun w a hM hE=>Zh (Zz (Zb (Zc hE rfl fun a hE=>Ze ?_)))
       obtain ⟨j63,hl64,hF65⟩:=bind_some hs46
       refine ZS (fun a w=>Env 92 a [(2,v2_1),(3,vI p3),(4,vI p4),(5,vI p5),(6,(ptr b1 0)),(7,(ptr b3 0)),(15,(ptr b40 0)),(16,vI s45.2)] ∧ M (Old w0) w0 w [raw b40 (enc j63),raw b3 (enc p1),raw b1 (cat [[vI p0.Field],enc p0.Box,enc p0.Mix,enc p0.Places,[vI p0.Rounds]])]) ?_ ?_
       ·skip
        refine wp_block ?_
        have hM:=M.fst (l:=[_,_,_,_]) hM.pull3.pull3.pull3.pull3
        refine ZO (fun (s66 : (Vector Bool 256) × Int) a w=>Env 92 a [(2,v2_1),(3,vI p3),(4,vI p4),(5,vI p5),(6,(ptr b1 0)),(7,(ptr b3 0)),(15,(ptr b40 0)),(16,vI s45.2),(17,(ptr b61 0)),(18,vI s66.2)] ∧ M (Old w0) w0 w [raw b61 (enc r57),raw b40 (enc s66.1),raw b3 (enc p1),raw b1 (cat [[vI p0.Field],enc p0.Box,enc p0.Mix,enc p0.Places,[vI p0.Rounds]])]) hl64 ⟨hE.sub ⟨rfl,rfl,rfl,rfl,rfl,rfl,rfl,rfl,rfl,rfl,trivial⟩,hM⟩ ?_
        rintro s66 a w ⟨hE,hM⟩ o69 hs67 hx68
        unfold YU at hs67
        refine wp_seq (Zb (Zd hE rfl fun a hE=>Zl hE rfl rfl rfl fun a hE=>Ze ?_))
        refine Zr hE rfl ?_ ?_
        ·intro hb70
         have hs67:=Zu hs67 hb70
         refine wp_skip (Zz (wp_seq (wp_block ?_)))
         obtain ⟨j71,hl72,hF73⟩:=bind_some hs67
         refine ZS (fun a w=>Env 92 a [(2,v2_1),(3,vI p3),(4,vI p4),(5,vI p5),(6,(ptr b1 0)),(7,(ptr b3 0)),(15,(ptr b40 0)),(16,vI s45.2),(17,(ptr b61 0)),(18,vI s66.2)] ∧ M (Old w0) w0 w [raw b61 (enc r57),raw b40 (enc j71),raw b3 (enc p1),raw b1 (cat [[vI p0.Field],enc p0.Box,enc p0.Mix,enc p0.Places,[vI p0.Rounds]])]) ?_ ?_
         ·skip
          refine wp_region_lit (Zd hE rfl fun a hE=>Zd hE rfl ?_); intro a hE
          obtain ⟨x75,hi74,hl72⟩:=bvx hl72
          refine Zw hE rfl rfl Tryz.underlying74 ty4 hi74.1 fun a hE=>ZR (v:=(vT x75)) hE rfl ty4 rfl (At.vec hM.rawAt1 hi74.2) fun a hE=>Zd hE rfl ?_; intro a hE
          refine YF x75 (fun hb77=>?_) (fun hb77=>?_)
          ·have hl72:=Zu hl72 hb77
           refine Zj hE (Zm hE rfl (lkb rfl hb77)) (by decide) rfl ?_; intro a hE
           obtain ⟨x79,hi78,hl72⟩:=bvx hl72
           refine ZA hE (Zm hE rfl (lkb rfl hb77)) (by decide) rfl rfl Tryz.underlying74 ty4 hi78.1 fun a hE=>Z0 (v:=(vT x79)) hE (Zm hE rfl (lkb rfl hb77)) (by decide) rfl ty4 rfl (At.vec hM.rawAt0 hi78.2) fun a hE=>ZW hE (lkb rfl hb77) rfl ?_; intro a hE
           obtain ⟨x82,hi81,hl72⟩:=bvx hl72
           refine Zw hE rfl rfl Tryz.underlying74 ty4 hi81.1 ?_; intro a hE
           have hM:=hM.pull1
           refine Zg (seg:=[vT x79]) (cs':=enc (s66.1.setIfInBounds (s66.2).toNat x79)) hE hM Za rfl rfl rfl ty4 rfl (ZE (v:=s66.1) (x:=x79) hi81.1) (Flat.cell (x79 : Bool)) (Zy (v:=s66.1) (x:=x79) hi81.1) fun w a hM hE=>Zh ?_
           obtain rfl:=Option.some.inj hl72
           refine Zi ?_
           have hM:=hM.pull3.pull3.pull2.pull3
           exact ⟨hE.sub ⟨rfl,rfl,rfl,rfl,rfl,rfl,rfl,rfl,rfl,rfl,trivial⟩,hM⟩
          ·have hl72:=Zt hl72 hb77
           refine Zp hE rfl (lkb rfl hb77) rfl (by decide) fun a hE=>Zp hE rfl (lkb rfl hb77) rfl (by decide) fun a hE=>Zp hE rfl (lkb rfl hb77) rfl (by decide) fun a hE=>Z7 hE (lkb rfl hb77) rfl ?_; intro a hE
           obtain ⟨x86,hi85,hl72⟩:=bvx hl72
           refine Zw hE rfl rfl Tryz.underlying74 ty4 hi85.1 ?_; intro a hE
           have hM:=hM.pull1
           refine Zg (seg:=[vT false]) (cs':=enc (s66.1.setIfInBounds (s66.2).toNat false)) hE hM Za rfl rfl rfl ty4 rfl (ZE (v:=s66.1) (x:=false) hi85.1) (Flat.cell (false : Bool)) (Zy (v:=s66.1) (x:=false) hi85.1) fun w a hM hE=>Zh ?_
           obtain rfl:=Option.some.inj hl72
           refine Zi ?_
           have hM:=hM.pull3.pull3.pull2.pull3
           exact ⟨hE.sub ⟨rfl,rfl,rfl,rfl,rfl,rfl,rfl,rfl,rfl,rfl,trivial⟩,hM⟩
         ·skip
          rintro a w ⟨hE,hM⟩
          refine Z9 (Zz (wp_region_lit (Zd hE rfl fun a hE=>Zl hE rfl rfl rfl fun a hE=>Zc hE rfl fun a hE=>Zh (Zi ?_))))
          exact ⟨_,(ois hF73),hE.sub ⟨rfl,rfl,rfl,rfl,rfl,rfl,rfl,rfl,rfl,rfl,trivial⟩,hM⟩
        ·intro hb70
         have hs67:=Zt hs67 hb70
         refine wp_exit (Zq (Zq (Yi ?_)))
         obtain rfl:=hx68 _ (ois hs67)
         refine Zi ?_
         have hM:=M.fst (l:=[_,_,_]) hM.pull3.pull3.pull3
         exact ⟨hE.sub ⟨rfl,rfl,rfl,rfl,rfl,rfl,rfl,rfl,trivial⟩,hM⟩
       ·skip
        rintro a w ⟨hE,hM⟩
        refine Z9 (Zz (wp_region_lit (Zd hE rfl fun a hE=>Zl hE rfl rfl rfl fun a hE=>Zc hE rfl fun a hE=>Zh (Zi ?_))))
        exact ⟨_,(ois hF65),hE.sub ⟨rfl,rfl,rfl,rfl,rfl,rfl,rfl,rfl,trivial⟩,hM⟩
     ·intro hb49
      have hs46:=Zt hs46 hb49
      refine wp_exit (Zq (Zq (Yi ?_)))
      obtain rfl:=hx47 _ (ois hs46)
      refine Zi ?_
      have hM:=M.fst (l:=[_]) hM
      exact ⟨hE.sub ⟨rfl,trivial⟩,hM⟩
    ·skip
     rintro a w ⟨hE,hM⟩
     refine Zz (Zb (Zk hE rfl Qm rfl hM.rawAt0 (Flat.len _) ?_)); intro a hE
     obtain ⟨r91,e92,hF44⟩:=bind_some hF44
     refine Zo hE rfl (cbm Tryz.func45) (KM _ j42 r91 e92) ?_
     rintro u93 w a ⟨_,rfl,hFr,hK⟩ hE
     have hM:=hM.add hK hFr
     refine Zc hE rfl fun a hE=>Zc hE rfl fun a hE=>Ze ?_
     obtain rfl:=Option.some.inj hF44
     have hM:=M.fst (l:=[_]) hM
     exact wp_ret (Xk hE rfl (ZF hE rfl) (ZF hE rfl) ⟨_,rfl,u93,rfl,hM.outF (WU WD),hM.kept⟩)
def YI (p0 : (List UInt8)) : Option (GCipher × (Vector UInt8 16) × (Vector UInt8 16) × Int × Int) :=
 (XN p0).bind fun r7=>(some (r7.1.Field,r7.1.Box,r7.1.Mix,r7.1.Places,r7.1.Rounds,r7.2.1,r7.2.2.1,r7.2.2.2.1,r7.2.2.2.2) : Option (Int × (Vector UInt8 256) × (Vector (Vector UInt8 4) 4) × (Vector UInt8 16) × Int × (Vector UInt8 16) × (Vector UInt8 16) × Int × Int)).bind fun j15=>some ((⟨j15.1,j15.2.1,j15.2.2.1,j15.2.2.2.1,j15.2.2.2.2.1⟩ : GCipher),j15.2.2.2.2.2.1,j15.2.2.2.2.2.2.1,j15.2.2.2.2.2.2.2.1,j15.2.2.2.2.2.2.2.2)
theorem T7 (w0 : World) (p0 : (List UInt8)) (v0_1 : Value) (hv0_1 : Ro w0 p0 [v0_1]) (r : GCipher × (Vector UInt8 16) × (Vector UInt8 16) × Int × Int) (hF : YI p0 = some r) :
  Calls Tryz.prog 19 [v0_1].toArray w0 (Rt w0 (Value.tuple [(Value.agg (enc r.1).toArray),(Value.agg (enc r.2.1).toArray),(Value.agg (enc r.2.2.1).toArray),vI r.2.2.2.1,vI r.2.2.2.2].toArray)):=by
 refine ce Tryz.func19 ?_
 intro a hE
 have hM:=M.start w0
 unfold YI at hF
 refine Zb (Zs hE hM ZT fun b1 w a hM hE=>Zs hE hM Zv fun b3 w a hM hE=>Zs hE hM Zv fun b5 w a hM hE=>Zc hE rfl fun a hE=>Zc hE rfl fun a hE=>Ze (Zb (Zd hE rfl ?_))); intro a hE
 obtain ⟨r7,e8,hF⟩:=bind_some hF
 refine Zo hE rfl cb28 (UI _ p0 v0_1 (hM.rdo hv0_1) r7 e8) ?_
 rintro v w a ⟨rfl,hK⟩ hE
 have hM:=hM.keep hK
 refine Zd hE rfl fun a hE=>Zx hE Za ld rfl rfl fun a hE=>Zx hE Za ld rfl rfl fun a hE=>Zx hE Za ld rfl rfl fun a hE=>Zx hE Za ld rfl rfl fun a hE=>Zx hE Za ld rfl rfl fun a hE=>Zs hE hM ZT fun b9 w a hM hE=>Zs hE hM Zv fun b11 w a hM hE=>Zs hE hM Zv ?_; intro b13 w a hM hE
 have hM:=hM.pull2
 refine Zg (seg:=cat [[vI r7.1.Field],enc r7.1.Box,enc r7.1.Mix,enc r7.1.Places,[vI r7.1.Rounds]]) (cs':=cat [[vI r7.1.Field],enc r7.1.Box,enc r7.1.Mix,enc r7.1.Places,[vI r7.1.Rounds]]) hE hM Za rfl rfl rfl ZT cq (Nat.le_of_eq ((Nat.zero_add _).trans (Eq.trans cq (Eq.symm cq)))) (Yf (cc1 (Flat.cell (r7.1.Field : Int)) (cc1 (Flat.cell _) (cc1 (Flat.cell _) (cc1 (Flat.cell _) (cc1 (Flat.cell (r7.1.Rounds : Int)) cc0)))))) (Zf (Eq.trans cq (Eq.symm cq))) ?_; intro w a hM hE
 have hM:=hM.pull2
 refine Zg (seg:=enc r7.2.1) (cs':=enc r7.2.1) hE hM Za rfl rfl rfl Zv (Flat.len _) (zle flq) (Flat.cell _) (Zf flq) ?_; intro w a hM hE
 have hM:=hM.pull2
 refine Zg (seg:=enc r7.2.2.1) (cs':=enc r7.2.2.1) hE hM Za rfl rfl rfl Zv (Flat.len _) (zle flq) (Flat.cell _) (Zf flq) fun w a hM hE=>Zc hE rfl fun a hE=>Zc hE rfl fun a hE=>Ze ?_
 obtain ⟨j15,hl16,hF17⟩:=bind_some hF
 refine ZQ (fun a w=>Env 25 a [(2,(ptr b1 0)),(3,(ptr b3 0)),(4,(ptr b5 0)),(5,vI j15.2.2.2.2.2.2.2.1),(6,vI j15.2.2.2.2.2.2.2.2)] ∧ M (Old w0) w0 w [raw b5 (enc j15.2.2.2.2.2.2.1),raw b3 (enc j15.2.2.2.2.2.1),raw b1 (cat [[vI j15.1],enc j15.2.1,enc j15.2.2.1,enc j15.2.2.2.1,[vI j15.2.2.2.2.1]])]) ?_ ?_
 ·skip
  have hM:=hM.pull5.pull5.pull5
  refine Wk (its:=[raw b13 (enc r7.2.2.1),raw b11 (enc r7.2.1),raw b9 (cat [[vI r7.1.Field],enc r7.1.Box,enc r7.1.Mix,enc r7.1.Places,[vI r7.1.Rounds]])]) (mk:=([mkT 5 (raw b1 (cat [[vI 0],enc (Vector.replicate 256 (0 : UInt8)),enc (Vector.replicate 4 (Vector.replicate 4 (0 : UInt8))),enc (Vector.replicate 16 (0 : UInt8)),[vI 0]])) (raw b1 (cat [[vI r7.1.Field],enc r7.1.Box,enc r7.1.Mix,enc r7.1.Places,[vI r7.1.Rounds]])),mkT 6 (raw b3 (enc (Vector.replicate 16 (0 : UInt8)))) (raw b3 (enc r7.2.1)),mkT 7 (raw b5 (enc (Vector.replicate 16 (0 : UInt8)))) (raw b5 (enc r7.2.2.1))] : Mk)) [20,21,22,23,24,30,31,32,5] Xm rfl rfl (by decide) rfl hE (fun u=>M.qT (M.qT (M.qT (M.q0 hM.drew u)))) (qsP (v:=(Value.agg (enc r7.1).toArray)) ?_ (qsP (v:=(Value.agg (enc r7.2.1).toArray)) ?_ (qsP (v:=(Value.agg (enc r7.2.2.1).toArray)) ?_ (qsP (fun z=>Zj z.E Za ld rfl (kr0 rfl)) (qsP (fun z=>Zj z.E Za ld rfl (kr0 rfl)) (qsM (pr:=fun v=>True) ?_ (qsM (pr:=fun v=>True) ?_ (qsM (pr:=fun v=>True) ?_ (qsP (fun z=>U6 z.E Za ld rfl (kr0 rfl)) qs0))))))))) ?_
  ·intro a w ux18 D z
   have hE:=z.E
   have hD : D 0 = false:=z.F
   have hM:=((z.M.togA (pre:=[_,_,_]) (VH (j:=5) (k:=0) z.c rfl rfl rfl hD)).togA (pre:=[_,_,_,_]) (VH (j:=6) (k:=2) z.c rfl rfl rfl hD)).togA (pre:=[_,_,_,_,_]) (VH (j:=7) (k:=2) z.c rfl rfl rfl hD)
   exact Zk hE rfl ZT rfl hM.rawAt2 cq fun a hE=>⟨Kept.refl _ _,_,rfl,hE⟩
  ·intro a w ux18 D z
   have hE:=z.E
   have hD : D 1 = false:=z.F
   have hM:=(z.M.togA (pre:=[_,_,_,_]) (VH (j:=6) (k:=0) z.c rfl rfl rfl hD)).togA (pre:=[_,_,_,_,_]) (VH (j:=7) (k:=3) z.c rfl rfl rfl hD)
   exact Zk hE rfl Zv rfl hM.rawAt1 (Flat.len _) fun a hE=>⟨Kept.refl _ _,_,rfl,hE⟩
  ·intro a w ux18 D z
   have hE:=z.E
   have hD : D 2 = false:=z.F
   have hM:=z.M.togA (pre:=[_,_,_,_,_]) (VH (j:=7) (k:=0) z.c rfl rfl rfl hD)
   exact Zk hE rfl Zv rfl hM.rawAt0 (Flat.len _) fun a hE=>⟨Kept.refl _ _,_,rfl,hE⟩
  ·intro a w ux18 D z
   have hE:=z.E
   have hD : D 5 = false:=z.F
   have hM:=(z.M.togA (pre:=[_,_,_]) hD).pull3
   exact Zg (seg:=cat [[vI r7.1.Field],enc r7.1.Box,enc r7.1.Mix,enc r7.1.Places,[vI r7.1.Rounds]]) (cs':=cat [[vI r7.1.Field],enc r7.1.Box,enc r7.1.Mix,enc r7.1.Places,[vI r7.1.Rounds]]) hE hM Za rfl rfl rfl ZT cq (Nat.le_of_eq ((Nat.zero_add _).trans (Eq.trans cq (Eq.symm cq)))) (Yf (cc1 (Flat.cell (r7.1.Field : Int)) (cc1 (Flat.cell _) (cc1 (Flat.cell _) (cc1 (Flat.cell _) (cc1 (Flat.cell (r7.1.Rounds : Int)) cc0)))))) (Zf (Eq.trans cq (Eq.symm cq))) fun w a hM hE=>⟨undef,_,rfl,Env.dummy hE (by decide),M.qTog (mk1:=[]) (mk2:=[_,_]) hM rfl,trivial⟩
  ·intro a w ux18 D z
   have hE:=z.E
   have hD : D 6 = false:=z.F
   have hM:=(z.M.togA (pre:=[_,_,_,_]) hD).pull4
   exact Zg (seg:=enc r7.2.1) (cs':=enc r7.2.1) hE hM Za rfl rfl rfl Zv (Flat.len _) (zle flq) (Flat.cell _) (Zf flq) fun w a hM hE=>⟨undef,_,rfl,Env.dummy hE (by decide),M.qTog (mk1:=[_]) (mk2:=[_]) hM rfl,trivial⟩
  ·intro a w ux18 D z
   have hE:=z.E
   have hD : D 7 = false:=z.F
   have hM:=(z.M.togA (pre:=[_,_,_,_,_]) hD).pull5
   exact Zg (seg:=enc r7.2.2.1) (cs':=enc r7.2.2.1) hE hM Za rfl rfl rfl Zv (Flat.len _) (zle flq) (Flat.cell _) (Zf flq) fun w a hM hE=>⟨undef,_,rfl,Env.dummy hE (by decide),M.qTog (mk1:=[_,_]) (mk2:=[]) hM rfl,trivial⟩
  ·intro a w ux18 D hE hM hG hall
   have d5:=hall 5 (by decide)
   have d6:=hall 6 (by decide)
   have d7:=hall 7 (by decide)
   have hM:=((hM.togB (pre:=[_,_,_]) d5).togB (pre:=[_,_,_,_]) d6).togB (pre:=[_,_,_,_,_]) d7
   refine Zc hE rfl fun a hE=>Zh ?_
   obtain rfl:=Option.some.inj hl16
   refine Zi ?_
   have hM:=M.fst (l:=[_,_,_]) hM.pull3.pull4.pull5
   exact ⟨hE.sub ⟨rfl,rfl,rfl,rfl,rfl,trivial⟩,hM⟩
 ·skip
  rintro a w ⟨hE,hM⟩
  obtain rfl:=Option.some.inj hF17
  have hq20 : ZX Tryz.prog _ _ (.cell 2 32) _:=ZN hE rfl ZT rfl hM.rawAt2 cq rfl
  have hq21 : ZX Tryz.prog _ _ (.cell 3 33) _:=ZN hE rfl Zv rfl hM.rawAt1 (Flat.len _) rfl
  have hq22 : ZX Tryz.prog _ _ (.cell 4 33) _:=ZN hE rfl Zv rfl hM.rawAt0 (Flat.len _) rfl
  exact wp_ret (zS hE rfl hq20 hq21 hq22 (ZF hE rfl) (ZF hE rfl) ⟨_,rfl,rfl,hM.kept⟩)
def YC (r11 : (List (Vector UInt8 16))) (s21 : (List Int) × Int) (s38 : (Vector Bool 256) × Int) : Option (Fl ((Vector Bool 256) × Int) (Vector Bool 256)) :=
 if (decide (s38.2 < (r11.length : Int))) = true then ((idx r11 s38.2).bind fun x43=>(ZB x43 s21.2).bind fun x49=>(ZB s38.1 (bI x49)).bind fun x52=>some (Fl.nx ((s38.1.setIfInBounds ((bI x49)).toNat true),wr (s38.2 + 1)))) else (some (Fl.ex s38.1))
def YA (r11 : (List (Vector UInt8 16))) (s21 : (List Int) × Int) : Option (Fl ((List Int) × Int) (List Int)) :=
 if (decide (s21.2 < 16)) = true then (((ZK (YC r11 s21) ((Vector.replicate 256 false),0)).bind fun j35=>(slc j35.toList (0 : Int) (256 : Int)).bind fun l55=>(Yt l55 false).bind fun r58=>(if (!r58) = true then ((app 8 s21.1 ([s21.2] : List Int)).bind fun l68=>some (s21.1 ++ ([s21.2] : List Int))) else (some s21.1) : Option ((List Int))).bind fun j60=>some j60 : Option ((List Int))).bind fun j28=>some (Fl.nx (j28,wr (s21.2 + 1)))) else (some (Fl.ex s21.1))
def Xd (p0 : GCipher) (p1 : (Vector UInt8 16)) (p2 : (Vector UInt8 16)) (p3 : Int) (p4 : Int) : Option ((List Int) × Int) :=
 (XX p0 p3 p4).bind fun r7=>if (r7 != 0) = true then (some ([],r7)) else ((VD p0 p1 p2 p3 p4).bind fun r11=>(ZK (YA r11) (([] : List Int),0)).bind fun j16=>some (j16,0))
theorem QJ (w0 : World) (p0 : GCipher) (p1 : (Vector UInt8 16)) (p2 : (Vector UInt8 16)) (p3 : Int) (p4 : Int) (r : (List Int) × Int) (hF : Xd p0 p1 p2 p3 p4 = some r) :
  Calls Tryz.prog 20 [(Value.agg (enc p0).toArray),(Value.agg (enc p1).toArray),(Value.agg (enc p2).toArray),vI p3,vI p4].toArray w0 (fun en w'=>∃ v,en = .returned v ∧ (∃ (y1 : Value),v = (Value.tuple [y1,vI r.2].toArray) ∧ Fr w0 w' [osl NoB (r.1 : List Int) y1] ∧ Kept (Old w0) w0 w')):=by
 refine ce Tryz.func20 ?_
 intro a hE
 have hM:=M.start w0
 unfold Xd at hF
 refine Zb (ZY (cs:=cat [[vI p0.Field],enc p0.Box,enc p0.Mix,enc p0.Places,[vI p0.Rounds]]) hE hM Za ld rfl rfl fun b1 w a hM hE=>ZY (cs:=enc p1) hE hM Za ld rfl rfl fun b3 w a hM hE=>ZY (cs:=enc p2) hE hM Za ld rfl rfl fun b5 w a hM hE=>Zc hE rfl fun a hE=>Zc hE rfl fun a hE=>Ze (wp_seq (Zb (Zk hE rfl ZT rfl hM.rawAt2 cq fun a hE=>Zd hE rfl fun a hE=>Zd hE rfl ?_)))); intro a hE
 obtain ⟨r7,e8,hF⟩:=bind_some hF
 refine Zo hE rfl cb29 (Tb _ p0 p3 p4 r7 e8) ?_
 rintro v w a ⟨rfl,hK⟩ hE
 have hM:=hM.keep hK
 refine Zc hE rfl fun a hE=>Ze (Zb (Zd hE rfl fun a hE=>Zl hE rfl rfl rfl fun a hE=>Ze ?_))
 refine Zr hE rfl ?_ ?_
 ·intro hb9
  have hF:=Zu hF hb9
  refine Zb (Zd hE rfl fun a hE=>Zc hE rfl fun a hE=>Zc hE rfl fun a hE=>Ze ?_)
  have hM:=M.nilS (α:=Int) NoB noB hM
  obtain rfl:=Option.some.inj hF
  have hM:=M.fst (l:=[_]) hM
  exact wp_ret (ZI (Xk hE rfl (ZF hE rfl) (ZF hE rfl) ⟨_,rfl,(Value.slice none 0 0),rfl,hM.outF (WU WD),hM.kept⟩))
 ·intro hb9
  have hF:=Zt hF hb9
  refine wp_skip (Zz (Zb (Zk hE rfl ZT rfl hM.rawAt2 cq fun a hE=>Zk hE rfl Zv rfl hM.rawAt1 (Flat.len _) fun a hE=>Zk hE rfl Zv rfl hM.rawAt0 (Flat.len _) fun a hE=>Zd hE rfl fun a hE=>Zd hE rfl ?_))); intro a hE
  obtain ⟨r11,e12,hF⟩:=bind_some hF
  refine Zo hE rfl cb30 (Kz _ p0 p1 p2 p3 p4 r11 e12) ?_
  rintro u13 w a ⟨_,rfl,hFr,hK⟩ hE
  have hM:=hM.add hK hFr
  refine Yc (xs:=[]) (l:=([] : List Int)) (vs:=[]) hE hM Za ld rfl rfl Tryz.underlying44 ty2 rfl (by decide) rfl fun u14 w a hM hE=>Zc hE rfl fun a hE=>Zc hE rfl fun a hE=>Ze (wp_seq (Zb (Zd hE rfl fun a hE=>Ze ?_)))
  obtain ⟨j16,hl17,hF18⟩:=bind_some hF
  refine ZS (fun a w=>∃ (u19 : Value),Env 57 a [(14,u19)] ∧ M (Old w0) w0 w [osl NoB (j16 : List Int) u19]) ?_ ?_
  ·skip
   refine wp_block ?_
   have hM:=M.fst (l:=[_,_]) hM.pull1
   refine ZO (fun (s21 : (List Int) × Int) a w=>∃ (u22 : Value),Env 57 a [(13,u13),(14,u22),(33,vI s21.2)] ∧ M (Old w0) w0 w [osl NoB (r11 : List (Vector UInt8 16)) u13,osl NoB (s21.1 : List Int) u22]) hl17 ⟨u14,hE.sub ⟨rfl,rfl,rfl,trivial⟩,hM⟩ ?_
   rintro s21 a w ⟨u22,hE,hM⟩ o26 hs24 hx25
   unfold YA at hs24
   refine Zb (Zl hE rfl rfl rfl fun a hE=>Ze (wp_seq ?_))
   refine Zr hE rfl ?_ ?_
   ·intro hb27
    have hs24:=Zu hs24 hb27
    refine wp_skip (Zz ?_)
    obtain ⟨j28,hl29,hF30⟩:=bind_some hs24
    refine ZQ (fun a w=>∃ (u31 : Value),Env 57 a [(13,u13),(14,u31),(33,vI s21.2)] ∧ M (Old w0) w0 w [osl NoB (r11 : List (Vector UInt8 16)) u13,osl NoB (j28 : List Int) u31]) ?_ ?_
    ·skip
     refine wp_block (Zb (Zd hE rfl fun a hE=>Zc hE rfl fun a hE=>Ze (Zb (Z8 (parts:=[]) (vs:=[]) (cs:=enc (Vector.replicate 256 false)) hE Za ld rfl rfl Qm rfl ty4 ZZ fun a hE=>Zs hE hM Qm fun b33 w a hM hE=>Zg (seg:=enc (Vector.replicate 256 false)) (cs':=enc (Vector.replicate 256 false)) hE hM Za rfl rfl rfl Qm (Flat.len _) (zle flq) (Flat.cell _) (Zf flq) fun w a hM hE=>Ze (wp_seq (Zb (Zd hE rfl fun a hE=>Wm hE rfl Tryz.underlying36 (hM.sl (pre:=[_]) noB) fun a hE=>Zd hE rfl fun a hE=>Ze ?_)))))))
     obtain ⟨j35,hl36,hF37⟩:=bind_some hl29
     refine ZS (fun a w=>Env 57 a [(13,u13),(14,u22),(15,vI s21.2),(16,(ptr b33 0)),(33,vI s21.2)] ∧ M (Old w0) w0 w [raw b33 (enc j35),osl NoB (r11 : List (Vector UInt8 16)) u13,osl NoB (s21.1 : List Int) u22]) ?_ ?_
     ·skip
      refine wp_block ?_
      refine ZO (fun (s38 : (Vector Bool 256) × Int) a w=>Env 57 a [(13,u13),(14,u22),(15,vI s21.2),(16,(ptr b33 0)),(33,vI s21.2),(37,u13),(38,(vI (r11.length : Int))),(39,vI s38.2)] ∧ M (Old w0) w0 w [raw b33 (enc s38.1),osl NoB (r11 : List (Vector UInt8 16)) u13,osl NoB (s21.1 : List Int) u22]) hl36 ⟨hE.sub ⟨rfl,rfl,rfl,rfl,rfl,rfl,rfl,rfl,trivial⟩,hM⟩ ?_
      rintro s38 a w ⟨hE,hM⟩ o41 hs39 hx40
      unfold YC at hs39
      refine Zb (Zl hE rfl rfl rfl fun a hE=>Ze (wp_seq ?_))
      refine Zr hE rfl ?_ ?_
      ·intro hb42
       have hs39:=Zu hs39 hb42
       refine wp_skip (Zz (wp_seq (wp_block (Zb ?_))))
       obtain ⟨x43,hi45,hs39⟩:=bix hs39
       refine XM hE rfl rfl Tryz.underlying36 Zv (hM.sl (pre:=[_]) noB) hi45.1 fun a hE=>Zk hE rfl Zv rfl (Y1 (hM.sl (pre:=[_]) noB) hi45.2) (Flat.len _) fun a hE=>Zs hE hM Zv fun b46 w a hM hE=>Zg (seg:=enc x43) (cs':=enc x43) hE hM Za rfl rfl rfl Zv (Flat.len _) (zle flq) (Flat.cell _) (Zf flq) fun w a hM hE=>Ze (wp_region_lit (Zd hE rfl ?_)); intro a hE
       obtain ⟨x49,hi48,hs39⟩:=bvx hs39
       refine Zw hE rfl rfl Tryz.underlying33 ty5 hi48.1 fun a hE=>ZR (v:=(vB x49)) hE rfl ty5 rfl (At.vec hM.rawAt0 hi48.2) ?_; intro a hE
       obtain ⟨x52,hi51,hs39⟩:=bvx hs39
       refine Zw hE rfl rfl Tryz.underlying74 ty4 hi51.1 ?_; intro a hE
       have hM:=hM.pull1
       refine Zg (seg:=[vT true]) (cs':=enc (s38.1.setIfInBounds ((bI x49)).toNat true)) hE hM Za rfl rfl rfl ty4 rfl (ZE (v:=s38.1) (x:=true) hi51.1) (Flat.cell (true : Bool)) (Zy (v:=s38.1) (x:=true) hi51.1) fun w a hM hE=>Zh (Z9 (Zz (wp_region_lit (Zl hE rfl rfl rfl fun a hE=>Zd hE rfl fun a hE=>Zh (Zi ?_)))))
       have hM:=M.fst (l:=[_,_,_]) hM.pull3.pull3.pull2
       exact ⟨_,(ois hs39),hE.sub ⟨rfl,rfl,rfl,rfl,rfl,rfl,rfl,rfl,trivial⟩,hM⟩
      ·intro hb42
       have hs39:=Zt hs39 hb42
       refine wp_exit (Zq (Zq (Yi ?_)))
       obtain rfl:=hx40 _ (ois hs39)
       refine Zi ?_
       exact ⟨hE.sub ⟨rfl,rfl,rfl,rfl,rfl,trivial⟩,hM⟩
     ·skip
      rintro a w ⟨hE,hM⟩
      refine Zz (Zb ?_)
      obtain ⟨l55,e56,hF37⟩:=bind_some hF37
      have hb57:=BA e56 -- ^
      refine Kw (N:=256) hE Za ld rfl rfl rfl rfl rfl Tryz.underlying74 ty4 hb57 ?_; intro a hE
      obtain ⟨r58,e59,hF37⟩:=bind_some hF37
      refine Zo hE rfl (cbm Tryz.func53) (Up _ l55 (Vh (.slice (some ⟨b33,0,none⟩) 256 256) ((0 : Int)).toNat ((256 : Int)).toNat 1) (Hn (At.sat hM.rawAt0 (by simp) (by decide)) e56) false r58 e59) ?_
      rintro v w a ⟨rfl,hK⟩ hE
      have hM:=hM.keep hK
      refine TH hE rfl fun a hE=>Ze ?_
      obtain ⟨j60,hl61,hF62⟩:=bind_some hF37
      refine ZS (fun a w=>∃ (u63 : Value),Env 57 a [(13,u13),(14,u63),(33,vI s21.2)] ∧ M (Old w0) w0 w [osl NoB (r11 : List (Vector UInt8 16)) u13,osl NoB (j60 : List Int) u63]) ?_ ?_
      ·skip
       refine Zr hE rfl ?_ ?_
       ·intro hb65
        have hl61:=Zu hl61 hb65
        refine wp_region_lit (Zd hE rfl fun a hE=>Zd hE rfl fun a hE=>Yc (xs:=[.tmp 52]) (l:=([s21.2] : List Int)) (vs:=[vI s21.2]) hE hM Za ld rfl rfl Tryz.underlying44 ty2 rfl (by decide) rfl ?_); intro u66 w a hM hE
        obtain ⟨l68,e69,hl61⟩:=bind_some hl61
        obtain ⟨e72,rfl⟩:=U3 e69
        have hM:=hM.pull3
        refine Uo hE hM Za ld rfl rfl (hM.sl (pre:=[_]) noB) Tryz.underlying44 ty2 rfl (by decide) e72 fun u70 w a hM hE=>Zc hE rfl fun a hE=>Zh ?_
        obtain rfl:=Option.some.inj hl61
        refine Zi ?_
        have hM:=M.fst (l:=[_,_]) hM.pull3
        exact ⟨u70,hE.sub ⟨rfl,rfl,rfl,trivial⟩,hM⟩
       ·intro hb65
        have hl61:=Zt hl61 hb65
        refine wp_skip ?_
        obtain rfl:=Option.some.inj hl61
        refine Zi ?_
        have hM:=M.fst (l:=[_,_]) hM.pull2.pull2
        exact ⟨u22,hE.sub ⟨rfl,rfl,rfl,trivial⟩,hM⟩
      ·skip
       rintro a w ⟨u63,hE,hM⟩
       refine Z9 ?_
       obtain rfl:=Option.some.inj hF62
       refine Zi ?_
       exact ⟨u63,hE.sub ⟨rfl,rfl,rfl,trivial⟩,hM⟩
    ·skip
     rintro a w ⟨u31,hE,hM⟩
     refine wp_region_lit (Zl hE rfl rfl rfl fun a hE=>Zd hE rfl fun a hE=>Zh (Zi ?_))
     exact ⟨_,(ois hF30),u31,hE.sub ⟨rfl,rfl,rfl,trivial⟩,hM⟩
   ·intro hb27
    have hs24:=Zt hs24 hb27
    refine wp_exit (Zq (Zq (Yi ?_)))
    obtain rfl:=hx25 _ (ois hs24)
    refine Zi ?_
    have hM:=M.fst (l:=[_]) hM.pull1
    exact ⟨u22,hE.sub ⟨rfl,trivial⟩,hM⟩
  ·skip
   rintro a w ⟨u19,hE,hM⟩
   refine Zz (Zb (Zd hE rfl fun a hE=>Zc hE rfl fun a hE=>Zc hE rfl fun a hE=>Ze ?_))
   obtain rfl:=Option.some.inj hF18
   exact wp_ret (Xk hE rfl (ZF hE rfl) (ZF hE rfl) ⟨_,rfl,u19,rfl,hM.outF (WU WD),hM.kept⟩)
def Yy (r11 : (List (Vector UInt8 16))) (s21 : (List Int) × Int) (s38 : (Vector Bool 256) × Bool × Int) : Option (Fl ((Vector Bool 256) × Bool × Int) Bool) :=
 if (decide (s38.2.2 < 256)) = true then ((if s38.2.1 = true then ((idx r11 s38.2.2).bind fun x47=>(ZB x47 s21.2).bind fun x51=>(ZB s38.1 (bI x51)).bind fun x54=>some (!x54)) else (some false) : Option (Bool)).bind fun j43=>(idx r11 s38.2.2).bind fun x58=>(ZB x58 s21.2).bind fun x62=>(ZB s38.1 (bI x62)).bind fun x65=>some (Fl.nx ((s38.1.setIfInBounds ((bI x62)).toNat true),j43,wr (s38.2.2 + 1)))) else (some (Fl.ex s38.2.1))
def Yz (r11 : (List (Vector UInt8 16))) (s21 : (List Int) × Int) : Option (Fl ((List Int) × Int) (List Int)) :=
 if (decide (s21.2 < 16)) = true then (((ZK (Yy r11 s21) ((Vector.replicate 256 false),true,0)).bind fun j35=>(if j35 = true then ((app 8 s21.1 ([s21.2] : List Int)).bind fun l76=>some (s21.1 ++ ([s21.2] : List Int))) else (some s21.1) : Option ((List Int))).bind fun j68=>some j68 : Option ((List Int))).bind fun j28=>some (Fl.nx (j28,wr (s21.2 + 1)))) else (some (Fl.ex s21.1))
def Xc (p0 : GCipher) (p1 : (Vector UInt8 16)) (p2 : (Vector UInt8 16)) (p3 : Int) (p4 : Int) : Option ((List Int) × Int) :=
 (XK p0 p3 p4).bind fun r7=>if (r7 != 0) = true then (some ([],r7)) else ((Xi p0 p1 p2 p3 p4).bind fun r11=>(ZK (Yz r11) (([] : List Int),0)).bind fun j16=>some (j16,0))
theorem QI (w0 : World) (p0 : GCipher) (p1 : (Vector UInt8 16)) (p2 : (Vector UInt8 16)) (p3 : Int) (p4 : Int) (r : (List Int) × Int) (hF : Xc p0 p1 p2 p3 p4 = some r) :
  Calls Tryz.prog 21 [(Value.agg (enc p0).toArray),(Value.agg (enc p1).toArray),(Value.agg (enc p2).toArray),vI p3,vI p4].toArray w0 (fun en w'=>∃ v,en = .returned v ∧ (∃ (y1 : Value),v = (Value.tuple [y1,vI r.2].toArray) ∧ Fr w0 w' [osl NoB (r.1 : List Int) y1] ∧ Kept (Old w0) w0 w')):=by
 refine ce Tryz.func21 ?_
 intro a hE
 have hM:=M.start w0
 unfold Xc at hF
 refine Zb (ZY (cs:=cat [[vI p0.Field],enc p0.Box,enc p0.Mix,enc p0.Places,[vI p0.Rounds]]) hE hM Za ld rfl rfl fun b1 w a hM hE=>ZY (cs:=enc p1) hE hM Za ld rfl rfl fun b3 w a hM hE=>ZY (cs:=enc p2) hE hM Za ld rfl rfl fun b5 w a hM hE=>Zc hE rfl fun a hE=>Zc hE rfl fun a hE=>Ze (wp_seq (Zb (Zk hE rfl ZT rfl hM.rawAt2 cq fun a hE=>Zd hE rfl fun a hE=>Zd hE rfl ?_)))); intro a hE
 obtain ⟨r7,e8,hF⟩:=bind_some hF
 refine Zo hE rfl cb31 (Ux _ p0 p3 p4 r7 e8) ?_
 rintro v w a ⟨rfl,hK⟩ hE
 have hM:=hM.keep hK
 refine Zc hE rfl fun a hE=>Ze (Zb (Zd hE rfl fun a hE=>Zl hE rfl rfl rfl fun a hE=>Ze ?_))
 refine Zr hE rfl ?_ ?_
 ·intro hb9
  have hF:=Zu hF hb9
  refine Zb (Zd hE rfl fun a hE=>Zc hE rfl fun a hE=>Zc hE rfl fun a hE=>Ze ?_)
  have hM:=M.nilS (α:=Int) NoB noB hM
  obtain rfl:=Option.some.inj hF
  have hM:=M.fst (l:=[_]) hM
  exact wp_ret (ZI (Xk hE rfl (ZF hE rfl) (ZF hE rfl) ⟨_,rfl,(Value.slice none 0 0),rfl,hM.outF (WU WD),hM.kept⟩))
 ·intro hb9
  have hF:=Zt hF hb9
  refine wp_skip (Zz (Zb (Zk hE rfl ZT rfl hM.rawAt2 cq fun a hE=>Zk hE rfl Zv rfl hM.rawAt1 (Flat.len _) fun a hE=>Zk hE rfl Zv rfl hM.rawAt0 (Flat.len _) fun a hE=>Zd hE rfl fun a hE=>Zd hE rfl ?_))); intro a hE
  obtain ⟨r11,e12,hF⟩:=bind_some hF
  refine Zo hE rfl cb32 (Un _ p0 p1 p2 p3 p4 r11 e12) ?_
  rintro u13 w a ⟨_,rfl,hFr,hK⟩ hE
  have hM:=hM.add hK hFr
  refine Yc (xs:=[]) (l:=([] : List Int)) (vs:=[]) hE hM Za ld rfl rfl Tryz.underlying44 ty2 rfl (by decide) rfl fun u14 w a hM hE=>Zc hE rfl fun a hE=>Zc hE rfl fun a hE=>Ze (wp_seq (Zb (Zc hE rfl fun a hE=>Ze ?_)))
  obtain ⟨j16,hl17,hF18⟩:=bind_some hF
  refine ZS (fun a w=>∃ (u19 : Value),Env 67 a [(14,u19)] ∧ M (Old w0) w0 w [osl NoB (j16 : List Int) u19]) ?_ ?_
  ·skip
   refine wp_block ?_
   have hM:=M.fst (l:=[_,_]) hM.pull1
   refine ZO (fun (s21 : (List Int) × Int) a w=>∃ (u22 : Value),Env 67 a [(13,u13),(14,u22),(15,vI s21.2)] ∧ M (Old w0) w0 w [osl NoB (r11 : List (Vector UInt8 16)) u13,osl NoB (s21.1 : List Int) u22]) hl17 ⟨u14,hE.sub ⟨rfl,rfl,rfl,trivial⟩,hM⟩ ?_
   rintro s21 a w ⟨u22,hE,hM⟩ o26 hs24 hx25
   unfold Yz at hs24
   refine wp_seq (Zb (Zd hE rfl fun a hE=>Zl hE rfl rfl rfl fun a hE=>Ze ?_))
   refine Zr hE rfl ?_ ?_
   ·intro hb27
    have hs24:=Zu hs24 hb27
    refine wp_skip (Zz ?_)
    obtain ⟨j28,hl29,hF30⟩:=bind_some hs24
    refine ZQ (fun a w=>∃ (u31 : Value),Env 67 a [(13,u13),(14,u31),(15,vI s21.2)] ∧ M (Old w0) w0 w [osl NoB (r11 : List (Vector UInt8 16)) u13,osl NoB (j28 : List Int) u31]) ?_ ?_
    ·skip
     refine wp_block (Zb (Z8 (parts:=[]) (vs:=[]) (cs:=enc (Vector.replicate 256 false)) hE Za ld rfl rfl Qm rfl ty4 ZZ fun a hE=>Zs hE hM Qm fun b33 w a hM hE=>Zg (seg:=enc (Vector.replicate 256 false)) (cs':=enc (Vector.replicate 256 false)) hE hM Za rfl rfl rfl Qm (Flat.len _) (zle flq) (Flat.cell _) (Zf flq) fun w a hM hE=>Zc hE rfl fun a hE=>Ze (wp_seq (Zb (Zc hE rfl fun a hE=>Ze ?_)))))
     obtain ⟨j35,hl36,hF37⟩:=bind_some hl29
     refine ZS (fun a w=>Env 67 a [(13,u13),(14,u22),(15,vI s21.2),(17,vT j35)] ∧ M (Old w0) w0 w [osl NoB (r11 : List (Vector UInt8 16)) u13,osl NoB (s21.1 : List Int) u22]) ?_ ?_
     ·skip
      refine wp_block ?_
      refine ZO (fun (s38 : (Vector Bool 256) × Bool × Int) a w=>Env 67 a [(13,u13),(14,u22),(15,vI s21.2),(16,(ptr b33 0)),(17,vT s38.2.1),(18,vI s38.2.2)] ∧ M (Old w0) w0 w [raw b33 (enc s38.1),osl NoB (r11 : List (Vector UInt8 16)) u13,osl NoB (s21.1 : List Int) u22]) hl36 ⟨hE.sub ⟨rfl,rfl,rfl,rfl,rfl,rfl,trivial⟩,hM⟩ ?_
      rintro s38 a w ⟨hE,hM⟩ o41 hs39 hx40
      unfold Yy at hs39
      refine wp_seq (Zb (Zd hE rfl fun a hE=>Zl hE rfl rfl rfl fun a hE=>Ze ?_))
      refine Zr hE rfl ?_ ?_
      ·intro hb42
       have hs39:=Zu hs39 hb42
       refine wp_skip (Zz (wp_seq (wp_block ?_)))
       obtain ⟨j43,hl44,hF45⟩:=bind_some hs39
       refine ZQ (fun a w=>Env 67 a [(13,u13),(14,u22),(15,vI s21.2),(16,(ptr b33 0)),(17,vT j43),(18,vI s38.2.2)] ∧ M (Old w0) w0 w [raw b33 (enc s38.1),osl NoB (r11 : List (Vector UInt8 16)) u13,osl NoB (s21.1 : List Int) u22]) ?_ ?_
       ·skip
        refine wp_region_lit (Zd hE rfl fun a hE=>Zd hE rfl ?_); intro a hE
        refine YF s38.2.1 (fun hb46=>?_) (fun hb46=>?_)
        ·have hl44:=Zu hl44 hb46
         refine Zj hE (Zm hE rfl (lkb rfl hb46)) (by decide) rfl fun a hE=>Zj hE (Zm hE rfl (lkb rfl hb46)) (by decide) rfl fun a hE=>Zj hE (Zm hE rfl (lkb rfl hb46)) (by decide) rfl ?_; intro a hE
         obtain ⟨x47,hi49,hl44⟩:=bix hl44
         refine X7 hE (Zm hE rfl (lkb rfl hb46)) (by decide) rfl rfl Tryz.underlying36 Zv (hM.sl (pre:=[_]) noB) hi49.1 ?_; intro a hE
         obtain ⟨x51,hi50,hl44⟩:=bvx hl44
         refine ZA hE (Zm hE rfl (lkb rfl hb46)) (by decide) rfl rfl Tryz.underlying33 ty5 hi50.1 fun a hE=>Z0 (v:=(vB x51)) hE (Zm hE rfl (lkb rfl hb46)) (by decide) rfl ty5 rfl (At.vec (Y1 (hM.sl (pre:=[_]) noB) hi49.2) hi50.2) ?_; intro a hE
         obtain ⟨x54,hi53,hl44⟩:=bvx hl44
         refine ZA hE (Zm hE rfl (lkb rfl hb46)) (by decide) rfl rfl Tryz.underlying74 ty4 hi53.1 fun a hE=>Z0 (v:=(vT x54)) hE (Zm hE rfl (lkb rfl hb46)) (by decide) rfl ty4 rfl (At.vec hM.rawAt0 hi53.2) fun a hE=>Q0 hE (Zm hE rfl (lkb rfl hb46)) (by decide) rfl fun a hE=>ZW hE (lkb rfl hb46) rfl fun a hE=>Zc hE rfl fun a hE=>Zh ?_
         obtain rfl:=Option.some.inj hl44
         refine Zi ?_
         exact ⟨hE.sub ⟨rfl,rfl,rfl,rfl,rfl,rfl,trivial⟩,hM⟩
        ·have hl44:=Zt hl44 hb46
         refine Zp hE rfl (lkb rfl hb46) rfl (by decide) fun a hE=>Zp hE rfl (lkb rfl hb46) rfl (by decide) fun a hE=>Zp hE rfl (lkb rfl hb46) rfl (by decide) fun a hE=>Zp hE rfl (lkb rfl hb46) rfl (by decide) fun a hE=>Zp hE rfl (lkb rfl hb46) rfl (by decide) fun a hE=>Zp hE rfl (lkb rfl hb46) rfl (by decide) fun a hE=>Zp hE rfl (lkb rfl hb46) rfl (by decide) fun a hE=>Zp hE rfl (lkb rfl hb46) rfl (by decide) fun a hE=>Zp hE rfl (lkb rfl hb46) rfl (by decide) fun a hE=>Z7 hE (lkb rfl hb46) rfl fun a hE=>Zc hE rfl fun a hE=>Zh ?_
         obtain rfl:=Option.some.inj hl44
         refine Zi ?_
         exact ⟨hE.sub ⟨rfl,rfl,rfl,rfl,rfl,rfl,trivial⟩,hM⟩
       ·skip
        rintro a w ⟨hE,hM⟩
        refine wp_region_lit (Zd hE rfl fun a hE=>Zd hE rfl fun a hE=>Zd hE rfl ?_); intro a hE
        obtain ⟨x58,hi60,hF45⟩:=bix hF45
        refine XM hE rfl rfl Tryz.underlying36 Zv (hM.sl (pre:=[_]) noB) hi60.1 ?_; intro a hE
        obtain ⟨x62,hi61,hF45⟩:=bvx hF45
        refine Zw hE rfl rfl Tryz.underlying33 ty5 hi61.1 fun a hE=>ZR (v:=(vB x62)) hE rfl ty5 rfl (At.vec (Y1 (hM.sl (pre:=[_]) noB) hi60.2) hi61.2) ?_; intro a hE
        obtain ⟨x65,hi64,hF45⟩:=bvx hF45
        refine Zw hE rfl rfl Tryz.underlying74 ty4 hi64.1 fun a hE=>Zg (seg:=[vT true]) (cs':=enc (s38.1.setIfInBounds ((bI x62)).toNat true)) hE hM Za rfl rfl rfl ty4 rfl (ZE (v:=s38.1) (x:=true) hi64.1) (Flat.cell (true : Bool)) (Zy (v:=s38.1) (x:=true) hi64.1) fun w a hM hE=>Zh (Z9 (Zz (wp_region_lit (Zd hE rfl fun a hE=>Zl hE rfl rfl rfl fun a hE=>Zc hE rfl fun a hE=>Zh (Zi ?_)))))
        exact ⟨_,(ois hF45),hE.sub ⟨rfl,rfl,rfl,rfl,rfl,rfl,trivial⟩,hM⟩
      ·intro hb42
       have hs39:=Zt hs39 hb42
       refine wp_exit (Zq (Zq (Yi ?_)))
       obtain rfl:=hx40 _ (ois hs39)
       refine Zi ?_
       have hM:=M.fst (l:=[_,_]) hM.pull2.pull2
       exact ⟨hE.sub ⟨rfl,rfl,rfl,rfl,trivial⟩,hM⟩
     ·skip
      rintro a w ⟨hE,hM⟩
      refine Zz (Zb (Zd hE rfl fun a hE=>Ze ?_))
      obtain ⟨j68,hl69,hF70⟩:=bind_some hF37
      refine ZS (fun a w=>∃ (u71 : Value),Env 67 a [(13,u13),(14,u71),(15,vI s21.2)] ∧ M (Old w0) w0 w [osl NoB (r11 : List (Vector UInt8 16)) u13,osl NoB (j68 : List Int) u71]) ?_ ?_
      ·skip
       refine Zr hE rfl ?_ ?_
       ·intro hb73
        have hl69:=Zu hl69 hb73
        refine wp_region_lit (Zd hE rfl fun a hE=>Zd hE rfl fun a hE=>Yc (xs:=[.tmp 63]) (l:=([s21.2] : List Int)) (vs:=[vI s21.2]) hE hM Za ld rfl rfl Tryz.underlying44 ty2 rfl (by decide) rfl ?_); intro u74 w a hM hE
        obtain ⟨l76,e77,hl69⟩:=bind_some hl69
        obtain ⟨e80,rfl⟩:=U3 e77
        have hM:=hM.pull2
        refine Uo hE hM Za ld rfl rfl (hM.sl (pre:=[_]) noB) Tryz.underlying44 ty2 rfl (by decide) e80 fun u78 w a hM hE=>Zc hE rfl fun a hE=>Zh ?_
        obtain rfl:=Option.some.inj hl69
        refine Zi ?_
        have hM:=M.fst (l:=[_,_]) hM.pull2
        exact ⟨u78,hE.sub ⟨rfl,rfl,rfl,trivial⟩,hM⟩
       ·intro hb73
        have hl69:=Zt hl69 hb73
        refine wp_skip ?_
        obtain rfl:=Option.some.inj hl69
        refine Zi ?_
        exact ⟨u22,hE.sub ⟨rfl,rfl,rfl,trivial⟩,hM⟩
      ·skip
       rintro a w ⟨u71,hE,hM⟩
       refine Z9 ?_
       obtain rfl:=Option.some.inj hF70
       refine Zi ?_
       exact ⟨u71,hE.sub ⟨rfl,rfl,rfl,trivial⟩,hM⟩
    ·skip
     rintro a w ⟨u31,hE,hM⟩
     refine wp_region_lit (Zd hE rfl fun a hE=>Zl hE rfl rfl rfl fun a hE=>Zc hE rfl fun a hE=>Zh (Zi ?_))
     exact ⟨_,(ois hF30),u31,hE.sub ⟨rfl,rfl,rfl,trivial⟩,hM⟩
   ·intro hb27
    have hs24:=Zt hs24 hb27
    refine wp_exit (Zq (Zq (Yi ?_)))
    obtain rfl:=hx25 _ (ois hs24)
    refine Zi ?_
    have hM:=M.fst (l:=[_]) hM.pull1
    exact ⟨u22,hE.sub ⟨rfl,trivial⟩,hM⟩
  ·skip
   rintro a w ⟨u19,hE,hM⟩
   refine Zz (Zb (Zd hE rfl fun a hE=>Zc hE rfl fun a hE=>Zc hE rfl fun a hE=>Ze ?_))
   obtain rfl:=Option.some.inj hF18
   exact wp_ret (Xk hE rfl (ZF hE rfl) (ZF hE rfl) ⟨_,rfl,u19,rfl,hM.outF (WU WD),hM.kept⟩)
def UQ (p0 : (Vector UInt8 16)) (p1 : (Vector UInt8 16)) (s12 : (Vector UInt8 16) × Int) : Option (Fl ((Vector UInt8 16) × Int) (Vector UInt8 16)) :=
 if (decide (s12.2 < 16)) = true then ((ZB p0 s12.2).bind fun x19=>(ZB p1 s12.2).bind fun x22=>(ZB s12.1 s12.2).bind fun x25=>some (Fl.nx ((s12.1.setIfInBounds (s12.2).toNat (x19 ^^^ x22)),wr (s12.2 + 1)))) else (some (Fl.ex s12.1))
def T3 (p0 : (Vector UInt8 16)) (p1 : (Vector UInt8 16)) : Option ((Vector UInt8 16)) :=
 (ZK (UQ p0 p1) ((Vector.replicate 16 (0 : UInt8)),0)).bind fun j9=>some j9
theorem yz (w0 : World) (p0 : (Vector UInt8 16)) (p1 : (Vector UInt8 16)) (r : (Vector UInt8 16)) (hF : T3 p0 p1 = some r) :
  Calls Tryz.prog 22 [(Value.agg (enc p0).toArray),(Value.agg (enc p1).toArray)].toArray w0 (Rt w0 (Value.agg (enc r).toArray)):=by
 refine ce Tryz.func22 ?_
 intro a hE
 have hM:=M.start w0
 unfold T3 at hF
 refine Zb (ZY (cs:=enc p0) hE hM Za ld rfl rfl fun b1 w a hM hE=>ZY (cs:=enc p1) hE hM Za ld rfl rfl fun b3 w a hM hE=>Zs hE hM Zv fun b5 w a hM hE=>Ze (Zb (Z8 (parts:=[]) (vs:=[]) (cs:=enc (Vector.replicate 16 (0 : UInt8))) hE Za ld rfl rfl Zv rfl ty5 ZZ fun a hE=>Zs hE hM Zv fun b7 w a hM hE=>Zg (seg:=enc (Vector.replicate 16 (0 : UInt8))) (cs':=enc (Vector.replicate 16 (0 : UInt8))) hE hM Za rfl rfl rfl Zv (Flat.len _) (zle flq) (Flat.cell _) (Zf flq) fun w a hM hE=>Ze (wp_seq (Zb (Zc hE rfl fun a hE=>Ze ?_))))))
 obtain ⟨j9,hl10,hF11⟩:=bind_some hF
 refine ZS (fun a w=>Env 22 a [(4,(ptr b5 0)),(5,(ptr b7 0))] ∧ M (Old w0) w0 w [raw b7 (enc j9),raw b5 (enc (Vector.replicate 16 (0 : UInt8)))]) ?_ ?_
 ·skip
  refine wp_block ?_
  refine ZO (fun (s12 : (Vector UInt8 16) × Int) a w=>Env 22 a [(2,(ptr b1 0)),(3,(ptr b3 0)),(4,(ptr b5 0)),(5,(ptr b7 0)),(6,vI s12.2)] ∧ M (Old w0) w0 w [raw b7 (enc s12.1),raw b5 (enc (Vector.replicate 16 (0 : UInt8))),raw b3 (enc p1),raw b1 (enc p0)]) hl10 ⟨hE.sub ⟨rfl,rfl,rfl,rfl,rfl,trivial⟩,hM⟩ ?_
  rintro s12 a w ⟨hE,hM⟩ o15 hs13 hx14
  unfold UQ at hs13
  refine wp_seq (Zb (Zd hE rfl fun a hE=>Zl hE rfl rfl rfl fun a hE=>Ze ?_))
  refine Zr hE rfl ?_ ?_
  ·intro hb16
   have hs13:=Zu hs13 hb16
   refine wp_skip (Zz (wp_seq (wp_block ?_)))
   obtain ⟨x19,hi18,hs13⟩:=bvx hs13
   obtain ⟨x22,hi21,hs13⟩:=bvx hs13
   obtain ⟨x25,hi24,hs13⟩:=bvx hs13
   refine Yl [12,13,14,15,16,17,18,19,20] Xm rfl rfl (by decide) rfl hE hM (qsP (fun z=>Zj z.E Za ld rfl (kr0 rfl)) (qsP (fun z=>Zj z.E Za ld rfl (kr0 rfl)) (qsP (fun z=>ZA z.E Za ld rfl rfl Tryz.underlying33 ty5 hi18.1 (kr0 rfl)) (qsP (fun z=>Z0 (v:=(vB x19)) z.E Za ld rfl ty5 rfl (At.vec (z.M.rawAt3) hi18.2) (kr0 rfl)) (qsP (fun z=>Zj z.E Za ld rfl (kr0 rfl)) (qsP (fun z=>ZA z.E Za ld rfl rfl Tryz.underlying33 ty5 hi21.1 (kr0 rfl)) (qsP (fun z=>Z0 (v:=(vB x22)) z.E Za ld rfl ty5 rfl (At.vec (z.M.rawAt2) hi21.2) (kr0 rfl)) (qsP (v:=(vB (x19 ^^^ x22))) (fun z=>Yk z.E Za ld rfl rfl (WI x19 x22) (kr0 rfl)) (qsP (fun z=>ZA z.E Za ld rfl rfl Tryz.underlying33 ty5 hi24.1 (kr0 rfl)) qs0))))))))) ?_
   ·intro a w u hE hM
    refine Zg (seg:=[(vB (x19 ^^^ x22))]) (cs':=enc (s12.1.setIfInBounds (s12.2).toNat (x19 ^^^ x22))) hE hM Za rfl rfl rfl ty5 rfl (ZE (v:=s12.1) (x:=x19 ^^^ x22) hi24.1) (Flat.cell (x19 ^^^ x22 : UInt8)) (Zy (v:=s12.1) (x:=x19 ^^^ x22) hi24.1) fun w a hM hE=>Zh (Z9 (Zz (wp_region_lit (Zd hE rfl fun a hE=>Zl hE rfl rfl rfl fun a hE=>Zc hE rfl fun a hE=>Zh (Zi ?_)))))
    exact ⟨_,(ois hs13),hE.sub ⟨rfl,rfl,rfl,rfl,rfl,trivial⟩,hM⟩
  ·intro hb16
   have hs13:=Zt hs13 hb16
   refine wp_exit (Zq (Zq (Yi ?_)))
   obtain rfl:=hx14 _ (ois hs13)
   refine Zi ?_
   have hM:=M.fst (l:=[_,_]) hM.pull1.pull1
   exact ⟨hE.sub ⟨rfl,rfl,trivial⟩,hM⟩
 ·skip
  rintro a w ⟨hE,hM⟩
  refine Zz (Zb (Zk hE rfl Zv rfl hM.rawAt0 (Flat.len _) ?_)); intro a hE
  have hM:=hM.pull1
  refine Zg (seg:=enc j9) (cs':=enc j9) hE hM Za rfl rfl rfl Zv (Flat.len _) (zle flq) (Flat.cell _) (Zf flq) fun w a hM hE=>Ze ?_
  obtain rfl:=Option.some.inj hF11
  have hq28 : ZX Tryz.prog _ _ (.cell 4 33) _:=ZN hE rfl Zv rfl hM.rawAt0 (Flat.len _) rfl
  exact wp_ret (Z2 hE rfl hq28 ⟨_,rfl,rfl,hM.kept⟩)
def Qr (p0 : (List UInt8)) (s6 : Int × Int) : Option (Fl (Int × Int) Int) :=
 if (decide (s6.2 < (p0.length : Int))) = true then ((idx p0 s6.2).bind fun x12=>some (Fl.nx (IntKind.u64.wrap ((IntKind.u64.wrap ((IntKind.u64.wrap (s6.1 * 1099511628211)) + (bI x12))) + 5),wr (s6.2 + 1)))) else (some (Fl.ex s6.1))
def T5 (p0 : (List UInt8)) (p1 : Int) : Option ((Int × Int)) :=
 (ZK (Qr p0) (IntKind.u64.wrap ((IntKind.u64.wrap (p1 * 6907)) + (IntKind.u64.wrap (p0.length : Int))),0)).bind fun j3=>some (0,j3)
theorem z7 (St : Nat → Prop) (W w0 : World) (R : Item) (p0 : (List UInt8)) (v0_1 : Value) (hv0_1 : Rep.sat St W p0 [v0_1] []) (p1 : Int) (hM : M St W w0 [R]) (r : (Int × Int)) (hF : T5 p0 p1 = some r) :
  Calls Tryz.prog 23 [v0_1,(Value.int .u64 p1)].toArray w0 (fun en w'=>∃ v,en = .returned v ∧ (∃ (b : Nat),v = ptr b 0 ∧ M St W w' [raw b (cat [[v0_1],[vI r.1],[(Value.int .u64 r.2)]]),R])):=by
 refine ce Tryz.func23 ?_
 intro a hE
 unfold T5 at hF
 refine Zb (Zc hE rfl fun a hE=>Ze (Zb (Zd hE rfl fun a hE=>Zd hE rfl fun a hE=>Zl hE rfl rfl rfl fun a hE=>Zd hE rfl fun a hE=>Wm hE rfl Tryz.underlying22 (hM.rd hv0_1) fun a hE=>Q4 hE Za ld rfl Tryz.underlying3 Tryz.underlying55 fun a hE=>Zl hE rfl rfl rfl fun a hE=>TM (parts:=[(0,.tmp 7),(2,.tmp 13)]) (vs:=[(0,v0_1),(2,(Value.int .u64 (IntKind.u64.wrap ((IntKind.u64.wrap (p1 * 6907)) + (IntKind.u64.wrap (p0.length : Int))))))]) (cs:=cat [[v0_1],[vI 0],[(Value.int .u64 (IntKind.u64.wrap ((IntKind.u64.wrap (p1 * 6907)) + (IntKind.u64.wrap (p0.length : Int)))))]]) hE Za ld rfl rfl ty84 pl84 (Wa (pre:=[]) (seg:=[(Value.slice none 0 0)]) (seg':=[v0_1]) (post:=[[vI 0],[(Value.int .u64 0)]]) rfl cl0 rfl rfl (Aq (hM.rd hv0_1)) (Wa (pre:=[[v0_1],[vI 0]]) (seg:=[(Value.int .u64 0)]) (seg':=[(Value.int .u64 (IntKind.u64.wrap ((IntKind.u64.wrap (p1 * 6907)) + (IntKind.u64.wrap (p0.length : Int)))))]) (post:=[]) rfl ck rfl rfl rfl Ko)) fun a hE=>ZY (cs:=cat [[v0_1],[vI 0],[(Value.int .u64 (IntKind.u64.wrap ((IntKind.u64.wrap (p1 * 6907)) + (IntKind.u64.wrap (p0.length : Int)))))]]) hE hM Za ld rfl rfl fun b1 w a hM hE=>Zc hE rfl fun a hE=>Ze (wp_seq (Zb (Zc hE rfl ?_)))))); intro a hE
 refine Ze ?_
 obtain ⟨j3,hl4,hF5⟩:=bind_some hF
 refine ZS (fun a w=>Env 38 a [(5,(ptr b1 0))] ∧ M St W w [raw b1 (cat [[v0_1],[vI 0],[(Value.int .u64 j3)]]),R]) ?_ ?_
 ·skip
  refine wp_block ?_
  refine ZO (fun (s6 : Int × Int) a w=>Env 38 a [(0,v0_1),(5,(ptr b1 0)),(6,vI s6.2)] ∧ M St W w [raw b1 (cat [[v0_1],[vI 0],[(Value.int .u64 s6.1)]]),R]) hl4 ⟨hE.sub ⟨rfl,rfl,rfl,trivial⟩,hM⟩ ?_
  rintro s6 a w ⟨hE,hM⟩ o9 hs7 hx8
  unfold Qr at hs7
  refine wp_seq (Zb (Zd hE rfl fun a hE=>Zd hE rfl fun a hE=>Wm hE rfl Tryz.underlying22 (hM.rd hv0_1) fun a hE=>Zl hE rfl rfl rfl fun a hE=>Ze ?_))
  refine Zr hE rfl ?_ ?_
  ·intro hb10
   have hs7:=Zu hs7 hb10
   refine wp_skip (Zz (wp_seq (wp_block ?_)))
   obtain ⟨x12,hi14,hs7⟩:=bix hs7
   refine Yl [22,23,24,25,26,27,28,29,30,31,32,33,34,35,36] Xm rfl rfl (by decide) rfl hE hM (qsP (fun z=>Zj z.E Za ld rfl (kr0 rfl)) (qsP (fun z=>Zj z.E Za ld rfl (kr0 rfl)) (qsP (fun z=>ZV z.E Za ld rfl (kr0 rfl)) (qsP (fun z=>ZP z.E Za ld rfl (Ap) (kr0 rfl)) (qsP (fun z=>Z0 (v:=(Value.int .u64 s6.1)) z.E Za ld rfl Bp rfl (At.cat (pre:=[[v0_1],[vI 0]]) (z.M.rawAt0) ck) (kr0 rfl)) (qsP (v:=(Value.int .u64 (IntKind.u64.wrap (s6.1 * 1099511628211)))) (fun z=>Yk z.E Za ld rfl rfl rfl (kr0 rfl)) (qsP (fun z=>Zj z.E Za ld rfl (kr0 rfl)) (qsP (fun z=>Zj z.E Za ld rfl (kr0 rfl)) (qsP (fun z=>X7 z.E Za ld rfl rfl Tryz.underlying22 ty5 (z.M.rd hv0_1) hi14.1 (kr0 rfl)) (qsP (fun z=>Z0 (v:=(vB x12)) z.E Za ld rfl ty5 rfl (Y1 (z.M.rd hv0_1) hi14.2) (kr0 rfl)) (qsP (fun z=>jj z.E Za ld rfl Tryz.underlying5 Tryz.underlying55 (kr0 rfl)) (qsP (v:=(Value.int .u64 (IntKind.u64.wrap ((IntKind.u64.wrap (s6.1 * 1099511628211)) + (bI x12))))) (fun z=>Yk z.E Za ld rfl rfl rfl (kr0 rfl)) (qsP (v:=(Value.int .u64 (IntKind.u64.wrap ((IntKind.u64.wrap ((IntKind.u64.wrap (s6.1 * 1099511628211)) + (bI x12))) + 5)))) (fun z=>Yk z.E Za ld rfl rfl rfl (kr0 rfl)) (qsP (fun z=>ZV z.E Za ld rfl (kr0 rfl)) (qsP (fun z=>ZP z.E Za ld rfl (Ap) (kr0 rfl)) qs0))))))))))))))) ?_
   ·intro a w u hE hM
    refine Zg (seg:=[(Value.int .u64 (IntKind.u64.wrap ((IntKind.u64.wrap ((IntKind.u64.wrap (s6.1 * 1099511628211)) + (bI x12))) + 5)))]) hE hM Za rfl rfl rfl Bp rfl (Ur (pre:=[[v0_1],[vI 0]]) ck rfl) Bz (XC (pre:=[[v0_1],[vI 0]]) ck rfl) fun w a hM hE=>Zh (Z9 (Zz (wp_region_lit (Zd hE rfl fun a hE=>Zl hE rfl rfl rfl fun a hE=>Zc hE rfl fun a hE=>Zh (Zi ?_)))))
    exact ⟨_,(ois hs7),hE.sub ⟨rfl,rfl,rfl,trivial⟩,hM⟩
  ·intro hb10
   have hs7:=Zt hs7 hb10
   refine wp_exit (Zq (Zq (Yi ?_)))
   obtain rfl:=hx8 _ (ois hs7)
   refine Zi ?_
   exact ⟨hE.sub ⟨rfl,trivial⟩,hM⟩
 ·skip
  rintro a w ⟨hE,hM⟩
  refine Zz (Zb (Zd hE rfl fun a hE=>Zc hE rfl fun a hE=>Ze ?_))
  obtain rfl:=Option.some.inj hF5
  exact wp_ret (Z2 hE rfl (ZF hE rfl) ⟨_,rfl,b1,rfl,hM⟩)
def Ym (p0 : UInt8) (p1 : Int) : Option (UInt8) :=
 (XE (wru (BitVec.ofInt 64 (IntKind.u64.wrap p1) &&& BitVec.ofInt 64 7).toNat)).bind fun _=>(XE (IntKind.u64.wrap (8 - (wru (BitVec.ofInt 64 (IntKind.u64.wrap p1) &&& BitVec.ofInt 64 7).toNat)))).bind fun _=>some ((shlB p0 (wru (BitVec.ofInt 64 (IntKind.u64.wrap p1) &&& BitVec.ofInt 64 7).toNat)) ||| (B8 p0 (IntKind.u64.wrap (8 - (wru (BitVec.ofInt 64 (IntKind.u64.wrap p1) &&& BitVec.ofInt 64 7).toNat)))))
theorem Tl (w0 : World) (p0 : UInt8) (p1 : Int) (r : UInt8) (hF : Ym p0 p1 = some r) :
  Calls Tryz.prog 79 [vB p0,vI p1].toArray w0 (Rt w0 (vB r)):=by
 refine ce Tryz.func79 ?_
 intro a hE
 have hM:=M.start w0
 unfold Ym at hF
 refine Zb (Zc hE rfl fun a hE=>Ze (Zb (Zd hE rfl fun a hE=>Q4 hE Za ld rfl Tryz.underlying3 Tryz.underlying86 fun a hE=>Zl hE rfl rfl rfl fun a hE=>Zc hE rfl fun a hE=>Ze (Zb (Zd hE rfl fun a hE=>Zd hE rfl ?_))))); intro a hE
 obtain ⟨_,e1,hF⟩:=bind_some hF
 have e1:=WS e1
 refine HX hE Za ld rfl rfl (bB_shl _ _ e1) fun a hE=>Zd hE rfl fun a hE=>Zd hE rfl fun a hE=>Zl hE rfl rfl rfl ?_; intro a hE
 obtain ⟨_,e2,hF⟩:=bind_some hF
 have e2:=WS e2
 refine HX hE Za ld rfl rfl (k8 _ _ e2) fun a hE=>Zl hE rfl rfl (bB_or (shlB p0 (wru (BitVec.ofInt 64 (IntKind.u64.wrap p1) &&& BitVec.ofInt 64 7).toNat)) (B8 p0 (IntKind.u64.wrap (8 - (wru (BitVec.ofInt 64 (IntKind.u64.wrap p1) &&& BitVec.ofInt 64 7).toNat))))) fun a hE=>Zc hE rfl fun a hE=>Ze ?_
 obtain rfl:=Option.some.inj hF
 exact wp_ret (kr1 hE rfl rfl hM.kept)
def WP (s8 : (Vector UInt8 256) × Int) : Option (Fl ((Vector UInt8 256) × Int) (Vector UInt8 256)) :=
 if (decide (s8.2 < 256)) = true then ((Yo 285 (ZH s8.2)).bind fun r13=>(Ym r13 1).bind fun r15=>(Ym r13 4).bind fun r17=>(ZB s8.1 s8.2).bind fun x20=>some (Fl.nx ((s8.1.setIfInBounds (s8.2).toNat (((r13 ^^^ r15) ^^^ r17) ^^^ 90)),wr (s8.2 + 1)))) else (some (Fl.ex s8.1))
def VI (s26 : (Vector (Vector UInt8 4) 4) × Int) (s34 : (Vector (Vector UInt8 4) 4) × Int) : Option (Fl ((Vector (Vector UInt8 4) 4) × Int) (Vector (Vector UInt8 4) 4)) :=
 if (decide (s34.2 < 4)) = true then ((Yo 285 (ZH (Jn s26.2 (wr (4 + s34.2))))).bind fun r40=>(ZB s34.1 s26.2).bind fun x43=>(ZB x43 s34.2).bind fun x46=>some (Fl.nx ((s34.1.setIfInBounds (s26.2).toNat (x43.setIfInBounds (s34.2).toNat r40)),wr (s34.2 + 1)))) else (some (Fl.ex s34.1))
def VM (s26 : (Vector (Vector UInt8 4) 4) × Int) : Option (Fl ((Vector (Vector UInt8 4) 4) × Int) (Vector (Vector UInt8 4) 4)) :=
 if (decide (s26.2 < 4)) = true then ((ZK (VI s26) (s26.1,0)).bind fun j31=>some (Fl.nx (j31,wr (s26.2 + 1)))) else (some (Fl.ex s26.1))
def VJ (s53 : (Vector UInt8 16) × Int) : Option (Fl ((Vector UInt8 16) × Int) (Vector UInt8 16)) :=
 if (decide (s53.2 < 16)) = true then ((ZB s53.1 s53.2).bind fun x59=>some (Fl.nx ((s53.1.setIfInBounds (s53.2).toNat (ZH (Int.tmod (wr ((wr (13 * s53.2)) + 4)) 16))),wr (s53.2 + 1)))) else (some (Fl.ex s53.1))
def W9 (p0 : Int) : Option (GCipher) :=
 (ZK (WP) ((Vector.replicate 256 (0 : UInt8)),0)).bind fun j5=>(ZK (VM) ((Vector.replicate 4 (Vector.replicate 4 (0 : UInt8))),0)).bind fun j23=>(ZK (VJ) ((Vector.replicate 16 (0 : UInt8)),0)).bind fun j50=>some (⟨285,j5,j23,j50,p0⟩ : GCipher)
theorem JF (w0 : World) (p0 : Int) (r : GCipher) (hF : W9 p0 = some r) :
  Calls Tryz.prog 54 [vI p0].toArray w0 (Rt w0 (Value.agg (enc r).toArray)):=by
 refine ce Tryz.func54 ?_
 intro a hE
 have hM:=M.start w0
 unfold W9 at hF
 refine Zb (Zs hE hM ZT fun b1 w a hM hE=>Ze (Zb (Zd hE rfl fun a hE=>TM (parts:=[(0,.const (vI 285)),(4,.tmp 9)]) (vs:=[(0,vI 285),(4,vI p0)]) (cs:=cat [[vI 285],enc (Vector.replicate 256 (0 : UInt8)),enc (Vector.replicate 4 (Vector.replicate 4 (0 : UInt8))),enc (Vector.replicate 16 (0 : UInt8)),[vI p0]]) hE Za ld rfl rfl ZT pl32 (Wa (pre:=[]) (seg:=[vI 0]) (seg':=[vI 285]) (post:=[enc (Vector.replicate 256 (0 : UInt8)),enc (Vector.replicate 4 (Vector.replicate 4 (0 : UInt8))),enc (Vector.replicate 16 (0 : UInt8)),[vI 0]]) rfl cl0 rfl rfl rfl (Wa (pre:=[[vI 285],enc (Vector.replicate 256 (0 : UInt8)),enc (Vector.replicate 4 (Vector.replicate 4 (0 : UInt8))),enc (Vector.replicate 16 (0 : UInt8))]) (seg:=[vI 0]) (seg':=[vI p0]) (post:=[]) rfl ck rfl rfl rfl Ko)) fun a hE=>Zs hE hM ZT fun b3 w a hM hE=>Zg (seg:=cat [[vI 285],enc (Vector.replicate 256 (0 : UInt8)),enc (Vector.replicate 4 (Vector.replicate 4 (0 : UInt8))),enc (Vector.replicate 16 (0 : UInt8)),[vI p0]]) (cs':=cat [[vI 285],enc (Vector.replicate 256 (0 : UInt8)),enc (Vector.replicate 4 (Vector.replicate 4 (0 : UInt8))),enc (Vector.replicate 16 (0 : UInt8)),[vI p0]]) hE hM Za rfl rfl rfl ZT cq (Nat.le_of_eq ((Nat.zero_add _).trans (Eq.trans cq (Eq.symm cq)))) (Yf (cc1 (Flat.cell (285 : Int)) (cc1 (Flat.cell _) (cc1 (Flat.cell _) (cc1 (Flat.cell _) (cc1 (Flat.cell (p0 : Int)) cc0)))))) (Zf (Eq.trans cq (Eq.symm cq))) fun w a hM hE=>Ze (wp_seq (Zb (Zd hE rfl fun a hE=>Ze ?_))))))
 obtain ⟨j5,hl6,hF7⟩:=bind_some hF
 refine ZS (fun a w=>Env 61 a [(2,(ptr b1 0)),(3,(ptr b3 0))] ∧ M (Old w0) w0 w [raw b3 (cat [[vI 285],enc j5,enc (Vector.replicate 4 (Vector.replicate 4 (0 : UInt8))),enc (Vector.replicate 16 (0 : UInt8)),[vI p0]]),raw b1 (cat [[vI 0],enc (Vector.replicate 256 (0 : UInt8)),enc (Vector.replicate 4 (Vector.replicate 4 (0 : UInt8))),enc (Vector.replicate 16 (0 : UInt8)),[vI 0]])]) ?_ ?_
 ·skip
  refine wp_block ?_
  refine ZO (fun (s8 : (Vector UInt8 256) × Int) a w=>Env 61 a [(2,(ptr b1 0)),(3,(ptr b3 0)),(11,vI s8.2)] ∧ M (Old w0) w0 w [raw b3 (cat [[vI 285],enc s8.1,enc (Vector.replicate 4 (Vector.replicate 4 (0 : UInt8))),enc (Vector.replicate 16 (0 : UInt8)),[vI p0]]),raw b1 (cat [[vI 0],enc (Vector.replicate 256 (0 : UInt8)),enc (Vector.replicate 4 (Vector.replicate 4 (0 : UInt8))),enc (Vector.replicate 16 (0 : UInt8)),[vI 0]])]) hl6 ⟨hE.sub ⟨rfl,rfl,rfl,trivial⟩,hM⟩ ?_
  rintro s8 a w ⟨hE,hM⟩ o11 hs9 hx10
  unfold WP at hs9
  refine Zb (Zl hE rfl rfl rfl fun a hE=>Ze (wp_seq ?_))
  refine Zr hE rfl ?_ ?_
  ·intro hb12
   have hs9:=Zu hs9 hb12
   refine wp_skip (Zz (wp_seq (wp_block (Zb (Zd hE rfl fun a hE=>Zc hE rfl fun a hE=>Ze (Zb (Zd hE rfl fun a hE=>YX hE Za ld rfl Tryz.underlying3 Tryz.underlying5 ?_))))))); intro a hE
   obtain ⟨r13,e14,hs9⟩:=bind_some hs9
   refine Zo hE rfl cb78 (UD _ 285 (ZH s8.2) r13 e14) ?_
   rintro v w a ⟨rfl,hK⟩ hE
   have hM:=hM.keep hK
   refine Zc hE rfl fun a hE=>Ze (wp_region_lit (Zd hE rfl fun a hE=>Zd hE rfl fun a hE=>Zd hE rfl ?_)); intro a hE
   obtain ⟨r15,e16,hs9⟩:=bind_some hs9
   refine Zo hE rfl (cbm Tryz.func79) (Tl _ r13 1 r15 e16) ?_
   rintro v w a ⟨rfl,hK⟩ hE
   have hM:=hM.keep hK
   refine Zl hE rfl rfl (WI r13 r15) fun a hE=>Zd hE rfl ?_; intro a hE
   obtain ⟨r17,e18,hs9⟩:=bind_some hs9
   refine Zo hE rfl (cbm Tryz.func79) (Tl _ r13 4 r17 e18) ?_
   rintro v w a ⟨rfl,hK⟩ hE
   have hM:=hM.keep hK
   refine Zl hE rfl rfl (WI (r13 ^^^ r15) r17) fun a hE=>Zl hE rfl rfl (WI ((r13 ^^^ r15) ^^^ r17) 90) fun a hE=>ZJ hE rfl (Qa) ?_; intro a hE
   obtain ⟨x20,hi19,hs9⟩:=bvx hs9
   refine Zw hE rfl rfl Tryz.underlying25 ty5 hi19.1 fun a hE=>Zg (seg:=[(vB (((r13 ^^^ r15) ^^^ r17) ^^^ 90))]) (cs':=cat [[vI 285],enc (s8.1.setIfInBounds (s8.2).toNat (((r13 ^^^ r15) ^^^ r17) ^^^ 90)),enc (Vector.replicate 4 (Vector.replicate 4 (0 : UInt8))),enc (Vector.replicate 16 (0 : UInt8)),[vI p0]]) hE hM Za rfl rfl rfl ty5 rfl (Ud (o':=0 + (s8.2).toNat * 1) (pre:=[[vI 285]]) (seg:=enc s8.1) (post:=[enc (Vector.replicate 4 (Vector.replicate 4 (0 : UInt8))),enc (Vector.replicate 16 (0 : UInt8)),[vI p0]]) ck (ZE (v:=s8.1) (x:=((r13 ^^^ r15) ^^^ r17) ^^^ 90) hi19.1) (by first | omega | (simp only [Flat.n] <;> omega))) (Flat.cell (((r13 ^^^ r15) ^^^ r17) ^^^ 90 : UInt8)) (XY (o':=0 + (s8.2).toNat * 1) (pre:=[[vI 285]]) (seg:=enc s8.1) (post:=[enc (Vector.replicate 4 (Vector.replicate 4 (0 : UInt8))),enc (Vector.replicate 16 (0 : UInt8)),[vI p0]]) ck (ZE (v:=s8.1) (x:=((r13 ^^^ r15) ^^^ r17) ^^^ 90) hi19.1) (Zy (v:=s8.1) (x:=((r13 ^^^ r15) ^^^ r17) ^^^ 90) hi19.1) (by first | omega | (simp only [Flat.n] <;> omega))) fun w a hM hE=>Zh (Z9 (Zz (wp_region_lit (Zl hE rfl rfl rfl fun a hE=>Zd hE rfl fun a hE=>Zh (Zi ?_)))))
   exact ⟨_,(ois hs9),hE.sub ⟨rfl,rfl,rfl,trivial⟩,hM⟩
  ·intro hb12
   have hs9:=Zt hs9 hb12
   refine wp_exit (Zq (Zq (Yi ?_)))
   obtain rfl:=hx10 _ (ois hs9)
   refine Zi ?_
   exact ⟨hE.sub ⟨rfl,rfl,trivial⟩,hM⟩
 ·skip
  rintro a w ⟨hE,hM⟩
  refine Zz (wp_seq (Zb (Zd hE rfl fun a hE=>Ze ?_)))
  obtain ⟨j23,hl24,hF25⟩:=bind_some hF7
  refine ZS (fun a w=>Env 61 a [(2,(ptr b1 0)),(3,(ptr b3 0))] ∧ M (Old w0) w0 w [raw b3 (cat [[vI 285],enc j5,enc j23,enc (Vector.replicate 16 (0 : UInt8)),[vI p0]]),raw b1 (cat [[vI 0],enc (Vector.replicate 256 (0 : UInt8)),enc (Vector.replicate 4 (Vector.replicate 4 (0 : UInt8))),enc (Vector.replicate 16 (0 : UInt8)),[vI 0]])]) ?_ ?_
  ·skip
   refine wp_block ?_
   refine ZO (fun (s26 : (Vector (Vector UInt8 4) 4) × Int) a w=>Env 61 a [(2,(ptr b1 0)),(3,(ptr b3 0)),(29,vI s26.2)] ∧ M (Old w0) w0 w [raw b3 (cat [[vI 285],enc j5,enc s26.1,enc (Vector.replicate 16 (0 : UInt8)),[vI p0]]),raw b1 (cat [[vI 0],enc (Vector.replicate 256 (0 : UInt8)),enc (Vector.replicate 4 (Vector.replicate 4 (0 : UInt8))),enc (Vector.replicate 16 (0 : UInt8)),[vI 0]])]) hl24 ⟨hE.sub ⟨rfl,rfl,rfl,trivial⟩,hM⟩ ?_
   rintro s26 a w ⟨hE,hM⟩ o29 hs27 hx28
   unfold VM at hs27
   refine Zb (Zl hE rfl rfl rfl fun a hE=>Ze (wp_seq ?_))
   refine Zr hE rfl ?_ ?_
   ·intro hb30
    have hs27:=Zu hs27 hb30
    refine wp_skip (Zz (wp_seq (wp_block (Zb (Zd hE rfl fun a hE=>Zc hE rfl fun a hE=>Ze (Zb (Zd hE rfl fun a hE=>Ze ?_)))))))
    obtain ⟨j31,hl32,hF33⟩:=bind_some hs27
    refine ZS (fun a w=>Env 61 a [(2,(ptr b1 0)),(3,(ptr b3 0)),(29,vI s26.2)] ∧ M (Old w0) w0 w [raw b3 (cat [[vI 285],enc j5,enc j31,enc (Vector.replicate 16 (0 : UInt8)),[vI p0]]),raw b1 (cat [[vI 0],enc (Vector.replicate 256 (0 : UInt8)),enc (Vector.replicate 4 (Vector.replicate 4 (0 : UInt8))),enc (Vector.replicate 16 (0 : UInt8)),[vI 0]])]) ?_ ?_
    ·skip
     refine wp_block ?_
     refine ZO (fun (s34 : (Vector (Vector UInt8 4) 4) × Int) a w=>Env 61 a [(2,(ptr b1 0)),(3,(ptr b3 0)),(6,vI s26.2),(29,vI s26.2),(32,vI s34.2)] ∧ M (Old w0) w0 w [raw b3 (cat [[vI 285],enc j5,enc s34.1,enc (Vector.replicate 16 (0 : UInt8)),[vI p0]]),raw b1 (cat [[vI 0],enc (Vector.replicate 256 (0 : UInt8)),enc (Vector.replicate 4 (Vector.replicate 4 (0 : UInt8))),enc (Vector.replicate 16 (0 : UInt8)),[vI 0]])]) hl32 ⟨hE.sub ⟨rfl,rfl,rfl,rfl,rfl,trivial⟩,hM⟩ ?_
     rintro s34 a w ⟨hE,hM⟩ o37 hs35 hx36
     unfold VI at hs35
     refine Zb (Zl hE rfl rfl rfl fun a hE=>Ze (wp_seq ?_))
     refine Zr hE rfl ?_ ?_
     ·intro hb38
      have hs35:=Zu hs35 hb38
      refine wp_skip (Zz (wp_seq (wp_block (Zb (Zd hE rfl fun a hE=>Zc hE rfl fun a hE=>Ze ?_)))))
      obtain ⟨r40,e41,hs35⟩:=bind_some hs35
      obtain ⟨x43,hi42,hs35⟩:=bvx hs35
      obtain ⟨x46,hi45,hs35⟩:=bvx hs35
      refine Yl [35,36,37,38,39,40,41,42,43,44,45] Xm rfl rfl (by decide) rfl hE hM (qsP (fun z=>Zj z.E Za ld rfl (kr0 rfl)) (qsP (fun z=>Zj z.E Za ld rfl (kr0 rfl)) (qsP (fun z=>Zj z.E Za ld rfl (kr0 rfl)) (qsP (fun z=>Zj z.E Za ld rfl (kr0 rfl)) (qsP (v:=(vI (wr (4 + s34.2)))) (fun z=>Yk z.E Za ld rfl rfl rfl (kr0 rfl)) (qsP (v:=(vI (Jn s26.2 (wr (4 + s34.2))))) (fun z=>Yk z.E Za ld rfl rfl rfl (kr0 rfl)) (qsP (fun z=>YX z.E Za ld rfl Tryz.underlying3 Tryz.underlying5 (kr0 rfl)) (qsP (fun z=>YD z.E Za ld rfl cb78 (UD _ 285 (ZH (Jn s26.2 (wr (4 + s34.2)))) r40 e41) (kc rfl)) (qsP (fun z=>ZP z.E Za ld rfl (Qb) (kr0 rfl)) (qsP (fun z=>ZA z.E Za ld rfl rfl Tryz.underlying28 Yq hi42.1 (kr0 rfl)) (qsP (fun z=>ZA z.E Za ld rfl rfl Tryz.underlying26 ty5 hi45.1 (kr0 rfl)) qs0))))))))))) ?_
      ·intro a w u hE hM
       refine Zg (seg:=[vB r40]) (cs':=cat [[vI 285],enc j5,enc (s34.1.setIfInBounds (s26.2).toNat (x43.setIfInBounds (s34.2).toNat r40)),enc (Vector.replicate 16 (0 : UInt8)),[vI p0]]) hE hM Za rfl rfl rfl ty5 rfl (Ud (o':=(s26.2).toNat * 4 + (0 + (s34.2).toNat * 1)) (pre:=[[vI 285],enc j5]) (seg:=enc s34.1) (post:=[enc (Vector.replicate 16 (0 : UInt8)),[vI p0]]) ck (XJ (o':=0 + (s34.2).toNat * 1) hi42 (ZE (v:=x43) (x:=r40) hi45.1) (by first | omega | (simp only [Flat.n] <;> omega))) (by first | omega | (simp only [Flat.n] <;> omega))) (Flat.cell (r40 : UInt8)) (XY (o':=(s26.2).toNat * 4 + (0 + (s34.2).toNat * 1)) (pre:=[[vI 285],enc j5]) (seg:=enc s34.1) (post:=[enc (Vector.replicate 16 (0 : UInt8)),[vI p0]]) ck (XJ (o':=0 + (s34.2).toNat * 1) hi42 (ZE (v:=x43) (x:=r40) hi45.1) (by first | omega | (simp only [Flat.n] <;> omega))) (Y4 (o':=0 + (s34.2).toNat * 1) hi42 (ZE (v:=x43) (x:=r40) hi45.1) (Zy (v:=x43) (x:=r40) hi45.1) (by first | omega | (simp only [Flat.n] <;> omega))) (by first | omega | (simp only [Flat.n] <;> omega))) fun w a hM hE=>Zh (Z9 (Zz (wp_region_lit (Zl hE rfl rfl rfl fun a hE=>Zd hE rfl fun a hE=>Zh (Zi ?_)))))
       exact ⟨_,(ois hs35),hE.sub ⟨rfl,rfl,rfl,rfl,rfl,trivial⟩,hM⟩
     ·intro hb38
      have hs35:=Zt hs35 hb38
      refine wp_exit (Zq (Zq (Yi ?_)))
      obtain rfl:=hx36 _ (ois hs35)
      refine Zi ?_
      exact ⟨hE.sub ⟨rfl,rfl,rfl,trivial⟩,hM⟩
    ·skip
     rintro a w ⟨hE,hM⟩
     refine Z9 (Zz (wp_region_lit (Zl hE rfl rfl rfl fun a hE=>Zd hE rfl fun a hE=>Zh (Zi ?_))))
     exact ⟨_,(ois hF33),hE.sub ⟨rfl,rfl,rfl,trivial⟩,hM⟩
   ·intro hb30
    have hs27:=Zt hs27 hb30
    refine wp_exit (Zq (Zq (Yi ?_)))
    obtain rfl:=hx28 _ (ois hs27)
    refine Zi ?_
    exact ⟨hE.sub ⟨rfl,rfl,trivial⟩,hM⟩
  ·skip
   rintro a w ⟨hE,hM⟩
   refine Zz (wp_seq (Zb (Zd hE rfl fun a hE=>Ze ?_)))
   obtain ⟨j50,hl51,hF52⟩:=bind_some hF25
   refine ZS (fun a w=>Env 61 a [(2,(ptr b1 0)),(3,(ptr b3 0))] ∧ M (Old w0) w0 w [raw b3 (cat [[vI 285],enc j5,enc j23,enc j50,[vI p0]]),raw b1 (cat [[vI 0],enc (Vector.replicate 256 (0 : UInt8)),enc (Vector.replicate 4 (Vector.replicate 4 (0 : UInt8))),enc (Vector.replicate 16 (0 : UInt8)),[vI 0]])]) ?_ ?_
   ·skip
    refine wp_block ?_
    refine ZO (fun (s53 : (Vector UInt8 16) × Int) a w=>Env 61 a [(2,(ptr b1 0)),(3,(ptr b3 0)),(48,vI s53.2)] ∧ M (Old w0) w0 w [raw b3 (cat [[vI 285],enc j5,enc j23,enc s53.1,[vI p0]]),raw b1 (cat [[vI 0],enc (Vector.replicate 256 (0 : UInt8)),enc (Vector.replicate 4 (Vector.replicate 4 (0 : UInt8))),enc (Vector.replicate 16 (0 : UInt8)),[vI 0]])]) hl51 ⟨hE.sub ⟨rfl,rfl,rfl,trivial⟩,hM⟩ ?_
    rintro s53 a w ⟨hE,hM⟩ o56 hs54 hx55
    unfold VJ at hs54
    refine Zb (Zl hE rfl rfl rfl fun a hE=>Ze (wp_seq ?_))
    refine Zr hE rfl ?_ ?_
    ·intro hb57
     have hs54:=Zu hs54 hb57
     refine wp_skip (Zz (wp_seq (wp_block (Zb (Zd hE rfl fun a hE=>Zc hE rfl fun a hE=>Ze (wp_region_lit (Zd hE rfl fun a hE=>Zd hE rfl fun a hE=>Zl hE rfl rfl rfl fun a hE=>Zl hE rfl rfl rfl fun a hE=>Zl hE rfl rfl (KA _ _ (by decide)) fun a hE=>YX hE Za ld rfl Tryz.underlying3 Tryz.underlying5 fun a hE=>ZJ hE rfl (Tt) ?_))))))); intro a hE
     obtain ⟨x59,hi58,hs54⟩:=bvx hs54
     refine Zw hE rfl rfl Tryz.underlying30 ty5 hi58.1 fun a hE=>Zg (seg:=[(vB (ZH (Int.tmod (wr ((wr (13 * s53.2)) + 4)) 16)))]) (cs':=cat [[vI 285],enc j5,enc j23,enc (s53.1.setIfInBounds (s53.2).toNat (ZH (Int.tmod (wr ((wr (13 * s53.2)) + 4)) 16))),[vI p0]]) hE hM Za rfl rfl rfl ty5 rfl (Ud (o':=0 + (s53.2).toNat * 1) (pre:=[[vI 285],enc j5,enc j23]) (seg:=enc s53.1) (post:=[[vI p0]]) ck (ZE (v:=s53.1) (x:=ZH (Int.tmod (wr ((wr (13 * s53.2)) + 4)) 16)) hi58.1) (by first | omega | (simp only [Flat.n] <;> omega))) (Flat.cell (ZH (Int.tmod (wr ((wr (13 * s53.2)) + 4)) 16) : UInt8)) (XY (o':=0 + (s53.2).toNat * 1) (pre:=[[vI 285],enc j5,enc j23]) (seg:=enc s53.1) (post:=[[vI p0]]) ck (ZE (v:=s53.1) (x:=ZH (Int.tmod (wr ((wr (13 * s53.2)) + 4)) 16)) hi58.1) (Zy (v:=s53.1) (x:=ZH (Int.tmod (wr ((wr (13 * s53.2)) + 4)) 16)) hi58.1) (by first | omega | (simp only [Flat.n] <;> omega))) fun w a hM hE=>Zh (Z9 (Zz (wp_region_lit (Zl hE rfl rfl rfl fun a hE=>Zd hE rfl fun a hE=>Zh (Zi ?_)))))
     exact ⟨_,(ois hs54),hE.sub ⟨rfl,rfl,rfl,trivial⟩,hM⟩
    ·intro hb57
     have hs54:=Zt hs54 hb57
     refine wp_exit (Zq (Zq (Yi ?_)))
     obtain rfl:=hx55 _ (ois hs54)
     refine Zi ?_
     exact ⟨hE.sub ⟨rfl,rfl,trivial⟩,hM⟩
   ·skip
    rintro a w ⟨hE,hM⟩
    refine Zz (Zb (Zk hE rfl ZT rfl hM.rawAt0 cq ?_)); intro a hE
    have hM:=hM.pull1
    refine Zg (seg:=cat [[(vI ((⟨285,j5,j23,j50,p0⟩ : GCipher).Field))],enc ((⟨285,j5,j23,j50,p0⟩ : GCipher).Box),enc ((⟨285,j5,j23,j50,p0⟩ : GCipher).Mix),enc ((⟨285,j5,j23,j50,p0⟩ : GCipher).Places),[(vI ((⟨285,j5,j23,j50,p0⟩ : GCipher).Rounds))]]) (cs':=cat [[(vI ((⟨285,j5,j23,j50,p0⟩ : GCipher).Field))],enc ((⟨285,j5,j23,j50,p0⟩ : GCipher).Box),enc ((⟨285,j5,j23,j50,p0⟩ : GCipher).Mix),enc ((⟨285,j5,j23,j50,p0⟩ : GCipher).Places),[(vI ((⟨285,j5,j23,j50,p0⟩ : GCipher).Rounds))]]) hE hM Za rfl rfl rfl ZT cq (Nat.le_of_eq ((Nat.zero_add _).trans (Eq.trans cq (Eq.symm cq)))) (Yf (cc1 (Flat.cell ((⟨285,j5,j23,j50,p0⟩ : GCipher).Field : Int)) (cc1 (Flat.cell _) (cc1 (Flat.cell _) (cc1 (Flat.cell _) (cc1 (Flat.cell ((⟨285,j5,j23,j50,p0⟩ : GCipher).Rounds : Int)) cc0)))))) (Zf (Eq.trans cq (Eq.symm cq))) fun w a hM hE=>Ze ?_
    obtain rfl:=Option.some.inj hF52
    have hq62 : ZX Tryz.prog _ _ (.cell 2 32) _:=ZN hE rfl ZT rfl hM.rawAt0 cq rfl
    exact wp_ret (Z2 hE rfl hq62 ⟨_,rfl,rfl,hM.kept⟩)
def W4 (p0 : Int) : Option (GCipher × Int) :=
 (Y2 p0 1 20).bind fun r3=>if (!r3) = true then (some ((⟨0,(Vector.replicate 256 (0 : UInt8)),(Vector.replicate 4 (Vector.replicate 4 (0 : UInt8))),(Vector.replicate 16 (0 : UInt8)),0⟩ : GCipher),2)) else ((W9 p0).bind fun r7=>some (r7,0))
theorem Jz (w0 : World) (p0 : Int) (r : GCipher × Int) (hF : W4 p0 = some r) :
  Calls Tryz.prog 24 [vI p0].toArray w0 (Rt w0 (Value.tuple [(Value.agg (enc r.1).toArray),vI r.2].toArray)):=by
 refine ce Tryz.func24 ?_
 intro a hE
 have hM:=M.start w0
 unfold W4 at hF
 refine Zb (Zs hE hM ZT fun b1 w a hM hE=>Zc hE rfl fun a hE=>Ze (wp_seq (Zb (Zd hE rfl ?_)))); intro a hE
 obtain ⟨r3,e4,hF⟩:=bind_some hF
 refine Zo hE rfl yL (W5 _ p0 1 20 r3 e4) ?_
 rintro v w a ⟨rfl,hK⟩ hE
 have hM:=hM.keep hK
 refine TH hE rfl fun a hE=>Ze ?_
 refine Zr hE rfl ?_ ?_
 ·intro hb5
  have hF:=Zu hF hb5
  refine Zb (TM (parts:=[]) (vs:=[]) (cs:=cat [[vI 0],enc (Vector.replicate 256 (0 : UInt8)),enc (Vector.replicate 4 (Vector.replicate 4 (0 : UInt8))),enc (Vector.replicate 16 (0 : UInt8)),[vI 0]]) hE Za ld rfl rfl ZT pl32 Ko fun a hE=>Zg (seg:=cat [[vI 0],enc (Vector.replicate 256 (0 : UInt8)),enc (Vector.replicate 4 (Vector.replicate 4 (0 : UInt8))),enc (Vector.replicate 16 (0 : UInt8)),[vI 0]]) (cs':=cat [[vI 0],enc (Vector.replicate 256 (0 : UInt8)),enc (Vector.replicate 4 (Vector.replicate 4 (0 : UInt8))),enc (Vector.replicate 16 (0 : UInt8)),[vI 0]]) hE hM Za rfl rfl rfl ZT cq (Nat.le_of_eq ((Nat.zero_add _).trans (Eq.trans cq (Eq.symm cq)))) (Yf (cc1 (Flat.cell (0 : Int)) (cc1 (Flat.cell _) (cc1 (Flat.cell _) (cc1 (Flat.cell _) (cc1 (Flat.cell (0 : Int)) cc0)))))) (Zf (Eq.trans cq (Eq.symm cq))) fun w a hM hE=>Zc hE rfl fun a hE=>Ze ?_)
  obtain rfl:=Option.some.inj hF
  have hq6 : ZX Tryz.prog _ _ (.cell 2 32) _:=ZN hE rfl ZT rfl hM.rawAt0 cq rfl
  exact wp_ret (ZI (Xk hE rfl hq6 (ZF hE rfl) ⟨_,rfl,rfl,hM.kept⟩))
 ·intro hb5
  have hF:=Zt hF hb5
  refine wp_skip (Zz (Zb (Zd hE rfl ?_))); intro a hE
  obtain ⟨r7,e8,hF⟩:=bind_some hF
  refine Zo hE rfl (cbm Tryz.func54) (JF _ p0 r7 e8) ?_
  rintro v w a ⟨rfl,hK⟩ hE
  have hM:=hM.keep hK
  refine Zg (seg:=cat [[vI r7.Field],enc r7.Box,enc r7.Mix,enc r7.Places,[vI r7.Rounds]]) (cs':=cat [[vI r7.Field],enc r7.Box,enc r7.Mix,enc r7.Places,[vI r7.Rounds]]) hE hM Za rfl rfl rfl ZT cq (Nat.le_of_eq ((Nat.zero_add _).trans (Eq.trans cq (Eq.symm cq)))) (Yf (cc1 (Flat.cell (r7.Field : Int)) (cc1 (Flat.cell _) (cc1 (Flat.cell _) (cc1 (Flat.cell _) (cc1 (Flat.cell (r7.Rounds : Int)) cc0)))))) (Zf (Eq.trans cq (Eq.symm cq))) fun w a hM hE=>Zc hE rfl fun a hE=>Ze ?_
  obtain rfl:=Option.some.inj hF
  have hq9 : ZX Tryz.prog _ _ (.cell 2 32) _:=ZN hE rfl ZT rfl hM.rawAt0 cq rfl
  exact wp_ret (Xk hE rfl hq9 (ZF hE rfl) ⟨_,rfl,rfl,hM.kept⟩)
def YR (p0_0 : (List UInt8)) (p0 : (Int × Int)) (p1 : Int) : Option ((Int × Int) × Int) :=
 if (decide (p1 < 1)) = true then (some ((p0.1,p0.2),0)) else (((some (decide (p0.1 < (p0_0.length : Int))) : Option (Bool)).bind fun j5=>if j5 = true then (((idx p0_0 p0.1).bind fun x15=>some (wr ((IntKind.i64.wrap (wru (BitVec.ofInt 64 (Kh (IntKind.u64.wrap ((IntKind.u64.wrap (p0.2 * 6364136223846793005)) + 1442695040888963407)) 33) &&& BitVec.ofInt 64 16777215).toNat)) + (bI x15))) : Option (Int)).bind fun j11=>some (wr (p0.1 + 1),j11)) else (some (p0.1,IntKind.i64.wrap (wru (BitVec.ofInt 64 (Kh (IntKind.u64.wrap ((IntKind.u64.wrap (p0.2 * 6364136223846793005)) + 1442695040888963407)) 33) &&& BitVec.ofInt 64 16777215).toNat))) : Option (Int × Int)).bind fun j2=>(QO p1).bind fun _=>some ((j2.1,IntKind.u64.wrap ((IntKind.u64.wrap (p0.2 * 6364136223846793005)) + 1442695040888963407)),Int.tmod j2.2 p1))
theorem Vv (St : Nat → Prop) (W w0 : World) (R : Item) (pb0 : Nat) (p0_0 : (List UInt8)) (v0_0 : Value) (hv0_0 : Rep.sat St W p0_0 [v0_0] []) (p0 : (Int × Int)) (p1 : Int) (hM : M St W w0 [raw pb0 (cat [[v0_0],[vI p0.1],[(Value.int .u64 p0.2)]]),R]) (r : (Int × Int) × Int) (hF : YR p0_0 p0 p1 = some r) :
  Calls Tryz.prog 26 [(ptr pb0 0),vI p1].toArray w0 (fun en w'=>∃ v,en = .returned v ∧ (v = (vI r.2) ∧ M St W w' [raw pb0 (cat [[v0_0],[vI r.1.1],[(Value.int .u64 r.1.2)]]),R])):=by
 refine ce Tryz.func26 ?_
 intro a hE
 unfold YR at hF
 refine Zb (Zc hE rfl fun a hE=>Ze (wp_seq (Zb (Zd hE rfl fun a hE=>Zl hE rfl rfl rfl fun a hE=>Ze ?_))))
 refine Zr hE rfl ?_ ?_
 ·intro hb1
  have hF:=Zu hF hb1
  refine Zb (Zc hE rfl fun a hE=>Ze ?_)
  obtain rfl:=Option.some.inj hF
  exact wp_ret (ZI (Z2 hE rfl (ZF hE rfl) ⟨_,rfl,rfl,hM⟩))
 ·intro hb1
  have hF:=Zt hF hb1
  refine wp_skip (Zz (Zb (Zd hE rfl fun a hE=>Zd hE rfl fun a hE=>ZV hE Za ld rfl fun a hE=>ZJ hE rfl (Ap) fun a hE=>ZR (v:=(Value.int .u64 p0.2)) hE rfl Bp rfl (At.cat (pre:=[[v0_0],[vI p0.1]]) hM.rawAt0 ck) fun a hE=>Zl hE rfl rfl rfl fun a hE=>Zl hE rfl rfl rfl fun a hE=>ZV hE Za ld rfl fun a hE=>ZJ hE rfl (Ap) fun a hE=>Zg (seg:=[(Value.int .u64 (IntKind.u64.wrap ((IntKind.u64.wrap (p0.2 * 6364136223846793005)) + 1442695040888963407)))]) hE hM Za rfl rfl rfl Bp rfl (Ur (pre:=[[v0_0],[vI p0.1]]) ck rfl) Bz (XC (pre:=[[v0_0],[vI p0.1]]) ck rfl) fun w a hM hE=>Ze (Zb (Zd hE rfl fun a hE=>ZV hE Za ld rfl ?_))))); intro a hE
  refine ZJ hE rfl (Ap) fun a hE=>ZR (v:=(Value.int .u64 (IntKind.u64.wrap ((IntKind.u64.wrap (p0.2 * 6364136223846793005)) + 1442695040888963407)))) hE rfl Bp rfl (At.cat (pre:=[[v0_0],[vI p0.1]]) hM.rawAt0 ck) fun a hE=>HX hE Za ld rfl rfl (qo _ _ (by decide)) fun a hE=>Zl hE rfl rfl rfl fun a hE=>Q4 hE Za ld rfl Tryz.underlying55 Tryz.underlying2 fun a hE=>Zc hE rfl fun a hE=>Ze ?_
  obtain ⟨j2,hl3,hF4⟩:=bind_some hF
  refine ZQ (fun a w=>Env 58 a [(1,vI p1),(5,vI j2.2)] ∧ M St W w [raw pb0 (cat [[v0_0],[vI j2.1],[(Value.int .u64 (IntKind.u64.wrap ((IntKind.u64.wrap (p0.2 * 6364136223846793005)) + 1442695040888963407)))]]),R]) ?_ ?_
  ·skip
   obtain ⟨j5,hl6,hF7⟩:=bind_some hl3
   refine ZQ (fun a w=>Env 58 a [(0,(ptr pb0 0)),(1,vI p1),(5,(vI (IntKind.i64.wrap (wru (BitVec.ofInt 64 (Kh (IntKind.u64.wrap ((IntKind.u64.wrap (p0.2 * 6364136223846793005)) + 1442695040888963407)) 33) &&& BitVec.ofInt 64 16777215).toNat)))),(33,vT j5)] ∧ M St W w [raw pb0 (cat [[v0_0],[vI p0.1],[(Value.int .u64 (IntKind.u64.wrap ((IntKind.u64.wrap (p0.2 * 6364136223846793005)) + 1442695040888963407)))]]),R]) ?_ ?_
   ·skip
    refine Yl [24,25,26,27,28,29,30,31,32,33] Xm rfl rfl (by decide) rfl hE hM (qsP (fun z=>Zj z.E Za ld rfl (kr0 rfl)) (qsP (fun z=>ZV z.E Za ld rfl (kr0 rfl)) (qsP (fun z=>ZP z.E Za ld rfl (zR) (kr0 rfl)) (qsP (fun z=>Z0 (v:=(vI p0.1)) z.E Za ld rfl ty3 rfl (At.cat (pre:=[[v0_0]]) (z.M.rawAt0) ck) (kr0 rfl)) (qsP (fun z=>Zj z.E Za ld rfl (kr0 rfl)) (qsP (fun z=>ZV z.E Za ld rfl (kr0 rfl)) (qsP (fun z=>ZP z.E Za ld rfl (qJ) (kr0 rfl)) (qsP (fun z=>Z0 (v:=v0_0) z.E Za ld rfl ty22 rfl (At.cat (pre:=[]) (z.M.rawAt0) cl0) (kr0 rfl)) (qsP (fun z=>AE z.E Za ld rfl Tryz.underlying22 (z.M.rd hv0_0) (kr0 rfl)) (qsP (fun z=>Yk z.E Za ld rfl rfl rfl (kr0 rfl)) qs0)))))))))) ?_
    ·intro a w u hE hM
     refine Zh ?_
     obtain rfl:=Option.some.inj hl6
     refine Zi ?_
     exact ⟨hE.sub ⟨rfl,rfl,rfl,rfl,trivial⟩,hM⟩
   ·skip
    rintro a w ⟨hE,hM⟩
    refine Zr hE rfl ?_ ?_
    ·intro hb10
     have hF7:=Zu hF7 hb10
     obtain ⟨j11,hl12,hF13⟩:=bind_some hF7
     refine ZQ (fun a w=>Env 58 a [(0,(ptr pb0 0)),(1,vI p1),(5,vI j11)] ∧ M St W w [raw pb0 (cat [[v0_0],[vI p0.1],[(Value.int .u64 (IntKind.u64.wrap ((IntKind.u64.wrap (p0.2 * 6364136223846793005)) + 1442695040888963407)))]]),R]) ?_ ?_
     ·skip
      obtain ⟨x15,hi17,hl12⟩:=bix hl12
      refine Yl [34,35,36,37,38,39,40,41,42,43,44,45,46] Xm rfl rfl (by decide) rfl hE hM (qsP (fun z=>Zj z.E Za ld rfl (kr0 rfl)) (qsP (fun z=>Zj z.E Za ld rfl (kr0 rfl)) (qsP (fun z=>ZV z.E Za ld rfl (kr0 rfl)) (qsP (fun z=>ZP z.E Za ld rfl (qJ) (kr0 rfl)) (qsP (fun z=>Z0 (v:=v0_0) z.E Za ld rfl ty22 rfl (At.cat (pre:=[]) (z.M.rawAt0) cl0) (kr0 rfl)) (qsP (fun z=>Zj z.E Za ld rfl (kr0 rfl)) (qsP (fun z=>ZV z.E Za ld rfl (kr0 rfl)) (qsP (fun z=>ZP z.E Za ld rfl (zR) (kr0 rfl)) (qsP (fun z=>Z0 (v:=(vI p0.1)) z.E Za ld rfl ty3 rfl (At.cat (pre:=[[v0_0]]) (z.M.rawAt0) ck) (kr0 rfl)) (qsP (fun z=>X7 z.E Za ld rfl rfl Tryz.underlying22 ty5 (z.M.rd hv0_0) hi17.1 (kr0 rfl)) (qsP (fun z=>Z0 (v:=(vB x15)) z.E Za ld rfl ty5 rfl (Y1 (z.M.rd hv0_0) hi17.2) (kr0 rfl)) (qsP (fun z=>Ku z.E Za ld rfl Tryz.underlying5 Tryz.underlying2 (kr0 rfl)) (qsP (v:=(vI (wr ((IntKind.i64.wrap (wru (BitVec.ofInt 64 (Kh (IntKind.u64.wrap ((IntKind.u64.wrap (p0.2 * 6364136223846793005)) + 1442695040888963407)) 33) &&& BitVec.ofInt 64 16777215).toNat)) + (bI x15))))) (fun z=>Yk z.E Za ld rfl rfl rfl (kr0 rfl)) qs0))))))))))))) ?_
      ·intro a w u hE hM
       refine Zc hE rfl fun a hE=>Zh ?_
       obtain rfl:=Option.some.inj hl12
       refine Zi ?_
       exact ⟨hE.sub ⟨rfl,rfl,rfl,trivial⟩,hM⟩
     ·skip
      rintro a w ⟨hE,hM⟩
      refine wp_region_lit (Zd hE rfl fun a hE=>Zd hE rfl fun a hE=>ZV hE Za ld rfl fun a hE=>ZJ hE rfl (zR) fun a hE=>ZR (v:=(vI p0.1)) hE rfl ty3 rfl (At.cat (pre:=[[v0_0]]) hM.rawAt0 ck) fun a hE=>Zl hE rfl rfl rfl fun a hE=>ZV hE Za ld rfl fun a hE=>ZJ hE rfl (zR) fun a hE=>Zg (seg:=[(vI (wr (p0.1 + 1)))]) hE hM Za rfl rfl rfl ty3 rfl (Ur (pre:=[[v0_0]]) ck rfl) (Flat.cell (wr (p0.1 + 1) : Int)) (XC (pre:=[[v0_0]]) ck rfl) fun w a hM hE=>Zh ?_)
      obtain rfl:=Option.some.inj hF13
      refine Zi ?_
      exact ⟨hE.sub ⟨rfl,rfl,trivial⟩,hM⟩
    ·intro hb10
     have hF7:=Zt hF7 hb10
     refine wp_skip ?_
     obtain rfl:=Option.some.inj hF7
     refine Zi ?_
     exact ⟨hE.sub ⟨rfl,rfl,trivial⟩,hM⟩
  ·skip
   rintro a w ⟨hE,hM⟩
   refine Zb (Zd hE rfl fun a hE=>Zd hE rfl ?_); intro a hE
   obtain ⟨_,e21,hF4⟩:=bind_some hF4
   have e21:=HA e21
   refine Zl hE rfl rfl (KA _ _ e21) fun a hE=>Zc hE rfl fun a hE=>Ze ?_
   obtain rfl:=Option.some.inj hF4
   exact wp_ret (Z2 hE rfl (ZF hE rfl) ⟨_,rfl,rfl,hM⟩)
def Tu (p0_0 : (List UInt8)) (s8 : (Vector UInt8 16) × Int × Int × Int) : Option (Fl ((Vector UInt8 16) × Int × Int × Int) ((Vector UInt8 16) × Int × Int)) :=
 if (decide (s8.2.2.2 < 16)) = true then ((YR p0_0 (s8.2.1,s8.2.2.1) 256).bind fun r13=>(ZB s8.1 s8.2.2.2).bind fun x16=>some (Fl.nx ((s8.1.setIfInBounds (s8.2.2.2).toNat (ZH r13.2)),r13.1.1,r13.1.2,wr (s8.2.2.2 + 1)))) else (some (Fl.ex (s8.1,s8.2.1,s8.2.2.1)))
def Ul (p0_0 : (List UInt8)) (p0 : (Int × Int)) : Option ((Int × Int) × (Vector UInt8 16)) :=
 (ZK (Tu p0_0) ((Vector.replicate 16 (0 : UInt8)),p0.1,p0.2,0)).bind fun j5=>some ((j5.2.1,j5.2.2),j5.1)
theorem Ju (St : Nat → Prop) (W w0 : World) (R : Item) (pb0 : Nat) (p0_0 : (List UInt8)) (v0_0 : Value) (hv0_0 : Rep.sat St W p0_0 [v0_0] []) (p0 : (Int × Int)) (hM : M St W w0 [raw pb0 (cat [[v0_0],[vI p0.1],[(Value.int .u64 p0.2)]]),R]) (r : (Int × Int) × (Vector UInt8 16)) (hF : Ul p0_0 p0 = some r) :
  Calls Tryz.prog 25 [(ptr pb0 0)].toArray w0 (fun en w'=>∃ v,en = .returned v ∧ (v = (Value.agg (enc r.2).toArray) ∧ M St W w' [raw pb0 (cat [[v0_0],[vI r.1.1],[(Value.int .u64 r.1.2)]]),R])):=by
 refine ce Tryz.func25 ?_
 intro a hE
 unfold Ul at hF
 refine Zb (Zs hE hM Zv fun b1 w a hM hE=>Ze (Zb (Z8 (parts:=[]) (vs:=[]) (cs:=enc (Vector.replicate 16 (0 : UInt8))) hE Za ld rfl rfl Zv rfl ty5 ZZ fun a hE=>Zs hE hM Zv fun b3 w a hM hE=>Zg (seg:=enc (Vector.replicate 16 (0 : UInt8))) (cs':=enc (Vector.replicate 16 (0 : UInt8))) hE hM Za rfl rfl rfl Zv (Flat.len _) (zle flq) (Flat.cell _) (Zf flq) fun w a hM hE=>Ze (wp_seq (Zb (Zc hE rfl fun a hE=>Ze ?_))))))
 obtain ⟨j5,hl6,hF7⟩:=bind_some hF
 refine ZS (fun a w=>Env 16 a [(2,(ptr b1 0)),(3,(ptr b3 0))] ∧ M St W w [raw b3 (enc j5.1),raw b1 (enc (Vector.replicate 16 (0 : UInt8))),raw pb0 (cat [[v0_0],[vI j5.2.1],[(Value.int .u64 j5.2.2)]]),R]) ?_ ?_
 ·skip
  refine wp_block ?_
  refine ZO (fun (s8 : (Vector UInt8 16) × Int × Int × Int) a w=>Env 16 a [(0,(ptr pb0 0)),(2,(ptr b1 0)),(3,(ptr b3 0)),(4,vI s8.2.2.2)] ∧ M St W w [raw b3 (enc s8.1),raw b1 (enc (Vector.replicate 16 (0 : UInt8))),raw pb0 (cat [[v0_0],[vI s8.2.1],[(Value.int .u64 s8.2.2.1)]]),R]) hl6 ⟨hE.sub ⟨rfl,rfl,rfl,rfl,trivial⟩,hM⟩ ?_
  rintro s8 a w ⟨hE,hM⟩ o11 hs9 hx10
  unfold Tu at hs9
  refine wp_seq (Zb (Zd hE rfl fun a hE=>Zl hE rfl rfl rfl fun a hE=>Ze ?_))
  refine Zr hE rfl ?_ ?_
  ·intro hb12
   have hs9:=Zu hs9 hb12
   refine wp_skip (Zz (wp_seq (wp_block (wp_region_lit (Zd hE rfl fun a hE=>Zd hE rfl ?_))))); intro a hE
   have hM:=M.tailP (m:=[_]) hM.pull2
   obtain ⟨r13,e14,hs9⟩:=bind_some hs9
   refine Zo hE rfl cb26 (Vv _ _ _ _ pb0 p0_0 v0_0 hv0_0 (s8.2.1,s8.2.2.1) 256 hM r13 e14) ?_
   rintro v w a ⟨rfl,hM⟩ hE
   have hM:=M.tailU (m:=[_]) hM
   simp only [List.cons_append,List.nil_append] at hM
   refine YX hE Za ld rfl Tryz.underlying2 Tryz.underlying5 ?_; intro a hE
   obtain ⟨x16,hi15,hs9⟩:=bvx hs9
   refine Zw hE rfl rfl Tryz.underlying33 ty5 hi15.1 ?_; intro a hE
   have hM:=hM.pull1
   refine Zg (seg:=[(vB (ZH r13.2))]) (cs':=enc (s8.1.setIfInBounds (s8.2.2.2).toNat (ZH r13.2))) hE hM Za rfl rfl rfl ty5 rfl (ZE (v:=s8.1) (x:=ZH r13.2) hi15.1) (Flat.cell (ZH r13.2 : UInt8)) (Zy (v:=s8.1) (x:=ZH r13.2) hi15.1) fun w a hM hE=>Zh (Z9 (Zz (wp_region_lit (Zd hE rfl fun a hE=>Zl hE rfl rfl rfl fun a hE=>Zc hE rfl fun a hE=>Zh (Zi ?_)))))
   have hM:=hM.pull3.pull2.pull3.pull3
   exact ⟨_,(ois hs9),hE.sub ⟨rfl,rfl,rfl,rfl,trivial⟩,hM⟩
  ·intro hb12
   have hs9:=Zt hs9 hb12
   refine wp_exit (Zq (Zq (Yi ?_)))
   obtain rfl:=hx10 _ (ois hs9)
   refine Zi ?_
   exact ⟨hE.sub ⟨rfl,rfl,trivial⟩,hM⟩
 ·skip
  rintro a w ⟨hE,hM⟩
  refine Zz (Zb (Zk hE rfl Zv rfl hM.rawAt0 (Flat.len _) ?_)); intro a hE
  have hM:=hM.pull1
  refine Zg (seg:=enc j5.1) (cs':=enc j5.1) hE hM Za rfl rfl rfl Zv (Flat.len _) (zle flq) (Flat.cell _) (Zf flq) fun w a hM hE=>Ze ?_
  obtain rfl:=Option.some.inj hF7
  have hq19 : ZX Tryz.prog _ _ (.cell 2 33) _:=ZN hE rfl Zv rfl hM.rawAt0 (Flat.len _) rfl
  have hM:=((hM.pull3.pull3.pull3).drop.pull2).drop
  exact wp_ret (Z2 hE rfl hq19 ⟨_,rfl,rfl,hM⟩)
def WM (p0 : GCipher) (p1 : (Vector UInt8 16)) : Option ((List (Vector UInt8 16)) × Int) :=
 (WH p0).bind fun r5=>if (!r5) = true then (some ([],1)) else (((Xt p0).bind fun r15=>(Y6 r15 p1 p0.Rounds).bind fun r18=>some r18 : Option ((List (Vector UInt8 16)))).bind fun j9=>some (j9,0))
theorem Js (w0 : World) (p0 : GCipher) (p1 : (Vector UInt8 16)) (r : (List (Vector UInt8 16)) × Int) (hF : WM p0 p1 = some r) :
  Calls Tryz.prog 27 [(Value.agg (enc p0).toArray),(Value.agg (enc p1).toArray)].toArray w0 (fun en w'=>∃ v,en = .returned v ∧ (∃ (y1 : Value),v = (Value.tuple [y1,vI r.2].toArray) ∧ Fr w0 w' [osl NoB (r.1 : List (Vector UInt8 16)) y1] ∧ Kept (Old w0) w0 w')):=by
 refine ce Tryz.func27 ?_
 intro a hE
 have hM:=M.start w0
 unfold WM at hF
 refine Zb (ZY (cs:=cat [[vI p0.Field],enc p0.Box,enc p0.Mix,enc p0.Places,[vI p0.Rounds]]) hE hM Za ld rfl rfl fun b1 w a hM hE=>ZY (cs:=enc p1) hE hM Za ld rfl rfl fun b3 w a hM hE=>Zc hE rfl fun a hE=>Zc hE rfl fun a hE=>Ze (wp_seq (Zb (Zk hE rfl ZT rfl hM.rawAt1 cq ?_)))); intro a hE
 obtain ⟨r5,e6,hF⟩:=bind_some hF
 refine Zo hE rfl cb37 (Qe _ p0 r5 e6) ?_
 rintro v w a ⟨rfl,hK⟩ hE
 have hM:=hM.keep hK
 refine TH hE rfl fun a hE=>Ze ?_
 refine Zr hE rfl ?_ ?_
 ·intro hb7
  have hF:=Zu hF hb7
  refine Zb (Zc hE rfl fun a hE=>Zc hE rfl fun a hE=>Ze ?_)
  have hM:=M.nilS (α:=(Vector UInt8 16)) NoB noB hM
  obtain rfl:=Option.some.inj hF
  have hM:=M.fst (l:=[_]) hM
  exact wp_ret (ZI (Xk hE rfl (ZF hE rfl) (ZF hE rfl) ⟨_,rfl,(Value.slice none 0 0),rfl,hM.outF (WU WD),hM.kept⟩))
 ·intro hb7
  have hF:=Zt hF hb7
  refine wp_skip (Zz ?_)
  obtain ⟨j9,hl10,hF11⟩:=bind_some hF
  refine ZQ (fun a w=>∃ (u12 : Value),Env 15 a [(4,u12),(5,vI 0)] ∧ M (Old w0) w0 w [osl NoB (j9 : List (Vector UInt8 16)) u12]) ?_ ?_
  ·skip
   obtain ⟨r15,e16,hl10⟩:=bind_some hl10
   refine Wk (its:=[raw b3 (enc p1),raw b1 (cat [[vI p0.Field],enc p0.Box,enc p0.Mix,enc p0.Places,[vI p0.Rounds]])]) (mk:=([mkO 1 (fun v=>own NoB (r15 : (Ref Gengine)) [v])] : Mk)) [9,10,11,12,13] Xm rfl rfl (by decide) rfl hE (fun u=>M.qE (M.q0 hM.drew u) emO) (qsP (v:=(Value.agg (enc p0).toArray)) ?_ (qsM (pr:=fun v=>True) ?_ (qsP (v:=(Value.agg (enc p1).toArray)) ?_ (qsP (fun z=>ZP z.E Za ld rfl (Qx) (kr0 rfl)) (qsP (v:=(vI p0.Rounds)) ?_ qs0))))) ?_
   ·intro a w ux14 D z
    have hE:=z.E
    have hM:=z.M
    exact Zk hE rfl ZT rfl hM.rawAt1 cq fun a hE=>⟨Kept.refl _ _,_,rfl,hE⟩
   ·intro a w ux14 D z
    have hE:=z.E
    have hD : D 1 = false:=z.F
    have hM0:=z.M
    have hM:=z.M
    refine Zo hE rfl cb41 (UX _ p0 r15 e16) ?_
    rintro _ w a ⟨_,rfl,hFr,hK⟩ hE
    have hM:=hM0.add hK hFr
    exact ⟨_,_,rfl,hE,M.qFill (mk1:=[]) (mk2:=[]) (f:=(fun v=>own NoB (r15 : (Ref Gengine)) [v])) hM rfl hD,trivial⟩
   ·intro a w ux14 D z
    have hE:=z.E
    have hM:=z.M
    exact Zk hE rfl Zv rfl hM.rawAt0 (Flat.len _) fun a hE=>⟨Kept.refl _ _,_,rfl,hE⟩
   ·intro a w ux14 D z
    have hE:=z.E
    have hM:=z.M
    exact ZR (v:=(vI p0.Rounds)) hE rfl ty2 rfl (At.cat (pre:=[[vI p0.Field],enc p0.Box,enc p0.Mix,enc p0.Places]) hM.rawAt1 ck) fun a hE=>⟨Kept.refl _ _,_,rfl,hE⟩
   ·intro a w ux14 D hE hM hG hall
    have d1:=hall 1 (by decide)
    have hM:=hM.sure (pre:=[_,_]) d1
    obtain ⟨r18,e19,hl10⟩:=bind_some hl10
    refine Zo hE rfl cb48 (Tg _ r15 (ux14 1) (hM.ro (pre:=[_,_]) noB) p1 p0.Rounds r18 e19) ?_
    rintro u20 w a ⟨_,rfl,hFr,hK⟩ hE
    have hM:=hM.add hK hFr
    refine Zc hE rfl fun a hE=>Zc hE rfl fun a hE=>Zh ?_
    obtain rfl:=Option.some.inj hl10
    refine Zi ?_
    have hM:=M.fst (l:=[_]) hM
    exact ⟨u20,hE.sub ⟨rfl,rfl,trivial⟩,hM⟩
  ·skip
   rintro a w ⟨u12,hE,hM⟩
   obtain rfl:=Option.some.inj hF11
   exact wp_ret (Xk hE rfl (ZF hE rfl) (ZF hE rfl) ⟨_,rfl,u12,rfl,hM.outF (WU WD),hM.kept⟩)
def UF (r12 : (List (Vector UInt8 16)) × Int) (s125 : (Vector UInt8 16) × Int) : Option (Fl ((Vector UInt8 16) × Int) (Vector UInt8 16)) :=
 if (decide (s125.2 < (r12.1.length : Int))) = true then ((idx r12.1 s125.2).bind fun x131=>(T3 s125.1 x131).bind fun r134=>some (Fl.nx (r134,wr (s125.2 + 1)))) else (some (Fl.ex s125.1))
def VZ (r182 : (Int × Int) × Int) (j184 : (List Int) × Int) (r198 : (List (Vector UInt8 16)) × Int) (s218 : Int) : Option (Fl Int (Fl Unit Bool)) :=
 if (decide (s218 < (j184.1.length : Int))) = true then (((idx j184.1 s218).bind fun x227=>(idx r198.1 (4 : Int)).bind fun x230=>(ZB x230 r182.2).bind fun x234=>some (x227 == (bI x234)) : Option (Bool)).bind fun j223=>if j223 = true then (some (Fl.ex (Fl.ex true))) else (some (Fl.nx (wr (s218 + 1))))) else (some (Fl.ex (Fl.nx ())))
def TV (p0 : (List UInt8)) : Option (Bool) :=
 (JQ p0).bind fun r1=>if r1 = true then (some true) else ((VS p0).bind fun r4=>(Tp r4.1 r4.2.1 r4.2.2.1 r4.2.2.2.1 r4.2.2.2.2).bind fun r12=>(TA r4.1 r4.2.1 r4.2.2.1 r4.2.2.2.1 r4.2.2.2.2).bind fun r15=>(if (r12.2 != r15.2) = true then (some true) else ((UE r12.1 r15.1).bind fun r23=>some (!r23)) : Option (Bool)).bind fun j18=>if j18 = true then (some false) else ((WO p0).bind fun r27=>(WG r27.1 r27.2.1 r27.2.2.1 r27.2.2.2.1 r27.2.2.2.2).bind fun r35=>(Uj r27.1 r27.2.1 r27.2.2.1 r27.2.2.2.1 r27.2.2.2.2).bind fun r39=>(if (r35.2 != r39.2) = true then (some true) else (some (!decide (r35.1 = r39.1))) : Option (Bool)).bind fun j43=>if j43 = true then (some false) else ((Xb p0).bind fun r50=>(X4 r50.1 r50.2.1 r50.2.2).bind fun r55=>(X6 r50.1 r50.2.1 r50.2.2).bind fun r58=>(if (r55.2 != r58.2) = true then (some true) else ((WJ r55.1 r58.1).bind fun r66=>some (!r66)) : Option (Bool)).bind fun j61=>if j61 = true then (some false) else ((Y5 p0).bind fun r70=>(YK r70.1 r70.2.1 r70.2.2.1 r70.2.2.2.1 r70.2.2.2.2.1 r70.2.2.2.2.2).bind fun r77=>(XH r70.1 r70.2.1 r70.2.2.1 r70.2.2.2.1 r70.2.2.2.2.1 r70.2.2.2.2.2).bind fun r80=>(if (r77.2 != r80.2) = true then (some true) else ((WJ r77.1 r80.1).bind fun r88=>some (!r88)) : Option (Bool)).bind fun j83=>if j83 = true then (some false) else ((YI p0).bind fun r92=>(Xd r92.1 r92.2.1 r92.2.2.1 r92.2.2.2.1 r92.2.2.2.2).bind fun r100=>(Xc r92.1 r92.2.1 r92.2.2.1 r92.2.2.2.1 r92.2.2.2.2).bind fun r103=>(if (r100.2 != r103.2) = true then (some true) else ((WJ r100.1 r103.1).bind fun r111=>some (!r111)) : Option (Bool)).bind fun j106=>if j106 = true then (some false) else ((if (r12.2 == 0) = true then ((ZK (UF r12) ((Vector.replicate 16 (0 : UInt8)),0)).bind fun j122=>(WG r4.1 r4.2.1 r4.2.2.1 r4.2.2.2.1 r4.2.2.2.2).bind fun r137=>(if (r137.2 != 0) = true then (some true) else (if (!decide (r137.1 = j122)) = true then (some true) else (some ((r12.1.length : Int) != 256))) : Option (Bool)).bind fun j141=>if j141 = true then (some (Fl.ex false)) else (some (Fl.nx ()))) else (some (Fl.nx ())) : Option (Fl Unit Bool)).bind fun j115=>j115.el (fun s118=>(T5 p0 9012).bind fun r153=>(W4 4).bind fun r157=>(Ul p0 (r153.1,r153.2)).bind fun r161=>(Ul p0 (r161.1.1,r161.1.2)).bind fun r163=>(YR p0 (r163.1.1,r163.1.2) 16).bind fun r170=>(YR p0 (r170.1.1,r170.1.2) 4).bind fun r172=>(WG r157.1 r161.2 r163.2 r170.2 r172.2).bind fun r174=>(YR p0 (r172.1.1,r172.1.2) 16).bind fun r182=>((YR p0 (r182.1.1,r182.1.2) 16).bind fun r192=>(YK r157.1 r161.2 ([r163.2] : List (Vector UInt8 16)) r192.2 r182.2 4).bind fun r194=>some (r194.1,r194.2) : Option ((List Int) × Int)).bind fun j184=>(WM r157.1 r161.2).bind fun r198=>(if (r157.2 != 0) = true then (some true) else (if (r174.2 != 0) = true then (some true) else (if (j184.2 != 0) = true then (some true) else (if (r198.2 != 0) = true then (some true) else (some (!decide (r174.1 = (Vector.replicate 16 (0 : UInt8)))))))) : Option (Bool)).bind fun j201=>if j201 = true then (some false) else ((ZK (VZ r182 j184 r198) 0).bind fun j214=>j214.el (fun s217=>some false) (fun r=>some r))) (fun r=>some r)))))))
theorem AP (w0 : World) (p0 : (List UInt8)) (v0_1 : Value) (hv0_1 : Ro w0 p0 [v0_1]) (r : Bool) (hF : TV p0 = some r) :
  Calls Tryz.prog 3 [v0_1].toArray w0 (Rt w0 (vT r)):=by
 refine ce Tryz.func3 ?_
 intro a hE
 have hM:=M.start w0
 unfold TV at hF
 refine Zb (Zc hE rfl fun a hE=>Ze (wp_seq (Zb (Zd hE rfl ?_)))); intro a hE
 obtain ⟨r1,e2,hF⟩:=bind_some hF
 refine Zo hE rfl (cbm Tryz.func4) (y9 _ p0 v0_1 (hM.rdo hv0_1) r1 e2) ?_
 rintro v w a ⟨rfl,hK⟩ hE
 have hM:=hM.keep hK
 refine Ze ?_
 refine Zr hE rfl ?_ ?_
 ·intro hb3
  have hF:=Zu hF hb3
  refine Zb (Zc hE rfl fun a hE=>Ze ?_)
  obtain rfl:=Option.some.inj hF
  exact wp_ret (ZI (kr1 hE rfl rfl hM.kept))
 ·intro hb3
  have hF:=Zt hF hb3
  refine wp_skip (Zz (Zb (Zd hE rfl ?_))); intro a hE
  obtain ⟨r4,e5,hF⟩:=bind_some hF
  refine Zo hE rfl (cbm Tryz.func5) (H0 _ p0 v0_1 (hM.rdo hv0_1) r4 e5) ?_
  rintro v w a ⟨rfl,hK⟩ hE
  have hM:=hM.keep hK
  refine Zd hE rfl fun a hE=>Zx hE Za ld rfl rfl fun a hE=>Zx hE Za ld rfl rfl fun a hE=>Zx hE Za ld rfl rfl fun a hE=>Zx hE Za ld rfl rfl fun a hE=>Zx hE Za ld rfl rfl fun a hE=>Zs hE hM ZT fun b6 w a hM hE=>Zs hE hM Zv fun b8 w a hM hE=>Zs hE hM Zv ?_; intro b10 w a hM hE
  have hM:=hM.pull2
  refine Zg (seg:=cat [[vI r4.1.Field],enc r4.1.Box,enc r4.1.Mix,enc r4.1.Places,[vI r4.1.Rounds]]) (cs':=cat [[vI r4.1.Field],enc r4.1.Box,enc r4.1.Mix,enc r4.1.Places,[vI r4.1.Rounds]]) hE hM Za rfl rfl rfl ZT cq (Nat.le_of_eq ((Nat.zero_add _).trans (Eq.trans cq (Eq.symm cq)))) (Yf (cc1 (Flat.cell (r4.1.Field : Int)) (cc1 (Flat.cell _) (cc1 (Flat.cell _) (cc1 (Flat.cell _) (cc1 (Flat.cell (r4.1.Rounds : Int)) cc0)))))) (Zf (Eq.trans cq (Eq.symm cq))) ?_; intro w a hM hE
  have hM:=hM.pull2
  refine Zg (seg:=enc r4.2.1) (cs':=enc r4.2.1) hE hM Za rfl rfl rfl Zv (Flat.len _) (zle flq) (Flat.cell _) (Zf flq) ?_; intro w a hM hE
  have hM:=hM.pull2
  refine Zg (seg:=enc r4.2.2.1) (cs':=enc r4.2.2.1) hE hM Za rfl rfl rfl Zv (Flat.len _) (zle flq) (Flat.cell _) (Zf flq) fun w a hM hE=>Zc hE rfl fun a hE=>Zc hE rfl fun a hE=>Ze (Zb (Zk hE rfl ZT rfl hM.rawAt2 cq fun a hE=>Zk hE rfl Zv rfl hM.rawAt1 (Flat.len _) fun a hE=>Zk hE rfl Zv rfl hM.rawAt0 (Flat.len _) fun a hE=>Zd hE rfl fun a hE=>Zd hE rfl ?_)); intro a hE
  obtain ⟨r12,e13,hF⟩:=bind_some hF
  refine Zo hE rfl (cbm Tryz.func6) (zq _ r4.1 r4.2.1 r4.2.2.1 r4.2.2.2.1 r4.2.2.2.2 r12 e13) ?_
  rintro v w a ⟨u14,rfl,hFr,hK⟩ hE
  have hM:=hM.add hK hFr
  refine Zd hE rfl fun a hE=>Zx hE Za ld rfl rfl fun a hE=>Zx hE Za ld rfl rfl fun a hE=>Zc hE rfl fun a hE=>Zc hE rfl fun a hE=>Ze (wp_seq (Zb (Zk hE rfl ZT rfl hM.rawAt3 cq fun a hE=>Zk hE rfl Zv rfl hM.rawAt2 (Flat.len _) fun a hE=>Zk hE rfl Zv rfl hM.rawAt1 (Flat.len _) fun a hE=>Zd hE rfl fun a hE=>Zd hE rfl ?_))); intro a hE
  obtain ⟨r15,e16,hF⟩:=bind_some hF
  refine Zo hE rfl (cbm Tryz.func7) (zE _ r4.1 r4.2.1 r4.2.2.1 r4.2.2.2.1 r4.2.2.2.2 r15 e16) ?_
  rintro v w a ⟨u17,rfl,hFr,hK⟩ hE
  have hM:=hM.add hK hFr
  refine Zd hE rfl fun a hE=>Zx hE Za ld rfl rfl fun a hE=>Zx hE Za ld rfl rfl fun a hE=>Zc hE rfl fun a hE=>Zc hE rfl fun a hE=>Ze ?_
  obtain ⟨j18,hl19,hF20⟩:=bind_some hF
  refine ZQ (fun a w=>Env 349 a [(0,v0_1),(3,(ptr b6 0)),(4,(ptr b8 0)),(5,(ptr b10 0)),(6,vI r4.2.2.2.1),(7,vI r4.2.2.2.2),(8,u14),(9,vI r12.2),(100,vT j18)] ∧ M (Old w0) w0 w [osl NoB (r12.1 : List (Vector UInt8 16)) u14,raw b10 (enc r4.2.2.1),raw b8 (enc r4.2.1),raw b6 (cat [[vI r4.1.Field],enc r4.1.Box,enc r4.1.Mix,enc r4.1.Places,[vI r4.1.Rounds]])]) ?_ ?_
  ·skip
   refine wp_region_lit (Zd hE rfl fun a hE=>Zd hE rfl fun a hE=>Zl hE rfl rfl rfl fun a hE=>Zd hE rfl ?_); intro a hE
   refine YF (r12.2 != r15.2) (fun hb21=>?_) (fun hb21=>?_)
   ·have hl19:=Zu hl19 hb21
    refine Zp hE rfl (lkb rfl hb21) rfl (by decide) fun a hE=>Zp hE rfl (lkb rfl hb21) rfl (by decide) fun a hE=>Zp hE rfl (lkb rfl hb21) rfl (by decide) fun a hE=>Zp hE rfl (lkb rfl hb21) rfl (by decide) fun a hE=>ZW hE (lkb rfl hb21) rfl fun a hE=>Zh ?_
    obtain rfl:=Option.some.inj hl19
    refine Zi ?_
    have hM:=M.fst (l:=[_,_,_,_]) hM.pull4.pull4.pull4.pull4
    exact ⟨hE.sub ⟨rfl,rfl,rfl,rfl,rfl,rfl,rfl,rfl,rfl,trivial⟩,hM⟩
   ·have hl19:=Zt hl19 hb21
    refine Zj hE (Zm hE rfl (lkb rfl hb21)) (by decide) rfl fun a hE=>Zj hE (Zm hE rfl (lkb rfl hb21)) (by decide) rfl ?_; intro a hE
    obtain ⟨r23,e24,hl19⟩:=bind_some hl19
    refine YD hE (Zm hE rfl (lkb rfl hb21)) (by decide) rfl (cbm Tryz.func8) (BU _ r12.1 u14 (hM.sl (pre:=[_]) noB) r15.1 u17 (hM.sl (pre:=[]) noB) r23 e24) ?_
    rintro v w a ⟨rfl,hK⟩ hE
    have hM:=hM.keep hK
    refine Q0 hE (Zm hE rfl (lkb rfl hb21)) (by decide) rfl fun a hE=>Z7 hE (lkb rfl hb21) rfl fun a hE=>Zh ?_
    obtain rfl:=Option.some.inj hl19
    refine Zi ?_
    have hM:=M.fst (l:=[_,_,_,_]) hM.pull4.pull4.pull4.pull4
    exact ⟨hE.sub ⟨rfl,rfl,rfl,rfl,rfl,rfl,rfl,rfl,rfl,trivial⟩,hM⟩
  ·skip
   rintro a w ⟨hE,hM⟩
   refine Zr hE rfl ?_ ?_
   ·intro hb26
    have hF20:=Zu hF20 hb26
    refine Zb (Zc hE rfl fun a hE=>Ze ?_)
    obtain rfl:=Option.some.inj hF20
    exact wp_ret (ZI (kr1 hE rfl rfl hM.kept))
   ·intro hb26
    have hF20:=Zt hF20 hb26
    refine wp_skip (Zz (Zb (Zd hE rfl ?_))); intro a hE
    obtain ⟨r27,e28,hF20⟩:=bind_some hF20
    refine Zo hE rfl (cbm Tryz.func9) (Jm _ p0 v0_1 (hM.rdo hv0_1) r27 e28) ?_
    rintro v w a ⟨rfl,hK⟩ hE
    have hM:=hM.keep hK
    refine Zd hE rfl fun a hE=>Zx hE Za ld rfl rfl fun a hE=>Zx hE Za ld rfl rfl fun a hE=>Zx hE Za ld rfl rfl fun a hE=>Zx hE Za ld rfl rfl fun a hE=>Zx hE Za ld rfl rfl fun a hE=>Zs hE hM ZT fun b29 w a hM hE=>Zs hE hM Zv fun b31 w a hM hE=>Zs hE hM Zv ?_; intro b33 w a hM hE
    have hM:=hM.pull2
    refine Zg (seg:=cat [[vI r27.1.Field],enc r27.1.Box,enc r27.1.Mix,enc r27.1.Places,[vI r27.1.Rounds]]) (cs':=cat [[vI r27.1.Field],enc r27.1.Box,enc r27.1.Mix,enc r27.1.Places,[vI r27.1.Rounds]]) hE hM Za rfl rfl rfl ZT cq (Nat.le_of_eq ((Nat.zero_add _).trans (Eq.trans cq (Eq.symm cq)))) (Yf (cc1 (Flat.cell (r27.1.Field : Int)) (cc1 (Flat.cell _) (cc1 (Flat.cell _) (cc1 (Flat.cell _) (cc1 (Flat.cell (r27.1.Rounds : Int)) cc0)))))) (Zf (Eq.trans cq (Eq.symm cq))) ?_; intro w a hM hE
    have hM:=hM.pull2
    refine Zg (seg:=enc r27.2.1) (cs':=enc r27.2.1) hE hM Za rfl rfl rfl Zv (Flat.len _) (zle flq) (Flat.cell _) (Zf flq) ?_; intro w a hM hE
    have hM:=hM.pull2
    refine Zg (seg:=enc r27.2.2.1) (cs':=enc r27.2.2.1) hE hM Za rfl rfl rfl Zv (Flat.len _) (zle flq) (Flat.cell _) (Zf flq) fun w a hM hE=>Zc hE rfl fun a hE=>Zc hE rfl fun a hE=>Ze (Zb (Zk hE rfl ZT rfl hM.rawAt2 cq fun a hE=>Zk hE rfl Zv rfl hM.rawAt1 (Flat.len _) fun a hE=>Zk hE rfl Zv rfl hM.rawAt0 (Flat.len _) fun a hE=>Zd hE rfl fun a hE=>Zd hE rfl ?_)); intro a hE
    obtain ⟨r35,e36,hF20⟩:=bind_some hF20
    refine Zo hE rfl cb10 (Qg _ r27.1 r27.2.1 r27.2.2.1 r27.2.2.2.1 r27.2.2.2.2 r35 e36) ?_
    rintro v w a ⟨rfl,hK⟩ hE
    have hM:=hM.keep hK
    refine Zd hE rfl fun a hE=>Zx hE Za ld rfl rfl fun a hE=>Zx hE Za ld rfl rfl fun a hE=>Zs hE hM Zv fun b37 w a hM hE=>Zg (seg:=enc r35.1) (cs':=enc r35.1) hE hM Za rfl rfl rfl Zv (Flat.len _) (zle flq) (Flat.cell _) (Zf flq) fun w a hM hE=>Zc hE rfl fun a hE=>Ze (wp_seq (Zb (Zk hE rfl ZT rfl hM.rawAt3 cq fun a hE=>Zk hE rfl Zv rfl hM.rawAt2 (Flat.len _) fun a hE=>Zk hE rfl Zv rfl hM.rawAt1 (Flat.len _) fun a hE=>Zd hE rfl fun a hE=>Zd hE rfl ?_))); intro a hE
    obtain ⟨r39,e40,hF20⟩:=bind_some hF20
    refine Zo hE rfl (cbm Tryz.func11) (Bo _ r27.1 r27.2.1 r27.2.2.1 r27.2.2.2.1 r27.2.2.2.2 r39 e40) ?_
    rintro v w a ⟨rfl,hK⟩ hE
    have hM:=hM.keep hK
    refine Zd hE rfl fun a hE=>Zx hE Za ld rfl rfl fun a hE=>Zx hE Za ld rfl rfl fun a hE=>Zs hE hM Zv fun b41 w a hM hE=>Zg (seg:=enc r39.1) (cs':=enc r39.1) hE hM Za rfl rfl rfl Zv (Flat.len _) (zle flq) (Flat.cell _) (Zf flq) fun w a hM hE=>Zc hE rfl fun a hE=>Ze ?_
    obtain ⟨j43,hl44,hF45⟩:=bind_some hF20
    refine ZQ (fun a w=>Env 349 a [(0,v0_1),(3,(ptr b6 0)),(4,(ptr b8 0)),(5,(ptr b10 0)),(6,vI r4.2.2.2.1),(7,vI r4.2.2.2.2),(8,u14),(9,vI r12.2),(134,vT j43)] ∧ M (Old w0) w0 w [osl NoB (r12.1 : List (Vector UInt8 16)) u14,raw b10 (enc r4.2.2.1),raw b8 (enc r4.2.1),raw b6 (cat [[vI r4.1.Field],enc r4.1.Box,enc r4.1.Mix,enc r4.1.Places,[vI r4.1.Rounds]])]) ?_ ?_
    ·skip
     refine wp_region_lit (Zd hE rfl fun a hE=>Zd hE rfl fun a hE=>Zl hE rfl rfl rfl fun a hE=>Zd hE rfl ?_); intro a hE
     refine YF (r35.2 != r39.2) (fun hb46=>?_) (fun hb46=>?_)
     ·have hl44:=Zu hl44 hb46
      refine Zp hE rfl (lkb rfl hb46) rfl (by decide) fun a hE=>Zp hE rfl (lkb rfl hb46) rfl (by decide) fun a hE=>Zp hE rfl (lkb rfl hb46) rfl (by decide) fun a hE=>ZW hE (lkb rfl hb46) rfl fun a hE=>Zh ?_
      obtain rfl:=Option.some.inj hl44
      refine Zi ?_
      have hM:=M.fst (l:=[_,_,_,_]) hM.pull8.pull8.pull8.pull8
      exact ⟨hE.sub ⟨rfl,rfl,rfl,rfl,rfl,rfl,rfl,rfl,rfl,trivial⟩,hM⟩
     ·have hl44:=Zt hl44 hb46
      refine YE hE (Zm hE rfl (lkb rfl hb46)) (by decide) rfl Zv rfl hM.rawAt1 (Flat.len _) fun a hE=>YE hE (Zm hE rfl (lkb rfl hb46)) (by decide) rfl Zv rfl hM.rawAt0 (Flat.len _) fun a hE=>ju hE (Zm hE rfl (lkb rfl hb46)) (by decide) rfl rfl (Hf Tryz.underlying33 ty5 rfl false rfl (by decide) (Jf Tryz.underlying5)) (by decide) (by kernel_rfl) fun a hE=>Z7 hE (lkb rfl hb46) rfl fun a hE=>Zh ?_
      obtain rfl:=Option.some.inj hl44
      refine Zi ?_
      have hM:=M.fst (l:=[_,_,_,_]) hM.pull8.pull8.pull8.pull8
      exact ⟨hE.sub ⟨rfl,rfl,rfl,rfl,rfl,rfl,rfl,rfl,rfl,trivial⟩,hM⟩
    ·skip
     rintro a w ⟨hE,hM⟩
     refine Zr hE rfl ?_ ?_
     ·intro hb49
      have hF45:=Zu hF45 hb49
      refine Zb (Zc hE rfl fun a hE=>Ze ?_)
      obtain rfl:=Option.some.inj hF45
      exact wp_ret (ZI (kr1 hE rfl rfl hM.kept))
     ·intro hb49
      have hF45:=Zt hF45 hb49
      refine wp_skip (Zz (Zb (Zd hE rfl ?_))); intro a hE
      obtain ⟨r50,e51,hF45⟩:=bind_some hF45
      refine Zo hE rfl (cbm Tryz.func12) (QL _ p0 v0_1 (hM.rdo hv0_1) r50 e51) ?_
      rintro v w a ⟨u52,rfl,hFr,hK⟩ hE
      have hM:=hM.add hK hFr
      refine Zd hE rfl fun a hE=>Zx hE Za ld rfl rfl fun a hE=>Zx hE Za ld rfl rfl fun a hE=>Zx hE Za ld rfl rfl fun a hE=>Zs hE hM ZT fun b53 w a hM hE=>Zg (seg:=cat [[vI r50.1.Field],enc r50.1.Box,enc r50.1.Mix,enc r50.1.Places,[vI r50.1.Rounds]]) (cs':=cat [[vI r50.1.Field],enc r50.1.Box,enc r50.1.Mix,enc r50.1.Places,[vI r50.1.Rounds]]) hE hM Za rfl rfl rfl ZT cq (Nat.le_of_eq ((Nat.zero_add _).trans (Eq.trans cq (Eq.symm cq)))) (Yf (cc1 (Flat.cell (r50.1.Field : Int)) (cc1 (Flat.cell _) (cc1 (Flat.cell _) (cc1 (Flat.cell _) (cc1 (Flat.cell (r50.1.Rounds : Int)) cc0)))))) (Zf (Eq.trans cq (Eq.symm cq))) fun w a hM hE=>Zc hE rfl fun a hE=>Zc hE rfl fun a hE=>Ze (Zb (Zk hE rfl ZT rfl hM.rawAt0 cq fun a hE=>Zd hE rfl fun a hE=>Zd hE rfl ?_)); intro a hE
      obtain ⟨r55,e56,hF45⟩:=bind_some hF45
      refine Zo hE rfl (cbm Tryz.func13) (KO _ r50.1 r50.2.1 u52 (hM.sl (pre:=[_]) noB) r50.2.2 r55 e56) ?_
      rintro v w a ⟨u57,rfl,hFr,hK⟩ hE
      have hM:=hM.add hK hFr
      refine Zd hE rfl fun a hE=>Zx hE Za ld rfl rfl fun a hE=>Zx hE Za ld rfl rfl fun a hE=>Zc hE rfl fun a hE=>Zc hE rfl fun a hE=>Ze (wp_seq (Zb (Zk hE rfl ZT rfl hM.rawAt1 cq fun a hE=>Zd hE rfl fun a hE=>Zd hE rfl ?_))); intro a hE
      obtain ⟨r58,e59,hF45⟩:=bind_some hF45
      refine Zo hE rfl (cbm Tryz.func14) (KV _ r50.1 r50.2.1 u52 (hM.sl (pre:=[_,_]) noB) r50.2.2 r58 e59) ?_
      rintro v w a ⟨u60,rfl,hFr,hK⟩ hE
      have hM:=hM.add hK hFr
      refine Zd hE rfl fun a hE=>Zx hE Za ld rfl rfl fun a hE=>Zx hE Za ld rfl rfl fun a hE=>Zc hE rfl fun a hE=>Zc hE rfl fun a hE=>Ze ?_
      obtain ⟨j61,hl62,hF63⟩:=bind_some hF45
      refine ZQ (fun a w=>Env 349 a [(0,v0_1),(3,(ptr b6 0)),(4,(ptr b8 0)),(5,(ptr b10 0)),(6,vI r4.2.2.2.1),(7,vI r4.2.2.2.2),(8,u14),(9,vI r12.2),(163,vT j61)] ∧ M (Old w0) w0 w [osl NoB (r12.1 : List (Vector UInt8 16)) u14,raw b10 (enc r4.2.2.1),raw b8 (enc r4.2.1),raw b6 (cat [[vI r4.1.Field],enc r4.1.Box,enc r4.1.Mix,enc r4.1.Places,[vI r4.1.Rounds]])]) ?_ ?_
      ·skip
       refine wp_region_lit (Zd hE rfl fun a hE=>Zd hE rfl fun a hE=>Zl hE rfl rfl rfl fun a hE=>Zd hE rfl ?_); intro a hE
       refine YF (r55.2 != r58.2) (fun hb64=>?_) (fun hb64=>?_)
       ·have hl62:=Zu hl62 hb64
        refine Zp hE rfl (lkb rfl hb64) rfl (by decide) fun a hE=>Zp hE rfl (lkb rfl hb64) rfl (by decide) fun a hE=>Zp hE rfl (lkb rfl hb64) rfl (by decide) fun a hE=>Zp hE rfl (lkb rfl hb64) rfl (by decide) fun a hE=>ZW hE (lkb rfl hb64) rfl fun a hE=>Zh ?_
        obtain rfl:=Option.some.inj hl62
        refine Zi ?_
        have hM:=M.fst (l:=[_,_,_,_]) hM.pull7.pull7.pull7.pull7
        exact ⟨hE.sub ⟨rfl,rfl,rfl,rfl,rfl,rfl,rfl,rfl,rfl,trivial⟩,hM⟩
       ·have hl62:=Zt hl62 hb64
        refine Zj hE (Zm hE rfl (lkb rfl hb64)) (by decide) rfl fun a hE=>Zj hE (Zm hE rfl (lkb rfl hb64)) (by decide) rfl ?_; intro a hE
        obtain ⟨r66,e67,hl62⟩:=bind_some hl62
        refine YD hE (Zm hE rfl (lkb rfl hb64)) (by decide) rfl cb15 (T8 _ r55.1 u57 (hM.sl (pre:=[_]) noB) r58.1 u60 (hM.sl (pre:=[]) noB) r66 e67) ?_
        rintro v w a ⟨rfl,hK⟩ hE
        have hM:=hM.keep hK
        refine Q0 hE (Zm hE rfl (lkb rfl hb64)) (by decide) rfl fun a hE=>Z7 hE (lkb rfl hb64) rfl fun a hE=>Zh ?_
        obtain rfl:=Option.some.inj hl62
        refine Zi ?_
        have hM:=M.fst (l:=[_,_,_,_]) hM.pull7.pull7.pull7.pull7
        exact ⟨hE.sub ⟨rfl,rfl,rfl,rfl,rfl,rfl,rfl,rfl,rfl,trivial⟩,hM⟩
      ·skip
       rintro a w ⟨hE,hM⟩
       refine Zr hE rfl ?_ ?_
       ·intro hb69
        have hF63:=Zu hF63 hb69
        refine Zb (Zc hE rfl fun a hE=>Ze ?_)
        obtain rfl:=Option.some.inj hF63
        exact wp_ret (ZI (kr1 hE rfl rfl hM.kept))
       ·intro hb69
        have hF63:=Zt hF63 hb69
        refine wp_skip (Zz (Zb (Zd hE rfl ?_))); intro a hE
        obtain ⟨r70,e71,hF63⟩:=bind_some hF63
        refine Zo hE rfl (cbm Tryz.func16) (QE _ p0 v0_1 (hM.rdo hv0_1) r70 e71) ?_
        rintro v w a ⟨u72,rfl,hFr,hK⟩ hE
        have hM:=hM.add hK hFr
        refine Zd hE rfl fun a hE=>Zx hE Za ld rfl rfl fun a hE=>Zx hE Za ld rfl rfl fun a hE=>Zx hE Za ld rfl rfl fun a hE=>Zx hE Za ld rfl rfl fun a hE=>Zx hE Za ld rfl rfl fun a hE=>Zx hE Za ld rfl rfl fun a hE=>Zs hE hM ZT fun b73 w a hM hE=>Zs hE hM Zv ?_; intro b75 w a hM hE
        have hM:=hM.pull1
        refine Zg (seg:=cat [[vI r70.1.Field],enc r70.1.Box,enc r70.1.Mix,enc r70.1.Places,[vI r70.1.Rounds]]) (cs':=cat [[vI r70.1.Field],enc r70.1.Box,enc r70.1.Mix,enc r70.1.Places,[vI r70.1.Rounds]]) hE hM Za rfl rfl rfl ZT cq (Nat.le_of_eq ((Nat.zero_add _).trans (Eq.trans cq (Eq.symm cq)))) (Yf (cc1 (Flat.cell (r70.1.Field : Int)) (cc1 (Flat.cell _) (cc1 (Flat.cell _) (cc1 (Flat.cell _) (cc1 (Flat.cell (r70.1.Rounds : Int)) cc0)))))) (Zf (Eq.trans cq (Eq.symm cq))) ?_; intro w a hM hE
        have hM:=hM.pull1
        refine Zg (seg:=enc r70.2.1) (cs':=enc r70.2.1) hE hM Za rfl rfl rfl Zv (Flat.len _) (zle flq) (Flat.cell _) (Zf flq) fun w a hM hE=>Zc hE rfl fun a hE=>Zc hE rfl fun a hE=>Zc hE rfl fun a hE=>Zc hE rfl fun a hE=>Ze (Zb (Zk hE rfl ZT rfl hM.rawAt1 cq fun a hE=>Zk hE rfl Zv rfl hM.rawAt0 (Flat.len _) fun a hE=>Zd hE rfl fun a hE=>Zd hE rfl fun a hE=>Zd hE rfl fun a hE=>Zd hE rfl ?_)); intro a hE
        obtain ⟨r77,e78,hF63⟩:=bind_some hF63
        refine Zo hE rfl (cbm Tryz.func17) (Tz _ r70.1 r70.2.1 r70.2.2.1 u72 (hM.sl (pre:=[_,_]) noB) r70.2.2.2.1 r70.2.2.2.2.1 r70.2.2.2.2.2 r77 e78) ?_
        rintro v w a ⟨u79,rfl,hFr,hK⟩ hE
        have hM:=hM.add hK hFr
        refine Zd hE rfl fun a hE=>Zx hE Za ld rfl rfl fun a hE=>Zx hE Za ld rfl rfl fun a hE=>Zc hE rfl fun a hE=>Zc hE rfl fun a hE=>Ze (wp_seq (Zb (Zk hE rfl ZT rfl hM.rawAt2 cq fun a hE=>Zk hE rfl Zv rfl hM.rawAt1 (Flat.len _) fun a hE=>Zd hE rfl fun a hE=>Zd hE rfl fun a hE=>Zd hE rfl fun a hE=>Zd hE rfl ?_))); intro a hE
        obtain ⟨r80,e81,hF63⟩:=bind_some hF63
        refine Zo hE rfl (cbm Tryz.func18) (Ks _ r70.1 r70.2.1 r70.2.2.1 u72 (hM.sl (pre:=[_,_,_]) noB) r70.2.2.2.1 r70.2.2.2.2.1 r70.2.2.2.2.2 r80 e81) ?_
        rintro v w a ⟨u82,rfl,hFr,hK⟩ hE
        have hM:=hM.add hK hFr
        refine Zd hE rfl fun a hE=>Zx hE Za ld rfl rfl fun a hE=>Zx hE Za ld rfl rfl fun a hE=>Zc hE rfl fun a hE=>Zc hE rfl fun a hE=>Ze ?_
        obtain ⟨j83,hl84,hF85⟩:=bind_some hF63
        refine ZQ (fun a w=>Env 349 a [(0,v0_1),(3,(ptr b6 0)),(4,(ptr b8 0)),(5,(ptr b10 0)),(6,vI r4.2.2.2.1),(7,vI r4.2.2.2.2),(8,u14),(9,vI r12.2),(201,vT j83)] ∧ M (Old w0) w0 w [osl NoB (r12.1 : List (Vector UInt8 16)) u14,raw b10 (enc r4.2.2.1),raw b8 (enc r4.2.1),raw b6 (cat [[vI r4.1.Field],enc r4.1.Box,enc r4.1.Mix,enc r4.1.Places,[vI r4.1.Rounds]])]) ?_ ?_
        ·skip
         refine wp_region_lit (Zd hE rfl fun a hE=>Zd hE rfl fun a hE=>Zl hE rfl rfl rfl fun a hE=>Zd hE rfl ?_); intro a hE
         refine YF (r77.2 != r80.2) (fun hb86=>?_) (fun hb86=>?_)
         ·have hl84:=Zu hl84 hb86
          refine Zp hE rfl (lkb rfl hb86) rfl (by decide) fun a hE=>Zp hE rfl (lkb rfl hb86) rfl (by decide) fun a hE=>Zp hE rfl (lkb rfl hb86) rfl (by decide) fun a hE=>Zp hE rfl (lkb rfl hb86) rfl (by decide) fun a hE=>ZW hE (lkb rfl hb86) rfl fun a hE=>Zh ?_
          obtain rfl:=Option.some.inj hl84
          refine Zi ?_
          have hM:=M.fst (l:=[_,_,_,_]) hM.pull8.pull8.pull8.pull8
          exact ⟨hE.sub ⟨rfl,rfl,rfl,rfl,rfl,rfl,rfl,rfl,rfl,trivial⟩,hM⟩
         ·have hl84:=Zt hl84 hb86
          refine Zj hE (Zm hE rfl (lkb rfl hb86)) (by decide) rfl fun a hE=>Zj hE (Zm hE rfl (lkb rfl hb86)) (by decide) rfl ?_; intro a hE
          obtain ⟨r88,e89,hl84⟩:=bind_some hl84
          refine YD hE (Zm hE rfl (lkb rfl hb86)) (by decide) rfl cb15 (T8 _ r77.1 u79 (hM.sl (pre:=[_]) noB) r80.1 u82 (hM.sl (pre:=[]) noB) r88 e89) ?_
          rintro v w a ⟨rfl,hK⟩ hE
          have hM:=hM.keep hK
          refine Q0 hE (Zm hE rfl (lkb rfl hb86)) (by decide) rfl fun a hE=>Z7 hE (lkb rfl hb86) rfl fun a hE=>Zh ?_
          obtain rfl:=Option.some.inj hl84
          refine Zi ?_
          have hM:=M.fst (l:=[_,_,_,_]) hM.pull8.pull8.pull8.pull8
          exact ⟨hE.sub ⟨rfl,rfl,rfl,rfl,rfl,rfl,rfl,rfl,rfl,trivial⟩,hM⟩
        ·skip
         rintro a w ⟨hE,hM⟩
         refine Zr hE rfl ?_ ?_
         ·intro hb91
          have hF85:=Zu hF85 hb91
          refine Zb (Zc hE rfl fun a hE=>Ze ?_)
          obtain rfl:=Option.some.inj hF85
          exact wp_ret (ZI (kr1 hE rfl rfl hM.kept))
         ·intro hb91
          have hF85:=Zt hF85 hb91
          refine wp_skip (Zz (Zb (Zd hE rfl ?_))); intro a hE
          obtain ⟨r92,e93,hF85⟩:=bind_some hF85
          refine Zo hE rfl (cbm Tryz.func19) (T7 _ p0 v0_1 (hM.rdo hv0_1) r92 e93) ?_
          rintro v w a ⟨rfl,hK⟩ hE
          have hM:=hM.keep hK
          refine Zd hE rfl fun a hE=>Zx hE Za ld rfl rfl fun a hE=>Zx hE Za ld rfl rfl fun a hE=>Zx hE Za ld rfl rfl fun a hE=>Zx hE Za ld rfl rfl fun a hE=>Zx hE Za ld rfl rfl fun a hE=>Zs hE hM ZT fun b94 w a hM hE=>Zs hE hM Zv fun b96 w a hM hE=>Zs hE hM Zv ?_; intro b98 w a hM hE
          have hM:=hM.pull2
          refine Zg (seg:=cat [[vI r92.1.Field],enc r92.1.Box,enc r92.1.Mix,enc r92.1.Places,[vI r92.1.Rounds]]) (cs':=cat [[vI r92.1.Field],enc r92.1.Box,enc r92.1.Mix,enc r92.1.Places,[vI r92.1.Rounds]]) hE hM Za rfl rfl rfl ZT cq (Nat.le_of_eq ((Nat.zero_add _).trans (Eq.trans cq (Eq.symm cq)))) (Yf (cc1 (Flat.cell (r92.1.Field : Int)) (cc1 (Flat.cell _) (cc1 (Flat.cell _) (cc1 (Flat.cell _) (cc1 (Flat.cell (r92.1.Rounds : Int)) cc0)))))) (Zf (Eq.trans cq (Eq.symm cq))) ?_; intro w a hM hE
          have hM:=hM.pull2
          refine Zg (seg:=enc r92.2.1) (cs':=enc r92.2.1) hE hM Za rfl rfl rfl Zv (Flat.len _) (zle flq) (Flat.cell _) (Zf flq) ?_; intro w a hM hE
          have hM:=hM.pull2
          refine Zg (seg:=enc r92.2.2.1) (cs':=enc r92.2.2.1) hE hM Za rfl rfl rfl Zv (Flat.len _) (zle flq) (Flat.cell _) (Zf flq) fun w a hM hE=>Zc hE rfl fun a hE=>Zc hE rfl fun a hE=>Ze (Zb (Zk hE rfl ZT rfl hM.rawAt2 cq fun a hE=>Zk hE rfl Zv rfl hM.rawAt1 (Flat.len _) fun a hE=>Zk hE rfl Zv rfl hM.rawAt0 (Flat.len _) fun a hE=>Zd hE rfl fun a hE=>Zd hE rfl ?_)); intro a hE
          obtain ⟨r100,e101,hF85⟩:=bind_some hF85
          refine Zo hE rfl (cbm Tryz.func20) (QJ _ r92.1 r92.2.1 r92.2.2.1 r92.2.2.2.1 r92.2.2.2.2 r100 e101) ?_
          rintro v w a ⟨u102,rfl,hFr,hK⟩ hE
          have hM:=hM.add hK hFr
          refine Zd hE rfl fun a hE=>Zx hE Za ld rfl rfl fun a hE=>Zx hE Za ld rfl rfl fun a hE=>Zc hE rfl fun a hE=>Zc hE rfl fun a hE=>Ze (wp_seq (Zb (Zk hE rfl ZT rfl hM.rawAt3 cq fun a hE=>Zk hE rfl Zv rfl hM.rawAt2 (Flat.len _) fun a hE=>Zk hE rfl Zv rfl hM.rawAt1 (Flat.len _) fun a hE=>Zd hE rfl fun a hE=>Zd hE rfl ?_))); intro a hE
          obtain ⟨r103,e104,hF85⟩:=bind_some hF85
          refine Zo hE rfl (cbm Tryz.func21) (QI _ r92.1 r92.2.1 r92.2.2.1 r92.2.2.2.1 r92.2.2.2.2 r103 e104) ?_
          rintro v w a ⟨u105,rfl,hFr,hK⟩ hE
          have hM:=hM.add hK hFr
          refine Zd hE rfl fun a hE=>Zx hE Za ld rfl rfl fun a hE=>Zx hE Za ld rfl rfl fun a hE=>Zc hE rfl fun a hE=>Zc hE rfl fun a hE=>Ze ?_
          obtain ⟨j106,hl107,hF108⟩:=bind_some hF85
          refine ZQ (fun a w=>Env 349 a [(0,v0_1),(3,(ptr b6 0)),(4,(ptr b8 0)),(5,(ptr b10 0)),(6,vI r4.2.2.2.1),(7,vI r4.2.2.2.2),(8,u14),(9,vI r12.2),(236,vT j106)] ∧ M (Old w0) w0 w [osl NoB (r12.1 : List (Vector UInt8 16)) u14,raw b10 (enc r4.2.2.1),raw b8 (enc r4.2.1),raw b6 (cat [[vI r4.1.Field],enc r4.1.Box,enc r4.1.Mix,enc r4.1.Places,[vI r4.1.Rounds]])]) ?_ ?_
          ·skip
           refine wp_region_lit (Zd hE rfl fun a hE=>Zd hE rfl fun a hE=>Zl hE rfl rfl rfl fun a hE=>Zd hE rfl ?_); intro a hE
           refine YF (r100.2 != r103.2) (fun hb109=>?_) (fun hb109=>?_)
           ·have hl107:=Zu hl107 hb109
            refine Zp hE rfl (lkb rfl hb109) rfl (by decide) fun a hE=>Zp hE rfl (lkb rfl hb109) rfl (by decide) fun a hE=>Zp hE rfl (lkb rfl hb109) rfl (by decide) fun a hE=>Zp hE rfl (lkb rfl hb109) rfl (by decide) fun a hE=>ZW hE (lkb rfl hb109) rfl fun a hE=>Zh ?_
            obtain rfl:=Option.some.inj hl107
            refine Zi ?_
            have hM:=M.fst (l:=[_,_,_,_]) hM.pull8.pull8.pull8.pull8
            exact ⟨hE.sub ⟨rfl,rfl,rfl,rfl,rfl,rfl,rfl,rfl,rfl,trivial⟩,hM⟩
           ·have hl107:=Zt hl107 hb109
            refine Zj hE (Zm hE rfl (lkb rfl hb109)) (by decide) rfl fun a hE=>Zj hE (Zm hE rfl (lkb rfl hb109)) (by decide) rfl ?_; intro a hE
            obtain ⟨r111,e112,hl107⟩:=bind_some hl107
            refine YD hE (Zm hE rfl (lkb rfl hb109)) (by decide) rfl cb15 (T8 _ r100.1 u102 (hM.sl (pre:=[_]) noB) r103.1 u105 (hM.sl (pre:=[]) noB) r111 e112) ?_
            rintro v w a ⟨rfl,hK⟩ hE
            have hM:=hM.keep hK
            refine Q0 hE (Zm hE rfl (lkb rfl hb109)) (by decide) rfl fun a hE=>Z7 hE (lkb rfl hb109) rfl fun a hE=>Zh ?_
            obtain rfl:=Option.some.inj hl107
            refine Zi ?_
            have hM:=M.fst (l:=[_,_,_,_]) hM.pull8.pull8.pull8.pull8
            exact ⟨hE.sub ⟨rfl,rfl,rfl,rfl,rfl,rfl,rfl,rfl,rfl,trivial⟩,hM⟩
          ·skip
           rintro a w ⟨hE,hM⟩
           refine Zr hE rfl ?_ ?_
           ·intro hb114
            have hF108:=Zu hF108 hb114
            refine Zb (Zc hE rfl fun a hE=>Ze ?_)
            obtain rfl:=Option.some.inj hF108
            exact wp_ret (ZI (kr1 hE rfl rfl hM.kept))
           ·intro hb114
            have hF108:=Zt hF108 hb114
            refine wp_skip (Zz ?_)
            obtain ⟨j115,hl116,hF117⟩:=bind_some hF108
            refine ZQ (fun a w=>∃ s118 : Unit,j115 = Fl.nx s118 ∧ Env 349 a [(0,v0_1)] ∧ M (Old w0) w0 w []) ?_ ?_
            ·skip
             refine Zb (Zd hE rfl fun a hE=>Zl hE rfl rfl rfl fun a hE=>Ze ?_)
             refine Zr hE rfl ?_ ?_
             ·intro hb119
              have hl116:=Zu hl116 hb119
              refine Zb (Z8 (parts:=[]) (vs:=[]) (cs:=enc (Vector.replicate 16 (0 : UInt8))) hE Za ld rfl rfl Zv rfl ty5 ZZ fun a hE=>Zs hE hM Zv fun b120 w a hM hE=>Zg (seg:=enc (Vector.replicate 16 (0 : UInt8))) (cs':=enc (Vector.replicate 16 (0 : UInt8))) hE hM Za rfl rfl rfl Zv (Flat.len _) (zle flq) (Flat.cell _) (Zf flq) fun w a hM hE=>Ze (wp_seq (Zb (Zc hE rfl fun a hE=>Ze ?_))))
              obtain ⟨j122,hl123,hF124⟩:=bind_some hl116
              refine ZS (fun a w=>Env 349 a [(0,v0_1),(3,(ptr b6 0)),(4,(ptr b8 0)),(5,(ptr b10 0)),(6,vI r4.2.2.2.1),(7,vI r4.2.2.2.2),(8,u14),(47,(ptr b120 0))] ∧ M (Old w0) w0 w [raw b120 (enc j122),osl NoB (r12.1 : List (Vector UInt8 16)) u14,raw b10 (enc r4.2.2.1),raw b8 (enc r4.2.1),raw b6 (cat [[vI r4.1.Field],enc r4.1.Box,enc r4.1.Mix,enc r4.1.Places,[vI r4.1.Rounds]])]) ?_ ?_
              ·skip
               refine wp_block ?_
               refine ZO (fun (s125 : (Vector UInt8 16) × Int) a w=>Env 349 a [(0,v0_1),(3,(ptr b6 0)),(4,(ptr b8 0)),(5,(ptr b10 0)),(6,vI r4.2.2.2.1),(7,vI r4.2.2.2.2),(8,u14),(47,(ptr b120 0)),(48,vI s125.2)] ∧ M (Old w0) w0 w [raw b120 (enc s125.1),osl NoB (r12.1 : List (Vector UInt8 16)) u14,raw b10 (enc r4.2.2.1),raw b8 (enc r4.2.1),raw b6 (cat [[vI r4.1.Field],enc r4.1.Box,enc r4.1.Mix,enc r4.1.Places,[vI r4.1.Rounds]])]) hl123 ⟨hE.sub ⟨rfl,rfl,rfl,rfl,rfl,rfl,rfl,rfl,rfl,trivial⟩,hM⟩ ?_
               rintro s125 a w ⟨hE,hM⟩ o128 hs126 hx127
               unfold UF at hs126
               refine wp_seq (Zb (Zd hE rfl fun a hE=>Zd hE rfl fun a hE=>Wm hE rfl Tryz.underlying36 (hM.sl (pre:=[_]) noB) fun a hE=>Zl hE rfl rfl rfl fun a hE=>Ze ?_))
               refine Zr hE rfl ?_ ?_
               ·intro hb129
                have hs126:=Zu hs126 hb129
                refine wp_skip (Zz (wp_seq (wp_block ?_)))
                obtain ⟨x131,hi133,hs126⟩:=bix hs126
                obtain ⟨r134,e135,hs126⟩:=bind_some hs126
                refine Yl [246,247,248,249,250,251] Xm rfl rfl (by decide) rfl hE hM (qsP (fun z=>YE z.E Za ld rfl Zv rfl (z.M.rawAt0) (Flat.len _) (kr0 rfl)) (qsP (fun z=>Zj z.E Za ld rfl (kr0 rfl)) (qsP (fun z=>Zj z.E Za ld rfl (kr0 rfl)) (qsP (fun z=>X7 z.E Za ld rfl rfl Tryz.underlying36 Zv (z.M.sl (pre:=[_]) noB) hi133.1 (kr0 rfl)) (qsP (fun z=>YE z.E Za ld rfl Zv rfl (Y1 (z.M.sl (pre:=[_]) noB) hi133.2) (Flat.len _) (kr0 rfl)) (qsP (fun z=>YD z.E Za ld rfl (cbm Tryz.func22) (yz _ s125.1 x131 r134 e135) (kc rfl)) qs0)))))) ?_
                ·intro a w u hE hM
                 refine Zg (seg:=enc r134) (cs':=enc r134) hE hM Za rfl rfl rfl Zv (Flat.len _) (zle flq) (Flat.cell _) (Zf flq) fun w a hM hE=>Zh (Z9 (Zz (wp_region_lit (Zd hE rfl fun a hE=>Zl hE rfl rfl rfl fun a hE=>Zc hE rfl fun a hE=>Zh (Zi ?_)))))
                 exact ⟨_,(ois hs126),hE.sub ⟨rfl,rfl,rfl,rfl,rfl,rfl,rfl,rfl,rfl,trivial⟩,hM⟩
               ·intro hb129
                have hs126:=Zt hs126 hb129
                refine wp_exit (Zq (Zq (Yi ?_)))
                obtain rfl:=hx127 _ (ois hs126)
                refine Zi ?_
                exact ⟨hE.sub ⟨rfl,rfl,rfl,rfl,rfl,rfl,rfl,rfl,trivial⟩,hM⟩
              ·skip
               rintro a w ⟨hE,hM⟩
               refine Zz (Zb (Zk hE rfl ZT rfl hM.rawAt4 cq fun a hE=>Zk hE rfl Zv rfl hM.rawAt3 (Flat.len _) fun a hE=>Zk hE rfl Zv rfl hM.rawAt2 (Flat.len _) fun a hE=>Zd hE rfl fun a hE=>Zd hE rfl ?_)); intro a hE
               obtain ⟨r137,e138,hF124⟩:=bind_some hF124
               refine Zo hE rfl cb10 (Qg _ r4.1 r4.2.1 r4.2.2.1 r4.2.2.2.1 r4.2.2.2.2 r137 e138) ?_
               rintro v w a ⟨rfl,hK⟩ hE
               have hM:=hM.keep hK
               refine Zd hE rfl fun a hE=>Zx hE Za ld rfl rfl fun a hE=>Zx hE Za ld rfl rfl fun a hE=>Zs hE hM Zv fun b139 w a hM hE=>Zg (seg:=enc r137.1) (cs':=enc r137.1) hE hM Za rfl rfl rfl Zv (Flat.len _) (zle flq) (Flat.cell _) (Zf flq) fun w a hM hE=>Zc hE rfl fun a hE=>Ze ?_
               obtain ⟨j141,hl142,hF143⟩:=bind_some hF124
               refine ZQ (fun a w=>Env 349 a [(0,v0_1),(272,vT j141)] ∧ M (Old w0) w0 w []) ?_ ?_
               ·skip
                refine wp_region_lit (Zd hE rfl fun a hE=>Zl hE rfl rfl rfl fun a hE=>Zd hE rfl ?_); intro a hE
                refine YF (r137.2 != 0) (fun hb144=>?_) (fun hb144=>?_)
                ·have hl142:=Zu hl142 hb144
                 refine Zp hE rfl (lkb rfl hb144) rfl (by decide) fun a hE=>Zp hE rfl (lkb rfl hb144) rfl (by decide) fun a hE=>Zp hE rfl (lkb rfl hb144) rfl (by decide) fun a hE=>ZW hE (lkb rfl hb144) rfl fun a hE=>Zd hE rfl fun a hE=>Zp hE rfl rfl rfl (by decide) fun a hE=>Zp hE rfl rfl rfl (by decide) fun a hE=>Zp hE rfl rfl rfl (by decide) fun a hE=>ZW hE rfl rfl fun a hE=>Zh ?_
                 obtain rfl:=Option.some.inj hl142
                 refine Zi ?_
                 have hM:=M.fst (l:=[]) hM
                 exact ⟨hE.sub ⟨rfl,rfl,trivial⟩,hM⟩
                ·have hl142:=Zt hl142 hb144
                 refine YE hE (Zm hE rfl (lkb rfl hb144)) (by decide) rfl Zv rfl hM.rawAt0 (Flat.len _) fun a hE=>YE hE (Zm hE rfl (lkb rfl hb144)) (by decide) rfl Zv rfl hM.rawAt1 (Flat.len _) fun a hE=>ju hE (Zm hE rfl (lkb rfl hb144)) (by decide) rfl rfl (Hf Tryz.underlying33 ty5 rfl false rfl (by decide) (Jf Tryz.underlying5)) (by decide) (by kernel_rfl) fun a hE=>Z7 hE (lkb rfl hb144) rfl fun a hE=>Zd hE rfl ?_; intro a hE
                 refine YF (!decide (r137.1 = j122)) (fun hb146=>?_) (fun hb146=>?_)
                 ·have hl142:=Zu hl142 hb146
                  refine Zp hE rfl (lkb rfl hb146) rfl (by decide) fun a hE=>Zp hE rfl (lkb rfl hb146) rfl (by decide) fun a hE=>Zp hE rfl (lkb rfl hb146) rfl (by decide) fun a hE=>ZW hE (lkb rfl hb146) rfl fun a hE=>Zh ?_
                  obtain rfl:=Option.some.inj hl142
                  refine Zi ?_
                  have hM:=M.fst (l:=[]) hM
                  exact ⟨hE.sub ⟨rfl,rfl,trivial⟩,hM⟩
                 ·have hl142:=Zt hl142 hb146
                  refine Zj hE (Zm hE rfl (lkb rfl hb146)) (by decide) rfl fun a hE=>AE hE (Zm hE rfl (lkb rfl hb146)) (by decide) rfl Tryz.underlying36 (hM.sl (pre:=[_,_]) noB) fun a hE=>Yk hE (Zm hE rfl (lkb rfl hb146)) (by decide) rfl rfl rfl fun a hE=>Z7 hE (lkb rfl hb146) rfl fun a hE=>Zh ?_
                  obtain rfl:=Option.some.inj hl142
                  refine Zi ?_
                  have hM:=M.fst (l:=[]) hM
                  exact ⟨hE.sub ⟨rfl,rfl,trivial⟩,hM⟩
               ·skip
                rintro a w ⟨hE,hM⟩
                refine Zr hE rfl ?_ ?_
                ·intro hb149
                 have hF143:=Zu hF143 hb149
                 refine Zb (Zc hE rfl fun a hE=>Ze ?_)
                 obtain rfl:=Option.some.inj hF143
                 obtain rfl:=Option.some.inj hF117
                 exact wp_ret (ZI (kr1 hE rfl rfl hM.kept))
                ·intro hb149
                 have hF143:=Zt hF143 hb149
                 refine wp_skip ?_
                 obtain rfl:=Option.some.inj hF143
                 refine Zi ?_
                 exact ⟨(),rfl,hE.sub ⟨rfl,trivial⟩,hM⟩
             ·intro hb119
              have hl116:=Zt hl116 hb119
              refine wp_skip ?_
              obtain rfl:=Option.some.inj hl116
              refine Zi ?_
              have hM:=M.fst (l:=[]) hM
              exact ⟨(),rfl,hE.sub ⟨rfl,trivial⟩,hM⟩
            ·skip
             rintro a w ⟨s118,ht,hE,hM⟩
             subst ht
             have hF117:=Qi hF117
             refine Zb (Zd hE rfl ?_); intro a hE
             have hM:=M.tailP (m:=[]) hM
             obtain ⟨r153,e154,hF117⟩:=bind_some hF117
             refine Zo hE rfl (cbm Tryz.func23) (z7 _ _ _ _ p0 v0_1 hv0_1 9012 hM r153 e154) ?_
             rintro v w a ⟨b155,rfl,hM⟩ hE
             have hM:=M.tailU (m:=[_]) hM
             simp only [List.cons_append,List.nil_append] at hM
             refine Zc hE rfl fun a hE=>Ze (Zb ?_)
             obtain ⟨r157,e158,hF117⟩:=bind_some hF117
             refine Zo hE rfl (cbm Tryz.func24) (Jz _ 4 r157 e158) ?_
             rintro v w a ⟨rfl,hK⟩ hE
             have hM:=hM.keep hK
             refine Zd hE rfl fun a hE=>Zx hE Za ld rfl rfl fun a hE=>Zx hE Za ld rfl rfl fun a hE=>Zs hE hM ZT fun b159 w a hM hE=>Zg (seg:=cat [[vI r157.1.Field],enc r157.1.Box,enc r157.1.Mix,enc r157.1.Places,[vI r157.1.Rounds]]) (cs':=cat [[vI r157.1.Field],enc r157.1.Box,enc r157.1.Mix,enc r157.1.Places,[vI r157.1.Rounds]]) hE hM Za rfl rfl rfl ZT cq (Nat.le_of_eq ((Nat.zero_add _).trans (Eq.trans cq (Eq.symm cq)))) (Yf (cc1 (Flat.cell (r157.1.Field : Int)) (cc1 (Flat.cell _) (cc1 (Flat.cell _) (cc1 (Flat.cell _) (cc1 (Flat.cell (r157.1.Rounds : Int)) cc0)))))) (Zf (Eq.trans cq (Eq.symm cq))) fun w a hM hE=>Zc hE rfl fun a hE=>Ze (Zb (Zd hE rfl ?_)); intro a hE
             have hM:=M.tailP (m:=[_]) hM.pull1
             obtain ⟨r161,e162,hF117⟩:=bind_some hF117
             refine Zo hE rfl (cbm Tryz.func25) (Ju _ _ _ _ b155 p0 v0_1 hv0_1 (r153.1,r153.2) hM r161 e162) ?_
             rintro v w a ⟨rfl,hM⟩ hE
             have hM:=M.tailU (m:=[_]) hM
             simp only [List.cons_append,List.nil_append] at hM
             refine Zd hE rfl ?_; intro a hE
             have hM:=M.tailP (m:=[_]) hM
             obtain ⟨r163,e164,hF117⟩:=bind_some hF117
             refine Zo hE rfl (cbm Tryz.func25) (Ju _ _ _ _ b155 p0 v0_1 hv0_1 (r161.1.1,r161.1.2) hM r163 e164) ?_
             rintro v w a ⟨rfl,hM⟩ hE
             have hM:=M.tailU (m:=[_]) hM
             simp only [List.cons_append,List.nil_append] at hM
             refine Zs hE hM Zv fun b165 w a hM hE=>Zs hE hM Zv ?_; intro b167 w a hM hE
             have hM:=hM.pull1
             refine Zg (seg:=enc r161.2) (cs':=enc r161.2) hE hM Za rfl rfl rfl Zv (Flat.len _) (zle flq) (Flat.cell _) (Zf flq) ?_; intro w a hM hE
             have hM:=hM.pull1
             refine Zg (seg:=enc r163.2) (cs':=enc r163.2) hE hM Za rfl rfl rfl Zv (Flat.len _) (zle flq) (Flat.cell _) (Zf flq) fun w a hM hE=>Ze (wp_seq ?_)
             have hM:=hM.pull2
             obtain ⟨r170,e171,hF117⟩:=bind_some hF117
             obtain ⟨r172,e173,hF117⟩:=bind_some hF117
             obtain ⟨r174,e175,hF117⟩:=bind_some hF117
             refine Wk (its:=[raw b167 (enc r163.2),raw b165 (enc r161.2),raw b159 (cat [[vI r157.1.Field],enc r157.1.Box,enc r157.1.Mix,enc r157.1.Places,[vI r157.1.Rounds]])]) (mk:=([([4,6],fun bs _=>(tog (bs.getD 0 false) (raw b155 (cat [[v0_1],[vI r163.1.1],[(Value.int .u64 r163.1.2)]])) (tog (bs.getD 1 false) (raw b155 (cat [[v0_1],[vI r170.1.1],[(Value.int .u64 r170.1.2)]])) (raw b155 (cat [[v0_1],[vI r172.1.1],[(Value.int .u64 r172.1.2)]]))))),mkC 11 12 (enc (Vector.replicate 16 (0 : UInt8))) (enc r174.1)] : Mk)) [284,285,286,287,288,289,290,291,283,292,293,56,361] Xm rfl rfl (by decide) rfl hE (fun u=>M.qS (M.qE (M.q0 hM.drew u) emC) fun _=>rfl) (qsP (v:=(Value.agg (enc r157.1).toArray)) ?_ (qsP (v:=(Value.agg (enc r161.2).toArray)) ?_ (qsP (v:=(Value.agg (enc r163.2).toArray)) ?_ (qsP (fun z=>Zj z.E Za ld rfl (kr0 rfl)) (qsV (v:=(vI r170.2)) ?_ (qsP (fun z=>Zj z.E Za ld rfl (kr0 rfl)) (qsV (v:=(vI r172.2)) ?_ (qsP (fun z=>YD z.E Za ld rfl cb10 (Qg _ r157.1 r161.2 r163.2 r170.2 r172.2 r174 e175) (kc rfl)) (qsP (fun z=>Zj z.E Za ld rfl (kr0 rfl)) (qsP (fun z=>Zx z.E Za ld rfl rfl (kr0 rfl)) (qsP (fun z=>Zx z.E Za ld rfl rfl (kr0 rfl)) (qsM (pr:=fun v=>True) ?_ (qsM (pr:=fun v=>True) ?_ qs0))))))))))))) ?_
             ·intro a w ux169 D z
              have hE:=z.E
              have hM:=z.M
              exact Zk hE rfl ZT rfl hM.rawAt2 cq fun a hE=>⟨Kept.refl _ _,_,rfl,hE⟩
             ·intro a w ux169 D z
              have hE:=z.E
              have hM:=z.M
              exact Zk hE rfl Zv rfl hM.rawAt1 (Flat.len _) fun a hE=>⟨Kept.refl _ _,_,rfl,hE⟩
             ·intro a w ux169 D z
              have hE:=z.E
              have hM:=z.M
              exact Zk hE rfl Zv rfl hM.rawAt0 (Flat.len _) fun a hE=>⟨Kept.refl _ _,_,rfl,hE⟩
             ·intro a w ux169 D z
              have hE:=z.E
              have hD : D 4 = false:=z.F
              have hM:=z.M.togA (pre:=[_,_,_]) hD
              have hNx : D 6 = false:=VH (j:=6) (k:=1) z.c rfl rfl rfl hD
              have hM:=M.tailP (m:=[_]) hM.pull3
              refine Zo hE rfl cb26 (Vv _ _ _ _ b155 p0 v0_1 hv0_1 (r163.1.1,r163.1.2) 16 hM r170 e171) ?_
              rintro v w a ⟨rfl,hM⟩ hE
              have hM:=M.tailU (m:=[_]) hM
              simp only [List.cons_append,List.nil_append] at hM
              exact ⟨_,rfl,hE,M.qTogS (p:=([4,6],fun bs _=>(tog (bs.getD 0 false) (raw b155 (cat [[v0_1],[vI r163.1.1],[(Value.int .u64 r163.1.2)]])) (tog (bs.getD 1 false) (raw b155 (cat [[v0_1],[vI r170.1.1],[(Value.int .u64 r170.1.2)]])) (raw b155 (cat [[v0_1],[vI r172.1.1],[(Value.int .u64 r172.1.2)]])))))) (mk1:=[]) (mk2:=[_]) hM rfl (by show tog (YW D 4 4) (raw b155 (cat [[v0_1],[vI r163.1.1],[(Value.int .u64 r163.1.2)]])) (tog (YW D 4 6) (raw b155 (cat [[v0_1],[vI r170.1.1],[(Value.int .u64 r170.1.2)]])) (raw b155 (cat [[v0_1],[vI r172.1.1],[(Value.int .u64 r172.1.2)]]))) = _; rw [tg1 JH,tg0 (yS (i:=4) hNx (by decide))])⟩
             ·intro a w ux169 D z
              have hE:=z.E
              have hD : D 6 = false:=z.F
              have hM:=z.M
              have dC4 : D 4 = true:=z.p 1 _ rfl rfl
              have hM:=M.tailP (m:=[_]) (((hM.togB (pre:=[_,_,_]) dC4).togA (pre:=[_,_,_]) hD).pull3)
              refine Zo hE rfl cb26 (Vv _ _ _ _ b155 p0 v0_1 hv0_1 (r170.1.1,r170.1.2) 4 hM r172 e173) ?_
              rintro v w a ⟨rfl,hM⟩ hE
              have hM:=M.tailU (m:=[_]) hM
              simp only [List.cons_append,List.nil_append] at hM
              exact ⟨_,rfl,hE,M.qTogS (p:=([4,6],fun bs _=>(tog (bs.getD 0 false) (raw b155 (cat [[v0_1],[vI r163.1.1],[(Value.int .u64 r163.1.2)]])) (tog (bs.getD 1 false) (raw b155 (cat [[v0_1],[vI r170.1.1],[(Value.int .u64 r170.1.2)]])) (raw b155 (cat [[v0_1],[vI r172.1.1],[(Value.int .u64 r172.1.2)]])))))) (mk1:=[]) (mk2:=[_]) hM rfl (by show tog (YW D 6 4) (raw b155 (cat [[v0_1],[vI r163.1.1],[(Value.int .u64 r163.1.2)]])) (tog (YW D 6 6) (raw b155 (cat [[v0_1],[vI r170.1.1],[(Value.int .u64 r170.1.2)]])) (raw b155 (cat [[v0_1],[vI r172.1.1],[(Value.int .u64 r172.1.2)]]))) = _; rw [tg1 (Ah dC4),tg1 JH])⟩
             ·intro a w ux169 D z
              have hE:=z.E
              have hD : D 11 = false:=z.F
              have hM:=z.M
              refine Zs hE hM Zv ?_; intro b176 w a hM hE
              have hs : D 12 = false:=VH (j:=12) (k:=0) z.c rfl rfl rfl hD
              exact ⟨_,_,rfl,hE,M.qAlloc (mk1:=[_]) (mk2:=[]) hM rfl hD hs (by decide),trivial⟩
             ·intro a w ux169 D z
              have hE:=z.E
              have hD : D 12 = false:=z.F
              have d11 : D 11 = true:=z.p 0 _ rfl rfl
              have hM:=z.M
              obtain ⟨b178,hb179,hM⟩:=M.openCellF (pre:=[_,_,_,_]) hM d11 hD
              exact Zg (seg:=enc r174.1) (cs':=enc r174.1) hE hM Za (lk rfl hb179) rfl rfl Zv (Flat.len _) (zle flq) (Flat.cell _) (Zf flq) fun w a hM hE=>⟨undef,_,rfl,Env.dummy hE (by decide),M.qStore (i:=11) (mk1:=[_]) (mk2:=[]) hM rfl d11 hb179 (by decide),trivial⟩
             ·intro a w ux169 D hE hM hG hall
              have d4:=hall 4 (by decide)
              have d6:=hall 6 (by decide)
              have d11:=hall 11 (by decide)
              have d12:=hall 12 (by decide)
              have hM:=(hM.togB (pre:=[_,_,_]) d4).togB (pre:=[_,_,_]) d6
              obtain ⟨b180,f181,hM⟩:=M.openCellT (pre:=[_,_,_,_]) hM d11 d12
              have hE:=hE.setq (t:=56) rfl f181
              refine Zc hE rfl fun a hE=>Zh (Zz (Zb (Zd hE rfl ?_))); intro a hE
              have hM:=M.tailP (m:=[_]) hM.pull4
              obtain ⟨r182,e183,hF117⟩:=bind_some hF117
              refine Zo hE rfl cb26 (Vv _ _ _ _ b155 p0 v0_1 hv0_1 (r172.1.1,r172.1.2) 16 hM r182 e183) ?_
              rintro v w a ⟨rfl,hM⟩ hE
              have hM:=M.tailU (m:=[_]) hM
              simp only [List.cons_append,List.nil_append] at hM
              refine Zc hE rfl fun a hE=>Ze ?_
              obtain ⟨j184,hl185,hF186⟩:=bind_some hF117
              refine ZQ (fun a w=>∃ (u187 : Value),Env 349 a [(52,(ptr b159 0)),(53,vI r157.2),(54,(ptr b165 0)),(56,(ptr b180 0)),(57,vI r174.2),(58,vI r182.2),(59,u187),(60,vI j184.2)] ∧ M (Old w0) w0 w [raw b180 (enc r174.1),raw b165 (enc r161.2),raw b159 (cat [[vI r157.1.Field],enc r157.1.Box,enc r157.1.Mix,enc r157.1.Places,[vI r157.1.Rounds]]),osl NoB (j184.1 : List Int) u187]) ?_ ?_
              ·skip
               obtain ⟨r192,e193,hl185⟩:=bind_some hl185
               obtain ⟨r194,e195,hl185⟩:=bind_some hl185
               refine Wk (its:=[raw b180 (enc r174.1),raw b167 (enc r163.2),raw b165 (enc r161.2),raw b159 (cat [[vI r157.1.Field],enc r157.1.Box,enc r157.1.Mix,enc r157.1.Places,[vI r157.1.Rounds]])]) (mk:=([([5],fun bs _=>(tog (bs.getD 0 false) (raw b155 (cat [[v0_1],[vI r182.1.1],[(Value.int .u64 r182.1.2)]])) (raw b155 (cat [[v0_1],[vI r192.1.1],[(Value.int .u64 r192.1.2)]])))),mkO 3 (fun v=>osl NoB (([r163.2] : List (Vector UInt8 16)) : List (Vector UInt8 16)) v),mkO 7 (fun v=>osl NoB (r194.1 : List Int) (Ja v 0))] : Mk)) [297,298,299,300,301,302,303,304,296,305,306,59] Xm rfl rfl (by decide) rfl hE (fun u=>M.qS (M.qE (M.qE (M.q0 hM.drew u) emO) emO) fun _=>rfl) (qsP (v:=(Value.agg (enc r157.1).toArray)) ?_ (qsP (v:=(Value.agg (enc r161.2).toArray)) ?_ (qsP (v:=(Value.agg (enc r163.2).toArray)) ?_ (qsM (pr:=fun v=>True) ?_ (qsP (fun z=>Zj z.E Za ld rfl (kr0 rfl)) (qsV (v:=(vI r192.2)) ?_ (qsP (fun z=>Zj z.E Za ld rfl (kr0 rfl)) (qsM (pr:=fun v=>v = (Value.tuple [(Ja v 0),vI r194.2].toArray)) ?_ (qsD (ds:=[7]) (f:=fun us=>(Value.tuple [(Ja (us.getD 0 undef) 0),vI r194.2].toArray)) ?_ (qsD (ds:=[7]) (f:=fun us=>(Ja (us.getD 0 undef) 0)) ?_ (qsP (fun z=>Zx z.E Za ld rfl rfl (kr0 rfl)) (qsD (ds:=[7]) (f:=fun us=>(Ja (us.getD 0 undef) 0)) ?_ qs0)))))))))))) ?_
               ·intro a w ux189 D z
                have hE:=z.E
                have hM:=z.M
                exact Zk hE rfl ZT rfl hM.rawAt3 cq fun a hE=>⟨Kept.refl _ _,_,rfl,hE⟩
               ·intro a w ux189 D z
                have hE:=z.E
                have hM:=z.M
                exact Zk hE rfl Zv rfl hM.rawAt2 (Flat.len _) fun a hE=>⟨Kept.refl _ _,_,rfl,hE⟩
               ·intro a w ux189 D z
                have hE:=z.E
                have hM:=z.M
                exact Zk hE rfl Zv rfl hM.rawAt1 (Flat.len _) fun a hE=>⟨Kept.refl _ _,_,rfl,hE⟩
               ·intro a w ux189 D z
                have hE:=z.E
                have hD : D 3 = false:=z.F
                have hM:=z.M
                exact Yc (xs:=[.tmp 299]) (l:=([r163.2] : List (Vector UInt8 16))) (vs:=[(Value.agg (enc r163.2).toArray)]) hE hM Za ld rfl rfl Tryz.underlying36 Zv rfl (by decide) rfl fun u190 w a hM hE=>⟨_,_,rfl,hE,M.qFill (mk1:=[_]) (mk2:=[_]) (f:=(fun v=>osl NoB (([r163.2] : List (Vector UInt8 16)) : List (Vector UInt8 16)) v)) hM rfl hD,trivial⟩
               ·intro a w ux189 D z
                have hE:=z.E
                have hD : D 5 = false:=z.F
                have hM:=M.tailP (m:=[_]) ((z.M.togA (pre:=[_,_,_,_]) hD).pull4)
                refine Zo hE rfl cb26 (Vv _ _ _ _ b155 p0 v0_1 hv0_1 (r182.1.1,r182.1.2) 16 hM r192 e193) ?_
                rintro v w a ⟨rfl,hM⟩ hE
                have hM:=M.tailU (m:=[_]) hM
                simp only [List.cons_append,List.nil_append] at hM
                exact ⟨_,rfl,hE,M.qTogS (p:=([5],fun bs _=>(tog (bs.getD 0 false) (raw b155 (cat [[v0_1],[vI r182.1.1],[(Value.int .u64 r182.1.2)]])) (raw b155 (cat [[v0_1],[vI r192.1.1],[(Value.int .u64 r192.1.2)]]))))) (mk1:=[]) (mk2:=[_,_]) hM rfl (by show tog (YW D 5 5) (raw b155 (cat [[v0_1],[vI r182.1.1],[(Value.int .u64 r182.1.2)]])) (raw b155 (cat [[v0_1],[vI r192.1.1],[(Value.int .u64 r192.1.2)]])) = _; rw [tg1 JH])⟩
               ·intro a w ux189 D z
                have hE:=z.E
                have hD : D 7 = false:=z.F
                have d3 : D 3 = true:=z.p 2 _ rfl rfl
                have hM0:=z.M
                have hM:=z.M.sure (pre:=[_,_,_,_,_]) d3
                refine Zo hE rfl (cbm Tryz.func17) (Tz _ r157.1 r161.2 ([r163.2] : List (Vector UInt8 16)) (ux189 3) (hM.sl (pre:=[_,_,_,_,_]) noB) r192.2 r182.2 4 r194 e195) ?_
                rintro _ w a ⟨u196,rfl,hFr,hK⟩ hE
                have hM:=hM0.add hK hFr
                exact ⟨_,_,rfl,hE,M.qFill (mk1:=[_,_]) (mk2:=[]) (f:=(fun v=>osl NoB (r194.1 : List Int) (Ja v 0))) hM rfl hD,rfl⟩
               ·intro a w ux189 D z
                have hE:=z.E
                have d7 : D 7 = true:=z.p 0 _ rfl rfl
                have g7:=z.G 7 d7 _ rfl
                have f7 : ux189 7 = (Value.tuple [(Ja (ux189 7) 0),vI r194.2].toArray):=g7.2
                exact Zd hE (lk rfl f7) fun a hE=>⟨Kept.refl _ _,(allC d7 allN),_,rfl,hE⟩
               ·intro a w ux189 D z
                have hE:=z.E
                have d8 : D 8 = true:=z.p 0 _ rfl rfl
                have d7 : D 7 = true:=z.c 8 _ _ rfl (List.mem_of_getElem? (i:=0) rfl) rfl d8
                exact Zx hE Za ld rfl rfl fun a hE=>⟨Kept.refl _ _,(allC d7 allN),_,rfl,hE⟩
               ·intro a w ux189 D z
                have hE:=z.E
                have d9 : D 9 = true:=z.p 0 _ rfl rfl
                have g9:=z.G 9 d9 _ rfl
                have d7 : D 7 = true:=g9.1 7 (show 7 ∈ [7] by decide)
                exact Zc hE rfl fun a hE=>⟨Kept.refl _ _,(allC d7 allN),_,rfl,hE⟩
               ·intro a w ux189 D hE hM hG hall
                have d3:=hall 3 (by decide)
                have d5:=hall 5 (by decide)
                have d7:=hall 7 (by decide)
                have hM:=((hM.togB (pre:=[_,_,_,_]) d5).sure (pre:=[_,_,_,_,_]) d3).sure (pre:=[_,_,_,_,_,_]) d7
                refine Zc hE rfl fun a hE=>Zh ?_
                obtain rfl:=Option.some.inj hl185
                refine Zi ?_
                have hM:=M.fst (l:=[_,_,_,_]) hM.pull6.pull4.pull4.pull3
                exact ⟨(Ja (ux189 7) 0),hE.sub ⟨rfl,rfl,rfl,rfl,rfl,rfl,rfl,rfl,trivial⟩,hM⟩
              ·skip
               rintro a w ⟨u187,hE,hM⟩
               refine Zb (Zk hE rfl ZT rfl hM.rawAt2 cq fun a hE=>Zk hE rfl Zv rfl hM.rawAt1 (Flat.len _) ?_); intro a hE
               obtain ⟨r198,e199,hF186⟩:=bind_some hF186
               refine Zo hE rfl (cbm Tryz.func27) (Js _ r157.1 r161.2 r198 e199) ?_
               rintro v w a ⟨u200,rfl,hFr,hK⟩ hE
               have hM:=hM.add hK hFr
               refine Zd hE rfl fun a hE=>Zx hE Za ld rfl rfl fun a hE=>Zx hE Za ld rfl rfl fun a hE=>Zc hE rfl fun a hE=>Zc hE rfl fun a hE=>Ze (wp_seq ?_)
               obtain ⟨j201,hl202,hF203⟩:=bind_some hF186
               refine ZQ (fun a w=>Env 349 a [(58,vI r182.2),(59,u187),(61,u200),(331,vT j201)] ∧ M (Old w0) w0 w [osl NoB (r198.1 : List (Vector UInt8 16)) u200,osl NoB (j184.1 : List Int) u187]) ?_ ?_
               ·skip
                refine wp_region_lit (Zd hE rfl fun a hE=>Zl hE rfl rfl rfl fun a hE=>Zd hE rfl ?_); intro a hE
                refine YF (r157.2 != 0) (fun hb204=>?_) (fun hb204=>?_)
                ·have hl202:=Zu hl202 hb204
                 refine Zp hE rfl (lkb rfl hb204) rfl (by decide) fun a hE=>Zp hE rfl (lkb rfl hb204) rfl (by decide) fun a hE=>ZW hE (lkb rfl hb204) rfl fun a hE=>Zd hE rfl fun a hE=>Zp hE rfl rfl rfl (by decide) fun a hE=>Zp hE rfl rfl rfl (by decide) fun a hE=>ZW hE rfl rfl fun a hE=>Zd hE rfl fun a hE=>Zp hE rfl rfl rfl (by decide) fun a hE=>Zp hE rfl rfl rfl (by decide) fun a hE=>ZW hE rfl rfl fun a hE=>Zd hE rfl ?_; intro a hE
                 refine Zp hE rfl rfl rfl (by decide) fun a hE=>Zp hE rfl rfl rfl (by decide) fun a hE=>Zp hE rfl rfl rfl (by decide) fun a hE=>ZW hE rfl rfl fun a hE=>Zh ?_
                 obtain rfl:=Option.some.inj hl202
                 refine Zi ?_
                 have hM:=M.fst (l:=[_,_]) hM.pull4.pull1
                 exact ⟨hE.sub ⟨rfl,rfl,rfl,rfl,trivial⟩,hM⟩
                ·have hl202:=Zt hl202 hb204
                 refine Zj hE (Zm hE rfl (lkb rfl hb204)) (by decide) rfl fun a hE=>Yk hE (Zm hE rfl (lkb rfl hb204)) (by decide) rfl rfl rfl fun a hE=>Z7 hE (lkb rfl hb204) rfl fun a hE=>Zd hE rfl ?_; intro a hE
                 refine YF (r174.2 != 0) (fun hb206=>?_) (fun hb206=>?_)
                 ·have hl202:=Zu hl202 hb206
                  refine Zp hE rfl (lkb rfl hb206) rfl (by decide) fun a hE=>Zp hE rfl (lkb rfl hb206) rfl (by decide) fun a hE=>ZW hE (lkb rfl hb206) rfl fun a hE=>Zd hE rfl fun a hE=>Zp hE rfl rfl rfl (by decide) fun a hE=>Zp hE rfl rfl rfl (by decide) fun a hE=>ZW hE rfl rfl fun a hE=>Zd hE rfl fun a hE=>Zp hE rfl rfl rfl (by decide) fun a hE=>Zp hE rfl rfl rfl (by decide) fun a hE=>Zp hE rfl rfl rfl (by decide) fun a hE=>ZW hE rfl rfl ?_; intro a hE
                  refine Zh ?_
                  obtain rfl:=Option.some.inj hl202
                  refine Zi ?_
                  have hM:=M.fst (l:=[_,_]) hM.pull4.pull1
                  exact ⟨hE.sub ⟨rfl,rfl,rfl,rfl,trivial⟩,hM⟩
                 ·have hl202:=Zt hl202 hb206
                  refine Zj hE (Zm hE rfl (lkb rfl hb206)) (by decide) rfl fun a hE=>Yk hE (Zm hE rfl (lkb rfl hb206)) (by decide) rfl rfl rfl fun a hE=>Z7 hE (lkb rfl hb206) rfl fun a hE=>Zd hE rfl ?_; intro a hE
                  refine YF (j184.2 != 0) (fun hb208=>?_) (fun hb208=>?_)
                  ·have hl202:=Zu hl202 hb208
                   refine Zp hE rfl (lkb rfl hb208) rfl (by decide) fun a hE=>Zp hE rfl (lkb rfl hb208) rfl (by decide) fun a hE=>ZW hE (lkb rfl hb208) rfl fun a hE=>Zd hE rfl fun a hE=>Zp hE rfl rfl rfl (by decide) fun a hE=>Zp hE rfl rfl rfl (by decide) fun a hE=>Zp hE rfl rfl rfl (by decide) fun a hE=>ZW hE rfl rfl fun a hE=>Zh ?_
                   obtain rfl:=Option.some.inj hl202
                   refine Zi ?_
                   have hM:=M.fst (l:=[_,_]) hM.pull4.pull1
                   exact ⟨hE.sub ⟨rfl,rfl,rfl,rfl,trivial⟩,hM⟩
                  ·have hl202:=Zt hl202 hb208
                   refine Zj hE (Zm hE rfl (lkb rfl hb208)) (by decide) rfl fun a hE=>Yk hE (Zm hE rfl (lkb rfl hb208)) (by decide) rfl rfl rfl fun a hE=>Z7 hE (lkb rfl hb208) rfl fun a hE=>Zd hE rfl ?_; intro a hE
                   refine YF (r198.2 != 0) (fun hb210=>?_) (fun hb210=>?_)
                   ·have hl202:=Zu hl202 hb210
                    refine Zp hE rfl (lkb rfl hb210) rfl (by decide) fun a hE=>Zp hE rfl (lkb rfl hb210) rfl (by decide) fun a hE=>Zp hE rfl (lkb rfl hb210) rfl (by decide) fun a hE=>ZW hE (lkb rfl hb210) rfl fun a hE=>Zh ?_
                    obtain rfl:=Option.some.inj hl202
                    refine Zi ?_
                    have hM:=M.fst (l:=[_,_]) hM.pull4.pull1
                    exact ⟨hE.sub ⟨rfl,rfl,rfl,rfl,trivial⟩,hM⟩
                   ·have hl202:=Zt hl202 hb210
                    refine YE hE (Zm hE rfl (lkb rfl hb210)) (by decide) rfl Zv rfl hM.rawAt1 (Flat.len _) fun a hE=>Z8 (parts:=[]) (vs:=[]) (cs:=enc (Vector.replicate 16 (0 : UInt8))) hE (Zm hE rfl (lkb rfl hb210)) (by decide) rfl rfl Zv rfl ty5 ZZ fun a hE=>ju hE (Zm hE rfl (lkb rfl hb210)) (by decide) rfl rfl (Hf Tryz.underlying33 ty5 rfl false rfl (by decide) (Jf Tryz.underlying5)) (by decide) (by kernel_rfl) fun a hE=>Z7 hE (lkb rfl hb210) rfl fun a hE=>Zh ?_
                    obtain rfl:=Option.some.inj hl202
                    refine Zi ?_
                    have hM:=M.fst (l:=[_,_]) hM.pull4.pull1
                    exact ⟨hE.sub ⟨rfl,rfl,rfl,rfl,trivial⟩,hM⟩
               ·skip
                rintro a w ⟨hE,hM⟩
                refine Zr hE rfl ?_ ?_
                ·intro hb213
                 have hF203:=Zu hF203 hb213
                 refine Zb (Zc hE rfl fun a hE=>Ze ?_)
                 obtain rfl:=Option.some.inj hF203
                 exact wp_ret (ZI (kr1 hE rfl rfl hM.kept))
                ·intro hb213
                 have hF203:=Zt hF203 hb213
                 refine wp_skip (Zz (wp_seq (Zb (Zc hE rfl fun a hE=>Ze ?_))))
                 obtain ⟨j214,hl215,hF216⟩:=bind_some hF203
                 refine ZS (fun a w=>∃ s217 : Unit,j214 = Fl.nx s217 ∧ Env 349 a [] ∧ M (Old w0) w0 w []) ?_ ?_
                 ·skip
                  refine wp_block ?_
                  refine ZO (fun (s218 : Int) a w=>Env 349 a [(58,vI r182.2),(59,u187),(61,u200),(63,vI s218)] ∧ M (Old w0) w0 w [osl NoB (r198.1 : List (Vector UInt8 16)) u200,osl NoB (j184.1 : List Int) u187]) hl215 ⟨hE.sub ⟨rfl,rfl,rfl,rfl,trivial⟩,hM⟩ ?_
                  rintro s218 a w ⟨hE,hM⟩ o221 hs219 hx220
                  unfold VZ at hs219
                  refine wp_seq (Zb (Zd hE rfl fun a hE=>Zd hE rfl fun a hE=>Wm hE rfl Tryz.underlying44 (hM.sl (pre:=[_]) noB) fun a hE=>Zl hE rfl rfl rfl fun a hE=>Ze ?_))
                  refine Zr hE rfl ?_ ?_
                  ·intro hb222
                   have hs219:=Zu hs219 hb222
                   refine wp_skip (Zz (wp_seq (wp_block ?_)))
                   obtain ⟨j223,hl224,hF225⟩:=bind_some hs219
                   refine ZQ (fun a w=>Env 349 a [(58,vI r182.2),(59,u187),(61,u200),(63,vI s218),(348,vT j223)] ∧ M (Old w0) w0 w [osl NoB (r198.1 : List (Vector UInt8 16)) u200,osl NoB (j184.1 : List Int) u187]) ?_ ?_
                   ·skip
                    obtain ⟨x227,hi229,hl224⟩:=bix hl224
                    obtain ⟨x230,hi232,hl224⟩:=bix hl224
                    obtain ⟨x234,hi233,hl224⟩:=bvx hl224
                    refine Yl [338,339,340,341,342,343,344,345,346,347,348] Xm rfl rfl (by decide) rfl hE hM (qsP (fun z=>Zj z.E Za ld rfl (kr0 rfl)) (qsP (fun z=>Zj z.E Za ld rfl (kr0 rfl)) (qsP (fun z=>X7 z.E Za ld rfl rfl Tryz.underlying44 ty2 (z.M.sl (pre:=[_]) noB) hi229.1 (kr0 rfl)) (qsP (fun z=>Z0 (v:=(vI x227)) z.E Za ld rfl ty2 rfl (Y1 (z.M.sl (pre:=[_]) noB) hi229.2) (kr0 rfl)) (qsP (fun z=>Zj z.E Za ld rfl (kr0 rfl)) (qsP (fun z=>Zj z.E Za ld rfl (kr0 rfl)) (qsP (fun z=>X7 z.E Za ld rfl rfl Tryz.underlying36 Zv (z.M.sl (pre:=[]) noB) hi232.1 (kr0 rfl)) (qsP (fun z=>ZA z.E Za ld rfl rfl Tryz.underlying33 ty5 hi233.1 (kr0 rfl)) (qsP (fun z=>Z0 (v:=(vB x234)) z.E Za ld rfl ty5 rfl (At.vec (Y1 (z.M.sl (pre:=[]) noB) hi232.2) hi233.2) (kr0 rfl)) (qsP (fun z=>Ku z.E Za ld rfl Tryz.underlying5 Tryz.underlying2 (kr0 rfl)) (qsP (fun z=>Yk z.E Za ld rfl rfl rfl (kr0 rfl)) qs0))))))))))) ?_
                    ·intro a w u hE hM
                     refine Zh ?_
                     obtain rfl:=Option.some.inj hl224
                     refine Zi ?_
                     exact ⟨hE.sub ⟨rfl,rfl,rfl,rfl,rfl,trivial⟩,hM⟩
                   ·skip
                    rintro a w ⟨hE,hM⟩
                    refine Zr hE rfl ?_ ?_
                    ·intro hb237
                     have hF225:=Zu hF225 hb237
                     refine Zb (Zc hE rfl fun a hE=>Ze ?_)
                     obtain rfl:=hx220 _ (ois hF225)
                     obtain rfl:=Option.some.inj hF216
                     exact wp_ret (Y8 (ZI (ZI (Y8 (ZI (ZI (kr1 hE rfl rfl hM.kept)))))))
                    ·intro hb237
                     have hF225:=Zt hF225 hb237
                     refine wp_skip (Z9 (Zz (wp_region_lit (Zd hE rfl fun a hE=>Zl hE rfl rfl rfl fun a hE=>Zc hE rfl fun a hE=>Zh (Zi ?_)))))
                     exact ⟨_,(ois hF225),hE.sub ⟨rfl,rfl,rfl,rfl,trivial⟩,hM⟩
                  ·intro hb222
                   have hs219:=Zt hs219 hb222
                   refine wp_exit (Zq (Zq (Yi ?_)))
                   obtain rfl:=hx220 _ (ois hs219)
                   refine Zi ?_
                   have hM:=M.fst (l:=[]) hM
                   exact ⟨(),rfl,hE.sub trivial,hM⟩
                 ·skip
                  rintro a w ⟨s217,ht,hE,hM⟩
                  subst ht
                  have hF216:=Qi hF216
                  refine Zz (Zb (Zc hE rfl fun a hE=>Ze ?_))
                  obtain rfl:=Option.some.inj hF216
                  exact wp_ret (kr1 hE rfl rfl hM.kept)
end

end Go.Proofs.YtkajmkegelcfjaaGreat
