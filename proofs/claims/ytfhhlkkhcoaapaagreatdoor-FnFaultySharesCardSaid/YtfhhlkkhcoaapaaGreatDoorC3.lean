/- The walk of what the law reaches: contracts of functions. -/
import Derived.Test.YtfhhlkkhcoaapaaGreatDoorC2
set_option linter.unusedVariables false
set_option linter.unusedSimpArgs false
set_option maxRecDepth 20000
set_option maxHeartbeats 400000
namespace Go.Proofs.YtfhhlkkhcoaapaaGreatDoor
open Go
open Flat (enc)
noncomputable section
theorem HS (w0 : World) (p0 : Str) (r : GShare × Int) (hF : VG p0 = some r) :
  Calls Tryz.prog 27 [(vS p0)].toArray w0 (fun en w'=>∃ v,en = .returned v ∧ (∃ (y1 : Value),v = (Value.tuple [(Value.agg (cat [[vB r.1.Place],[y1]]).toArray),vI r.2].toArray) ∧ Fr w0 w' [osl NoB (r.1.Data : List UInt8) y1] ∧ Kept (Old w0) w0 w')):=by
 refine ce Tryz.func27 ?_
 intro a hE
 have hM:=M.start w0
 unfold VG at hF
 refine Zc (UP hE hM ZN fun b1 w a hM hE=>Zb hE rfl fun a hE=>Ze (Zc (Zd hE rfl ?_))); intro a hE
 obtain ⟨r3,e4,hF⟩:=bind_some hF
 refine Zq hE rfl (cbm Tryz.func75) (Ai _ p0 58 r3 e4) ?_
 rintro u5 w a ⟨_,rfl,hFr,hK⟩ hE
 have hM:=hM.add hK hFr
 refine Zb hE rfl fun a hE=>Ze (wp_seq (Zc (Zd hE rfl fun a hE=>ZL hE rfl Tryz.underlying109 (hM.sl (pre:=[]) noB) fun a hE=>Zk hE rfl rfl rfl fun a hE=>Ze ?_)))
 refine Zm hE rfl ?_ ?_
 ·intro hb6
  have hF:=Zn hF hb6
  refine Zc (YY (parts:=[]) (vs:=[]) (cs:=cat [[vB 0],[(Value.slice none 0 0)]]) hE Za ld rfl rfl ZN Hu Wy ?_); intro a hE
  have hM:=hM.pull1
  refine Xs (seg:=cat [[vB 0],[(Value.slice none 0 0)]]) (cs':=cat [[vB 0],[(Value.slice none 0 0)]]) hE hM Za rfl rfl rfl ZN cq (Nat.le_of_eq ((Nat.zero_add _).trans (Eq.trans cq (Eq.symm cq)))) (Wu (cc1 (Flat.cell (0 : UInt8)) (cc1 JH cc0))) (ZZ (Eq.trans cq (Eq.symm cq))) fun w a hM hE=>Zb hE rfl fun a hE=>Ze ?_
  have hM:=M.nilS (α:=UInt8) NoB noB hM
  obtain rfl:=Option.some.inj hF
  have hq8 : Tr Tryz.prog _ _ (.cell 2 33) _:=Ko hE rfl ZN rfl hM.rawAt1 cq rfl
  have hM:=M.fst (l:=[_]) hM
  exact wp_ret (Zr (Z0 hE rfl hq8 (Zl hE rfl) ⟨_,rfl,(Value.slice none 0 0),rfl,hM.outF (Z8 Yd),hM.kept⟩))
 ·intro hb6
  have hF:=Zo hF hb6
  refine wp_skip (Zu (Zc (Zd hE rfl ?_))); intro a hE
  obtain ⟨x9,hi11,hF⟩:=bix hF
  refine ZG hE rfl rfl Tryz.underlying109 ty9 (hM.sl (pre:=[]) noB) hi11.1 fun a hE=>ZX (v:=(vS x9)) hE rfl ty9 rfl (ZS (hM.sl (pre:=[]) noB) hi11.2) ?_; intro a hE
  obtain ⟨r12,e13,hF⟩:=bind_some hF
  refine Zq hE rfl (cbm Tryz.func76) (BN _ x9 r12 e13) ?_
  rintro v w a ⟨rfl,hK⟩ hE
  have hM:=hM.keep hK
  refine Zb hE rfl fun a hE=>Ze (Zc (Zd hE rfl ?_)); intro a hE
  obtain ⟨x14,hi16,hF⟩:=bix hF
  refine ZG hE rfl rfl Tryz.underlying109 ty9 (hM.sl (pre:=[]) noB) hi16.1 fun a hE=>ZX (v:=(vS x14)) hE rfl ty9 rfl (ZS (hM.sl (pre:=[]) noB) hi16.2) ?_; intro a hE
  obtain ⟨r17,e18,hF⟩:=bind_some hF
  refine Zq hE rfl (cbm Tryz.func77) (B5 _ x14 r17 e18) ?_
  rintro v w a ⟨u19,rfl,hFr,hK⟩ hE
  have hM:=hM.add hK hFr
  refine Zd hE rfl fun a hE=>Zt hE Za ld rfl rfl fun a hE=>Zt hE Za ld rfl rfl fun a hE=>Zb hE rfl fun a hE=>Zb hE rfl fun a hE=>Ze (wp_seq ?_)
  obtain ⟨j20,hl21,hF22⟩:=bind_some hF
  refine Zx (fun a w=>Env 42 a [(2,(ptr b1 0)),(5,vI r12),(6,u19),(36,vT j20)] ∧ M (Old w0) w0 w [osl NoB (r17.1 : List UInt8) u19,raw b1 (cat [[vB 0],[(Value.slice none 0 0)]])]) ?_ ?_
  ·skip
   refine wp_region_lit (Zd hE rfl fun a hE=>Ve hE rfl fun a hE=>Zd hE rfl ?_); intro a hE
   refine ZO (!r17.2) (fun hb23=>?_) (fun hb23=>?_)
   ·have hl21:=Zn hl21 hb23
    refine Zg hE rfl (lkb rfl hb23) rfl (by decide) fun a hE=>Zg hE rfl (lkb rfl hb23) rfl (by decide) fun a hE=>Zg hE rfl (lkb rfl hb23) rfl (by decide) fun a hE=>ZB hE (lkb rfl hb23) rfl fun a hE=>Zd hE rfl fun a hE=>Zg hE rfl rfl rfl (by decide) fun a hE=>Zg hE rfl rfl rfl (by decide) fun a hE=>Zg hE rfl rfl rfl (by decide) fun a hE=>ZB hE rfl rfl fun a hE=>Zj ?_
    obtain rfl:=Option.some.inj hl21
    refine Zi ?_
    have hM:=M.fst (l:=[_,_]) hM.pull2.pull1
    exact ⟨hE.sub ⟨rfl,rfl,rfl,rfl,trivial⟩,hM⟩
   ·have hl21:=Zo hl21 hb23
    refine Zh hE (Zf hE rfl (lkb rfl hb23)) (by decide) rfl ?_; intro a hE
    obtain ⟨r25,e26,hl21⟩:=bind_some hl21
    refine ZW hE (Zf hE rfl (lkb rfl hb23)) (by decide) rfl cb78 (KL _ r12 1 255 r25 e26) ?_
    rintro v w a ⟨rfl,hK⟩ hE
    have hM:=hM.keep hK
    refine U5 hE (Zf hE rfl (lkb rfl hb23)) (by decide) rfl fun a hE=>Zy hE (lkb rfl hb23) rfl fun a hE=>Zd hE rfl ?_; intro a hE
    refine ZO (!r25) (fun hb27=>?_) (fun hb27=>?_)
    ·have hl21:=Zn hl21 hb27
     refine Zg hE rfl (lkb rfl hb27) rfl (by decide) fun a hE=>Zg hE rfl (lkb rfl hb27) rfl (by decide) fun a hE=>Zg hE rfl (lkb rfl hb27) rfl (by decide) fun a hE=>ZB hE (lkb rfl hb27) rfl fun a hE=>Zj ?_
     obtain rfl:=Option.some.inj hl21
     refine Zi ?_
     have hM:=M.fst (l:=[_,_]) hM.pull2.pull1
     exact ⟨hE.sub ⟨rfl,rfl,rfl,rfl,trivial⟩,hM⟩
    ·have hl21:=Zo hl21 hb27
     refine Zh hE (Zf hE rfl (lkb rfl hb27)) (by decide) rfl fun a hE=>XN hE (Zf hE rfl (lkb rfl hb27)) (by decide) rfl Tryz.underlying22 (hM.sl (pre:=[]) noB) fun a hE=>ZJ hE (Zf hE rfl (lkb rfl hb27)) (by decide) rfl rfl rfl fun a hE=>Zy hE (lkb rfl hb27) rfl fun a hE=>Zj ?_
     obtain rfl:=Option.some.inj hl21
     refine Zi ?_
     have hM:=M.fst (l:=[_,_]) hM.pull2.pull1
     exact ⟨hE.sub ⟨rfl,rfl,rfl,rfl,trivial⟩,hM⟩
  ·skip
   rintro a w ⟨hE,hM⟩
   refine Zm hE rfl ?_ ?_
   ·intro hb30
    have hF22:=Zn hF22 hb30
    refine Zc (YY (parts:=[]) (vs:=[]) (cs:=cat [[vB 0],[(Value.slice none 0 0)]]) hE Za ld rfl rfl ZN Hu Wy ?_); intro a hE
    have hM:=hM.pull1
    refine Xs (seg:=cat [[vB 0],[(Value.slice none 0 0)]]) (cs':=cat [[vB 0],[(Value.slice none 0 0)]]) hE hM Za rfl rfl rfl ZN cq (Nat.le_of_eq ((Nat.zero_add _).trans (Eq.trans cq (Eq.symm cq)))) (Wu (cc1 (Flat.cell (0 : UInt8)) (cc1 JH cc0))) (ZZ (Eq.trans cq (Eq.symm cq))) fun w a hM hE=>Zb hE rfl fun a hE=>Ze ?_
    have hM:=M.nilS (α:=UInt8) NoB noB hM
    obtain rfl:=Option.some.inj hF22
    have hq32 : Tr Tryz.prog _ _ (.cell 2 33) _:=Ko hE rfl ZN rfl hM.rawAt1 cq rfl
    have hM:=M.fst (l:=[_]) hM
    exact wp_ret (Zr (Z0 hE rfl hq32 (Zl hE rfl) ⟨_,rfl,(Value.slice none 0 0),rfl,hM.outF (Z8 Yd),hM.kept⟩))
   ·intro hb30
    have hF22:=Zo hF22 hb30
    refine wp_skip (Zu (Zc (Zd hE rfl fun a hE=>TH hE Za ld rfl Tryz.underlying2 Tryz.underlying5 fun a hE=>Zd hE rfl fun a hE=>YY (parts:=[(0,.tmp 39),(1,.tmp 40)]) (vs:=[(0,(vB (Yp r12))),(1,u19)]) (cs:=cat [[(vB (Yp r12))],[u19]]) hE Za ld rfl rfl ZN Hu (YK (pre:=[]) (seg:=[vB 0]) (seg':=[(vB (Yp r12))]) (post:=[[(Value.slice none 0 0)]]) rfl cl0 rfl rfl rfl (YK (pre:=[[(vB (Yp r12))]]) (seg:=[(Value.slice none 0 0)]) (seg':=[u19]) (post:=[]) rfl ck rfl rfl (Y2 (hM.sl (pre:=[]) noB)) Wy)) ?_))); intro a hE
    have hM:=hM.pull1
    refine Xs (seg:=cat [[(vB (Yp r12))],[u19]]) (cs':=cat [[(vB (Yp r12))],[u19]]) hE hM Za rfl rfl rfl ZN cq (Nat.le_of_eq ((Nat.zero_add _).trans (Eq.trans cq (Eq.symm cq)))) (Wu (cc1 (Flat.cell (Yp r12 : UInt8)) (cc1 (Rep.cell (hM.sl (pre:=[_]) noB)) cc0))) (ZZ (Eq.trans cq (Eq.symm cq))) fun w a hM hE=>Zb hE rfl fun a hE=>Ze ?_
    obtain rfl:=Option.some.inj hF22
    have hq33 : Tr Tryz.prog _ _ (.cell 2 33) _:=Ko hE rfl ZN rfl hM.rawAt0 cq rfl
    have hM:=M.fst (l:=[_]) hM.pull1
    exact wp_ret (Z0 hE rfl hq33 (Zl hE rfl) ⟨_,rfl,u19,rfl,hM.outF (Z8 Yd),hM.kept⟩)
def Xk (p0 : (List UInt8)) (r5 : (Int × Int) × Int × (List GShare) × Int) (s23 : Int × Int × Int × (List (List UInt8))) : Option (Fl (Int × Int × Int × (List (List UInt8))) (Int × Int × (List (List UInt8)))) :=
 (if (decide (s23.2.2.1 > 0)) = true then (some (decide ((r5.2.2.1.length : Int) > 0))) else (some false) : Option (Bool)).bind fun j29=>if j29 = true then ((idx r5.2.2.1 (0 : Int)).bind fun x36=>(Y9 p0 (s23.1,s23.2.1) (x36.Data.length : Int)).bind fun r42=>(app 24 s23.2.2.2 ([r42.2] : List (List UInt8))).bind fun l48=>some (Fl.nx (r42.1.1,r42.1.2,wr (s23.2.2.1 - 1),(s23.2.2.2 ++ ([r42.2] : List (List UInt8)))))) else (some (Fl.ex (s23.1,s23.2.1,s23.2.2.2)))
def Xt (p0 : (List UInt8)) : Option (Int × (List GShare) × (List (List UInt8))) :=
 (Y1 p0).bind fun r1=>(XY p0 (r1.1,r1.2)).bind fun r5=>(Zw p0 (r5.1.1,r5.1.2) 4).bind fun r10=>(Zw p0 (r10.1.1,r10.1.2) 8).bind fun r12=>(Ya p0 (r12.1.1,r12.1.2) ([r10.2,r12.2,8] : List Int)).bind fun r16=>(ZH (Xk p0 r5) (r16.1.1,r16.1.2,r16.2,([] : List (List UInt8)))).bind fun j18=>((if (decide ((j18.2.2.length : Int) > 0)) = true then ((Zw p0 (j18.1,j18.2.1) 20).bind fun r63=>some (r63.2 == 0)) else (some false) : Option (Bool)).bind fun j59=>if j59 = true then ((idx j18.2.2 (0 : Int)).bind fun x68=>(app 1 x68 ([1] : List UInt8)).bind fun l76=>(idx j18.2.2 (0 : Int)).bind fun x81=>some (j18.2.2.set ((0 : Int)).toNat (x68 ++ ([1] : List UInt8)))) else (some j18.2.2) : Option ((List (List UInt8)))).bind fun j54=>some (r5.2.1,r5.2.2.1,j54)
theorem Q7 (w0 : World) (p0 : (List UInt8)) (v0_1 : Value) (hv0_1 : Ro w0 p0 [v0_1]) (r : Int × (List GShare) × (List (List UInt8))) (hF : Xt p0 = some r) :
  Calls Tryz.prog 28 [v0_1].toArray w0 (fun en w'=>∃ v,en = .returned v ∧ (∃ (y1 : Value) (y2 : Value),v = (Value.tuple [vI r.1,y1,y2].toArray) ∧ Fr w0 w' [osl NoB (r.2.1 : List GShare) y1,osl NoB (r.2.2 : List (List UInt8)) y2] ∧ Kept (Old w0) w0 w')):=by
 refine ce Tryz.func28 ?_
 intro a hE
 have hM:=M.start w0
 unfold Xt at hF
 refine Zc (Zb hE rfl fun a hE=>Zb hE rfl fun a hE=>Zb hE rfl fun a hE=>Ze (Zc (Zd hE rfl ?_))); intro a hE
 have hM:=M.tailP (m:=[]) hM
 obtain ⟨r1,e2,hF⟩:=bind_some hF
 refine Zq hE rfl kl (Vj _ _ _ _ p0 v0_1 hv0_1 hM r1 e2) ?_
 rintro v w a ⟨b3,rfl,hM⟩ hE
 have hM:=M.tailU (m:=[_]) hM
 simp only [List.cons_append,List.nil_append] at hM
 refine Zb hE rfl fun a hE=>Ze (Zc (Zd hE rfl ?_)); intro a hE
 have hM:=M.tailP (m:=[_]) hM
 obtain ⟨r5,e6,hF⟩:=bind_some hF
 refine Zq hE rfl cb39 (TC _ _ _ _ b3 p0 v0_1 hv0_1 (r1.1,r1.2) hM r5 e6) ?_
 rintro v w a ⟨u7,rfl,hM⟩ hE
 have hM:=M.tailU (m:=[_,_]) hM
 simp only [List.cons_append,List.nil_append] at hM
 refine Zd hE rfl fun a hE=>Zt hE Za ld rfl rfl fun a hE=>Zt hE Za ld rfl rfl fun a hE=>Zt hE Za ld rfl rfl fun a hE=>Zb hE rfl fun a hE=>Zb hE rfl fun a hE=>Zb hE rfl fun a hE=>Ze (Zc (TE (xs:=[]) (S:=NoB) (l:=([] : List (List UInt8))) (vs:=[]) hE hM.emp noB Za ld rfl rfl rfl Tryz.underlying57 YS rfl (by decide) (fun _ h=>⟨rfl,h⟩) (fun _ h=>by cases h) fun u8 w a hM hE=>Zb hE rfl fun a hE=>Ze (wp_seq (Zc (Zd hE rfl fun a hE=>Zd hE rfl ?_))))); intro a hE
 have hM:=M.tailP (m:=[_]) hM.pull1
 obtain ⟨r10,e11,hF⟩:=bind_some hF
 refine Zq hE rfl Tn (ZF _ _ _ _ b3 p0 v0_1 hv0_1 (r5.1.1,r5.1.2) 4 hM r10 e11) ?_
 rintro v w a ⟨rfl,hM⟩ hE
 have hM:=M.tailU (m:=[_]) hM
 simp only [List.cons_append,List.nil_append] at hM
 refine Zd hE rfl ?_; intro a hE
 have hM:=M.tailP (m:=[_]) hM
 obtain ⟨r12,e13,hF⟩:=bind_some hF
 refine Zq hE rfl Tn (ZF _ _ _ _ b3 p0 v0_1 hv0_1 (r10.1.1,r10.1.2) 8 hM r12 e13) ?_
 rintro v w a ⟨rfl,hM⟩ hE
 have hM:=M.tailU (m:=[_]) hM
 simp only [List.cons_append,List.nil_append] at hM
 refine ZD (xs:=[.tmp 22,.tmp 24,.const (vI 8)]) (l:=([r10.2,r12.2,8] : List Int)) (vs:=[vI r10.2,vI r12.2,vI 8]) hE hM Za ld rfl rfl Tryz.underlying27 ty2 rfl (by decide) rfl ?_; intro u14 w a hM hE
 have hM:=M.tailP (m:=[_,_]) hM.pull1
 obtain ⟨r16,e17,hF⟩:=bind_some hF
 refine Zq hE rfl Bp (YG _ _ _ _ b3 p0 v0_1 hv0_1 (r12.1.1,r12.1.2) ([r10.2,r12.2,8] : List Int) u14 hM r16 e17) ?_
 rintro v w a ⟨rfl,hM⟩ hE
 have hM:=M.tailU (m:=[_,_]) hM
 simp only [List.cons_append,List.nil_append] at hM
 refine Zb hE rfl fun a hE=>Ze ?_
 obtain ⟨j18,hl19,hF20⟩:=bind_some hF
 refine ZP (fun a w=>∃ (u21 : Value),Env 64 a [(5,(ptr b3 0)),(6,vI r5.2.1),(7,u7),(9,u21)] ∧ M (Old w0) w0 w [raw b3 (cat [[v0_1],[vI j18.1],[(Value.int .u64 j18.2.1)]]),osl NoB (r5.2.2.1 : List GShare) u7,osl NoB (j18.2.2 : List (List UInt8)) u21]) ?_ ?_
 ·skip
  refine wp_block ?_
  have hM:=M.fst (l:=[_,_,_]) hM.pull2.pull3.pull2
  refine ZK (fun (s23 : Int × Int × Int × (List (List UInt8))) a w=>∃ (u24 : Value),Env 64 a [(5,(ptr b3 0)),(6,vI r5.2.1),(7,u7),(9,u24),(10,vI s23.2.2.1)] ∧ M (Old w0) w0 w [raw b3 (cat [[v0_1],[vI s23.1],[(Value.int .u64 s23.2.1)]]),osl NoB (r5.2.2.1 : List GShare) u7,osl NoB (s23.2.2.2 : List (List UInt8)) u24]) hl19 ⟨u8,hE.sub ⟨rfl,rfl,rfl,rfl,rfl,trivial⟩,hM⟩ ?_
  rintro s23 a w ⟨u24,hE,hM⟩ o28 hs26 hx27
  unfold Xk at hs26
  refine wp_seq ?_
  obtain ⟨j29,hl30,hF31⟩:=bind_some hs26
  refine Zx (fun a w=>Env 64 a [(5,(ptr b3 0)),(6,vI r5.2.1),(7,u7),(9,u24),(10,vI s23.2.2.1),(33,vT j29)] ∧ M (Old w0) w0 w [raw b3 (cat [[v0_1],[vI s23.1],[(Value.int .u64 s23.2.1)]]),osl NoB (r5.2.2.1 : List GShare) u7,osl NoB (s23.2.2.2 : List (List UInt8)) u24]) ?_ ?_
  ·skip
   refine wp_region_lit (Zd hE rfl fun a hE=>Zk hE rfl rfl rfl fun a hE=>Zd hE rfl ?_); intro a hE
   refine ZO (decide (s23.2.2.1 > 0)) (fun hb32=>?_) (fun hb32=>?_)
   ·have hl30:=Zn hl30 hb32
    refine Zh hE (Zf hE rfl (lkb rfl hb32)) (by decide) rfl fun a hE=>XN hE (Zf hE rfl (lkb rfl hb32)) (by decide) rfl Tryz.underlying24 (hM.sl (pre:=[_]) noB) fun a hE=>ZJ hE (Zf hE rfl (lkb rfl hb32)) (by decide) rfl rfl rfl fun a hE=>ZB hE (lkb rfl hb32) rfl fun a hE=>Zj ?_
    obtain rfl:=Option.some.inj hl30
    refine Zi ?_
    exact ⟨hE.sub ⟨rfl,rfl,rfl,rfl,rfl,rfl,trivial⟩,hM⟩
   ·have hl30:=Zo hl30 hb32
    refine Zg hE rfl (lkb rfl hb32) rfl (by decide) fun a hE=>Zg hE rfl (lkb rfl hb32) rfl (by decide) fun a hE=>Zg hE rfl (lkb rfl hb32) rfl (by decide) fun a hE=>Zy hE (lkb rfl hb32) rfl fun a hE=>Zj ?_
    obtain rfl:=Option.some.inj hl30
    refine Zi ?_
    exact ⟨hE.sub ⟨rfl,rfl,rfl,rfl,rfl,rfl,trivial⟩,hM⟩
  ·skip
   rintro a w ⟨hE,hM⟩
   refine Zm hE rfl ?_ ?_
   ·intro hb35
    have hF31:=Zn hF31 hb35
    refine wp_skip (Zu (wp_seq (wp_block (wp_region_lit (Zd hE rfl fun a hE=>Zd hE rfl fun a hE=>Zd hE rfl ?_))))); intro a hE
    obtain ⟨x36,hi38,hF31⟩:=bix hF31
    refine ZG hE rfl rfl Tryz.underlying24 ZN (hM.sl (pre:=[_]) noB) hi38.1 fun a hE=>ZI hE rfl (Yj) ?_; intro a hE
    have hM:=hM.pull1
    obtain ⟨cs39,hM,_⟩:=hM.open1 noB hi38.2
    obtain ⟨_,hx,_⟩:=hM.head
    obtain ⟨u40,_,rfl,_,_⟩:=VL hx
    have hM:=Tc hM
    refine ZX (v:=u40) hE rfl YS rfl (At.cat (pre:=[[vB x36.Place]]) (hM.holeAt (pre:=[_])) ck) fun a hE=>ZL hE rfl Tryz.underlying22 (hM.ro (pre:=[]) noB) ?_; intro a hE
    have hM:=M.tailP (m:=[_]) hM.pull2
    obtain ⟨r42,e43,hF31⟩:=bind_some hF31
    refine Zq hE rfl cb63 (VY _ _ _ _ b3 p0 v0_1 hv0_1 (s23.1,s23.2.1) (x36.Data.length : Int) hM r42 e43) ?_
    rintro u44 w a ⟨_,rfl,hM⟩ hE
    have hM:=M.tailU (m:=[_,_]) hM
    simp only [List.cons_append,List.nil_append] at hM
    have hc47:=Y2 (hM.sl (pre:=[_]) noB)
    have hM:=hM.pull1
    have hM:=hM.pack1 (it:=own NoB r42.2 ([u44])) (VS noB) (fun f0 q0=>(X5.sat q0))
    refine V0 (xs:=[.tmp 43]) (seg:=[u44]) hE hM noB Za ld rfl hc47 Tryz.underlying57 YS rfl (by decide) ?_; intro u45 w a hM hE
    obtain ⟨l48,e49,hF31⟩:=bind_some hF31
    obtain ⟨e52,rfl⟩:=ZY e49
    have hM:=hM.pull4
    refine UM hE hM noB Za ld rfl rfl Tryz.underlying57 YS rfl (by decide) e52 fun u50 w a hM hE=>Zb hE rfl fun a hE=>Zj (Yg (Zu (wp_region_lit (Zd hE rfl fun a hE=>Zk hE rfl rfl rfl fun a hE=>Zb hE rfl fun a hE=>Zj ?_))))
    have hM:=(UJ (x:=x36) hM.pull1.pull1.pull3.pull3 siw).close0 noB hi38.2
    refine Zi ?_
    have hM:=hM.pull1.pull1.pull2
    exact ⟨_,(ois hF31),u50,hE.sub ⟨rfl,rfl,rfl,rfl,rfl,trivial⟩,hM⟩
   ·intro hb35
    have hF31:=Zo hF31 hb35
    refine wp_exit (Zs (Zs (Ys ?_)))
    obtain rfl:=hx27 _ (ois hF31)
    refine Zi ?_
    exact ⟨u24,hE.sub ⟨rfl,rfl,rfl,rfl,trivial⟩,hM⟩
 ·skip
  rintro a w ⟨u21,hE,hM⟩
  refine Zu ?_
  obtain ⟨j54,hl55,hF56⟩:=bind_some hF20
  refine Zx (fun a w=>∃ (u57 : Value),Env 64 a [(6,vI r5.2.1),(7,u7),(9,u57)] ∧ M (Old w0) w0 w [osl NoB (r5.2.2.1 : List GShare) u7,osl NoB (j54 : List (List UInt8)) u57]) ?_ ?_
  ·skip
   obtain ⟨j59,hl60,hF61⟩:=bind_some hl55
   refine Zx (fun a w=>Env 64 a [(6,vI r5.2.1),(7,u7),(9,u21),(53,vT j59)] ∧ M (Old w0) w0 w [osl NoB (r5.2.2.1 : List GShare) u7,osl NoB (j18.2.2 : List (List UInt8)) u21]) ?_ ?_
   ·skip
    refine wp_region_lit (Zd hE rfl fun a hE=>ZL hE rfl Tryz.underlying57 (hM.sl (pre:=[_,_]) noB) fun a hE=>Zk hE rfl rfl rfl fun a hE=>Zd hE rfl ?_); intro a hE
    refine ZO (decide ((j18.2.2.length : Int) > 0)) (fun hb62=>?_) (fun hb62=>?_)
    ·have hl60:=Zn hl60 hb62
     refine Zh hE (Zf hE rfl (lkb rfl hb62)) (by decide) rfl ?_; intro a hE
     have hM:=M.tailP (m:=[_]) hM
     obtain ⟨r63,e64,hl60⟩:=bind_some hl60
     refine ZW hE (Zf hE rfl (lkb rfl hb62)) (by decide) rfl Tn (ZF _ _ _ _ b3 p0 v0_1 hv0_1 (j18.1,j18.2.1) 20 hM r63 e64) ?_
     rintro v w a ⟨rfl,hM⟩ hE
     have hM:=M.tailU (m:=[_]) hM
     simp only [List.cons_append,List.nil_append] at hM
     refine ZJ hE (Zf hE rfl (lkb rfl hb62)) (by decide) rfl rfl rfl fun a hE=>ZB hE (lkb rfl hb62) rfl fun a hE=>Zj ?_
     obtain rfl:=Option.some.inj hl60
     refine Zi ?_
     have hM:=M.fst (l:=[_,_]) hM.pull2.pull2
     exact ⟨hE.sub ⟨rfl,rfl,rfl,rfl,trivial⟩,hM⟩
    ·have hl60:=Zo hl60 hb62
     refine Zg hE rfl (lkb rfl hb62) rfl (by decide) fun a hE=>Zg hE rfl (lkb rfl hb62) rfl (by decide) fun a hE=>Zg hE rfl (lkb rfl hb62) rfl (by decide) fun a hE=>Zy hE (lkb rfl hb62) rfl fun a hE=>Zj ?_
     obtain rfl:=Option.some.inj hl60
     refine Zi ?_
     have hM:=M.fst (l:=[_,_]) hM.pull2.pull2
     exact ⟨hE.sub ⟨rfl,rfl,rfl,rfl,trivial⟩,hM⟩
   ·skip
    rintro a w ⟨hE,hM⟩
    refine Zm hE rfl ?_ ?_
    ·intro hb67
     have hF61:=Zn hF61 hb67
     refine wp_region_lit (Zd hE rfl fun a hE=>Zd hE rfl ?_); intro a hE
     obtain ⟨x68,hi70,hF61⟩:=bix hF61
     refine ZG hE rfl rfl Tryz.underlying57 YS (hM.sl (pre:=[_]) noB) hi70.1 ?_; intro a hE
     have hM:=hM.pull1
     obtain ⟨cs71,hM,_⟩:=hM.open1 noB hi70.2
     obtain ⟨_,hx,_⟩:=hM.head
     obtain ⟨u72,rfl⟩:=Qd hx
     refine ZX (v:=u72) hE rfl YS rfl (hM.holeAt (pre:=[_])) fun a hE=>ZD (xs:=[.const (vB 1)]) (l:=([1] : List UInt8)) (vs:=[vB 1]) hE hM Za ld rfl rfl Tryz.underlying22 ty5 rfl (by decide) rfl ?_; intro u74 w a hM hE
     have hM:=hM.pull1.toOsl0
     obtain ⟨l76,e77,hF61⟩:=bind_some hF61
     obtain ⟨e80,rfl⟩:=ZY e77
     refine Z9 hE hM Za ld rfl rfl (hM.sl (pre:=[_]) noB) Tryz.underlying22 ty5 rfl (by decide) e80 ?_; intro u78 w a hM hE
     obtain ⟨x81,hi83,hF61⟩:=bix hF61
     refine Jz (pre:=[_,_]) hE hM Za ld rfl rfl Tryz.underlying57 YS hi83.1 ?_; intro a hE
     have hM:=hM.pull2
     refine H4 (k0:=0) (seg:=[u78]) (cs':=[u78]) hE hM noB Za rfl rfl (Y2 (hM.sl (pre:=[_]) noB)) YS rfl (Rep.cell (hM.sl (pre:=[_]) noB)) (Nat.le_of_eq ((Nat.zero_add _).trans rfl)) (ZZ rfl) ?_; intro w a hM hE
     have hM:=(hM.pull3.pull3.pull2.pull3.toOwn noB).close1 noB
     refine Zj ?_
     obtain rfl:=Option.some.inj hF61
     refine Zi ?_
     have hM:=M.fst (l:=[_,_]) hM.pull2
     exact ⟨u21,hE.sub ⟨rfl,rfl,rfl,trivial⟩,hM⟩
    ·intro hb67
     have hF61:=Zo hF61 hb67
     refine wp_skip ?_
     obtain rfl:=Option.some.inj hF61
     refine Zi ?_
     exact ⟨u21,hE.sub ⟨rfl,rfl,rfl,trivial⟩,hM⟩
  ·skip
   rintro a w ⟨u57,hE,hM⟩
   refine Zc (Zd hE rfl fun a hE=>Zd hE rfl fun a hE=>Zd hE rfl fun a hE=>Zb hE rfl fun a hE=>Zb hE rfl fun a hE=>Zb hE rfl fun a hE=>Ze ?_)
   obtain rfl:=Option.some.inj hF56
   exact wp_ret (KD hE rfl (Zl hE rfl) (Zl hE rfl) (Zl hE rfl) ⟨_,rfl,u7,u57,rfl,hM.outF (Z8 (Z8 Yd)),hM.kept⟩)
def Wx (p0 : (List (List UInt8))) (p1 : (List UInt8) → Option (Bool)) (s5 : Int) : Option (Fl Int (Fl Unit Int)) :=
 if (decide (s5 < (p0.length : Int))) = true then ((idx p0 s5).bind fun x10=>((p1 x10)).bind fun r18=>if r18 = true then (some (Fl.ex (Fl.ex s5))) else (some (Fl.nx (wr (s5 + 1))))) else (some (Fl.ex (Fl.nx ())))
def XA (p0 : (List (List UInt8))) (p1 : (List UInt8) → Option (Bool)) : Option (Int) :=
 (ZH (Wx p0 p1) 0).bind fun j1=>j1.el (fun s4=>some (-1)) (fun r=>some r)
theorem Qq (w0 : World) (p0 : (List (List UInt8))) (v0_1 : Value) (hv0_1 : Ro w0 p0 [v0_1]) (p1 : (List UInt8) → Option (Bool)) (k1 : Nat) (q1 : List Value) (hcb1 : Callable Tryz.prog k1) (hg1 : ∀ (w2 : World),Kept (Old w0) w0 w2 → ∀ (z0 : (List UInt8)) (zu1 : Value) (_ : Ro w2 z0 [zu1]) (zr : Bool),p1 z0 = some zr → Calls Tryz.prog k1 ([zu1] ++ q1).toArray w2 (fun en w3=>∃ v,en = .returned v ∧ (v = (vT zr) ∧ Kept (Old w2) w2 w3))) (r : Int) (hF : XA p0 p1 = some r) :
  Calls Tryz.prog 138 [v0_1,(Value.func (.func k1) #[] q1.toArray)].toArray w0 (Rt w0 (vI r)):=by
 refine ce Tryz.func138 ?_
 intro a hE
 have hM:=M.start w0
 unfold XA at hF
 refine Zc (Zb hE rfl fun a hE=>Ze (wp_seq (Zc (Zd hE rfl fun a hE=>ZL hE rfl Tryz.underlying57 (hM.rd hv0_1) fun a hE=>Zd hE rfl fun a hE=>Ze ?_))))
 obtain ⟨j1,hl2,hF3⟩:=bind_some hF
 refine ZP (fun a w=>∃ s4 : Unit,j1 = Fl.nx s4 ∧ Env 19 a [] ∧ M (Old w0) w0 w []) ?_ ?_
 ·skip
  refine wp_block ?_
  refine ZK (fun (s5 : Int) a w=>Env 19 a [(0,v0_1),(1,(Value.func (.func k1) #[] q1.toArray)),(7,(vI (p0.length : Int))),(8,vI s5)] ∧ M (Old w0) w0 w []) hl2 ⟨hE.sub ⟨rfl,rfl,rfl,rfl,trivial⟩,hM⟩ ?_
  rintro s5 a w ⟨hE,hM⟩ o8 hs6 hx7
  unfold Wx at hs6
  refine Zc (Zk hE rfl rfl rfl fun a hE=>Ze (wp_seq ?_))
  refine Zm hE rfl ?_ ?_
  ·intro hb9
   have hs6:=Zn hs6 hb9
   refine wp_skip (Zu (wp_seq (wp_block (Zc (Zd hE rfl fun a hE=>Zb hE rfl fun a hE=>Ze (Zc (Zd hE rfl fun a hE=>Zd hE rfl fun a hE=>Zd hE rfl ?_))))))); intro a hE
   obtain ⟨x10,hi12,hs6⟩:=bix hs6
   refine ZG hE rfl rfl Tryz.underlying57 YS (hM.rd hv0_1) hi12.1 ?_; intro a hE
   obtain ⟨cs13,hs14,hA15⟩:=Z3 hv0_1 hi12.2 -- ^
   obtain ⟨u16,rfl⟩:=Qd hs14 -- ^
   have h17:=hs14 -- ^
   refine ZX (v:=u16) hE rfl YS rfl (hM.atk hA15 (Yr hv0_1 hi12.2)) ?_; intro a hE
   obtain ⟨r18,e19,hs6⟩:=bind_some hs6
   refine y6 (vs:=[u16]) hE Za ld rfl rfl hcb1 (hg1 _ hM.kept x10 u16 (hM.rdo h17) r18 e19) ?_
   rintro v w a ⟨rfl,hK⟩ hE
   have hM:=hM.keep hK
   refine Ze ?_
   refine Zm hE rfl ?_ ?_
   ·intro hb20
    have hs6:=Zn hs6 hb20
    refine Zc (Zd hE rfl fun a hE=>Zb hE rfl fun a hE=>Ze ?_)
    obtain rfl:=hx7 _ (ois hs6)
    obtain rfl:=Option.some.inj hF3
    exact wp_ret (Z4 (Zr (Zr (Z4 (Zr (Zr (kr1 hE rfl rfl hM.kept)))))))
   ·intro hb20
    have hs6:=Zo hs6 hb20
    refine wp_skip (Yg (Zu (wp_region_lit (Zk hE rfl rfl rfl fun a hE=>Zd hE rfl fun a hE=>Zj (Zi ?_)))))
    exact ⟨_,(ois hs6),hE.sub ⟨rfl,rfl,rfl,rfl,trivial⟩,hM⟩
  ·intro hb9
   have hs6:=Zo hs6 hb9
   refine wp_exit (Zs (Zs (Ys ?_)))
   obtain rfl:=hx7 _ (ois hs6)
   refine Zi ?_
   exact ⟨(),rfl,hE.sub trivial,hM⟩
 ·skip
  rintro a w ⟨s4,ht,hE,hM⟩
  subst ht
  have hF3:=VQ hF3
  refine Zu (Zc (Zb hE rfl fun a hE=>Ze ?_))
  obtain rfl:=Option.some.inj hF3
  exact wp_ret (kr1 hE rfl rfl hM.kept)
def YF (p0 : (List (List UInt8))) (p1 : (List UInt8) → Option (Bool)) : Option (Bool) :=
 (XA p0 p1).bind fun r1=>some (decide (r1 ≥ 0))
theorem T1 (w0 : World) (p0 : (List (List UInt8))) (v0_1 : Value) (hv0_1 : Ro w0 p0 [v0_1]) (p1 : (List UInt8) → Option (Bool)) (k1 : Nat) (q1 : List Value) (hcb1 : Callable Tryz.prog k1) (hg1 : ∀ (w2 : World),Kept (Old w0) w0 w2 → ∀ (z0 : (List UInt8)) (zu1 : Value) (_ : Ro w2 z0 [zu1]) (zr : Bool),p1 z0 = some zr → Calls Tryz.prog k1 ([zu1] ++ q1).toArray w2 (fun en w3=>∃ v,en = .returned v ∧ (v = (vT zr) ∧ Kept (Old w2) w2 w3))) (r : Bool) (hF : YF p0 p1 = some r) :
  Calls Tryz.prog 120 [v0_1,(Value.func (.func k1) #[] q1.toArray)].toArray w0 (Rt w0 (vT r)):=by
 refine ce Tryz.func120 ?_
 intro a hE
 have hM:=M.start w0
 unfold YF at hF
 refine Zc (Zb hE rfl fun a hE=>Ze (Zc (Zd hE rfl fun a hE=>Zd hE rfl ?_))); intro a hE
 obtain ⟨r1,e2,hF⟩:=bind_some hF
 refine Zq hE rfl (cbm Tryz.func138) (Qq _ p0 v0_1 (hM.rdo hv0_1) p1 k1 q1 hcb1 (fun w2 hk2=>hg1 w2 (hM.kept.trans hk2)) r1 e2) ?_
 rintro v w a ⟨rfl,hK⟩ hE
 have hM:=hM.keep hK
 refine Zk hE rfl rfl rfl fun a hE=>Zb hE rfl fun a hE=>Ze ?_
 obtain rfl:=Option.some.inj hF
 exact wp_ret (kr1 hE rfl rfl hM.kept)
def XI (p0 : (List UInt8)) (p1 : Int) : Option (Bool) :=
 some ((p0.length : Int) != p1)
theorem Kz (w0 : World) (p0 : (List UInt8)) (v0_1 : Value) (hv0_1 : Ro w0 p0 [v0_1]) (pb1 : Nat) (p1 : Int) (hA1 : At w0 pb1 0 ([vI p1])) (hB1 : Old w0 pb1) (r : Bool) (hF : XI p0 p1 = some r) :
  Calls Tryz.prog 121 [v0_1,(ptr pb1 0)].toArray w0 (Rt w0 (vT r)):=by
 refine ce Tryz.func121 ?_
 intro a hE
 have hM:=M.start w0
 unfold XI at hF
 refine Zc (Zb hE rfl fun a hE=>Ze (Zc (Zd hE rfl fun a hE=>ZL hE rfl Tryz.underlying22 (hM.rd hv0_1) fun a hE=>ZX (v:=(vI p1)) hE rfl ty3 rfl (hM.atk hA1 hB1) fun a hE=>Zk hE rfl rfl rfl fun a hE=>Zb hE rfl fun a hE=>Ze ?_)))
 obtain rfl:=Option.some.inj hF
 exact wp_ret (kr1 hE rfl rfl hM.kept)
def X2 (p0 : (List (List UInt8))) (p1 : Int) : Option (Bool) :=
 (if (decide ((p0.length : Int) ≤ 7)) = true then ((YF p0 (fun z0=>XI z0 p1)).bind fun r7=>some (!r7)) else (some false) : Option (Bool)).bind fun j3=>some j3
theorem K1 (w0 : World) (p0 : (List (List UInt8))) (v0_1 : Value) (hv0_1 : Ro w0 p0 [v0_1]) (p1 : Int) (r : Bool) (hF : X2 p0 p1 = some r) :
  Calls Tryz.prog 79 [v0_1,vI p1].toArray w0 (Rt w0 (vT r)):=by
 refine ce Tryz.func79 ?_
 intro a hE
 have hM:=M.start w0
 unfold X2 at hF
 refine Zc (KW (cs:=[vI p1]) hE hM Za ld rfl rfl fun b1 w a hM hE=>Zb hE rfl fun a hE=>Ze ?_)
 obtain ⟨j3,hl4,hF5⟩:=bind_some hF
 refine Zx (fun a w=>Env 14 a [(4,vT j3)] ∧ M (Old w0) w0 w []) ?_ ?_
 ·skip
  refine wp_region_lit (Zd hE rfl fun a hE=>ZL hE rfl Tryz.underlying57 (hM.rd hv0_1) fun a hE=>Zk hE rfl rfl rfl fun a hE=>Zd hE rfl ?_); intro a hE
  refine ZO (decide ((p0.length : Int) ≤ 7)) (fun hb6=>?_) (fun hb6=>?_)
  ·have hl4:=Zn hl4 hb6
   refine Zh hE (Zf hE rfl (lkb rfl hb6)) (by decide) rfl fun a hE=>A3 hE (Zf hE rfl (lkb rfl hb6)) (by decide) rfl ?_; intro a hE
   obtain ⟨r7,e8,hl4⟩:=bind_some hl4
   refine ZW hE (Zf hE rfl (lkb rfl hb6)) (by decide) rfl (cbm Tryz.func120) (T1 _ p0 v0_1 (hM.rdo hv0_1) (fun z0=>XI z0 p1) 121 [(ptr b1 0)] (cbm Tryz.func121) (fun w2 hk2 z0 zu0_0 zh0_0 zr zhr=>Kz w2 z0 zu0_0 zh0_0 b1 p1 (y7 hM.rawAt0 hk2 (by simp [cat])) (B4 hM.rawAt0 hk2 (by simp [cat])) zr zhr) r7 e8) ?_
   rintro v w a ⟨rfl,hK⟩ hE
   have hM:=hM.keep hK
   refine U5 hE (Zf hE rfl (lkb rfl hb6)) (by decide) rfl fun a hE=>ZB hE (lkb rfl hb6) rfl fun a hE=>Zb hE rfl fun a hE=>Zj ?_
   obtain rfl:=Option.some.inj hl4
   refine Zi ?_
   have hM:=M.fst (l:=[]) hM
   exact ⟨hE.sub ⟨rfl,trivial⟩,hM⟩
  ·have hl4:=Zo hl4 hb6
   refine Zg hE rfl (lkb rfl hb6) rfl (by decide) fun a hE=>Zg hE rfl (lkb rfl hb6) rfl (by decide) fun a hE=>Zg hE rfl (lkb rfl hb6) rfl (by decide) fun a hE=>Zg hE rfl (lkb rfl hb6) rfl (by decide) fun a hE=>Zy hE (lkb rfl hb6) rfl fun a hE=>Zb hE rfl fun a hE=>Zj ?_
   obtain rfl:=Option.some.inj hl4
   refine Zi ?_
   have hM:=M.fst (l:=[]) hM
   exact ⟨hE.sub ⟨rfl,trivial⟩,hM⟩
 ·skip
  rintro a w ⟨hE,hM⟩
  obtain rfl:=Option.some.inj hF5
  exact wp_ret (kr1 hE rfl rfl hM.kept)
-- value
/-! ### A range over slices.Backward: the polynomial's value -/
theorem Hg (p1 p2 : UInt8) : ∀ (k i : Nat) (acc : Int),i + k = 8 → ∃ t,ZH (Ye p1 p2) (acc,(i : Int)) = some t
 | 0,i,acc,h=>by
  have : i = 8:=by omega
  subst this
  exact ⟨acc,Yi (by unfold Ye; rfl)⟩
 | k + 1,i,acc,h=>by
  have h1 : decide ((i : Int) < 8) = true:=by simp only [decide_eq_true_eq]; omega
  have h2 : YI (i : Int) = some ():=by unfold YI; rw [if_pos (by omega)]
  have h3 : wr ((i : Int) + 1) = ((i + 1 : Nat) : Int):=by rw [YM (by omega)]; omega
  cases hc : (((BR p2 (i : Int)) &&& 1) == 1) with
  | true =>
   obtain ⟨t,ht⟩:=Hg p1 p2 k (i + 1) (K4 acc (TN (bI p1) (i : Int))) (by omega)
   refine ⟨t,?_⟩
   rw [Xr (s':=(K4 acc (TN (bI p1) (i : Int)),((i + 1 : Nat) : Int)))]
   ·exact ht
   ·unfold Ye
    simp only [h1,if_true,h2,Option.bind_some,hc,h3]
  | false =>
   obtain ⟨t,ht⟩:=Hg p1 p2 k (i + 1) acc (by omega)
   refine ⟨t,?_⟩
   rw [Xr (s':=(acc,((i + 1 : Nat) : Int)))]
   ·exact ht
   ·unfold Ye
    simp only [h1,if_true,h2,Option.bind_some,hc,Bool.false_eq_true,if_false,h3]
theorem BH (m : Int) : ∀ (k : Nat) (acc : Int),k ≤ 8 → ∃ t,ZH (XR m 8) (acc,(k : Int) + 7) = some t
 | 0,acc,_=>⟨acc,Yi (by unfold XR; rfl)⟩
 | k + 1,acc,h=>by
  have h1 : decide (((k + 1 : Nat) : Int) + 7 ≥ 8) = true:=by simp only [decide_eq_true_eq]; omega
  have h2 : YI (((k + 1 : Nat) : Int) + 7) = some ():=by unfold YI; rw [if_pos (by omega)]
  have h4 : wr ((((k + 1 : Nat) : Int) + 7) - 8) = (k : Int):=by rw [YM (by omega)]; omega
  have h5 : YI (k : Int) = some ():=by unfold YI; rw [if_pos (by omega)]
  have h3 : wr ((((k + 1 : Nat) : Int) + 7) - 1) = (k : Int) + 7:=by rw [YM (by omega)]; omega
  cases hc : ((B8 (YD acc (((k + 1 : Nat) : Int) + 7)) 1) == 1) with
  | true =>
   obtain ⟨t,ht⟩:=BH m k (K4 acc (TN m (k : Int))) (by omega)
   refine ⟨t,?_⟩
   rw [Xr (s':=(K4 acc (TN m (k : Int)),(k : Int) + 7))]
   ·exact ht
   ·unfold XR
    simp only [h1,if_true,h2,Option.bind_some,hc,h3,h4,h5]
  | false =>
   obtain ⟨t,ht⟩:=BH m k acc (by omega)
   refine ⟨t,?_⟩
   rw [Xr (s':=(acc,(k : Int) + 7))]
   ·exact ht
   ·unfold XR
    simp only [h1,if_true,h2,Option.bind_some,hc,Bool.false_eq_true,if_false,h3]
theorem qm (m : Int) (x y : UInt8) : ∃ r,ZM m x y = some r:=by
 obtain ⟨t,ht⟩:=Hg x y 8 0 0 rfl
 obtain ⟨u,hu⟩:=BH m 8 t (Nat.le_refl _)
 have ht' : ZH (Ye x y) (0,0) = some t:=ht
 have hu' : ZH (XR m 8) (t,15) = some u:=hu
 exact ⟨Yp u,by unfold ZM Uq; simp only [ht',hu',Option.bind_some]⟩
def AJ (m : Int) (x y : UInt8) : UInt8:=(ZM m x y).getD 0
theorem BW (m : Int) (x y : UInt8) : ZM m x y = some (AJ m x y):=by
 obtain ⟨r,hr⟩:=qm m x y
 unfold AJ; rw [hr]; rfl
def yc (m : Int) (x : UInt8) (out a : UInt8) : UInt8:=AJ m out x ^^^ a
def W9 (p0 : Int) (p1 : List UInt8) (p2 : UInt8) : Option UInt8:=if p1.length ≤ 140737488351232 then some (p1.reverse.foldl (yc p0 p2) 0) else none
section
open Go.RowKit Go.Shelf
attribute [local go_sem] Oper.semAt_some
/-- The iterator: for every loop body that keeps what lay below n₀. -/
theorem Zab (F : Fence) (n : Nat) (h7 : F.fn 150) (hro : F.round = none) (hn : 1 ≤ n) (l Bs n₀ b off cap : Nat) (zs : List UInt8) (hreach : zs.length ≤ 140737488351232) (hb : b < n₀) (J Jx : List (Int × UInt8) → World → Prop)
  (hY : ∀ pre x W,J pre W → pre.length < zs.length → YieldAt F (n - 1) Tryz.prog l #[.int .i64 x.1,.int .u8 x.2.toNat] W fun e W' =>
   (e = .returned (.bool true) ∧ J (pre ++ [x]) W' ∧ KpB n₀ Bs W W') ∨ (e = .returned (.bool false) ∧ Jx (pre ++ [x]) W'))
  (W : World) (hBs : W.cell? ⟨Bs,0,none⟩ = some (.slice (some ⟨b,off,none⟩) zs.length cap))
  (hc : ∀ j,j < zs.length → W.cell? ⟨b,off + j,none⟩ = some (.int .u8 (zs[j]?.getD 0).toNat)) (h0 : J [] W) :
  CallsIn F n Tryz.prog 150 #[.func (.yield l) #[] #[],.pointer (some ⟨Bs,0,none⟩)] W fun e W'=>(∃ v,e = .returned v) ∧
   ((∃ ys,ys = Ac (zp zs) zs.length ∧ J ys W') ∨ (∃ pre,Jx pre W')):=by
 refine callsIn_of_wp Tryz.func150 rfl h7 ?_ hro
 simp only [Tryz.ntmps150,List.size_toArray,List.length_cons,List.length_nil,Nat.reduceAdd,Nat.reduceSub,Array.replicate_succ,Array.replicate_zero,List.push_toArray,List.append_toArray,List.nil_append,List.cons_append]
 gi_wp2
 gi_loopw [3] (fun i wr=>∃ k : Nat,k ≤ zs.length ∧ i = .int .i64 ((zs.length : Int) - 1 - k) ∧ J (Ac (zp zs) k) wr ∧ KpB n₀ Bs W wr)
  (fun i _=>(intOf i + 1).toNat)
 case atStart=>exact ⟨0,Nat.zero_le _,by simp,h0,Below.refl _ _,rfl⟩
 case round =>
  obtain ⟨k,hk,rfl,hJs,hnx⟩:=hrel
  have hcx : k < zs.length → wr.cell? ⟨b,off + (zs.length - 1 - k),none⟩ = some (.int .u8 ((zs[zs.length - 1 - k]?.getD 0)).toNat):=fun h=>(hnx.1.cell (p:=⟨b,off + (zs.length - 1 - k),none⟩) hb).trans (hc _ (by omega))
  have hBs' : wr.cell? ⟨Bs,0,none⟩ = some (.slice (some ⟨b,off,none⟩) zs.length cap):=(World.cell?_of_block (w:=W) (a:=⟨Bs,0,none⟩) hnx.2).trans hBs
  by_cases hlt : k < zs.length
  ·obtain ⟨fn,tmps,assign,body,hy,hR⟩:=hY _ (zp zs k) wr hJs (by rw [jq]; exact hlt)
   have e1 : (zs.length : Int) - 1 - k = ((zs.length - 1 - k : Nat) : Int):=by omega
   have hcx':=hcx hlt
   simp only [zp] at hy
   rw [e1] at hy ⊢
   obtain ⟨j,hj⟩ : ∃ j,zs.length - 1 - k = j:=⟨_,rfl⟩
   have hjl : j < zs.length:=by omega
   rw [hj] at hy hcx' ⊢
   obtain ⟨x,hx⟩ : ∃ x,zs[j]?.getD 0 = x:=⟨_,rfl⟩
   rw [hx] at hy hcx'
   gi_wp2
   refine hR.mono ?_
   rintro e W3 (⟨rfl,hJ3,hk3⟩ | ⟨rfl,hJx3⟩)
   ·gi_wp2
    go_roundw
    case rel=>exact ⟨k + 1,by omega,by simp; omega,by rw [qk]; exact hJ3,hnx.trans hk3⟩
    case measure=>simp [intOf]
   ·gi_wp2
    refine bodyPost_ret (results_none rfl _ _ _) rfl ?_
    exact ⟨⟨_,rfl⟩,.inr ⟨_,hJx3⟩⟩
  ·obtain rfl : k = zs.length:=by omega
   have e1 : (zs.length : Int) - 1 - (zs.length : Int) = -1:=by omega
   rw [e1]
   gi_wp2
   go_end0
   exact ⟨⟨_,rfl⟩,.inl ⟨_,rfl,hJs⟩⟩
/-- .. at the nil slice,or one without elements: no round. -/
theorem Zbe (F : Fence) (n : Nat) (h7 : F.fn 150) (hro : F.round = none) (l Bs : Nat) (p : Option Addr) (cap : Nat) (J : List (Int × UInt8) → World → Prop) (W : World) (hBs : W.cell? ⟨Bs,0,none⟩ = some (.slice p 0 cap)) (h0 : J [] W) :
  CallsIn F n Tryz.prog 150 #[.func (.yield l) #[] #[],.pointer (some ⟨Bs,0,none⟩)] W fun e W'=>(∃ v,e = .returned v) ∧ J [] W':=by
 refine callsIn_of_wp Tryz.func150 rfl h7 ?_ hro
 simp only [Tryz.ntmps150,List.size_toArray,List.length_cons,List.length_nil,Nat.reduceAdd,Nat.reduceSub,Array.replicate_succ,Array.replicate_zero,List.push_toArray,List.append_toArray,List.nil_append,List.cons_append]
 gi_wp2
 gi_loopw [3] (fun i wr=>i = .int .i64 (-1) ∧ J [] wr) (fun _ _=>0)
 case atStart=>exact ⟨rfl,h0⟩
 case round =>
  obtain ⟨rfl,hJs⟩:=hrel
  gi_wp2
  go_end0
  exact ⟨⟨_,rfl⟩,hJs⟩
theorem Zb1 (F : Fence) (n : Nat) (h5 : F.fn 139) (hro : F.round = none) (a : Option Addr) (len cap : Nat) (w : World) :
  CallsIn F n Tryz.prog 139 #[.slice a len cap] w fun e w'=>e = .returned (.func (.func 150) #[] #[.pointer (some ⟨w.heap.size,0,none⟩)]) ∧ w' = w.alloc (.cells #[.slice a len cap] 22):=by
 refine callsIn_of_wp Tryz.func139 rfl h5 ?_ hro
 simp only [Tryz.ntmps139,List.size_toArray,List.length_cons,List.length_nil,Nat.reduceAdd,Nat.reduceSub,Array.replicate_succ,Array.replicate_zero,List.push_toArray,List.append_toArray,List.nil_append,List.cons_append]
 gi_wp2
 go_ret
 exact ⟨rfl,rfl⟩
theorem kd (F : Fence) (n : Nat) (h7 : F.fn 150) (hro : F.round = none) (hn : 1 ≤ n) (Bs n₀ : Nat) (p : Option Addr) (cap : Nat) (zs : List UInt8) (hreach : zs.length ≤ 140737488351232) (w : World) (hBs : Bs < w.heap.size) (hn₀ : n₀ ≤ w.heap.size)
  (hc : w.cell? ⟨Bs,0,none⟩ = some (.slice p zs.length cap)) (hI : Byts n₀ w p zs) :
  SeqStopsK F n Tryz.prog 150 #[.pointer (some ⟨Bs,0,none⟩)] (fun x : Int × UInt8=>#[Value.int .i64 x.1,Value.int .u8 x.2.toNat]) (KpB n₀ Bs) (fun ys=>ys = Ac (zp zs) zs.length)
   (fun _=>True) zs.length w:=fun l J Jx W hW _ _ hY h0=>by
 have hc':=(hW.cell (p:=⟨Bs,0,none⟩) hBs).trans hc
 rcases hI.below (hW.mono hn₀) with rfl | ⟨b,off,rfl,hb,hcs⟩
 ·exact (Zbe F n h7 hro l Bs p cap J W hc' h0).mono fun e W' ⟨he,hj⟩=>⟨he,.inl ⟨_,rfl,hj⟩⟩
 ·refine (Zab F n h7 hro hn l Bs n₀ b off cap zs hreach hb J Jx hY W hc' hcs h0).mono ?_
  rintro e W' ⟨he,⟨ys,rfl,hj⟩ | ⟨pre,hj⟩⟩
  ·exact ⟨he,.inl ⟨_,rfl,hj⟩⟩
  ·exact ⟨he,.inr ⟨_,trivial,hj⟩⟩
theorem Zbg (p0 : Int) (zs : List UInt8) (p2 : UInt8) (hreach : zs.length ≤ 140737488351232) (p : Option Addr) (cap : Nat) (w : World) (hI : Byts w.heap.size w p zs) :
  CallsIn Fence.wide 5 Tryz.prog 123 #[vI p0,.slice p zs.length cap,vB p2] w fun e W'=>e = .returned (vB (zs.reverse.foldl (yc p0 p2) 0)) ∧ Below w.heap.size w W':=by
 have h3 : Fence.wide.fn 123:=trivial
 have h5 : Fence.wide.fn 139:=trivial
 have h7 : Fence.wide.fn 150:=trivial
 refine callsIn_of_wp_marks Tryz.func123 rfl h3 ?_ rfl
 simp only [Tryz.ntmps123,List.size_toArray,List.length_cons,List.length_nil,Nat.reduceAdd,Nat.reduceSub,Array.replicate_succ,Array.replicate_zero,List.push_toArray,List.append_toArray,List.nil_append,List.cons_append]
 gi_wp2_with (gi_at_call 139; refine (Zb1 Fence.wide 4 h5 rfl _ _ _ _).mono ?_; rintro e w' ⟨rfl,rfl⟩)
 have bM:=Boxed.new w 78 (vI p0)
 have bX:=Boxed.new (w.alloc (.cells #[vI p0] 78)) 5 (vB p2)
 have bS:=Boxed.new ((w.alloc (.cells #[vI p0] 78)).alloc (.cells #[vB p2] 5)) 5 (.int .u8 0)
 have bN:=Boxed.new (((w.alloc (.cells #[vI p0] 78)).alloc (.cells #[vB p2] 5)).alloc (.cells #[.int .u8 0] 5)) 22 (.slice p zs.length cap)
 simp only [World.size_alloc] at bX bS bN
 have bM0:=((bM.alloc (.cells #[vB p2] 5)).alloc (.cells #[.int .u8 0] 5)).alloc (.cells #[.slice p zs.length cap] 22)
 have bX0:=(bX.alloc (.cells #[.int .u8 0] 5)).alloc (.cells #[.slice p zs.length cap] 22)
 have bS0:=bS.alloc (.cells #[.slice p zs.length cap] 22)
 have hB0 : Below w.heap.size w ((((w.alloc (.cells #[vI p0] 78)).alloc (.cells #[vB p2] 5)).alloc (.cells #[.int .u8 0] 5)).alloc (.cells #[.slice p zs.length cap] 22)):=((((Below.refl _ w).alloc (Nat.le_refl _) _).alloc (by simp) _).alloc (by simp; omega) _).alloc (by simp; omega) _
 have hsz : ((((w.alloc (.cells #[vI p0] 78)).alloc (.cells #[vB p2] 5)).alloc (.cells #[.int .u8 0] 5)).alloc (.cells #[.slice p zs.length cap] 22)).heap.size = w.heap.size + 4:=by simp
 obtain ⟨W0,hW0⟩ : ∃ W0,((((w.alloc (.cells #[vI p0] 78)).alloc (.cells #[vB p2] 5)).alloc (.cells #[.int .u8 0] 5)).alloc (.cells #[.slice p zs.length cap] 22)) = W0:=⟨_,rfl⟩
 rw [hW0] at bM0 bX0 bS0 bN hB0 hsz ⊢
 clear bM bX bS hW0
 refine wpIn_rangeFunc_ownG (F:=Fence.wide) (n:=5) rfl (by omega) (gf:=150) (lb:=#[.pointer (some ⟨w.heap.size + 1 + 1 + 1,0,none⟩)]) rfl h7 (enters_of Tryz.func150 (by kernel_rfl) rfl)
  (kd Fence.wide 4 h7 rfl (by omega) (w.heap.size + 1 + 1 + 1) w.heap.size p cap zs hreach W0 (by omega) (by omega) bN.cell (hI.below hB0)) (fun h k=>h.trans k)
  (fun W l o o' hl h ho hw=>⟨belowK_b (w:=W0) (by omega) W l o o' hl h ho hw,World.putObj_heap_other (by omega)⟩) (Below.refl _ _) (fun _=>rfl)
  (fun pre W=>(W.cell? ⟨w.heap.size,0,none⟩ = some (vI p0) ∧ W.cell? ⟨w.heap.size + 1,0,none⟩ = some (vB p2) ∧ Boxed W (w.heap.size + 1 + 1) 5 (vB ((pre.map (·.2)).foldl (yc p0 p2) 0)) ∧ w.heap.size + 4 ≤ W.heap.size) ∧ Below w.heap.size w W)
  (fun _ _ _=>False)
  (OwnFrom.and (Own.from (fun s A B row hs hg hr=>⟨cell_kept hs.1 hg hr,cell_kept hs.2.1 hg hr,hs.2.2.1.kept hg (fun e=>by obtain ⟨o,ho,hc⟩:=hr _ e.symm; rw [show A.heap[w.heap.size + 1 + 1]? = _ from hs.2.2.1] at ho; cases ho; cases hc),Nat.le_trans hs.2.2.2 hg.size⟩) _) (ownFrom_below (Nat.le_refl _) (by omega)))
  (fun _ _ _ _ _ hs _ _=>hs)
  ⟨⟨bM0.cell,bX0.cell,bS0,by omega⟩,hB0⟩
  (fun x=>{ tmps:=#[vI p0,.slice p zs.length cap,vB p2,.pointer (some ⟨w.heap.size,0,none⟩),undef,.pointer (some ⟨w.heap.size + 1,0,none⟩),.int .u8 0,.pointer (some ⟨w.heap.size + 1 + 1,0,none⟩),undef,vB x.2,.slice p zs.length cap,.func (.func 150) #[] #[.pointer (some ⟨w.heap.size + 1 + 1 + 1,0,none⟩)],.int .i64 x.1,vB x.2,undef,undef,undef,undef,undef,undef,undef],defers:=[] }) ?assign ?body ?done ?stop
 case assign =>
  intro l x W K hK
  gi_wp2
  exact hK
 case body =>
  rintro l pre x W ⟨⟨hm,hx,ho,hw4⟩,hB⟩ _
  have hout:=ho.cell
  generalize hacc : (pre.map (·.2)).foldl (yc p0 p2) 0 = acc at ho hout
  have hcall:=CallsIn.inRound l (n:=2) (callsIn_wide.2 (Z5 W p0 acc p2 _ (BW p0 acc p2)))
  gi_wp2_with (refine ⟨trivial,?_⟩; gi_at_call 55; refine hcall.mono ?_; rintro e W1 ⟨v,rfl,rfl,hk⟩; have ho1 : Boxed W1 (w.heap.size + 1 + 1) 5 (vB acc):=(hk.block _ ho.lt).trans ho; have hc1:=ho1.cell; have hf1:=ho1.frozen)
  have hxr : ∀ a b : UInt8,Value.int .u8 (bits .xor .u8 a.toNat b.toNat) = vB (a ^^^ b):=fun a b=>Option.some.inj (Ur a b)
  have hB1:=KeptB hk hB.size
  have hlt:=ho.lt
  have hle : w.heap.size ≤ w.heap.size + 1 + 1:=by omega
  refine ⟨(KeptF hk _).trans ((KeepsOthers.setCell _ _ _).from _),⟨hB1.setCell (p:=⟨w.heap.size + 1 + 1,0,none⟩) hle _,?_⟩,⟨?_,?_,?_,?_⟩,(hB.trans hB1).setCell (p:=⟨w.heap.size + 1 + 1,0,none⟩) hle _⟩
  ·refine (Below.heap_setCell _ _ _ _ (by show _ ≠ w.heap.size + 1 + 1; omega)).trans ?_
   exact hk.block _ (show w.heap.size + 1 + 1 + 1 < W.heap.size by omega)
  ·rw [World.cell?_setCell_other _ _ _ _ (by simp)]
   exact (cell?_of_heap (hk.block _ (show w.heap.size < W.heap.size by omega)) 0).trans hm
  ·rw [World.cell?_setCell_other _ _ _ _ (by simp)]
   exact (cell?_of_heap (hk.block _ (show w.heap.size + 1 < W.heap.size by omega)) 0).trans hx
  ·rw [List.map_append,List.foldl_append,hacc]
   have:=ho1.set (.int .u8 (bits .xor .u8 (AJ p0 acc p2).toNat x.2.toNat))
   rw [hxr] at this ⊢
   exact this
  ·have:=hk.size
   simp only [World.setCell,Array.size_modify]
   omega
 case done =>
  rintro D ys W hD rfl ⟨⟨hm,hx,ho,hw4⟩,hB⟩ hK
  rw [qB] at ho
  generalize hacc : zs.reverse.foldl (yc p0 p2) 0 = acc at ho
  have hout:=ho.cell
  gi_wp2
  refine ⟨by simp,.inl ⟨_,_,rfl,run_takeDeferred hK,?_⟩⟩
  exact ⟨_,results_tmp rfl _ _ _,by rw [hacc]; rfl,hB.trans (belowK_b (w:=w) (Nat.le_refl _) W D _ _ (by omega) hK rfl rfl)⟩
 case stop =>
  rintro D c pre W _ _ h _
  exact h.elim
end
theorem He (w0 : World) (p0 : Int) (p1 : (List UInt8)) (v1_1 : Value) (hv1_1 : Ro w0 p1 [v1_1]) (p2 : UInt8) (r : UInt8) (hF : W9 p0 p1 p2 = some r) :
  Calls Tryz.prog 123 [vI p0,v1_1,vB p2].toArray w0 (Rt w0 (vB r)):=by
 unfold W9 at hF
 split at hF
 ·rename_i hl
  obtain rfl:=Option.some.inj hF
  obtain ⟨p,cap,rfl,hI⟩:=Zck hv1_1
  refine Calls.mono (callsIn_wide.1 (Zbg p0 p1 p2 hl p cap w0 hI)) ?_
  rintro e W' ⟨rfl,hB⟩
  exact ⟨_,rfl,rfl,hB.os,hB.tape,hB.output,hB.size,hB.block⟩
 ·cases hF
def XU (p2 : (List (List UInt8))) (s25 : (List UInt8) × Int) (s43 : (List UInt8) × Int) : Option (Fl ((List UInt8) × Int) (List UInt8)) :=
 if (decide (s43.2 < (p2.length : Int))) = true then ((idx p2 s43.2).bind fun x50=>(idx x50 s25.2).bind fun x58=>(app 1 s43.1 ([x58] : List UInt8)).bind fun l63=>some (Fl.nx ((s43.1 ++ ([x58] : List UInt8)),wr (s43.2 + 1)))) else (some (Fl.ex s43.1))
def XS (p0 : Int) (p1 : (List UInt8)) (p2 : (List (List UInt8))) (x15 : UInt8) (s25 : (List UInt8) × Int) : Option (Fl ((List UInt8) × Int) (List UInt8)) :=
 if (decide (s25.2 < (p1.length : Int))) = true then ((idx p1 s25.2).bind fun x33=>(ZH (XU p2 s25) (([x33] : List UInt8),0)).bind fun j38=>(W9 p0 j38 x15).bind fun r70=>(app 1 s25.1 ([r70] : List UInt8)).bind fun l74=>some (Fl.nx ((s25.1 ++ ([r70] : List UInt8)),wr (s25.2 + 1)))) else (some (Fl.ex s25.1))
def XT (p0 : Int) (p1 : (List UInt8)) (p2 : (List (List UInt8))) (p3 : (List UInt8)) (s8 : Int × (List GShare)) : Option (Fl (Int × (List GShare)) (List GShare)) :=
 if (decide (s8.1 < (p3.length : Int))) = true then ((idx p3 s8.1).bind fun x15=>(ZH (XS p0 p1 p2 x15) ([],0)).bind fun j20=>(app 32 s8.2 ([(⟨x15,j20⟩ : GShare)] : List GShare)).bind fun l82=>some (Fl.nx (wr (s8.1 + 1),(s8.2 ++ ([(⟨x15,j20⟩ : GShare)] : List GShare))))) else (some (Fl.ex s8.2))
def W7 (p0 : Int) (p1 : (List UInt8)) (p2 : (List (List UInt8))) (p3 : (List UInt8)) : Option ((List GShare)) :=
 (ZH (XT p0 p1 p2 p3) (0,([] : List GShare))).bind fun j3=>some j3
theorem Ht (w0 : World) (p0 : Int) (p1 : (List UInt8)) (v1_1 : Value) (hv1_1 : Ro w0 p1 [v1_1]) (p2 : (List (List UInt8))) (v2_1 : Value) (hv2_1 : Ro w0 p2 [v2_1]) (p3 : (List UInt8)) (v3_1 : Value) (hv3_1 : Ro w0 p3 [v3_1]) (r : (List GShare)) (hF : W7 p0 p1 p2 p3 = some r) :
  Calls Tryz.prog 81 [vI p0,v1_1,v2_1,v3_1].toArray w0 (fun en w'=>∃ v,en = .returned v ∧ (∃ (y1 : Value),v = y1 ∧ Fr w0 w' [osl NoB (r : List GShare) y1] ∧ Kept (Old w0) w0 w')):=by
 refine ce Tryz.func81 ?_
 intro a hE
 have hM:=M.start w0
 unfold W7 at hF
 refine Zc (Zb hE rfl fun a hE=>Ze (Zc (TE (xs:=[]) (S:=NoB) (l:=([] : List GShare)) (vs:=[]) hE hM.emp noB Za ld rfl rfl rfl Tryz.underlying24 ZN rfl (by decide) (fun _ h=>⟨rfl,h⟩) (fun _ h=>by cases h) fun u1 w a hM hE=>Zb hE rfl fun a hE=>Ze (wp_seq (Zc (Zd hE rfl fun a hE=>ZL hE rfl Tryz.underlying22 (hM.rd hv3_1) fun a hE=>Zd hE rfl fun a hE=>Ze ?_))))))
 obtain ⟨j3,hl4,hF5⟩:=bind_some hF
 refine ZP (fun a w=>∃ (u6 : Value),Env 66 a [(9,u6)] ∧ M (Old w0) w0 w [osl NoB (j3 : List GShare) u6]) ?_ ?_
 ·skip
  refine wp_block ?_
  refine ZK (fun (s8 : Int × (List GShare)) a w=>∃ (u9 : Value),Env 66 a [(0,vI p0),(1,v1_1),(2,v2_1),(9,u9),(19,v3_1),(20,(vI (p3.length : Int))),(21,vI s8.1)] ∧ M (Old w0) w0 w [osl NoB (s8.2 : List GShare) u9]) hl4 ⟨u1,hE.sub ⟨rfl,rfl,rfl,rfl,rfl,rfl,rfl,trivial⟩,hM⟩ ?_
  rintro s8 a w ⟨u9,hE,hM⟩ o13 hs11 hx12
  unfold XT at hs11
  refine Zc (Zk hE rfl rfl rfl fun a hE=>Ze (wp_seq ?_))
  refine Zm hE rfl ?_ ?_
  ·intro hb14
   have hs11:=Zn hs11 hb14
   refine wp_skip (Zu (wp_seq (wp_block (Zc ?_))))
   obtain ⟨x15,hi17,hs11⟩:=bix hs11
   refine ZG hE rfl rfl Tryz.underlying22 ty5 (hM.rd hv3_1) hi17.1 fun a hE=>ZX (v:=(vB x15)) hE rfl ty5 rfl (ZS (hM.rd hv3_1) hi17.2) fun a hE=>Zb hE rfl fun a hE=>Ze (Zc (Zd hE rfl fun a hE=>YY (parts:=[(0,.tmp 25)]) (vs:=[(0,vB x15)]) (cs:=cat [[vB x15],[(Value.slice none 0 0)]]) hE Za ld rfl rfl ZN Hu (YK (pre:=[]) (seg:=[vB 0]) (seg':=[vB x15]) (post:=[[(Value.slice none 0 0)]]) rfl cl0 rfl rfl rfl Wy) fun a hE=>UP hE hM ZN fun b18 w a hM hE=>Xs (seg:=cat [[vB x15],[(Value.slice none 0 0)]]) (cs':=cat [[vB x15],[(Value.slice none 0 0)]]) hE hM Za rfl rfl rfl ZN cq (Nat.le_of_eq ((Nat.zero_add _).trans (Eq.trans cq (Eq.symm cq)))) (Wu (cc1 (Flat.cell (x15 : UInt8)) (cc1 JH cc0))) (ZZ (Eq.trans cq (Eq.symm cq))) fun w a hM hE=>Ze (wp_seq (Zc (Zd hE rfl fun a hE=>ZL hE rfl Tryz.underlying22 (hM.rd hv1_1) fun a hE=>Zd hE rfl fun a hE=>Ze ?_)))))
   obtain ⟨j20,hl21,hF22⟩:=bind_some hs11
   refine ZP (fun a w=>∃ (u23 : Value),Env 66 a [(0,vI p0),(1,v1_1),(2,v2_1),(9,u9),(12,(ptr b18 0)),(19,v3_1),(20,(vI (p3.length : Int))),(21,vI s8.1)] ∧ M (Old w0) w0 w [raw b18 (cat [[vB x15],[u23]]),osl NoB (s8.2 : List GShare) u9,osl NoB (j20 : List UInt8) u23]) ?_ ?_
   ·skip
    refine wp_block ?_
    have hM:=((M.nilS (α:=UInt8) NoB noB hM).pull2).pull2
    refine ZK (fun (s25 : (List UInt8) × Int) a w=>∃ (u26 : Value),Env 66 a [(0,vI p0),(1,v1_1),(2,v2_1),(9,u9),(11,vB x15),(12,(ptr b18 0)),(19,v3_1),(20,(vI (p3.length : Int))),(21,vI s8.1),(27,v1_1),(28,(vI (p1.length : Int))),(29,vI s25.2)] ∧ M (Old w0) w0 w [raw b18 (cat [[vB x15],[u26]]),osl NoB (s8.2 : List GShare) u9,osl NoB (s25.1 : List UInt8) u26]) hl21 ⟨(Value.slice none 0 0),hE.sub ⟨rfl,rfl,rfl,rfl,rfl,rfl,rfl,rfl,rfl,rfl,rfl,rfl,trivial⟩,hM⟩ ?_
    rintro s25 a w ⟨u26,hE,hM⟩ o30 hs28 hx29
    unfold XS at hs28
    refine Zc (Zk hE rfl rfl rfl fun a hE=>Ze (wp_seq ?_))
    refine Zm hE rfl ?_ ?_
    ·intro hb32
     have hs28:=Zn hs28 hb32
     refine wp_skip (Zu (wp_seq (wp_block (Zc (Zd hE rfl ?_))))); intro a hE
     obtain ⟨x33,hi35,hs28⟩:=bix hs28
     refine ZG hE rfl rfl Tryz.underlying22 ty5 (hM.rd hv1_1) hi35.1 fun a hE=>ZX (v:=(vB x33)) hE rfl ty5 rfl (ZS (hM.rd hv1_1) hi35.2) fun a hE=>Zb hE rfl fun a hE=>Zb hE rfl fun a hE=>Ze (Zc (Zd hE rfl fun a hE=>ZD (xs:=[.tmp 34]) (l:=([x33] : List UInt8)) (vs:=[vB x33]) hE hM Za ld rfl rfl Tryz.underlying22 ty5 rfl (by decide) rfl fun u36 w a hM hE=>Zb hE rfl fun a hE=>Ze (wp_seq (Zc (Zd hE rfl fun a hE=>ZL hE rfl Tryz.underlying57 (hM.rd hv2_1) fun a hE=>Zd hE rfl fun a hE=>Ze ?_)))))
     obtain ⟨j38,hl39,hF40⟩:=bind_some hs28
     refine ZP (fun a w=>∃ (u41 : Value),Env 66 a [(0,vI p0),(1,v1_1),(2,v2_1),(9,u9),(11,vB x15),(12,(ptr b18 0)),(15,u41),(19,v3_1),(20,(vI (p3.length : Int))),(21,vI s8.1),(27,v1_1),(28,(vI (p1.length : Int))),(29,vI s25.2)] ∧ M (Old w0) w0 w [raw b18 (cat [[vB x15],[u26]]),osl NoB (s8.2 : List GShare) u9,osl NoB (s25.1 : List UInt8) u26,osl NoB (j38 : List UInt8) u41]) ?_ ?_
     ·skip
      refine wp_block ?_
      have hM:=hM.pull3.pull3.pull3
      refine ZK (fun (s43 : (List UInt8) × Int) a w=>∃ (u44 : Value),Env 66 a [(0,vI p0),(1,v1_1),(2,v2_1),(9,u9),(11,vB x15),(12,(ptr b18 0)),(13,vI s25.2),(15,u44),(19,v3_1),(20,(vI (p3.length : Int))),(21,vI s8.1),(27,v1_1),(28,(vI (p1.length : Int))),(29,vI s25.2),(36,v2_1),(37,(vI (p2.length : Int))),(38,vI s43.2)] ∧ M (Old w0) w0 w [raw b18 (cat [[vB x15],[u26]]),osl NoB (s8.2 : List GShare) u9,osl NoB (s25.1 : List UInt8) u26,osl NoB (s43.1 : List UInt8) u44]) hl39 ⟨u36,hE.sub ⟨rfl,rfl,rfl,rfl,rfl,rfl,rfl,rfl,rfl,rfl,rfl,rfl,rfl,rfl,rfl,rfl,rfl,trivial⟩,hM⟩ ?_
      rintro s43 a w ⟨u44,hE,hM⟩ o48 hs46 hx47
      unfold XU at hs46
      refine Zc (Zk hE rfl rfl rfl fun a hE=>Ze (wp_seq ?_))
      refine Zm hE rfl ?_ ?_
      ·intro hb49
       have hs46:=Zn hs46 hb49
       refine wp_skip (Zu (wp_seq (wp_block (Zc ?_))))
       obtain ⟨x50,hi52,hs46⟩:=bix hs46
       refine ZG hE rfl rfl Tryz.underlying57 YS (hM.rd hv2_1) hi52.1 ?_; intro a hE
       obtain ⟨cs53,hs54,hA55⟩:=Z3 hv2_1 hi52.2 -- ^
       obtain ⟨u56,rfl⟩:=Qd hs54 -- ^
       have h57:=hs54 -- ^
       refine ZX (v:=u56) hE rfl YS rfl (hM.atk hA55 (Yr hv2_1 hi52.2)) fun a hE=>Zb hE rfl fun a hE=>Ze (wp_region_lit (Zd hE rfl fun a hE=>Zd hE rfl fun a hE=>Zd hE rfl ?_)); intro a hE
       obtain ⟨x58,hi60,hs46⟩:=bix hs46
       refine ZG hE rfl rfl Tryz.underlying22 ty5 (hM.rd h57) hi60.1 fun a hE=>ZX (v:=(vB x58)) hE rfl ty5 rfl (ZS (hM.rd h57) hi60.2) fun a hE=>ZD (xs:=[.tmp 46]) (l:=([x58] : List UInt8)) (vs:=[vB x58]) hE hM Za ld rfl rfl Tryz.underlying22 ty5 rfl (by decide) rfl ?_; intro u61 w a hM hE
       obtain ⟨l63,e64,hs46⟩:=bind_some hs46
       obtain ⟨e67,rfl⟩:=ZY e64
       have hM:=hM.pull4
       refine Z9 hE hM Za ld rfl rfl (hM.sl (pre:=[_]) noB) Tryz.underlying22 ty5 rfl (by decide) e67 fun u65 w a hM hE=>Zb hE rfl fun a hE=>Zj (Yg (Zu (wp_region_lit (Zk hE rfl rfl rfl fun a hE=>Zd hE rfl fun a hE=>Zj (Zi ?_)))))
       have hM:=M.fst (l:=[_,_,_,_]) hM.pull4.pull4.pull4
       exact ⟨_,(ois hs46),u65,hE.sub ⟨rfl,rfl,rfl,rfl,rfl,rfl,rfl,rfl,rfl,rfl,rfl,rfl,rfl,rfl,rfl,rfl,rfl,trivial⟩,hM⟩
      ·intro hb49
       have hs46:=Zo hs46 hb49
       refine wp_exit (Zs (Zs (Ys ?_)))
       obtain rfl:=hx47 _ (ois hs46)
       refine Zi ?_
       exact ⟨u44,hE.sub ⟨rfl,rfl,rfl,rfl,rfl,rfl,rfl,rfl,rfl,rfl,rfl,rfl,rfl,trivial⟩,hM⟩
     ·skip
      rintro a w ⟨u41,hE,hM⟩
      refine Zu ?_
      obtain ⟨r70,e71,hF40⟩:=bind_some hF40
      refine Wo (its:=[raw b18 (cat [[vB x15],[u26]]),osl NoB (s8.2 : List GShare) u9,osl NoB (s25.1 : List UInt8) u26,osl NoB (j38 : List UInt8) u41]) (mk:=([mkO 6 (fun v=>osl NoB (([r70] : List UInt8) : List UInt8) v)] : Mk)) [50,51,52,53,54,55,56] Wb rfl rfl (by decide) rfl hE (fun u=>M.qE (M.q0 hM.drew u) emO) (qsP (fun z=>Zv z.E Za ld rfl (Yj) (kr0 rfl)) (qsP (fun z=>ZE (v:=u26) z.E Za ld rfl YS rfl (At.cat (pre:=[[vB x15]]) (z.M.rawAt0) ck) (kr0 rfl)) (qsP (fun z=>Zh z.E Za ld rfl (kr0 rfl)) (qsP (fun z=>Zh z.E Za ld rfl (kr0 rfl)) (qsP (fun z=>Zh z.E Za ld rfl (kr0 rfl)) (qsP (fun z=>ZW z.E Za ld rfl (cbm Tryz.func123) (He _ p0 j38 u41 (z.M.sl (pre:=[_,_,_]) noB) x15 r70 e71) (kc rfl)) (qsM (pr:=fun v=>True) ?_ qs0))))))) ?_
      ·intro a w ux69 D z
       have hE:=z.E
       have hD : D 6 = false:=z.F
       have hM:=z.M
       exact ZD (xs:=[.tmp 55]) (l:=([r70] : List UInt8)) (vs:=[vB r70]) hE hM Za ld rfl rfl Tryz.underlying22 ty5 rfl (by decide) rfl fun u72 w a hM hE=>⟨_,_,rfl,hE,M.qFill (mk1:=[]) (mk2:=[]) (f:=(fun v=>osl NoB (([r70] : List UInt8) : List UInt8) v)) hM rfl hD,trivial⟩
      ·intro a w ux69 D hE hM hG hall
       have d6:=hall 6 (by decide)
       have hM:=hM.sure (pre:=[_,_,_,_]) d6
       obtain ⟨l74,e75,hF40⟩:=bind_some hF40
       obtain ⟨e78,rfl⟩:=ZY e75
       have hM:=hM.pull2
       refine Z9 hE hM Za ld rfl rfl (hM.sl (pre:=[_,_,_,_]) noB) Tryz.underlying22 ty5 rfl (by decide) e78 fun u76 w a hM hE=>ZI hE rfl (Yj) ?_; intro a hE
       have hM:=hM.pull1
       refine Xs (seg:=[u76]) hE hM Za rfl rfl (Y2 (hM.sl (pre:=[_]) noB)) YS rfl (Th (pre:=[[vB x15]]) ck rfl) (Rep.cell (hM.sl (pre:=[_]) noB)) (Wj (pre:=[[vB x15]]) ck rfl) fun w a hM hE=>Zj (Yg (Zu (wp_region_lit (Zk hE rfl rfl rfl fun a hE=>Zd hE rfl fun a hE=>Zj (Zi ?_)))))
       have hM:=M.fst (l:=[_,_,_]) hM.pull1.pull2.pull2
       exact ⟨_,(ois hF40),u76,hE.sub ⟨rfl,rfl,rfl,rfl,rfl,rfl,rfl,rfl,rfl,rfl,rfl,rfl,trivial⟩,hM⟩
    ·intro hb32
     have hs28:=Zo hs28 hb32
     refine wp_exit (Zs (Zs (Ys ?_)))
     obtain rfl:=hx29 _ (ois hs28)
     refine Zi ?_
     exact ⟨u26,hE.sub ⟨rfl,rfl,rfl,rfl,rfl,rfl,rfl,rfl,trivial⟩,hM⟩
   ·skip
    rintro a w ⟨u23,hE,hM⟩
    refine Zu (wp_region_lit (Zd hE rfl fun a hE=>WR hE rfl ZN rfl hM.rawAt0 cq ?_)); intro a hE
    have hM:=hM.pull2
    have hM:=hM.pack1 (it:=own NoB (⟨x15,j20⟩ : GShare) (cat [[vB x15],[u23]])) (VS noB) (fun f0 q0=>(W2 (X5.sat q0) (by simp)))
    refine V0 (xs:=[.tmp 61]) (seg:=cat [[vB x15],[u23]]) hE hM noB Za ld rfl rfl Tryz.underlying24 ZN rfl (by decide) ?_; intro u80 w a hM hE
    obtain ⟨l82,e83,hF22⟩:=bind_some hF22
    obtain ⟨e86,rfl⟩:=ZY e83
    have hM:=hM.pull2
    refine UM hE hM noB Za ld rfl rfl Tryz.underlying24 ZN rfl (by decide) e86 fun u84 w a hM hE=>Zb hE rfl fun a hE=>Zj (Yg (Zu (wp_region_lit (Zk hE rfl rfl rfl fun a hE=>Zd hE rfl fun a hE=>Zj (Zi ?_)))))
    have hM:=M.fst (l:=[_]) hM
    exact ⟨_,(ois hF22),u84,hE.sub ⟨rfl,rfl,rfl,rfl,rfl,rfl,rfl,trivial⟩,hM⟩
  ·intro hb14
   have hs11:=Zo hs11 hb14
   refine wp_exit (Zs (Zs (Ys ?_)))
   obtain rfl:=hx12 _ (ois hs11)
   refine Zi ?_
   exact ⟨u9,hE.sub ⟨rfl,trivial⟩,hM⟩
 ·skip
  rintro a w ⟨u6,hE,hM⟩
  refine Zu (Zc (Zd hE rfl fun a hE=>Zb hE rfl fun a hE=>Ze ?_))
  obtain rfl:=Option.some.inj hF5
  exact wp_ret (Yb hE rfl (Zl hE rfl) ⟨_,rfl,u6,rfl,hM.outF (Z8 Yd),hM.kept⟩)
def Xx (p0 : (List UInt8)) : Option ((List UInt8)) :=
 (app 1 ([] : List UInt8) p0).bind fun l7=>some (([] : List UInt8) ++ p0)
theorem Ka (w0 : World) (p0 : (List UInt8)) (v0_1 : Value) (hv0_1 : Ro w0 p0 [v0_1]) (r : (List UInt8)) (hF : Xx p0 = some r) :
  Calls Tryz.prog 122 [v0_1].toArray w0 (fun en w'=>∃ v,en = .returned v ∧ (∃ (y1 : Value),v = y1 ∧ Fr w0 w' [osl NoB (r : List UInt8) y1] ∧ Kept (Old w0) w0 w')):=by
 refine ce Tryz.func122 ?_
 intro a hE
 have hM:=M.start w0
 unfold Xx at hF
 refine Zc (Zb hE rfl fun a hE=>Ze (wp_seq (Zc (Zd hE rfl fun a hE=>Zbw hE Za ld rfl rfl Tryz.underlying22 (hM.rd hv0_1) fun bn1 a hn2 hE=>Ze ?_))))
 refine Zm hE rfl ?_ ?_
 ·intro hb3
  have h0:=hn2 hb3
  have hF : some ([]) = some r:=by rw [h0] at hF; simpa [app] using hF
  refine Zc (Zb hE rfl fun a hE=>Ze ?_)
  have hM:=M.nilS (α:=UInt8) NoB noB hM
  obtain rfl:=Option.some.inj hF
  exact wp_ret (Zr (Yb hE rfl (Zl hE rfl) ⟨_,rfl,(Value.slice none 0 0),rfl,hM.outF (Z8 Yd),hM.kept⟩))
 ·intro hb3
  refine wp_skip (Zu (Zc (ZD (xs:=[]) (l:=([] : List UInt8)) (vs:=[]) hE hM Za ld rfl rfl Tryz.underlying22 ty5 rfl (by decide) rfl fun u5 w a hM hE=>Zd hE rfl ?_))); intro a hE
  obtain ⟨l7,e8,hF⟩:=bind_some hF
  have e11:=(ZY e8).1
  refine Z9 hE hM Za ld rfl rfl (hM.rd hv0_1) Tryz.underlying22 ty5 rfl (by decide) e11 fun u9 w a hM hE=>Zb hE rfl fun a hE=>Ze ?_
  obtain rfl:=Option.some.inj hF
  exact wp_ret (Yb hE rfl (Zl hE rfl) ⟨_,rfl,u9,rfl,hM.outF (Z8 Yd),hM.kept⟩)
def UL (p1 : (List GShare)) (s8 : Int × (List GShare)) (r25 : (List UInt8)) (s33 : Int × (List UInt8)) : Option (Fl (Int × (List UInt8)) (List UInt8)) :=
 if (decide (s33.1 < (r25.length : Int))) = true then ((idx s33.2 s33.1).bind fun x41=>(idx p1 s8.1).bind fun x44=>(idx x44.Data s33.1).bind fun x52=>(idx s33.2 s33.1).bind fun x55=>some (Fl.nx (wr (s33.1 + 1),(s33.2.set (s33.1).toNat (x41 ^^^ x52))))) else (some (Fl.ex s33.2))
def UK (p0 : (List GShare)) (p1 : (List GShare)) (s8 : Int × (List GShare)) : Option (Fl (Int × (List GShare)) (List GShare)) :=
 if (decide (s8.1 < (p0.length : Int))) = true then ((idx p0 s8.1).bind fun x15=>(Xx x15.Data).bind fun r25=>(ZH (UL p1 s8 r25) (0,r25)).bind fun j28=>(app 32 s8.2 ([(⟨x15.Place,j28⟩ : GShare)] : List GShare)).bind fun l61=>some (Fl.nx (wr (s8.1 + 1),(s8.2 ++ ([(⟨x15.Place,j28⟩ : GShare)] : List GShare))))) else (some (Fl.ex s8.2))
def U8 (p0 : (List GShare)) (p1 : (List GShare)) : Option ((List GShare)) :=
 (ZH (UK p0 p1) (0,([] : List GShare))).bind fun j3=>some j3
theorem HE (w0 : World) (p0 : (List GShare)) (v0_1 : Value) (hv0_1 : Ro w0 p0 [v0_1]) (p1 : (List GShare)) (v1_1 : Value) (hv1_1 : Ro w0 p1 [v1_1]) (r : (List GShare)) (hF : U8 p0 p1 = some r) :
  Calls Tryz.prog 80 [v0_1,v1_1].toArray w0 (fun en w'=>∃ v,en = .returned v ∧ (∃ (y1 : Value),v = y1 ∧ Fr w0 w' [osl NoB (r : List GShare) y1] ∧ Kept (Old w0) w0 w')):=by
 refine ce Tryz.func80 ?_
 intro a hE
 have hM:=M.start w0
 unfold U8 at hF
 refine Zc (Zb hE rfl fun a hE=>Ze (Zc (TE (xs:=[]) (S:=NoB) (l:=([] : List GShare)) (vs:=[]) hE hM.emp noB Za ld rfl rfl rfl Tryz.underlying24 ZN rfl (by decide) (fun _ h=>⟨rfl,h⟩) (fun _ h=>by cases h) fun u1 w a hM hE=>Zb hE rfl fun a hE=>Ze (wp_seq (Zc (Zd hE rfl fun a hE=>ZL hE rfl Tryz.underlying24 (hM.rd hv0_1) fun a hE=>Zd hE rfl fun a hE=>Ze ?_))))))
 obtain ⟨j3,hl4,hF5⟩:=bind_some hF
 refine ZP (fun a w=>∃ (u6 : Value),Env 50 a [(5,u6)] ∧ M (Old w0) w0 w [osl NoB (j3 : List GShare) u6]) ?_ ?_
 ·skip
  refine wp_block ?_
  refine ZK (fun (s8 : Int × (List GShare)) a w=>∃ (u9 : Value),Env 50 a [(1,v1_1),(5,u9),(11,v0_1),(12,(vI (p0.length : Int))),(13,vI s8.1)] ∧ M (Old w0) w0 w [osl NoB (s8.2 : List GShare) u9]) hl4 ⟨u1,hE.sub ⟨rfl,rfl,rfl,rfl,rfl,trivial⟩,hM⟩ ?_
  rintro s8 a w ⟨u9,hE,hM⟩ o13 hs11 hx12
  unfold UK at hs11
  refine Zc (Zk hE rfl rfl rfl fun a hE=>Ze (wp_seq ?_))
  refine Zm hE rfl ?_ ?_
  ·intro hb14
   have hs11:=Zn hs11 hb14
   refine wp_skip (Zu (wp_seq (wp_block (Zc (Zd hE rfl ?_))))); intro a hE
   obtain ⟨x15,hi17,hs11⟩:=bix hs11
   refine ZG hE rfl rfl Tryz.underlying24 ZN (hM.rd hv0_1) hi17.1 ?_; intro a hE
   obtain ⟨cs18,hs19,hA20⟩:=Z3 hv0_1 hi17.2 -- ^
   obtain ⟨u21,rfl,h22⟩:=ZQ hs19 -- ^
   refine WR hE rfl ZN rfl (hM.atk hA20 (Yr hv0_1 hi17.2)) cq fun a hE=>UP hE hM ZN fun b23 w a hM hE=>Zb hE rfl fun a hE=>Xs (seg:=cat [[vB x15.Place],[u21]]) (cs':=cat [[vB x15.Place],[u21]]) hE hM Za rfl rfl rfl ZN cq (Nat.le_of_eq ((Nat.zero_add _).trans (Eq.trans cq (Eq.symm cq)))) (Wu (cc1 (Flat.cell (x15.Place : UInt8)) (cc1 (Rep.cell (hM.rd h22)) cc0))) (ZZ (Eq.trans cq (Eq.symm cq))) fun w a hM hE=>Ze (Zc (ZI hE rfl (Yj) fun a hE=>ZX (v:=u21) hE rfl YS rfl (At.cat (pre:=[[vB x15.Place]]) hM.rawAt0 ck) ?_)); intro a hE
   obtain ⟨r25,e26,hs11⟩:=bind_some hs11
   refine Zq hE rfl (cbm Tryz.func122) (Ka _ x15.Data u21 (hM.rdo h22) r25 e26) ?_
   rintro u27 w a ⟨_,rfl,hFr,hK⟩ hE
   have hM:=hM.add hK hFr
   refine Zb hE rfl fun a hE=>Ze (wp_seq (Zc (Zd hE rfl fun a hE=>ZL hE rfl Tryz.underlying22 (hM.sl (pre:=[]) noB) fun a hE=>Zd hE rfl fun a hE=>Ze ?_)))
   obtain ⟨j28,hl29,hF30⟩:=bind_some hs11
   refine ZP (fun a w=>∃ (u31 : Value),Env 50 a [(1,v1_1),(5,u9),(7,(ptr b23 0)),(8,u31),(11,v0_1),(12,(vI (p0.length : Int))),(13,vI s8.1)] ∧ M (Old w0) w0 w [raw b23 (cat [[vB x15.Place],[u21]]),osl NoB (s8.2 : List GShare) u9,osl NoB (j28 : List UInt8) u31]) ?_ ?_
   ·skip
    refine wp_block ?_
    have hM:=hM.pull2.pull2
    refine ZK (fun (s33 : Int × (List UInt8)) a w=>∃ (u34 : Value),Env 50 a [(1,v1_1),(5,u9),(6,vI s8.1),(7,(ptr b23 0)),(8,u34),(11,v0_1),(12,(vI (p0.length : Int))),(13,vI s8.1),(22,(vI (r25.length : Int))),(23,vI s33.1)] ∧ M (Old w0) w0 w [raw b23 (cat [[vB x15.Place],[u21]]),osl NoB (s8.2 : List GShare) u9,osl NoB (s33.2 : List UInt8) u34]) hl29 ⟨u27,hE.sub ⟨rfl,rfl,rfl,rfl,rfl,rfl,rfl,rfl,rfl,rfl,trivial⟩,hM⟩ ?_
    rintro s33 a w ⟨u34,hE,hM⟩ o38 hs36 hx37
    unfold UL at hs36
    refine Zc (Zk hE rfl rfl rfl fun a hE=>Ze (wp_seq ?_))
    refine Zm hE rfl ?_ ?_
    ·intro hb39
     have hs36:=Zn hs36 hb39
     refine wp_skip (Zu (wp_seq (wp_block (Zc (Zd hE rfl fun a hE=>Zb hE rfl fun a hE=>Ze ?_)))))
     obtain ⟨x41,hi43,hs36⟩:=bix hs36
     obtain ⟨x44,hi46,hs36⟩:=bix hs36
     obtain ⟨cs47,hs48,hA49⟩:=Z3 hv1_1 hi46.2 -- ^
     obtain ⟨u50,rfl,h51⟩:=ZQ hs48 -- ^
     obtain ⟨x52,hi54,hs36⟩:=bix hs36
     obtain ⟨x55,hi57,hs36⟩:=bix hs36
     refine YA [26,27,28,29,30,31,32,33,34,35,36,37,38,39] Wb rfl rfl (by decide) rfl hE hM (qsP (fun z=>Zh z.E Za ld rfl (kr0 rfl)) (qsP (fun z=>Zh z.E Za ld rfl (kr0 rfl)) (qsP (fun z=>ZA z.E Za ld rfl rfl Tryz.underlying22 ty5 (z.M.sl (pre:=[_,_]) noB) hi43.1 (kr0 rfl)) (qsP (fun z=>ZE (v:=(vB x41)) z.E Za ld rfl ty5 rfl (ZS (z.M.sl (pre:=[_,_]) noB) hi43.2) (kr0 rfl)) (qsP (fun z=>Zh z.E Za ld rfl (kr0 rfl)) (qsP (fun z=>Zh z.E Za ld rfl (kr0 rfl)) (qsP (fun z=>ZA z.E Za ld rfl rfl Tryz.underlying24 ZN (z.M.rd hv1_1) hi46.1 (kr0 rfl)) (qsP (fun z=>Zv z.E Za ld rfl (Yj) (kr0 rfl)) (qsP (fun z=>ZE (v:=u50) z.E Za ld rfl YS rfl (At.cat (pre:=[[vB x44.Place]]) (z.M.atk hA49 (Yr hv1_1 hi46.2)) ck) (kr0 rfl)) (qsP (fun z=>Zh z.E Za ld rfl (kr0 rfl)) (qsP (fun z=>ZA z.E Za ld rfl rfl Tryz.underlying22 ty5 (z.M.rd h51) hi54.1 (kr0 rfl)) (qsP (fun z=>ZE (v:=(vB x52)) z.E Za ld rfl ty5 rfl (ZS (z.M.rd h51) hi54.2) (kr0 rfl)) (qsP (v:=(vB (x41 ^^^ x52))) (fun z=>ZJ z.E Za ld rfl rfl (Ur x41 x52) (kr0 rfl)) (qsP (fun z=>ZA z.E Za ld rfl rfl Tryz.underlying22 ty5 (z.M.sl (pre:=[_,_]) noB) hi57.1 (kr0 rfl)) qs0)))))))))))))) ?_
     ·intro a w u hE hM
      have hM:=hM.pull2
      refine U2 (i:=(s33.1).toNat) (k0:=0) (seg:=[(vB (x41 ^^^ x52))]) (xo:=x55) (xn:=x41 ^^^ x52) hE hM Za rfl rfl rfl ty5 rfl (Flat.cell (x41 ^^^ x52 : UInt8)) hi57.2 (TT (m:=1) rfl (by decide)) (ZZ rfl) fun w a hM hE=>Zj (Yg (Zu (wp_region_lit (Zk hE rfl rfl rfl fun a hE=>Zd hE rfl fun a hE=>Zj (Zi ?_)))))
      have hM:=hM.pull2.pull2
      exact ⟨_,(ois hs36),u34,hE.sub ⟨rfl,rfl,rfl,rfl,rfl,rfl,rfl,rfl,rfl,rfl,trivial⟩,hM⟩
    ·intro hb39
     have hs36:=Zo hs36 hb39
     refine wp_exit (Zs (Zs (Ys ?_)))
     obtain rfl:=hx37 _ (ois hs36)
     refine Zi ?_
     exact ⟨u34,hE.sub ⟨rfl,rfl,rfl,rfl,rfl,rfl,rfl,trivial⟩,hM⟩
   ·skip
    rintro a w ⟨u31,hE,hM⟩
    refine Zu (wp_region_lit (Zd hE rfl fun a hE=>ZI hE rfl (XQ) fun a hE=>ZX (v:=(vB x15.Place)) hE rfl ty5 rfl (At.cat (pre:=[]) hM.rawAt0 cl0) fun a hE=>Zd hE rfl fun a hE=>YY (parts:=[(0,.tmp 43),(1,.tmp 44)]) (vs:=[(0,vB x15.Place),(1,u31)]) (cs:=cat [[vB x15.Place],[u31]]) hE Za ld rfl rfl ZN Hu (YK (pre:=[]) (seg:=[vB 0]) (seg':=[vB x15.Place]) (post:=[[(Value.slice none 0 0)]]) rfl cl0 rfl rfl rfl (YK (pre:=[[vB x15.Place]]) (seg:=[(Value.slice none 0 0)]) (seg':=[u31]) (post:=[]) rfl ck rfl rfl (Y2 (hM.sl (pre:=[_,_]) noB)) Wy)) ?_)); intro a hE
    have hM:=hM.pull2
    have hM:=hM.pack1 (it:=own NoB (⟨x15.Place,j28⟩ : GShare) (cat [[vB x15.Place],[u31]])) (VS noB) (fun f0 q0=>(W2 (X5.sat q0) (by simp)))
    refine V0 (xs:=[.tmp 45]) (seg:=cat [[vB x15.Place],[u31]]) hE hM noB Za ld rfl rfl Tryz.underlying24 ZN rfl (by decide) ?_; intro u59 w a hM hE
    obtain ⟨l61,e62,hF30⟩:=bind_some hF30
    obtain ⟨e65,rfl⟩:=ZY e62
    have hM:=hM.pull2
    refine UM hE hM noB Za ld rfl rfl Tryz.underlying24 ZN rfl (by decide) e65 fun u63 w a hM hE=>Zb hE rfl fun a hE=>Zj (Yg (Zu (wp_region_lit (Zk hE rfl rfl rfl fun a hE=>Zd hE rfl fun a hE=>Zj (Zi ?_)))))
    have hM:=M.fst (l:=[_]) hM
    exact ⟨_,(ois hF30),u63,hE.sub ⟨rfl,rfl,rfl,rfl,rfl,trivial⟩,hM⟩
  ·intro hb14
   have hs11:=Zo hs11 hb14
   refine wp_exit (Zs (Zs (Ys ?_)))
   obtain rfl:=hx12 _ (ois hs11)
   refine Zi ?_
   exact ⟨u9,hE.sub ⟨rfl,trivial⟩,hM⟩
 ·skip
  rintro a w ⟨u6,hE,hM⟩
  refine Zu (Zc (Zd hE rfl fun a hE=>Zb hE rfl fun a hE=>Ze ?_))
  obtain rfl:=Option.some.inj hF5
  exact wp_ret (Yb hE rfl (Zl hE rfl) ⟨_,rfl,u6,rfl,hM.outF (Z8 Yd),hM.kept⟩)
def Wv (p0 : Int) (p1 : (List GShare)) (p2 : (List (List UInt8))) : Option ((List GShare) × Int) :=
 (YC p0 p1 1).bind fun r1=>if (r1 != 0) = true then (some ([],r1)) else ((idx p1 (0 : Int)).bind fun x5=>(X2 p2 (x5.Data.length : Int)).bind fun r13=>if (!r13) = true then (some ([],2)) else (((mkS 1 (0 : UInt8) (x5.Data.length : Int)).bind fun l23=>(YP p1).bind fun r27=>(W7 p0 l23 p2 r27).bind fun r30=>(U8 p1 r30).bind fun r33=>some r33 : Option ((List GShare))).bind fun j17=>some (j17,0)))
theorem Jh (w0 : World) (p0 : Int) (p1 : (List GShare)) (v1_1 : Value) (hv1_1 : Ro w0 p1 [v1_1]) (p2 : (List (List UInt8))) (v2_1 : Value) (hv2_1 : Ro w0 p2 [v2_1]) (r : (List GShare) × Int) (hF : Wv p0 p1 p2 = some r) :
  Calls Tryz.prog 29 [vI p0,v1_1,v2_1].toArray w0 (fun en w'=>∃ v,en = .returned v ∧ (∃ (y1 : Value),v = (Value.tuple [y1,vI r.2].toArray) ∧ Fr w0 w' [osl NoB (r.1 : List GShare) y1] ∧ Kept (Old w0) w0 w')):=by
 refine ce Tryz.func29 ?_
 intro a hE
 have hM:=M.start w0
 unfold Wv at hF
 refine Zc (Zb hE rfl fun a hE=>Zb hE rfl fun a hE=>Ze (wp_seq (Zc (Zd hE rfl fun a hE=>Zd hE rfl ?_)))); intro a hE
 obtain ⟨r1,e2,hF⟩:=bind_some hF
 refine Zq hE rfl cb40 (Wd _ p0 p1 v1_1 (hM.rdo hv1_1) 1 r1 e2) ?_
 rintro v w a ⟨rfl,hK⟩ hE
 have hM:=hM.keep hK
 refine Zb hE rfl fun a hE=>Ze (Zc (Zd hE rfl fun a hE=>Zk hE rfl rfl rfl fun a hE=>Ze ?_))
 refine Zm hE rfl ?_ ?_
 ·intro hb3
  have hF:=Zn hF hb3
  refine Zc (Zd hE rfl fun a hE=>Zb hE rfl fun a hE=>Zb hE rfl fun a hE=>Ze ?_)
  have hM:=M.nilS (α:=GShare) NoB noB hM
  obtain rfl:=Option.some.inj hF
  exact wp_ret (Zr (Z0 hE rfl (Zl hE rfl) (Zl hE rfl) ⟨_,rfl,(Value.slice none 0 0),rfl,hM.outF (Z8 Yd),hM.kept⟩))
 ·intro hb3
  have hF:=Zo hF hb3
  refine wp_skip (Zu (Zc (Zd hE rfl ?_))); intro a hE
  obtain ⟨x5,hi7,hF⟩:=bix hF
  refine ZG hE rfl rfl Tryz.underlying24 ZN (hM.rd hv1_1) hi7.1 fun a hE=>ZI hE rfl (Yj) ?_; intro a hE
  obtain ⟨cs8,hs9,hA10⟩:=Z3 hv1_1 hi7.2 -- ^
  obtain ⟨u11,rfl,h12⟩:=ZQ hs9 -- ^
  refine ZX (v:=u11) hE rfl YS rfl (At.cat (pre:=[[vB x5.Place]]) (hM.atk hA10 (Yr hv1_1 hi7.2)) ck) fun a hE=>ZL hE rfl Tryz.underlying22 (hM.rd h12) fun a hE=>Zb hE rfl fun a hE=>Ze (wp_seq (Zc (Zd hE rfl fun a hE=>Zd hE rfl ?_))); intro a hE
  obtain ⟨r13,e14,hF⟩:=bind_some hF
  refine Zq hE rfl (cbm Tryz.func79) (K1 _ p2 v2_1 (hM.rdo hv2_1) (x5.Data.length : Int) r13 e14) ?_
  rintro v w a ⟨rfl,hK⟩ hE
  have hM:=hM.keep hK
  refine Ve hE rfl fun a hE=>Ze ?_
  refine Zm hE rfl ?_ ?_
  ·intro hb15
   have hF:=Zn hF hb15
   refine Zc (Zb hE rfl fun a hE=>Zb hE rfl fun a hE=>Ze ?_)
   have hM:=M.nilS (α:=GShare) NoB noB hM
   obtain rfl:=Option.some.inj hF
   exact wp_ret (Zr (Z0 hE rfl (Zl hE rfl) (Zl hE rfl) ⟨_,rfl,(Value.slice none 0 0),rfl,hM.outF (Z8 Yd),hM.kept⟩))
  ·intro hb15
   have hF:=Zo hF hb15
   refine wp_skip (Zu ?_)
   obtain ⟨j17,hl18,hF19⟩:=bind_some hF
   refine Zx (fun a w=>∃ (u20 : Value),Env 34 a [(6,u20),(7,vI 0)] ∧ M (Old w0) w0 w [osl NoB (j17 : List GShare) u20]) ?_ ?_
   ·skip
    obtain ⟨l23,e24,hl18⟩:=bind_some hl18
    obtain ⟨r27,e28,hl18⟩:=bind_some hl18
    obtain ⟨r30,e31,hl18⟩:=bind_some hl18
    refine Wo (its:=[]) (mk:=([mkO 3 (fun v=>osl NoB (l23 : List UInt8) v),mkO 6 (fun v=>osl NoB (r27 : List UInt8) v),mkO 7 (fun v=>osl NoB (r30 : List GShare) v)] : Mk)) [25,26,27,28,29,30,31,32] Wb rfl rfl (by decide) rfl hE (fun u=>M.qE (M.qE (M.qE (M.q0 hM.drew u) emO) emO) emO) (qsP (fun z=>Zh z.E Za ld rfl (kr0 rfl)) (qsP (fun z=>Zh z.E Za ld rfl (kr0 rfl)) (qsP (fun z=>Zh z.E Za ld rfl (kr0 rfl)) (qsM (pr:=fun v=>True) ?_ (qsP (fun z=>Zh z.E Za ld rfl (kr0 rfl)) (qsP (fun z=>Zh z.E Za ld rfl (kr0 rfl)) (qsM (pr:=fun v=>True) ?_ (qsM (pr:=fun v=>True) ?_ qs0)))))))) ?_
    ·intro a w ux22 D z
     have hE:=z.E
     have hD : D 3 = false:=z.F
     have hM:=z.M
     exact Hq hE hM Za ld rfl rfl Tryz.underlying22 ty5 rfl (by decide) (fun _=>QQ.2 ⟨rfl,rfl⟩) e24 fun u25 w a hM hE=>⟨_,_,rfl,hE,M.qFill (mk1:=[]) (mk2:=[_,_]) (f:=(fun v=>osl NoB (l23 : List UInt8) v)) hM rfl hD,trivial⟩
    ·intro a w ux22 D z
     have hE:=z.E
     have hD : D 6 = false:=z.F
     have hM0:=z.M
     have hM:=z.M
     refine Zq hE rfl cb82 (Vr _ p1 v1_1 (hM.rdo hv1_1) r27 e28) ?_
     rintro _ w a ⟨_,rfl,hFr,hK⟩ hE
     have hM:=hM0.add hK hFr
     exact ⟨_,_,rfl,hE,M.qFill (mk1:=[_]) (mk2:=[_]) (f:=(fun v=>osl NoB (r27 : List UInt8) v)) hM rfl hD,trivial⟩
    ·intro a w ux22 D z
     have hE:=z.E
     have hD : D 7 = false:=z.F
     have d3 : D 3 = true:=z.p 1 _ rfl rfl
     have d6 : D 6 = true:=z.p 3 _ rfl rfl
     have hM0:=z.M
     have hM:=(z.M.sure (pre:=[]) d3).sure (pre:=[_]) d6
     refine Zq hE rfl (cbm Tryz.func81) (Ht _ p0 l23 (ux22 3) (hM.sl (pre:=[]) noB) p2 v2_1 (hM.rdo hv2_1) r27 (ux22 6) (hM.sl (pre:=[_]) noB) r30 e31) ?_
     rintro _ w a ⟨_,rfl,hFr,hK⟩ hE
     have hM:=hM0.add hK hFr
     exact ⟨_,_,rfl,hE,M.qFill (mk1:=[_,_]) (mk2:=[]) (f:=(fun v=>osl NoB (r30 : List GShare) v)) hM rfl hD,trivial⟩
    ·intro a w ux22 D hE hM hG hall
     have d3:=hall 3 (by decide)
     have d6:=hall 6 (by decide)
     have d7:=hall 7 (by decide)
     have hM:=((hM.sure (pre:=[]) d3).sure (pre:=[_]) d6).sure (pre:=[_,_]) d7
     obtain ⟨r33,e34,hl18⟩:=bind_some hl18
     refine Zq hE rfl (cbm Tryz.func80) (HE _ p1 v1_1 (hM.rdo hv1_1) r30 (ux22 7) (hM.sl (pre:=[_,_]) noB) r33 e34) ?_
     rintro u35 w a ⟨_,rfl,hFr,hK⟩ hE
     have hM:=hM.add hK hFr
     refine Zb hE rfl fun a hE=>Zb hE rfl fun a hE=>Zj ?_
     obtain rfl:=Option.some.inj hl18
     refine Zi ?_
     have hM:=M.fst (l:=[_]) hM
     exact ⟨u35,hE.sub ⟨rfl,rfl,trivial⟩,hM⟩
   ·skip
    rintro a w ⟨u20,hE,hM⟩
    obtain rfl:=Option.some.inj hF19
    exact wp_ret (Z0 hE rfl (Zl hE rfl) (Zl hE rfl) ⟨_,rfl,u20,rfl,hM.outF (Z8 Yd),hM.kept⟩)
def V8 (p0 : (List (List UInt8))) (p1 : Int) (s5 : Int) : Option (Fl Int (Fl Unit Bool)) :=
 if (decide (s5 < (p0.length : Int))) = true then ((idx p0 s5).bind fun x10=>if ((x10.length : Int) != p1) = true then (some (Fl.ex (Fl.ex false))) else (some (Fl.nx (wr (s5 + 1))))) else (some (Fl.ex (Fl.nx ())))
def Uy (p0 : (List (List UInt8))) (p1 : Int) : Option (Bool) :=
 (ZH (V8 p0 p1) 0).bind fun j1=>j1.el (fun s4=>some (decide ((p0.length : Int) ≤ 7))) (fun r=>some r)
theorem Am (w0 : World) (p0 : (List (List UInt8))) (v0_1 : Value) (hv0_1 : Ro w0 p0 [v0_1]) (p1 : Int) (r : Bool) (hF : Uy p0 p1 = some r) :
  Calls Tryz.prog 83 [v0_1,vI p1].toArray w0 (Rt w0 (vT r)):=by
 refine ce Tryz.func83 ?_
 intro a hE
 have hM:=M.start w0
 unfold Uy at hF
 refine Zc (Zb hE rfl fun a hE=>Ze (wp_seq (Zc (Zb hE rfl fun a hE=>Ze ?_))))
 obtain ⟨j1,hl2,hF3⟩:=bind_some hF
 refine ZP (fun a w=>∃ s4 : Unit,j1 = Fl.nx s4 ∧ Env 22 a [(0,v0_1)] ∧ M (Old w0) w0 w []) ?_ ?_
 ·skip
  refine wp_block ?_
  refine ZK (fun (s5 : Int) a w=>Env 22 a [(0,v0_1),(1,vI p1),(5,vI s5)] ∧ M (Old w0) w0 w []) hl2 ⟨hE.sub ⟨rfl,rfl,rfl,trivial⟩,hM⟩ ?_
  rintro s5 a w ⟨hE,hM⟩ o8 hs6 hx7
  unfold V8 at hs6
  refine wp_seq (Zc (Zd hE rfl fun a hE=>Zd hE rfl fun a hE=>ZL hE rfl Tryz.underlying57 (hM.rd hv0_1) fun a hE=>Zk hE rfl rfl rfl fun a hE=>Ze ?_))
  refine Zm hE rfl ?_ ?_
  ·intro hb9
   have hs6:=Zn hs6 hb9
   refine wp_skip (Zu (wp_seq (wp_block (Zc (Zd hE rfl fun a hE=>Zd hE rfl ?_))))); intro a hE
   obtain ⟨x10,hi12,hs6⟩:=bix hs6
   refine ZG hE rfl rfl Tryz.underlying57 YS (hM.rd hv0_1) hi12.1 ?_; intro a hE
   obtain ⟨cs13,hs14,hA15⟩:=Z3 hv0_1 hi12.2 -- ^
   obtain ⟨u16,rfl⟩:=Qd hs14 -- ^
   have h17:=hs14 -- ^
   refine ZX (v:=u16) hE rfl YS rfl (hM.atk hA15 (Yr hv0_1 hi12.2)) fun a hE=>ZL hE rfl Tryz.underlying22 (hM.rd h17) fun a hE=>Zd hE rfl fun a hE=>Zk hE rfl rfl rfl fun a hE=>Ze ?_
   refine Zm hE rfl ?_ ?_
   ·intro hb18
    have hs6:=Zn hs6 hb18
    refine Zc (Zb hE rfl fun a hE=>Ze ?_)
    obtain rfl:=hx7 _ (ois hs6)
    obtain rfl:=Option.some.inj hF3
    exact wp_ret (Z4 (Zr (Zr (Z4 (Zr (Zr (kr1 hE rfl rfl hM.kept)))))))
   ·intro hb18
    have hs6:=Zo hs6 hb18
    refine wp_skip (Yg (Zu (wp_region_lit (Zd hE rfl fun a hE=>Zk hE rfl rfl rfl fun a hE=>Zb hE rfl fun a hE=>Zj (Zi ?_)))))
    exact ⟨_,(ois hs6),hE.sub ⟨rfl,rfl,rfl,trivial⟩,hM⟩
  ·intro hb9
   have hs6:=Zo hs6 hb9
   refine wp_exit (Zs (Zs (Ys ?_)))
   obtain rfl:=hx7 _ (ois hs6)
   refine Zi ?_
   exact ⟨(),rfl,hE.sub ⟨rfl,trivial⟩,hM⟩
 ·skip
  rintro a w ⟨s4,ht,hE,hM⟩
  subst ht
  have hF3:=VQ hF3
  refine Zu (Zc (Zd hE rfl fun a hE=>ZL hE rfl Tryz.underlying57 (hM.rd hv0_1) fun a hE=>Zk hE rfl rfl rfl fun a hE=>Zb hE rfl fun a hE=>Ze ?_))
  obtain rfl:=Option.some.inj hF3
  exact wp_ret (kr1 hE rfl rfl hM.kept)
def V5 (p0 : (List GShare)) (p1 : (List GShare)) (s8 : (List GShare) × Int) (s30 : (List UInt8) × Int) : Option (Fl ((List UInt8) × Int) (List UInt8)) :=
 (idx p0 s8.2).bind fun x37=>if (decide (s30.2 < (x37.Data.length : Int))) = true then ((idx p0 s8.2).bind fun x47=>(idx x47.Data s30.2).bind fun x55=>(idx p1 s8.2).bind fun x58=>(idx x58.Data s30.2).bind fun x66=>(app 1 s30.1 ([x55 ^^^ x66] : List UInt8)).bind fun l71=>some (Fl.nx ((s30.1 ++ ([x55 ^^^ x66] : List UInt8)),wr (s30.2 + 1)))) else (some (Fl.ex s30.1))
def V7 (p0 : (List GShare)) (p1 : (List GShare)) (s8 : (List GShare) × Int) : Option (Fl ((List GShare) × Int) (List GShare)) :=
 if (decide (s8.2 < (p0.length : Int))) = true then ((idx p0 s8.2).bind fun x15=>(ZH (V5 p0 p1 s8) ([],0)).bind fun j25=>(app 32 s8.1 ([(⟨x15.Place,j25⟩ : GShare)] : List GShare)).bind fun l79=>some (Fl.nx ((s8.1 ++ ([(⟨x15.Place,j25⟩ : GShare)] : List GShare)),wr (s8.2 + 1)))) else (some (Fl.ex s8.1))
def UN (p0 : (List GShare)) (p1 : (List GShare)) : Option ((List GShare)) :=
 (ZH (V7 p0 p1) (([] : List GShare),0)).bind fun j3=>some j3
theorem J5 (w0 : World) (p0 : (List GShare)) (v0_1 : Value) (hv0_1 : Ro w0 p0 [v0_1]) (p1 : (List GShare)) (v1_1 : Value) (hv1_1 : Ro w0 p1 [v1_1]) (r : (List GShare)) (hF : UN p0 p1 = some r) :
  Calls Tryz.prog 86 [v0_1,v1_1].toArray w0 (fun en w'=>∃ v,en = .returned v ∧ (∃ (y1 : Value),v = y1 ∧ Fr w0 w' [osl NoB (r : List GShare) y1] ∧ Kept (Old w0) w0 w')):=by
 refine ce Tryz.func86 ?_
 intro a hE
 have hM:=M.start w0
 unfold UN at hF
 refine Zc (Zb hE rfl fun a hE=>Ze (Zc (TE (xs:=[]) (S:=NoB) (l:=([] : List GShare)) (vs:=[]) hE hM.emp noB Za ld rfl rfl rfl Tryz.underlying24 ZN rfl (by decide) (fun _ h=>⟨rfl,h⟩) (fun _ h=>by cases h) fun u1 w a hM hE=>Zb hE rfl fun a hE=>Ze (wp_seq (Zc (Zb hE rfl fun a hE=>Ze ?_))))))
 obtain ⟨j3,hl4,hF5⟩:=bind_some hF
 refine ZP (fun a w=>∃ (u6 : Value),Env 59 a [(5,u6)] ∧ M (Old w0) w0 w [osl NoB (j3 : List GShare) u6]) ?_ ?_
 ·skip
  refine wp_block ?_
  refine ZK (fun (s8 : (List GShare) × Int) a w=>∃ (u9 : Value),Env 59 a [(0,v0_1),(1,v1_1),(5,u9),(6,vI s8.2)] ∧ M (Old w0) w0 w [osl NoB (s8.1 : List GShare) u9]) hl4 ⟨u1,hE.sub ⟨rfl,rfl,rfl,rfl,trivial⟩,hM⟩ ?_
  rintro s8 a w ⟨u9,hE,hM⟩ o13 hs11 hx12
  unfold V7 at hs11
  refine wp_seq (Zc (Zd hE rfl fun a hE=>Zd hE rfl fun a hE=>ZL hE rfl Tryz.underlying24 (hM.rd hv0_1) fun a hE=>Zk hE rfl rfl rfl fun a hE=>Ze ?_))
  refine Zm hE rfl ?_ ?_
  ·intro hb14
   have hs11:=Zn hs11 hb14
   refine wp_skip (Zu (wp_seq (wp_block (Zc (Zd hE rfl fun a hE=>Zd hE rfl ?_))))); intro a hE
   obtain ⟨x15,hi17,hs11⟩:=bix hs11
   refine ZG hE rfl rfl Tryz.underlying24 ZN (hM.rd hv0_1) hi17.1 fun a hE=>ZI hE rfl (XQ) ?_; intro a hE
   obtain ⟨cs18,hs19,hA20⟩:=Z3 hv0_1 hi17.2 -- ^
   obtain ⟨u21,rfl,h22⟩:=ZQ hs19 -- ^
   refine ZX (v:=(vB x15.Place)) hE rfl ty5 rfl (At.cat (pre:=[]) (hM.atk hA20 (Yr hv0_1 hi17.2)) cl0) fun a hE=>YY (parts:=[(0,.tmp 20)]) (vs:=[(0,vB x15.Place)]) (cs:=cat [[vB x15.Place],[(Value.slice none 0 0)]]) hE Za ld rfl rfl ZN Hu (YK (pre:=[]) (seg:=[vB 0]) (seg':=[vB x15.Place]) (post:=[[(Value.slice none 0 0)]]) rfl cl0 rfl rfl rfl Wy) fun a hE=>UP hE hM ZN fun b23 w a hM hE=>Xs (seg:=cat [[vB x15.Place],[(Value.slice none 0 0)]]) (cs':=cat [[vB x15.Place],[(Value.slice none 0 0)]]) hE hM Za rfl rfl rfl ZN cq (Nat.le_of_eq ((Nat.zero_add _).trans (Eq.trans cq (Eq.symm cq)))) (Wu (cc1 (Flat.cell (x15.Place : UInt8)) (cc1 JH cc0))) (ZZ (Eq.trans cq (Eq.symm cq))) fun w a hM hE=>Ze (wp_seq (Zc (Zb hE rfl fun a hE=>Ze ?_)))
   obtain ⟨j25,hl26,hF27⟩:=bind_some hs11
   refine ZP (fun a w=>∃ (u28 : Value),Env 59 a [(0,v0_1),(1,v1_1),(5,u9),(6,vI s8.2),(7,(ptr b23 0))] ∧ M (Old w0) w0 w [raw b23 (cat [[vB x15.Place],[u28]]),osl NoB (s8.1 : List GShare) u9,osl NoB (j25 : List UInt8) u28]) ?_ ?_
   ·skip
    refine wp_block ?_
    have hM:=((M.nilS (α:=UInt8) NoB noB hM).pull2).pull2
    refine ZK (fun (s30 : (List UInt8) × Int) a w=>∃ (u31 : Value),Env 59 a [(0,v0_1),(1,v1_1),(5,u9),(6,vI s8.2),(7,(ptr b23 0)),(8,vI s30.2)] ∧ M (Old w0) w0 w [raw b23 (cat [[vB x15.Place],[u31]]),osl NoB (s8.1 : List GShare) u9,osl NoB (s30.1 : List UInt8) u31]) hl26 ⟨(Value.slice none 0 0),hE.sub ⟨rfl,rfl,rfl,rfl,rfl,rfl,trivial⟩,hM⟩ ?_
    rintro s30 a w ⟨u31,hE,hM⟩ o35 hs33 hx34
    unfold V5 at hs33
    refine wp_seq (Zc (Zd hE rfl fun a hE=>Zd hE rfl fun a hE=>Zd hE rfl ?_)); intro a hE
    obtain ⟨x37,hi39,hs33⟩:=bix hs33
    refine ZG hE rfl rfl Tryz.underlying24 ZN (hM.rd hv0_1) hi39.1 fun a hE=>ZI hE rfl (Yj) ?_; intro a hE
    obtain ⟨cs40,hs41,hA42⟩:=Z3 hv0_1 hi39.2 -- ^
    obtain ⟨u43,rfl,h44⟩:=ZQ hs41 -- ^
    refine ZX (v:=u43) hE rfl YS rfl (At.cat (pre:=[[vB x37.Place]]) (hM.atk hA42 (Yr hv0_1 hi39.2)) ck) fun a hE=>ZL hE rfl Tryz.underlying22 (hM.rd h44) fun a hE=>Zk hE rfl rfl rfl fun a hE=>Ze ?_
    refine Zm hE rfl ?_ ?_
    ·intro hb45
     have hs33:=Zn hs33 hb45
     refine wp_skip (Zu (wp_seq (wp_block ?_)))
     obtain ⟨x47,hi49,hs33⟩:=bix hs33
     obtain ⟨cs50,hs51,hA52⟩:=Z3 hv0_1 hi49.2 -- ^
     obtain ⟨u53,rfl,h54⟩:=ZQ hs51 -- ^
     obtain ⟨x55,hi57,hs33⟩:=bix hs33
     obtain ⟨x58,hi60,hs33⟩:=bix hs33
     obtain ⟨cs61,hs62,hA63⟩:=Z3 hv1_1 hi60.2 -- ^
     obtain ⟨u64,rfl,h65⟩:=ZQ hs62 -- ^
     obtain ⟨x66,hi68,hs33⟩:=bix hs33
     refine Wo (its:=[raw b23 (cat [[vB x15.Place],[u31]]),osl NoB (s8.1 : List GShare) u9,osl NoB (s30.1 : List UInt8) u31]) (mk:=([mkO 19 (fun v=>osl NoB (([x55 ^^^ x66] : List UInt8) : List UInt8) v)] : Mk)) [32,33,34,35,36,37,38,39,40,41,42,43,44,45,46,47,48,49,50,51] Wb rfl rfl (by decide) rfl hE (fun u=>M.qE (M.q0 hM.drew u) emO) (qsP (fun z=>Zv z.E Za ld rfl (Yj) (kr0 rfl)) (qsP (fun z=>ZE (v:=u31) z.E Za ld rfl YS rfl (At.cat (pre:=[[vB x15.Place]]) (z.M.rawAt0) ck) (kr0 rfl)) (qsP (fun z=>Zh z.E Za ld rfl (kr0 rfl)) (qsP (fun z=>Zh z.E Za ld rfl (kr0 rfl)) (qsP (fun z=>ZA z.E Za ld rfl rfl Tryz.underlying24 ZN (z.M.rd hv0_1) hi49.1 (kr0 rfl)) (qsP (fun z=>Zv z.E Za ld rfl (Yj) (kr0 rfl)) (qsP (fun z=>ZE (v:=u53) z.E Za ld rfl YS rfl (At.cat (pre:=[[vB x47.Place]]) (z.M.atk hA52 (Yr hv0_1 hi49.2)) ck) (kr0 rfl)) (qsP (fun z=>Zh z.E Za ld rfl (kr0 rfl)) (qsP (fun z=>ZA z.E Za ld rfl rfl Tryz.underlying22 ty5 (z.M.rd h54) hi57.1 (kr0 rfl)) (qsP (fun z=>ZE (v:=(vB x55)) z.E Za ld rfl ty5 rfl (ZS (z.M.rd h54) hi57.2) (kr0 rfl)) (qsP (fun z=>Zh z.E Za ld rfl (kr0 rfl)) (qsP (fun z=>Zh z.E Za ld rfl (kr0 rfl)) (qsP (fun z=>ZA z.E Za ld rfl rfl Tryz.underlying24 ZN (z.M.rd hv1_1) hi60.1 (kr0 rfl)) (qsP (fun z=>Zv z.E Za ld rfl (Yj) (kr0 rfl)) (qsP (fun z=>ZE (v:=u64) z.E Za ld rfl YS rfl (At.cat (pre:=[[vB x58.Place]]) (z.M.atk hA63 (Yr hv1_1 hi60.2)) ck) (kr0 rfl)) (qsP (fun z=>Zh z.E Za ld rfl (kr0 rfl)) (qsP (fun z=>ZA z.E Za ld rfl rfl Tryz.underlying22 ty5 (z.M.rd h65) hi68.1 (kr0 rfl)) (qsP (fun z=>ZE (v:=(vB x66)) z.E Za ld rfl ty5 rfl (ZS (z.M.rd h65) hi68.2) (kr0 rfl)) (qsP (v:=(vB (x55 ^^^ x66))) (fun z=>ZJ z.E Za ld rfl rfl (Ur x55 x66) (kr0 rfl)) (qsM (pr:=fun v=>True) ?_ qs0)))))))))))))))))))) ?_
     ·intro a w ux46 D z
      have hE:=z.E
      have hD : D 19 = false:=z.F
      have hM:=z.M
      exact ZD (xs:=[.tmp 50]) (l:=([x55 ^^^ x66] : List UInt8)) (vs:=[(vB (x55 ^^^ x66))]) hE hM Za ld rfl rfl Tryz.underlying22 ty5 rfl (by decide) rfl fun u69 w a hM hE=>⟨_,_,rfl,hE,M.qFill (mk1:=[]) (mk2:=[]) (f:=(fun v=>osl NoB (([x55 ^^^ x66] : List UInt8) : List UInt8) v)) hM rfl hD,trivial⟩
     ·intro a w ux46 D hE hM hG hall
      have d19:=hall 19 (by decide)
      have hM:=hM.sure (pre:=[_,_,_]) d19
      obtain ⟨l71,e72,hs33⟩:=bind_some hs33
      obtain ⟨e75,rfl⟩:=ZY e72
      have hM:=hM.pull2
      refine Z9 hE hM Za ld rfl rfl (hM.sl (pre:=[_,_,_]) noB) Tryz.underlying22 ty5 rfl (by decide) e75 fun u73 w a hM hE=>ZI hE rfl (Yj) ?_; intro a hE
      have hM:=hM.pull1
      refine Xs (seg:=[u73]) hE hM Za rfl rfl (Y2 (hM.sl (pre:=[_]) noB)) YS rfl (Th (pre:=[[vB x15.Place]]) ck rfl) (Rep.cell (hM.sl (pre:=[_]) noB)) (Wj (pre:=[[vB x15.Place]]) ck rfl) fun w a hM hE=>Zj (Yg (Zu (wp_region_lit (Zd hE rfl fun a hE=>Zk hE rfl rfl rfl fun a hE=>Zb hE rfl fun a hE=>Zj (Zi ?_)))))
      have hM:=M.fst (l:=[_,_,_]) hM.pull1.pull2.pull2
      exact ⟨_,(ois hs33),u73,hE.sub ⟨rfl,rfl,rfl,rfl,rfl,rfl,trivial⟩,hM⟩
    ·intro hb45
     have hs33:=Zo hs33 hb45
     refine wp_exit (Zs (Zs (Ys ?_)))
     obtain rfl:=hx34 _ (ois hs33)
     refine Zi ?_
     exact ⟨u31,hE.sub ⟨rfl,rfl,rfl,rfl,rfl,trivial⟩,hM⟩
   ·skip
    rintro a w ⟨u28,hE,hM⟩
    refine Zu (wp_region_lit (Zd hE rfl fun a hE=>WR hE rfl ZN rfl hM.rawAt0 cq ?_)); intro a hE
    have hM:=hM.pull2
    have hM:=hM.pack1 (it:=own NoB (⟨x15.Place,j25⟩ : GShare) (cat [[vB x15.Place],[u28]])) (VS noB) (fun f0 q0=>(W2 (X5.sat q0) (by simp)))
    refine V0 (xs:=[.tmp 55]) (seg:=cat [[vB x15.Place],[u28]]) hE hM noB Za ld rfl rfl Tryz.underlying24 ZN rfl (by decide) ?_; intro u77 w a hM hE
    obtain ⟨l79,e80,hF27⟩:=bind_some hF27
    obtain ⟨e83,rfl⟩:=ZY e80
    have hM:=hM.pull2
    refine UM hE hM noB Za ld rfl rfl Tryz.underlying24 ZN rfl (by decide) e83 fun u81 w a hM hE=>Zb hE rfl fun a hE=>Zj (Yg (Zu (wp_region_lit (Zd hE rfl fun a hE=>Zk hE rfl rfl rfl fun a hE=>Zb hE rfl fun a hE=>Zj (Zi ?_)))))
    have hM:=M.fst (l:=[_]) hM
    exact ⟨_,(ois hF27),u81,hE.sub ⟨rfl,rfl,rfl,rfl,trivial⟩,hM⟩
  ·intro hb14
   have hs11:=Zo hs11 hb14
   refine wp_exit (Zs (Zs (Ys ?_)))
   obtain rfl:=hx12 _ (ois hs11)
   refine Zi ?_
   exact ⟨u9,hE.sub ⟨rfl,trivial⟩,hM⟩
 ·skip
  rintro a w ⟨u6,hE,hM⟩
  refine Zu (Zc (Zd hE rfl fun a hE=>Zb hE rfl fun a hE=>Ze ?_))
  obtain rfl:=Option.some.inj hF5
  exact wp_ret (Yb hE rfl (Zl hE rfl) ⟨_,rfl,u6,rfl,hM.outF (Z8 Yd),hM.kept⟩)
def Wr (p0 : Int) (p1 : (List GShare)) (p2 : (List (List UInt8))) : Option ((List GShare) × Int) :=
 (W8 p0 p1 1).bind fun r1=>((if (r1 == 0) = true then ((idx p1 (0 : Int)).bind fun x10=>(Uy p2 (x10.Data.length : Int)).bind fun r18=>some (!r18)) else (some false) : Option (Bool)).bind fun j6=>if j6 = true then (some 2) else (some r1) : Option (Int)).bind fun j3=>if (j3 != 0) = true then (some ([],j3)) else (((idx p1 (0 : Int)).bind fun x33=>(mkS 1 (0 : UInt8) (x33.Data.length : Int)).bind fun l41=>(YT p1).bind fun r45=>(Ul p0 l41 p2 r45).bind fun r48=>some r48 : Option ((List GShare))).bind fun j27=>(UN p1 j27).bind fun r52=>some (r52,0))
theorem JB (w0 : World) (p0 : Int) (p1 : (List GShare)) (v1_1 : Value) (hv1_1 : Ro w0 p1 [v1_1]) (p2 : (List (List UInt8))) (v2_1 : Value) (hv2_1 : Ro w0 p2 [v2_1]) (r : (List GShare) × Int) (hF : Wr p0 p1 p2 = some r) :
  Calls Tryz.prog 30 [vI p0,v1_1,v2_1].toArray w0 (fun en w'=>∃ v,en = .returned v ∧ (∃ (y1 : Value),v = (Value.tuple [y1,vI r.2].toArray) ∧ Fr w0 w' [osl NoB (r.1 : List GShare) y1] ∧ Kept (Old w0) w0 w')):=by
 refine ce Tryz.func30 ?_
 intro a hE
 have hM:=M.start w0
 unfold Wr at hF
 refine Zc (Zb hE rfl fun a hE=>Zb hE rfl fun a hE=>Ze (Zc (Zd hE rfl fun a hE=>Zd hE rfl ?_))); intro a hE
 obtain ⟨r1,e2,hF⟩:=bind_some hF
 refine Zq hE rfl cb46 (QM _ p0 p1 v1_1 (hM.rdo hv1_1) 1 r1 e2) ?_
 rintro v w a ⟨rfl,hK⟩ hE
 have hM:=hM.keep hK
 refine Zb hE rfl fun a hE=>Ze ?_
 obtain ⟨j3,hl4,hF5⟩:=bind_some hF
 refine Zx (fun a w=>Env 42 a [(0,vI p0),(1,v1_1),(2,v2_1),(8,vI j3)] ∧ M (Old w0) w0 w []) ?_ ?_
 ·skip
  obtain ⟨j6,hl7,hF8⟩:=bind_some hl4
  refine Zx (fun a w=>Env 42 a [(0,vI p0),(1,v1_1),(2,v2_1),(8,vI r1),(24,vT j6)] ∧ M (Old w0) w0 w []) ?_ ?_
  ·skip
   refine wp_region_lit (Zd hE rfl fun a hE=>Zk hE rfl rfl rfl fun a hE=>Zd hE rfl ?_); intro a hE
   refine ZO (r1 == 0) (fun hb9=>?_) (fun hb9=>?_)
   ·have hl7:=Zn hl7 hb9
    refine Zh hE (Zf hE rfl (lkb rfl hb9)) (by decide) rfl fun a hE=>Zh hE (Zf hE rfl (lkb rfl hb9)) (by decide) rfl ?_; intro a hE
    obtain ⟨x10,hi12,hl7⟩:=bix hl7
    refine ZA hE (Zf hE rfl (lkb rfl hb9)) (by decide) rfl rfl Tryz.underlying24 ZN (hM.rd hv1_1) hi12.1 fun a hE=>Zv hE (Zf hE rfl (lkb rfl hb9)) (by decide) rfl (Yj) ?_; intro a hE
    obtain ⟨cs13,hs14,hA15⟩:=Z3 hv1_1 hi12.2 -- ^
    obtain ⟨u16,rfl,h17⟩:=ZQ hs14 -- ^
    refine ZE (v:=u16) hE (Zf hE rfl (lkb rfl hb9)) (by decide) rfl YS rfl (At.cat (pre:=[[vB x10.Place]]) (hM.atk hA15 (Yr hv1_1 hi12.2)) ck) fun a hE=>XN hE (Zf hE rfl (lkb rfl hb9)) (by decide) rfl Tryz.underlying22 (hM.rd h17) ?_; intro a hE
    obtain ⟨r18,e19,hl7⟩:=bind_some hl7
    refine ZW hE (Zf hE rfl (lkb rfl hb9)) (by decide) rfl (cbm Tryz.func83) (Am _ p2 v2_1 (hM.rdo hv2_1) (x10.Data.length : Int) r18 e19) ?_
    rintro v w a ⟨rfl,hK⟩ hE
    have hM:=hM.keep hK
    refine U5 hE (Zf hE rfl (lkb rfl hb9)) (by decide) rfl fun a hE=>ZB hE (lkb rfl hb9) rfl fun a hE=>Zj ?_
    obtain rfl:=Option.some.inj hl7
    refine Zi ?_
    exact ⟨hE.sub ⟨rfl,rfl,rfl,rfl,rfl,trivial⟩,hM⟩
   ·have hl7:=Zo hl7 hb9
    refine Zg hE rfl (lkb rfl hb9) rfl (by decide) fun a hE=>Zg hE rfl (lkb rfl hb9) rfl (by decide) fun a hE=>Zg hE rfl (lkb rfl hb9) rfl (by decide) fun a hE=>Zg hE rfl (lkb rfl hb9) rfl (by decide) fun a hE=>Zg hE rfl (lkb rfl hb9) rfl (by decide) fun a hE=>Zg hE rfl (lkb rfl hb9) rfl (by decide) fun a hE=>Zg hE rfl (lkb rfl hb9) rfl (by decide) fun a hE=>Zg hE rfl (lkb rfl hb9) rfl (by decide) fun a hE=>Zy hE (lkb rfl hb9) rfl fun a hE=>Zj ?_
    obtain rfl:=Option.some.inj hl7
    refine Zi ?_
    exact ⟨hE.sub ⟨rfl,rfl,rfl,rfl,rfl,trivial⟩,hM⟩
  ·skip
   rintro a w ⟨hE,hM⟩
   refine Zm hE rfl ?_ ?_
   ·intro hb22
    have hF8:=Zn hF8 hb22
    refine wp_region_lit (Zb hE rfl fun a hE=>Zj ?_)
    obtain rfl:=Option.some.inj hF8
    refine Zi ?_
    exact ⟨hE.sub ⟨rfl,rfl,rfl,rfl,trivial⟩,hM⟩
   ·intro hb22
    have hF8:=Zo hF8 hb22
    refine wp_skip ?_
    obtain rfl:=Option.some.inj hF8
    refine Zi ?_
    exact ⟨hE.sub ⟨rfl,rfl,rfl,rfl,trivial⟩,hM⟩
 ·skip
  rintro a w ⟨hE,hM⟩
  refine wp_seq (Zc (Zd hE rfl fun a hE=>Zk hE rfl rfl rfl fun a hE=>Ze ?_))
  refine Zm hE rfl ?_ ?_
  ·intro hb25
   have hF5:=Zn hF5 hb25
   refine Zc (Zd hE rfl fun a hE=>Zb hE rfl fun a hE=>Zb hE rfl fun a hE=>Ze ?_)
   have hM:=M.nilS (α:=GShare) NoB noB hM
   obtain rfl:=Option.some.inj hF5
   exact wp_ret (Zr (Z0 hE rfl (Zl hE rfl) (Zl hE rfl) ⟨_,rfl,(Value.slice none 0 0),rfl,hM.outF (Z8 Yd),hM.kept⟩))
  ·intro hb25
   have hF5:=Zo hF5 hb25
   refine wp_skip (Zu ?_)
   obtain ⟨j27,hl28,hF29⟩:=bind_some hF5
   refine Zx (fun a w=>∃ (u30 : Value),Env 42 a [(1,v1_1),(9,u30)] ∧ M (Old w0) w0 w [osl NoB (j27 : List GShare) u30]) ?_ ?_
   ·skip
    obtain ⟨x33,hi35,hl28⟩:=bix hl28
    obtain ⟨cs36,hs37,hA38⟩:=Z3 hv1_1 hi35.2 -- ^
    obtain ⟨u39,rfl,h40⟩:=ZQ hs37 -- ^
    obtain ⟨l41,e42,hl28⟩:=bind_some hl28
    obtain ⟨r45,e46,hl28⟩:=bind_some hl28
    refine Wo (its:=[]) (mk:=([mkO 6 (fun v=>osl NoB (l41 : List UInt8) v),mkO 9 (fun v=>osl NoB (r45 : List UInt8) v)] : Mk)) [28,29,30,31,32,33,34,35,36,37] Wb rfl rfl (by decide) rfl hE (fun u=>M.qE (M.qE (M.q0 hM.drew u) emO) emO) (qsP (fun z=>Zh z.E Za ld rfl (kr0 rfl)) (qsP (fun z=>Zh z.E Za ld rfl (kr0 rfl)) (qsP (fun z=>ZA z.E Za ld rfl rfl Tryz.underlying24 ZN (z.M.rd hv1_1) hi35.1 (kr0 rfl)) (qsP (fun z=>Zv z.E Za ld rfl (Yj) (kr0 rfl)) (qsP (fun z=>ZE (v:=u39) z.E Za ld rfl YS rfl (At.cat (pre:=[[vB x33.Place]]) (z.M.atk hA38 (Yr hv1_1 hi35.2)) ck) (kr0 rfl)) (qsP (fun z=>XN z.E Za ld rfl Tryz.underlying22 (z.M.rd h40) (kr0 rfl)) (qsM (pr:=fun v=>True) ?_ (qsP (fun z=>Zh z.E Za ld rfl (kr0 rfl)) (qsP (fun z=>Zh z.E Za ld rfl (kr0 rfl)) (qsM (pr:=fun v=>True) ?_ qs0)))))))))) ?_
    ·intro a w ux32 D z
     have hE:=z.E
     have hD : D 6 = false:=z.F
     have hM:=z.M
     exact Hq hE hM Za ld rfl rfl Tryz.underlying22 ty5 rfl (by decide) (fun _=>QQ.2 ⟨rfl,rfl⟩) e42 fun u43 w a hM hE=>⟨_,_,rfl,hE,M.qFill (mk1:=[]) (mk2:=[_]) (f:=(fun v=>osl NoB (l41 : List UInt8) v)) hM rfl hD,trivial⟩
    ·intro a w ux32 D z
     have hE:=z.E
     have hD : D 9 = false:=z.F
     have hM0:=z.M
     have hM:=z.M
     refine Zq hE rfl cb85 (W4 _ p1 v1_1 (hM.rdo hv1_1) r45 e46) ?_
     rintro _ w a ⟨_,rfl,hFr,hK⟩ hE
     have hM:=hM0.add hK hFr
     exact ⟨_,_,rfl,hE,M.qFill (mk1:=[_]) (mk2:=[]) (f:=(fun v=>osl NoB (r45 : List UInt8) v)) hM rfl hD,trivial⟩
    ·intro a w ux32 D hE hM hG hall
     have d6:=hall 6 (by decide)
     have d9:=hall 9 (by decide)
     have hM:=(hM.sure (pre:=[]) d6).sure (pre:=[_]) d9
     obtain ⟨r48,e49,hl28⟩:=bind_some hl28
     refine Zq hE rfl (cbm Tryz.func84) (Jy _ p0 l41 (ux32 6) (hM.sl (pre:=[]) noB) p2 v2_1 (hM.rdo hv2_1) r45 (ux32 9) (hM.sl (pre:=[_]) noB) r48 e49) ?_
     rintro u50 w a ⟨_,rfl,hFr,hK⟩ hE
     have hM:=hM.add hK hFr
     refine Zb hE rfl fun a hE=>Zj ?_
     obtain rfl:=Option.some.inj hl28
     refine Zi ?_
     have hM:=M.fst (l:=[_]) hM
     exact ⟨u50,hE.sub ⟨rfl,rfl,trivial⟩,hM⟩
   ·skip
    rintro a w ⟨u30,hE,hM⟩
    refine Zc (Zd hE rfl fun a hE=>Zd hE rfl ?_); intro a hE
    obtain ⟨r52,e53,hF29⟩:=bind_some hF29
    refine Zq hE rfl (cbm Tryz.func86) (J5 _ p1 v1_1 (hM.rdo hv1_1) j27 u30 (hM.sl (pre:=[]) noB) r52 e53) ?_
    rintro u54 w a ⟨_,rfl,hFr,hK⟩ hE
    have hM:=hM.add hK hFr
    refine Zb hE rfl fun a hE=>Zb hE rfl fun a hE=>Ze ?_
    obtain rfl:=Option.some.inj hF29
    have hM:=M.fst (l:=[_]) hM
    exact wp_ret (Z0 hE rfl (Zl hE rfl) (Zl hE rfl) ⟨_,rfl,u54,rfl,hM.outF (Z8 Yd),hM.kept⟩)
def Vk (p0 : (List UInt8)) (r5 : (Int × Int) × Int × (List GShare) × Int) (s15 : Int × Int × Int × (List GShare)) : Option (Fl (Int × Int × Int × (List GShare)) (Int × Int × (List GShare))) :=
 if (decide (s15.2.2.1 < (r5.2.2.1.length : Int))) = true then ((idx r5.2.2.1 s15.2.2.1).bind fun x22=>(idx r5.2.2.1 s15.2.2.1).bind fun x29=>(idx r5.2.2.1 s15.2.2.1).bind fun x32=>(Y9 p0 (s15.1,s15.2.1) (x22.Data.length : Int)).bind fun r35=>(app 32 s15.2.2.2 ([(⟨x22.Place,r35.2⟩ : GShare)] : List GShare)).bind fun l40=>some (Fl.nx (r35.1.1,r35.1.2,wr (s15.2.2.1 + 1),(s15.2.2.2 ++ ([(⟨x22.Place,r35.2⟩ : GShare)] : List GShare))))) else (some (Fl.ex (s15.1,s15.2.1,s15.2.2.2)))
def Wp (p0 : (List UInt8)) : Option (Int × (List GShare) × (List GShare)) :=
 (Y1 p0).bind fun r1=>(XY p0 (r1.1,r1.2)).bind fun r5=>(ZH (Vk p0 r5) (r5.1.1,r5.1.2,0,([] : List GShare))).bind fun j10=>((Zw p0 (j10.1,j10.2.1) 16).bind fun r51=>(if (r51.2 == 0) = true then (if (decide ((j10.2.2.length : Int) > 0)) = true then ((idx j10.2.2 (0 : Int)).bind fun x60=>(idx j10.2.2 (0 : Int)).bind fun x67=>some (j10.2.2.set ((0 : Int)).toNat (⟨x60.Place ^^^ 64,x67.Data⟩ : GShare))) else (some j10.2.2)) else (if (r51.2 == 1) = true then (if (decide ((j10.2.2.length : Int) > 1)) = true then ((slc j10.2.2 (1 : Int) (j10.2.2.length : Int)).bind fun l77=>some l77) else (some j10.2.2)) else (some j10.2.2)) : Option ((List GShare))).bind fun j53=>some j53 : Option ((List GShare))).bind fun j46=>some (r5.2.1,r5.2.2.1,j46)
theorem Jd (w0 : World) (p0 : (List UInt8)) (v0_1 : Value) (hv0_1 : Ro w0 p0 [v0_1]) (r : Int × (List GShare) × (List GShare)) (hF : Wp p0 = some r) :
  Calls Tryz.prog 31 [v0_1].toArray w0 (fun en w'=>∃ v,en = .returned v ∧ (∃ (y1 : Value) (y2 : Value),v = (Value.tuple [vI r.1,y1,y2].toArray) ∧ Fr w0 w' [osl NoB (r.2.1 : List GShare) y1,osl NoB (r.2.2 : List GShare) y2] ∧ Kept (Old w0) w0 w')):=by
 refine ce Tryz.func31 ?_
 intro a hE
 have hM:=M.start w0
 unfold Wp at hF
 refine Zc (Zb hE rfl fun a hE=>Zb hE rfl fun a hE=>Zb hE rfl fun a hE=>Ze (Zc (Zd hE rfl ?_))); intro a hE
 have hM:=M.tailP (m:=[]) hM
 obtain ⟨r1,e2,hF⟩:=bind_some hF
 refine Zq hE rfl kl (Vj _ _ _ _ p0 v0_1 hv0_1 hM r1 e2) ?_
 rintro v w a ⟨b3,rfl,hM⟩ hE
 have hM:=M.tailU (m:=[_]) hM
 simp only [List.cons_append,List.nil_append] at hM
 refine Zb hE rfl fun a hE=>Ze (Zc (Zd hE rfl ?_)); intro a hE
 have hM:=M.tailP (m:=[_]) hM
 obtain ⟨r5,e6,hF⟩:=bind_some hF
 refine Zq hE rfl cb39 (TC _ _ _ _ b3 p0 v0_1 hv0_1 (r1.1,r1.2) hM r5 e6) ?_
 rintro v w a ⟨u7,rfl,hM⟩ hE
 have hM:=M.tailU (m:=[_,_]) hM
 simp only [List.cons_append,List.nil_append] at hM
 refine Zd hE rfl fun a hE=>Zt hE Za ld rfl rfl fun a hE=>Zt hE Za ld rfl rfl fun a hE=>Zt hE Za ld rfl rfl fun a hE=>Zb hE rfl fun a hE=>Zb hE rfl fun a hE=>Zb hE rfl fun a hE=>Ze (Zc (TE (xs:=[]) (S:=NoB) (l:=([] : List GShare)) (vs:=[]) hE hM.emp noB Za ld rfl rfl rfl Tryz.underlying24 ZN rfl (by decide) (fun _ h=>⟨rfl,h⟩) (fun _ h=>by cases h) fun u8 w a hM hE=>Zb hE rfl fun a hE=>Ze (wp_seq (Zc (Zb hE rfl fun a hE=>Ze ?_)))))
 obtain ⟨j10,hl11,hF12⟩:=bind_some hF
 refine ZP (fun a w=>∃ (u13 : Value),Env 68 a [(5,(ptr b3 0)),(6,vI r5.2.1),(7,u7),(9,u13)] ∧ M (Old w0) w0 w [raw b3 (cat [[v0_1],[vI j10.1],[(Value.int .u64 j10.2.1)]]),osl NoB (r5.2.2.1 : List GShare) u7,osl NoB (j10.2.2 : List GShare) u13]) ?_ ?_
 ·skip
  refine wp_block ?_
  have hM:=hM.pull2.pull2
  refine ZK (fun (s15 : Int × Int × Int × (List GShare)) a w=>∃ (u16 : Value),Env 68 a [(5,(ptr b3 0)),(6,vI r5.2.1),(7,u7),(9,u16),(10,vI s15.2.2.1)] ∧ M (Old w0) w0 w [raw b3 (cat [[v0_1],[vI s15.1],[(Value.int .u64 s15.2.1)]]),osl NoB (r5.2.2.1 : List GShare) u7,osl NoB (s15.2.2.2 : List GShare) u16]) hl11 ⟨u8,hE.sub ⟨rfl,rfl,rfl,rfl,rfl,trivial⟩,hM⟩ ?_
  rintro s15 a w ⟨u16,hE,hM⟩ o20 hs18 hx19
  unfold Vk at hs18
  refine wp_seq (Zc (Zd hE rfl fun a hE=>Zd hE rfl fun a hE=>ZL hE rfl Tryz.underlying24 (hM.sl (pre:=[_]) noB) fun a hE=>Zk hE rfl rfl rfl fun a hE=>Ze ?_))
  refine Zm hE rfl ?_ ?_
  ·intro hb21
   have hs18:=Zn hs18 hb21
   refine wp_skip (Zu (wp_seq (wp_block ?_)))
   obtain ⟨x22,hi24,hs18⟩:=bix hs18
   have hM:=hM.pull1
   obtain ⟨cs25,hM,_⟩:=hM.open1 noB hi24.2
   obtain ⟨_,hx,_⟩:=hM.head
   obtain ⟨u26,_,rfl,_,_⟩:=VL hx
   have hM:=(Tc hM).pull2
   obtain ⟨x29,hi31,hs18⟩:=bix hs18
   obtain ⟨x32,hi34,hs18⟩:=bix hs18
   obtain ⟨r35,e36,hs18⟩:=bind_some hs18
   refine Wo (its:=[own NoB (x22.Data : (List UInt8)) [u26],Jk NoB (r5.2.2.1 : List GShare) (s15.2.2.1).toNat u7 (cat [[vB x22.Place],[u26]]),osl NoB (s15.2.2.2 : List GShare) u16]) (mk:=([([13],fun bs _=>(tog (bs.getD 0 false) (raw b3 (cat [[v0_1],[vI s15.1],[(Value.int .u64 s15.2.1)]])) (raw b3 (cat [[v0_1],[vI r35.1.1],[(Value.int .u64 r35.1.2)]])))),mkN [(15,fun v=>osl NoB (([(⟨x22.Place,r35.2⟩ : GShare)] : List GShare) : List GShare) v),(13,fun v=>osl NoB (r35.2 : List UInt8) v)]] : Mk)) [26,27,28,29,30,31,32,33,34,35,36,37,38,39,40,41] Wb rfl rfl (by decide) rfl hE (fun u=>M.qS (M.qE (M.q0 hM.drew u) emN) fun _=>rfl) (qsP (fun z=>Zh z.E Za ld rfl (kr0 rfl)) (qsP (fun z=>Zh z.E Za ld rfl (kr0 rfl)) (qsP (fun z=>Zh z.E Za ld rfl (kr0 rfl)) (qsP (fun z=>Jz (pre:=[_]) z.E z.M Za ld rfl rfl Tryz.underlying24 ZN hi31.1 (kr0 rfl)) (qsP (fun z=>Zv z.E Za ld rfl (XQ) (kr0 rfl)) (qsP (fun z=>ZE (v:=(vB x22.Place)) z.E Za ld rfl ty5 rfl (At.cat (pre:=[]) (z.M.holeAt (pre:=[_])) cl0) (kr0 rfl)) (qsP (fun z=>Zh z.E Za ld rfl (kr0 rfl)) (qsP (fun z=>Zh z.E Za ld rfl (kr0 rfl)) (qsP (fun z=>Zh z.E Za ld rfl (kr0 rfl)) (qsP (fun z=>Jz (pre:=[_]) z.E z.M Za ld rfl rfl Tryz.underlying24 ZN hi34.1 (kr0 rfl)) (qsP (fun z=>Zv z.E Za ld rfl (Yj) (kr0 rfl)) (qsP (fun z=>ZE (v:=u26) z.E Za ld rfl YS rfl (At.cat (pre:=[[vB x22.Place]]) (z.M.holeAt (pre:=[_])) ck) (kr0 rfl)) (qsP (fun z=>XN z.E Za ld rfl Tryz.underlying22 (z.M.ro (pre:=[]) noB) (kr0 rfl)) (qsM (pr:=fun v=>True) ?_ (qsD (ds:=[13]) (f:=fun us=>(Value.agg (cat [[vB x22.Place],[(us.getD 0 undef)]]).toArray)) ?_ (qsM (pr:=fun v=>True) ?_ qs0)))))))))))))))) ?_
   ·intro a w ux28 D z
    have hE:=z.E
    have hD : D 13 = false:=z.F
    have hM:=M.tailP (m:=[_]) ((z.M.togA (pre:=[_,_,_]) hD).pull3)
    refine Zq hE rfl cb63 (VY _ _ _ _ b3 p0 v0_1 hv0_1 (s15.1,s15.2.1) (x22.Data.length : Int) hM r35 e36) ?_
    rintro u37 w a ⟨_,rfl,hM⟩ hE
    have hM:=M.tailU (m:=[_,_]) hM
    simp only [List.cons_append,List.nil_append] at hM
    have hM:=hM.pull4.pull4.pull4.pull4
    have hq14 : D 14 = false:=offD (j:=14) (k:=1) z.c rfl rfl rfl hD
    have hq15 : D 15 = false:=offD (j:=15) (k:=0) z.c rfl rfl rfl hq14
    exact ⟨_,_,rfl,hE,M.qUnconst (p:=([13],fun bs _=>(tog (bs.getD 0 false) (raw b3 (cat [[v0_1],[vI s15.1],[(Value.int .u64 s15.2.1)]])) (raw b3 (cat [[v0_1],[vI r35.1.1],[(Value.int .u64 r35.1.2)]]))))) (its:=[own NoB (x22.Data : (List UInt8)) [u26],Jk NoB (r5.2.2.1 : List GShare) (s15.2.2.1).toNat u7 (cat [[vB x22.Place],[u26]]),osl NoB (s15.2.2.2 : List GShare) u16]) (mk1:=([] : Mk)) (mk2:=([mkN [(15,fun v=>osl NoB (([(⟨x22.Place,r35.2⟩ : GShare)] : List GShare) : List GShare) v),(13,fun v=>osl NoB (r35.2 : List UInt8) v)]] : Mk)) (M.qPut (p:=mkN [(15,fun v=>osl NoB (([(⟨x22.Place,r35.2⟩ : GShare)] : List GShare) : List GShare) v),(13,fun v=>osl NoB (r35.2 : List UInt8) v)]) (its:=[own NoB (x22.Data : (List UInt8)) [u26],Jk NoB (r5.2.2.1 : List GShare) (s15.2.2.1).toNat u7 (cat [[vB x22.Place],[u26]]),osl NoB (s15.2.2.2 : List GShare) u16]) (mk1:=([([],fun _ _=>raw b3 (cat [[v0_1],[vI r35.1.1],[(Value.int .u64 r35.1.2)]]))] : Mk)) (mk2:=([] : Mk)) hM rfl (Zcf (offC hq15 (offC hD offN))) (Zap (l:=[_]) (offC hq15 offN))) (by show tog (US D 13 13) (raw b3 (cat [[v0_1],[vI s15.1],[(Value.int .u64 s15.2.1)]])) (raw b3 (cat [[v0_1],[vI r35.1.1],[(Value.int .u64 r35.1.2)]])) = _; rw [tg1 updS]),trivial⟩
   ·intro a w ux28 D z
    have hE:=z.E
    have hD : D 14 = false:=z.F
    have d13 : D 13 = true:=z.p 1 _ rfl rfl
    have hM:=z.M
    have hq15 : D 15 = false:=offD (j:=15) (k:=0) z.c rfl rfl rfl hD
    have hM:=(hM.chnF (pre:=[_,_,_,_]) hq15).chnT (pre:=[_,_,_,_]) d13
    exact YY (parts:=[(0,.tmp 31),(1,.tmp 39)]) (vs:=[(0,vB x22.Place),(1,(ux28 13))]) (cs:=cat [[vB x22.Place],[(ux28 13)]]) hE Za ld rfl rfl ZN Hu (YK (pre:=[]) (seg:=[vB 0]) (seg':=[vB x22.Place]) (post:=[[(Value.slice none 0 0)]]) rfl cl0 rfl rfl rfl (YK (pre:=[[vB x22.Place]]) (seg:=[(Value.slice none 0 0)]) (seg':=[(ux28 13)]) (post:=[]) rfl ck rfl rfl (Y2 (hM.sl (pre:=[_,_,_,_]) noB)) Wy)) fun a hE=>⟨Kept.refl _ _,(allC d13 allN),_,rfl,hE⟩
   ·intro a w ux28 D z
    have hE:=z.E
    have hD : D 15 = false:=z.F
    have d14 : D 14 = true:=z.p 0 _ rfl rfl
    have d13 : D 13 = true:=z.c 14 _ _ rfl (List.mem_of_getElem? (i:=1) rfl) rfl d14
    have hM:=((z.M.chnF (pre:=[_,_,_,_]) hD).chnT (pre:=[_,_,_,_]) d13).pull4
    have hM:=hM.pack1 (it:=own NoB (⟨x22.Place,r35.2⟩ : GShare) (cat [[vB x22.Place],[(ux28 13)]])) (VS noB) (fun f0 q0=>(W2 (X5.sat q0) (by simp)))
    exact V0 (xs:=[.tmp 40]) (seg:=cat [[vB x22.Place],[(ux28 13)]]) hE hM noB Za ld rfl rfl Tryz.underlying24 ZN rfl (by decide) fun u38 w a hM hE=>⟨_,_,rfl,hE,M.qTogS (p:=mkN [(15,fun v=>osl NoB (([(⟨x22.Place,r35.2⟩ : GShare)] : List GShare) : List GShare) v),(13,fun v=>osl NoB (r35.2 : List UInt8) v)]) (its:=[own NoB (x22.Data : (List UInt8)) [u26],Jk NoB (r5.2.2.1 : List GShare) (s15.2.2.1).toNat u7 (cat [[vB x22.Place],[u26]]),osl NoB (s15.2.2.2 : List GShare) u16]) (mk1:=[_]) (mk2:=[]) hM rfl (Zap (l:=[]) offN),trivial⟩
   ·intro a w ux28 D hE hM hG hall
    have d13:=hall 13 (by decide)
    have d15:=hall 15 (by decide)
    have hM:=(hM.togB (pre:=[_,_,_]) d13).chnT (pre:=[_,_,_,_]) d15
    obtain ⟨l40,e41,hs18⟩:=bind_some hs18
    obtain ⟨e44,rfl⟩:=ZY e41
    have hM:=hM.pull4.pull3
    refine UM hE hM noB Za ld rfl rfl Tryz.underlying24 ZN rfl (by decide) e44 fun u42 w a hM hE=>Zb hE rfl fun a hE=>Zj (Yg (Zu (wp_region_lit (Zd hE rfl fun a hE=>Zk hE rfl rfl rfl fun a hE=>Zb hE rfl fun a hE=>Zj ?_))))
    have hM:=(UJ (x:=x22) hM.pull3.pull1.pull3.pull3 siw).close0 noB hi24.2
    refine Zi ?_
    have hM:=hM.pull1.pull1.pull2
    exact ⟨_,(ois hs18),u42,hE.sub ⟨rfl,rfl,rfl,rfl,rfl,trivial⟩,hM⟩
  ·intro hb21
   have hs18:=Zo hs18 hb21
   refine wp_exit (Zs (Zs (Ys ?_)))
   obtain rfl:=hx19 _ (ois hs18)
   refine Zi ?_
   exact ⟨u16,hE.sub ⟨rfl,rfl,rfl,rfl,trivial⟩,hM⟩
 ·skip
  rintro a w ⟨u13,hE,hM⟩
  refine Zu ?_
  obtain ⟨j46,hl47,hF48⟩:=bind_some hF12
  refine Zx (fun a w=>∃ (u49 : Value),Env 68 a [(6,vI r5.2.1),(7,u7),(9,u49)] ∧ M (Old w0) w0 w [osl NoB (r5.2.2.1 : List GShare) u7,osl NoB (j46 : List GShare) u49]) ?_ ?_
  ·skip
   refine Zc (Zd hE rfl ?_); intro a hE
   have hM:=M.tailP (m:=[_]) hM
   obtain ⟨r51,e52,hl47⟩:=bind_some hl47
   refine Zq hE rfl Tn (ZF _ _ _ _ b3 p0 v0_1 hv0_1 (j10.1,j10.2.1) 16 hM r51 e52) ?_
   rintro v w a ⟨rfl,hM⟩ hE
   have hM:=M.tailU (m:=[_]) hM
   simp only [List.cons_append,List.nil_append] at hM
   refine Ze (wp_block (Zc (Zk hE rfl rfl rfl fun a hE=>Zb hE rfl fun a hE=>Ze ?_)))
   obtain ⟨j53,hl54,hF55⟩:=bind_some hl47
   refine ZP (fun a w=>∃ (u56 : Value),Env 68 a [(6,vI r5.2.1),(7,u7),(9,u56)] ∧ M (Old w0) w0 w [osl NoB (r5.2.2.1 : List GShare) u7,osl NoB (j53 : List GShare) u56]) ?_ ?_
   ·skip
    refine Zm hE rfl ?_ ?_
    ·intro hb58
     have hl54:=Zn hl54 hb58
     refine Zc (Zd hE rfl fun a hE=>ZL hE rfl Tryz.underlying24 (hM.sl (pre:=[_,_]) noB) fun a hE=>Zk hE rfl rfl rfl fun a hE=>Ze ?_)
     refine Zm hE rfl ?_ ?_
     ·intro hb59
      have hl54:=Zn hl54 hb59
      refine wp_region_lit (Zd hE rfl fun a hE=>Zd hE rfl ?_); intro a hE
      obtain ⟨x60,hi62,hl54⟩:=bix hl54
      refine ZG hE rfl rfl Tryz.underlying24 ZN (hM.sl (pre:=[_,_]) noB) hi62.1 fun a hE=>ZI hE rfl (XQ) ?_; intro a hE
      obtain ⟨cs63,hs64,hA65⟩:=Z3 (hM.sl (pre:=[_,_]) noB) hi62.2
      obtain ⟨u66,rfl,_⟩:=ZQ hs64
      refine ZX (v:=(vB x60.Place)) hE rfl ty5 rfl (At.cat (pre:=[]) hA65 cl0) fun a hE=>Zk hE rfl rfl (Ur x60.Place 64) ?_; intro a hE
      obtain ⟨x67,hi69,hl54⟩:=bix hl54
      refine ZG hE rfl rfl Tryz.underlying24 ZN (hM.sl (pre:=[_,_]) noB) hi69.1 fun a hE=>ZI hE rfl (XQ) ?_; intro a hE
      have hM:=hM.pull2
      obtain ⟨cs70,hM,_⟩:=hM.open1 noB hi69.2
      obtain ⟨_,hx,_⟩:=hM.head
      obtain ⟨u71,_,rfl,_,_⟩:=VL hx
      have hM:=(Tc hM).pull1
      refine H4 (k0:=0 + 0) (seg:=[(vB (x60.Place ^^^ 64))]) (cs':=cat [[(vB (x60.Place ^^^ 64))],[u71]]) hE hM noB Za rfl rfl rfl ty5 rfl (Flat.cell (x60.Place ^^^ 64 : UInt8)) (Th (pre:=[]) cl0 rfl) (Wj (pre:=[]) cl0 rfl) fun w a hM hE=>Zj ?_
      have hM:=(UJ (x:=(⟨x60.Place ^^^ 64,x67.Data⟩ : GShare)) hM.pull3.pull3.pull2.pull3 siw).close1 noB
      obtain rfl:=Option.some.inj hl54
      refine Zi ?_
      have hM:=M.fst (l:=[_,_]) hM.pull2
      exact ⟨u13,hE.sub ⟨rfl,rfl,rfl,trivial⟩,hM⟩
     ·intro hb59
      have hl54:=Zo hl54 hb59
      refine wp_skip ?_
      obtain rfl:=Option.some.inj hl54
      refine Zi ?_
      have hM:=M.fst (l:=[_,_]) hM.pull2.pull2
      exact ⟨u13,hE.sub ⟨rfl,rfl,rfl,trivial⟩,hM⟩
    ·intro hb58
     have hl54:=Zo hl54 hb58
     refine Zc (Zk hE rfl rfl rfl fun a hE=>Zb hE rfl fun a hE=>Ze ?_)
     refine Zm hE rfl ?_ ?_
     ·intro hb75
      have hl54:=Zn hl54 hb75
      refine Zc (Zd hE rfl fun a hE=>ZL hE rfl Tryz.underlying24 (hM.sl (pre:=[_,_]) noB) fun a hE=>Zk hE rfl rfl rfl fun a hE=>Ze ?_)
      refine Zm hE rfl ?_ ?_
      ·intro hb76
       have hl54:=Zn hl54 hb76
       refine wp_region_lit (Zd hE rfl ?_); intro a hE
       obtain ⟨l77,e78,hl54⟩:=bind_some hl54
       refine QZ hE Za ld rfl rfl rfl rfl rfl Tryz.underlying24 ZN (hM.sl (pre:=[_,_]) noB) e78 fun a hE=>Zb hE rfl fun a hE=>Zj ?_
       have hM:=hM.pull2.cutF noB e78
       obtain rfl:=Option.some.inj hl54
       refine Zi ?_
       have hM:=M.fst (l:=[_,_]) hM.pull2
       exact ⟨(Vc u13 ((1 : Int)).toNat ((j10.2.2.length : Int)).toNat 2),hE.sub ⟨rfl,rfl,rfl,trivial⟩,hM⟩
      ·intro hb76
       have hl54:=Zo hl54 hb76
       refine wp_skip ?_
       obtain rfl:=Option.some.inj hl54
       refine Zi ?_
       have hM:=M.fst (l:=[_,_]) hM.pull2.pull2
       exact ⟨u13,hE.sub ⟨rfl,rfl,rfl,trivial⟩,hM⟩
     ·intro hb75
      have hl54:=Zo hl54 hb75
      refine wp_skip ?_
      obtain rfl:=Option.some.inj hl54
      refine Zi ?_
      have hM:=M.fst (l:=[_,_]) hM.pull2.pull2
      exact ⟨u13,hE.sub ⟨rfl,rfl,rfl,trivial⟩,hM⟩
   ·skip
    rintro a w ⟨u56,hE,hM⟩
    refine Yg ?_
    obtain rfl:=Option.some.inj hF55
    refine Zi ?_
    exact ⟨u56,hE.sub ⟨rfl,rfl,rfl,trivial⟩,hM⟩
  ·skip
   rintro a w ⟨u49,hE,hM⟩
   refine Zc (Zd hE rfl fun a hE=>Zd hE rfl fun a hE=>Zd hE rfl fun a hE=>Zb hE rfl fun a hE=>Zb hE rfl fun a hE=>Zb hE rfl fun a hE=>Ze ?_)
   obtain rfl:=Option.some.inj hF48
   exact wp_ret (KD hE rfl (Zl hE rfl) (Zl hE rfl) (Zl hE rfl) ⟨_,rfl,u7,u49,rfl,hM.outF (Z8 (Z8 Yd)),hM.kept⟩)
def VV (p0 : Int) (p1 : (List GShare)) (p2 : (List GShare)) : Option ((List GShare) × Int) :=
 (YC p0 p1 1).bind fun r1=>(YC p0 p2 1).bind fun r3=>(if (r1 == 1) = true then (some true) else (some (r3 == 1)) : Option (Bool)).bind fun j5=>if j5 = true then (some ([],1)) else ((if (r1 != 0) = true then (some true) else (if (r3 != 0) = true then (some true) else ((YP p1).bind fun r21=>(YP p2).bind fun r24=>(UE r21 r24).bind fun r27=>if (!r27) = true then (some true) else ((idx p1 (0 : Int)).bind fun x31=>(idx p2 (0 : Int)).bind fun x39=>some ((x31.Data.length : Int) != (x39.Data.length : Int))))) : Option (Bool)).bind fun j13=>if j13 = true then (some ([],2)) else ((U8 p1 p2).bind fun r50=>some (r50,0)))
theorem Bq (w0 : World) (p0 : Int) (p1 : (List GShare)) (v1_1 : Value) (hv1_1 : Ro w0 p1 [v1_1]) (p2 : (List GShare)) (v2_1 : Value) (hv2_1 : Ro w0 p2 [v2_1]) (r : (List GShare) × Int) (hF : VV p0 p1 p2 = some r) :
  Calls Tryz.prog 32 [vI p0,v1_1,v2_1].toArray w0 (fun en w'=>∃ v,en = .returned v ∧ (∃ (y1 : Value),v = (Value.tuple [y1,vI r.2].toArray) ∧ Fr w0 w' [osl NoB (r.1 : List GShare) y1] ∧ Kept (Old w0) w0 w')):=by
 refine ce Tryz.func32 ?_
 intro a hE
 have hM:=M.start w0
 unfold VV at hF
 refine Zc (Zb hE rfl fun a hE=>Zb hE rfl fun a hE=>Ze (Zc (Zd hE rfl fun a hE=>Zd hE rfl ?_))); intro a hE
 obtain ⟨r1,e2,hF⟩:=bind_some hF
 refine Zq hE rfl cb40 (Wd _ p0 p1 v1_1 (hM.rdo hv1_1) 1 r1 e2) ?_
 rintro v w a ⟨rfl,hK⟩ hE
 have hM:=hM.keep hK
 refine Zd hE rfl fun a hE=>Zd hE rfl ?_; intro a hE
 obtain ⟨r3,e4,hF⟩:=bind_some hF
 refine Zq hE rfl cb40 (Wd _ p0 p2 v2_1 (hM.rdo hv2_1) 1 r3 e4) ?_
 rintro v w a ⟨rfl,hK⟩ hE
 have hM:=hM.keep hK
 refine Zb hE rfl fun a hE=>Zb hE rfl fun a hE=>Ze (wp_seq (wp_block ?_))
 obtain ⟨j5,hl6,hF7⟩:=bind_some hF
 refine Zx (fun a w=>Env 54 a [(1,v1_1),(2,v2_1),(8,vI r1),(9,vI r3),(16,vT j5)] ∧ M (Old w0) w0 w []) ?_ ?_
 ·skip
  refine wp_region_lit (Zd hE rfl fun a hE=>Zk hE rfl rfl rfl fun a hE=>Zd hE rfl ?_); intro a hE
  refine ZO (r1 == 1) (fun hb8=>?_) (fun hb8=>?_)
  ·have hl6:=Zn hl6 hb8
   refine Zg hE rfl (lkb rfl hb8) rfl (by decide) fun a hE=>Zg hE rfl (lkb rfl hb8) rfl (by decide) fun a hE=>ZB hE (lkb rfl hb8) rfl fun a hE=>Zb hE rfl fun a hE=>Zj ?_
   obtain rfl:=Option.some.inj hl6
   refine Zi ?_
   exact ⟨hE.sub ⟨rfl,rfl,rfl,rfl,rfl,trivial⟩,hM⟩
  ·have hl6:=Zo hl6 hb8
   refine Zh hE (Zf hE rfl (lkb rfl hb8)) (by decide) rfl fun a hE=>ZJ hE (Zf hE rfl (lkb rfl hb8)) (by decide) rfl rfl rfl fun a hE=>Zy hE (lkb rfl hb8) rfl fun a hE=>Zb hE rfl fun a hE=>Zj ?_
   obtain rfl:=Option.some.inj hl6
   refine Zi ?_
   exact ⟨hE.sub ⟨rfl,rfl,rfl,rfl,rfl,trivial⟩,hM⟩
 ·skip
  rintro a w ⟨hE,hM⟩
  refine Zm hE rfl ?_ ?_
  ·intro hb11
   have hF7:=Zn hF7 hb11
   refine Zc (Zb hE rfl fun a hE=>Zb hE rfl fun a hE=>Ze ?_)
   have hM:=M.nilS (α:=GShare) NoB noB hM
   obtain rfl:=Option.some.inj hF7
   exact wp_ret (Z4 (Zr (Z0 hE rfl (Zl hE rfl) (Zl hE rfl) ⟨_,rfl,(Value.slice none 0 0),rfl,hM.outF (Z8 Yd),hM.kept⟩)))
  ·intro hb11
   have hF7:=Zo hF7 hb11
   obtain ⟨j13,hl14,hF15⟩:=bind_some hF7
   refine Zx (fun a w=>Env 54 a [(1,v1_1),(2,v2_1),(23,vT j13)] ∧ M (Old w0) w0 w []) ?_ ?_
   ·skip
    refine ZO (r1 != 0) (fun hb17=>?_) (fun hb17=>?_)
    ·have hl14:=Zn hl14 hb17
     refine Wo (its:=[]) (mk:=([] : Mk)) [24,25,26,27,28,29,30,31,32,33,34,35,36,37,38,39,40,41,42,43,44,45,46,47,48] Wb rfl rfl (by decide) rfl hE (fun u=>M.q0 hM.drew u) (qsP (fun z=>Zh z.E Za ld rfl (kr0 rfl)) (qsP (fun z=>ZJ z.E Za ld rfl rfl rfl (kr0 rfl)) (qsP (fun z=>Zh z.E Za ld rfl (kr0 rfl)) (qsP (fun z=>Zg z.E rfl (lkb rfl hb17) rfl (by decide) (kr0 rfl)) (qsP (fun z=>Zg z.E rfl (lkb rfl hb17) rfl (by decide) (kr0 rfl)) (qsP (fun z=>WT z.E Za ld (lkb rfl hb17) rfl (kr0 rfl)) (qsP (fun z=>Zh z.E Za ld rfl (kr0 rfl)) (qsP (fun z=>Zg z.E rfl rfl rfl (by decide) (kr0 rfl)) (qsP (fun z=>Zg z.E rfl rfl rfl (by decide) (kr0 rfl)) (qsP (fun z=>Zg z.E rfl rfl rfl (by decide) (kr0 rfl)) (qsP (fun z=>Zg z.E rfl rfl rfl (by decide) (kr0 rfl)) (qsP (fun z=>Zg z.E rfl rfl rfl (by decide) (kr0 rfl)) (qsP (fun z=>Zg z.E rfl rfl rfl (by decide) (kr0 rfl)) (qsP (fun z=>WT z.E Za ld rfl rfl (kr0 rfl)) (qsP (fun z=>Zh z.E Za ld rfl (kr0 rfl)) (qsP (fun z=>Zg z.E rfl rfl rfl (by decide) (kr0 rfl)) (qsP (fun z=>Zg z.E rfl rfl rfl (by decide) (kr0 rfl)) (qsP (fun z=>Zg z.E rfl rfl rfl (by decide) (kr0 rfl)) (qsP (fun z=>Zg z.E rfl rfl rfl (by decide) (kr0 rfl)) (qsP (fun z=>Zg z.E rfl rfl rfl (by decide) (kr0 rfl)) (qsP (fun z=>Zg z.E rfl rfl rfl (by decide) (kr0 rfl)) (qsP (fun z=>Zg z.E rfl rfl rfl (by decide) (kr0 rfl)) (qsP (fun z=>Zg z.E rfl rfl rfl (by decide) (kr0 rfl)) (qsP (fun z=>Zg z.E rfl rfl rfl (by decide) (kr0 rfl)) (qsP (fun z=>Zg z.E rfl rfl rfl (by decide) (kr0 rfl)) qs0))))))))))))))))))))))))) ?_
     ·intro a w ux16 D hE hM hG hall
      refine Zg hE rfl rfl rfl (by decide) fun a hE=>ZB hE rfl rfl fun a hE=>Zb hE rfl fun a hE=>Zj ?_
      obtain rfl:=Option.some.inj hl14
      refine Zi ?_
      exact ⟨hE.sub ⟨rfl,rfl,rfl,trivial⟩,hM⟩
    ·have hl14:=Zo hl14 hb17
     refine ZO (r3 != 0) (fun hb19=>?_) (fun hb19=>?_)
     ·have hl14:=Zn hl14 hb19
      refine Wo (its:=[]) (mk:=([] : Mk)) [24,25,26,27,28,29,30,31,32,33,34,35,36,37,38,39,40,41,42,43,44,45,46,47,48] Wb rfl rfl (by decide) rfl hE (fun u=>M.q0 hM.drew u) (qsP (fun z=>Zh z.E Za ld rfl (kr0 rfl)) (qsP (fun z=>ZJ z.E Za ld rfl rfl rfl (kr0 rfl)) (qsP (fun z=>Zh z.E Za ld rfl (kr0 rfl)) (qsP (fun z=>Zh z.E (Zf z.E rfl (lkb rfl hb17)) (by decide) rfl (kr0 rfl)) (qsP (fun z=>ZJ z.E (Zf z.E rfl (lkb rfl hb17)) (by decide) rfl rfl rfl (kr0 rfl)) (qsP (fun z=>Wl z.E Za ld (lkb rfl hb17) rfl (kr0 rfl)) (qsP (fun z=>Zh z.E Za ld rfl (kr0 rfl)) (qsP (fun z=>Zg z.E rfl (lkb rfl hb19) rfl (by decide) (kr0 rfl)) (qsP (fun z=>Zg z.E rfl (lkb rfl hb19) rfl (by decide) (kr0 rfl)) (qsP (fun z=>Zg z.E rfl (lkb rfl hb19) rfl (by decide) (kr0 rfl)) (qsP (fun z=>Zg z.E rfl (lkb rfl hb19) rfl (by decide) (kr0 rfl)) (qsP (fun z=>Zg z.E rfl (lkb rfl hb19) rfl (by decide) (kr0 rfl)) (qsP (fun z=>Zg z.E rfl (lkb rfl hb19) rfl (by decide) (kr0 rfl)) (qsP (fun z=>WT z.E Za ld (lkb rfl hb19) rfl (kr0 rfl)) (qsP (fun z=>Zh z.E Za ld rfl (kr0 rfl)) (qsP (fun z=>Zg z.E rfl rfl rfl (by decide) (kr0 rfl)) (qsP (fun z=>Zg z.E rfl rfl rfl (by decide) (kr0 rfl)) (qsP (fun z=>Zg z.E rfl rfl rfl (by decide) (kr0 rfl)) (qsP (fun z=>Zg z.E rfl rfl rfl (by decide) (kr0 rfl)) (qsP (fun z=>Zg z.E rfl rfl rfl (by decide) (kr0 rfl)) (qsP (fun z=>Zg z.E rfl rfl rfl (by decide) (kr0 rfl)) (qsP (fun z=>Zg z.E rfl rfl rfl (by decide) (kr0 rfl)) (qsP (fun z=>Zg z.E rfl rfl rfl (by decide) (kr0 rfl)) (qsP (fun z=>Zg z.E rfl rfl rfl (by decide) (kr0 rfl)) (qsP (fun z=>Zg z.E rfl rfl rfl (by decide) (kr0 rfl)) qs0))))))))))))))))))))))))) ?_
      ·intro a w ux16 D hE hM hG hall
       refine Zg hE rfl rfl rfl (by decide) fun a hE=>ZB hE rfl rfl fun a hE=>Zb hE rfl fun a hE=>Zj ?_
       obtain rfl:=Option.some.inj hl14
       refine Zi ?_
       exact ⟨hE.sub ⟨rfl,rfl,rfl,trivial⟩,hM⟩
     ·have hl14:=Zo hl14 hb19
      obtain ⟨r21,e22,hl14⟩:=bind_some hl14
      obtain ⟨r24,e25,hl14⟩:=bind_some hl14
      obtain ⟨r27,e28,hl14⟩:=bind_some hl14
      refine ZO (!r27) (fun hb29=>?_) (fun hb29=>?_)
      ·have hl14:=Zn hl14 hb29
       refine Wo (its:=[]) (mk:=([mkO 8 (fun v=>osl NoB (r21 : List UInt8) v),mkO 10 (fun v=>osl NoB (r24 : List UInt8) v)] : Mk)) [24,25,26,27,28,29,30,31,32,33,34,35,36,37,38,39,40,41,42,43,44,45,46,47,48] Wb rfl rfl (by decide) rfl hE (fun u=>M.qE (M.qE (M.q0 hM.drew u) emO) emO) (qsP (fun z=>Zh z.E Za ld rfl (kr0 rfl)) (qsP (fun z=>ZJ z.E Za ld rfl rfl rfl (kr0 rfl)) (qsP (fun z=>Zh z.E Za ld rfl (kr0 rfl)) (qsP (fun z=>Zh z.E (Zf z.E rfl (lkb rfl hb17)) (by decide) rfl (kr0 rfl)) (qsP (fun z=>ZJ z.E (Zf z.E rfl (lkb rfl hb17)) (by decide) rfl rfl rfl (kr0 rfl)) (qsP (fun z=>Wl z.E Za ld (lkb rfl hb17) rfl (kr0 rfl)) (qsP (fun z=>Zh z.E Za ld rfl (kr0 rfl)) (qsP (fun z=>Zh z.E (Zf z.E rfl (lkb rfl hb19)) (by decide) rfl (kr0 rfl)) (qsM (pr:=fun v=>True) ?_ (qsP (fun z=>Zh z.E (Zf z.E rfl (lkb rfl hb19)) (by decide) rfl (kr0 rfl)) (qsM (pr:=fun v=>True) ?_ (qsP (v:=(vT r27)) ?_ (qsP (fun z=>U5 z.E (Zf z.E rfl (lkb rfl hb19)) (by decide) rfl (kr0 rfl)) (qsP (fun z=>Wl z.E Za ld (lkb rfl hb19) rfl (kr0 rfl)) (qsP (fun z=>Zh z.E Za ld rfl (kr0 rfl)) (qsP (fun z=>Zg z.E rfl (lkb rfl hb29) rfl (by decide) (kr0 rfl)) (qsP (fun z=>Zg z.E rfl (lkb rfl hb29) rfl (by decide) (kr0 rfl)) (qsP (fun z=>Zg z.E rfl (lkb rfl hb29) rfl (by decide) (kr0 rfl)) (qsP (fun z=>Zg z.E rfl (lkb rfl hb29) rfl (by decide) (kr0 rfl)) (qsP (fun z=>Zg z.E rfl (lkb rfl hb29) rfl (by decide) (kr0 rfl)) (qsP (fun z=>Zg z.E rfl (lkb rfl hb29) rfl (by decide) (kr0 rfl)) (qsP (fun z=>Zg z.E rfl (lkb rfl hb29) rfl (by decide) (kr0 rfl)) (qsP (fun z=>Zg z.E rfl (lkb rfl hb29) rfl (by decide) (kr0 rfl)) (qsP (fun z=>Zg z.E rfl (lkb rfl hb29) rfl (by decide) (kr0 rfl)) (qsP (fun z=>Zg z.E rfl (lkb rfl hb29) rfl (by decide) (kr0 rfl)) qs0))))))))))))))))))))))))) ?_
       ·intro a w ux16 D z
        have hE:=z.E
        have hD : D 8 = false:=z.F
        have hM0:=z.M
        have hM:=z.M
        refine ZW hE (Zf hE rfl (lkb rfl hb19)) (by decide) rfl cb82 (Vr _ p1 v1_1 (hM.rdo hv1_1) r21 e22) ?_
        rintro _ w a ⟨_,rfl,hFr,hK⟩ hE
        have hM:=hM0.add hK hFr
        exact ⟨_,_,rfl,hE,M.qFill (mk1:=[]) (mk2:=[_]) (f:=(fun v=>osl NoB (r21 : List UInt8) v)) hM rfl hD,trivial⟩
       ·intro a w ux16 D z
        have hE:=z.E
        have hD : D 10 = false:=z.F
        have hM0:=z.M
        have hM:=z.M
        refine ZW hE (Zf hE rfl (lkb rfl hb19)) (by decide) rfl cb82 (Vr _ p2 v2_1 (hM.rdo hv2_1) r24 e25) ?_
        rintro _ w a ⟨_,rfl,hFr,hK⟩ hE
        have hM:=hM0.add hK hFr
        exact ⟨_,_,rfl,hE,M.qFill (mk1:=[_]) (mk2:=[]) (f:=(fun v=>osl NoB (r24 : List UInt8) v)) hM rfl hD,trivial⟩
       ·intro a w ux16 D z
        have hE:=z.E
        have d8 : D 8 = true:=z.p 0 _ rfl rfl
        have d10 : D 10 = true:=z.p 1 _ rfl rfl
        have hM:=(z.M.sure (pre:=[]) d8).sure (pre:=[_]) d10
        refine ZW hE (Zf hE rfl (lkb rfl hb19)) (by decide) rfl cb87 (Kf _ r21 (ux16 8) (hM.sl (pre:=[]) noB) r24 (ux16 10) (hM.sl (pre:=[_]) noB) r27 e28) ?_
        rintro v w a ⟨rfl,hK⟩ hE
        exact ⟨hK,_,rfl,hE⟩
       ·intro a w ux16 D hE hM hG hall
        have d8:=hall 8 (by decide)
        have d10:=hall 10 (by decide)
        have hM:=(hM.sure (pre:=[]) d8).sure (pre:=[_]) d10
        refine Zg hE rfl (lkb rfl hb29) rfl (by decide) fun a hE=>ZB hE (lkb rfl hb29) rfl fun a hE=>Zb hE rfl fun a hE=>Zj ?_
        obtain rfl:=Option.some.inj hl14
        refine Zi ?_
        have hM:=M.fst (l:=[]) hM
        exact ⟨hE.sub ⟨rfl,rfl,rfl,trivial⟩,hM⟩
      ·have hl14:=Zo hl14 hb29
       obtain ⟨x31,hi33,hl14⟩:=bix hl14
       obtain ⟨cs34,hs35,hA36⟩:=Z3 hv1_1 hi33.2 -- ^
       obtain ⟨u37,rfl,h38⟩:=ZQ hs35 -- ^
       obtain ⟨x39,hi41,hl14⟩:=bix hl14
       obtain ⟨cs42,hs43,hA44⟩:=Z3 hv2_1 hi41.2 -- ^
       obtain ⟨u45,rfl,h46⟩:=ZQ hs43 -- ^
       refine Wo (its:=[]) (mk:=([mkO 8 (fun v=>osl NoB (r21 : List UInt8) v),mkO 10 (fun v=>osl NoB (r24 : List UInt8) v)] : Mk)) [24,25,26,27,28,29,30,31,32,33,34,35,36,37,38,39,40,41,42,43,44,45,46,47,48] Wb rfl rfl (by decide) rfl hE (fun u=>M.qE (M.qE (M.q0 hM.drew u) emO) emO) (qsP (fun z=>Zh z.E Za ld rfl (kr0 rfl)) (qsP (fun z=>ZJ z.E Za ld rfl rfl rfl (kr0 rfl)) (qsP (fun z=>Zh z.E Za ld rfl (kr0 rfl)) (qsP (fun z=>Zh z.E (Zf z.E rfl (lkb rfl hb17)) (by decide) rfl (kr0 rfl)) (qsP (fun z=>ZJ z.E (Zf z.E rfl (lkb rfl hb17)) (by decide) rfl rfl rfl (kr0 rfl)) (qsP (fun z=>Wl z.E Za ld (lkb rfl hb17) rfl (kr0 rfl)) (qsP (fun z=>Zh z.E Za ld rfl (kr0 rfl)) (qsP (fun z=>Zh z.E (Zf z.E rfl (lkb rfl hb19)) (by decide) rfl (kr0 rfl)) (qsM (pr:=fun v=>True) ?_ (qsP (fun z=>Zh z.E (Zf z.E rfl (lkb rfl hb19)) (by decide) rfl (kr0 rfl)) (qsM (pr:=fun v=>True) ?_ (qsP (v:=(vT r27)) ?_ (qsP (fun z=>U5 z.E (Zf z.E rfl (lkb rfl hb19)) (by decide) rfl (kr0 rfl)) (qsP (fun z=>Wl z.E Za ld (lkb rfl hb19) rfl (kr0 rfl)) (qsP (fun z=>Zh z.E Za ld rfl (kr0 rfl)) (qsP (fun z=>Zh z.E (Zf z.E rfl (lkb rfl hb29)) (by decide) rfl (kr0 rfl)) (qsP (fun z=>ZA z.E (Zf z.E rfl (lkb rfl hb29)) (by decide) rfl rfl Tryz.underlying24 ZN (z.M.rd hv1_1) hi33.1 (kr0 rfl)) (qsP (fun z=>Zv z.E (Zf z.E rfl (lkb rfl hb29)) (by decide) rfl (Yj) (kr0 rfl)) (qsP (fun z=>ZE (v:=u37) z.E (Zf z.E rfl (lkb rfl hb29)) (by decide) rfl YS rfl (At.cat (pre:=[[vB x31.Place]]) (z.M.atk hA36 (Yr hv1_1 hi33.2)) ck) (kr0 rfl)) (qsP (fun z=>XN z.E (Zf z.E rfl (lkb rfl hb29)) (by decide) rfl Tryz.underlying22 (z.M.rd h38) (kr0 rfl)) (qsP (fun z=>Zh z.E (Zf z.E rfl (lkb rfl hb29)) (by decide) rfl (kr0 rfl)) (qsP (fun z=>ZA z.E (Zf z.E rfl (lkb rfl hb29)) (by decide) rfl rfl Tryz.underlying24 ZN (z.M.rd hv2_1) hi41.1 (kr0 rfl)) (qsP (fun z=>Zv z.E (Zf z.E rfl (lkb rfl hb29)) (by decide) rfl (Yj) (kr0 rfl)) (qsP (fun z=>ZE (v:=u45) z.E (Zf z.E rfl (lkb rfl hb29)) (by decide) rfl YS rfl (At.cat (pre:=[[vB x39.Place]]) (z.M.atk hA44 (Yr hv2_1 hi41.2)) ck) (kr0 rfl)) (qsP (fun z=>XN z.E (Zf z.E rfl (lkb rfl hb29)) (by decide) rfl Tryz.underlying22 (z.M.rd h46) (kr0 rfl)) qs0))))))))))))))))))))))))) ?_
       ·intro a w ux16 D z
        have hE:=z.E
        have hD : D 8 = false:=z.F
        have hM0:=z.M
        have hM:=z.M
        refine ZW hE (Zf hE rfl (lkb rfl hb19)) (by decide) rfl cb82 (Vr _ p1 v1_1 (hM.rdo hv1_1) r21 e22) ?_
        rintro _ w a ⟨_,rfl,hFr,hK⟩ hE
        have hM:=hM0.add hK hFr
        exact ⟨_,_,rfl,hE,M.qFill (mk1:=[]) (mk2:=[_]) (f:=(fun v=>osl NoB (r21 : List UInt8) v)) hM rfl hD,trivial⟩
       ·intro a w ux16 D z
        have hE:=z.E
        have hD : D 10 = false:=z.F
        have hM0:=z.M
        have hM:=z.M
        refine ZW hE (Zf hE rfl (lkb rfl hb19)) (by decide) rfl cb82 (Vr _ p2 v2_1 (hM.rdo hv2_1) r24 e25) ?_
        rintro _ w a ⟨_,rfl,hFr,hK⟩ hE
        have hM:=hM0.add hK hFr
        exact ⟨_,_,rfl,hE,M.qFill (mk1:=[_]) (mk2:=[]) (f:=(fun v=>osl NoB (r24 : List UInt8) v)) hM rfl hD,trivial⟩
       ·intro a w ux16 D z
        have hE:=z.E
        have d8 : D 8 = true:=z.p 0 _ rfl rfl
        have d10 : D 10 = true:=z.p 1 _ rfl rfl
        have hM:=(z.M.sure (pre:=[]) d8).sure (pre:=[_]) d10
        refine ZW hE (Zf hE rfl (lkb rfl hb19)) (by decide) rfl cb87 (Kf _ r21 (ux16 8) (hM.sl (pre:=[]) noB) r24 (ux16 10) (hM.sl (pre:=[_]) noB) r27 e28) ?_
        rintro v w a ⟨rfl,hK⟩ hE
        exact ⟨hK,_,rfl,hE⟩
       ·intro a w ux16 D hE hM hG hall
        have d8:=hall 8 (by decide)
        have d10:=hall 10 (by decide)
        have hM:=(hM.sure (pre:=[]) d8).sure (pre:=[_]) d10
        refine ZJ hE (Zf hE rfl (lkb rfl hb29)) (by decide) rfl rfl rfl fun a hE=>Zy hE (lkb rfl hb29) rfl fun a hE=>Zb hE rfl fun a hE=>Zj ?_
        obtain rfl:=Option.some.inj hl14
        refine Zi ?_
        have hM:=M.fst (l:=[]) hM
        exact ⟨hE.sub ⟨rfl,rfl,rfl,trivial⟩,hM⟩
   ·skip
    rintro a w ⟨hE,hM⟩
    refine Zm hE rfl ?_ ?_
    ·intro hb48
     have hF15:=Zn hF15 hb48
     refine Zc (Zb hE rfl fun a hE=>Zb hE rfl fun a hE=>Ze ?_)
     have hM:=M.nilS (α:=GShare) NoB noB hM
     obtain rfl:=Option.some.inj hF15
     exact wp_ret (Z4 (Zr (Z0 hE rfl (Zl hE rfl) (Zl hE rfl) ⟨_,rfl,(Value.slice none 0 0),rfl,hM.outF (Z8 Yd),hM.kept⟩)))
    ·intro hb48
     have hF15:=Zo hF15 hb48
     refine wp_skip (Yg (Zu (Zc (Zd hE rfl fun a hE=>Zd hE rfl ?_)))); intro a hE
     obtain ⟨r50,e51,hF15⟩:=bind_some hF15
     refine Zq hE rfl (cbm Tryz.func80) (HE _ p1 v1_1 (hM.rdo hv1_1) p2 v2_1 (hM.rdo hv2_1) r50 e51) ?_
     rintro u52 w a ⟨_,rfl,hFr,hK⟩ hE
     have hM:=hM.add hK hFr
     refine Zb hE rfl fun a hE=>Zb hE rfl fun a hE=>Ze ?_
     obtain rfl:=Option.some.inj hF15
     exact wp_ret (Z0 hE rfl (Zl hE rfl) (Zl hE rfl) ⟨_,rfl,u52,rfl,hM.outF (Z8 Yd),hM.kept⟩)
def Uf (p0 : Int) (p1 : (List GShare)) (p2 : (List GShare)) : Option ((List GShare) × Int) :=
 (XW p0).bind fun r1=>if (!r1) = true then (some ([],1)) else ((Vh p1).bind fun r5=>(Vh p2).bind fun r7=>(if (r5 == 1) = true then (some true) else (some (r7 == 1)) : Option (Bool)).bind fun j9=>if j9 = true then (some ([],1)) else ((if (r5 != 0) = true then (some true) else (if (r7 != 0) = true then (some true) else ((YT p1).bind fun r25=>(YT p2).bind fun r28=>(VB r25 r28).bind fun r31=>if (!r31) = true then (some true) else ((idx p1 (0 : Int)).bind fun x35=>(idx p2 (0 : Int)).bind fun x43=>some ((x35.Data.length : Int) != (x43.Data.length : Int))))) : Option (Bool)).bind fun j17=>if j17 = true then (some ([],2)) else ((UN p1 p2).bind fun r54=>some (r54,0))))
theorem Br (w0 : World) (p0 : Int) (p1 : (List GShare)) (v1_1 : Value) (hv1_1 : Ro w0 p1 [v1_1]) (p2 : (List GShare)) (v2_1 : Value) (hv2_1 : Ro w0 p2 [v2_1]) (r : (List GShare) × Int) (hF : Uf p0 p1 p2 = some r) :
  Calls Tryz.prog 33 [vI p0,v1_1,v2_1].toArray w0 (fun en w'=>∃ v,en = .returned v ∧ (∃ (y1 : Value),v = (Value.tuple [y1,vI r.2].toArray) ∧ Fr w0 w' [osl NoB (r.1 : List GShare) y1] ∧ Kept (Old w0) w0 w')):=by
 refine ce Tryz.func33 ?_
 intro a hE
 have hM:=M.start w0
 unfold Uf at hF
 refine Zc (Zb hE rfl fun a hE=>Zb hE rfl fun a hE=>Ze (wp_seq (Zc (Zd hE rfl ?_)))); intro a hE
 obtain ⟨r1,e2,hF⟩:=bind_some hF
 refine Zq hE rfl cb57 (TD _ p0 r1 e2) ?_
 rintro v w a ⟨rfl,hK⟩ hE
 have hM:=hM.keep hK
 refine Ve hE rfl fun a hE=>Ze ?_
 refine Zm hE rfl ?_ ?_
 ·intro hb3
  have hF:=Zn hF hb3
  refine Zc (Zb hE rfl fun a hE=>Zb hE rfl fun a hE=>Ze ?_)
  have hM:=M.nilS (α:=GShare) NoB noB hM
  obtain rfl:=Option.some.inj hF
  exact wp_ret (Zr (Z0 hE rfl (Zl hE rfl) (Zl hE rfl) ⟨_,rfl,(Value.slice none 0 0),rfl,hM.outF (Z8 Yd),hM.kept⟩))
 ·intro hb3
  have hF:=Zo hF hb3
  refine wp_skip (Zu (Zc (Zd hE rfl ?_))); intro a hE
  obtain ⟨r5,e6,hF⟩:=bind_some hF
  refine Zq hE rfl cb88 (QI _ p1 v1_1 (hM.rdo hv1_1) r5 e6) ?_
  rintro v w a ⟨rfl,hK⟩ hE
  have hM:=hM.keep hK
  refine Zd hE rfl ?_; intro a hE
  obtain ⟨r7,e8,hF⟩:=bind_some hF
  refine Zq hE rfl cb88 (QI _ p2 v2_1 (hM.rdo hv2_1) r7 e8) ?_
  rintro v w a ⟨rfl,hK⟩ hE
  have hM:=hM.keep hK
  refine Zb hE rfl fun a hE=>Zb hE rfl fun a hE=>Ze (wp_seq (wp_block ?_))
  obtain ⟨j9,hl10,hF11⟩:=bind_some hF
  refine Zx (fun a w=>Env 55 a [(1,v1_1),(2,v2_1),(8,vI r5),(9,vI r7),(17,vT j9)] ∧ M (Old w0) w0 w []) ?_ ?_
  ·skip
   refine wp_region_lit (Zd hE rfl fun a hE=>Zk hE rfl rfl rfl fun a hE=>Zd hE rfl ?_); intro a hE
   refine ZO (r5 == 1) (fun hb12=>?_) (fun hb12=>?_)
   ·have hl10:=Zn hl10 hb12
    refine Zg hE rfl (lkb rfl hb12) rfl (by decide) fun a hE=>Zg hE rfl (lkb rfl hb12) rfl (by decide) fun a hE=>ZB hE (lkb rfl hb12) rfl fun a hE=>Zb hE rfl fun a hE=>Zj ?_
    obtain rfl:=Option.some.inj hl10
    refine Zi ?_
    exact ⟨hE.sub ⟨rfl,rfl,rfl,rfl,rfl,trivial⟩,hM⟩
   ·have hl10:=Zo hl10 hb12
    refine Zh hE (Zf hE rfl (lkb rfl hb12)) (by decide) rfl fun a hE=>ZJ hE (Zf hE rfl (lkb rfl hb12)) (by decide) rfl rfl rfl fun a hE=>Zy hE (lkb rfl hb12) rfl fun a hE=>Zb hE rfl fun a hE=>Zj ?_
    obtain rfl:=Option.some.inj hl10
    refine Zi ?_
    exact ⟨hE.sub ⟨rfl,rfl,rfl,rfl,rfl,trivial⟩,hM⟩
  ·skip
   rintro a w ⟨hE,hM⟩
   refine Zm hE rfl ?_ ?_
   ·intro hb15
    have hF11:=Zn hF11 hb15
    refine Zc (Zb hE rfl fun a hE=>Zb hE rfl fun a hE=>Ze ?_)
    have hM:=M.nilS (α:=GShare) NoB noB hM
    obtain rfl:=Option.some.inj hF11
    exact wp_ret (Z4 (Zr (Z0 hE rfl (Zl hE rfl) (Zl hE rfl) ⟨_,rfl,(Value.slice none 0 0),rfl,hM.outF (Z8 Yd),hM.kept⟩)))
   ·intro hb15
    have hF11:=Zo hF11 hb15
    obtain ⟨j17,hl18,hF19⟩:=bind_some hF11
    refine Zx (fun a w=>Env 55 a [(1,v1_1),(2,v2_1),(24,vT j17)] ∧ M (Old w0) w0 w []) ?_ ?_
    ·skip
     refine ZO (r5 != 0) (fun hb21=>?_) (fun hb21=>?_)
     ·have hl18:=Zn hl18 hb21
      refine Wo (its:=[]) (mk:=([] : Mk)) [25,26,27,28,29,30,31,32,33,34,35,36,37,38,39,40,41,42,43,44,45,46,47,48,49] Wb rfl rfl (by decide) rfl hE (fun u=>M.q0 hM.drew u) (qsP (fun z=>Zh z.E Za ld rfl (kr0 rfl)) (qsP (fun z=>ZJ z.E Za ld rfl rfl rfl (kr0 rfl)) (qsP (fun z=>Zh z.E Za ld rfl (kr0 rfl)) (qsP (fun z=>Zg z.E rfl (lkb rfl hb21) rfl (by decide) (kr0 rfl)) (qsP (fun z=>Zg z.E rfl (lkb rfl hb21) rfl (by decide) (kr0 rfl)) (qsP (fun z=>WT z.E Za ld (lkb rfl hb21) rfl (kr0 rfl)) (qsP (fun z=>Zh z.E Za ld rfl (kr0 rfl)) (qsP (fun z=>Zg z.E rfl rfl rfl (by decide) (kr0 rfl)) (qsP (fun z=>Zg z.E rfl rfl rfl (by decide) (kr0 rfl)) (qsP (fun z=>Zg z.E rfl rfl rfl (by decide) (kr0 rfl)) (qsP (fun z=>Zg z.E rfl rfl rfl (by decide) (kr0 rfl)) (qsP (fun z=>Zg z.E rfl rfl rfl (by decide) (kr0 rfl)) (qsP (fun z=>Zg z.E rfl rfl rfl (by decide) (kr0 rfl)) (qsP (fun z=>WT z.E Za ld rfl rfl (kr0 rfl)) (qsP (fun z=>Zh z.E Za ld rfl (kr0 rfl)) (qsP (fun z=>Zg z.E rfl rfl rfl (by decide) (kr0 rfl)) (qsP (fun z=>Zg z.E rfl rfl rfl (by decide) (kr0 rfl)) (qsP (fun z=>Zg z.E rfl rfl rfl (by decide) (kr0 rfl)) (qsP (fun z=>Zg z.E rfl rfl rfl (by decide) (kr0 rfl)) (qsP (fun z=>Zg z.E rfl rfl rfl (by decide) (kr0 rfl)) (qsP (fun z=>Zg z.E rfl rfl rfl (by decide) (kr0 rfl)) (qsP (fun z=>Zg z.E rfl rfl rfl (by decide) (kr0 rfl)) (qsP (fun z=>Zg z.E rfl rfl rfl (by decide) (kr0 rfl)) (qsP (fun z=>Zg z.E rfl rfl rfl (by decide) (kr0 rfl)) (qsP (fun z=>Zg z.E rfl rfl rfl (by decide) (kr0 rfl)) qs0))))))))))))))))))))))))) ?_
      ·intro a w ux20 D hE hM hG hall
       refine Zg hE rfl rfl rfl (by decide) fun a hE=>ZB hE rfl rfl fun a hE=>Zb hE rfl fun a hE=>Zj ?_
       obtain rfl:=Option.some.inj hl18
       refine Zi ?_
       exact ⟨hE.sub ⟨rfl,rfl,rfl,trivial⟩,hM⟩
     ·have hl18:=Zo hl18 hb21
      refine ZO (r7 != 0) (fun hb23=>?_) (fun hb23=>?_)
      ·have hl18:=Zn hl18 hb23
       refine Wo (its:=[]) (mk:=([] : Mk)) [25,26,27,28,29,30,31,32,33,34,35,36,37,38,39,40,41,42,43,44,45,46,47,48,49] Wb rfl rfl (by decide) rfl hE (fun u=>M.q0 hM.drew u) (qsP (fun z=>Zh z.E Za ld rfl (kr0 rfl)) (qsP (fun z=>ZJ z.E Za ld rfl rfl rfl (kr0 rfl)) (qsP (fun z=>Zh z.E Za ld rfl (kr0 rfl)) (qsP (fun z=>Zh z.E (Zf z.E rfl (lkb rfl hb21)) (by decide) rfl (kr0 rfl)) (qsP (fun z=>ZJ z.E (Zf z.E rfl (lkb rfl hb21)) (by decide) rfl rfl rfl (kr0 rfl)) (qsP (fun z=>Wl z.E Za ld (lkb rfl hb21) rfl (kr0 rfl)) (qsP (fun z=>Zh z.E Za ld rfl (kr0 rfl)) (qsP (fun z=>Zg z.E rfl (lkb rfl hb23) rfl (by decide) (kr0 rfl)) (qsP (fun z=>Zg z.E rfl (lkb rfl hb23) rfl (by decide) (kr0 rfl)) (qsP (fun z=>Zg z.E rfl (lkb rfl hb23) rfl (by decide) (kr0 rfl)) (qsP (fun z=>Zg z.E rfl (lkb rfl hb23) rfl (by decide) (kr0 rfl)) (qsP (fun z=>Zg z.E rfl (lkb rfl hb23) rfl (by decide) (kr0 rfl)) (qsP (fun z=>Zg z.E rfl (lkb rfl hb23) rfl (by decide) (kr0 rfl)) (qsP (fun z=>WT z.E Za ld (lkb rfl hb23) rfl (kr0 rfl)) (qsP (fun z=>Zh z.E Za ld rfl (kr0 rfl)) (qsP (fun z=>Zg z.E rfl rfl rfl (by decide) (kr0 rfl)) (qsP (fun z=>Zg z.E rfl rfl rfl (by decide) (kr0 rfl)) (qsP (fun z=>Zg z.E rfl rfl rfl (by decide) (kr0 rfl)) (qsP (fun z=>Zg z.E rfl rfl rfl (by decide) (kr0 rfl)) (qsP (fun z=>Zg z.E rfl rfl rfl (by decide) (kr0 rfl)) (qsP (fun z=>Zg z.E rfl rfl rfl (by decide) (kr0 rfl)) (qsP (fun z=>Zg z.E rfl rfl rfl (by decide) (kr0 rfl)) (qsP (fun z=>Zg z.E rfl rfl rfl (by decide) (kr0 rfl)) (qsP (fun z=>Zg z.E rfl rfl rfl (by decide) (kr0 rfl)) (qsP (fun z=>Zg z.E rfl rfl rfl (by decide) (kr0 rfl)) qs0))))))))))))))))))))))))) ?_
       ·intro a w ux20 D hE hM hG hall
        refine Zg hE rfl rfl rfl (by decide) fun a hE=>ZB hE rfl rfl fun a hE=>Zb hE rfl fun a hE=>Zj ?_
        obtain rfl:=Option.some.inj hl18
        refine Zi ?_
        exact ⟨hE.sub ⟨rfl,rfl,rfl,trivial⟩,hM⟩
      ·have hl18:=Zo hl18 hb23
       obtain ⟨r25,e26,hl18⟩:=bind_some hl18
       obtain ⟨r28,e29,hl18⟩:=bind_some hl18
       obtain ⟨r31,e32,hl18⟩:=bind_some hl18
       refine ZO (!r31) (fun hb33=>?_) (fun hb33=>?_)
       ·have hl18:=Zn hl18 hb33
        refine Wo (its:=[]) (mk:=([mkO 8 (fun v=>osl NoB (r25 : List UInt8) v),mkO 10 (fun v=>osl NoB (r28 : List UInt8) v)] : Mk)) [25,26,27,28,29,30,31,32,33,34,35,36,37,38,39,40,41,42,43,44,45,46,47,48,49] Wb rfl rfl (by decide) rfl hE (fun u=>M.qE (M.qE (M.q0 hM.drew u) emO) emO) (qsP (fun z=>Zh z.E Za ld rfl (kr0 rfl)) (qsP (fun z=>ZJ z.E Za ld rfl rfl rfl (kr0 rfl)) (qsP (fun z=>Zh z.E Za ld rfl (kr0 rfl)) (qsP (fun z=>Zh z.E (Zf z.E rfl (lkb rfl hb21)) (by decide) rfl (kr0 rfl)) (qsP (fun z=>ZJ z.E (Zf z.E rfl (lkb rfl hb21)) (by decide) rfl rfl rfl (kr0 rfl)) (qsP (fun z=>Wl z.E Za ld (lkb rfl hb21) rfl (kr0 rfl)) (qsP (fun z=>Zh z.E Za ld rfl (kr0 rfl)) (qsP (fun z=>Zh z.E (Zf z.E rfl (lkb rfl hb23)) (by decide) rfl (kr0 rfl)) (qsM (pr:=fun v=>True) ?_ (qsP (fun z=>Zh z.E (Zf z.E rfl (lkb rfl hb23)) (by decide) rfl (kr0 rfl)) (qsM (pr:=fun v=>True) ?_ (qsP (v:=(vT r31)) ?_ (qsP (fun z=>U5 z.E (Zf z.E rfl (lkb rfl hb23)) (by decide) rfl (kr0 rfl)) (qsP (fun z=>Wl z.E Za ld (lkb rfl hb23) rfl (kr0 rfl)) (qsP (fun z=>Zh z.E Za ld rfl (kr0 rfl)) (qsP (fun z=>Zg z.E rfl (lkb rfl hb33) rfl (by decide) (kr0 rfl)) (qsP (fun z=>Zg z.E rfl (lkb rfl hb33) rfl (by decide) (kr0 rfl)) (qsP (fun z=>Zg z.E rfl (lkb rfl hb33) rfl (by decide) (kr0 rfl)) (qsP (fun z=>Zg z.E rfl (lkb rfl hb33) rfl (by decide) (kr0 rfl)) (qsP (fun z=>Zg z.E rfl (lkb rfl hb33) rfl (by decide) (kr0 rfl)) (qsP (fun z=>Zg z.E rfl (lkb rfl hb33) rfl (by decide) (kr0 rfl)) (qsP (fun z=>Zg z.E rfl (lkb rfl hb33) rfl (by decide) (kr0 rfl)) (qsP (fun z=>Zg z.E rfl (lkb rfl hb33) rfl (by decide) (kr0 rfl)) (qsP (fun z=>Zg z.E rfl (lkb rfl hb33) rfl (by decide) (kr0 rfl)) (qsP (fun z=>Zg z.E rfl (lkb rfl hb33) rfl (by decide) (kr0 rfl)) qs0))))))))))))))))))))))))) ?_
        ·intro a w ux20 D z
         have hE:=z.E
         have hD : D 8 = false:=z.F
         have hM0:=z.M
         have hM:=z.M
         refine ZW hE (Zf hE rfl (lkb rfl hb23)) (by decide) rfl cb85 (W4 _ p1 v1_1 (hM.rdo hv1_1) r25 e26) ?_
         rintro _ w a ⟨_,rfl,hFr,hK⟩ hE
         have hM:=hM0.add hK hFr
         exact ⟨_,_,rfl,hE,M.qFill (mk1:=[]) (mk2:=[_]) (f:=(fun v=>osl NoB (r25 : List UInt8) v)) hM rfl hD,trivial⟩
        ·intro a w ux20 D z
         have hE:=z.E
         have hD : D 10 = false:=z.F
         have hM0:=z.M
         have hM:=z.M
         refine ZW hE (Zf hE rfl (lkb rfl hb23)) (by decide) rfl cb85 (W4 _ p2 v2_1 (hM.rdo hv2_1) r28 e29) ?_
         rintro _ w a ⟨_,rfl,hFr,hK⟩ hE
         have hM:=hM0.add hK hFr
         exact ⟨_,_,rfl,hE,M.qFill (mk1:=[_]) (mk2:=[]) (f:=(fun v=>osl NoB (r28 : List UInt8) v)) hM rfl hD,trivial⟩
        ·intro a w ux20 D z
         have hE:=z.E
         have d8 : D 8 = true:=z.p 0 _ rfl rfl
         have d10 : D 10 = true:=z.p 1 _ rfl rfl
         have hM:=(z.M.sure (pre:=[]) d8).sure (pre:=[_]) d10
         refine ZW hE (Zf hE rfl (lkb rfl hb23)) (by decide) rfl cb89 (Qr _ r25 (ux20 8) (hM.sl (pre:=[]) noB) r28 (ux20 10) (hM.sl (pre:=[_]) noB) r31 e32) ?_
         rintro v w a ⟨rfl,hK⟩ hE
         exact ⟨hK,_,rfl,hE⟩
        ·intro a w ux20 D hE hM hG hall
         have d8:=hall 8 (by decide)
         have d10:=hall 10 (by decide)
         have hM:=(hM.sure (pre:=[]) d8).sure (pre:=[_]) d10
         refine Zg hE rfl (lkb rfl hb33) rfl (by decide) fun a hE=>ZB hE (lkb rfl hb33) rfl fun a hE=>Zb hE rfl fun a hE=>Zj ?_
         obtain rfl:=Option.some.inj hl18
         refine Zi ?_
         have hM:=M.fst (l:=[]) hM
         exact ⟨hE.sub ⟨rfl,rfl,rfl,trivial⟩,hM⟩
       ·have hl18:=Zo hl18 hb33
        obtain ⟨x35,hi37,hl18⟩:=bix hl18
        obtain ⟨cs38,hs39,hA40⟩:=Z3 hv1_1 hi37.2 -- ^
        obtain ⟨u41,rfl,h42⟩:=ZQ hs39 -- ^
        obtain ⟨x43,hi45,hl18⟩:=bix hl18
        obtain ⟨cs46,hs47,hA48⟩:=Z3 hv2_1 hi45.2 -- ^
        obtain ⟨u49,rfl,h50⟩:=ZQ hs47 -- ^
        refine Wo (its:=[]) (mk:=([mkO 8 (fun v=>osl NoB (r25 : List UInt8) v),mkO 10 (fun v=>osl NoB (r28 : List UInt8) v)] : Mk)) [25,26,27,28,29,30,31,32,33,34,35,36,37,38,39,40,41,42,43,44,45,46,47,48,49] Wb rfl rfl (by decide) rfl hE (fun u=>M.qE (M.qE (M.q0 hM.drew u) emO) emO) (qsP (fun z=>Zh z.E Za ld rfl (kr0 rfl)) (qsP (fun z=>ZJ z.E Za ld rfl rfl rfl (kr0 rfl)) (qsP (fun z=>Zh z.E Za ld rfl (kr0 rfl)) (qsP (fun z=>Zh z.E (Zf z.E rfl (lkb rfl hb21)) (by decide) rfl (kr0 rfl)) (qsP (fun z=>ZJ z.E (Zf z.E rfl (lkb rfl hb21)) (by decide) rfl rfl rfl (kr0 rfl)) (qsP (fun z=>Wl z.E Za ld (lkb rfl hb21) rfl (kr0 rfl)) (qsP (fun z=>Zh z.E Za ld rfl (kr0 rfl)) (qsP (fun z=>Zh z.E (Zf z.E rfl (lkb rfl hb23)) (by decide) rfl (kr0 rfl)) (qsM (pr:=fun v=>True) ?_ (qsP (fun z=>Zh z.E (Zf z.E rfl (lkb rfl hb23)) (by decide) rfl (kr0 rfl)) (qsM (pr:=fun v=>True) ?_ (qsP (v:=(vT r31)) ?_ (qsP (fun z=>U5 z.E (Zf z.E rfl (lkb rfl hb23)) (by decide) rfl (kr0 rfl)) (qsP (fun z=>Wl z.E Za ld (lkb rfl hb23) rfl (kr0 rfl)) (qsP (fun z=>Zh z.E Za ld rfl (kr0 rfl)) (qsP (fun z=>Zh z.E (Zf z.E rfl (lkb rfl hb33)) (by decide) rfl (kr0 rfl)) (qsP (fun z=>ZA z.E (Zf z.E rfl (lkb rfl hb33)) (by decide) rfl rfl Tryz.underlying24 ZN (z.M.rd hv1_1) hi37.1 (kr0 rfl)) (qsP (fun z=>Zv z.E (Zf z.E rfl (lkb rfl hb33)) (by decide) rfl (Yj) (kr0 rfl)) (qsP (fun z=>ZE (v:=u41) z.E (Zf z.E rfl (lkb rfl hb33)) (by decide) rfl YS rfl (At.cat (pre:=[[vB x35.Place]]) (z.M.atk hA40 (Yr hv1_1 hi37.2)) ck) (kr0 rfl)) (qsP (fun z=>XN z.E (Zf z.E rfl (lkb rfl hb33)) (by decide) rfl Tryz.underlying22 (z.M.rd h42) (kr0 rfl)) (qsP (fun z=>Zh z.E (Zf z.E rfl (lkb rfl hb33)) (by decide) rfl (kr0 rfl)) (qsP (fun z=>ZA z.E (Zf z.E rfl (lkb rfl hb33)) (by decide) rfl rfl Tryz.underlying24 ZN (z.M.rd hv2_1) hi45.1 (kr0 rfl)) (qsP (fun z=>Zv z.E (Zf z.E rfl (lkb rfl hb33)) (by decide) rfl (Yj) (kr0 rfl)) (qsP (fun z=>ZE (v:=u49) z.E (Zf z.E rfl (lkb rfl hb33)) (by decide) rfl YS rfl (At.cat (pre:=[[vB x43.Place]]) (z.M.atk hA48 (Yr hv2_1 hi45.2)) ck) (kr0 rfl)) (qsP (fun z=>XN z.E (Zf z.E rfl (lkb rfl hb33)) (by decide) rfl Tryz.underlying22 (z.M.rd h50) (kr0 rfl)) qs0))))))))))))))))))))))))) ?_
        ·intro a w ux20 D z
         have hE:=z.E
         have hD : D 8 = false:=z.F
         have hM0:=z.M
         have hM:=z.M
         refine ZW hE (Zf hE rfl (lkb rfl hb23)) (by decide) rfl cb85 (W4 _ p1 v1_1 (hM.rdo hv1_1) r25 e26) ?_
         rintro _ w a ⟨_,rfl,hFr,hK⟩ hE
         have hM:=hM0.add hK hFr
         exact ⟨_,_,rfl,hE,M.qFill (mk1:=[]) (mk2:=[_]) (f:=(fun v=>osl NoB (r25 : List UInt8) v)) hM rfl hD,trivial⟩
        ·intro a w ux20 D z
         have hE:=z.E
         have hD : D 10 = false:=z.F
         have hM0:=z.M
         have hM:=z.M
         refine ZW hE (Zf hE rfl (lkb rfl hb23)) (by decide) rfl cb85 (W4 _ p2 v2_1 (hM.rdo hv2_1) r28 e29) ?_
         rintro _ w a ⟨_,rfl,hFr,hK⟩ hE
         have hM:=hM0.add hK hFr
         exact ⟨_,_,rfl,hE,M.qFill (mk1:=[_]) (mk2:=[]) (f:=(fun v=>osl NoB (r28 : List UInt8) v)) hM rfl hD,trivial⟩
        ·intro a w ux20 D z
         have hE:=z.E
         have d8 : D 8 = true:=z.p 0 _ rfl rfl
         have d10 : D 10 = true:=z.p 1 _ rfl rfl
         have hM:=(z.M.sure (pre:=[]) d8).sure (pre:=[_]) d10
         refine ZW hE (Zf hE rfl (lkb rfl hb23)) (by decide) rfl cb89 (Qr _ r25 (ux20 8) (hM.sl (pre:=[]) noB) r28 (ux20 10) (hM.sl (pre:=[_]) noB) r31 e32) ?_
         rintro v w a ⟨rfl,hK⟩ hE
         exact ⟨hK,_,rfl,hE⟩
        ·intro a w ux20 D hE hM hG hall
         have d8:=hall 8 (by decide)
         have d10:=hall 10 (by decide)
         have hM:=(hM.sure (pre:=[]) d8).sure (pre:=[_]) d10
         refine ZJ hE (Zf hE rfl (lkb rfl hb33)) (by decide) rfl rfl rfl fun a hE=>Zy hE (lkb rfl hb33) rfl fun a hE=>Zb hE rfl fun a hE=>Zj ?_
         obtain rfl:=Option.some.inj hl18
         refine Zi ?_
         have hM:=M.fst (l:=[]) hM
         exact ⟨hE.sub ⟨rfl,rfl,rfl,trivial⟩,hM⟩
    ·skip
     rintro a w ⟨hE,hM⟩
     refine Zm hE rfl ?_ ?_
     ·intro hb52
      have hF19:=Zn hF19 hb52
      refine Zc (Zb hE rfl fun a hE=>Zb hE rfl fun a hE=>Ze ?_)
      have hM:=M.nilS (α:=GShare) NoB noB hM
      obtain rfl:=Option.some.inj hF19
      exact wp_ret (Z4 (Zr (Z0 hE rfl (Zl hE rfl) (Zl hE rfl) ⟨_,rfl,(Value.slice none 0 0),rfl,hM.outF (Z8 Yd),hM.kept⟩)))
     ·intro hb52
      have hF19:=Zo hF19 hb52
      refine wp_skip (Yg (Zu (Zc (Zd hE rfl fun a hE=>Zd hE rfl ?_)))); intro a hE
      obtain ⟨r54,e55,hF19⟩:=bind_some hF19
      refine Zq hE rfl (cbm Tryz.func86) (J5 _ p1 v1_1 (hM.rdo hv1_1) p2 v2_1 (hM.rdo hv2_1) r54 e55) ?_
      rintro u56 w a ⟨_,rfl,hFr,hK⟩ hE
      have hM:=hM.add hK hFr
      refine Zb hE rfl fun a hE=>Zb hE rfl fun a hE=>Ze ?_
      obtain rfl:=Option.some.inj hF19
      exact wp_ret (Z0 hE rfl (Zl hE rfl) (Zl hE rfl) ⟨_,rfl,u56,rfl,hM.outF (Z8 Yd),hM.kept⟩)
def Uu (p0 : (List GShare)) (p1 : (List GShare)) (s6 : Int) : Option (Fl Int (Fl Unit Bool)) :=
 if (decide (s6 < (p0.length : Int))) = true then (((idx p0 s6).bind fun x15=>(idx p1 s6).bind fun x23=>if (x15.Place != x23.Place) = true then (some true) else ((idx p0 s6).bind fun x33=>(idx p1 s6).bind fun x41=>(WV x33.Data x41.Data).bind fun r49=>some (!r49)) : Option (Bool)).bind fun j11=>if j11 = true then (some (Fl.ex (Fl.ex false))) else (some (Fl.nx (wr (s6 + 1))))) else (some (Fl.ex (Fl.nx ())))
def Uh (p0 : (List GShare)) (p1 : (List GShare)) : Option (Bool) :=
 if ((p0.length : Int) != (p1.length : Int)) = true then (some false) else ((ZH (Uu p0 p1) 0).bind fun j2=>j2.el (fun s5=>some true) (fun r=>some r))
theorem Ju (w0 : World) (p0 : (List GShare)) (v0_1 : Value) (hv0_1 : Ro w0 p0 [v0_1]) (p1 : (List GShare)) (v1_1 : Value) (hv1_1 : Ro w0 p1 [v1_1]) (r : Bool) (hF : Uh p0 p1 = some r) :
  Calls Tryz.prog 34 [v0_1,v1_1].toArray w0 (Rt w0 (vT r)):=by
 refine ce Tryz.func34 ?_
 intro a hE
 have hM:=M.start w0
 unfold Uh at hF
 refine Zc (Zb hE rfl fun a hE=>Ze (wp_seq (Zc (Zd hE rfl fun a hE=>ZL hE rfl Tryz.underlying24 (hM.rd hv0_1) fun a hE=>Zd hE rfl fun a hE=>ZL hE rfl Tryz.underlying24 (hM.rd hv1_1) fun a hE=>Zk hE rfl rfl rfl fun a hE=>Ze ?_))))
 refine Zm hE rfl ?_ ?_
 ·intro hb1
  have hF:=Zn hF hb1
  refine Zc (Zb hE rfl fun a hE=>Ze ?_)
  obtain rfl:=Option.some.inj hF
  exact wp_ret (Zr (kr1 hE rfl rfl hM.kept))
 ·intro hb1
  have hF:=Zo hF hb1
  refine wp_skip (Zu (wp_seq (Zc (Zb hE rfl fun a hE=>Ze ?_))))
  obtain ⟨j2,hl3,hF4⟩:=bind_some hF
  refine ZP (fun a w=>∃ s5 : Unit,j2 = Fl.nx s5 ∧ Env 42 a [] ∧ M (Old w0) w0 w []) ?_ ?_
  ·skip
   refine wp_block ?_
   refine ZK (fun (s6 : Int) a w=>Env 42 a [(0,v0_1),(1,v1_1),(5,vI s6)] ∧ M (Old w0) w0 w []) hl3 ⟨hE.sub ⟨rfl,rfl,rfl,trivial⟩,hM⟩ ?_
   rintro s6 a w ⟨hE,hM⟩ o9 hs7 hx8
   unfold Uu at hs7
   refine wp_seq (Zc (Zd hE rfl fun a hE=>Zd hE rfl fun a hE=>ZL hE rfl Tryz.underlying24 (hM.rd hv0_1) fun a hE=>Zk hE rfl rfl rfl fun a hE=>Ze ?_))
   refine Zm hE rfl ?_ ?_
   ·intro hb10
    have hs7:=Zn hs7 hb10
    refine wp_skip (Zu (wp_seq (wp_block ?_)))
    obtain ⟨j11,hl12,hF13⟩:=bind_some hs7
    refine Zx (fun a w=>Env 42 a [(0,v0_1),(1,v1_1),(5,vI s6),(41,vT j11)] ∧ M (Old w0) w0 w []) ?_ ?_
    ·skip
     obtain ⟨x15,hi17,hl12⟩:=bix hl12
     obtain ⟨cs18,hs19,hA20⟩:=Z3 hv0_1 hi17.2 -- ^
     obtain ⟨u21,rfl,h22⟩:=ZQ hs19 -- ^
     obtain ⟨x23,hi25,hl12⟩:=bix hl12
     obtain ⟨cs26,hs27,hA28⟩:=Z3 hv1_1 hi25.2 -- ^
     obtain ⟨u29,rfl,h30⟩:=ZQ hs27 -- ^
     refine ZO (x15.Place != x23.Place) (fun hb31=>?_) (fun hb31=>?_)
     ·have hl12:=Zn hl12 hb31
      refine YA [17,18,19,20,21,22,23,24,25,26,27,28,29,30,31,32,33,34,35,36,37,38,39,40,41] Wb rfl rfl (by decide) rfl hE hM (qsP (fun z=>Zh z.E Za ld rfl (kr0 rfl)) (qsP (fun z=>Zh z.E Za ld rfl (kr0 rfl)) (qsP (fun z=>ZA z.E Za ld rfl rfl Tryz.underlying24 ZN (z.M.rd hv0_1) hi17.1 (kr0 rfl)) (qsP (fun z=>Zv z.E Za ld rfl (XQ) (kr0 rfl)) (qsP (fun z=>ZE (v:=(vB x15.Place)) z.E Za ld rfl ty5 rfl (At.cat (pre:=[]) (z.M.atk hA20 (Yr hv0_1 hi17.2)) cl0) (kr0 rfl)) (qsP (fun z=>Zh z.E Za ld rfl (kr0 rfl)) (qsP (fun z=>Zh z.E Za ld rfl (kr0 rfl)) (qsP (fun z=>ZA z.E Za ld rfl rfl Tryz.underlying24 ZN (z.M.rd hv1_1) hi25.1 (kr0 rfl)) (qsP (fun z=>Zv z.E Za ld rfl (XQ) (kr0 rfl)) (qsP (fun z=>ZE (v:=(vB x23.Place)) z.E Za ld rfl ty5 rfl (At.cat (pre:=[]) (z.M.atk hA28 (Yr hv1_1 hi25.2)) cl0) (kr0 rfl)) (qsP (fun z=>ZJ z.E Za ld rfl rfl (Kd x15.Place x23.Place) (kr0 rfl)) (qsP (fun z=>Zh z.E Za ld rfl (kr0 rfl)) (qsP (fun z=>Zg z.E rfl (lkb rfl hb31) rfl (by decide) (kr0 rfl)) (qsP (fun z=>Zg z.E rfl (lkb rfl hb31) rfl (by decide) (kr0 rfl)) (qsP (fun z=>Zg z.E rfl (lkb rfl hb31) rfl (by decide) (kr0 rfl)) (qsP (fun z=>Zg z.E rfl (lkb rfl hb31) rfl (by decide) (kr0 rfl)) (qsP (fun z=>Zg z.E rfl (lkb rfl hb31) rfl (by decide) (kr0 rfl)) (qsP (fun z=>Zg z.E rfl (lkb rfl hb31) rfl (by decide) (kr0 rfl)) (qsP (fun z=>Zg z.E rfl (lkb rfl hb31) rfl (by decide) (kr0 rfl)) (qsP (fun z=>Zg z.E rfl (lkb rfl hb31) rfl (by decide) (kr0 rfl)) (qsP (fun z=>Zg z.E rfl (lkb rfl hb31) rfl (by decide) (kr0 rfl)) (qsP (fun z=>Zg z.E rfl (lkb rfl hb31) rfl (by decide) (kr0 rfl)) (qsP (fun z=>Zg z.E rfl (lkb rfl hb31) rfl (by decide) (kr0 rfl)) (qsP (fun z=>Zg z.E rfl (lkb rfl hb31) rfl (by decide) (kr0 rfl)) (qsP (fun z=>WT z.E Za ld (lkb rfl hb31) rfl (kr0 rfl)) qs0))))))))))))))))))))))))) ?_
      ·intro a w u hE hM
       refine Zj ?_
       obtain rfl:=Option.some.inj hl12
       refine Zi ?_
       exact ⟨hE.sub ⟨rfl,rfl,rfl,rfl,trivial⟩,hM⟩
     ·have hl12:=Zo hl12 hb31
      obtain ⟨x33,hi35,hl12⟩:=bix hl12
      obtain ⟨cs36,hs37,hA38⟩:=Z3 hv0_1 hi35.2 -- ^
      obtain ⟨u39,rfl,h40⟩:=ZQ hs37 -- ^
      obtain ⟨x41,hi43,hl12⟩:=bix hl12
      obtain ⟨cs44,hs45,hA46⟩:=Z3 hv1_1 hi43.2 -- ^
      obtain ⟨u47,rfl,h48⟩:=ZQ hs45 -- ^
      obtain ⟨r49,e50,hl12⟩:=bind_some hl12
      refine YA [17,18,19,20,21,22,23,24,25,26,27,28,29,30,31,32,33,34,35,36,37,38,39,40,41] Wb rfl rfl (by decide) rfl hE hM (qsP (fun z=>Zh z.E Za ld rfl (kr0 rfl)) (qsP (fun z=>Zh z.E Za ld rfl (kr0 rfl)) (qsP (fun z=>ZA z.E Za ld rfl rfl Tryz.underlying24 ZN (z.M.rd hv0_1) hi17.1 (kr0 rfl)) (qsP (fun z=>Zv z.E Za ld rfl (XQ) (kr0 rfl)) (qsP (fun z=>ZE (v:=(vB x15.Place)) z.E Za ld rfl ty5 rfl (At.cat (pre:=[]) (z.M.atk hA20 (Yr hv0_1 hi17.2)) cl0) (kr0 rfl)) (qsP (fun z=>Zh z.E Za ld rfl (kr0 rfl)) (qsP (fun z=>Zh z.E Za ld rfl (kr0 rfl)) (qsP (fun z=>ZA z.E Za ld rfl rfl Tryz.underlying24 ZN (z.M.rd hv1_1) hi25.1 (kr0 rfl)) (qsP (fun z=>Zv z.E Za ld rfl (XQ) (kr0 rfl)) (qsP (fun z=>ZE (v:=(vB x23.Place)) z.E Za ld rfl ty5 rfl (At.cat (pre:=[]) (z.M.atk hA28 (Yr hv1_1 hi25.2)) cl0) (kr0 rfl)) (qsP (fun z=>ZJ z.E Za ld rfl rfl (Kd x15.Place x23.Place) (kr0 rfl)) (qsP (fun z=>Zh z.E Za ld rfl (kr0 rfl)) (qsP (fun z=>Zh z.E (Zf z.E rfl (lkb rfl hb31)) (by decide) rfl (kr0 rfl)) (qsP (fun z=>Zh z.E (Zf z.E rfl (lkb rfl hb31)) (by decide) rfl (kr0 rfl)) (qsP (fun z=>ZA z.E (Zf z.E rfl (lkb rfl hb31)) (by decide) rfl rfl Tryz.underlying24 ZN (z.M.rd hv0_1) hi35.1 (kr0 rfl)) (qsP (fun z=>Zv z.E (Zf z.E rfl (lkb rfl hb31)) (by decide) rfl (Yj) (kr0 rfl)) (qsP (fun z=>ZE (v:=u39) z.E (Zf z.E rfl (lkb rfl hb31)) (by decide) rfl YS rfl (At.cat (pre:=[[vB x33.Place]]) (z.M.atk hA38 (Yr hv0_1 hi35.2)) ck) (kr0 rfl)) (qsP (fun z=>Zh z.E (Zf z.E rfl (lkb rfl hb31)) (by decide) rfl (kr0 rfl)) (qsP (fun z=>Zh z.E (Zf z.E rfl (lkb rfl hb31)) (by decide) rfl (kr0 rfl)) (qsP (fun z=>ZA z.E (Zf z.E rfl (lkb rfl hb31)) (by decide) rfl rfl Tryz.underlying24 ZN (z.M.rd hv1_1) hi43.1 (kr0 rfl)) (qsP (fun z=>Zv z.E (Zf z.E rfl (lkb rfl hb31)) (by decide) rfl (Yj) (kr0 rfl)) (qsP (fun z=>ZE (v:=u47) z.E (Zf z.E rfl (lkb rfl hb31)) (by decide) rfl YS rfl (At.cat (pre:=[[vB x41.Place]]) (z.M.atk hA46 (Yr hv1_1 hi43.2)) ck) (kr0 rfl)) (qsP (fun z=>ZW z.E (Zf z.E rfl (lkb rfl hb31)) (by decide) rfl cb14 (Qg _ x33.Data u39 (z.M.rdo h40) x41.Data u47 (z.M.rdo h48) r49 e50) (kc rfl)) (qsP (fun z=>U5 z.E (Zf z.E rfl (lkb rfl hb31)) (by decide) rfl (kr0 rfl)) (qsP (fun z=>Wl z.E Za ld (lkb rfl hb31) rfl (kr0 rfl)) qs0))))))))))))))))))))))))) ?_
      ·intro a w u hE hM
       refine Zj ?_
       obtain rfl:=Option.some.inj hl12
       refine Zi ?_
       exact ⟨hE.sub ⟨rfl,rfl,rfl,rfl,trivial⟩,hM⟩
    ·skip
     rintro a w ⟨hE,hM⟩
     refine Zm hE rfl ?_ ?_
     ·intro hb52
      have hF13:=Zn hF13 hb52
      refine Zc (Zb hE rfl fun a hE=>Ze ?_)
      obtain rfl:=hx8 _ (ois hF13)
      obtain rfl:=Option.some.inj hF4
      exact wp_ret (Z4 (Zr (Zr (Z4 (Zr (Zr (kr1 hE rfl rfl hM.kept)))))))
     ·intro hb52
      have hF13:=Zo hF13 hb52
      refine wp_skip (Yg (Zu (wp_region_lit (Zd hE rfl fun a hE=>Zk hE rfl rfl rfl fun a hE=>Zb hE rfl fun a hE=>Zj (Zi ?_)))))
      exact ⟨_,(ois hF13),hE.sub ⟨rfl,rfl,rfl,trivial⟩,hM⟩
   ·intro hb10
    have hs7:=Zo hs7 hb10
    refine wp_exit (Zs (Zs (Ys ?_)))
    obtain rfl:=hx8 _ (ois hs7)
    refine Zi ?_
    exact ⟨(),rfl,hE.sub trivial,hM⟩
  ·skip
   rintro a w ⟨s5,ht,hE,hM⟩
   subst ht
   have hF4:=VQ hF4
   refine Zu (Zc (Zb hE rfl fun a hE=>Ze ?_))
   obtain rfl:=Option.some.inj hF4
   exact wp_ret (kr1 hE rfl rfl hM.kept)
def Xg (r4 : Int × (List GShare) × Int) (r8 : (List Int) × Int) (s35 : (List GShare) × Int) : Option (Fl ((List GShare) × Int) (List GShare)) :=
 if (decide (s35.2 < (r4.2.1.length : Int))) = true then (((Tq r8.1 s35.2).bind fun r47=>(if (!r47) = true then ((idx r4.2.1 s35.2).bind fun x55=>(app 32 s35.1 ([x55] : List GShare)).bind fun l65=>some (s35.1 ++ ([x55] : List GShare))) else (some s35.1) : Option ((List GShare))).bind fun j49=>some j49 : Option ((List GShare))).bind fun j42=>some (Fl.nx (j42,wr (s35.2 + 1)))) else (some (Fl.ex s35.1))
def Xf (r88 : Int × (List UInt8)) (r91 : (List UInt8) × Int) (r117 : (Int × Int) × (List UInt8)) (s135 : UInt8 × Int) : Option (Fl (UInt8 × Int) (Fl UInt8 Bool)) :=
 if (decide (s135.2 < (r88.2.length : Int))) = true then (((idx r91.1 s135.2).bind fun x144=>(idx r117.2 s135.2).bind fun x147=>(TP r88.1 x144 x147).bind fun r150=>some (r150.1,r150.2) : Option (UInt8 × Int)).bind fun j140=>if (j140.2 != 0) = true then (some (Fl.ex (Fl.ex false))) else (some (Fl.nx (s135.1 ^^^ j140.1,wr (s135.2 + 1))))) else (some (Fl.ex (Fl.nx s135.1)))
def Vl (p0 : (List UInt8)) : Option (Bool) :=
 (Hs p0).bind fun r1=>if r1 = true then (some true) else ((XF p0).bind fun r4=>(WK r4.1 r4.2.1 r4.2.2).bind fun r8=>(WN r4.1 r4.2.1 r4.2.2).bind fun r11=>(if (r8.2 != r11.2) = true then (some true) else ((Ux r8.1 r11.1).bind fun r19=>some (!r19)) : Option (Bool)).bind fun j14=>if j14 = true then (some false) else ((if (r8.2 == 0) = true then ((ZH (Xg r4 r8) (([] : List GShare),0)).bind fun j30=>(V2 r4.1 j30 r4.2.2).bind fun r74=>(if (r74.2 != 0) = true then (some true) else (if (!r74.1) = true then (some true) else (some (decide ((r4.2.1.length : Int) < (wr (r4.2.2 + (wr (2 * (r8.1.length : Int))))))))) : Option (Bool)).bind fun j76=>if j76 = true then (some (Fl.ex false)) else (some (Fl.nx ()))) else (some (Fl.nx ())) : Option (Fl Unit Bool)).bind fun j23=>j23.el (fun s26=>(Ws p0).bind fun r88=>(Ug r88.1 r88.2).bind fun r91=>(VX r88.1 r88.2).bind fun r94=>(if (r91.2 != r94.2) = true then (some true) else ((WV r91.1 r94.1).bind fun r102=>some (!r102)) : Option (Bool)).bind fun j97=>if j97 = true then (some false) else ((if (r91.2 == 0) = true then (if ((r91.1.length : Int) != (r88.2.length : Int)) = true then (some (Fl.ex false)) else ((Qj p0 906).bind fun r113=>(TZ p0 (r113.1,r113.2) (r88.2.length : Int)).bind fun r117=>(Wq r88.1 r88.2 r117.2).bind fun r120=>(if (r120.2 != 0) = true then (some true) else (some ((r120.1.length : Int) == 0)) : Option (Bool)).bind fun j123=>if j123 = true then (some (Fl.ex false)) else ((ZH (Xf r88 r91 r117) (0,0)).bind fun j131=>j131.el (fun s134=>(idx r120.1 (0 : Int)).bind fun x157=>if (s134 != x157) = true then (some (Fl.ex false)) else (some (Fl.nx ()))) (fun r=>some (Fl.ex r))))) else (some (Fl.nx ())) : Option (Fl Unit Bool)).bind fun j106=>j106.el (fun s109=>(WO p0).bind fun r164=>(Uw r164.1 r164.2.1 r164.2.2.1 r164.2.2.2.1 r164.2.2.2.2).bind fun r170=>(UD r164.1 r164.2.1 r164.2.2.1 r164.2.2.2.1 r164.2.2.2.2).bind fun r172=>(if (r170.2 != r172.2) = true then (some true) else (if (r170.1 != r172.1) = true then (some true) else (if (r170.2 == 0) = true then (if (decide ((r164.2.2.2.1.length : Int) < r164.2.2.2.2)) = true then (some (!r170.1)) else (some false)) else (some false))) : Option (Bool)).bind fun j174=>if j174 = true then (some false) else ((WB p0).bind fun r187=>(Uc r187).bind fun r192=>(V9 r187).bind fun r194=>(if (r192.2 != r194.2) = true then (some true) else (some (!decide (r192.1 = r194.1))) : Option (Bool)).bind fun j196=>if j196 = true then (some false) else ((if (r192.2 == 0) = true then ((WE r192.1).bind fun r208=>(if (r208.2 != 0) = true then (some true) else (if (r208.1.Place != r187.Place) = true then (some true) else ((WV r208.1.Data r187.Data).bind fun r220=>some (!r220))) : Option (Bool)).bind fun j213=>if j213 = true then (some (Fl.ex false)) else (some (Fl.nx ()))) else (some (Fl.nx ())) : Option (Fl Unit Bool)).bind fun j203=>j203.el (fun s206=>(X3 p0).bind fun r227=>(WE r227).bind fun r229=>(VG r227).bind fun r234=>(Xt p0).bind fun r239=>(Wv r239.1 r239.2.1 r239.2.2).bind fun r243=>(Wr r239.1 r239.2.1 r239.2.2).bind fun r246=>(Wp p0).bind fun r249=>(VV r249.1 r249.2.1 r249.2.2).bind fun r253=>(Uf r249.1 r249.2.1 r249.2.2).bind fun r256=>(if (r229.2 == r234.2) = true then (if (r229.1.Place == r234.1.Place) = true then ((WV r229.1.Data r234.1.Data).bind fun r264=>if r264 = true then (if (r243.2 == r246.2) = true then ((Uh r243.1 r246.1).bind fun r268=>if r268 = true then (if (r253.2 == r256.2) = true then ((Uh r253.1 r256.1).bind fun r272=>some r272) else (some false)) else (some false)) else (some false)) else (some false)) else (some false)) else (some false) : Option (Bool)).bind fun j259=>some j259) (fun r=>some r)))) (fun r=>some r))) (fun r=>some r)))
theorem K6 (w0 : World) (p0 : (List UInt8)) (v0_1 : Value) (hv0_1 : Ro w0 p0 [v0_1]) (hT : TabT w0) (r : Bool) (hF : Vl p0 = some r) :
  Calls Tryz.prog 3 [v0_1].toArray w0 (Rt w0 (vT r)):=by
 refine ce Tryz.func3 ?_
 intro a hE
 have hM:=M.start w0
 unfold Vl at hF
 refine Zc (Zb hE rfl fun a hE=>Ze (wp_seq (Zc (Zd hE rfl ?_)))); intro a hE
 obtain ⟨r1,e2,hF⟩:=bind_some hF
 refine Zq hE rfl (cbm Tryz.func4) (kh _ p0 v0_1 (hM.rdo hv0_1) r1 e2) ?_
 rintro v w a ⟨rfl,hK⟩ hE
 have hM:=hM.keep hK
 refine Ze ?_
 refine Zm hE rfl ?_ ?_
 ·intro hb3
  have hF:=Zn hF hb3
  refine Zc (Zb hE rfl fun a hE=>Ze ?_)
  obtain rfl:=Option.some.inj hF
  exact wp_ret (Zr (kr1 hE rfl rfl hM.kept))
 ·intro hb3
  have hF:=Zo hF hb3
  refine wp_skip (Zu (Zc (Zd hE rfl ?_))); intro a hE
  obtain ⟨r4,e5,hF⟩:=bind_some hF
  refine Zq hE rfl (cbm Tryz.func5) (Kp _ p0 v0_1 (hM.rdo hv0_1) r4 e5) ?_
  rintro v w a ⟨u6,rfl,hFr,hK⟩ hE
  have hM:=hM.add hK hFr
  refine Zd hE rfl fun a hE=>Zt hE Za ld rfl rfl fun a hE=>Zt hE Za ld rfl rfl fun a hE=>Zt hE Za ld rfl rfl fun a hE=>Zb hE rfl fun a hE=>Zb hE rfl fun a hE=>Zb hE rfl fun a hE=>Ze (Zc (Zd hE rfl fun a hE=>Zd hE rfl fun a hE=>Zd hE rfl ?_)); intro a hE
  have hM:=hM.toOwn noB
  have hR7:=M.roHead hM (fun _ h=>h.elim)
  have hv0_1:=hM.rdo hv0_1
  try (have hT:=hT.kept hM.kept)
  obtain ⟨w0,hw,hM,hK0⟩:=M.reroot hM
  rw [← hw] at hv0_1
  rw [← hw] at hR7
  try rw [← hw] at hT
  obtain ⟨r8,e9,hF⟩:=bind_some hF
  refine Zq hE rfl (cbm Tryz.func6) (JT _ r4.1 r4.2.1 u6 (hM.rdo hR7) r4.2.2 r8 e9) ?_
  rintro v w a ⟨u10,rfl,hFr,hK⟩ hE
  have hM:=hM.add hK hFr
  refine Zd hE rfl fun a hE=>Zt hE Za ld rfl rfl fun a hE=>Zt hE Za ld rfl rfl fun a hE=>Zb hE rfl fun a hE=>Zb hE rfl fun a hE=>Ze (Zc (Zd hE rfl fun a hE=>Zd hE rfl fun a hE=>Zd hE rfl ?_)); intro a hE
  obtain ⟨r11,e12,hF⟩:=bind_some hF
  refine Zq hE rfl (cbm Tryz.func7) (JY _ r4.1 r4.2.1 u6 (hM.rdo hR7) r4.2.2 r11 e12) ?_
  rintro v w a ⟨u13,rfl,hFr,hK⟩ hE
  have hM:=hM.add hK hFr
  refine Zd hE rfl fun a hE=>Zt hE Za ld rfl rfl fun a hE=>Zt hE Za ld rfl rfl fun a hE=>Zb hE rfl fun a hE=>Zb hE rfl fun a hE=>Ze (wp_seq ?_)
  obtain ⟨j14,hl15,hF16⟩:=bind_some hF
  refine Zx (fun a w=>Env 398 a [(0,v0_1),(3,vI r4.1),(4,u6),(5,vI r4.2.2),(6,u10),(7,vI r8.2),(92,vT j14)] ∧ M (Old w0) w0 w [osl NoB (r8.1 : List Int) u10]) ?_ ?_
  ·skip
   refine wp_region_lit (Zd hE rfl fun a hE=>Zd hE rfl fun a hE=>Zk hE rfl rfl rfl fun a hE=>Zd hE rfl ?_); intro a hE
   refine ZO (r8.2 != r11.2) (fun hb17=>?_) (fun hb17=>?_)
   ·have hl15:=Zn hl15 hb17
    refine Zg hE rfl (lkb rfl hb17) rfl (by decide) fun a hE=>Zg hE rfl (lkb rfl hb17) rfl (by decide) fun a hE=>Zg hE rfl (lkb rfl hb17) rfl (by decide) fun a hE=>Zg hE rfl (lkb rfl hb17) rfl (by decide) fun a hE=>ZB hE (lkb rfl hb17) rfl fun a hE=>Zj ?_
    obtain rfl:=Option.some.inj hl15
    refine Zi ?_
    have hM:=M.fst (l:=[_]) hM.pull1
    exact ⟨hE.sub ⟨rfl,rfl,rfl,rfl,rfl,rfl,rfl,trivial⟩,hM⟩
   ·have hl15:=Zo hl15 hb17
    refine Zh hE (Zf hE rfl (lkb rfl hb17)) (by decide) rfl fun a hE=>Zh hE (Zf hE rfl (lkb rfl hb17)) (by decide) rfl ?_; intro a hE
    obtain ⟨r19,e20,hl15⟩:=bind_some hl15
    refine ZW hE (Zf hE rfl (lkb rfl hb17)) (by decide) rfl (cbm Tryz.func8) (Ag _ r8.1 u10 (hM.sl (pre:=[_]) noB) r11.1 u13 (hM.sl (pre:=[]) noB) r19 e20) ?_
    rintro v w a ⟨rfl,hK⟩ hE
    have hM:=hM.keep hK
    refine U5 hE (Zf hE rfl (lkb rfl hb17)) (by decide) rfl fun a hE=>Zy hE (lkb rfl hb17) rfl fun a hE=>Zj ?_
    obtain rfl:=Option.some.inj hl15
    refine Zi ?_
    have hM:=M.fst (l:=[_]) hM.pull1
    exact ⟨hE.sub ⟨rfl,rfl,rfl,rfl,rfl,rfl,rfl,trivial⟩,hM⟩
  ·skip
   rintro a w ⟨hE,hM⟩
   refine Zm hE rfl ?_ ?_
   ·intro hb22
    have hF16:=Zn hF16 hb22
    refine Zc (Zb hE rfl fun a hE=>Ze ?_)
    obtain rfl:=Option.some.inj hF16
    have hM:=M.fst (l:=[]) hM
    exact wp_ret (Zr (Yb hE rfl (Zl hE rfl) ⟨_,rfl,rfl,kto hK0 hM⟩))
   ·intro hb22
    have hF16:=Zo hF16 hb22
    refine wp_skip (Zu ?_)
    obtain ⟨j23,hl24,hF25⟩:=bind_some hF16
    refine Zx (fun a w=>∃ s26 : Unit,j23 = Fl.nx s26 ∧ Env 398 a [(0,v0_1)] ∧ M (Old w0) w0 w []) ?_ ?_
    ·skip
     refine Zc (Zd hE rfl fun a hE=>Zk hE rfl rfl rfl fun a hE=>Ze ?_)
     refine Zm hE rfl ?_ ?_
     ·intro hb27
      have hl24:=Zn hl24 hb27
      refine Zc (TE (xs:=[]) (S:=NoB) (l:=([] : List GShare)) (vs:=[]) hE hM.emp noB Za ld rfl rfl rfl Tryz.underlying24 ZN rfl (by decide) (fun _ h=>⟨rfl,h⟩) (fun _ h=>by cases h) fun u28 w a hM hE=>Zb hE rfl fun a hE=>Ze (wp_seq (Zc (Zb hE rfl fun a hE=>Ze ?_))))
      obtain ⟨j30,hl31,hF32⟩:=bind_some hl24
      refine ZP (fun a w=>∃ (u33 : Value),Env 398 a [(0,v0_1),(3,vI r4.1),(4,u6),(5,vI r4.2.2),(6,u10),(10,u33)] ∧ M (Old w0) w0 w [osl NoB (r8.1 : List Int) u10,osl (Old w0) (j30 : List GShare) u33]) ?_ ?_
      ·skip
       refine wp_block ?_
       have hM:=(hM.oslWk (S':=Old w0) noB (fun _ h=>h)).pull1
       refine ZK (fun (s35 : (List GShare) × Int) a w=>∃ (u36 : Value),Env 398 a [(0,v0_1),(3,vI r4.1),(4,u6),(5,vI r4.2.2),(6,u10),(10,u36),(11,vI s35.2)] ∧ M (Old w0) w0 w [osl NoB (r8.1 : List Int) u10,osl (Old w0) (s35.1 : List GShare) u36]) hl31 ⟨u28,hE.sub ⟨rfl,rfl,rfl,rfl,rfl,rfl,rfl,trivial⟩,hM⟩ ?_
       rintro s35 a w ⟨u36,hE,hM⟩ o40 hs38 hx39
       unfold Xg at hs38
       refine wp_seq (Zc (Zd hE rfl fun a hE=>Zd hE rfl fun a hE=>ZL hE rfl Tryz.underlying24 (hM.rd hR7) fun a hE=>Zk hE rfl rfl rfl fun a hE=>Ze ?_))
       refine Zm hE rfl ?_ ?_
       ·intro hb41
        have hs38:=Zn hs38 hb41
        refine wp_skip (Zu ?_)
        obtain ⟨j42,hl43,hF44⟩:=bind_some hs38
        refine Zx (fun a w=>∃ (u45 : Value),Env 398 a [(0,v0_1),(3,vI r4.1),(4,u6),(5,vI r4.2.2),(6,u10),(10,u45),(11,vI s35.2)] ∧ M (Old w0) w0 w [osl NoB (r8.1 : List Int) u10,osl (Old w0) (j42 : List GShare) u45]) ?_ ?_
        ·skip
         refine wp_block (Zc (Zd hE rfl fun a hE=>Zd hE rfl ?_)); intro a hE
         obtain ⟨r47,e48,hl43⟩:=bind_some hl43
         refine Zq hE rfl (cbm Tryz.func9) (zG _ r8.1 u10 (hM.sl (pre:=[]) noB) s35.2 r47 e48) ?_
         rintro v w a ⟨rfl,hK⟩ hE
         have hM:=hM.keep hK
         refine Ve hE rfl fun a hE=>Ze ?_
         obtain ⟨j49,hl50,hF51⟩:=bind_some hl43
         refine ZP (fun a w=>∃ (u52 : Value),Env 398 a [(0,v0_1),(3,vI r4.1),(4,u6),(5,vI r4.2.2),(6,u10),(10,u52),(11,vI s35.2)] ∧ M (Old w0) w0 w [osl NoB (r8.1 : List Int) u10,osl (Old w0) (j49 : List GShare) u52]) ?_ ?_
         ·skip
          refine Zm hE rfl ?_ ?_
          ·intro hb54
           have hl50:=Zn hl50 hb54
           refine wp_region_lit (Zd hE rfl fun a hE=>Zd hE rfl fun a hE=>Zd hE rfl ?_); intro a hE
           obtain ⟨x55,hi57,hl50⟩:=bix hl50
           refine ZG hE rfl rfl Tryz.underlying24 ZN (hM.rd hR7) hi57.1 ?_; intro a hE
           obtain ⟨cs58,hs59,hA60⟩:=Z3 hR7 hi57.2 -- ^
           obtain ⟨u61,rfl,h62⟩:=ZQ hs59 -- ^
           refine WR hE rfl ZN rfl (hM.atk hA60 (Yr hR7 hi57.2)) cq ?_; intro a hE
           have hM:=hM.addRo (S:=(Old w0)) (x:=x55) (cs:=cat [[vB x55.Place],[u61]]) (fun _ h=>h) (W2 (hM.rd h62) (by simp))
           refine V0 (xs:=[.tmp 110]) (seg:=cat [[vB x55.Place],[u61]]) hE hM (fun _ h=>h) Za ld rfl rfl Tryz.underlying24 ZN rfl (by decide) ?_; intro u63 w a hM hE
           obtain ⟨l65,e66,hl50⟩:=bind_some hl50
           obtain ⟨e69,rfl⟩:=ZY e66
           have hM:=hM.pull2
           refine UM hE hM (fun _ h=>h) Za ld rfl rfl Tryz.underlying24 ZN rfl (by decide) e69 fun u67 w a hM hE=>Zb hE rfl fun a hE=>Zj ?_
           obtain rfl:=Option.some.inj hl50
           refine Zi ?_
           have hM:=hM.pull1
           exact ⟨u67,hE.sub ⟨rfl,rfl,rfl,rfl,rfl,rfl,rfl,trivial⟩,hM⟩
          ·intro hb54
           have hl50:=Zo hl50 hb54
           refine wp_skip ?_
           obtain rfl:=Option.some.inj hl50
           refine Zi ?_
           exact ⟨u36,hE.sub ⟨rfl,rfl,rfl,rfl,rfl,rfl,rfl,trivial⟩,hM⟩
         ·skip
          rintro a w ⟨u52,hE,hM⟩
          refine Yg ?_
          obtain rfl:=Option.some.inj hF51
          refine Zi ?_
          exact ⟨u52,hE.sub ⟨rfl,rfl,rfl,rfl,rfl,rfl,rfl,trivial⟩,hM⟩
        ·skip
         rintro a w ⟨u45,hE,hM⟩
         refine wp_region_lit (Zd hE rfl fun a hE=>Zk hE rfl rfl rfl fun a hE=>Zb hE rfl fun a hE=>Zj (Zi ?_))
         exact ⟨_,(ois hF44),u45,hE.sub ⟨rfl,rfl,rfl,rfl,rfl,rfl,rfl,trivial⟩,hM⟩
       ·intro hb41
        have hs38:=Zo hs38 hb41
        refine wp_exit (Zs (Zs (Ys ?_)))
        obtain rfl:=hx39 _ (ois hs38)
        refine Zi ?_
        exact ⟨u36,hE.sub ⟨rfl,rfl,rfl,rfl,rfl,rfl,trivial⟩,hM⟩
      ·skip
       rintro a w ⟨u33,hE,hM⟩
       refine Zu (Zc (Zd hE rfl fun a hE=>Zd hE rfl fun a hE=>Zd hE rfl ?_)); intro a hE
       obtain ⟨r74,e75,hF32⟩:=bind_some hF32
       refine Zq hE rfl (cbm Tryz.func10) (Bz _ r4.1 j30 u33 (hM.sl (pre:=[_]) (fun _ h=>h)) r4.2.2 r74 e75) ?_
       rintro v w a ⟨rfl,hK⟩ hE
       have hM:=hM.keep hK
       refine Zd hE rfl fun a hE=>Zt hE Za ld rfl rfl fun a hE=>Zt hE Za ld rfl rfl fun a hE=>Zb hE rfl fun a hE=>Zb hE rfl fun a hE=>Ze ?_
       obtain ⟨j76,hl77,hF78⟩:=bind_some hF32
       refine Zx (fun a w=>Env 398 a [(0,v0_1),(135,vT j76)] ∧ M (Old w0) w0 w []) ?_ ?_
       ·skip
        refine wp_region_lit (Zd hE rfl fun a hE=>Zk hE rfl rfl rfl fun a hE=>Zd hE rfl ?_); intro a hE
        refine ZO (r74.2 != 0) (fun hb79=>?_) (fun hb79=>?_)
        ·have hl77:=Zn hl77 hb79
         refine Zg hE rfl (lkb rfl hb79) rfl (by decide) fun a hE=>Zg hE rfl (lkb rfl hb79) rfl (by decide) fun a hE=>ZB hE (lkb rfl hb79) rfl fun a hE=>Zd hE rfl fun a hE=>Zg hE rfl rfl rfl (by decide) fun a hE=>Zg hE rfl rfl rfl (by decide) fun a hE=>Zg hE rfl rfl rfl (by decide) fun a hE=>Zg hE rfl rfl rfl (by decide) fun a hE=>Zg hE rfl rfl rfl (by decide) fun a hE=>Zg hE rfl rfl rfl (by decide) fun a hE=>Zg hE rfl rfl rfl (by decide) fun a hE=>Zg hE rfl rfl rfl (by decide) ?_; intro a hE
         refine ZB hE rfl rfl fun a hE=>Zj ?_
         obtain rfl:=Option.some.inj hl77
         refine Zi ?_
         have hM:=M.fst (l:=[]) hM
         exact ⟨hE.sub ⟨rfl,rfl,trivial⟩,hM⟩
        ·have hl77:=Zo hl77 hb79
         refine Zh hE (Zf hE rfl (lkb rfl hb79)) (by decide) rfl fun a hE=>U5 hE (Zf hE rfl (lkb rfl hb79)) (by decide) rfl fun a hE=>Zy hE (lkb rfl hb79) rfl fun a hE=>Zd hE rfl ?_; intro a hE
         refine ZO (!r74.1) (fun hb81=>?_) (fun hb81=>?_)
         ·have hl77:=Zn hl77 hb81
          refine Zg hE rfl (lkb rfl hb81) rfl (by decide) fun a hE=>Zg hE rfl (lkb rfl hb81) rfl (by decide) fun a hE=>Zg hE rfl (lkb rfl hb81) rfl (by decide) fun a hE=>Zg hE rfl (lkb rfl hb81) rfl (by decide) fun a hE=>Zg hE rfl (lkb rfl hb81) rfl (by decide) fun a hE=>Zg hE rfl (lkb rfl hb81) rfl (by decide) fun a hE=>Zg hE rfl (lkb rfl hb81) rfl (by decide) fun a hE=>Zg hE rfl (lkb rfl hb81) rfl (by decide) fun a hE=>ZB hE (lkb rfl hb81) rfl fun a hE=>Zj ?_
          obtain rfl:=Option.some.inj hl77
          refine Zi ?_
          have hM:=M.fst (l:=[]) hM
          exact ⟨hE.sub ⟨rfl,rfl,trivial⟩,hM⟩
         ·have hl77:=Zo hl77 hb81
          refine Zh hE (Zf hE rfl (lkb rfl hb81)) (by decide) rfl fun a hE=>XN hE (Zf hE rfl (lkb rfl hb81)) (by decide) rfl Tryz.underlying24 (hM.rd hR7) fun a hE=>Zh hE (Zf hE rfl (lkb rfl hb81)) (by decide) rfl fun a hE=>Zh hE (Zf hE rfl (lkb rfl hb81)) (by decide) rfl fun a hE=>XN hE (Zf hE rfl (lkb rfl hb81)) (by decide) rfl Tryz.underlying27 (hM.sl (pre:=[]) noB) fun a hE=>ZJ hE (Zf hE rfl (lkb rfl hb81)) (by decide) rfl rfl rfl fun a hE=>ZJ hE (Zf hE rfl (lkb rfl hb81)) (by decide) rfl rfl rfl fun a hE=>ZJ hE (Zf hE rfl (lkb rfl hb81)) (by decide) rfl rfl rfl fun a hE=>Zy hE (lkb rfl hb81) rfl fun a hE=>Zj ?_
          obtain rfl:=Option.some.inj hl77
          refine Zi ?_
          have hM:=M.fst (l:=[]) hM
          exact ⟨hE.sub ⟨rfl,rfl,trivial⟩,hM⟩
       ·skip
        rintro a w ⟨hE,hM⟩
        refine Zm hE rfl ?_ ?_
        ·intro hb84
         have hF78:=Zn hF78 hb84
         refine Zc (Zb hE rfl fun a hE=>Ze ?_)
         obtain rfl:=Option.some.inj hF78
         obtain rfl:=Option.some.inj hF25
         exact wp_ret (Zr (Yb hE rfl (Zl hE rfl) ⟨_,rfl,rfl,kto hK0 hM⟩))
        ·intro hb84
         have hF78:=Zo hF78 hb84
         refine wp_skip ?_
         obtain rfl:=Option.some.inj hF78
         refine Zi ?_
         exact ⟨(),rfl,hE.sub ⟨rfl,trivial⟩,hM⟩
     ·intro hb27
      have hl24:=Zo hl24 hb27
      refine wp_skip ?_
      obtain rfl:=Option.some.inj hl24
      refine Zi ?_
      have hM:=M.fst (l:=[]) hM
      exact ⟨(),rfl,hE.sub ⟨rfl,trivial⟩,hM⟩
    ·skip
     rintro a w ⟨s26,ht,hE,hM⟩
     subst ht
     have hF25:=VQ hF25
     refine Zc (Zd hE rfl ?_); intro a hE
     obtain ⟨r88,e89,hF25⟩:=bind_some hF25
     refine Zq hE rfl (cbm Tryz.func11) (JC _ p0 v0_1 (hM.rdo hv0_1) r88 e89) ?_
     rintro v w a ⟨u90,rfl,hFr,hK⟩ hE
     have hM:=hM.add hK hFr
     refine Zd hE rfl fun a hE=>Zt hE Za ld rfl rfl fun a hE=>Zt hE Za ld rfl rfl fun a hE=>Zb hE rfl fun a hE=>Zb hE rfl fun a hE=>Ze (Zc (Zd hE rfl fun a hE=>Zd hE rfl ?_)); intro a hE
     obtain ⟨r91,e92,hF25⟩:=bind_some hF25
     refine Zq hE rfl (cbm Tryz.func12) (BQ _ r88.1 r88.2 u90 (hM.sl (pre:=[]) noB) r91 e92) ?_
     rintro v w a ⟨u93,rfl,hFr,hK⟩ hE
     have hM:=hM.add hK hFr
     refine Zd hE rfl fun a hE=>Zt hE Za ld rfl rfl fun a hE=>Zt hE Za ld rfl rfl fun a hE=>Zb hE rfl fun a hE=>Zb hE rfl fun a hE=>Ze (Zc (Zd hE rfl fun a hE=>Zd hE rfl ?_)); intro a hE
     obtain ⟨r94,e95,hF25⟩:=bind_some hF25
     refine Zq hE rfl (cbm Tryz.func13) (Ba _ r88.1 r88.2 u90 (hM.sl (pre:=[_]) noB) r94 e95) ?_
     rintro v w a ⟨u96,rfl,hFr,hK⟩ hE
     have hM:=hM.add hK hFr
     refine Zd hE rfl fun a hE=>Zt hE Za ld rfl rfl fun a hE=>Zt hE Za ld rfl rfl fun a hE=>Zb hE rfl fun a hE=>Zb hE rfl fun a hE=>Ze (wp_seq ?_)
     obtain ⟨j97,hl98,hF99⟩:=bind_some hF25
     refine Zx (fun a w=>Env 398 a [(0,v0_1),(14,vI r88.1),(15,u90),(16,u93),(17,vI r91.2),(161,vT j97)] ∧ M (Old w0) w0 w [osl NoB (r91.1 : List UInt8) u93,osl NoB (r88.2 : List UInt8) u90]) ?_ ?_
     ·skip
      refine wp_region_lit (Zd hE rfl fun a hE=>Zd hE rfl fun a hE=>Zk hE rfl rfl rfl fun a hE=>Zd hE rfl ?_); intro a hE
      refine ZO (r91.2 != r94.2) (fun hb100=>?_) (fun hb100=>?_)
      ·have hl98:=Zn hl98 hb100
       refine Zg hE rfl (lkb rfl hb100) rfl (by decide) fun a hE=>Zg hE rfl (lkb rfl hb100) rfl (by decide) fun a hE=>Zg hE rfl (lkb rfl hb100) rfl (by decide) fun a hE=>Zg hE rfl (lkb rfl hb100) rfl (by decide) fun a hE=>ZB hE (lkb rfl hb100) rfl fun a hE=>Zj ?_
       obtain rfl:=Option.some.inj hl98
       refine Zi ?_
       have hM:=M.fst (l:=[_,_]) hM.pull2.pull2
       exact ⟨hE.sub ⟨rfl,rfl,rfl,rfl,rfl,rfl,trivial⟩,hM⟩
      ·have hl98:=Zo hl98 hb100
       refine Zh hE (Zf hE rfl (lkb rfl hb100)) (by decide) rfl fun a hE=>Zh hE (Zf hE rfl (lkb rfl hb100)) (by decide) rfl ?_; intro a hE
       obtain ⟨r102,e103,hl98⟩:=bind_some hl98
       refine ZW hE (Zf hE rfl (lkb rfl hb100)) (by decide) rfl cb14 (Qg _ r91.1 u93 (hM.sl (pre:=[_]) noB) r94.1 u96 (hM.sl (pre:=[]) noB) r102 e103) ?_
       rintro v w a ⟨rfl,hK⟩ hE
       have hM:=hM.keep hK
       refine U5 hE (Zf hE rfl (lkb rfl hb100)) (by decide) rfl fun a hE=>Zy hE (lkb rfl hb100) rfl fun a hE=>Zj ?_
       obtain rfl:=Option.some.inj hl98
       refine Zi ?_
       have hM:=M.fst (l:=[_,_]) hM.pull2.pull2
       exact ⟨hE.sub ⟨rfl,rfl,rfl,rfl,rfl,rfl,trivial⟩,hM⟩
     ·skip
      rintro a w ⟨hE,hM⟩
      refine Zm hE rfl ?_ ?_
      ·intro hb105
       have hF99:=Zn hF99 hb105
       refine Zc (Zb hE rfl fun a hE=>Ze ?_)
       obtain rfl:=Option.some.inj hF99
       have hM:=M.fst (l:=[]) hM
       exact wp_ret (Zr (Yb hE rfl (Zl hE rfl) ⟨_,rfl,rfl,kto hK0 hM⟩))
      ·intro hb105
       have hF99:=Zo hF99 hb105
       refine wp_skip (Zu ?_)
       obtain ⟨j106,hl107,hF108⟩:=bind_some hF99
       refine Zx (fun a w=>∃ s109 : Unit,j106 = Fl.nx s109 ∧ Env 398 a [(0,v0_1)] ∧ M (Old w0) w0 w []) ?_ ?_
       ·skip
        refine Zc (Zd hE rfl fun a hE=>Zk hE rfl rfl rfl fun a hE=>Ze ?_)
        refine Zm hE rfl ?_ ?_
        ·intro hb110
         have hl107:=Zn hl107 hb110
         refine wp_seq (Zc (Zd hE rfl fun a hE=>ZL hE rfl Tryz.underlying22 (hM.sl (pre:=[]) noB) fun a hE=>Zd hE rfl fun a hE=>ZL hE rfl Tryz.underlying22 (hM.sl (pre:=[_]) noB) fun a hE=>Zk hE rfl rfl rfl fun a hE=>Ze ?_))
         refine Zm hE rfl ?_ ?_
         ·intro hb111
          have hl107:=Zn hl107 hb111
          refine Zc (Zb hE rfl fun a hE=>Ze ?_)
          obtain rfl:=Option.some.inj hl107
          obtain rfl:=Option.some.inj hF108
          have hM:=M.fst (l:=[]) hM
          exact wp_ret (Zr (Zr (Yb hE rfl (Zl hE rfl) ⟨_,rfl,rfl,kto hK0 hM⟩)))
         ·intro hb111
          have hl107:=Zo hl107 hb111
          refine wp_skip (Zu (Zc (Zd hE rfl ?_))); intro a hE
          have hM:=M.tailP (m:=[]) hM
          obtain ⟨r113,e114,hl107⟩:=bind_some hl107
          refine Zq hE rfl (cbm Tryz.func16) (jc _ _ _ _ p0 v0_1 hv0_1 906 hM r113 e114) ?_
          rintro v w a ⟨b115,rfl,hM⟩ hE
          have hM:=M.tailU (m:=[_]) hM
          simp only [List.cons_append,List.nil_append] at hM
          refine Zd hE rfl fun a hE=>ZL hE rfl Tryz.underlying22 (hM.sl (pre:=[_,_]) noB) ?_; intro a hE
          have hM:=M.tailP (m:=[_]) hM
          obtain ⟨r117,e118,hl107⟩:=bind_some hl107
          refine Zq hE rfl (cbm Tryz.func15) (yM _ _ _ _ b115 p0 v0_1 hv0_1 (r113.1,r113.2) (r88.2.length : Int) hM r117 e118) ?_
          rintro u119 w a ⟨_,rfl,hM⟩ hE
          have hM:=M.tailU (m:=[_,_]) hM
          simp only [List.cons_append,List.nil_append] at hM
          refine Zb hE rfl fun a hE=>Ze (Zc (Zd hE rfl fun a hE=>Zd hE rfl fun a hE=>Zd hE rfl ?_)); intro a hE
          obtain ⟨r120,e121,hl107⟩:=bind_some hl107
          refine Zq hE rfl (cbm Tryz.func17) (Jn _ r88.1 r88.2 u90 (hM.sl (pre:=[_,_,_]) noB) r117.2 u119 (hM.sl (pre:=[_]) noB) r120 e121) ?_
          rintro v w a ⟨u122,rfl,hFr,hK⟩ hE
          have hM:=hM.add hK hFr
          refine Zd hE rfl fun a hE=>Zt hE Za ld rfl rfl fun a hE=>Zt hE Za ld rfl rfl fun a hE=>Zb hE rfl fun a hE=>Zb hE rfl fun a hE=>Ze (wp_seq ?_)
          obtain ⟨j123,hl124,hF125⟩:=bind_some hl107
          refine Zx (fun a w=>Env 398 a [(0,v0_1),(14,vI r88.1),(15,u90),(16,u93),(20,u119),(21,u122),(187,vT j123)] ∧ M (Old w0) w0 w [osl NoB (r120.1 : List UInt8) u122,osl NoB (r117.2 : List UInt8) u119,osl NoB (r91.1 : List UInt8) u93,osl NoB (r88.2 : List UInt8) u90]) ?_ ?_
          ·skip
           refine wp_region_lit (Zd hE rfl fun a hE=>Zk hE rfl rfl rfl fun a hE=>Zd hE rfl ?_); intro a hE
           refine ZO (r120.2 != 0) (fun hb126=>?_) (fun hb126=>?_)
           ·have hl124:=Zn hl124 hb126
            refine Zg hE rfl (lkb rfl hb126) rfl (by decide) fun a hE=>Zg hE rfl (lkb rfl hb126) rfl (by decide) fun a hE=>Zg hE rfl (lkb rfl hb126) rfl (by decide) fun a hE=>ZB hE (lkb rfl hb126) rfl fun a hE=>Zj ?_
            obtain rfl:=Option.some.inj hl124
            refine Zi ?_
            have hM:=M.fst (l:=[_,_,_,_]) hM.pull4.pull4.pull4.pull3
            exact ⟨hE.sub ⟨rfl,rfl,rfl,rfl,rfl,rfl,rfl,trivial⟩,hM⟩
           ·have hl124:=Zo hl124 hb126
            refine Zh hE (Zf hE rfl (lkb rfl hb126)) (by decide) rfl fun a hE=>XN hE (Zf hE rfl (lkb rfl hb126)) (by decide) rfl Tryz.underlying22 (hM.sl (pre:=[]) noB) fun a hE=>ZJ hE (Zf hE rfl (lkb rfl hb126)) (by decide) rfl rfl rfl fun a hE=>Zy hE (lkb rfl hb126) rfl fun a hE=>Zj ?_
            obtain rfl:=Option.some.inj hl124
            refine Zi ?_
            have hM:=M.fst (l:=[_,_,_,_]) hM.pull4.pull4.pull4.pull3
            exact ⟨hE.sub ⟨rfl,rfl,rfl,rfl,rfl,rfl,rfl,trivial⟩,hM⟩
          ·skip
           rintro a w ⟨hE,hM⟩
           refine Zm hE rfl ?_ ?_
           ·intro hb129
            have hF125:=Zn hF125 hb129
            refine Zc (Zb hE rfl fun a hE=>Ze ?_)
            obtain rfl:=Option.some.inj hF125
            obtain rfl:=Option.some.inj hF108
            have hM:=M.fst (l:=[]) hM
            exact wp_ret (Zr (Zr (Yb hE rfl (Zl hE rfl) ⟨_,rfl,rfl,kto hK0 hM⟩)))
           ·intro hb129
            have hF125:=Zo hF125 hb129
            refine wp_skip (Zu (Zc (Zb hE rfl fun a hE=>Ze (wp_seq (Zc (Zb hE rfl fun a hE=>Ze ?_))))))
            obtain ⟨j131,hl132,hF133⟩:=bind_some hF125
            refine ZP (fun a w=>∃ s134 : UInt8,j131 = Fl.nx s134 ∧ Env 398 a [(0,v0_1),(21,u122),(23,vB s134)] ∧ M (Old w0) w0 w [osl NoB (r120.1 : List UInt8) u122]) ?_ ?_
            ·skip
             refine wp_block ?_
             refine ZK (fun (s135 : UInt8 × Int) a w=>Env 398 a [(0,v0_1),(14,vI r88.1),(15,u90),(16,u93),(20,u119),(21,u122),(23,vB s135.1),(24,vI s135.2)] ∧ M (Old w0) w0 w [osl NoB (r120.1 : List UInt8) u122,osl NoB (r117.2 : List UInt8) u119,osl NoB (r91.1 : List UInt8) u93,osl NoB (r88.2 : List UInt8) u90]) hl132 ⟨hE.sub ⟨rfl,rfl,rfl,rfl,rfl,rfl,rfl,rfl,trivial⟩,hM⟩ ?_
             rintro s135 a w ⟨hE,hM⟩ o138 hs136 hx137
             unfold Xf at hs136
             refine wp_seq (Zc (Zd hE rfl fun a hE=>Zd hE rfl fun a hE=>ZL hE rfl Tryz.underlying22 (hM.sl (pre:=[_,_,_]) noB) fun a hE=>Zk hE rfl rfl rfl fun a hE=>Ze ?_))
             refine Zm hE rfl ?_ ?_
             ·intro hb139
              have hs136:=Zn hs136 hb139
              refine wp_skip (Zu (wp_seq (wp_block ?_)))
              obtain ⟨j140,hl141,hF142⟩:=bind_some hs136
              refine Zx (fun a w=>Env 398 a [(0,v0_1),(14,vI r88.1),(15,u90),(16,u93),(20,u119),(21,u122),(23,vB s135.1),(24,vI s135.2),(25,vB j140.1),(26,vI j140.2)] ∧ M (Old w0) w0 w [osl NoB (r120.1 : List UInt8) u122,osl NoB (r117.2 : List UInt8) u119,osl NoB (r91.1 : List UInt8) u93,osl NoB (r88.2 : List UInt8) u90]) ?_ ?_
              ·skip
               obtain ⟨x144,hi146,hl141⟩:=bix hl141
               obtain ⟨x147,hi149,hl141⟩:=bix hl141
               obtain ⟨r150,e151,hl141⟩:=bind_some hl141
               refine YA [195,196,197,198,199,200,201,202,203,204,194,205,206,25,26] Wb rfl rfl (by decide) rfl hE hM (qsP (fun z=>Zh z.E Za ld rfl (kr0 rfl)) (qsP (fun z=>Zh z.E Za ld rfl (kr0 rfl)) (qsP (fun z=>Zh z.E Za ld rfl (kr0 rfl)) (qsP (fun z=>ZA z.E Za ld rfl rfl Tryz.underlying22 ty5 (z.M.sl (pre:=[_,_]) noB) hi146.1 (kr0 rfl)) (qsP (fun z=>ZE (v:=(vB x144)) z.E Za ld rfl ty5 rfl (ZS (z.M.sl (pre:=[_,_]) noB) hi146.2) (kr0 rfl)) (qsP (fun z=>Zh z.E Za ld rfl (kr0 rfl)) (qsP (fun z=>Zh z.E Za ld rfl (kr0 rfl)) (qsP (fun z=>ZA z.E Za ld rfl rfl Tryz.underlying22 ty5 (z.M.sl (pre:=[_]) noB) hi149.1 (kr0 rfl)) (qsP (fun z=>ZE (v:=(vB x147)) z.E Za ld rfl ty5 rfl (ZS (z.M.sl (pre:=[_]) noB) hi149.2) (kr0 rfl)) (qsP (fun z=>ZW z.E Za ld rfl (cbm Tryz.func18) (AD _ r88.1 x144 x147 r150 e151) (kc rfl)) (qsP (fun z=>Zh z.E Za ld rfl (kr0 rfl)) (qsP (fun z=>Zt z.E Za ld rfl rfl (kr0 rfl)) (qsP (fun z=>Zt z.E Za ld rfl rfl (kr0 rfl)) (qsP (fun z=>YO z.E Za ld rfl (kr0 rfl)) (qsP (fun z=>YO z.E Za ld rfl (kr0 rfl)) qs0))))))))))))))) ?_
               ·intro a w u hE hM
                refine Zj ?_
                obtain rfl:=Option.some.inj hl141
                refine Zi ?_
                exact ⟨hE.sub ⟨rfl,rfl,rfl,rfl,rfl,rfl,rfl,rfl,rfl,rfl,trivial⟩,hM⟩
              ·skip
               rintro a w ⟨hE,hM⟩
               refine wp_seq (Zc (Zd hE rfl fun a hE=>Zk hE rfl rfl rfl fun a hE=>Ze ?_))
               refine Zm hE rfl ?_ ?_
               ·intro hb153
                have hF142:=Zn hF142 hb153
                refine Zc (Zb hE rfl fun a hE=>Ze ?_)
                obtain rfl:=hx137 _ (ois hF142)
                obtain rfl:=Option.some.inj hF133
                obtain rfl:=Option.some.inj hF108
                have hM:=M.fst (l:=[]) hM
                exact wp_ret (Zr (Z4 (Zr (Zr (Z4 (Zr (Zr (Zr (Yb hE rfl (Zl hE rfl) ⟨_,rfl,rfl,kto hK0 hM⟩)))))))))
               ·intro hb153
                have hF142:=Zo hF142 hb153
                refine wp_skip (Zu (wp_region_lit (Zd hE rfl fun a hE=>Zd hE rfl fun a hE=>Zk hE rfl rfl (Ur s135.1 j140.1) fun a hE=>Zb hE rfl fun a hE=>Zj (Yg (Zu (wp_region_lit (Zd hE rfl fun a hE=>Zk hE rfl rfl rfl fun a hE=>Zb hE rfl fun a hE=>Zj (Zi ?_))))))))
                exact ⟨_,(ois hF142),hE.sub ⟨rfl,rfl,rfl,rfl,rfl,rfl,rfl,rfl,trivial⟩,hM⟩
             ·intro hb139
              have hs136:=Zo hs136 hb139
              refine wp_exit (Zs (Zs (Ys ?_)))
              obtain rfl:=hx137 _ (ois hs136)
              refine Zi ?_
              have hM:=M.fst (l:=[_]) hM
              exact ⟨s135.1,rfl,hE.sub ⟨rfl,rfl,rfl,trivial⟩,hM⟩
            ·skip
             rintro a w ⟨s134,ht,hE,hM⟩
             subst ht
             have hF133:=VQ hF133
             refine Zu (Zc (Zd hE rfl fun a hE=>Zd hE rfl ?_)); intro a hE
             obtain ⟨x157,hi159,hF133⟩:=bix hF133
             refine ZG hE rfl rfl Tryz.underlying22 ty5 (hM.sl (pre:=[]) noB) hi159.1 fun a hE=>ZX (v:=(vB x157)) hE rfl ty5 rfl (ZS (hM.sl (pre:=[]) noB) hi159.2) fun a hE=>Zk hE rfl rfl (Kd s134 x157) fun a hE=>Ze ?_
             refine Zm hE rfl ?_ ?_
             ·intro hb160
              have hF133:=Zn hF133 hb160
              refine Zc (Zb hE rfl fun a hE=>Ze ?_)
              obtain rfl:=Option.some.inj hF133
              obtain rfl:=Option.some.inj hF108
              have hM:=M.fst (l:=[]) hM
              exact wp_ret (Zr (Yb hE rfl (Zl hE rfl) ⟨_,rfl,rfl,kto hK0 hM⟩))
             ·intro hb160
              have hF133:=Zo hF133 hb160
              refine wp_skip ?_
              obtain rfl:=Option.some.inj hF133
              refine Zi ?_
              have hM:=M.fst (l:=[]) hM
              exact ⟨(),rfl,hE.sub ⟨rfl,trivial⟩,hM⟩
        ·intro hb110
         have hl107:=Zo hl107 hb110
         refine wp_skip ?_
         obtain rfl:=Option.some.inj hl107
         refine Zi ?_
         have hM:=M.fst (l:=[]) hM
         exact ⟨(),rfl,hE.sub ⟨rfl,trivial⟩,hM⟩
       ·skip
        rintro a w ⟨s109,ht,hE,hM⟩
        subst ht
        have hF108:=VQ hF108
        refine Zc (Zd hE rfl ?_); intro a hE
        obtain ⟨r164,e165,hF108⟩:=bind_some hF108
        refine Zq hE rfl (cbm Tryz.func19) (JS _ p0 v0_1 (hM.rdo hv0_1) r164 e165) ?_
        rintro v w a ⟨u166,u167,u168,rfl,hFr,hro169,hK⟩ hE
        have hM:=hM.add hK hFr
        refine Zd hE rfl fun a hE=>Zt hE Za ld rfl rfl fun a hE=>Zt hE Za ld rfl rfl fun a hE=>Zt hE Za ld rfl rfl fun a hE=>Zt hE Za ld rfl rfl fun a hE=>Zt hE Za ld rfl rfl fun a hE=>Zb hE rfl fun a hE=>Zb hE rfl fun a hE=>Zb hE rfl fun a hE=>Zb hE rfl fun a hE=>Zb hE rfl fun a hE=>Ze (Zc (Zd hE rfl ?_)); intro a hE
        refine Zd hE rfl fun a hE=>Zd hE rfl fun a hE=>Zd hE rfl fun a hE=>Zd hE rfl ?_; intro a hE
        obtain ⟨r170,e171,hF108⟩:=bind_some hF108
        refine Zq hE rfl (cbm Tryz.func20) (Ad _ r164.1 r164.2.1 u166 (hM.sl (pre:=[]) noB) r164.2.2.1 u167 hro169 r164.2.2.2.1 u168 (hM.sl (pre:=[_]) noB) r164.2.2.2.2 r170 e171) ?_
        rintro v w a ⟨rfl,hK⟩ hE
        have hM:=hM.keep hK
        have hro169:=JE hro169 hK
        refine Zd hE rfl fun a hE=>Zt hE Za ld rfl rfl fun a hE=>Zt hE Za ld rfl rfl fun a hE=>Zb hE rfl fun a hE=>Zb hE rfl fun a hE=>Ze (Zc (Zd hE rfl fun a hE=>Zd hE rfl fun a hE=>Zd hE rfl fun a hE=>Zd hE rfl fun a hE=>Zd hE rfl ?_)); intro a hE
        obtain ⟨r172,e173,hF108⟩:=bind_some hF108
        refine Zq hE rfl (cbm Tryz.func21) (B9 _ r164.1 r164.2.1 u166 (hM.sl (pre:=[]) noB) r164.2.2.1 u167 hro169 r164.2.2.2.1 u168 (hM.sl (pre:=[_]) noB) r164.2.2.2.2 r172 e173) ?_
        rintro v w a ⟨rfl,hK⟩ hE
        have hM:=hM.keep hK
        have hro169:=JE hro169 hK
        refine Zd hE rfl fun a hE=>Zt hE Za ld rfl rfl fun a hE=>Zt hE Za ld rfl rfl fun a hE=>Zb hE rfl fun a hE=>Zb hE rfl fun a hE=>Ze (wp_seq ?_)
        obtain ⟨j174,hl175,hF176⟩:=bind_some hF108
        refine Zx (fun a w=>Env 398 a [(0,v0_1),(264,vT j174)] ∧ M (Old w0) w0 w []) ?_ ?_
        ·skip
         refine wp_region_lit (Zd hE rfl fun a hE=>Zd hE rfl fun a hE=>Zk hE rfl rfl rfl fun a hE=>Zd hE rfl ?_); intro a hE
         refine ZO (r170.2 != r172.2) (fun hb177=>?_) (fun hb177=>?_)
         ·have hl175:=Zn hl175 hb177
          refine Zg hE rfl (lkb rfl hb177) rfl (by decide) fun a hE=>Zg hE rfl (lkb rfl hb177) rfl (by decide) fun a hE=>Zg hE rfl (lkb rfl hb177) rfl (by decide) fun a hE=>ZB hE (lkb rfl hb177) rfl fun a hE=>Zd hE rfl fun a hE=>Zg hE rfl rfl rfl (by decide) fun a hE=>Zg hE rfl rfl rfl (by decide) fun a hE=>Zg hE rfl rfl rfl (by decide) fun a hE=>YR hE rfl rfl (by decide) fun a hE=>YR hE rfl rfl (by decide) fun a hE=>YR hE rfl rfl (by decide) fun a hE=>YR hE rfl rfl (by decide) ?_; intro a hE
          refine Zg hE rfl rfl rfl (by decide) fun a hE=>Zg hE rfl rfl rfl (by decide) fun a hE=>YR hE rfl rfl (by decide) fun a hE=>YR hE rfl rfl (by decide) fun a hE=>Zg hE rfl rfl rfl (by decide) fun a hE=>ZB hE rfl rfl fun a hE=>Zj ?_
          obtain rfl:=Option.some.inj hl175
          refine Zi ?_
          have hM:=M.fst (l:=[]) hM
          exact ⟨hE.sub ⟨rfl,rfl,trivial⟩,hM⟩
         ·have hl175:=Zo hl175 hb177
          refine Zh hE (Zf hE rfl (lkb rfl hb177)) (by decide) rfl fun a hE=>Zh hE (Zf hE rfl (lkb rfl hb177)) (by decide) rfl fun a hE=>s_neT hE (Zf hE rfl (lkb rfl hb177)) (by decide) rfl rfl Tryz.underlying4 fun a hE=>Zy hE (lkb rfl hb177) rfl fun a hE=>Zd hE rfl ?_; intro a hE
          refine ZO (r170.1 != r172.1) (fun hb179=>?_) (fun hb179=>?_)
          ·have hl175:=Zn hl175 hb179
           refine Zg hE rfl (lkb rfl hb179) rfl (by decide) fun a hE=>Zg hE rfl (lkb rfl hb179) rfl (by decide) fun a hE=>Zg hE rfl (lkb rfl hb179) rfl (by decide) fun a hE=>YR hE rfl rfl (by decide) fun a hE=>YR hE rfl rfl (by decide) fun a hE=>YR hE rfl rfl (by decide) fun a hE=>YR hE rfl rfl (by decide) fun a hE=>Zg hE rfl (lkb rfl hb179) rfl (by decide) fun a hE=>Zg hE rfl (lkb rfl hb179) rfl (by decide) fun a hE=>YR hE rfl rfl (by decide) fun a hE=>YR hE rfl rfl (by decide) fun a hE=>Zg hE rfl (lkb rfl hb179) rfl (by decide) ?_; intro a hE
           refine ZB hE (lkb rfl hb179) rfl fun a hE=>Zj ?_
           obtain rfl:=Option.some.inj hl175
           refine Zi ?_
           have hM:=M.fst (l:=[]) hM
           exact ⟨hE.sub ⟨rfl,rfl,trivial⟩,hM⟩
          ·have hl175:=Zo hl175 hb179
           refine Zh hE (Zf hE rfl (lkb rfl hb179)) (by decide) rfl fun a hE=>ZJ hE (Zf hE rfl (lkb rfl hb179)) (by decide) rfl rfl rfl fun a hE=>Zh hE (Zf hE rfl (lkb rfl hb179)) (by decide) rfl ?_; intro a hE
           refine ZO (r170.2 == 0) (fun hb181=>?_) (fun hb181=>?_)
           ·have hl175:=Zn hl175 hb181
            refine Zh hE (Zf hE rfl (lkb rfl hb181)) (by decide) rfl fun a hE=>XN hE (Zf hE rfl (lkb rfl hb181)) (by decide) rfl Tryz.underlying24 (hM.sl (pre:=[_]) noB) fun a hE=>Zh hE (Zf hE rfl (lkb rfl hb181)) (by decide) rfl fun a hE=>ZJ hE (Zf hE rfl (lkb rfl hb181)) (by decide) rfl rfl rfl fun a hE=>WT hE (Zf hE rfl (lkb rfl hb179)) (by decide) (lkb rfl hb181) rfl fun a hE=>Zh hE (Zf hE rfl (lkb rfl hb179)) (by decide) rfl ?_; intro a hE
            refine ZO (decide ((r164.2.2.2.1.length : Int) < r164.2.2.2.2)) (fun hb182=>?_) (fun hb182=>?_)
            ·have hl175:=Zn hl175 hb182
             refine Zh hE (Zf hE rfl (lkb rfl hb182)) (by decide) rfl fun a hE=>U5 hE (Zf hE rfl (lkb rfl hb182)) (by decide) rfl fun a hE=>WT hE (Zf hE rfl (lkb rfl hb179)) (by decide) (lkb rfl hb182) rfl fun a hE=>Zy hE (lkb rfl hb179) rfl fun a hE=>Zj ?_
             obtain rfl:=Option.some.inj hl175
             refine Zi ?_
             have hM:=M.fst (l:=[]) hM
             exact ⟨hE.sub ⟨rfl,rfl,trivial⟩,hM⟩
            ·have hl175:=Zo hl175 hb182
             refine Zg hE rfl (lkb rfl hb182) rfl (by decide) fun a hE=>Zg hE rfl (lkb rfl hb182) rfl (by decide) fun a hE=>Wl hE (Zf hE rfl (lkb rfl hb179)) (by decide) (lkb rfl hb182) rfl fun a hE=>Zy hE (lkb rfl hb179) rfl fun a hE=>Zj ?_
             obtain rfl:=Option.some.inj hl175
             refine Zi ?_
             have hM:=M.fst (l:=[]) hM
             exact ⟨hE.sub ⟨rfl,rfl,trivial⟩,hM⟩
           ·have hl175:=Zo hl175 hb181
            refine Zg hE rfl (lkb rfl hb181) rfl (by decide) fun a hE=>Zg hE rfl (lkb rfl hb181) rfl (by decide) fun a hE=>Zg hE rfl (lkb rfl hb181) rfl (by decide) fun a hE=>Zg hE rfl (lkb rfl hb181) rfl (by decide) fun a hE=>Wl hE (Zf hE rfl (lkb rfl hb179)) (by decide) (lkb rfl hb181) rfl fun a hE=>Zh hE (Zf hE rfl (lkb rfl hb179)) (by decide) rfl fun a hE=>Zg hE rfl rfl rfl (by decide) fun a hE=>Zg hE rfl rfl rfl (by decide) fun a hE=>Wl hE (Zf hE rfl (lkb rfl hb179)) (by decide) rfl rfl fun a hE=>Zy hE (lkb rfl hb179) rfl fun a hE=>Zj ?_
            obtain rfl:=Option.some.inj hl175
            refine Zi ?_
            have hM:=M.fst (l:=[]) hM
            exact ⟨hE.sub ⟨rfl,rfl,trivial⟩,hM⟩
        ·skip
         rintro a w ⟨hE,hM⟩
         refine Zm hE rfl ?_ ?_
         ·intro hb186
          have hF176:=Zn hF176 hb186
          refine Zc (Zb hE rfl fun a hE=>Ze ?_)
          obtain rfl:=Option.some.inj hF176
          exact wp_ret (Zr (Yb hE rfl (Zl hE rfl) ⟨_,rfl,rfl,kto hK0 hM⟩))
         ·intro hb186
          have hF176:=Zo hF176 hb186
          refine wp_skip (Zu (Zc (Zd hE rfl ?_))); intro a hE
          obtain ⟨r187,e188,hF176⟩:=bind_some hF176
          refine Zq hE rfl (cbm Tryz.func22) (Jt _ p0 v0_1 (hM.rdo hv0_1) r187 e188) ?_
          rintro v w a ⟨u189,rfl,hFr,hK⟩ hE
          have hM:=hM.add hK hFr
          refine UP hE hM ZN fun b190 w a hM hE=>Xs (seg:=cat [[vB r187.Place],[u189]]) (cs':=cat [[vB r187.Place],[u189]]) hE hM Za rfl rfl rfl ZN cq (Nat.le_of_eq ((Nat.zero_add _).trans (Eq.trans cq (Eq.symm cq)))) (Wu (cc1 (Flat.cell (r187.Place : UInt8)) (cc1 (Rep.cell (hM.sl (pre:=[_]) noB)) cc0))) (ZZ (Eq.trans cq (Eq.symm cq))) fun w a hM hE=>Ze (Zc (WR hE rfl ZN rfl hM.rawAt0 cq ?_)); intro a hE
          obtain ⟨r192,e193,hF176⟩:=bind_some hF176
          refine Zq hE rfl (cbm Tryz.func23) (BA _ r187 u189 (hM.sl (pre:=[_]) noB) (hT.kept hM.kept) r192 e193) ?_
          rintro v w a ⟨rfl,hK⟩ hE
          have hM:=hM.keep hK
          refine Zd hE rfl fun a hE=>Zt hE Za ld rfl rfl fun a hE=>Zt hE Za ld rfl rfl fun a hE=>Zb hE rfl fun a hE=>Zb hE rfl fun a hE=>Ze (Zc (WR hE rfl ZN rfl hM.rawAt0 cq ?_)); intro a hE
          obtain ⟨r194,e195,hF176⟩:=bind_some hF176
          refine Zq hE rfl (cbm Tryz.func24) (Bu _ r187 u189 (hM.sl (pre:=[_]) noB) r194 e195) ?_
          rintro v w a ⟨rfl,hK⟩ hE
          have hM:=hM.keep hK
          refine Zd hE rfl fun a hE=>Zt hE Za ld rfl rfl fun a hE=>Zt hE Za ld rfl rfl fun a hE=>Zb hE rfl fun a hE=>Zb hE rfl fun a hE=>Ze (wp_seq ?_)
          obtain ⟨j196,hl197,hF198⟩:=bind_some hF176
          refine Zx (fun a w=>Env 398 a [(0,v0_1),(36,(ptr b190 0)),(37,(vS r192.1)),(38,vI r192.2),(284,vT j196)] ∧ M (Old w0) w0 w [raw b190 (cat [[vB r187.Place],[u189]]),osl NoB (r187.Data : List UInt8) u189]) ?_ ?_
          ·skip
           refine wp_region_lit (Zd hE rfl fun a hE=>Zd hE rfl fun a hE=>Zk hE rfl rfl rfl fun a hE=>Zd hE rfl ?_); intro a hE
           refine ZO (r192.2 != r194.2) (fun hb199=>?_) (fun hb199=>?_)
           ·have hl197:=Zn hl197 hb199
            refine Zg hE rfl (lkb rfl hb199) rfl (by decide) fun a hE=>Zg hE rfl (lkb rfl hb199) rfl (by decide) fun a hE=>Zg hE rfl (lkb rfl hb199) rfl (by decide) fun a hE=>ZB hE (lkb rfl hb199) rfl fun a hE=>Zj ?_
            obtain rfl:=Option.some.inj hl197
            refine Zi ?_
            exact ⟨hE.sub ⟨rfl,rfl,rfl,rfl,rfl,trivial⟩,hM⟩
           ·have hl197:=Zo hl197 hb199
            refine Zh hE (Zf hE rfl (lkb rfl hb199)) (by decide) rfl fun a hE=>Zh hE (Zf hE rfl (lkb rfl hb199)) (by decide) rfl fun a hE=>s_neS hE (Zf hE rfl (lkb rfl hb199)) (by decide) rfl rfl fun a hE=>Zy hE (lkb rfl hb199) rfl fun a hE=>Zj ?_
            obtain rfl:=Option.some.inj hl197
            refine Zi ?_
            exact ⟨hE.sub ⟨rfl,rfl,rfl,rfl,rfl,trivial⟩,hM⟩
          ·skip
           rintro a w ⟨hE,hM⟩
           refine Zm hE rfl ?_ ?_
           ·intro hb202
            have hF198:=Zn hF198 hb202
            refine Zc (Zb hE rfl fun a hE=>Ze ?_)
            obtain rfl:=Option.some.inj hF198
            have hM:=M.fst (l:=[]) hM
            exact wp_ret (Zr (Yb hE rfl (Zl hE rfl) ⟨_,rfl,rfl,kto hK0 hM⟩))
           ·intro hb202
            have hF198:=Zo hF198 hb202
            refine wp_skip (Zu ?_)
            obtain ⟨j203,hl204,hF205⟩:=bind_some hF198
            refine Zx (fun a w=>∃ s206 : Unit,j203 = Fl.nx s206 ∧ Env 398 a [(0,v0_1)] ∧ M (Old w0) w0 w []) ?_ ?_
            ·skip
             refine Zc (Zd hE rfl fun a hE=>Zk hE rfl rfl rfl fun a hE=>Ze ?_)
             refine Zm hE rfl ?_ ?_
             ·intro hb207
              have hl204:=Zn hl204 hb207
              refine Zc (Zd hE rfl ?_); intro a hE
              obtain ⟨r208,e209,hl204⟩:=bind_some hl204
              refine Zq hE rfl (cbm Tryz.func25) (Q1 _ r192.1 (hT.kept hM.kept) r208 e209) ?_
              rintro v w a ⟨u210,rfl,hFr,hK⟩ hE
              have hM:=hM.add hK hFr
              refine Zd hE rfl fun a hE=>Zt hE Za ld rfl rfl fun a hE=>Zt hE Za ld rfl rfl fun a hE=>UP hE hM ZN fun b211 w a hM hE=>Xs (seg:=cat [[vB r208.1.Place],[u210]]) (cs':=cat [[vB r208.1.Place],[u210]]) hE hM Za rfl rfl rfl ZN cq (Nat.le_of_eq ((Nat.zero_add _).trans (Eq.trans cq (Eq.symm cq)))) (Wu (cc1 (Flat.cell (r208.1.Place : UInt8)) (cc1 (Rep.cell (hM.sl (pre:=[_]) noB)) cc0))) (ZZ (Eq.trans cq (Eq.symm cq))) fun w a hM hE=>Zb hE rfl fun a hE=>Ze ?_
              obtain ⟨j213,hl214,hF215⟩:=bind_some hl204
              refine Zx (fun a w=>Env 398 a [(0,v0_1),(308,vT j213)] ∧ M (Old w0) w0 w []) ?_ ?_
              ·skip
               refine wp_region_lit (Zd hE rfl fun a hE=>Zk hE rfl rfl rfl fun a hE=>Zd hE rfl ?_); intro a hE
               refine ZO (r208.2 != 0) (fun hb216=>?_) (fun hb216=>?_)
               ·have hl214:=Zn hl214 hb216
                refine Zg hE rfl (lkb rfl hb216) rfl (by decide) fun a hE=>Zg hE rfl (lkb rfl hb216) rfl (by decide) fun a hE=>Zg hE rfl (lkb rfl hb216) rfl (by decide) fun a hE=>Zg hE rfl (lkb rfl hb216) rfl (by decide) fun a hE=>Zg hE rfl (lkb rfl hb216) rfl (by decide) fun a hE=>ZB hE (lkb rfl hb216) rfl fun a hE=>Zd hE rfl fun a hE=>Zg hE rfl rfl rfl (by decide) fun a hE=>Zg hE rfl rfl rfl (by decide) fun a hE=>Zg hE rfl rfl rfl (by decide) fun a hE=>Zg hE rfl rfl rfl (by decide) fun a hE=>Zg hE rfl rfl rfl (by decide) ?_; intro a hE
                refine Zg hE rfl rfl rfl (by decide) fun a hE=>ZB hE rfl rfl fun a hE=>Zj ?_
                obtain rfl:=Option.some.inj hl214
                refine Zi ?_
                have hM:=M.fst (l:=[]) hM
                exact ⟨hE.sub ⟨rfl,rfl,trivial⟩,hM⟩
               ·have hl214:=Zo hl214 hb216
                refine Zv hE (Zf hE rfl (lkb rfl hb216)) (by decide) rfl (XQ) fun a hE=>ZE (v:=(vB r208.1.Place)) hE (Zf hE rfl (lkb rfl hb216)) (by decide) rfl ty5 rfl (At.cat (pre:=[]) hM.rawAt0 cl0) fun a hE=>Zv hE (Zf hE rfl (lkb rfl hb216)) (by decide) rfl (XQ) fun a hE=>ZE (v:=(vB r187.Place)) hE (Zf hE rfl (lkb rfl hb216)) (by decide) rfl ty5 rfl (At.cat (pre:=[]) hM.rawAt2 cl0) fun a hE=>ZJ hE (Zf hE rfl (lkb rfl hb216)) (by decide) rfl rfl (Kd r208.1.Place r187.Place) fun a hE=>Zy hE (lkb rfl hb216) rfl fun a hE=>Zd hE rfl ?_; intro a hE
                refine ZO (r208.1.Place != r187.Place) (fun hb218=>?_) (fun hb218=>?_)
                ·have hl214:=Zn hl214 hb218
                 refine Zg hE rfl (lkb rfl hb218) rfl (by decide) fun a hE=>Zg hE rfl (lkb rfl hb218) rfl (by decide) fun a hE=>Zg hE rfl (lkb rfl hb218) rfl (by decide) fun a hE=>Zg hE rfl (lkb rfl hb218) rfl (by decide) fun a hE=>Zg hE rfl (lkb rfl hb218) rfl (by decide) fun a hE=>Zg hE rfl (lkb rfl hb218) rfl (by decide) fun a hE=>ZB hE (lkb rfl hb218) rfl fun a hE=>Zj ?_
                 obtain rfl:=Option.some.inj hl214
                 refine Zi ?_
                 have hM:=M.fst (l:=[]) hM
                 exact ⟨hE.sub ⟨rfl,rfl,trivial⟩,hM⟩
                ·have hl214:=Zo hl214 hb218
                 refine Zv hE (Zf hE rfl (lkb rfl hb218)) (by decide) rfl (Yj) fun a hE=>ZE (v:=u210) hE (Zf hE rfl (lkb rfl hb218)) (by decide) rfl YS rfl (At.cat (pre:=[[vB r208.1.Place]]) hM.rawAt0 ck) fun a hE=>Zv hE (Zf hE rfl (lkb rfl hb218)) (by decide) rfl (Yj) fun a hE=>ZE (v:=u189) hE (Zf hE rfl (lkb rfl hb218)) (by decide) rfl YS rfl (At.cat (pre:=[[vB r187.Place]]) hM.rawAt2 ck) ?_; intro a hE
                 obtain ⟨r220,e221,hl214⟩:=bind_some hl214
                 refine ZW hE (Zf hE rfl (lkb rfl hb218)) (by decide) rfl cb14 (Qg _ r208.1.Data u210 (hM.sl (pre:=[_]) noB) r187.Data u189 (hM.sl (pre:=[_,_,_]) noB) r220 e221) ?_
                 rintro v w a ⟨rfl,hK⟩ hE
                 have hM:=hM.keep hK
                 refine U5 hE (Zf hE rfl (lkb rfl hb218)) (by decide) rfl fun a hE=>Zy hE (lkb rfl hb218) rfl fun a hE=>Zj ?_
                 obtain rfl:=Option.some.inj hl214
                 refine Zi ?_
                 have hM:=M.fst (l:=[]) hM
                 exact ⟨hE.sub ⟨rfl,rfl,trivial⟩,hM⟩
              ·skip
               rintro a w ⟨hE,hM⟩
               refine Zm hE rfl ?_ ?_
               ·intro hb223
                have hF215:=Zn hF215 hb223
                refine Zc (Zb hE rfl fun a hE=>Ze ?_)
                obtain rfl:=Option.some.inj hF215
                obtain rfl:=Option.some.inj hF205
                exact wp_ret (Zr (Yb hE rfl (Zl hE rfl) ⟨_,rfl,rfl,kto hK0 hM⟩))
               ·intro hb223
                have hF215:=Zo hF215 hb223
                refine wp_skip ?_
                obtain rfl:=Option.some.inj hF215
                refine Zi ?_
                exact ⟨(),rfl,hE.sub ⟨rfl,trivial⟩,hM⟩
             ·intro hb207
              have hl204:=Zo hl204 hb207
              refine wp_skip ?_
              obtain rfl:=Option.some.inj hl204
              refine Zi ?_
              have hM:=M.fst (l:=[]) hM
              exact ⟨(),rfl,hE.sub ⟨rfl,trivial⟩,hM⟩
            ·skip
             rintro a w ⟨s206,ht,hE,hM⟩
             subst ht
             have hF205:=VQ hF205
             refine Zc (Zd hE rfl ?_); intro a hE
             obtain ⟨r227,e228,hF205⟩:=bind_some hF205
             refine Zq hE rfl (cbm Tryz.func26) (K5 _ p0 v0_1 (hM.rdo hv0_1) r227 e228) ?_
             rintro v w a ⟨rfl,hK⟩ hE
             have hM:=hM.keep hK
             refine Zb hE rfl fun a hE=>Ze (Zc (Zd hE rfl ?_)); intro a hE
             obtain ⟨r229,e230,hF205⟩:=bind_some hF205
             refine Zq hE rfl (cbm Tryz.func25) (Q1 _ r227 (hT.kept hM.kept) r229 e230) ?_
             rintro v w a ⟨u231,rfl,hFr,hK⟩ hE
             have hM:=hM.add hK hFr
             refine Zd hE rfl fun a hE=>Zt hE Za ld rfl rfl fun a hE=>Zt hE Za ld rfl rfl fun a hE=>UP hE hM ZN fun b232 w a hM hE=>Xs (seg:=cat [[vB r229.1.Place],[u231]]) (cs':=cat [[vB r229.1.Place],[u231]]) hE hM Za rfl rfl rfl ZN cq (Nat.le_of_eq ((Nat.zero_add _).trans (Eq.trans cq (Eq.symm cq)))) (Wu (cc1 (Flat.cell (r229.1.Place : UInt8)) (cc1 (Rep.cell (hM.sl (pre:=[_]) noB)) cc0))) (ZZ (Eq.trans cq (Eq.symm cq))) fun w a hM hE=>Zb hE rfl fun a hE=>Ze (Zc (Zd hE rfl ?_)); intro a hE
             obtain ⟨r234,e235,hF205⟩:=bind_some hF205
             refine Zq hE rfl (cbm Tryz.func27) (HS _ r227 r234 e235) ?_
             rintro v w a ⟨u236,rfl,hFr,hK⟩ hE
             have hM:=hM.add hK hFr
             refine Zd hE rfl fun a hE=>Zt hE Za ld rfl rfl fun a hE=>Zt hE Za ld rfl rfl fun a hE=>UP hE hM ZN fun b237 w a hM hE=>Xs (seg:=cat [[vB r234.1.Place],[u236]]) (cs':=cat [[vB r234.1.Place],[u236]]) hE hM Za rfl rfl rfl ZN cq (Nat.le_of_eq ((Nat.zero_add _).trans (Eq.trans cq (Eq.symm cq)))) (Wu (cc1 (Flat.cell (r234.1.Place : UInt8)) (cc1 (Rep.cell (hM.sl (pre:=[_]) noB)) cc0))) (ZZ (Eq.trans cq (Eq.symm cq))) fun w a hM hE=>Zb hE rfl fun a hE=>Ze (Zc (Zd hE rfl ?_)); intro a hE
             obtain ⟨r239,e240,hF205⟩:=bind_some hF205
             refine Zq hE rfl (cbm Tryz.func28) (Q7 _ p0 v0_1 (hM.rdo hv0_1) r239 e240) ?_
             rintro v w a ⟨u241,u242,rfl,hFr,hK⟩ hE
             have hM:=hM.add hK hFr
             refine Zd hE rfl fun a hE=>Zt hE Za ld rfl rfl fun a hE=>Zt hE Za ld rfl rfl fun a hE=>Zt hE Za ld rfl rfl fun a hE=>Zb hE rfl fun a hE=>Zb hE rfl fun a hE=>Zb hE rfl fun a hE=>Ze (Zc (Zd hE rfl fun a hE=>Zd hE rfl fun a hE=>Zd hE rfl ?_)); intro a hE
             obtain ⟨r243,e244,hF205⟩:=bind_some hF205
             refine Zq hE rfl (cbm Tryz.func29) (Jh _ r239.1 r239.2.1 u241 (hM.sl (pre:=[]) noB) r239.2.2 u242 (hM.sl (pre:=[_]) noB) r243 e244) ?_
             rintro v w a ⟨u245,rfl,hFr,hK⟩ hE
             have hM:=hM.add hK hFr
             refine Zd hE rfl fun a hE=>Zt hE Za ld rfl rfl fun a hE=>Zt hE Za ld rfl rfl fun a hE=>Zb hE rfl fun a hE=>Zb hE rfl fun a hE=>Ze (Zc (Zd hE rfl fun a hE=>Zd hE rfl fun a hE=>Zd hE rfl ?_)); intro a hE
             obtain ⟨r246,e247,hF205⟩:=bind_some hF205
             refine Zq hE rfl (cbm Tryz.func30) (JB _ r239.1 r239.2.1 u241 (hM.sl (pre:=[_]) noB) r239.2.2 u242 (hM.sl (pre:=[_,_]) noB) r246 e247) ?_
             rintro v w a ⟨u248,rfl,hFr,hK⟩ hE
             have hM:=hM.add hK hFr
             refine Zd hE rfl fun a hE=>Zt hE Za ld rfl rfl fun a hE=>Zt hE Za ld rfl rfl fun a hE=>Zb hE rfl fun a hE=>Zb hE rfl fun a hE=>Ze (Zc (Zd hE rfl ?_)); intro a hE
             obtain ⟨r249,e250,hF205⟩:=bind_some hF205
             refine Zq hE rfl (cbm Tryz.func31) (Jd _ p0 v0_1 (hM.rdo hv0_1) r249 e250) ?_
             rintro v w a ⟨u251,u252,rfl,hFr,hK⟩ hE
             have hM:=hM.add hK hFr
             refine Zd hE rfl fun a hE=>Zt hE Za ld rfl rfl fun a hE=>Zt hE Za ld rfl rfl fun a hE=>Zt hE Za ld rfl rfl fun a hE=>Zb hE rfl fun a hE=>Zb hE rfl fun a hE=>Zb hE rfl fun a hE=>Ze (Zc (Zd hE rfl fun a hE=>Zd hE rfl fun a hE=>Zd hE rfl ?_)); intro a hE
             obtain ⟨r253,e254,hF205⟩:=bind_some hF205
             refine Zq hE rfl (cbm Tryz.func32) (Bq _ r249.1 r249.2.1 u251 (hM.sl (pre:=[]) noB) r249.2.2 u252 (hM.sl (pre:=[_]) noB) r253 e254) ?_
             rintro v w a ⟨u255,rfl,hFr,hK⟩ hE
             have hM:=hM.add hK hFr
             refine Zd hE rfl fun a hE=>Zt hE Za ld rfl rfl fun a hE=>Zt hE Za ld rfl rfl fun a hE=>Zb hE rfl fun a hE=>Zb hE rfl fun a hE=>Ze (Zc (Zd hE rfl fun a hE=>Zd hE rfl fun a hE=>Zd hE rfl ?_)); intro a hE
             obtain ⟨r256,e257,hF205⟩:=bind_some hF205
             refine Zq hE rfl (cbm Tryz.func33) (Br _ r249.1 r249.2.1 u251 (hM.sl (pre:=[_]) noB) r249.2.2 u252 (hM.sl (pre:=[_,_]) noB) r256 e257) ?_
             rintro v w a ⟨u258,rfl,hFr,hK⟩ hE
             have hM:=hM.add hK hFr
             refine Zd hE rfl fun a hE=>Zt hE Za ld rfl rfl fun a hE=>Zt hE Za ld rfl rfl fun a hE=>Zb hE rfl fun a hE=>Zb hE rfl fun a hE=>Ze ?_
             obtain ⟨j259,hl260,hF261⟩:=bind_some hF205
             refine Zx (fun a w=>Env 398 a [(2,vT j259)] ∧ M (Old w0) w0 w []) ?_ ?_
             ·skip
              refine wp_region_lit (Zd hE rfl fun a hE=>Zd hE rfl fun a hE=>Zk hE rfl rfl rfl fun a hE=>Zd hE rfl ?_); intro a hE
              refine ZO (r229.2 == r234.2) (fun hb262=>?_) (fun hb262=>?_)
              ·have hl260:=Zn hl260 hb262
               refine Zv hE (Zf hE rfl (lkb rfl hb262)) (by decide) rfl (XQ) fun a hE=>ZE (v:=(vB r229.1.Place)) hE (Zf hE rfl (lkb rfl hb262)) (by decide) rfl ty5 rfl (At.cat (pre:=[]) hM.rawAt10 cl0) fun a hE=>Zv hE (Zf hE rfl (lkb rfl hb262)) (by decide) rfl (XQ) fun a hE=>ZE (v:=(vB r234.1.Place)) hE (Zf hE rfl (lkb rfl hb262)) (by decide) rfl ty5 rfl (At.cat (pre:=[]) hM.rawAt8 cl0) fun a hE=>ZJ hE (Zf hE rfl (lkb rfl hb262)) (by decide) rfl rfl (AE r229.1.Place r234.1.Place) fun a hE=>ZB hE (lkb rfl hb262) rfl fun a hE=>Zd hE rfl ?_; intro a hE
               refine ZO (r229.1.Place == r234.1.Place) (fun hb263=>?_) (fun hb263=>?_)
               ·have hl260:=Zn hl260 hb263
                refine Zv hE (Zf hE rfl (lkb rfl hb263)) (by decide) rfl (Yj) fun a hE=>ZE (v:=u231) hE (Zf hE rfl (lkb rfl hb263)) (by decide) rfl YS rfl (At.cat (pre:=[[vB r229.1.Place]]) hM.rawAt10 ck) fun a hE=>Zv hE (Zf hE rfl (lkb rfl hb263)) (by decide) rfl (Yj) fun a hE=>ZE (v:=u236) hE (Zf hE rfl (lkb rfl hb263)) (by decide) rfl YS rfl (At.cat (pre:=[[vB r234.1.Place]]) hM.rawAt8 ck) ?_; intro a hE
                obtain ⟨r264,e265,hl260⟩:=bind_some hl260
                refine ZW hE (Zf hE rfl (lkb rfl hb263)) (by decide) rfl cb14 (Qg _ r229.1.Data u231 (hM.sl (pre:=[_,_,_,_,_,_,_,_,_,_,_]) noB) r234.1.Data u236 (hM.sl (pre:=[_,_,_,_,_,_,_,_,_]) noB) r264 e265) ?_
                rintro v w a ⟨rfl,hK⟩ hE
                have hM:=hM.keep hK
                refine ZB hE (lkb rfl hb263) rfl fun a hE=>Zd hE rfl ?_; intro a hE
                refine ZO r264 (fun hb266=>?_) (fun hb266=>?_)
                ·have hl260:=Zn hl260 hb266
                 refine Zh hE (Zf hE rfl (lkb rfl hb266)) (by decide) rfl fun a hE=>Zh hE (Zf hE rfl (lkb rfl hb266)) (by decide) rfl fun a hE=>ZJ hE (Zf hE rfl (lkb rfl hb266)) (by decide) rfl rfl rfl fun a hE=>ZB hE (lkb rfl hb266) rfl fun a hE=>Zd hE rfl ?_; intro a hE
                 refine ZO (r243.2 == r246.2) (fun hb267=>?_) (fun hb267=>?_)
                 ·have hl260:=Zn hl260 hb267
                  refine Zh hE (Zf hE rfl (lkb rfl hb267)) (by decide) rfl fun a hE=>Zh hE (Zf hE rfl (lkb rfl hb267)) (by decide) rfl ?_; intro a hE
                  obtain ⟨r268,e269,hl260⟩:=bind_some hl260
                  refine ZW hE (Zf hE rfl (lkb rfl hb267)) (by decide) rfl (cbm Tryz.func34) (Ju _ r243.1 u245 (hM.sl (pre:=[_,_,_,_,_]) noB) r246.1 u248 (hM.sl (pre:=[_,_,_,_]) noB) r268 e269) ?_
                  rintro v w a ⟨rfl,hK⟩ hE
                  have hM:=hM.keep hK
                  refine ZB hE (lkb rfl hb267) rfl fun a hE=>Zd hE rfl ?_; intro a hE
                  refine ZO r268 (fun hb270=>?_) (fun hb270=>?_)
                  ·have hl260:=Zn hl260 hb270
                   refine Zh hE (Zf hE rfl (lkb rfl hb270)) (by decide) rfl fun a hE=>Zh hE (Zf hE rfl (lkb rfl hb270)) (by decide) rfl fun a hE=>ZJ hE (Zf hE rfl (lkb rfl hb270)) (by decide) rfl rfl rfl fun a hE=>ZB hE (lkb rfl hb270) rfl fun a hE=>Zd hE rfl ?_; intro a hE
                   refine ZO (r253.2 == r256.2) (fun hb271=>?_) (fun hb271=>?_)
                   ·have hl260:=Zn hl260 hb271
                    refine Zh hE (Zf hE rfl (lkb rfl hb271)) (by decide) rfl fun a hE=>Zh hE (Zf hE rfl (lkb rfl hb271)) (by decide) rfl ?_; intro a hE
                    obtain ⟨r272,e273,hl260⟩:=bind_some hl260
                    refine ZW hE (Zf hE rfl (lkb rfl hb271)) (by decide) rfl (cbm Tryz.func34) (Ju _ r253.1 u255 (hM.sl (pre:=[_]) noB) r256.1 u258 (hM.sl (pre:=[]) noB) r272 e273) ?_
                    rintro v w a ⟨rfl,hK⟩ hE
                    have hM:=hM.keep hK
                    refine ZB hE (lkb rfl hb271) rfl fun a hE=>Zb hE rfl fun a hE=>Zj ?_
                    obtain rfl:=Option.some.inj hl260
                    refine Zi ?_
                    have hM:=M.fst (l:=[]) hM
                    exact ⟨hE.sub ⟨rfl,trivial⟩,hM⟩
                   ·have hl260:=Zo hl260 hb271
                    refine Zg hE rfl (lkb rfl hb271) rfl (by decide) fun a hE=>Zg hE rfl (lkb rfl hb271) rfl (by decide) fun a hE=>Zg hE rfl (lkb rfl hb271) rfl (by decide) fun a hE=>Zy hE (lkb rfl hb271) rfl fun a hE=>Zb hE rfl fun a hE=>Zj ?_
                    obtain rfl:=Option.some.inj hl260
                    refine Zi ?_
                    have hM:=M.fst (l:=[]) hM
                    exact ⟨hE.sub ⟨rfl,trivial⟩,hM⟩
                  ·have hl260:=Zo hl260 hb270
                   refine Zg hE rfl (lkb rfl hb270) rfl (by decide) fun a hE=>Zg hE rfl (lkb rfl hb270) rfl (by decide) fun a hE=>Zg hE rfl (lkb rfl hb270) rfl (by decide) fun a hE=>Zy hE (lkb rfl hb270) rfl fun a hE=>Zd hE rfl fun a hE=>Zg hE rfl rfl rfl (by decide) fun a hE=>Zg hE rfl rfl rfl (by decide) fun a hE=>Zg hE rfl rfl rfl (by decide) fun a hE=>Zy hE rfl rfl fun a hE=>Zb hE rfl fun a hE=>Zj ?_
                   obtain rfl:=Option.some.inj hl260
                   refine Zi ?_
                   have hM:=M.fst (l:=[]) hM
                   exact ⟨hE.sub ⟨rfl,trivial⟩,hM⟩
                 ·have hl260:=Zo hl260 hb267
                  refine Zg hE rfl (lkb rfl hb267) rfl (by decide) fun a hE=>Zg hE rfl (lkb rfl hb267) rfl (by decide) fun a hE=>Zg hE rfl (lkb rfl hb267) rfl (by decide) fun a hE=>Zy hE (lkb rfl hb267) rfl fun a hE=>Zd hE rfl fun a hE=>Zg hE rfl rfl rfl (by decide) fun a hE=>Zg hE rfl rfl rfl (by decide) fun a hE=>Zg hE rfl rfl rfl (by decide) fun a hE=>Zy hE rfl rfl fun a hE=>Zd hE rfl fun a hE=>Zg hE rfl rfl rfl (by decide) fun a hE=>Zg hE rfl rfl rfl (by decide) ?_; intro a hE
                  refine Zg hE rfl rfl rfl (by decide) fun a hE=>Zy hE rfl rfl fun a hE=>Zb hE rfl fun a hE=>Zj ?_
                  obtain rfl:=Option.some.inj hl260
                  refine Zi ?_
                  have hM:=M.fst (l:=[]) hM
                  exact ⟨hE.sub ⟨rfl,trivial⟩,hM⟩
                ·have hl260:=Zo hl260 hb266
                 refine Zg hE rfl (lkb rfl hb266) rfl (by decide) fun a hE=>Zg hE rfl (lkb rfl hb266) rfl (by decide) fun a hE=>Zg hE rfl (lkb rfl hb266) rfl (by decide) fun a hE=>Zy hE (lkb rfl hb266) rfl fun a hE=>Zd hE rfl fun a hE=>Zg hE rfl rfl rfl (by decide) fun a hE=>Zg hE rfl rfl rfl (by decide) fun a hE=>Zg hE rfl rfl rfl (by decide) fun a hE=>Zy hE rfl rfl fun a hE=>Zd hE rfl fun a hE=>Zg hE rfl rfl rfl (by decide) fun a hE=>Zg hE rfl rfl rfl (by decide) ?_; intro a hE
                 refine Zg hE rfl rfl rfl (by decide) fun a hE=>Zy hE rfl rfl fun a hE=>Zd hE rfl fun a hE=>Zg hE rfl rfl rfl (by decide) fun a hE=>Zg hE rfl rfl rfl (by decide) fun a hE=>Zg hE rfl rfl rfl (by decide) fun a hE=>Zy hE rfl rfl fun a hE=>Zb hE rfl fun a hE=>Zj ?_
                 obtain rfl:=Option.some.inj hl260
                 refine Zi ?_
                 have hM:=M.fst (l:=[]) hM
                 exact ⟨hE.sub ⟨rfl,trivial⟩,hM⟩
               ·have hl260:=Zo hl260 hb263
                refine Zg hE rfl (lkb rfl hb263) rfl (by decide) fun a hE=>Zg hE rfl (lkb rfl hb263) rfl (by decide) fun a hE=>Zg hE rfl (lkb rfl hb263) rfl (by decide) fun a hE=>Zg hE rfl (lkb rfl hb263) rfl (by decide) fun a hE=>Zg hE rfl (lkb rfl hb263) rfl (by decide) fun a hE=>Zy hE (lkb rfl hb263) rfl fun a hE=>Zd hE rfl fun a hE=>Zg hE rfl rfl rfl (by decide) fun a hE=>Zg hE rfl rfl rfl (by decide) fun a hE=>Zg hE rfl rfl rfl (by decide) fun a hE=>Zy hE rfl rfl fun a hE=>Zd hE rfl ?_; intro a hE
                refine Zg hE rfl rfl rfl (by decide) fun a hE=>Zg hE rfl rfl rfl (by decide) fun a hE=>Zg hE rfl rfl rfl (by decide) fun a hE=>Zy hE rfl rfl fun a hE=>Zd hE rfl fun a hE=>Zg hE rfl rfl rfl (by decide) fun a hE=>Zg hE rfl rfl rfl (by decide) fun a hE=>Zg hE rfl rfl rfl (by decide) fun a hE=>Zy hE rfl rfl fun a hE=>Zd hE rfl fun a hE=>Zg hE rfl rfl rfl (by decide) fun a hE=>Zg hE rfl rfl rfl (by decide) ?_; intro a hE
                refine Zg hE rfl rfl rfl (by decide) fun a hE=>Zy hE rfl rfl fun a hE=>Zb hE rfl fun a hE=>Zj ?_
                obtain rfl:=Option.some.inj hl260
                refine Zi ?_
                have hM:=M.fst (l:=[]) hM
                exact ⟨hE.sub ⟨rfl,trivial⟩,hM⟩
              ·have hl260:=Zo hl260 hb262
               refine Zg hE rfl (lkb rfl hb262) rfl (by decide) fun a hE=>Zg hE rfl (lkb rfl hb262) rfl (by decide) fun a hE=>Zg hE rfl (lkb rfl hb262) rfl (by decide) fun a hE=>Zg hE rfl (lkb rfl hb262) rfl (by decide) fun a hE=>Zg hE rfl (lkb rfl hb262) rfl (by decide) fun a hE=>Zy hE (lkb rfl hb262) rfl fun a hE=>Zd hE rfl fun a hE=>Zg hE rfl rfl rfl (by decide) fun a hE=>Zg hE rfl rfl rfl (by decide) fun a hE=>Zg hE rfl rfl rfl (by decide) fun a hE=>Zg hE rfl rfl rfl (by decide) fun a hE=>Zg hE rfl rfl rfl (by decide) ?_; intro a hE
               refine Zy hE rfl rfl fun a hE=>Zd hE rfl fun a hE=>Zg hE rfl rfl rfl (by decide) fun a hE=>Zg hE rfl rfl rfl (by decide) fun a hE=>Zg hE rfl rfl rfl (by decide) fun a hE=>Zy hE rfl rfl fun a hE=>Zd hE rfl fun a hE=>Zg hE rfl rfl rfl (by decide) fun a hE=>Zg hE rfl rfl rfl (by decide) fun a hE=>Zg hE rfl rfl rfl (by decide) fun a hE=>Zy hE rfl rfl fun a hE=>Zd hE rfl ?_; intro a hE
               refine Zg hE rfl rfl rfl (by decide) fun a hE=>Zg hE rfl rfl rfl (by decide) fun a hE=>Zg hE rfl rfl rfl (by decide) fun a hE=>Zy hE rfl rfl fun a hE=>Zd hE rfl fun a hE=>Zg hE rfl rfl rfl (by decide) fun a hE=>Zg hE rfl rfl rfl (by decide) fun a hE=>Zg hE rfl rfl rfl (by decide) fun a hE=>Zy hE rfl rfl fun a hE=>Zb hE rfl fun a hE=>Zj ?_
               obtain rfl:=Option.some.inj hl260
               refine Zi ?_
               have hM:=M.fst (l:=[]) hM
               exact ⟨hE.sub ⟨rfl,trivial⟩,hM⟩
             ·skip
              rintro a w ⟨hE,hM⟩
              obtain rfl:=Option.some.inj hF261
              exact wp_ret (Yb hE rfl (Zl hE rfl) ⟨_,rfl,rfl,kto hK0 hM⟩)
end

end Go.Proofs.YtfhhlkkhcoaapaaGreatDoor
