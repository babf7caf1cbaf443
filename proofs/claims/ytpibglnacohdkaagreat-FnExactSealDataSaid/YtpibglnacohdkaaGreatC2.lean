/- The walk of what the law reaches: contracts of functions. -/
import Derived.Test.YtpibglnacohdkaaGreatC1
set_option linter.unusedVariables false
set_option linter.unusedSimpArgs false
set_option maxRecDepth 20000
set_option maxHeartbeats 400000
namespace Go.Proofs.YtpibglnacohdkaaGreat
open Go
open Flat (enc)
noncomputable section
theorem BQ (w0 : World) (p0 : GCipher) (p1 : (Vector UInt8 16)) (p2 : (Vector UInt8 16)) (p3 : Int) (r : (List UInt8)) (hF : Um p0 p1 p2 p3 = some r) :
  Calls Tryz.prog 153 [(Value.agg (enc p0).toArray),(Value.agg (enc p1).toArray),(Value.agg (enc p2).toArray),vI p3].toArray w0 (fun en w'=>∃ v,en = .returned v ∧ (∃ (y1 : Value),v = y1 ∧ Fr w0 w' [osl NoB (r : List UInt8) y1] ∧ Kept (Old w0) w0 w')):=by
 refine ce Tryz.func153 ?_
 intro a hE
 have hM:=M.start w0
 unfold Um at hF
 refine Zb (ZO (cs:=cat [[vI p0.Field],enc p0.Box,enc p0.Mix,enc p0.Places,[vI p0.Rounds]]) hE hM Za ld rfl rfl fun b1 w a hM hE=>ZO (cs:=enc p1) hE hM Za ld rfl rfl fun b3 w a hM hE=>ZO (cs:=enc p2) hE hM Za ld rfl rfl fun b5 w a hM hE=>Zc hE rfl fun a hE=>Ze (Zb (ZU (xs:=[]) (l:=([] : List UInt8)) (vs:=[]) hE hM Za ld rfl rfl Tryz.underlying40 ty5 rfl (by decide) rfl fun u7 w a hM hE=>Zc hE rfl fun a hE=>Ze (wp_seq (Zb (Zc hE rfl fun a hE=>Ze ?_))))))
 obtain ⟨j9,hl10,hF11⟩:=bind_some hF
 refine ZK (fun a w=>∃ (u12 : Value),Env 41 a [(3,vI p3),(9,u12)] ∧ M (Old w0) w0 w [osl NoB (j9 : List UInt8) u12]) ?_ ?_
 ·skip
  refine wp_block ?_
  have hM:=hM.pull3.pull3.pull3
  refine ZE (fun (s14 : Int × (List UInt8)) a w=>∃ (u15 : Value),Env 41 a [(3,vI p3),(4,(ptr b1 0)),(5,(ptr b3 0)),(6,(ptr b5 0)),(9,u15),(10,vI s14.1)] ∧ M (Old w0) w0 w [raw b5 (enc p2),raw b3 (enc p1),raw b1 (cat [[vI p0.Field],enc p0.Box,enc p0.Mix,enc p0.Places,[vI p0.Rounds]]),osl NoB (s14.2 : List UInt8) u15]) hl10 ⟨u7,hE.sub ⟨rfl,rfl,rfl,rfl,rfl,rfl,trivial⟩,hM⟩ ?_
  rintro s14 a w ⟨u15,hE,hM⟩ o19 hs17 hx18
  unfold WE at hs17
  refine wp_seq (Zb (Zd hE rfl fun a hE=>Z9 hE rfl Tryz.underlying40 (hM.sl (pre:=[_,_,_]) noB) fun a hE=>Zd hE rfl fun a hE=>Zh hE rfl rfl rfl fun a hE=>Ze ?_))
  refine Zq hE rfl ?_ ?_
  ·intro hb20
   have hs17:=Zx hs17 hb20
   refine wp_skip (Zt (wp_seq (wp_block (Zb (Zn hE rfl ZD rfl hM.rawAt0 (Flat.len _) fun a hE=>ZU (xs:=[.tmp 19]) (l:=([p2] : List (Vector UInt8 16))) (vs:=[(Value.agg (enc p2).toArray)]) hE hM Za ld rfl rfl Tryz.underlying54 ZD rfl (by decide) rfl ?_))))); intro u21 w a hM hE
   obtain ⟨r23,e24,hs17⟩:=bind_some hs17
   refine Zv hE rfl (cbm Tryz.func156) (Jo _ ([p2] : List (Vector UInt8 16)) u21 (hM.sl (pre:=[]) noB) r23 e24) ?_
   rintro u25 w a ⟨_,rfl,hFr,hK⟩ hE
   have hM:=hM.add hK hFr
   refine Zd hE rfl fun a hE=>Zh hE rfl rfl (zB _ _ (by decide)) fun a hE=>Yf hE Za ld rfl Tryz.underlying3 Tryz.underlying5 fun a hE=>Zd hE rfl fun a hE=>Zh hE rfl rfl (Kh _ _ (by decide)) fun a hE=>Yf hE Za ld rfl Tryz.underlying3 Tryz.underlying5 fun a hE=>ZU (xs:=[.tmp 24,.tmp 27]) (l:=([Zr (wr (Int.tdiv s14.1 256)),Zr (Int.tmod s14.1 256)] : List UInt8)) (vs:=[(vB (Zr (wr (Int.tdiv s14.1 256)))),(vB (Zr (Int.tmod s14.1 256)))]) hE hM Za ld rfl rfl Tryz.underlying40 ty5 rfl (by decide) rfl ?_; intro u26 w a hM hE
   obtain ⟨l28,e29,hs17⟩:=bind_some hs17
   obtain ⟨e32,rfl⟩:=ZY e29
   have hM:=hM.pull1
   refine ZV hE hM Za ld rfl rfl (hM.sl (pre:=[_]) noB) Tryz.underlying40 ty5 rfl (by decide) e32 fun u30 w a hM hE=>Zc hE rfl fun a hE=>Ze (wp_region_lit (Zd hE rfl fun a hE=>Zn hE rfl VU rfl hM.rawAt5 cq fun a hE=>Zn hE rfl ZD rfl hM.rawAt4 (Flat.len _) fun a hE=>Zd hE rfl ?_)); intro a hE
   obtain ⟨r33,e34,hs17⟩:=bind_some hs17
   refine Zv hE rfl (cbm Tryz.func157) (Hf _ p0 p1 (r23 ++ ([Zr (wr (Int.tdiv s14.1 256)),Zr (Int.tmod s14.1 256)] : List UInt8)) u30 (hM.sl (pre:=[]) noB) r33 e34) ?_
   rintro v w a ⟨rfl,hK⟩ hE
   have hM:=hM.keep hK
   obtain ⟨r35,e36,hs17⟩:=bind_some hs17
   refine Zv hE rfl qu (Qe _ r33 r35 e36) ?_
   rintro u37 w a ⟨_,rfl,hFr,hK⟩ hE
   have hM:=hM.add hK hFr
   obtain ⟨l38,e39,hs17⟩:=bind_some hs17
   obtain ⟨e42,rfl⟩:=ZY e39
   have hM:=hM.pull7
   refine ZV hE hM Za ld rfl rfl (hM.sl (pre:=[_]) noB) Tryz.underlying40 ty5 rfl (by decide) e42 fun u40 w a hM hE=>Zc hE rfl fun a hE=>Zg (Yc (Zt (wp_region_lit (Zd hE rfl fun a hE=>Zh hE rfl rfl rfl fun a hE=>Zc hE rfl fun a hE=>Zg (Zj ?_)))))
   have hM:=M.fst (l:=[_,_,_,_]) hM.pull7.pull7.pull7
   exact ⟨_,(ois hs17),u40,hE.sub ⟨rfl,rfl,rfl,rfl,rfl,rfl,trivial⟩,hM⟩
  ·intro hb20
   have hs17:=Zw hs17 hb20
   refine wp_exit (Zp (Zp (Ye ?_)))
   obtain rfl:=hx18 _ (ois hs17)
   refine Zj ?_
   have hM:=M.fst (l:=[_]) hM.pull3
   exact ⟨u15,hE.sub ⟨rfl,rfl,trivial⟩,hM⟩
 ·skip
  rintro a w ⟨u12,hE,hM⟩
  refine Zt (Zb (Zd hE rfl fun a hE=>Zd hE rfl ?_)); intro a hE
  obtain ⟨l44,e45,hF11⟩:=bind_some hF11
  refine Bi hE Za ld rfl rfl rfl rfl rfl Tryz.underlying40 ty5 (hM.sl (pre:=[]) noB) e45 ?_; intro a hE
  obtain ⟨r46,e47,hF11⟩:=bind_some hF11
  refine Zv hE rfl cb65 (TC _ l44 (Yd u12 ((0 : Int)).toNat (p3).toNat 1) (Xg (hM.sl (pre:=[]) noB) e45) r46 e47) ?_
  rintro u48 w a ⟨_,rfl,hFr,hK⟩ hE
  have hM:=hM.add hK hFr
  refine Zc hE rfl fun a hE=>Ze ?_
  obtain rfl:=Option.some.inj hF11
  have hM:=M.fst (l:=[_]) hM
  exact wp_ret (ZJ hE rfl (ZQ hE rfl) ⟨_,rfl,u48,rfl,hM.outF (Z8 YR),hM.kept⟩)
def WD (p2 : (List UInt8)) (j5 : (List UInt8) × (List UInt8)) (s29 : (List UInt8) × Int) : Option (Fl ((List UInt8) × Int) (List UInt8)) :=
 if (decide (s29.2 < (p2.length : Int))) = true then ((idx p2 s29.2).bind fun x37=>(idx j5.1 s29.2).bind fun x40=>(app 1 s29.1 ([x37 ^^^ x40] : List UInt8)).bind fun l45=>some (Fl.nx ((s29.1 ++ ([x37 ^^^ x40] : List UInt8)),wr (s29.2 + 1)))) else (some (Fl.ex s29.1))
def Vb (p0 : GVault) (p1 : GRecord) (p2 : (List UInt8)) : Option ((List UInt8)) :=
 ((XA).bind fun r13=>(idx p0.Keys p1.Version).bind fun x15=>(Um r13 x15 p1.Nonce (p2.length : Int)).bind fun r18=>some (r18,([] : List UInt8)) : Option ((List UInt8) × (List UInt8))).bind fun j5=>(ZB (WD p2 j5) (j5.2,0)).bind fun j24=>some j24
theorem Bu (w0 : World) (p0 : GVault) (v0_1 : Value) (hv0_1 : Ro w0 p0.Keys [v0_1]) (v0_2 : Value) (hv0_2 : Ro w0 p0.Records [v0_2]) (v0_3 : Value) (hv0_3 : Ro w0 p0.Events [v0_3]) (p1 : GRecord) (v1_1 : Value) (hv1_1 : Ro w0 p1.Label [v1_1]) (v1_2 : Value) (hv1_2 : Ro w0 p1.Body [v1_2]) (p2 : (List UInt8)) (v2_1 : Value) (hv2_1 : Ro w0 p2 [v2_1]) (r : (List UInt8)) (hF : Vb p0 p1 p2 = some r) :
  Calls Tryz.prog 101 [(Value.agg (cat [[v0_1],[vI p0.Next],[v0_2],[v0_3],enc p0.Head]).toArray),(Value.agg (cat [[vI p1.Number],[vI p1.Version],enc p1.Nonce,[v1_1],[v1_2],enc p1.Tag]).toArray),v2_1].toArray w0 (fun en w'=>∃ v,en = .returned v ∧ (∃ (y1 : Value),v = y1 ∧ Fr w0 w' [osl NoB (r : List UInt8) y1] ∧ Kept (Old w0) w0 w')):=by
 refine ce Tryz.func101 ?_
 intro a hE
 have hM:=M.start w0
 unfold Vb at hF
 refine Zb (ZO (cs:=cat [[v0_1],[vI p0.Next],[v0_2],[v0_3],enc p0.Head]) hE hM Za ld rfl rfl fun b1 w a hM hE=>ZO (cs:=cat [[vI p1.Number],[vI p1.Version],enc p1.Nonce,[v1_1],[v1_2],enc p1.Tag]) hE hM Za ld rfl rfl fun b3 w a hM hE=>Zc hE rfl fun a hE=>Ze ?_)
 obtain ⟨j5,hl6,hF7⟩:=bind_some hF
 refine ZM (fun a w=>∃ (u8 : Value) (u10 : Value),Env 42 a [(2,v2_1),(7,u8),(8,u10)] ∧ M (Old w0) w0 w [osl NoB (j5.1 : List UInt8) u8,osl NoB (j5.2 : List UInt8) u10]) ?_ ?_
 ·skip
  obtain ⟨r13,e14,hl6⟩:=bind_some hl6
  obtain ⟨x15,hi17,hl6⟩:=bix hl6
  obtain ⟨r18,e19,hl6⟩:=bind_some hl6
  refine YA (its:=[raw b3 (cat [[vI p1.Number],[vI p1.Version],enc p1.Nonce,[v1_1],[v1_2],enc p1.Tag]),raw b1 (cat [[v0_1],[vI p0.Next],[v0_2],[v0_3],enc p0.Head])]) (mk:=([mkO 11 (fun v=>osl NoB (r18 : List UInt8) v),mkO 12 (fun v=>osl NoB (([] : List UInt8) : List UInt8) v)] : Mk)) [10,11,12,13,14,15,16,17,18,19,20,21,22,7] YL rfl rfl (by decide) rfl hE (fun u=>M.qE (M.qE (M.q0 hM.drew u) emO) emO) (qsP (fun z=>Z7 z.E Za ld rfl qv (TQ _  r13 e14) (kc rfl)) (qsP (fun z=>Zk z.E Za ld rfl (WX) (kr0 rfl)) (qsP (v:=v0_1) ?_ (qsP (fun z=>Zk z.E Za ld rfl (W1) (kr0 rfl)) (qsP (v:=(vI p1.Version)) ?_ (qsP (v:=(ptr (sb v0_1) (so v0_1 + (p1.Version).toNat * 16))) ?_ (qsP (v:=(Value.agg (enc x15).toArray)) ?_ (qsP (fun z=>Zk z.E Za ld rfl (QE) (kr0 rfl)) (qsP (v:=(Value.agg (enc p1.Nonce).toArray)) ?_ (qsP (fun z=>Zu z.E Za ld rfl (kr0 rfl)) (qsP (v:=(vI (p2.length : Int))) ?_ (qsM (pr:=fun v=>True) ?_ (qsM (pr:=fun v=>True) ?_ (qsD (ds:=[11]) (f:=fun us=>(us.getD 0 undef)) ?_ qs0)))))))))))))) ?_
  ·intro a w ux12 D z
   have hE:=z.E
   have hM:=z.M
   exact Zy (v:=v0_1) hE rfl QR rfl (At.cat (pre:=[]) hM.rawAt1 cl0) fun a hE=>⟨Kept.refl _ _,_,rfl,hE⟩
  ·intro a w ux12 D z
   have hE:=z.E
   have hM:=z.M
   exact Zy (v:=(vI p1.Version)) hE rfl ty2 rfl (At.cat (pre:=[[vI p1.Number]]) hM.rawAt0 ck) fun a hE=>⟨Kept.refl _ _,_,rfl,hE⟩
  ·intro a w ux12 D z
   have hE:=z.E
   have hM:=z.M
   exact ZL hE rfl rfl Tryz.underlying54 ZD (hM.rd hv0_1) hi17.1 fun a hE=>⟨Kept.refl _ _,_,rfl,hE⟩
  ·intro a w ux12 D z
   have hE:=z.E
   have hM:=z.M
   exact Zn hE rfl ZD rfl (Y9 (hM.rd hv0_1) hi17.2) (Flat.len _) fun a hE=>⟨Kept.refl _ _,_,rfl,hE⟩
  ·intro a w ux12 D z
   have hE:=z.E
   have hM:=z.M
   exact Zn hE rfl ZD rfl (At.cat (pre:=[[vI p1.Number],[vI p1.Version]]) hM.rawAt0 ck) (Flat.len _) fun a hE=>⟨Kept.refl _ _,_,rfl,hE⟩
  ·intro a w ux12 D z
   have hE:=z.E
   have hM:=z.M
   exact Z9 hE rfl Tryz.underlying40 (hM.rd hv2_1) fun a hE=>⟨Kept.refl _ _,_,rfl,hE⟩
  ·intro a w ux12 D z
   have hE:=z.E
   have hD : D 11 = false:=z.F
   have hM0:=z.M
   have hM:=z.M
   refine Zv hE rfl (cbm Tryz.func153) (BQ _ r13 x15 p1.Nonce (p2.length : Int) r18 e19) ?_
   rintro _ w a ⟨_,rfl,hFr,hK⟩ hE
   have hM:=hM0.add hK hFr
   exact ⟨_,_,rfl,hE,M.qFill (mk1:=[]) (mk2:=[_]) (f:=(fun v=>osl NoB (r18 : List UInt8) v)) hM rfl hD,trivial⟩
  ·intro a w ux12 D z
   have hE:=z.E
   have hD : D 12 = false:=z.F
   have hM:=z.M
   exact ZU (xs:=[]) (l:=([] : List UInt8)) (vs:=[]) hE hM Za ld rfl rfl Tryz.underlying40 ty5 rfl (by decide) rfl fun u21 w a hM hE=>⟨_,_,rfl,hE,M.qFill (mk1:=[_]) (mk2:=[]) (f:=(fun v=>osl NoB (([] : List UInt8) : List UInt8) v)) hM rfl hD,trivial⟩
  ·intro a w ux12 D z
   have hE:=z.E
   have d11 : D 11 = true:=z.p 0 _ rfl rfl
   exact Zc hE rfl fun a hE=>⟨Kept.refl _ _,(BS d11 zk),_,rfl,hE⟩
  ·intro a w ux12 D hE hM hG hall
   have d11:=hall 11 (by decide)
   have d12:=hall 12 (by decide)
   have hM:=(hM.sure (pre:=[_,_]) d11).sure (pre:=[_,_,_]) d12
   refine Zc hE rfl fun a hE=>Zg ?_
   obtain rfl:=Option.some.inj hl6
   refine Zj ?_
   have hM:=M.fst (l:=[_,_]) hM.pull3.pull3
   exact ⟨(ux12 11),(ux12 12),hE.sub ⟨rfl,rfl,rfl,trivial⟩,hM⟩
 ·skip
  rintro a w ⟨u8,u10,hE,hM⟩
  refine wp_seq (Zb (Zc hE rfl fun a hE=>Ze ?_))
  obtain ⟨j24,hl25,hF26⟩:=bind_some hF7
  refine ZK (fun a w=>∃ (u27 : Value),Env 42 a [(8,u27)] ∧ M (Old w0) w0 w [osl NoB (j24 : List UInt8) u27]) ?_ ?_
  ·skip
   refine wp_block ?_
   refine ZE (fun (s29 : (List UInt8) × Int) a w=>∃ (u30 : Value),Env 42 a [(2,v2_1),(7,u8),(8,u30),(9,vI s29.2)] ∧ M (Old w0) w0 w [osl NoB (j5.1 : List UInt8) u8,osl NoB (s29.1 : List UInt8) u30]) hl25 ⟨u10,hE.sub ⟨rfl,rfl,rfl,rfl,trivial⟩,hM⟩ ?_
   rintro s29 a w ⟨u30,hE,hM⟩ o34 hs32 hx33
   unfold WD at hs32
   refine wp_seq (Zb (Zd hE rfl fun a hE=>Zd hE rfl fun a hE=>Z9 hE rfl Tryz.underlying40 (hM.rd hv2_1) fun a hE=>Zh hE rfl rfl rfl fun a hE=>Ze ?_))
   refine Zq hE rfl ?_ ?_
   ·intro hb35
    have hs32:=Zx hs32 hb35
    refine wp_skip (Zt (wp_seq (wp_block ?_)))
    obtain ⟨x37,hi39,hs32⟩:=bix hs32
    obtain ⟨x40,hi42,hs32⟩:=bix hs32
    refine YA (its:=[osl NoB (j5.1 : List UInt8) u8,osl NoB (s29.1 : List UInt8) u30]) (mk:=([mkO 10 (fun v=>osl NoB (([x37 ^^^ x40] : List UInt8) : List UInt8) v)] : Mk)) [29,30,31,32,33,34,35,36,37,38,39] YL rfl rfl (by decide) rfl hE (fun u=>M.qE (M.q0 hM.drew u) emO) (qsP (fun z=>Zu z.E Za ld rfl (kr0 rfl)) (qsP (fun z=>Zu z.E Za ld rfl (kr0 rfl)) (qsP (fun z=>Zu z.E Za ld rfl (kr0 rfl)) (qsP (v:=(ptr (sb v2_1) (so v2_1 + (s29.2).toNat * 1))) ?_ (qsP (v:=(vB x37)) ?_ (qsP (fun z=>Zu z.E Za ld rfl (kr0 rfl)) (qsP (fun z=>Zu z.E Za ld rfl (kr0 rfl)) (qsP (v:=(ptr (sb u8) (so u8 + (s29.2).toNat * 1))) ?_ (qsP (v:=(vB x40)) ?_ (qsP (v:=(vB (x37 ^^^ x40))) (fun z=>Yb z.E Za ld rfl rfl (Vu x37 x40) (kr0 rfl)) (qsM (pr:=fun v=>True) ?_ qs0))))))))))) ?_
    ·intro a w ux36 D z
     have hE:=z.E
     have hM:=z.M
     exact ZL hE rfl rfl Tryz.underlying40 ty5 (hM.rd hv2_1) hi39.1 fun a hE=>⟨Kept.refl _ _,_,rfl,hE⟩
    ·intro a w ux36 D z
     have hE:=z.E
     have hM:=z.M
     exact Zy (v:=(vB x37)) hE rfl ty5 rfl (Y9 (hM.rd hv2_1) hi39.2) fun a hE=>⟨Kept.refl _ _,_,rfl,hE⟩
    ·intro a w ux36 D z
     have hE:=z.E
     have hM:=z.M
     exact ZL hE rfl rfl Tryz.underlying40 ty5 (hM.sl (pre:=[]) noB) hi42.1 fun a hE=>⟨Kept.refl _ _,_,rfl,hE⟩
    ·intro a w ux36 D z
     have hE:=z.E
     have hM:=z.M
     exact Zy (v:=(vB x40)) hE rfl ty5 rfl (Y9 (hM.sl (pre:=[]) noB) hi42.2) fun a hE=>⟨Kept.refl _ _,_,rfl,hE⟩
    ·intro a w ux36 D z
     have hE:=z.E
     have hD : D 10 = false:=z.F
     have hM:=z.M
     exact ZU (xs:=[.tmp 38]) (l:=([x37 ^^^ x40] : List UInt8)) (vs:=[(vB (x37 ^^^ x40))]) hE hM Za ld rfl rfl Tryz.underlying40 ty5 rfl (by decide) rfl fun u43 w a hM hE=>⟨_,_,rfl,hE,M.qFill (mk1:=[]) (mk2:=[]) (f:=(fun v=>osl NoB (([x37 ^^^ x40] : List UInt8) : List UInt8) v)) hM rfl hD,trivial⟩
    ·intro a w ux36 D hE hM hG hall
     have d10:=hall 10 (by decide)
     have hM:=hM.sure (pre:=[_,_]) d10
     obtain ⟨l45,e46,hs32⟩:=bind_some hs32
     obtain ⟨e49,rfl⟩:=ZY e46
     have hM:=hM.pull1
     refine ZV hE hM Za ld rfl rfl (hM.sl (pre:=[_,_]) noB) Tryz.underlying40 ty5 rfl (by decide) e49 fun u47 w a hM hE=>Zc hE rfl fun a hE=>Zg (Yc (Zt (wp_region_lit (Zd hE rfl fun a hE=>Zh hE rfl rfl rfl fun a hE=>Zc hE rfl fun a hE=>Zg (Zj ?_)))))
     have hM:=M.fst (l:=[_,_]) hM.pull1
     exact ⟨_,(ois hs32),u47,hE.sub ⟨rfl,rfl,rfl,rfl,trivial⟩,hM⟩
   ·intro hb35
    have hs32:=Zw hs32 hb35
    refine wp_exit (Zp (Zp (Ye ?_)))
    obtain rfl:=hx33 _ (ois hs32)
    refine Zj ?_
    have hM:=M.fst (l:=[_]) hM.pull1
    exact ⟨u30,hE.sub ⟨rfl,trivial⟩,hM⟩
  ·skip
   rintro a w ⟨u27,hE,hM⟩
   refine Zt (Zb (Zd hE rfl fun a hE=>Zc hE rfl fun a hE=>Ze ?_))
   obtain rfl:=Option.some.inj hF26
   exact wp_ret (ZJ hE rfl (ZQ hE rfl) ⟨_,rfl,u27,rfl,hM.outF (Z8 YR),hM.kept⟩)
def Uw (p0 : Int) : Option ((List UInt8)) :=
 some ([Zr (Q7 (Vy p0 24) 255),Zr (Q7 (Vy p0 16) 255),Zr (Q7 (Vy p0 8) 255),Zr (Q7 p0 255)] : List UInt8)
theorem JM (w0 : World) (p0 : Int) (r : (List UInt8)) (hF : Uw p0 = some r) :
  Calls Tryz.prog 155 [vI p0].toArray w0 (fun en w'=>∃ v,en = .returned v ∧ (∃ (y1 : Value),v = y1 ∧ Fr w0 w' [osl NoB (r : List UInt8) y1] ∧ Kept (Old w0) w0 w')):=by
 refine ce Tryz.func155 ?_
 intro a hE
 have hM:=M.start w0
 unfold Uw at hF
 refine Zb (Zc hE rfl fun a hE=>Ze (Zb (Zd hE rfl fun a hE=>Bd hE Za ld rfl rfl (Jt _ _ (by decide)) fun a hE=>Zh hE rfl rfl rfl fun a hE=>Yf hE Za ld rfl Tryz.underlying2 Tryz.underlying5 fun a hE=>Zd hE rfl fun a hE=>Bd hE Za ld rfl rfl (Jt _ _ (by decide)) fun a hE=>Zh hE rfl rfl rfl fun a hE=>Yf hE Za ld rfl Tryz.underlying2 Tryz.underlying5 fun a hE=>Zd hE rfl fun a hE=>Bd hE Za ld rfl rfl (Jt _ _ (by decide)) fun a hE=>Zh hE rfl rfl rfl ?_))); intro a hE
 refine Yf hE Za ld rfl Tryz.underlying2 Tryz.underlying5 fun a hE=>Zd hE rfl fun a hE=>Zh hE rfl rfl rfl fun a hE=>Yf hE Za ld rfl Tryz.underlying2 Tryz.underlying5 fun a hE=>ZU (xs:=[.tmp 6,.tmp 10,.tmp 14,.tmp 17]) (l:=([Zr (Q7 (Vy p0 24) 255),Zr (Q7 (Vy p0 16) 255),Zr (Q7 (Vy p0 8) 255),Zr (Q7 p0 255)] : List UInt8)) (vs:=[(vB (Zr (Q7 (Vy p0 24) 255))),(vB (Zr (Q7 (Vy p0 16) 255))),(vB (Zr (Q7 (Vy p0 8) 255))),(vB (Zr (Q7 p0 255)))]) hE hM Za ld rfl rfl Tryz.underlying40 ty5 rfl (by decide) rfl fun u1 w a hM hE=>Zc hE rfl fun a hE=>Ze ?_
 obtain rfl:=Option.some.inj hF
 exact wp_ret (ZJ hE rfl (ZQ hE rfl) ⟨_,rfl,u1,rfl,hM.outF (Z8 YR),hM.kept⟩)
def UC (p1 : UInt8) (s8 : (Vector UInt8 16) × Int) : Option (Fl ((Vector UInt8 16) × Int) (Vector UInt8 16)) :=
 if (decide (s8.2 < 16)) = true then ((ZH s8.1 s8.2).bind fun x14=>(ZH s8.1 s8.2).bind fun x17=>some (Fl.nx ((s8.1.setIfInBounds (s8.2).toNat (x14 ^^^ p1)),wr (s8.2 + 1)))) else (some (Fl.ex s8.1))
def VP (p0 : (Vector UInt8 16)) (p1 : UInt8) : Option ((Vector UInt8 16)) :=
 (ZB (UC p1) (p0,0)).bind fun j5=>some j5
theorem HM (w0 : World) (p0 : (Vector UInt8 16)) (p1 : UInt8) (r : (Vector UInt8 16)) (hF : VP p0 p1 = some r) :
  Calls Tryz.prog 158 [(Value.agg (enc p0).toArray),vB p1].toArray w0 (Rt w0 (Value.agg (enc r).toArray)):=by
 refine ce Tryz.func158 ?_
 intro a hE
 have hM:=M.start w0
 unfold VP at hF
 refine Zb (ZO (cs:=enc p0) hE hM Za ld rfl rfl fun b1 w a hM hE=>Zz hE hM ZD fun b3 w a hM hE=>Ze (wp_seq (Zb (Zc hE rfl fun a hE=>Ze ?_))))
 obtain ⟨j5,hl6,hF7⟩:=bind_some hF
 refine ZK (fun a w=>Env 18 a [(2,(ptr b1 0)),(4,(ptr b3 0))] ∧ M (Old w0) w0 w [raw b3 (enc (Vector.replicate 16 (0 : UInt8))),raw b1 (enc j5)]) ?_ ?_
 ·skip
  refine wp_block ?_
  refine ZE (fun (s8 : (Vector UInt8 16) × Int) a w=>Env 18 a [(1,vB p1),(2,(ptr b1 0)),(4,(ptr b3 0)),(5,vI s8.2)] ∧ M (Old w0) w0 w [raw b3 (enc (Vector.replicate 16 (0 : UInt8))),raw b1 (enc s8.1)]) hl6 ⟨hE.sub ⟨rfl,rfl,rfl,rfl,trivial⟩,hM⟩ ?_
  rintro s8 a w ⟨hE,hM⟩ o11 hs9 hx10
  unfold UC at hs9
  refine wp_seq (Zb (Zd hE rfl fun a hE=>Zh hE rfl rfl rfl fun a hE=>Ze ?_))
  refine Zq hE rfl ?_ ?_
  ·intro hb12
   have hs9:=Zx hs9 hb12
   refine wp_skip (Zt (wp_seq (wp_block (wp_region_lit (Zd hE rfl fun a hE=>Zd hE rfl ?_))))); intro a hE
   obtain ⟨x14,hi13,hs9⟩:=bvx hs9
   refine ZC hE rfl rfl Tryz.underlying68 ty5 hi13.1 fun a hE=>Zy (v:=(vB x14)) hE rfl ty5 rfl (At.vec hM.rawAt1 hi13.2) fun a hE=>Zd hE rfl fun a hE=>Zh hE rfl rfl (Vu x14 p1) ?_; intro a hE
   obtain ⟨x17,hi16,hs9⟩:=bvx hs9
   refine ZC hE rfl rfl Tryz.underlying68 ty5 hi16.1 ?_; intro a hE
   have hM:=hM.pull1
   refine Zl (seg:=[(vB (x14 ^^^ p1))]) (cs':=enc (s8.1.setIfInBounds (s8.2).toNat (x14 ^^^ p1))) hE hM Za rfl rfl rfl ty5 rfl (ZR (v:=s8.1) (x:=x14 ^^^ p1) hi16.1) (Flat.cell (x14 ^^^ p1 : UInt8)) (ZF (v:=s8.1) (x:=x14 ^^^ p1) hi16.1) fun w a hM hE=>Zg (Yc (Zt (wp_region_lit (Zd hE rfl fun a hE=>Zh hE rfl rfl rfl fun a hE=>Zc hE rfl fun a hE=>Zg (Zj ?_)))))
   have hM:=hM.pull1
   exact ⟨_,(ois hs9),hE.sub ⟨rfl,rfl,rfl,rfl,trivial⟩,hM⟩
  ·intro hb12
   have hs9:=Zw hs9 hb12
   refine wp_exit (Zp (Zp (Ye ?_)))
   obtain rfl:=hx10 _ (ois hs9)
   refine Zj ?_
   exact ⟨hE.sub ⟨rfl,rfl,trivial⟩,hM⟩
 ·skip
  rintro a w ⟨hE,hM⟩
  refine Zt (Zb (Zn hE rfl ZD rfl hM.rawAt1 (Flat.len _) fun a hE=>Zl (seg:=enc j5) (cs':=enc j5) hE hM Za rfl rfl rfl ZD (Flat.len _) (zle flq) (Flat.cell _) (Zi flq) fun w a hM hE=>Ze ?_))
  obtain rfl:=Option.some.inj hF7
  have hq20 : Yl Tryz.prog _ _ (.cell 4 68) _:=ZI hE rfl ZD rfl hM.rawAt0 (Flat.len _) rfl
  exact wp_ret (ZJ hE rfl hq20 ⟨_,rfl,rfl,hM.kept⟩)
def U6 (p0 : GVault) (p1 : GRecord) : Option ((Vector UInt8 32)) :=
 ((Uw p1.Number).bind fun r13=>(app 1 r13 ([Zr p1.Version] : List UInt8)).bind fun l18=>some (r13 ++ ([Zr p1.Version] : List UInt8)) : Option ((List UInt8))).bind fun j7=>(Wi ([p1.Nonce] : List (Vector UInt8 16))).bind fun r26=>(app 1 j7 r26).bind fun l29=>(app 1 (j7 ++ r26) ([Zr (p1.Label.length : Int)] : List UInt8)).bind fun l36=>(app 1 ((j7 ++ r26) ++ ([Zr (p1.Label.length : Int)] : List UInt8)) p1.Label).bind fun l41=>(app 1 (((j7 ++ r26) ++ ([Zr (p1.Label.length : Int)] : List UInt8)) ++ p1.Label) p1.Body).bind fun l46=>((XA).bind fun r55=>(idx p0.Keys p1.Version).bind fun x57=>(VP x57 129).bind fun r60=>(VZ r55 r60 ((((j7 ++ r26) ++ ([Zr (p1.Label.length : Int)] : List UInt8)) ++ p1.Label) ++ p1.Body)).bind fun r62=>some r62 : Option ((Vector UInt8 32))).bind fun j51=>some j51
theorem zT (w0 : World) (p0 : GVault) (v0_1 : Value) (hv0_1 : Ro w0 p0.Keys [v0_1]) (v0_2 : Value) (hv0_2 : Ro w0 p0.Records [v0_2]) (v0_3 : Value) (hv0_3 : Ro w0 p0.Events [v0_3]) (p1 : GRecord) (v1_1 : Value) (hv1_1 : Ro w0 p1.Label [v1_1]) (v1_2 : Value) (hv1_2 : Ro w0 p1.Body [v1_2]) (r : (Vector UInt8 32)) (hF : U6 p0 p1 = some r) :
  Calls Tryz.prog 102 [(Value.agg (cat [[v0_1],[vI p0.Next],[v0_2],[v0_3],enc p0.Head]).toArray),(Value.agg (cat [[vI p1.Number],[vI p1.Version],enc p1.Nonce,[v1_1],[v1_2],enc p1.Tag]).toArray)].toArray w0 (Rt w0 (Value.agg (enc r).toArray)):=by
 refine ce Tryz.func102 ?_
 intro a hE
 have hM:=M.start w0
 unfold U6 at hF
 refine Zb (ZO (cs:=cat [[v0_1],[vI p0.Next],[v0_2],[v0_3],enc p0.Head]) hE hM Za ld rfl rfl fun b1 w a hM hE=>ZO (cs:=cat [[vI p1.Number],[vI p1.Version],enc p1.Nonce,[v1_1],[v1_2],enc p1.Tag]) hE hM Za ld rfl rfl fun b3 w a hM hE=>Zz hE hM Yh fun b5 w a hM hE=>Ze ?_)
 obtain ⟨j7,hl8,hF9⟩:=bind_some hF
 refine ZM (fun a w=>∃ (u10 : Value),Env 45 a [(2,(ptr b1 0)),(3,(ptr b3 0)),(4,(ptr b5 0)),(5,u10)] ∧ M (Old w0) w0 w [raw b5 (enc (Vector.replicate 32 (0 : UInt8))),raw b3 (cat [[vI p1.Number],[vI p1.Version],enc p1.Nonce,[v1_1],[v1_2],enc p1.Tag]),raw b1 (cat [[v0_1],[vI p0.Next],[v0_2],[v0_3],enc p0.Head]),osl NoB (j7 : List UInt8) u10]) ?_ ?_
 ·skip
  obtain ⟨r13,e14,hl8⟩:=bind_some hl8
  refine YA (its:=[raw b5 (enc (Vector.replicate 32 (0 : UInt8))),raw b3 (cat [[vI p1.Number],[vI p1.Version],enc p1.Nonce,[v1_1],[v1_2],enc p1.Tag]),raw b1 (cat [[v0_1],[vI p0.Next],[v0_2],[v0_3],enc p0.Head])]) (mk:=([mkO 2 (fun v=>osl NoB (r13 : List UInt8) v),mkO 6 (fun v=>osl NoB (([Zr p1.Version] : List UInt8) : List UInt8) v)] : Mk)) [6,7,8,9,10,11,12] YL rfl rfl (by decide) rfl hE (fun u=>M.qE (M.qE (M.q0 hM.drew u) emO) emO) (qsP (fun z=>Zk z.E Za ld rfl (WY) (kr0 rfl)) (qsP (v:=(vI p1.Number)) ?_ (qsM (pr:=fun v=>True) ?_ (qsP (fun z=>Zk z.E Za ld rfl (W1) (kr0 rfl)) (qsP (v:=(vI p1.Version)) ?_ (qsP (fun z=>Yf z.E Za ld rfl Tryz.underlying2 Tryz.underlying5 (kr0 rfl)) (qsM (pr:=fun v=>True) ?_ qs0))))))) ?_
  ·intro a w ux12 D z
   have hE:=z.E
   have hM:=z.M
   exact Zy (v:=(vI p1.Number)) hE rfl ty2 rfl (At.cat (pre:=[]) hM.rawAt1 cl0) fun a hE=>⟨Kept.refl _ _,_,rfl,hE⟩
  ·intro a w ux12 D z
   have hE:=z.E
   have hD : D 2 = false:=z.F
   have hM0:=z.M
   have hM:=z.M
   refine Zv hE rfl (cbm Tryz.func155) (JM _ p1.Number r13 e14) ?_
   rintro _ w a ⟨_,rfl,hFr,hK⟩ hE
   have hM:=hM0.add hK hFr
   exact ⟨_,_,rfl,hE,M.qFill (mk1:=[]) (mk2:=[_]) (f:=(fun v=>osl NoB (r13 : List UInt8) v)) hM rfl hD,trivial⟩
  ·intro a w ux12 D z
   have hE:=z.E
   have hM:=z.M
   exact Zy (v:=(vI p1.Version)) hE rfl ty2 rfl (At.cat (pre:=[[vI p1.Number]]) hM.rawAt1 ck) fun a hE=>⟨Kept.refl _ _,_,rfl,hE⟩
  ·intro a w ux12 D z
   have hE:=z.E
   have hD : D 6 = false:=z.F
   have hM:=z.M
   exact ZU (xs:=[.tmp 11]) (l:=([Zr p1.Version] : List UInt8)) (vs:=[(vB (Zr p1.Version))]) hE hM Za ld rfl rfl Tryz.underlying40 ty5 rfl (by decide) rfl fun u16 w a hM hE=>⟨_,_,rfl,hE,M.qFill (mk1:=[_]) (mk2:=[]) (f:=(fun v=>osl NoB (([Zr p1.Version] : List UInt8) : List UInt8) v)) hM rfl hD,trivial⟩
  ·intro a w ux12 D hE hM hG hall
   have d2:=hall 2 (by decide)
   have d6:=hall 6 (by decide)
   have hM:=(hM.sure (pre:=[_,_,_]) d2).sure (pre:=[_,_,_,_]) d6
   obtain ⟨l18,e19,hl8⟩:=bind_some hl8
   obtain ⟨e22,rfl⟩:=ZY e19
   have hM:=hM.pull3
   refine ZV hE hM Za ld rfl rfl (hM.sl (pre:=[_,_,_,_]) noB) Tryz.underlying40 ty5 rfl (by decide) e22 fun u20 w a hM hE=>Zc hE rfl fun a hE=>Zg ?_
   obtain rfl:=Option.some.inj hl8
   refine Zj ?_
   have hM:=M.fst (l:=[_,_,_,_]) hM.pull3.pull3.pull3
   exact ⟨u20,hE.sub ⟨rfl,rfl,rfl,rfl,trivial⟩,hM⟩
 ·skip
  rintro a w ⟨u10,hE,hM⟩
  refine Zb (Zd hE rfl fun a hE=>Zf hE rfl (QE) fun a hE=>Zn hE rfl ZD rfl (At.cat (pre:=[[vI p1.Number],[vI p1.Version]]) hM.rawAt1 ck) (Flat.len _) fun a hE=>ZU (xs:=[.tmp 16]) (l:=([p1.Nonce] : List (Vector UInt8 16))) (vs:=[(Value.agg (enc p1.Nonce).toArray)]) hE hM Za ld rfl rfl Tryz.underlying54 ZD rfl (by decide) rfl ?_); intro u24 w a hM hE
  obtain ⟨r26,e27,hF9⟩:=bind_some hF9
  refine Zv hE rfl (cbm Tryz.func156) (Jo _ ([p1.Nonce] : List (Vector UInt8 16)) u24 (hM.sl (pre:=[]) noB) r26 e27) ?_
  rintro u28 w a ⟨_,rfl,hFr,hK⟩ hE
  have hM:=hM.add hK hFr
  obtain ⟨l29,e30,hF9⟩:=bind_some hF9
  obtain ⟨e33,rfl⟩:=ZY e30
  have hM:=hM.pull5
  refine ZV hE hM Za ld rfl rfl (hM.sl (pre:=[_]) noB) Tryz.underlying40 ty5 rfl (by decide) e33 fun u31 w a hM hE=>Zc hE rfl fun a hE=>Ze (Zb (Zd hE rfl fun a hE=>Zf hE rfl (Uc) fun a hE=>Zy (v:=v1_1) hE rfl WU rfl (At.cat (pre:=[[vI p1.Number],[vI p1.Version],enc p1.Nonce]) hM.rawAt4 ck) fun a hE=>Z9 hE rfl Tryz.underlying40 (hM.rd hv1_1) fun a hE=>Yf hE Za ld rfl Tryz.underlying3 Tryz.underlying5 fun a hE=>ZU (xs:=[.tmp 24]) (l:=([Zr (p1.Label.length : Int)] : List UInt8)) (vs:=[(vB (Zr (p1.Label.length : Int)))]) hE hM Za ld rfl rfl Tryz.underlying40 ty5 rfl (by decide) rfl ?_)); intro u34 w a hM hE
  obtain ⟨l36,e37,hF9⟩:=bind_some hF9
  obtain ⟨e40,rfl⟩:=ZY e37
  have hM:=hM.pull1
  refine ZV hE hM Za ld rfl rfl (hM.sl (pre:=[_]) noB) Tryz.underlying40 ty5 rfl (by decide) e40 fun u38 w a hM hE=>Zc hE rfl fun a hE=>Ze (Zb (Zd hE rfl fun a hE=>Zf hE rfl (Uc) fun a hE=>Zy (v:=v1_1) hE rfl WU rfl (At.cat (pre:=[[vI p1.Number],[vI p1.Version],enc p1.Nonce]) hM.rawAt5 ck) ?_)); intro a hE
  obtain ⟨l41,e42,hF9⟩:=bind_some hF9
  obtain ⟨e45,rfl⟩:=ZY e42
  refine ZV hE hM Za ld rfl rfl (hM.rd hv1_1) Tryz.underlying40 ty5 rfl (by decide) e45 fun u43 w a hM hE=>Zc hE rfl fun a hE=>Ze (Zb (Zd hE rfl fun a hE=>Zf hE rfl (UH) fun a hE=>Zy (v:=v1_2) hE rfl WU rfl (At.cat (pre:=[[vI p1.Number],[vI p1.Version],enc p1.Nonce,[v1_1]]) hM.rawAt5 ck) ?_)); intro a hE
  obtain ⟨l46,e47,hF9⟩:=bind_some hF9
  obtain ⟨e50,rfl⟩:=ZY e47
  refine ZV hE hM Za ld rfl rfl (hM.rd hv1_2) Tryz.underlying40 ty5 rfl (by decide) e50 fun u48 w a hM hE=>Zc hE rfl fun a hE=>Ze ?_
  obtain ⟨j51,hl52,hF53⟩:=bind_some hF9
  refine ZM (fun a w=>Env 45 a [(4,(ptr b5 0))] ∧ M (Old w0) w0 w [raw b5 (enc j51)]) ?_ ?_
  ·skip
   obtain ⟨r55,e56,hl52⟩:=bind_some hl52
   obtain ⟨x57,hi59,hl52⟩:=bix hl52
   obtain ⟨r60,e61,hl52⟩:=bind_some hl52
   obtain ⟨r62,e63,hl52⟩:=bind_some hl52
   refine Yj [35,36,37,38,39,40,41,42,43,44] YL rfl rfl (by decide) rfl hE hM (qsP (fun z=>Z7 z.E Za ld rfl qv (TQ _  r55 e56) (kc rfl)) (qsP (fun z=>Zk z.E Za ld rfl (WX) (kr0 rfl)) (qsP (fun z=>ZN (v:=v0_1) z.E Za ld rfl QR rfl (At.cat (pre:=[]) (z.M.rawAt6) cl0) (kr0 rfl)) (qsP (fun z=>Zk z.E Za ld rfl (W1) (kr0 rfl)) (qsP (fun z=>ZN (v:=(vI p1.Version)) z.E Za ld rfl ty2 rfl (At.cat (pre:=[[vI p1.Number]]) (z.M.rawAt5) ck) (kr0 rfl)) (qsP (fun z=>Xz z.E Za ld rfl rfl Tryz.underlying54 ZD (z.M.rd hv0_1) hi59.1 (kr0 rfl)) (qsP (fun z=>Yq z.E Za ld rfl ZD rfl (Y9 (z.M.rd hv0_1) hi59.2) (Flat.len _) (kr0 rfl)) (qsP (fun z=>Z7 z.E Za ld rfl (cbm Tryz.func158) (HM _ x57 129 r60 e61) (kc rfl)) (qsP (fun z=>Zu z.E Za ld rfl (kr0 rfl)) (qsP (fun z=>Z7 z.E Za ld rfl (cbm Tryz.func157) (Hf _ r55 r60 ((((j7 ++ r26) ++ ([Zr (p1.Label.length : Int)] : List UInt8)) ++ p1.Label) ++ p1.Body) u48 (z.M.sl (pre:=[]) noB) r62 e63) (kc rfl)) qs0)))))))))) ?_
   ·intro a w u hE hM
    have hM:=hM.pull4
    refine Zl (seg:=enc r62) (cs':=enc r62) hE hM Za rfl rfl rfl Yh (Flat.len _) (zle flq) (Flat.cell _) (Zi flq) fun w a hM hE=>Zg ?_
    obtain rfl:=Option.some.inj hl52
    refine Zj ?_
    have hM:=M.fst (l:=[_]) hM
    exact ⟨hE.sub ⟨rfl,trivial⟩,hM⟩
  ·skip
   rintro a w ⟨hE,hM⟩
   obtain rfl:=Option.some.inj hF53
   have hq65 : Yl Tryz.prog _ _ (.cell 4 35) _:=ZI hE rfl Yh rfl hM.rawAt0 (Flat.len _) rfl
   exact wp_ret (ZJ hE rfl hq65 ⟨_,rfl,rfl,hM.kept⟩)
def Tz (p0 : (Vector UInt8 32)) (p1 : GEvent) : Option ((Vector UInt8 32)) :=
 ((XZ p0).bind fun r13=>(app 1 r13 ([Zr p1.Kind] : List UInt8)).bind fun l18=>some (r13 ++ ([Zr p1.Kind] : List UInt8)) : Option ((List UInt8))).bind fun j7=>(Uw p1.Number).bind fun r24=>(app 1 j7 r24).bind fun l27=>((XA).bind fun r36=>(XZ p1.Tag).bind fun r38=>(app 1 (j7 ++ r24) r38).bind fun l41=>(W2 r36 ((j7 ++ r24) ++ r38)).bind fun r46=>some r46 : Option ((Vector UInt8 32))).bind fun j32=>some j32
theorem zi (w0 : World) (p0 : (Vector UInt8 32)) (p1 : GEvent) (r : (Vector UInt8 32)) (hF : Tz p0 p1 = some r) :
  Calls Tryz.prog 168 [(Value.agg (enc p0).toArray),(Value.agg (enc p1).toArray)].toArray w0 (Rt w0 (Value.agg (enc r).toArray)):=by
 refine ce Tryz.func168 ?_
 intro a hE
 have hM:=M.start w0
 unfold Tz at hF
 refine Zb (ZO (cs:=enc p0) hE hM Za ld rfl rfl fun b1 w a hM hE=>ZO (cs:=cat [[vI p1.Kind],[vI p1.Number],enc p1.Tag]) hE hM Za ld rfl rfl fun b3 w a hM hE=>Zz hE hM Yh fun b5 w a hM hE=>Ze ?_)
 obtain ⟨j7,hl8,hF9⟩:=bind_some hF
 refine ZM (fun a w=>∃ (u10 : Value),Env 25 a [(3,(ptr b3 0)),(4,(ptr b5 0)),(5,u10)] ∧ M (Old w0) w0 w [raw b5 (enc (Vector.replicate 32 (0 : UInt8))),raw b3 (cat [[vI p1.Kind],[vI p1.Number],enc p1.Tag]),osl NoB (j7 : List UInt8) u10]) ?_ ?_
 ·skip
  obtain ⟨r13,e14,hl8⟩:=bind_some hl8
  refine YA (its:=[raw b5 (enc (Vector.replicate 32 (0 : UInt8))),raw b3 (cat [[vI p1.Kind],[vI p1.Number],enc p1.Tag]),raw b1 (enc p0)]) (mk:=([mkO 1 (fun v=>osl NoB (r13 : List UInt8) v),mkO 5 (fun v=>osl NoB (([Zr p1.Kind] : List UInt8) : List UInt8) v)] : Mk)) [6,7,8,9,10,11] YL rfl rfl (by decide) rfl hE (fun u=>M.qE (M.qE (M.q0 hM.drew u) emO) emO) (qsP (v:=(Value.agg (enc p0).toArray)) ?_ (qsM (pr:=fun v=>True) ?_ (qsP (fun z=>Zk z.E Za ld rfl (Kd) (kr0 rfl)) (qsP (v:=(vI p1.Kind)) ?_ (qsP (fun z=>Yf z.E Za ld rfl Tryz.underlying2 Tryz.underlying5 (kr0 rfl)) (qsM (pr:=fun v=>True) ?_ qs0)))))) ?_
  ·intro a w ux12 D z
   have hE:=z.E
   have hM:=z.M
   exact Zn hE rfl Yh rfl hM.rawAt2 (Flat.len _) fun a hE=>⟨Kept.refl _ _,_,rfl,hE⟩
  ·intro a w ux12 D z
   have hE:=z.E
   have hD : D 1 = false:=z.F
   have hM0:=z.M
   have hM:=z.M
   refine Zv hE rfl qu (Qe _ p0 r13 e14) ?_
   rintro _ w a ⟨_,rfl,hFr,hK⟩ hE
   have hM:=hM0.add hK hFr
   exact ⟨_,_,rfl,hE,M.qFill (mk1:=[]) (mk2:=[_]) (f:=(fun v=>osl NoB (r13 : List UInt8) v)) hM rfl hD,trivial⟩
  ·intro a w ux12 D z
   have hE:=z.E
   have hM:=z.M
   exact Zy (v:=(vI p1.Kind)) hE rfl ty2 rfl (At.cat (pre:=[]) hM.rawAt1 cl0) fun a hE=>⟨Kept.refl _ _,_,rfl,hE⟩
  ·intro a w ux12 D z
   have hE:=z.E
   have hD : D 5 = false:=z.F
   have hM:=z.M
   exact ZU (xs:=[.tmp 10]) (l:=([Zr p1.Kind] : List UInt8)) (vs:=[(vB (Zr p1.Kind))]) hE hM Za ld rfl rfl Tryz.underlying40 ty5 rfl (by decide) rfl fun u16 w a hM hE=>⟨_,_,rfl,hE,M.qFill (mk1:=[_]) (mk2:=[]) (f:=(fun v=>osl NoB (([Zr p1.Kind] : List UInt8) : List UInt8) v)) hM rfl hD,trivial⟩
  ·intro a w ux12 D hE hM hG hall
   have d1:=hall 1 (by decide)
   have d5:=hall 5 (by decide)
   have hM:=(hM.sure (pre:=[_,_,_]) d1).sure (pre:=[_,_,_,_]) d5
   obtain ⟨l18,e19,hl8⟩:=bind_some hl8
   obtain ⟨e22,rfl⟩:=ZY e19
   have hM:=hM.pull3
   refine ZV hE hM Za ld rfl rfl (hM.sl (pre:=[_,_,_,_]) noB) Tryz.underlying40 ty5 rfl (by decide) e22 fun u20 w a hM hE=>Zc hE rfl fun a hE=>Zg ?_
   obtain rfl:=Option.some.inj hl8
   refine Zj ?_
   have hM:=M.fst (l:=[_,_,_]) hM.pull2.pull2
   exact ⟨u20,hE.sub ⟨rfl,rfl,rfl,trivial⟩,hM⟩
 ·skip
  rintro a w ⟨u10,hE,hM⟩
  refine Zb (Zd hE rfl fun a hE=>Zf hE rfl (Kb) fun a hE=>Zy (v:=(vI p1.Number)) hE rfl ty2 rfl (At.cat (pre:=[[vI p1.Kind]]) hM.rawAt1 ck) ?_); intro a hE
  obtain ⟨r24,e25,hF9⟩:=bind_some hF9
  refine Zv hE rfl (cbm Tryz.func155) (JM _ p1.Number r24 e25) ?_
  rintro u26 w a ⟨_,rfl,hFr,hK⟩ hE
  have hM:=hM.add hK hFr
  obtain ⟨l27,e28,hF9⟩:=bind_some hF9
  obtain ⟨e31,rfl⟩:=ZY e28
  have hM:=hM.pull3
  refine ZV hE hM Za ld rfl rfl (hM.sl (pre:=[_]) noB) Tryz.underlying40 ty5 rfl (by decide) e31 fun u29 w a hM hE=>Zc hE rfl fun a hE=>Ze ?_
  obtain ⟨j32,hl33,hF34⟩:=bind_some hF9
  refine ZM (fun a w=>Env 25 a [(4,(ptr b5 0))] ∧ M (Old w0) w0 w [raw b5 (enc j32)]) ?_ ?_
  ·skip
   obtain ⟨r36,e37,hl33⟩:=bind_some hl33
   obtain ⟨r38,e39,hl33⟩:=bind_some hl33
   refine YA (its:=[osl NoB ((j7 ++ r24) : List UInt8) u29,osl NoB (r24 : List UInt8) u26,raw b5 (enc (Vector.replicate 32 (0 : UInt8))),raw b3 (cat [[vI p1.Kind],[vI p1.Number],enc p1.Tag])]) (mk:=([mkO 4 (fun v=>osl NoB (r38 : List UInt8) v)] : Mk)) [18,19,20,21,22] YL rfl rfl (by decide) rfl hE (fun u=>M.qE (M.q0 hM.drew u) emO) (qsP (fun z=>Z7 z.E Za ld rfl qv (TQ _  r36 e37) (kc rfl)) (qsP (fun z=>Zu z.E Za ld rfl (kr0 rfl)) (qsP (fun z=>Zk z.E Za ld rfl (KT) (kr0 rfl)) (qsP (v:=(Value.agg (enc p1.Tag).toArray)) ?_ (qsM (pr:=fun v=>True) ?_ qs0))))) ?_
   ·intro a w ux35 D z
    have hE:=z.E
    have hM:=z.M
    exact Zn hE rfl Yh rfl (At.cat (pre:=[[vI p1.Kind],[vI p1.Number]]) hM.rawAt3 ck) (Flat.len _) fun a hE=>⟨Kept.refl _ _,_,rfl,hE⟩
   ·intro a w ux35 D z
    have hE:=z.E
    have hD : D 4 = false:=z.F
    have hM0:=z.M
    have hM:=z.M
    refine Zv hE rfl qu (Qe _ p1.Tag r38 e39) ?_
    rintro _ w a ⟨_,rfl,hFr,hK⟩ hE
    have hM:=hM0.add hK hFr
    exact ⟨_,_,rfl,hE,M.qFill (mk1:=[]) (mk2:=[]) (f:=(fun v=>osl NoB (r38 : List UInt8) v)) hM rfl hD,trivial⟩
   ·intro a w ux35 D hE hM hG hall
    have d4:=hall 4 (by decide)
    have hM:=hM.sure (pre:=[_,_,_,_]) d4
    obtain ⟨l41,e42,hl33⟩:=bind_some hl33
    obtain ⟨e45,rfl⟩:=ZY e42
    refine ZV hE hM Za ld rfl rfl (hM.sl (pre:=[_,_,_,_]) noB) Tryz.underlying40 ty5 rfl (by decide) e45 ?_; intro u43 w a hM hE
    obtain ⟨r46,e47,hl33⟩:=bind_some hl33
    refine Zv hE rfl qH (Q8 _ r36 ((j7 ++ r24) ++ r38) u43 (hM.sl (pre:=[]) noB) r46 e47) ?_
    rintro v w a ⟨rfl,hK⟩ hE
    have hM:=(hM.keep hK).pull2
    refine Zl (seg:=enc r46) (cs':=enc r46) hE hM Za rfl rfl rfl Yh (Flat.len _) (zle flq) (Flat.cell _) (Zi flq) fun w a hM hE=>Zg ?_
    obtain rfl:=Option.some.inj hl33
    refine Zj ?_
    have hM:=M.fst (l:=[_]) hM
    exact ⟨hE.sub ⟨rfl,trivial⟩,hM⟩
  ·skip
   rintro a w ⟨hE,hM⟩
   obtain rfl:=Option.some.inj hF34
   have hq49 : Yl Tryz.prog _ _ (.cell 4 35) _:=ZI hE rfl Yh rfl hM.rawAt0 (Flat.len _) rfl
   exact wp_ret (ZJ hE rfl hq49 ⟨_,rfl,rfl,hM.kept⟩)
def VE (p0 : (List GEvent)) (s19 : (Vector UInt8 32) × Int) : Option (Fl ((Vector UInt8 32) × Int) (Vector UInt8 32)) :=
 if (decide (s19.2 < (p0.length : Int))) = true then ((idx p0 s19.2).bind fun x25=>(Tz s19.1 x25).bind fun r28=>some (Fl.nx (r28,wr (s19.2 + 1)))) else (some (Fl.ex s19.1))
def Tx (p0 : (List GEvent)) : Option ((Vector UInt8 32)) :=
 (XA).bind fun r4=>(mkS 1 (0 : UInt8) 32).bind fun l6=>(W2 r4 l6).bind fun r10=>(ZB (VE p0) (r10,0)).bind fun j16=>some j16
theorem zD (w0 : World) (p0 : (List GEvent)) (v0_1 : Value) (hv0_1 : Ro w0 p0 [v0_1]) (r : (Vector UInt8 32)) (hF : Tx p0 = some r) :
  Calls Tryz.prog 110 [v0_1].toArray w0 (Rt w0 (Value.agg (enc r).toArray)):=by
 refine ce Tryz.func110 ?_
 intro a hE
 have hM:=M.start w0
 unfold Tx at hF
 refine Zb (Zz hE hM Yh fun b1 w a hM hE=>Ze (wp_seq ?_))
 obtain ⟨r4,e5,hF⟩:=bind_some hF
 obtain ⟨l6,e7,hF⟩:=bind_some hF
 obtain ⟨r10,e11,hF⟩:=bind_some hF
 refine YA (its:=[raw b1 (enc (Vector.replicate 32 (0 : UInt8)))]) (mk:=([mkO 1 (fun v=>osl NoB (l6 : List UInt8) v),mkO 3 (fun v=>Wx v (enc (Vector.replicate 32 (0 : UInt8))))] : Mk)) [5,6,7,3] YL rfl rfl (by decide) rfl hE (fun u=>M.qE (M.qE (M.q0 hM.drew u) emO) emO) (qsP (fun z=>Z7 z.E Za ld rfl qv (TQ _  r4 e5) (kc rfl)) (qsM (pr:=fun v=>True) ?_ (qsP (v:=(Value.agg (enc r10).toArray)) ?_ (qsM (pr:=fun v=>True) ?_ qs0)))) ?_
 ·intro a w ux3 D z
  have hE:=z.E
  have hD : D 1 = false:=z.F
  have hM:=z.M
  exact BT hE hM Za ld rfl rfl Tryz.underlying40 ty5 rfl (by decide) (fun _=>T2.2 ⟨rfl,rfl⟩) e7 fun u8 w a hM hE=>⟨_,_,rfl,hE,M.qFill (mk1:=[]) (mk2:=[_]) (f:=(fun v=>osl NoB (l6 : List UInt8) v)) hM rfl hD,trivial⟩
 ·intro a w ux3 D z
  have hE:=z.E
  have d1 : D 1 = true:=z.p 1 _ rfl rfl
  have hM:=z.M.sure (pre:=[_]) d1
  refine Zv hE rfl qH (Q8 _ r4 l6 (ux3 1) (hM.sl (pre:=[_]) noB) r10 e11) ?_
  rintro v w a ⟨rfl,hK⟩ hE
  exact ⟨hK,_,rfl,hE⟩
 ·intro a w ux3 D z
  have hE:=z.E
  have hD : D 3 = false:=z.F
  have hM:=z.M
  refine Zz hE hM Yh ?_; intro b12 w a hM hE
  have hM:=hM.pack1 (it:=Wx _ (enc (Vector.replicate 32 (0 : UInt8)))) (fun w w' fp ⟨b',e,k⟩ hb=>⟨b',e,YF w w' fp k hb⟩) (fun fp k=>⟨_,rfl,k⟩)
  exact ⟨_,_,rfl,hE,M.qFill (mk1:=[_]) (mk2:=[]) (f:=fun v=>Wx v (enc (Vector.replicate 32 (0 : UInt8)))) hM rfl hD,trivial⟩
 ·intro a w ux3 D hE hM hG hall
  have d1:=hall 1 (by decide)
  have d3:=hall 3 (by decide)
  have hM:=((hM.sure (pre:=[_]) d1).sure (pre:=[_,_]) d3).pull
  obtain ⟨_,⟨b14,f15,_⟩,_⟩:=hM.head
  have hM:=hM.pack1 YF (it:=raw b14 (enc (Vector.replicate 32 (0 : UInt8)))) (fun fp ⟨b2,e2,k2⟩=>by rw [f15] at e2; simp [ptr] at e2; subst e2; exact k2)
  have hE:=hE.setq (t:=3) rfl f15
  refine Zl (seg:=enc r10) (cs':=enc r10) hE hM Za rfl rfl rfl Yh (Flat.len _) (zle flq) (Flat.cell _) (Zi flq) fun w a hM hE=>Zg (Zt (wp_seq (Zb (Zc hE rfl fun a hE=>Ze ?_))))
  obtain ⟨j16,hl17,hF18⟩:=bind_some hF
  refine ZK (fun a w=>Env 21 a [(2,(ptr b1 0)),(3,(ptr b14 0))] ∧ M (Old w0) w0 w [raw b14 (enc j16),raw b1 (enc (Vector.replicate 32 (0 : UInt8)))]) ?_ ?_
  ·skip
   refine wp_block ?_
   have hM:=M.fst (l:=[_,_]) hM.pull1.pull1
   refine ZE (fun (s19 : (Vector UInt8 32) × Int) a w=>Env 21 a [(0,v0_1),(2,(ptr b1 0)),(3,(ptr b14 0)),(4,vI s19.2)] ∧ M (Old w0) w0 w [raw b14 (enc s19.1),raw b1 (enc (Vector.replicate 32 (0 : UInt8)))]) hl17 ⟨hE.sub ⟨rfl,rfl,rfl,rfl,trivial⟩,hM⟩ ?_
   rintro s19 a w ⟨hE,hM⟩ o22 hs20 hx21
   unfold VE at hs20
   refine wp_seq (Zb (Zd hE rfl fun a hE=>Zd hE rfl fun a hE=>Z9 hE rfl Tryz.underlying56 (hM.rd hv0_1) fun a hE=>Zh hE rfl rfl rfl fun a hE=>Ze ?_))
   refine Zq hE rfl ?_ ?_
   ·intro hb23
    have hs20:=Zx hs20 hb23
    refine wp_skip (Zt (wp_seq (wp_block ?_)))
    obtain ⟨x25,hi27,hs20⟩:=bix hs20
    obtain ⟨r28,e29,hs20⟩:=bind_some hs20
    refine Yj [14,15,16,17,18,19] YL rfl rfl (by decide) rfl hE hM (qsP (fun z=>Yq z.E Za ld rfl Yh rfl (z.M.rawAt0) (Flat.len _) (kr0 rfl)) (qsP (fun z=>Zu z.E Za ld rfl (kr0 rfl)) (qsP (fun z=>Zu z.E Za ld rfl (kr0 rfl)) (qsP (fun z=>Xz z.E Za ld rfl rfl Tryz.underlying56 Xs (z.M.rd hv0_1) hi27.1 (kr0 rfl)) (qsP (fun z=>Yq z.E Za ld rfl Xs rfl (Y9 (z.M.rd hv0_1) hi27.2) cq (kr0 rfl)) (qsP (fun z=>Z7 z.E Za ld rfl (cbm Tryz.func168) (zi _ s19.1 x25 r28 e29) (kc rfl)) qs0)))))) ?_
    ·intro a w u hE hM
     refine Zl (seg:=enc r28) (cs':=enc r28) hE hM Za rfl rfl rfl Yh (Flat.len _) (zle flq) (Flat.cell _) (Zi flq) fun w a hM hE=>Zg (Yc (Zt (wp_region_lit (Zd hE rfl fun a hE=>Zh hE rfl rfl rfl fun a hE=>Zc hE rfl fun a hE=>Zg (Zj ?_)))))
     exact ⟨_,(ois hs20),hE.sub ⟨rfl,rfl,rfl,rfl,trivial⟩,hM⟩
   ·intro hb23
    have hs20:=Zw hs20 hb23
    refine wp_exit (Zp (Zp (Ye ?_)))
    obtain rfl:=hx21 _ (ois hs20)
    refine Zj ?_
    exact ⟨hE.sub ⟨rfl,rfl,trivial⟩,hM⟩
  ·skip
   rintro a w ⟨hE,hM⟩
   refine Zt (Zb (Zn hE rfl Yh rfl hM.rawAt0 (Flat.len _) ?_)); intro a hE
   have hM:=hM.pull1
   refine Zl (seg:=enc j16) (cs':=enc j16) hE hM Za rfl rfl rfl Yh (Flat.len _) (zle flq) (Flat.cell _) (Zi flq) fun w a hM hE=>Ze ?_
   obtain rfl:=Option.some.inj hF18
   have hq31 : Yl Tryz.prog _ _ (.cell 2 35) _:=ZI hE rfl Yh rfl hM.rawAt0 (Flat.len _) rfl
   exact wp_ret (ZJ hE rfl hq31 ⟨_,rfl,rfl,hM.kept⟩)
def Uk (p0 : GVault) (p1 : Int) (p2 : Int) (p3 : (Vector UInt8 32)) : Option (GVault) :=
 (app 48 p0.Events ([(⟨p1,p2,p3⟩ : GEvent)] : List GEvent)).bind fun l9=>(Tx (p0.Events ++ ([(⟨p1,p2,p3⟩ : GEvent)] : List GEvent))).bind fun r14=>some (⟨p0.Keys,p0.Next,p0.Records,(p0.Events ++ ([(⟨p1,p2,p3⟩ : GEvent)] : List GEvent)),r14⟩ : GVault)
theorem zw (St : Nat → Prop) (W w0 : World) (its : List Item) (p0 : GVault) (v0_1 : Value) (v0_2 : Value) (v0_3 : Value) (p1 : Int) (p2 : Int) (p3 : (Vector UInt8 32)) (hM : M St W w0 (osl NoB (p0.Keys : List (Vector UInt8 16)) v0_1 :: osl NoB (p0.Records : List GRecord) v0_2 :: osl NoB (p0.Events : List GEvent) v0_3 :: its)) (r : GVault) (hF : Uk p0 p1 p2 p3 = some r) :
  Calls Tryz.prog 82 [(Value.agg (cat [[v0_1],[vI p0.Next],[v0_2],[v0_3],enc p0.Head]).toArray),vI p1,vI p2,(Value.agg (enc p3).toArray)].toArray w0 (fun en w'=>∃ v,en = .returned v ∧ (∃ (y1 : Value) (y2 : Value) (y3 : Value),v = (Value.agg (cat [[y1],[vI r.Next],[y2],[y3],enc r.Head]).toArray) ∧ M St W w' (osl NoB (r.Keys : List (Vector UInt8 16)) y1 :: osl NoB (r.Records : List GRecord) y2 :: osl NoB (r.Events : List GEvent) y3 :: its))):=by
 refine ce Tryz.func82 ?_
 intro a hE
 unfold Uk at hF
 refine Zb (ZO (cs:=cat [[v0_1],[vI p0.Next],[v0_2],[v0_3],enc p0.Head]) hE hM Za ld rfl rfl fun b1 w a hM hE=>ZO (cs:=enc p3) hE hM Za ld rfl rfl fun b3 w a hM hE=>Zz hE hM Ys fun b5 w a hM hE=>Ze (Zb (Zf hE rfl (Ur) fun a hE=>Zy (v:=v0_3) hE rfl KD rfl (At.cat (pre:=[[v0_1],[vI p0.Next],[v0_2]]) hM.rawAt2 ck) fun a hE=>Zd hE rfl fun a hE=>Zd hE rfl fun a hE=>Zn hE rfl Yh rfl hM.rawAt1 (Flat.len _) fun a hE=>Y8 (parts:=[(0,.tmp 11),(1,.tmp 12),(2,.tmp 13)]) (vs:=[(0,vI p1),(1,vI p2),(2,(Value.agg (enc p3).toArray))]) (cs:=cat [[vI p1],[vI p2],enc p3]) hE Za ld rfl rfl Xs pl131 (Z5 (pre:=[]) (seg:=[vI 0]) (seg':=[vI p1]) (post:=[[vI 0],enc (Vector.replicate 32 (0 : UInt8))]) rfl cl0 rfl rfl rfl (Z5 (pre:=[[vI p1]]) (seg:=[vI 0]) (seg':=[vI p2]) (post:=[enc (Vector.replicate 32 (0 : UInt8))]) rfl ck rfl rfl rfl (Z5 (pre:=[[vI p1],[vI p2]]) (seg:=enc (Vector.replicate 32 (0 : UInt8))) (seg':=enc p3) (post:=[]) rfl ck (Flat.len _) (Flat.len _) rfl Wu))) fun a hE=>ZU (xs:=[.tmp 14]) (l:=([(⟨p1,p2,p3⟩ : GEvent)] : List GEvent)) (vs:=[(Value.agg (enc (⟨p1,p2,p3⟩ : GEvent)).toArray)]) hE hM Za ld rfl rfl Tryz.underlying56 Xs rfl (by decide) rfl ?_))); intro u7 w a hM hE
 obtain ⟨l9,e10,hF⟩:=bind_some hF
 obtain ⟨e13,rfl⟩:=ZY e10
 have hM:=hM.pull6
 refine ZV hE hM Za ld rfl rfl (hM.sl (pre:=[_]) noB) Tryz.underlying56 Xs rfl (by decide) e13 fun u11 w a hM hE=>Zf hE rfl (Ur) ?_; intro a hE
 have hM:=hM.pull4
 refine Zl (seg:=[u11]) hE hM Za rfl rfl (ZX (hM.sl (pre:=[_]) noB)) KD rfl (YH (pre:=[[v0_1],[vI p0.Next],[v0_2]]) ck rfl) (Rep.cell (hM.sl (pre:=[_]) noB)) (ZP (pre:=[[v0_1],[vI p0.Next],[v0_2]]) ck rfl) fun w a hM hE=>Ze (Zb (Zf hE rfl (Ur) fun a hE=>Zy (v:=u11) hE rfl KD rfl (At.cat (pre:=[[v0_1],[vI p0.Next],[v0_2]]) hM.rawAt0 ck) ?_)); intro a hE
 obtain ⟨r14,e15,hF⟩:=bind_some hF
 refine Zv hE rfl (cbm Tryz.func110) (zD _ (p0.Events ++ ([(⟨p1,p2,p3⟩ : GEvent)] : List GEvent)) u11 (hM.sl (pre:=[_]) noB) r14 e15) ?_
 rintro v w a ⟨rfl,hK⟩ hE
 have hM:=hM.keep hK
 refine Zf hE rfl (Hr) fun a hE=>Zl (seg:=enc r14) hE hM Za rfl rfl rfl Yh (Flat.len _) (YH (pre:=[[v0_1],[vI p0.Next],[v0_2],[u11]]) ck flq) (Flat.cell _) (ZP (pre:=[[v0_1],[vI p0.Next],[v0_2],[u11]]) ck flq) fun w a hM hE=>Ze (Zb (Zn hE rfl Ys rfl hM.rawAt0 cq ?_)); intro a hE
 have hM:=hM.pull3
 refine Zl (seg:=cat [[v0_1],[vI p0.Next],[v0_2],[u11],enc r14]) (cs':=cat [[v0_1],[vI p0.Next],[v0_2],[u11],enc r14]) hE hM Za rfl rfl rfl Ys cq (Nat.le_of_eq ((Nat.zero_add _).trans (Eq.trans cq (Eq.symm cq)))) (ZZ (cc1 (Rep.cell (hM.sl (pre:=[_,_,_,_,_]) noB)) (cc1 (Flat.cell (p0.Next : Int)) (cc1 (Rep.cell (hM.sl (pre:=[_,_,_,_,_,_]) noB)) (cc1 (Rep.cell (hM.sl (pre:=[_,_]) noB)) (cc1 (Flat.cell _) cc0)))))) (Zi (Eq.trans cq (Eq.symm cq))) fun w a hM hE=>Ze ?_
 obtain rfl:=Option.some.inj hF
 have hq16 : Yl Tryz.prog _ _ (.cell 8 58) _:=ZI hE rfl Ys rfl hM.rawAt0 cq rfl
 have hM:=((((hM.pull2.pull6.pull6.pull6).drop.pull5).drop.pull4).drop.pull3).drop
 exact wp_ret (ZJ hE rfl hq16 ⟨_,rfl,v0_1,v0_2,u11,rfl,hM⟩)
def UT (p0 : GVault) (p1 : (List UInt8)) (p2 : (List UInt8)) (p3 : (Vector UInt8 16)) : Option (GVault × Int × Int) :=
 (Qt p0).bind fun r7=>if (!r7) = true then (some ((⟨[],0,[],[],(Vector.replicate 32 (0 : UInt8))⟩ : GVault),0,1)) else ((if (decide ((p1.length : Int) > 32)) = true then (some true) else (some (decide ((p2.length : Int) > 200))) : Option (Bool)).bind fun j14=>if j14 = true then (some ((⟨[],0,[],[],(Vector.replicate 32 (0 : UInt8))⟩ : GVault),0,2)) else ((Tr p0 p3).bind fun r25=>if r25 = true then (some ((⟨[],0,[],[],(Vector.replicate 32 (0 : UInt8))⟩ : GVault),0,5)) else ((if ((p0.Records.length : Int) == 12) = true then (some true) else (if ((p0.Events.length : Int) == 60) = true then (some true) else (some (p0.Next == 1000000))) : Option (Bool)).bind fun j32=>if j32 = true then (some ((⟨[],0,[],[],(Vector.replicate 32 (0 : UInt8))⟩ : GVault),0,3)) else ((T1 p0).bind fun r45=>(Xa p1).bind fun r53=>(Vb p0 (⟨p0.Next,wr ((p0.Keys.length : Int) - 1),p3,r53,[],(Vector.replicate 32 (0 : UInt8))⟩ : GRecord) p2).bind fun r60=>(U6 p0 (⟨p0.Next,wr ((p0.Keys.length : Int) - 1),p3,r53,r60,(Vector.replicate 32 (0 : UInt8))⟩ : GRecord)).bind fun r63=>(app 112 r45.Records ([(⟨p0.Next,wr ((p0.Keys.length : Int) - 1),p3,r53,r60,r63⟩ : GRecord)] : List GRecord)).bind fun l67=>((Uk (⟨r45.Keys,wr (r45.Next + 1),(r45.Records ++ ([(⟨p0.Next,wr ((p0.Keys.length : Int) - 1),p3,r53,r60,r63⟩ : GRecord)] : List GRecord)),r45.Events,r45.Head⟩ : GVault) 1 p0.Next r63).bind fun r83=>some (r83.Keys,r83.Next,r83.Records,r83.Events,r83.Head,0,p0.Next) : Option ((List (Vector UInt8 16)) × Int × (List GRecord) × (List GEvent) × (Vector UInt8 32) × Int × Int)).bind fun j72=>some ((⟨j72.1,j72.2.1,j72.2.2.1,j72.2.2.2.1,j72.2.2.2.2.1⟩ : GVault),j72.2.2.2.2.2.2,j72.2.2.2.2.2.1)))))
theorem Am (w0 : World) (p0 : GVault) (v0_1 : Value) (hv0_1 : Ro w0 p0.Keys [v0_1]) (v0_2 : Value) (hv0_2 : Ro w0 p0.Records [v0_2]) (v0_3 : Value) (hv0_3 : Ro w0 p0.Events [v0_3]) (p1 : (List UInt8)) (v1_1 : Value) (hv1_1 : Ro w0 p1 [v1_1]) (p2 : (List UInt8)) (v2_1 : Value) (hv2_1 : Ro w0 p2 [v2_1]) (p3 : (Vector UInt8 16)) (r : GVault × Int × Int) (hF : UT p0 p1 p2 p3 = some r) :
  Calls Tryz.prog 30 [(Value.agg (cat [[v0_1],[vI p0.Next],[v0_2],[v0_3],enc p0.Head]).toArray),v1_1,v2_1,(Value.agg (enc p3).toArray)].toArray w0 (fun en w'=>∃ v,en = .returned v ∧ (∃ (y1 : Value) (y2 : Value) (y3 : Value),v = (Value.tuple [(Value.agg (cat [[y1],[vI r.1.Next],[y2],[y3],enc r.1.Head]).toArray),vI r.2.1,vI r.2.2].toArray) ∧ Fr w0 w' [osl NoB (r.1.Keys : List (Vector UInt8 16)) y1,osl NoB (r.1.Records : List GRecord) y2,osl NoB (r.1.Events : List GEvent) y3] ∧ Kept (Old w0) w0 w')):=by
 refine ce Tryz.func30 ?_
 intro a hE
 have hM:=M.start w0
 unfold UT at hF
 refine Zb (ZO (cs:=cat [[v0_1],[vI p0.Next],[v0_2],[v0_3],enc p0.Head]) hE hM Za ld rfl rfl fun b1 w a hM hE=>ZO (cs:=enc p3) hE hM Za ld rfl rfl fun b3 w a hM hE=>Zz hE hM Ys fun b5 w a hM hE=>Zc hE rfl fun a hE=>Zc hE rfl fun a hE=>Ze (wp_seq (wp_block (Zb (Zn hE rfl Ys rfl hM.rawAt2 cq ?_))))); intro a hE
 obtain ⟨r7,e8,hF⟩:=bind_some hF
 refine Zv hE rfl (cbm Tryz.func79) (jt _ p0 v0_1 (hM.rdo hv0_1) v0_2 (hM.rdo hv0_2) v0_3 (hM.rdo hv0_3) r7 e8) ?_
 rintro v w a ⟨rfl,hK⟩ hE
 have hM:=hM.keep hK
 refine Qo hE rfl fun a hE=>Zc hE rfl fun a hE=>Ze ?_
 refine Zq hE rfl ?_ ?_
 ·intro hb9
  have hF:=Zx hF hb9
  refine Zb (Y8 (parts:=[]) (vs:=[]) (cs:=cat [[(Value.slice none 0 0)],[vI 0],[(Value.slice none 0 0)],[(Value.slice none 0 0)],enc (Vector.replicate 32 (0 : UInt8))]) hE Za ld rfl rfl Ys yb Wu fun a hE=>Zl (seg:=cat [[(Value.slice none 0 0)],[vI 0],[(Value.slice none 0 0)],[(Value.slice none 0 0)],enc (Vector.replicate 32 (0 : UInt8))]) (cs':=cat [[(Value.slice none 0 0)],[vI 0],[(Value.slice none 0 0)],[(Value.slice none 0 0)],enc (Vector.replicate 32 (0 : UInt8))]) hE hM Za rfl rfl rfl Ys cq (Nat.le_of_eq ((Nat.zero_add _).trans (Eq.trans cq (Eq.symm cq)))) (ZZ (cc1 Xd (cc1 (Flat.cell (0 : Int)) (cc1 Xd (cc1 Xd (cc1 (Flat.cell _) cc0)))))) (Zi (Eq.trans cq (Eq.symm cq))) fun w a hM hE=>Zc hE rfl fun a hE=>Zc hE rfl fun a hE=>Ze ?_)
  have hM:=M.nilS (α:=GEvent) NoB noB (M.nilS (α:=GRecord) NoB noB (M.nilS (α:=(Vector UInt8 16)) NoB noB hM))
  obtain rfl:=Option.some.inj hF
  have hq13 : Yl Tryz.prog _ _ (.cell 8 58) _:=ZI hE rfl Ys rfl hM.rawAt3 cq rfl
  have hM:=M.fst (l:=[_,_,_]) hM.pull1.pull2
  exact wp_ret (Ym (Zs (KF hE rfl hq13 (ZQ hE rfl) (ZQ hE rfl) ⟨_,rfl,(Value.slice none 0 0),(Value.slice none 0 0),(Value.slice none 0 0),rfl,hM.outF (Z8 (Z8 (Z8 YR))),hM.kept⟩)))
 ·intro hb9
  have hF:=Zw hF hb9
  obtain ⟨j14,hl15,hF16⟩:=bind_some hF
  refine ZM (fun a w=>Env 89 a [(1,v1_1),(2,v2_1),(4,(ptr b1 0)),(7,(ptr b3 0)),(8,(ptr b5 0)),(18,vT j14)] ∧ M (Old w0) w0 w [raw b5 (cat [[(Value.slice none 0 0)],[vI 0],[(Value.slice none 0 0)],[(Value.slice none 0 0)],enc (Vector.replicate 32 (0 : UInt8))]),raw b3 (enc p3),raw b1 (cat [[v0_1],[vI p0.Next],[v0_2],[v0_3],enc p0.Head])]) ?_ ?_
  ·skip
   refine wp_region_lit (Zd hE rfl fun a hE=>Z9 hE rfl Tryz.underlying40 (hM.rd hv1_1) fun a hE=>Zh hE rfl rfl rfl fun a hE=>Zd hE rfl ?_); intro a hE
   refine Y0 (decide ((p1.length : Int) > 32)) (fun hb17=>?_) (fun hb17=>?_)
   ·have hl15:=Zx hl15 hb17
    refine Zm hE rfl (lkb rfl hb17) rfl (by decide) fun a hE=>Zm hE rfl (lkb rfl hb17) rfl (by decide) fun a hE=>Zm hE rfl (lkb rfl hb17) rfl (by decide) fun a hE=>ZW hE (lkb rfl hb17) rfl fun a hE=>Zc hE rfl fun a hE=>Zg ?_
    obtain rfl:=Option.some.inj hl15
    refine Zj ?_
    exact ⟨hE.sub ⟨rfl,rfl,rfl,rfl,rfl,rfl,trivial⟩,hM⟩
   ·have hl15:=Zw hl15 hb17
    refine Zu hE (Zo hE rfl (lkb rfl hb17)) (by decide) rfl fun a hE=>Qz hE (Zo hE rfl (lkb rfl hb17)) (by decide) rfl Tryz.underlying40 (hM.rd hv2_1) fun a hE=>Yb hE (Zo hE rfl (lkb rfl hb17)) (by decide) rfl rfl rfl fun a hE=>YV hE (lkb rfl hb17) rfl fun a hE=>Zc hE rfl fun a hE=>Zg ?_
    obtain rfl:=Option.some.inj hl15
    refine Zj ?_
    exact ⟨hE.sub ⟨rfl,rfl,rfl,rfl,rfl,rfl,trivial⟩,hM⟩
  ·skip
   rintro a w ⟨hE,hM⟩
   refine Zq hE rfl ?_ ?_
   ·intro hb20
    have hF16:=Zx hF16 hb20
    refine Zb (Y8 (parts:=[]) (vs:=[]) (cs:=cat [[(Value.slice none 0 0)],[vI 0],[(Value.slice none 0 0)],[(Value.slice none 0 0)],enc (Vector.replicate 32 (0 : UInt8))]) hE Za ld rfl rfl Ys yb Wu fun a hE=>Zl (seg:=cat [[(Value.slice none 0 0)],[vI 0],[(Value.slice none 0 0)],[(Value.slice none 0 0)],enc (Vector.replicate 32 (0 : UInt8))]) (cs':=cat [[(Value.slice none 0 0)],[vI 0],[(Value.slice none 0 0)],[(Value.slice none 0 0)],enc (Vector.replicate 32 (0 : UInt8))]) hE hM Za rfl rfl rfl Ys cq (Nat.le_of_eq ((Nat.zero_add _).trans (Eq.trans cq (Eq.symm cq)))) (ZZ (cc1 Xd (cc1 (Flat.cell (0 : Int)) (cc1 Xd (cc1 Xd (cc1 (Flat.cell _) cc0)))))) (Zi (Eq.trans cq (Eq.symm cq))) fun w a hM hE=>Zc hE rfl fun a hE=>Zc hE rfl fun a hE=>Ze ?_)
    have hM:=M.nilS (α:=GEvent) NoB noB (M.nilS (α:=GRecord) NoB noB (M.nilS (α:=(Vector UInt8 16)) NoB noB hM))
    obtain rfl:=Option.some.inj hF16
    have hq24 : Yl Tryz.prog _ _ (.cell 8 58) _:=ZI hE rfl Ys rfl hM.rawAt3 cq rfl
    have hM:=M.fst (l:=[_,_,_]) hM.pull1.pull2
    exact wp_ret (Ym (Zs (KF hE rfl hq24 (ZQ hE rfl) (ZQ hE rfl) ⟨_,rfl,(Value.slice none 0 0),(Value.slice none 0 0),(Value.slice none 0 0),rfl,hM.outF (Z8 (Z8 (Z8 YR))),hM.kept⟩)))
   ·intro hb20
    have hF16:=Zw hF16 hb20
    refine Zb (Zn hE rfl Ys rfl hM.rawAt2 cq fun a hE=>Zn hE rfl ZD rfl hM.rawAt1 (Flat.len _) ?_); intro a hE
    obtain ⟨r25,e26,hF16⟩:=bind_some hF16
    refine Zv hE rfl (cbm Tryz.func100) (zJ _ p0 v0_1 (hM.rdo hv0_1) v0_2 (hM.rdo hv0_2) v0_3 (hM.rdo hv0_3) p3 r25 e26) ?_
    rintro v w a ⟨rfl,hK⟩ hE
    have hM:=hM.keep hK
    refine Zc hE rfl fun a hE=>Ze ?_
    refine Zq hE rfl ?_ ?_
    ·intro hb27
     have hF16:=Zx hF16 hb27
     refine Zb (Y8 (parts:=[]) (vs:=[]) (cs:=cat [[(Value.slice none 0 0)],[vI 0],[(Value.slice none 0 0)],[(Value.slice none 0 0)],enc (Vector.replicate 32 (0 : UInt8))]) hE Za ld rfl rfl Ys yb Wu fun a hE=>Zl (seg:=cat [[(Value.slice none 0 0)],[vI 0],[(Value.slice none 0 0)],[(Value.slice none 0 0)],enc (Vector.replicate 32 (0 : UInt8))]) (cs':=cat [[(Value.slice none 0 0)],[vI 0],[(Value.slice none 0 0)],[(Value.slice none 0 0)],enc (Vector.replicate 32 (0 : UInt8))]) hE hM Za rfl rfl rfl Ys cq (Nat.le_of_eq ((Nat.zero_add _).trans (Eq.trans cq (Eq.symm cq)))) (ZZ (cc1 Xd (cc1 (Flat.cell (0 : Int)) (cc1 Xd (cc1 Xd (cc1 (Flat.cell _) cc0)))))) (Zi (Eq.trans cq (Eq.symm cq))) fun w a hM hE=>Zc hE rfl fun a hE=>Zc hE rfl fun a hE=>Ze ?_)
     have hM:=M.nilS (α:=GEvent) NoB noB (M.nilS (α:=GRecord) NoB noB (M.nilS (α:=(Vector UInt8 16)) NoB noB hM))
     obtain rfl:=Option.some.inj hF16
     have hq31 : Yl Tryz.prog _ _ (.cell 8 58) _:=ZI hE rfl Ys rfl hM.rawAt3 cq rfl
     have hM:=M.fst (l:=[_,_,_]) hM.pull1.pull2
     exact wp_ret (Ym (Zs (KF hE rfl hq31 (ZQ hE rfl) (ZQ hE rfl) ⟨_,rfl,(Value.slice none 0 0),(Value.slice none 0 0),(Value.slice none 0 0),rfl,hM.outF (Z8 (Z8 (Z8 YR))),hM.kept⟩)))
    ·intro hb27
     have hF16:=Zw hF16 hb27
     obtain ⟨j32,hl33,hF34⟩:=bind_some hF16
     refine ZM (fun a w=>Env 89 a [(1,v1_1),(2,v2_1),(4,(ptr b1 0)),(7,(ptr b3 0)),(8,(ptr b5 0)),(33,vT j32)] ∧ M (Old w0) w0 w [raw b5 (cat [[(Value.slice none 0 0)],[vI 0],[(Value.slice none 0 0)],[(Value.slice none 0 0)],enc (Vector.replicate 32 (0 : UInt8))]),raw b3 (enc p3),raw b1 (cat [[v0_1],[vI p0.Next],[v0_2],[v0_3],enc p0.Head])]) ?_ ?_
     ·skip
      refine wp_region_lit (Zf hE rfl (XO) fun a hE=>Zy (v:=v0_2) hE rfl Qr rfl (At.cat (pre:=[[v0_1],[vI p0.Next]]) hM.rawAt2 ck) fun a hE=>Z9 hE rfl Tryz.underlying55 (hM.rd hv0_2) fun a hE=>Zh hE rfl rfl rfl fun a hE=>Zd hE rfl ?_); intro a hE
      refine Y0 ((p0.Records.length : Int) == 12) (fun hb35=>?_) (fun hb35=>?_)
      ·have hl33:=Zx hl33 hb35
       refine Zm hE rfl (lkb rfl hb35) rfl (by decide) fun a hE=>Zm hE rfl (lkb rfl hb35) rfl (by decide) fun a hE=>Zm hE rfl (lkb rfl hb35) rfl (by decide) fun a hE=>Zm hE rfl (lkb rfl hb35) rfl (by decide) fun a hE=>ZW hE (lkb rfl hb35) rfl fun a hE=>Zd hE rfl fun a hE=>Zm hE rfl rfl rfl (by decide) fun a hE=>Zm hE rfl rfl rfl (by decide) fun a hE=>Zm hE rfl rfl rfl (by decide) fun a hE=>ZW hE rfl rfl fun a hE=>Zc hE rfl fun a hE=>Zg ?_
       obtain rfl:=Option.some.inj hl33
       refine Zj ?_
       exact ⟨hE.sub ⟨rfl,rfl,rfl,rfl,rfl,rfl,trivial⟩,hM⟩
      ·have hl33:=Zw hl33 hb35
       refine Zk hE (Zo hE rfl (lkb rfl hb35)) (by decide) rfl (Ur) fun a hE=>ZN (v:=v0_3) hE (Zo hE rfl (lkb rfl hb35)) (by decide) rfl KD rfl (At.cat (pre:=[[v0_1],[vI p0.Next],[v0_2]]) hM.rawAt2 ck) fun a hE=>Qz hE (Zo hE rfl (lkb rfl hb35)) (by decide) rfl Tryz.underlying56 (hM.rd hv0_3) fun a hE=>Yb hE (Zo hE rfl (lkb rfl hb35)) (by decide) rfl rfl rfl fun a hE=>YV hE (lkb rfl hb35) rfl fun a hE=>Zd hE rfl ?_; intro a hE
       refine Y0 ((p0.Events.length : Int) == 60) (fun hb37=>?_) (fun hb37=>?_)
       ·have hl33:=Zx hl33 hb37
        refine Zm hE rfl (lkb rfl hb37) rfl (by decide) fun a hE=>Zm hE rfl (lkb rfl hb37) rfl (by decide) fun a hE=>Zm hE rfl (lkb rfl hb37) rfl (by decide) fun a hE=>ZW hE (lkb rfl hb37) rfl fun a hE=>Zc hE rfl fun a hE=>Zg ?_
        obtain rfl:=Option.some.inj hl33
        refine Zj ?_
        exact ⟨hE.sub ⟨rfl,rfl,rfl,rfl,rfl,rfl,trivial⟩,hM⟩
       ·have hl33:=Zw hl33 hb37
        refine Zk hE (Zo hE rfl (lkb rfl hb37)) (by decide) rfl (UM) fun a hE=>ZN (v:=(vI p0.Next)) hE (Zo hE rfl (lkb rfl hb37)) (by decide) rfl ty2 rfl (At.cat (pre:=[[v0_1]]) hM.rawAt2 ck) fun a hE=>Yb hE (Zo hE rfl (lkb rfl hb37)) (by decide) rfl rfl rfl fun a hE=>YV hE (lkb rfl hb37) rfl fun a hE=>Zc hE rfl fun a hE=>Zg ?_
        obtain rfl:=Option.some.inj hl33
        refine Zj ?_
        exact ⟨hE.sub ⟨rfl,rfl,rfl,rfl,rfl,rfl,trivial⟩,hM⟩
     ·skip
      rintro a w ⟨hE,hM⟩
      refine Zq hE rfl ?_ ?_
      ·intro hb40
       have hF34:=Zx hF34 hb40
       refine Zb (Y8 (parts:=[]) (vs:=[]) (cs:=cat [[(Value.slice none 0 0)],[vI 0],[(Value.slice none 0 0)],[(Value.slice none 0 0)],enc (Vector.replicate 32 (0 : UInt8))]) hE Za ld rfl rfl Ys yb Wu fun a hE=>Zl (seg:=cat [[(Value.slice none 0 0)],[vI 0],[(Value.slice none 0 0)],[(Value.slice none 0 0)],enc (Vector.replicate 32 (0 : UInt8))]) (cs':=cat [[(Value.slice none 0 0)],[vI 0],[(Value.slice none 0 0)],[(Value.slice none 0 0)],enc (Vector.replicate 32 (0 : UInt8))]) hE hM Za rfl rfl rfl Ys cq (Nat.le_of_eq ((Nat.zero_add _).trans (Eq.trans cq (Eq.symm cq)))) (ZZ (cc1 Xd (cc1 (Flat.cell (0 : Int)) (cc1 Xd (cc1 Xd (cc1 (Flat.cell _) cc0)))))) (Zi (Eq.trans cq (Eq.symm cq))) fun w a hM hE=>Zc hE rfl fun a hE=>Zc hE rfl fun a hE=>Ze ?_)
       have hM:=M.nilS (α:=GEvent) NoB noB (M.nilS (α:=GRecord) NoB noB (M.nilS (α:=(Vector UInt8 16)) NoB noB hM))
       obtain rfl:=Option.some.inj hF34
       have hq44 : Yl Tryz.prog _ _ (.cell 8 58) _:=ZI hE rfl Ys rfl hM.rawAt3 cq rfl
       have hM:=M.fst (l:=[_,_,_]) hM.pull1.pull2
       exact wp_ret (Ym (Zs (KF hE rfl hq44 (ZQ hE rfl) (ZQ hE rfl) ⟨_,rfl,(Value.slice none 0 0),(Value.slice none 0 0),(Value.slice none 0 0),rfl,hM.outF (Z8 (Z8 (Z8 YR))),hM.kept⟩)))
      ·intro hb40
       have hF34:=Zw hF34 hb40
       refine wp_skip (Yc (Zt (Zb (Zn hE rfl Ys rfl hM.rawAt2 cq ?_)))); intro a hE
       obtain ⟨r45,e46,hF34⟩:=bind_some hF34
       refine Zv hE rfl (cbm Tryz.func81) (zS _ p0 v0_1 (hM.rdo hv0_1) v0_2 (hM.rdo hv0_2) v0_3 (hM.rdo hv0_3) r45 e46) ?_
       rintro v w a ⟨u47,u48,u49,rfl,hFr,hK⟩ hE
       have hM:=hM.add hK hFr
       refine Zz hE hM Ys fun b50 w a hM hE=>Zl (seg:=cat [[u47],[vI r45.Next],[u48],[u49],enc r45.Head]) (cs':=cat [[u47],[vI r45.Next],[u48],[u49],enc r45.Head]) hE hM Za rfl rfl rfl Ys cq (Nat.le_of_eq ((Nat.zero_add _).trans (Eq.trans cq (Eq.symm cq)))) (ZZ (cc1 (Rep.cell (hM.sl (pre:=[_]) noB)) (cc1 (Flat.cell (r45.Next : Int)) (cc1 (Rep.cell (hM.sl (pre:=[_,_]) noB)) (cc1 (Rep.cell (hM.sl (pre:=[_,_,_]) noB)) (cc1 (Flat.cell _) cc0)))))) (Zi (Eq.trans cq (Eq.symm cq))) fun w a hM hE=>Ze (wp_seq ?_)
       obtain ⟨r53,e54,hF34⟩:=bind_some hF34
       refine YA (its:=[raw b50 (cat [[u47],[vI r45.Next],[u48],[u49],enc r45.Head]),osl NoB (r45.Keys : List (Vector UInt8 16)) u47,osl NoB (r45.Records : List GRecord) u48,osl NoB (r45.Events : List GEvent) u49,raw b5 (cat [[(Value.slice none 0 0)],[vI 0],[(Value.slice none 0 0)],[(Value.slice none 0 0)],enc (Vector.replicate 32 (0 : UInt8))]),raw b3 (enc p3),raw b1 (cat [[v0_1],[vI p0.Next],[v0_2],[v0_3],enc p0.Head])]) (mk:=([mkO 8 (fun v=>osl NoB (r53 : List UInt8) v),mkO 10 (fun v=>Wx v (cat [[vI 0],[vI 0],enc (Vector.replicate 16 (0 : UInt8)),[(Value.slice none 0 0)],[(Value.slice none 0 0)],enc (Vector.replicate 32 (0 : UInt8))]))] : Mk)) [52,53,54,55,56,57,58,59,60,61,12] YL rfl rfl (by decide) rfl hE (fun u=>M.qE (M.qE (M.q0 hM.drew u) emO) emO) (qsP (fun z=>Zk z.E Za ld rfl (UM) (kr0 rfl)) (qsP (v:=(vI p0.Next)) ?_ (qsP (fun z=>Zk z.E Za ld rfl (WX) (kr0 rfl)) (qsP (v:=v0_1) ?_ (qsP (v:=(vI (p0.Keys.length : Int))) ?_ (qsP (v:=(vI (wr ((p0.Keys.length : Int) - 1)))) (fun z=>Yb z.E Za ld rfl rfl rfl (kr0 rfl)) (qsP (v:=(Value.agg (enc p3).toArray)) ?_ (qsP (fun z=>Zu z.E Za ld rfl (kr0 rfl)) (qsM (pr:=fun v=>True) ?_ (qsD (ds:=[8]) (f:=fun us=>(Value.agg (cat [[vI p0.Next],[(vI (wr ((p0.Keys.length : Int) - 1)))],enc p3,[(us.getD 0 undef)],[(Value.slice none 0 0)],enc (Vector.replicate 32 (0 : UInt8))]).toArray)) ?_ (qsM (pr:=fun v=>True) ?_ qs0))))))))))) ?_
       ·intro a w ux52 D z
        have hE:=z.E
        have hM:=z.M
        exact Zy (v:=(vI p0.Next)) hE rfl ty2 rfl (At.cat (pre:=[[v0_1]]) hM.rawAt6 ck) fun a hE=>⟨Kept.refl _ _,_,rfl,hE⟩
       ·intro a w ux52 D z
        have hE:=z.E
        have hM:=z.M
        exact Zy (v:=v0_1) hE rfl QR rfl (At.cat (pre:=[]) hM.rawAt6 cl0) fun a hE=>⟨Kept.refl _ _,_,rfl,hE⟩
       ·intro a w ux52 D z
        have hE:=z.E
        have hM:=z.M
        exact Z9 hE rfl Tryz.underlying54 (hM.rd hv0_1) fun a hE=>⟨Kept.refl _ _,_,rfl,hE⟩
       ·intro a w ux52 D z
        have hE:=z.E
        have hM:=z.M
        exact Zn hE rfl ZD rfl hM.rawAt5 (Flat.len _) fun a hE=>⟨Kept.refl _ _,_,rfl,hE⟩
       ·intro a w ux52 D z
        have hE:=z.E
        have hD : D 8 = false:=z.F
        have hM0:=z.M
        have hM:=z.M
        refine Zv hE rfl cb65 (TC _ p1 v1_1 (hM.rdo hv1_1) r53 e54) ?_
        rintro _ w a ⟨_,rfl,hFr,hK⟩ hE
        have hM:=hM0.add hK hFr
        exact ⟨_,_,rfl,hE,M.qFill (mk1:=[]) (mk2:=[_]) (f:=(fun v=>osl NoB (r53 : List UInt8) v)) hM rfl hD,trivial⟩
       ·intro a w ux52 D z
        have hE:=z.E
        have d8 : D 8 = true:=z.p 3 _ rfl rfl
        have hM:=z.M.sure (pre:=[_,_,_,_,_,_,_]) d8
        exact Y8 (parts:=[(0,.tmp 53),(1,.tmp 57),(2,.tmp 58),(3,.tmp 60)]) (vs:=[(0,vI p0.Next),(1,(vI (wr ((p0.Keys.length : Int) - 1)))),(2,(Value.agg (enc p3).toArray)),(3,(ux52 8))]) (cs:=cat [[vI p0.Next],[(vI (wr ((p0.Keys.length : Int) - 1)))],enc p3,[(ux52 8)],[(Value.slice none 0 0)],enc (Vector.replicate 32 (0 : UInt8))]) hE Za ld rfl rfl Z6 pl127 (Z5 (pre:=[]) (seg:=[vI 0]) (seg':=[vI p0.Next]) (post:=[[vI 0],enc (Vector.replicate 16 (0 : UInt8)),[(Value.slice none 0 0)],[(Value.slice none 0 0)],enc (Vector.replicate 32 (0 : UInt8))]) rfl cl0 rfl rfl rfl (Z5 (pre:=[[vI p0.Next]]) (seg:=[vI 0]) (seg':=[(vI (wr ((p0.Keys.length : Int) - 1)))]) (post:=[enc (Vector.replicate 16 (0 : UInt8)),[(Value.slice none 0 0)],[(Value.slice none 0 0)],enc (Vector.replicate 32 (0 : UInt8))]) rfl ck rfl rfl rfl (Z5 (pre:=[[vI p0.Next],[(vI (wr ((p0.Keys.length : Int) - 1)))]]) (seg:=enc (Vector.replicate 16 (0 : UInt8))) (seg':=enc p3) (post:=[[(Value.slice none 0 0)],[(Value.slice none 0 0)],enc (Vector.replicate 32 (0 : UInt8))]) rfl ck (Flat.len _) (Flat.len _) rfl (Z5 (pre:=[[vI p0.Next],[(vI (wr ((p0.Keys.length : Int) - 1)))],enc p3]) (seg:=[(Value.slice none 0 0)]) (seg':=[(ux52 8)]) (post:=[[(Value.slice none 0 0)],enc (Vector.replicate 32 (0 : UInt8))]) rfl ck rfl rfl (ZX (hM.sl (pre:=[_,_,_,_,_,_,_]) noB)) Wu)))) fun a hE=>⟨Kept.refl _ _,(BS d8 zk),_,rfl,hE⟩
       ·intro a w ux52 D z
        have hE:=z.E
        have hD : D 10 = false:=z.F
        have hM:=z.M
        refine Zz hE hM Z6 ?_; intro b56 w a hM hE
        have hM:=hM.pack1 (it:=Wx _ (cat [[vI 0],[vI 0],enc (Vector.replicate 16 (0 : UInt8)),[(Value.slice none 0 0)],[(Value.slice none 0 0)],enc (Vector.replicate 32 (0 : UInt8))])) (fun w w' fp ⟨b',e,k⟩ hb=>⟨b',e,YF w w' fp k hb⟩) (fun fp k=>⟨_,rfl,k⟩)
        exact ⟨_,_,rfl,hE,M.qFill (mk1:=[_]) (mk2:=[]) (f:=fun v=>Wx v (cat [[vI 0],[vI 0],enc (Vector.replicate 16 (0 : UInt8)),[(Value.slice none 0 0)],[(Value.slice none 0 0)],enc (Vector.replicate 32 (0 : UInt8))])) hM rfl hD,trivial⟩
       ·intro a w ux52 D hE hM hG hall
        have d8:=hall 8 (by decide)
        have d10:=hall 10 (by decide)
        have hM:=((hM.sure (pre:=[_,_,_,_,_,_,_]) d8).sure (pre:=[_,_,_,_,_,_,_,_]) d10).pull
        obtain ⟨_,⟨b58,f59,_⟩,_⟩:=hM.head
        have hM:=hM.pack1 YF (it:=raw b58 (cat [[vI 0],[vI 0],enc (Vector.replicate 16 (0 : UInt8)),[(Value.slice none 0 0)],[(Value.slice none 0 0)],enc (Vector.replicate 32 (0 : UInt8))])) (fun fp ⟨b2,e2,k2⟩=>by rw [f59] at e2; simp [ptr] at e2; subst e2; exact k2)
        have hE:=hE.setq (t:=12) rfl f59
        refine Zl (seg:=cat [[vI p0.Next],[(vI (wr ((p0.Keys.length : Int) - 1)))],enc p3,[(ux52 8)],[(Value.slice none 0 0)],enc (Vector.replicate 32 (0 : UInt8))]) (cs':=cat [[vI p0.Next],[(vI (wr ((p0.Keys.length : Int) - 1)))],enc p3,[(ux52 8)],[(Value.slice none 0 0)],enc (Vector.replicate 32 (0 : UInt8))]) hE hM Za rfl rfl rfl Z6 cq (Nat.le_of_eq ((Nat.zero_add _).trans (Eq.trans cq (Eq.symm cq)))) (ZZ (cc1 (Flat.cell (p0.Next : Int)) (cc1 (Flat.cell (wr ((p0.Keys.length : Int) - 1) : Int)) (cc1 (Flat.cell _) (cc1 (Rep.cell (hM.sl (pre:=[_,_,_,_,_,_,_,_]) noB)) (cc1 Xd (cc1 (Flat.cell _) cc0))))))) (Zi (Eq.trans cq (Eq.symm cq))) fun w a hM hE=>Zg (Zt (Zb (Zn hE rfl Ys rfl hM.rawAt7 cq fun a hE=>Zn hE rfl Z6 rfl hM.rawAt0 cq fun a hE=>Zd hE rfl ?_))); intro a hE
        obtain ⟨r60,e61,hF34⟩:=bind_some hF34
        refine Zv hE rfl (cbm Tryz.func101) (Bu _ p0 v0_1 (hM.rdo hv0_1) v0_2 (hM.rdo hv0_2) v0_3 (hM.rdo hv0_3) (⟨p0.Next,wr ((p0.Keys.length : Int) - 1),p3,r53,[],(Vector.replicate 32 (0 : UInt8))⟩ : GRecord) (ux52 8) (hM.sl (pre:=[_,_,_,_,_,_,_,_]) noB) (Value.slice none 0 0) ro_nil p2 v2_1 (hM.rdo hv2_1) r60 e61) ?_
        rintro u62 w a ⟨_,rfl,hFr,hK⟩ hE
        have hM:=hM.add hK hFr
        refine Zf hE rfl (UH) ?_; intro a hE
        have hM:=hM.pull1
        refine Zl (seg:=[u62]) hE hM Za rfl rfl (ZX (hM.sl (pre:=[_]) noB)) WU rfl (YH (pre:=[[vI p0.Next],[(vI (wr ((p0.Keys.length : Int) - 1)))],enc p3,[(ux52 8)]]) ck rfl) (Rep.cell (hM.sl (pre:=[_]) noB)) (ZP (pre:=[[vI p0.Next],[(vI (wr ((p0.Keys.length : Int) - 1)))],enc p3,[(ux52 8)]]) ck rfl) fun w a hM hE=>Ze (Zb (Zn hE rfl Ys rfl hM.rawAt8 cq fun a hE=>Zn hE rfl Z6 rfl hM.rawAt0 cq ?_)); intro a hE
        obtain ⟨r63,e64,hF34⟩:=bind_some hF34
        refine Zv hE rfl (cbm Tryz.func102) (zT _ p0 v0_1 (hM.rdo hv0_1) v0_2 (hM.rdo hv0_2) v0_3 (hM.rdo hv0_3) (⟨p0.Next,wr ((p0.Keys.length : Int) - 1),p3,r53,r60,(Vector.replicate 32 (0 : UInt8))⟩ : GRecord) (ux52 8) (hM.sl (pre:=[_,_,_,_,_,_,_,_,_]) noB) u62 (hM.sl (pre:=[_]) noB) r63 e64) ?_
        rintro v w a ⟨rfl,hK⟩ hE
        have hM:=hM.keep hK
        refine Zf hE rfl (Kc) fun a hE=>Zl (seg:=enc r63) hE hM Za rfl rfl rfl Yh (Flat.len _) (YH (pre:=[[vI p0.Next],[(vI (wr ((p0.Keys.length : Int) - 1)))],enc p3,[(ux52 8)],[u62]]) ck flq) (Flat.cell _) (ZP (pre:=[[vI p0.Next],[(vI (wr ((p0.Keys.length : Int) - 1)))],enc p3,[(ux52 8)],[u62]]) ck flq) fun w a hM hE=>Ze (Zb (Zf hE rfl (XO) fun a hE=>Zy (v:=u48) hE rfl Qr rfl (At.cat (pre:=[[u47],[vI r45.Next]]) hM.rawAt2 ck) fun a hE=>Zn hE rfl Z6 rfl hM.rawAt0 cq ?_)); intro a hE
        have hM:=hM.pull1.pull9
        have hM:=hM.pack2 (it:=own NoB (⟨p0.Next,wr ((p0.Keys.length : Int) - 1),p3,r53,r60,r63⟩ : GRecord) (cat [[vI p0.Next],[(vI (wr ((p0.Keys.length : Int) - 1)))],enc p3,[(ux52 8)],[u62],enc r63])) (Xt noB) (fun f0 f1 q0 q1=>(X9 (X2.sat q0) (X2.sat q1) (by simp)))
        refine Be (xs:=[.tmp 73]) (seg:=cat [[vI p0.Next],[(vI (wr ((p0.Keys.length : Int) - 1)))],enc p3,[(ux52 8)],[u62],enc r63]) hE hM noB Za ld rfl rfl Tryz.underlying55 Z6 rfl (by decide) ?_; intro u65 w a hM hE
        obtain ⟨l67,e68,hF34⟩:=bind_some hF34
        obtain ⟨e71,rfl⟩:=ZY e68
        have hM:=hM.pull4
        refine JS hE hM noB Za ld rfl rfl Tryz.underlying55 Z6 rfl (by decide) e71 fun u69 w a hM hE=>Zf hE rfl (XO) ?_; intro a hE
        have hM:=hM.pull2
        refine Zl (seg:=[u69]) hE hM Za rfl rfl (ZX (hM.sl (pre:=[_]) noB)) Qr rfl (YH (pre:=[[u47],[vI r45.Next]]) ck rfl) (Rep.cell (hM.sl (pre:=[_]) noB)) (ZP (pre:=[[u47],[vI r45.Next]]) ck rfl) fun w a hM hE=>Ze (Zb (Zf hE rfl (UM) fun a hE=>Zy (v:=(vI r45.Next)) hE rfl ty2 rfl (At.cat (pre:=[[u47]]) hM.rawAt0 ck) fun a hE=>Zh hE rfl rfl rfl fun a hE=>Zf hE rfl (UM) fun a hE=>Zl (seg:=[(vI (wr (r45.Next + 1)))]) hE hM Za rfl rfl rfl ty2 rfl (YH (pre:=[[u47]]) ck rfl) (Flat.cell (wr (r45.Next + 1) : Int)) (ZP (pre:=[[u47]]) ck rfl) fun w a hM hE=>Ze ?_))
        obtain ⟨j72,hl73,hF74⟩:=bind_some hF34
        refine ZM (fun a w=>∃ (u75 : Value) (u77 : Value) (u79 : Value),Env 89 a [(8,(ptr b5 0)),(9,vI j72.2.2.2.2.2.2),(10,vI j72.2.2.2.2.2.1)] ∧ M (Old w0) w0 w [raw b5 (cat [[u75],[vI j72.2.1],[u77],[u79],enc j72.2.2.2.2.1]),osl NoB (j72.1 : List (Vector UInt8 16)) u75,osl NoB (j72.2.2.1 : List GRecord) u77,osl NoB (j72.2.2.2.1 : List GEvent) u79]) ?_ ?_
        ·skip
         have hM:=hM.pull5.pull5.pull3.pull5
         have hM:=hM.packL (m:=[_,_,_]) (it:=zd NoB [_,_,_]) (kC.mono noB) (fun fp h=>Xj.reloc h (Z8 (Z8 (Z8 YR))))
         obtain ⟨r83,e84,hl73⟩:=bind_some hl73
         refine YA (its:=[raw b50 (cat [[u47],[(vI (wr (r45.Next + 1)))],[u69],[u49],enc r45.Head]),raw b58 (cat [[vI p0.Next],[(vI (wr ((p0.Keys.length : Int) - 1)))],enc p3,[(ux52 8)],[u62],enc r63]),raw b3 (enc p3),raw b1 (cat [[v0_1],[vI p0.Next],[v0_2],[v0_3],enc p0.Head])]) (mk:=([mkW 8 5 b5 (cat [[(Value.slice none 0 0)],[vI 0],[(Value.slice none 0 0)],[(Value.slice none 0 0)],enc (Vector.replicate 32 (0 : UInt8))]) (fun v=>(Value.cells v).toList),mkU 5 (zd NoB [osl NoB (r45.Keys : List (Vector UInt8 16)) u47,osl NoB ((r45.Records ++ ([(⟨p0.Next,wr ((p0.Keys.length : Int) - 1),p3,r53,r60,r63⟩ : GRecord)] : List GRecord)) : List GRecord) u69,osl NoB (r45.Events : List GEvent) u49]) (fun v=>own NoB r83 (Value.cells v).toList)] : Mk)) [81,82,83,84,85,86,87,88,97] YL rfl rfl (by decide) rfl hE (fun u=>M.qS (M.qS (M.q0 hM.drew u) fun _=>rfl) fun _=>rfl) (qsP (v:=(Value.agg (cat [[u47],[(vI (wr (r45.Next + 1)))],[u69],[u49],enc r45.Head]).toArray)) ?_ (qsP (fun z=>Zk z.E Za ld rfl (WY) (kr0 rfl)) (qsP (v:=(vI p0.Next)) ?_ (qsP (fun z=>Zk z.E Za ld rfl (Kc) (kr0 rfl)) (qsP (v:=(Value.agg (enc r63).toArray)) ?_ (qsM (pr:=fun v=>∃ cs,v = .agg cs) ?_ (qsP (fun z=>Zk z.E Za ld rfl (WY) (kr0 rfl)) (qsP (v:=(vI p0.Next)) ?_ (qsM (pr:=fun v=>True) ?_ qs0))))))))) ?_
         ·intro a w ux81 D z
          have hE:=z.E
          have hD : D 0 = false:=z.F
          have hM:=z.M.togA (pre:=[_,_,_,_]) (Tm (j:=8) (k:=2) z.c rfl rfl rfl hD)
          exact Zn hE rfl Ys rfl hM.rawAt0 cq fun a hE=>⟨Kept.refl _ _,_,rfl,hE⟩
         ·intro a w ux81 D z
          have hE:=z.E
          have hD : D 2 = false:=z.F
          have hM:=z.M.togA (pre:=[_,_,_,_]) (Tm (j:=8) (k:=4) z.c rfl rfl rfl hD)
          exact Zy (v:=(vI p0.Next)) hE rfl ty2 rfl (At.cat (pre:=[]) hM.rawAt1 cl0) fun a hE=>⟨Kept.refl _ _,_,rfl,hE⟩
         ·intro a w ux81 D z
          have hE:=z.E
          have hD : D 4 = false:=z.F
          have hM:=z.M.togA (pre:=[_,_,_,_]) (Tm (j:=8) (k:=6) z.c rfl rfl rfl hD)
          exact Zn hE rfl Yh rfl (At.cat (pre:=[[vI p0.Next],[(vI (wr ((p0.Keys.length : Int) - 1)))],enc p3,[(ux52 8)],[u62]]) hM.rawAt1 ck) (Flat.len _) fun a hE=>⟨Kept.refl _ _,_,rfl,hE⟩
         ·intro a w ux81 D z
          have hE:=z.E
          have hD : D 5 = false:=z.F
          have hM:=((z.M.togA (pre:=[_,_,_,_]) (Tm (j:=8) (k:=0) z.c rfl rfl rfl hD)).togA (pre:=[_,_,_,_,_]) hD).pull
          have hM:=hM.unpackL (m:=[_,_,_]) (fun fp h=>Xj.mono h (fun _ h=>h.elim))
          simp only [List.cons_append,List.nil_append] at hM
          have hM:=hM.pull2.pull2.pull2
          refine Zv hE rfl (cbm Tryz.func82) (zw _ _ _ _ (⟨r45.Keys,wr (r45.Next + 1),(r45.Records ++ ([(⟨p0.Next,wr ((p0.Keys.length : Int) - 1),p3,r53,r60,r63⟩ : GRecord)] : List GRecord)),r45.Events,r45.Head⟩ : GVault) u47 u69 u49 1 p0.Next r63 hM r83 e84) ?_
          rintro v w a ⟨u85,u86,u87,rfl,hM⟩ hE
          have hM:=TU (x:=r83) hM sio sio sio
          have hsD8 : D 8 = false:=Tm (j:=8) (k:=0) z.c rfl rfl rfl hD
          exact ⟨_,_,rfl,hE,M.qUnconst (p:=mkW 8 5 b5 (cat [[(Value.slice none 0 0)],[vI 0],[(Value.slice none 0 0)],[(Value.slice none 0 0)],enc (Vector.replicate 32 (0 : UInt8))]) (fun v=>(Value.cells v).toList)) (its:=[raw b50 (cat [[u47],[(vI (wr (r45.Next + 1)))],[u69],[u49],enc r45.Head]),raw b58 (cat [[vI p0.Next],[(vI (wr ((p0.Keys.length : Int) - 1)))],enc p3,[(ux52 8)],[u62],enc r63]),raw b3 (enc p3),raw b1 (cat [[v0_1],[vI p0.Next],[v0_2],[v0_3],enc p0.Head])]) (mk1:=([] : Mk)) (mk2:=([mkU 5 (zd NoB [osl NoB (r45.Keys : List (Vector UInt8 16)) u47,osl NoB ((r45.Records ++ ([(⟨p0.Next,wr ((p0.Keys.length : Int) - 1),p3,r53,r60,r63⟩ : GRecord)] : List GRecord)) : List GRecord) u69,osl NoB (r45.Events : List GEvent) u49]) (fun v=>own NoB r83 (Value.cells v).toList)] : Mk)) (M.qTogS (p:=mkU 5 (zd NoB [osl NoB (r45.Keys : List (Vector UInt8 16)) u47,osl NoB ((r45.Records ++ ([(⟨p0.Next,wr ((p0.Keys.length : Int) - 1),p3,r53,r60,r63⟩ : GRecord)] : List GRecord)) : List GRecord) u69,osl NoB (r45.Events : List GEvent) u49]) (fun v=>own NoB r83 (Value.cells v).toList)) (its:=[raw b50 (cat [[u47],[(vI (wr (r45.Next + 1)))],[u69],[u49],enc r45.Head]),raw b58 (cat [[vI p0.Next],[(vI (wr ((p0.Keys.length : Int) - 1)))],enc p3,[(ux52 8)],[u62],enc r63]),raw b3 (enc p3),raw b1 (cat [[v0_1],[vI p0.Next],[v0_2],[v0_3],enc p0.Head])]) (mk1:=([([],fun _ _=>raw b5 (cat [[(Value.slice none 0 0)],[vI 0],[(Value.slice none 0 0)],[(Value.slice none 0 0)],enc (Vector.replicate 32 (0 : UInt8))]))] : Mk)) (mk2:=([] : Mk)) hM rfl Zbs) (qR hsD8),⟨_,rfl⟩⟩
         ·intro a w ux81 D z
          have hE:=z.E
          have hM:=z.M
          exact Zy (v:=(vI p0.Next)) hE rfl ty2 rfl (At.cat (pre:=[]) hM.rawAt1 cl0) fun a hE=>⟨Kept.refl _ _,_,rfl,hE⟩
         ·intro a w ux81 D z
          have hE:=z.E
          have hD : D 8 = false:=z.F
          have d5 : D 5 = true:=z.p 0 _ rfl rfl
          have hM:=(z.M.togB (pre:=[_,_,_,_,_]) d5).togA (pre:=[_,_,_,_]) hD
          obtain ⟨q81_5_0_1,q81_5_0_2,q81_5_0_3,hcz,hq81_5_0_1,hq81_5_0_2,hq81_5_0_3⟩:=XD (hM.ro (pre:=[_,_,_,_,_]) noB)
          have qK88 : (ux81 5) = (Value.agg (cat [[q81_5_0_1],[vI r83.Next],[q81_5_0_2],[q81_5_0_3],enc r83.Head]).toArray):=Jz hcz (z.G 5 (by assumption) _ rfl).2
          have hM:=hM.pull4
          refine Zl (seg:=cat [[q81_5_0_1],[vI r83.Next],[q81_5_0_2],[q81_5_0_3],enc r83.Head]) (cs':=cat [[q81_5_0_1],[vI r83.Next],[q81_5_0_2],[q81_5_0_3],enc r83.Head]) hE hM Za rfl (lk rfl qK88) rfl Ys cq (Nat.le_of_eq ((Nat.zero_add _).trans (Eq.trans cq (Eq.symm cq)))) (ZZ (cc1 (Rep.cell hq81_5_0_1) (cc1 (Flat.cell (r83.Next : Int)) (cc1 (Rep.cell hq81_5_0_2) (cc1 (Rep.cell hq81_5_0_3) (cc1 (Flat.cell _) cc0)))))) (Zi (Eq.trans cq (Eq.symm cq))) ?_; intro w a hM hE
          have hM:=(M.recell hM (show _ = (Value.cells (ux81 5)).toList from by rw [qK88]; rfl)).untogB (pre:=[_,_,_,_,_]) (A:=zd NoB [osl NoB (r45.Keys : List (Vector UInt8 16)) u47,osl NoB ((r45.Records ++ ([(⟨p0.Next,wr ((p0.Keys.length : Int) - 1),p3,r53,r60,r63⟩ : GRecord)] : List GRecord)) : List GRecord) u69,osl NoB (r45.Events : List GEvent) u49]) d5
          exact ⟨undef,_,rfl,Env.dummy hE (by decide),M.qTogS (p:=mkW 8 5 b5 (cat [[(Value.slice none 0 0)],[vI 0],[(Value.slice none 0 0)],[(Value.slice none 0 0)],enc (Vector.replicate 32 (0 : UInt8))]) (fun v=>(Value.cells v).toList)) (its:=[raw b50 (cat [[u47],[(vI (wr (r45.Next + 1)))],[u69],[u49],enc r45.Head]),raw b58 (cat [[vI p0.Next],[(vI (wr ((p0.Keys.length : Int) - 1)))],enc p3,[(ux52 8)],[u62],enc r63]),raw b3 (enc p3),raw b1 (cat [[v0_1],[vI p0.Next],[v0_2],[v0_3],enc p0.Head])]) (mk1:=[]) (mk2:=[_]) hM rfl Zcc,trivial⟩
         ·intro a w ux81 D hE hM hG hall
          have d5:=hall 5 (by decide)
          have d8:=hall 8 (by decide)
          have hM:=(hM.togB (pre:=[_,_,_,_]) d8).togB (pre:=[_,_,_,_,_]) d5
          obtain ⟨q81_5_0_1,q81_5_0_2,q81_5_0_3,hcz,_,_,_⟩:=XD (hM.ro (pre:=[_,_,_,_,_]) noB)
          have qK88 : (ux81 5) = (Value.agg (cat [[q81_5_0_1],[vI r83.Next],[q81_5_0_2],[q81_5_0_3],enc r83.Head]).toArray):=Jz hcz (hG 5 d5 _ rfl).2
          have hM:=hM.pull5
          have hM:=(TS (hM.recown (congrArg (fun v=>(Value.cells v).toList) qK88))).pull7
          have hM:=M.recell (c':=cat [[q81_5_0_1],[vI r83.Next],[q81_5_0_2],[q81_5_0_3],enc r83.Head]) hM (congrArg (fun v=>(Value.cells v).toList) qK88)
          have hE:=hE.setq (t:=86) rfl qK88
          refine Zc hE rfl fun a hE=>Zc hE rfl fun a hE=>Zg ?_
          obtain rfl:=Option.some.inj hl73
          refine Zj ?_
          have hM:=M.fst (l:=[_,_,_,_]) hM.pull1.toOsl0.pull2.toOsl0.pull3.toOsl0.pull1.pull2.pull3
          exact ⟨q81_5_0_1,q81_5_0_2,q81_5_0_3,hE.sub ⟨rfl,rfl,rfl,trivial⟩,hM⟩
        ·skip
         rintro a w ⟨u75,u77,u79,hE,hM⟩
         obtain rfl:=Option.some.inj hF74
         have hq93 : Yl Tryz.prog _ _ (.cell 8 58) _:=ZI hE rfl Ys rfl hM.rawAt0 cq rfl
         have hM:=M.fst (l:=[_,_,_]) hM.pull3.pull3.pull3
         exact wp_ret (KF hE rfl hq93 (ZQ hE rfl) (ZQ hE rfl) ⟨_,rfl,u75,u77,u79,rfl,hM.outF (Z8 (Z8 (Z8 YR))),hM.kept⟩)
def Z2 (p0 : (List (Vector UInt8 16))) : Option (Int) :=
 some (p0.length : Int)
theorem YG (w0 : World) (p0 : (List (Vector UInt8 16))) (v0_1 : Value) (hv0_1 : Ro w0 p0 [v0_1]) (r : Int) (hF : Z2 p0 = some r) :
  Calls Tryz.prog 106 [v0_1].toArray w0 (Rt w0 (vI r)):=by
 refine ce Tryz.func106 ?_
 intro a hE
 have hM:=M.start w0
 unfold Z2 at hF
 refine Zb (Zc hE rfl fun a hE=>Ze (Zb (Zd hE rfl fun a hE=>Z9 hE rfl Tryz.underlying54 (hM.rd hv0_1) fun a hE=>Zc hE rfl fun a hE=>Ze ?_)))
 obtain rfl:=Option.some.inj hF
 exact wp_ret (kr1 hE rfl rfl hM.kept)
def Xp (p0 : Int) (p1 : Int) (p2 : Int) : Option (Bool) :=
 (if (decide (p1 ≤ p0)) = true then (some (decide (p0 ≤ p2))) else (some false) : Option (Bool)).bind fun j1=>some j1
theorem Xr (w0 : World) (p0 : Int) (p1 : Int) (p2 : Int) (r : Bool) (hF : Xp p0 p1 p2 = some r) :
  Calls Tryz.prog 129 [vI p0,vI p1,vI p2].toArray w0 (Rt w0 (vT r)):=by
 refine ce Tryz.func129 ?_
 intro a hE
 have hM:=M.start w0
 unfold Xp at hF
 refine Zb (Zc hE rfl fun a hE=>Ze ?_)
 obtain ⟨j1,hl2,hF3⟩:=bind_some hF
 refine ZM (fun a w=>Env 15 a [(6,vT j1)] ∧ M (Old w0) w0 w []) ?_ ?_
 ·skip
  refine wp_region_lit (Zd hE rfl fun a hE=>Zd hE rfl fun a hE=>Zh hE rfl rfl rfl fun a hE=>Zd hE rfl ?_); intro a hE
  refine Y0 (decide (p1 ≤ p0)) (fun hb4=>?_) (fun hb4=>?_)
  ·have hl2:=Zx hl2 hb4
   refine Zu hE (Zo hE rfl (lkb rfl hb4)) (by decide) rfl fun a hE=>Zu hE (Zo hE rfl (lkb rfl hb4)) (by decide) rfl fun a hE=>Yb hE (Zo hE rfl (lkb rfl hb4)) (by decide) rfl rfl rfl fun a hE=>ZW hE (lkb rfl hb4) rfl fun a hE=>Zc hE rfl fun a hE=>Zg ?_
   obtain rfl:=Option.some.inj hl2
   refine Zj ?_
   exact ⟨hE.sub ⟨rfl,trivial⟩,hM⟩
  ·have hl2:=Zw hl2 hb4
   refine Zm hE rfl (lkb rfl hb4) rfl (by decide) fun a hE=>Zm hE rfl (lkb rfl hb4) rfl (by decide) fun a hE=>Zm hE rfl (lkb rfl hb4) rfl (by decide) fun a hE=>YV hE (lkb rfl hb4) rfl fun a hE=>Zc hE rfl fun a hE=>Zg ?_
   obtain rfl:=Option.some.inj hl2
   refine Zj ?_
   exact ⟨hE.sub ⟨rfl,trivial⟩,hM⟩
 ·skip
  rintro a w ⟨hE,hM⟩
  obtain rfl:=Option.some.inj hF3
  exact wp_ret (kr1 hE rfl rfl hM.kept)
def YU (p0 : (List GEvent)) (p1 : GEvent → Option (Bool)) (s5 : Int) : Option (Fl Int (Fl Unit Int)) :=
 if (decide (s5 < (p0.length : Int))) = true then ((idx p0 s5).bind fun x10=>((p1 x10)).bind fun r13=>if r13 = true then (some (Fl.ex (Fl.ex s5))) else (some (Fl.nx (wr (s5 + 1))))) else (some (Fl.ex (Fl.nx ())))
def Yw (p0 : (List GEvent)) (p1 : GEvent → Option (Bool)) : Option (Int) :=
 (ZB (YU p0 p1) 0).bind fun j1=>j1.el (fun s4=>some (-1)) (fun r=>some r)
theorem Tb (w0 : World) (p0 : (List GEvent)) (v0_1 : Value) (hv0_1 : Ro w0 p0 [v0_1]) (p1 : GEvent → Option (Bool)) (k1 : Nat) (q1 : List Value) (hcb1 : Callable Tryz.prog k1) (hg1 : ∀ (w2 : World),Kept (Old w0) w0 w2 → ∀ (z0 : GEvent) (zr : Bool),p1 z0 = some zr → Calls Tryz.prog k1 ([(Value.agg (enc z0).toArray)] ++ q1).toArray w2 (fun en w3=>∃ v,en = .returned v ∧ (v = (vT zr) ∧ Kept (Old w2) w2 w3))) (r : Int) (hF : Yw p0 p1 = some r) :
  Calls Tryz.prog 192 [v0_1,(Value.func (.func k1) #[] q1.toArray)].toArray w0 (Rt w0 (vI r)):=by
 refine ce Tryz.func192 ?_
 intro a hE
 have hM:=M.start w0
 unfold Yw at hF
 refine Zb (Zc hE rfl fun a hE=>Ze (wp_seq (Zb (Zd hE rfl fun a hE=>Z9 hE rfl Tryz.underlying56 (hM.rd hv0_1) fun a hE=>Zd hE rfl fun a hE=>Ze ?_))))
 obtain ⟨j1,hl2,hF3⟩:=bind_some hF
 refine ZK (fun a w=>∃ s4 : Unit,j1 = Fl.nx s4 ∧ Env 19 a [] ∧ M (Old w0) w0 w []) ?_ ?_
 ·skip
  refine wp_block ?_
  refine ZE (fun (s5 : Int) a w=>Env 19 a [(0,v0_1),(1,(Value.func (.func k1) #[] q1.toArray)),(7,(vI (p0.length : Int))),(8,vI s5)] ∧ M (Old w0) w0 w []) hl2 ⟨hE.sub ⟨rfl,rfl,rfl,rfl,trivial⟩,hM⟩ ?_
  rintro s5 a w ⟨hE,hM⟩ o8 hs6 hx7
  unfold YU at hs6
  refine Zb (Zh hE rfl rfl rfl fun a hE=>Ze (wp_seq ?_))
  refine Zq hE rfl ?_ ?_
  ·intro hb9
   have hs6:=Zx hs6 hb9
   refine wp_skip (Zt (wp_seq (wp_block (Zb (Zd hE rfl fun a hE=>Zc hE rfl fun a hE=>Ze (Zb (Zd hE rfl fun a hE=>Zd hE rfl fun a hE=>Zd hE rfl ?_))))))); intro a hE
   obtain ⟨x10,hi12,hs6⟩:=bix hs6
   refine ZL hE rfl rfl Tryz.underlying56 Xs (hM.rd hv0_1) hi12.1 fun a hE=>Zn hE rfl Xs rfl (Y9 (hM.rd hv0_1) hi12.2) cq ?_; intro a hE
   obtain ⟨r13,e14,hs6⟩:=bind_some hs6
   refine jO (vs:=[(Value.agg (enc x10).toArray)]) hE Za ld rfl rfl hcb1 (hg1 _ hM.kept x10 r13 e14) ?_
   rintro v w a ⟨rfl,hK⟩ hE
   have hM:=hM.keep hK
   refine Ze ?_
   refine Zq hE rfl ?_ ?_
   ·intro hb15
    have hs6:=Zx hs6 hb15
    refine Zb (Zd hE rfl fun a hE=>Zc hE rfl fun a hE=>Ze ?_)
    obtain rfl:=hx7 _ (ois hs6)
    obtain rfl:=Option.some.inj hF3
    exact wp_ret (Ym (Zs (Zs (Ym (Zs (Zs (kr1 hE rfl rfl hM.kept)))))))
   ·intro hb15
    have hs6:=Zw hs6 hb15
    refine wp_skip (Yc (Zt (wp_region_lit (Zh hE rfl rfl rfl fun a hE=>Zd hE rfl fun a hE=>Zg (Zj ?_)))))
    exact ⟨_,(ois hs6),hE.sub ⟨rfl,rfl,rfl,rfl,trivial⟩,hM⟩
  ·intro hb9
   have hs6:=Zw hs6 hb9
   refine wp_exit (Zp (Zp (Ye ?_)))
   obtain rfl:=hx7 _ (ois hs6)
   refine Zj ?_
   exact ⟨(),rfl,hE.sub trivial,hM⟩
 ·skip
  rintro a w ⟨s4,ht,hE,hM⟩
  subst ht
  have hF3:=TW hF3
  refine Zt (Zb (Zc hE rfl fun a hE=>Ze ?_))
  obtain rfl:=Option.some.inj hF3
  exact wp_ret (kr1 hE rfl rfl hM.kept)
def Z0 (p0 : (List GEvent)) (p1 : GEvent → Option (Bool)) : Option (Bool) :=
 (Yw p0 p1).bind fun r1=>some (decide (r1 ≥ 0))
theorem Uz (w0 : World) (p0 : (List GEvent)) (v0_1 : Value) (hv0_1 : Ro w0 p0 [v0_1]) (p1 : GEvent → Option (Bool)) (k1 : Nat) (q1 : List Value) (hcb1 : Callable Tryz.prog k1) (hg1 : ∀ (w2 : World),Kept (Old w0) w0 w2 → ∀ (z0 : GEvent) (zr : Bool),p1 z0 = some zr → Calls Tryz.prog k1 ([(Value.agg (enc z0).toArray)] ++ q1).toArray w2 (fun en w3=>∃ v,en = .returned v ∧ (v = (vT zr) ∧ Kept (Old w2) w2 w3))) (r : Bool) (hF : Z0 p0 p1 = some r) :
  Calls Tryz.prog 159 [v0_1,(Value.func (.func k1) #[] q1.toArray)].toArray w0 (Rt w0 (vT r)):=by
 refine ce Tryz.func159 ?_
 intro a hE
 have hM:=M.start w0
 unfold Z0 at hF
 refine Zb (Zc hE rfl fun a hE=>Ze (Zb (Zd hE rfl fun a hE=>Zd hE rfl ?_))); intro a hE
 obtain ⟨r1,e2,hF⟩:=bind_some hF
 refine Zv hE rfl (cbm Tryz.func192) (Tb _ p0 v0_1 (hM.rdo hv0_1) p1 k1 q1 hcb1 (fun w2 hk2=>hg1 w2 (hM.kept.trans hk2)) r1 e2) ?_
 rintro v w a ⟨rfl,hK⟩ hE
 have hM:=hM.keep hK
 refine Zh hE rfl rfl rfl fun a hE=>Zc hE rfl fun a hE=>Ze ?_
 obtain rfl:=Option.some.inj hF
 exact wp_ret (kr1 hE rfl rfl hM.kept)
def Qa (p0 : Int) : Option (Bool) :=
 (Xp p0 0 1000000).bind fun r1=>some r1
theorem Av (w0 : World) (p0 : Int) (r : Bool) (hF : Qa p0 = some r) :
  Calls Tryz.prog 193 [vI p0].toArray w0 (Rt w0 (vT r)):=by
 refine ce Tryz.func193 ?_
 intro a hE
 have hM:=M.start w0
 unfold Qa at hF
 refine Zb (Zc hE rfl fun a hE=>Ze (Zb (Zd hE rfl ?_))); intro a hE
 obtain ⟨r1,e2,hF⟩:=bind_some hF
 refine Zv hE rfl J9 (Xr _ p0 0 1000000 r1 e2) ?_
 rintro v w a ⟨rfl,hK⟩ hE
 have hM:=hM.keep hK
 refine Zc hE rfl fun a hE=>Ze ?_
 obtain rfl:=Option.some.inj hF
 exact wp_ret (kr1 hE rfl rfl hM.kept)
def TD (p0 : GEvent) : Option (Bool) :=
 ((Xp p0.Kind 1 4).bind fun r6=>if r6 = true then ((Qa p0.Number).bind fun r9=>some r9) else (some false) : Option (Bool)).bind fun j3=>some j3
theorem zL (w0 : World) (p0 : GEvent) (r : Bool) (hF : TD p0 = some r) :
  Calls Tryz.prog 161 [(Value.agg (enc p0).toArray)].toArray w0 (Rt w0 (vT r)):=by
 refine ce Tryz.func161 ?_
 intro a hE
 have hM:=M.start w0
 unfold TD at hF
 refine Zb (ZO (cs:=cat [[vI p0.Kind],[vI p0.Number],enc p0.Tag]) hE hM Za ld rfl rfl fun b1 w a hM hE=>Zc hE rfl fun a hE=>Ze ?_)
 obtain ⟨j3,hl4,hF5⟩:=bind_some hF
 refine ZM (fun a w=>Env 11 a [(2,vT j3)] ∧ M (Old w0) w0 w []) ?_ ?_
 ·skip
  refine wp_region_lit (Zf hE rfl (Kd) fun a hE=>Zy (v:=(vI p0.Kind)) hE rfl ty2 rfl (At.cat (pre:=[]) hM.rawAt0 cl0) ?_); intro a hE
  obtain ⟨r6,e7,hl4⟩:=bind_some hl4
  refine Zv hE rfl J9 (Xr _ p0.Kind 1 4 r6 e7) ?_
  rintro v w a ⟨rfl,hK⟩ hE
  have hM:=hM.keep hK
  refine Zd hE rfl ?_; intro a hE
  refine Y0 r6 (fun hb8=>?_) (fun hb8=>?_)
  ·have hl4:=Zx hl4 hb8
   refine Zk hE (Zo hE rfl (lkb rfl hb8)) (by decide) rfl (Kb) fun a hE=>ZN (v:=(vI p0.Number)) hE (Zo hE rfl (lkb rfl hb8)) (by decide) rfl ty2 rfl (At.cat (pre:=[[vI p0.Kind]]) hM.rawAt0 ck) ?_; intro a hE
   obtain ⟨r9,e10,hl4⟩:=bind_some hl4
   refine Z7 hE (Zo hE rfl (lkb rfl hb8)) (by decide) rfl (cbm Tryz.func193) (Av _ p0.Number r9 e10) ?_
   rintro v w a ⟨rfl,hK⟩ hE
   have hM:=hM.keep hK
   refine ZW hE (lkb rfl hb8) rfl fun a hE=>Zc hE rfl fun a hE=>Zg ?_
   obtain rfl:=Option.some.inj hl4
   refine Zj ?_
   have hM:=M.fst (l:=[]) hM
   exact ⟨hE.sub ⟨rfl,trivial⟩,hM⟩
  ·have hl4:=Zw hl4 hb8
   refine Zm hE rfl (lkb rfl hb8) rfl (by decide) fun a hE=>Zm hE rfl (lkb rfl hb8) rfl (by decide) fun a hE=>Zm hE rfl (lkb rfl hb8) rfl (by decide) fun a hE=>YV hE (lkb rfl hb8) rfl fun a hE=>Zc hE rfl fun a hE=>Zg ?_
   obtain rfl:=Option.some.inj hl4
   refine Zj ?_
   have hM:=M.fst (l:=[]) hM
   exact ⟨hE.sub ⟨rfl,trivial⟩,hM⟩
 ·skip
  rintro a w ⟨hE,hM⟩
  obtain rfl:=Option.some.inj hF5
  exact wp_ret (kr1 hE rfl rfl hM.kept)
def Ui (p0 : GEvent) : Option (Bool) :=
 (TD p0).bind fun r3=>some (!r3)
theorem By (w0 : World) (p0 : GEvent) (r : Bool) (hF : Ui p0 = some r) :
  Calls Tryz.prog 160 [(Value.agg (enc p0).toArray)].toArray w0 (Rt w0 (vT r)):=by
 refine ce Tryz.func160 ?_
 intro a hE
 have hM:=M.start w0
 unfold Ui at hF
 refine Zb (ZO (cs:=cat [[vI p0.Kind],[vI p0.Number],enc p0.Tag]) hE hM Za ld rfl rfl fun b1 w a hM hE=>Zc hE rfl fun a hE=>Ze (Zb (Zn hE rfl Xs rfl hM.rawAt0 cq ?_))); intro a hE
 obtain ⟨r3,e4,hF⟩:=bind_some hF
 refine Zv hE rfl (cbm Tryz.func161) (zL _ p0 r3 e4) ?_
 rintro v w a ⟨rfl,hK⟩ hE
 have hM:=hM.keep hK
 refine Qo hE rfl fun a hE=>Zc hE rfl fun a hE=>Ze ?_
 obtain rfl:=Option.some.inj hF
 exact wp_ret (kr1 hE rfl rfl hM.kept)
def VJ (p0 : GVault) (s24 : Int) : Option (Fl Int (Fl Unit Bool)) :=
 if (decide (s24 < (p0.Records.length : Int))) = true then ((idx p0.Records s24).bind fun x29=>((Xp x29.Number 1 (wr (p0.Next - 1))).bind fun r45=>if (!r45) = true then (some true) else (if (decide (s24 > 0)) = true then ((idx p0.Records (wr (s24 - 1))).bind fun x50=>some (decide (x50.Number ≥ x29.Number))) else (some false)) : Option (Bool)).bind fun j41=>if j41 = true then (some (Fl.ex (Fl.ex false))) else (((Z2 p0.Keys).bind fun r68=>(Xp x29.Version 0 (wr (r68 - 1))).bind fun r70=>if (!r70) = true then (some true) else (if (decide ((x29.Label.length : Int) > 32)) = true then (some true) else (some (decide ((x29.Body.length : Int) > 200)))) : Option (Bool)).bind fun j64=>if j64 = true then (some (Fl.ex (Fl.ex false))) else (some (Fl.nx (wr (s24 + 1)))))) else (some (Fl.ex (Fl.nx ())))
def TE (p0 : GVault) : Option (Bool) :=
 ((Z2 p0.Keys).bind fun r6=>(Xp r6 1 8).bind fun r8=>if (!r8) = true then (some true) else ((Xp p0.Next 1 1000000).bind fun r12=>if (!r12) = true then (some true) else (if (decide ((p0.Records.length : Int) > 12)) = true then (some true) else (some (decide ((p0.Events.length : Int) > 60))))) : Option (Bool)).bind fun j3=>if j3 = true then (some false) else ((ZB (VJ p0) 0).bind fun j20=>j20.el (fun s23=>(Z0 p0.Events (fun z0=>Ui z0)).bind fun r80=>some (!r80)) (fun r=>some r))
theorem zP (w0 : World) (p0 : GVault) (v0_1 : Value) (hv0_1 : Ro w0 p0.Keys [v0_1]) (v0_2 : Value) (hv0_2 : Ro w0 p0.Records [v0_2]) (v0_3 : Value) (hv0_3 : Ro w0 p0.Events [v0_3]) (r : Bool) (hF : TE p0 = some r) :
  Calls Tryz.prog 103 [(Value.agg (cat [[v0_1],[vI p0.Next],[v0_2],[v0_3],enc p0.Head]).toArray)].toArray w0 (Rt w0 (vT r)):=by
 refine ce Tryz.func103 ?_
 intro a hE
 have hM:=M.start w0
 unfold TE at hF
 refine Zb (ZO (cs:=cat [[v0_1],[vI p0.Next],[v0_2],[v0_3],enc p0.Head]) hE hM Za ld rfl rfl fun b1 w a hM hE=>Zc hE rfl fun a hE=>Ze (wp_seq ?_))
 obtain ⟨j3,hl4,hF5⟩:=bind_some hF
 refine ZM (fun a w=>Env 84 a [(1,(ptr b1 0)),(27,vT j3)] ∧ M (Old w0) w0 w [raw b1 (cat [[v0_1],[vI p0.Next],[v0_2],[v0_3],enc p0.Head])]) ?_ ?_
 ·skip
  refine wp_region_lit (Zf hE rfl (WX) fun a hE=>Zy (v:=v0_1) hE rfl QR rfl (At.cat (pre:=[]) hM.rawAt0 cl0) ?_); intro a hE
  obtain ⟨r6,e7,hl4⟩:=bind_some hl4
  refine Zv hE rfl zf (YG _ p0.Keys v0_1 (hM.rdo hv0_1) r6 e7) ?_
  rintro v w a ⟨rfl,hK⟩ hE
  have hM:=hM.keep hK
  obtain ⟨r8,e9,hl4⟩:=bind_some hl4
  refine Zv hE rfl J9 (Xr _ r6 1 8 r8 e9) ?_
  rintro v w a ⟨rfl,hK⟩ hE
  have hM:=hM.keep hK
  refine Qo hE rfl fun a hE=>Zd hE rfl ?_; intro a hE
  refine Y0 (!r8) (fun hb10=>?_) (fun hb10=>?_)
  ·have hl4:=Zx hl4 hb10
   refine Zm hE rfl (lkb rfl hb10) rfl (by decide) fun a hE=>Zm hE rfl (lkb rfl hb10) rfl (by decide) fun a hE=>Zm hE rfl (lkb rfl hb10) rfl (by decide) fun a hE=>Zm hE rfl (lkb rfl hb10) rfl (by decide) fun a hE=>ZW hE (lkb rfl hb10) rfl fun a hE=>Zd hE rfl fun a hE=>Zm hE rfl rfl rfl (by decide) fun a hE=>Zm hE rfl rfl rfl (by decide) fun a hE=>Zm hE rfl rfl rfl (by decide) fun a hE=>Zm hE rfl rfl rfl (by decide) fun a hE=>ZW hE rfl rfl fun a hE=>Zd hE rfl ?_; intro a hE
   refine Zm hE rfl rfl rfl (by decide) fun a hE=>Zm hE rfl rfl rfl (by decide) fun a hE=>Zm hE rfl rfl rfl (by decide) fun a hE=>Zm hE rfl rfl rfl (by decide) fun a hE=>ZW hE rfl rfl fun a hE=>Zg ?_
   obtain rfl:=Option.some.inj hl4
   refine Zj ?_
   exact ⟨hE.sub ⟨rfl,rfl,trivial⟩,hM⟩
  ·have hl4:=Zw hl4 hb10
   refine Zk hE (Zo hE rfl (lkb rfl hb10)) (by decide) rfl (UM) fun a hE=>ZN (v:=(vI p0.Next)) hE (Zo hE rfl (lkb rfl hb10)) (by decide) rfl ty2 rfl (At.cat (pre:=[[v0_1]]) hM.rawAt0 ck) ?_; intro a hE
   obtain ⟨r12,e13,hl4⟩:=bind_some hl4
   refine Z7 hE (Zo hE rfl (lkb rfl hb10)) (by decide) rfl J9 (Xr _ p0.Next 1 1000000 r12 e13) ?_
   rintro v w a ⟨rfl,hK⟩ hE
   have hM:=hM.keep hK
   refine Kz hE (Zo hE rfl (lkb rfl hb10)) (by decide) rfl fun a hE=>YV hE (lkb rfl hb10) rfl fun a hE=>Zd hE rfl ?_; intro a hE
   refine Y0 (!r12) (fun hb14=>?_) (fun hb14=>?_)
   ·have hl4:=Zx hl4 hb14
    refine Zm hE rfl (lkb rfl hb14) rfl (by decide) fun a hE=>Zm hE rfl (lkb rfl hb14) rfl (by decide) fun a hE=>Zm hE rfl (lkb rfl hb14) rfl (by decide) fun a hE=>Zm hE rfl (lkb rfl hb14) rfl (by decide) fun a hE=>ZW hE (lkb rfl hb14) rfl fun a hE=>Zd hE rfl fun a hE=>Zm hE rfl rfl rfl (by decide) fun a hE=>Zm hE rfl rfl rfl (by decide) fun a hE=>Zm hE rfl rfl rfl (by decide) fun a hE=>Zm hE rfl rfl rfl (by decide) fun a hE=>ZW hE rfl rfl fun a hE=>Zg ?_
    obtain rfl:=Option.some.inj hl4
    refine Zj ?_
    exact ⟨hE.sub ⟨rfl,rfl,trivial⟩,hM⟩
   ·have hl4:=Zw hl4 hb14
    refine Zk hE (Zo hE rfl (lkb rfl hb14)) (by decide) rfl (XO) fun a hE=>ZN (v:=v0_2) hE (Zo hE rfl (lkb rfl hb14)) (by decide) rfl Qr rfl (At.cat (pre:=[[v0_1],[vI p0.Next]]) hM.rawAt0 ck) fun a hE=>Qz hE (Zo hE rfl (lkb rfl hb14)) (by decide) rfl Tryz.underlying55 (hM.rd hv0_2) fun a hE=>Yb hE (Zo hE rfl (lkb rfl hb14)) (by decide) rfl rfl rfl fun a hE=>YV hE (lkb rfl hb14) rfl fun a hE=>Zd hE rfl ?_; intro a hE
    refine Y0 (decide ((p0.Records.length : Int) > 12)) (fun hb16=>?_) (fun hb16=>?_)
    ·have hl4:=Zx hl4 hb16
     refine Zm hE rfl (lkb rfl hb16) rfl (by decide) fun a hE=>Zm hE rfl (lkb rfl hb16) rfl (by decide) fun a hE=>Zm hE rfl (lkb rfl hb16) rfl (by decide) fun a hE=>Zm hE rfl (lkb rfl hb16) rfl (by decide) fun a hE=>ZW hE (lkb rfl hb16) rfl fun a hE=>Zg ?_
     obtain rfl:=Option.some.inj hl4
     refine Zj ?_
     exact ⟨hE.sub ⟨rfl,rfl,trivial⟩,hM⟩
    ·have hl4:=Zw hl4 hb16
     refine Zk hE (Zo hE rfl (lkb rfl hb16)) (by decide) rfl (Ur) fun a hE=>ZN (v:=v0_3) hE (Zo hE rfl (lkb rfl hb16)) (by decide) rfl KD rfl (At.cat (pre:=[[v0_1],[vI p0.Next],[v0_2]]) hM.rawAt0 ck) fun a hE=>Qz hE (Zo hE rfl (lkb rfl hb16)) (by decide) rfl Tryz.underlying56 (hM.rd hv0_3) fun a hE=>Yb hE (Zo hE rfl (lkb rfl hb16)) (by decide) rfl rfl rfl fun a hE=>YV hE (lkb rfl hb16) rfl fun a hE=>Zg ?_
     obtain rfl:=Option.some.inj hl4
     refine Zj ?_
     exact ⟨hE.sub ⟨rfl,rfl,trivial⟩,hM⟩
 ·skip
  rintro a w ⟨hE,hM⟩
  refine Zq hE rfl ?_ ?_
  ·intro hb19
   have hF5:=Zx hF5 hb19
   refine Zb (Zc hE rfl fun a hE=>Ze ?_)
   obtain rfl:=Option.some.inj hF5
   exact wp_ret (Zs (kr1 hE rfl rfl hM.kept))
  ·intro hb19
   have hF5:=Zw hF5 hb19
   refine wp_skip (Zt (wp_seq (Zb (Zf hE rfl (XO) fun a hE=>Zy (v:=v0_2) hE rfl Qr rfl (At.cat (pre:=[[v0_1],[vI p0.Next]]) hM.rawAt0 ck) fun a hE=>Z9 hE rfl Tryz.underlying55 (hM.rd hv0_2) fun a hE=>Zd hE rfl fun a hE=>Ze ?_))))
   obtain ⟨j20,hl21,hF22⟩:=bind_some hF5
   refine ZK (fun a w=>∃ s23 : Unit,j20 = Fl.nx s23 ∧ Env 84 a [(1,(ptr b1 0))] ∧ M (Old w0) w0 w [raw b1 (cat [[v0_1],[vI p0.Next],[v0_2],[v0_3],enc p0.Head])]) ?_ ?_
   ·skip
    refine wp_block ?_
    refine ZE (fun (s24 : Int) a w=>Env 84 a [(1,(ptr b1 0)),(29,v0_2),(30,(vI (p0.Records.length : Int))),(31,vI s24)] ∧ M (Old w0) w0 w [raw b1 (cat [[v0_1],[vI p0.Next],[v0_2],[v0_3],enc p0.Head])]) hl21 ⟨hE.sub ⟨rfl,rfl,rfl,rfl,trivial⟩,hM⟩ ?_
    rintro s24 a w ⟨hE,hM⟩ o27 hs25 hx26
    unfold VJ at hs25
    refine Zb (Zh hE rfl rfl rfl fun a hE=>Ze (wp_seq ?_))
    refine Zq hE rfl ?_ ?_
    ·intro hb28
     have hs25:=Zx hs25 hb28
     refine wp_skip (Zt (wp_seq (wp_block (Zb (Zd hE rfl ?_))))); intro a hE
     obtain ⟨x29,hi31,hs25⟩:=bix hs25
     refine ZL hE rfl rfl Tryz.underlying55 Z6 (hM.rd hv0_2) hi31.1 ?_; intro a hE
     obtain ⟨cs32,hs33,hA34⟩:=WL hv0_2 hi31.2 -- ^
     obtain ⟨u35,u37,rfl,h36,h38⟩:=YO hs33 -- ^
     refine Zn hE rfl Z6 rfl (hM.atk hA34 (V2 hv0_2 hi31.2)) cq fun a hE=>Zz hE hM Z6 fun b39 w a hM hE=>Zc hE rfl fun a hE=>Zl (seg:=cat [[vI x29.Number],[vI x29.Version],enc x29.Nonce,[u35],[u37],enc x29.Tag]) (cs':=cat [[vI x29.Number],[vI x29.Version],enc x29.Nonce,[u35],[u37],enc x29.Tag]) hE hM Za rfl rfl rfl Z6 cq (Nat.le_of_eq ((Nat.zero_add _).trans (Eq.trans cq (Eq.symm cq)))) (ZZ (cc1 (Flat.cell (x29.Number : Int)) (cc1 (Flat.cell (x29.Version : Int)) (cc1 (Flat.cell _) (cc1 (Rep.cell (hM.rd h36)) (cc1 (Rep.cell (hM.rd h38)) (cc1 (Flat.cell _) cc0))))))) (Zi (Eq.trans cq (Eq.symm cq))) fun w a hM hE=>Ze (wp_seq ?_)
     obtain ⟨j41,hl42,hF43⟩:=bind_some hs25
     refine ZM (fun a w=>Env 84 a [(1,(ptr b1 0)),(4,(ptr b39 0)),(29,v0_2),(30,(vI (p0.Records.length : Int))),(31,vI s24),(58,vT j41)] ∧ M (Old w0) w0 w [raw b39 (cat [[vI x29.Number],[vI x29.Version],enc x29.Nonce,[u35],[u37],enc x29.Tag]),raw b1 (cat [[v0_1],[vI p0.Next],[v0_2],[v0_3],enc p0.Head])]) ?_ ?_
     ·skip
      obtain ⟨r45,e46,hl42⟩:=bind_some hl42
      refine Y0 (!r45) (fun hb47=>?_) (fun hb47=>?_)
      ·have hl42:=Zx hl42 hb47
       refine Yj [36,37,38,39,40,41,42,43,44,45,46,47,48,49,50,51,52,53,54,55,56,57,58] YL rfl rfl (by decide) rfl hE hM (qsP (fun z=>Zk z.E Za ld rfl (WY) (kr0 rfl)) (qsP (fun z=>ZN (v:=(vI x29.Number)) z.E Za ld rfl ty2 rfl (At.cat (pre:=[]) (z.M.rawAt0) cl0) (kr0 rfl)) (qsP (fun z=>Zk z.E Za ld rfl (UM) (kr0 rfl)) (qsP (fun z=>ZN (v:=(vI p0.Next)) z.E Za ld rfl ty2 rfl (At.cat (pre:=[[v0_1]]) (z.M.rawAt1) ck) (kr0 rfl)) (qsP (v:=(vI (wr (p0.Next - 1)))) (fun z=>Yb z.E Za ld rfl rfl rfl (kr0 rfl)) (qsP (fun z=>Z7 z.E Za ld rfl J9 (Xr _ x29.Number 1 (wr (p0.Next - 1)) r45 e46) (kc rfl)) (qsP (fun z=>Kz z.E Za ld rfl (kr0 rfl)) (qsP (fun z=>Zu z.E Za ld rfl (kr0 rfl)) (qsP (fun z=>Zm z.E rfl (lkb rfl hb47) rfl (by decide) (kr0 rfl)) (qsP (fun z=>Zm z.E rfl (lkb rfl hb47) rfl (by decide) (kr0 rfl)) (qsP (fun z=>Zm z.E rfl (lkb rfl hb47) rfl (by decide) (kr0 rfl)) (qsP (fun z=>QN z.E rfl rfl (by decide) (kr0 rfl)) (qsP (fun z=>QN z.E rfl rfl (by decide) (kr0 rfl)) (qsP (fun z=>QN z.E rfl rfl (by decide) (kr0 rfl)) (qsP (fun z=>QN z.E rfl rfl (by decide) (kr0 rfl)) (qsP (fun z=>QN z.E rfl rfl (by decide) (kr0 rfl)) (qsP (fun z=>QN z.E rfl rfl (by decide) (kr0 rfl)) (qsP (fun z=>QN z.E rfl rfl (by decide) (kr0 rfl)) (qsP (fun z=>QN z.E rfl rfl (by decide) (kr0 rfl)) (qsP (fun z=>QN z.E rfl rfl (by decide) (kr0 rfl)) (qsP (fun z=>QN z.E rfl rfl (by decide) (kr0 rfl)) (qsP (fun z=>Zm z.E rfl (lkb rfl hb47) rfl (by decide) (kr0 rfl)) (qsP (fun z=>Ky z.E Za ld (lkb rfl hb47) rfl (kr0 rfl)) qs0))))))))))))))))))))))) ?_
       ·intro a w u hE hM
        refine Zg ?_
        obtain rfl:=Option.some.inj hl42
        refine Zj ?_
        exact ⟨hE.sub ⟨rfl,rfl,rfl,rfl,rfl,rfl,trivial⟩,hM⟩
      ·have hl42:=Zw hl42 hb47
       refine Y0 (decide (s24 > 0)) (fun hb49=>?_) (fun hb49=>?_)
       ·have hl42:=Zx hl42 hb49
        obtain ⟨x50,hi52,hl42⟩:=bix hl42
        obtain ⟨cs53,hs54,hA55⟩:=WL hv0_2 hi52.2 -- ^
        obtain ⟨u56,u58,rfl,h57,h59⟩:=YO hs54 -- ^
        refine Yj [36,37,38,39,40,41,42,43,44,45,46,47,48,49,50,51,52,53,54,55,56,57,58] YL rfl rfl (by decide) rfl hE hM (qsP (fun z=>Zk z.E Za ld rfl (WY) (kr0 rfl)) (qsP (fun z=>ZN (v:=(vI x29.Number)) z.E Za ld rfl ty2 rfl (At.cat (pre:=[]) (z.M.rawAt0) cl0) (kr0 rfl)) (qsP (fun z=>Zk z.E Za ld rfl (UM) (kr0 rfl)) (qsP (fun z=>ZN (v:=(vI p0.Next)) z.E Za ld rfl ty2 rfl (At.cat (pre:=[[v0_1]]) (z.M.rawAt1) ck) (kr0 rfl)) (qsP (v:=(vI (wr (p0.Next - 1)))) (fun z=>Yb z.E Za ld rfl rfl rfl (kr0 rfl)) (qsP (fun z=>Z7 z.E Za ld rfl J9 (Xr _ x29.Number 1 (wr (p0.Next - 1)) r45 e46) (kc rfl)) (qsP (fun z=>Kz z.E Za ld rfl (kr0 rfl)) (qsP (fun z=>Zu z.E Za ld rfl (kr0 rfl)) (qsP (fun z=>Zu z.E (Zo z.E rfl (lkb rfl hb47)) (by decide) rfl (kr0 rfl)) (qsP (fun z=>Yb z.E (Zo z.E rfl (lkb rfl hb47)) (by decide) rfl rfl rfl (kr0 rfl)) (qsP (fun z=>Zu z.E (Zo z.E rfl (lkb rfl hb47)) (by decide) rfl (kr0 rfl)) (qsP (fun z=>Zk z.E (Zo z.E rfl (lkb rfl hb49)) (by decide) rfl (XO) (kr0 rfl)) (qsP (fun z=>ZN (v:=v0_2) z.E (Zo z.E rfl (lkb rfl hb49)) (by decide) rfl Qr rfl (At.cat (pre:=[[v0_1],[vI p0.Next]]) (z.M.rawAt1) ck) (kr0 rfl)) (qsP (fun z=>Zu z.E (Zo z.E rfl (lkb rfl hb49)) (by decide) rfl (kr0 rfl)) (qsP (v:=(vI (wr (s24 - 1)))) (fun z=>Yb z.E (Zo z.E rfl (lkb rfl hb49)) (by decide) rfl rfl rfl (kr0 rfl)) (qsP (fun z=>Xz z.E (Zo z.E rfl (lkb rfl hb49)) (by decide) rfl rfl Tryz.underlying55 Z6 (z.M.rd hv0_2) hi52.1 (kr0 rfl)) (qsP (fun z=>Zk z.E (Zo z.E rfl (lkb rfl hb49)) (by decide) rfl (WY) (kr0 rfl)) (qsP (fun z=>ZN (v:=(vI x50.Number)) z.E (Zo z.E rfl (lkb rfl hb49)) (by decide) rfl ty2 rfl (At.cat (pre:=[]) (z.M.atk hA55 (V2 hv0_2 hi52.2)) cl0) (kr0 rfl)) (qsP (fun z=>Zk z.E (Zo z.E rfl (lkb rfl hb49)) (by decide) rfl (WY) (kr0 rfl)) (qsP (fun z=>ZN (v:=(vI x29.Number)) z.E (Zo z.E rfl (lkb rfl hb49)) (by decide) rfl ty2 rfl (At.cat (pre:=[]) (z.M.rawAt0) cl0) (kr0 rfl)) (qsP (fun z=>Yb z.E (Zo z.E rfl (lkb rfl hb49)) (by decide) rfl rfl rfl (kr0 rfl)) (qsP (fun z=>Ky z.E (Zo z.E rfl (lkb rfl hb47)) (by decide) (lkb rfl hb49) rfl (kr0 rfl)) (qsP (fun z=>Q6 z.E Za ld (lkb rfl hb47) rfl (kr0 rfl)) qs0))))))))))))))))))))))) ?_
        ·intro a w u hE hM
         refine Zg ?_
         obtain rfl:=Option.some.inj hl42
         refine Zj ?_
         exact ⟨hE.sub ⟨rfl,rfl,rfl,rfl,rfl,rfl,trivial⟩,hM⟩
       ·have hl42:=Zw hl42 hb49
        refine Yj [36,37,38,39,40,41,42,43,44,45,46,47,48,49,50,51,52,53,54,55,56,57,58] YL rfl rfl (by decide) rfl hE hM (qsP (fun z=>Zk z.E Za ld rfl (WY) (kr0 rfl)) (qsP (fun z=>ZN (v:=(vI x29.Number)) z.E Za ld rfl ty2 rfl (At.cat (pre:=[]) (z.M.rawAt0) cl0) (kr0 rfl)) (qsP (fun z=>Zk z.E Za ld rfl (UM) (kr0 rfl)) (qsP (fun z=>ZN (v:=(vI p0.Next)) z.E Za ld rfl ty2 rfl (At.cat (pre:=[[v0_1]]) (z.M.rawAt1) ck) (kr0 rfl)) (qsP (v:=(vI (wr (p0.Next - 1)))) (fun z=>Yb z.E Za ld rfl rfl rfl (kr0 rfl)) (qsP (fun z=>Z7 z.E Za ld rfl J9 (Xr _ x29.Number 1 (wr (p0.Next - 1)) r45 e46) (kc rfl)) (qsP (fun z=>Kz z.E Za ld rfl (kr0 rfl)) (qsP (fun z=>Zu z.E Za ld rfl (kr0 rfl)) (qsP (fun z=>Zu z.E (Zo z.E rfl (lkb rfl hb47)) (by decide) rfl (kr0 rfl)) (qsP (fun z=>Yb z.E (Zo z.E rfl (lkb rfl hb47)) (by decide) rfl rfl rfl (kr0 rfl)) (qsP (fun z=>Zu z.E (Zo z.E rfl (lkb rfl hb47)) (by decide) rfl (kr0 rfl)) (qsP (fun z=>Zm z.E rfl (lkb rfl hb49) rfl (by decide) (kr0 rfl)) (qsP (fun z=>Zm z.E rfl (lkb rfl hb49) rfl (by decide) (kr0 rfl)) (qsP (fun z=>Zm z.E rfl (lkb rfl hb49) rfl (by decide) (kr0 rfl)) (qsP (fun z=>Zm z.E rfl (lkb rfl hb49) rfl (by decide) (kr0 rfl)) (qsP (fun z=>Zm z.E rfl (lkb rfl hb49) rfl (by decide) (kr0 rfl)) (qsP (fun z=>Zm z.E rfl (lkb rfl hb49) rfl (by decide) (kr0 rfl)) (qsP (fun z=>Zm z.E rfl (lkb rfl hb49) rfl (by decide) (kr0 rfl)) (qsP (fun z=>Zm z.E rfl (lkb rfl hb49) rfl (by decide) (kr0 rfl)) (qsP (fun z=>Zm z.E rfl (lkb rfl hb49) rfl (by decide) (kr0 rfl)) (qsP (fun z=>Zm z.E rfl (lkb rfl hb49) rfl (by decide) (kr0 rfl)) (qsP (fun z=>Q6 z.E (Zo z.E rfl (lkb rfl hb47)) (by decide) (lkb rfl hb49) rfl (kr0 rfl)) (qsP (fun z=>Q6 z.E Za ld (lkb rfl hb47) rfl (kr0 rfl)) qs0))))))))))))))))))))))) ?_
        ·intro a w u hE hM
         refine Zg ?_
         obtain rfl:=Option.some.inj hl42
         refine Zj ?_
         exact ⟨hE.sub ⟨rfl,rfl,rfl,rfl,rfl,rfl,trivial⟩,hM⟩
     ·skip
      rintro a w ⟨hE,hM⟩
      refine Zq hE rfl ?_ ?_
      ·intro hb62
       have hF43:=Zx hF43 hb62
       refine Zb (Zc hE rfl fun a hE=>Ze ?_)
       obtain rfl:=hx26 _ (ois hF43)
       obtain rfl:=Option.some.inj hF22
       exact wp_ret (Zs (Ym (Zs (Zs (Ym (Zs (Zs (kr1 hE rfl rfl hM.kept))))))))
      ·intro hb62
       have hF43:=Zw hF43 hb62
       refine wp_skip (Zt ?_)
       obtain ⟨j64,hl65,hF66⟩:=bind_some hF43
       refine ZM (fun a w=>Env 84 a [(1,(ptr b1 0)),(29,v0_2),(30,(vI (p0.Records.length : Int))),(31,vI s24),(78,vT j64)] ∧ M (Old w0) w0 w [raw b1 (cat [[v0_1],[vI p0.Next],[v0_2],[v0_3],enc p0.Head])]) ?_ ?_
       ·skip
        obtain ⟨r68,e69,hl65⟩:=bind_some hl65
        obtain ⟨r70,e71,hl65⟩:=bind_some hl65
        refine Y0 (!r70) (fun hb72=>?_) (fun hb72=>?_)
        ·have hl65:=Zx hl65 hb72
         refine Yj [59,60,61,62,63,64,65,66,67,68,69,70,71,72,73,74,75,76,77,78] YL rfl rfl (by decide) rfl hE hM (qsP (fun z=>Zk z.E Za ld rfl (W1) (kr0 rfl)) (qsP (fun z=>ZN (v:=(vI x29.Version)) z.E Za ld rfl ty2 rfl (At.cat (pre:=[[vI x29.Number]]) (z.M.rawAt0) ck) (kr0 rfl)) (qsP (fun z=>Zk z.E Za ld rfl (WX) (kr0 rfl)) (qsP (fun z=>ZN (v:=v0_1) z.E Za ld rfl QR rfl (At.cat (pre:=[]) (z.M.rawAt1) cl0) (kr0 rfl)) (qsP (fun z=>Z7 z.E Za ld rfl zf (YG _ p0.Keys v0_1 (z.M.rdo hv0_1) r68 e69) (kc rfl)) (qsP (v:=(vI (wr (r68 - 1)))) (fun z=>Yb z.E Za ld rfl rfl rfl (kr0 rfl)) (qsP (fun z=>Z7 z.E Za ld rfl J9 (Xr _ x29.Version 0 (wr (r68 - 1)) r70 e71) (kc rfl)) (qsP (fun z=>Kz z.E Za ld rfl (kr0 rfl)) (qsP (fun z=>Zu z.E Za ld rfl (kr0 rfl)) (qsP (fun z=>Zm z.E rfl (lkb rfl hb72) rfl (by decide) (kr0 rfl)) (qsP (fun z=>Zm z.E rfl (lkb rfl hb72) rfl (by decide) (kr0 rfl)) (qsP (fun z=>Zm z.E rfl (lkb rfl hb72) rfl (by decide) (kr0 rfl)) (qsP (fun z=>Zm z.E rfl (lkb rfl hb72) rfl (by decide) (kr0 rfl)) (qsP (fun z=>Ky z.E Za ld (lkb rfl hb72) rfl (kr0 rfl)) (qsP (fun z=>Zu z.E Za ld rfl (kr0 rfl)) (qsP (fun z=>Zm z.E rfl rfl rfl (by decide) (kr0 rfl)) (qsP (fun z=>Zm z.E rfl rfl rfl (by decide) (kr0 rfl)) (qsP (fun z=>Zm z.E rfl rfl rfl (by decide) (kr0 rfl)) (qsP (fun z=>Zm z.E rfl rfl rfl (by decide) (kr0 rfl)) (qsP (fun z=>Ky z.E Za ld rfl rfl (kr0 rfl)) qs0)))))))))))))))))))) ?_
         ·intro a w u hE hM
          refine Zg ?_
          obtain rfl:=Option.some.inj hl65
          refine Zj ?_
          have hM:=M.fst (l:=[_]) hM.pull1
          exact ⟨hE.sub ⟨rfl,rfl,rfl,rfl,rfl,trivial⟩,hM⟩
        ·have hl65:=Zw hl65 hb72
         refine Y0 (decide ((x29.Label.length : Int) > 32)) (fun hb74=>?_) (fun hb74=>?_)
         ·have hl65:=Zx hl65 hb74
          refine Yj [59,60,61,62,63,64,65,66,67,68,69,70,71,72,73,74,75,76,77,78] YL rfl rfl (by decide) rfl hE hM (qsP (fun z=>Zk z.E Za ld rfl (W1) (kr0 rfl)) (qsP (fun z=>ZN (v:=(vI x29.Version)) z.E Za ld rfl ty2 rfl (At.cat (pre:=[[vI x29.Number]]) (z.M.rawAt0) ck) (kr0 rfl)) (qsP (fun z=>Zk z.E Za ld rfl (WX) (kr0 rfl)) (qsP (fun z=>ZN (v:=v0_1) z.E Za ld rfl QR rfl (At.cat (pre:=[]) (z.M.rawAt1) cl0) (kr0 rfl)) (qsP (fun z=>Z7 z.E Za ld rfl zf (YG _ p0.Keys v0_1 (z.M.rdo hv0_1) r68 e69) (kc rfl)) (qsP (v:=(vI (wr (r68 - 1)))) (fun z=>Yb z.E Za ld rfl rfl rfl (kr0 rfl)) (qsP (fun z=>Z7 z.E Za ld rfl J9 (Xr _ x29.Version 0 (wr (r68 - 1)) r70 e71) (kc rfl)) (qsP (fun z=>Kz z.E Za ld rfl (kr0 rfl)) (qsP (fun z=>Zu z.E Za ld rfl (kr0 rfl)) (qsP (fun z=>Zk z.E (Zo z.E rfl (lkb rfl hb72)) (by decide) rfl (Uc) (kr0 rfl)) (qsP (fun z=>ZN (v:=u35) z.E (Zo z.E rfl (lkb rfl hb72)) (by decide) rfl WU rfl (At.cat (pre:=[[vI x29.Number],[vI x29.Version],enc x29.Nonce]) (z.M.rawAt0) ck) (kr0 rfl)) (qsP (fun z=>Qz z.E (Zo z.E rfl (lkb rfl hb72)) (by decide) rfl Tryz.underlying40 (z.M.rd h36) (kr0 rfl)) (qsP (fun z=>Yb z.E (Zo z.E rfl (lkb rfl hb72)) (by decide) rfl rfl rfl (kr0 rfl)) (qsP (fun z=>Q6 z.E Za ld (lkb rfl hb72) rfl (kr0 rfl)) (qsP (fun z=>Zu z.E Za ld rfl (kr0 rfl)) (qsP (fun z=>Zm z.E rfl (lkb rfl hb74) rfl (by decide) (kr0 rfl)) (qsP (fun z=>Zm z.E rfl (lkb rfl hb74) rfl (by decide) (kr0 rfl)) (qsP (fun z=>Zm z.E rfl (lkb rfl hb74) rfl (by decide) (kr0 rfl)) (qsP (fun z=>Zm z.E rfl (lkb rfl hb74) rfl (by decide) (kr0 rfl)) (qsP (fun z=>Ky z.E Za ld (lkb rfl hb74) rfl (kr0 rfl)) qs0)))))))))))))))))))) ?_
          ·intro a w u hE hM
           refine Zg ?_
           obtain rfl:=Option.some.inj hl65
           refine Zj ?_
           have hM:=M.fst (l:=[_]) hM.pull1
           exact ⟨hE.sub ⟨rfl,rfl,rfl,rfl,rfl,trivial⟩,hM⟩
         ·have hl65:=Zw hl65 hb74
          refine Yj [59,60,61,62,63,64,65,66,67,68,69,70,71,72,73,74,75,76,77,78] YL rfl rfl (by decide) rfl hE hM (qsP (fun z=>Zk z.E Za ld rfl (W1) (kr0 rfl)) (qsP (fun z=>ZN (v:=(vI x29.Version)) z.E Za ld rfl ty2 rfl (At.cat (pre:=[[vI x29.Number]]) (z.M.rawAt0) ck) (kr0 rfl)) (qsP (fun z=>Zk z.E Za ld rfl (WX) (kr0 rfl)) (qsP (fun z=>ZN (v:=v0_1) z.E Za ld rfl QR rfl (At.cat (pre:=[]) (z.M.rawAt1) cl0) (kr0 rfl)) (qsP (fun z=>Z7 z.E Za ld rfl zf (YG _ p0.Keys v0_1 (z.M.rdo hv0_1) r68 e69) (kc rfl)) (qsP (v:=(vI (wr (r68 - 1)))) (fun z=>Yb z.E Za ld rfl rfl rfl (kr0 rfl)) (qsP (fun z=>Z7 z.E Za ld rfl J9 (Xr _ x29.Version 0 (wr (r68 - 1)) r70 e71) (kc rfl)) (qsP (fun z=>Kz z.E Za ld rfl (kr0 rfl)) (qsP (fun z=>Zu z.E Za ld rfl (kr0 rfl)) (qsP (fun z=>Zk z.E (Zo z.E rfl (lkb rfl hb72)) (by decide) rfl (Uc) (kr0 rfl)) (qsP (fun z=>ZN (v:=u35) z.E (Zo z.E rfl (lkb rfl hb72)) (by decide) rfl WU rfl (At.cat (pre:=[[vI x29.Number],[vI x29.Version],enc x29.Nonce]) (z.M.rawAt0) ck) (kr0 rfl)) (qsP (fun z=>Qz z.E (Zo z.E rfl (lkb rfl hb72)) (by decide) rfl Tryz.underlying40 (z.M.rd h36) (kr0 rfl)) (qsP (fun z=>Yb z.E (Zo z.E rfl (lkb rfl hb72)) (by decide) rfl rfl rfl (kr0 rfl)) (qsP (fun z=>Q6 z.E Za ld (lkb rfl hb72) rfl (kr0 rfl)) (qsP (fun z=>Zu z.E Za ld rfl (kr0 rfl)) (qsP (fun z=>Zk z.E (Zo z.E rfl (lkb rfl hb74)) (by decide) rfl (UH) (kr0 rfl)) (qsP (fun z=>ZN (v:=u37) z.E (Zo z.E rfl (lkb rfl hb74)) (by decide) rfl WU rfl (At.cat (pre:=[[vI x29.Number],[vI x29.Version],enc x29.Nonce,[u35]]) (z.M.rawAt0) ck) (kr0 rfl)) (qsP (fun z=>Qz z.E (Zo z.E rfl (lkb rfl hb74)) (by decide) rfl Tryz.underlying40 (z.M.rd h38) (kr0 rfl)) (qsP (fun z=>Yb z.E (Zo z.E rfl (lkb rfl hb74)) (by decide) rfl rfl rfl (kr0 rfl)) (qsP (fun z=>Q6 z.E Za ld (lkb rfl hb74) rfl (kr0 rfl)) qs0)))))))))))))))))))) ?_
          ·intro a w u hE hM
           refine Zg ?_
           obtain rfl:=Option.some.inj hl65
           refine Zj ?_
           have hM:=M.fst (l:=[_]) hM.pull1
           exact ⟨hE.sub ⟨rfl,rfl,rfl,rfl,rfl,trivial⟩,hM⟩
       ·skip
        rintro a w ⟨hE,hM⟩
        refine Zq hE rfl ?_ ?_
        ·intro hb77
         have hF66:=Zx hF66 hb77
         refine Zb (Zc hE rfl fun a hE=>Ze ?_)
         obtain rfl:=hx26 _ (ois hF66)
         obtain rfl:=Option.some.inj hF22
         exact wp_ret (Ym (Zs (Zs (Ym (Zs (Zs (kr1 hE rfl rfl hM.kept)))))))
        ·intro hb77
         have hF66:=Zw hF66 hb77
         refine wp_skip (Yc (Zt (wp_region_lit (Zh hE rfl rfl rfl fun a hE=>Zd hE rfl fun a hE=>Zg (Zj ?_)))))
         exact ⟨_,(ois hF66),hE.sub ⟨rfl,rfl,rfl,rfl,trivial⟩,hM⟩
    ·intro hb28
     have hs25:=Zw hs25 hb28
     refine wp_exit (Zp (Zp (Ye ?_)))
     obtain rfl:=hx26 _ (ois hs25)
     refine Zj ?_
     exact ⟨(),rfl,hE.sub ⟨rfl,trivial⟩,hM⟩
   ·skip
    rintro a w ⟨s23,ht,hE,hM⟩
    subst ht
    have hF22:=TW hF22
    refine Zt (Zb (Zf hE rfl (Ur) fun a hE=>Zy (v:=v0_3) hE rfl KD rfl (At.cat (pre:=[[v0_1],[vI p0.Next],[v0_2]]) hM.rawAt0 ck) ?_)); intro a hE
    obtain ⟨r80,e81,hF22⟩:=bind_some hF22
    refine Zv hE rfl (cbm Tryz.func159) (Uz _ p0.Events v0_3 (hM.rdo hv0_3) (fun z0=>Ui z0) 160 [] (cbm Tryz.func160) (fun w2 hk2 z0 zr zhr=>By w2 z0 zr zhr) r80 e81) ?_
    rintro v w a ⟨rfl,hK⟩ hE
    have hM:=hM.keep hK
    refine Qo hE rfl fun a hE=>Zc hE rfl fun a hE=>Ze ?_
    obtain rfl:=Option.some.inj hF22
    exact wp_ret (kr1 hE rfl rfl hM.kept)
def Yn (p0 : (List GRecord)) (p1 : GRecord → Option (Bool)) (s5 : Int) : Option (Fl Int (Fl Unit Int)) :=
 if (decide (s5 < (p0.length : Int))) = true then ((idx p0 s5).bind fun x10=>((p1 x10)).bind fun r20=>if r20 = true then (some (Fl.ex (Fl.ex s5))) else (some (Fl.nx (wr (s5 + 1))))) else (some (Fl.ex (Fl.nx ())))
def Yr (p0 : (List GRecord)) (p1 : GRecord → Option (Bool)) : Option (Int) :=
 (ZB (Yn p0 p1) 0).bind fun j1=>j1.el (fun s4=>some (-1)) (fun r=>some r)
theorem UF (w0 : World) (p0 : (List GRecord)) (v0_1 : Value) (hv0_1 : Ro w0 p0 [v0_1]) (p1 : GRecord → Option (Bool)) (k1 : Nat) (q1 : List Value) (hcb1 : Callable Tryz.prog k1) (hg1 : ∀ (w2 : World),Kept (Old w0) w0 w2 → ∀ (z0 : GRecord) (zu1 : Value) (_ : Ro w2 z0.Label [zu1]) (zu2 : Value) (_ : Ro w2 z0.Body [zu2]) (zr : Bool),p1 z0 = some zr → Calls Tryz.prog k1 ([(Value.agg (cat [[vI z0.Number],[vI z0.Version],enc z0.Nonce,[zu1],[zu2],enc z0.Tag]).toArray)] ++ q1).toArray w2 (fun en w3=>∃ v,en = .returned v ∧ (v = (vT zr) ∧ Kept (Old w2) w2 w3))) (r : Int) (hF : Yr p0 p1 = some r) :
  Calls Tryz.prog 188 [v0_1,(Value.func (.func k1) #[] q1.toArray)].toArray w0 (Rt w0 (vI r)):=by
 refine ce Tryz.func188 ?_
 intro a hE
 have hM:=M.start w0
 unfold Yr at hF
 refine Zb (Zc hE rfl fun a hE=>Ze (wp_seq (Zb (Zd hE rfl fun a hE=>Z9 hE rfl Tryz.underlying55 (hM.rd hv0_1) fun a hE=>Zd hE rfl fun a hE=>Ze ?_))))
 obtain ⟨j1,hl2,hF3⟩:=bind_some hF
 refine ZK (fun a w=>∃ s4 : Unit,j1 = Fl.nx s4 ∧ Env 19 a [] ∧ M (Old w0) w0 w []) ?_ ?_
 ·skip
  refine wp_block ?_
  refine ZE (fun (s5 : Int) a w=>Env 19 a [(0,v0_1),(1,(Value.func (.func k1) #[] q1.toArray)),(7,(vI (p0.length : Int))),(8,vI s5)] ∧ M (Old w0) w0 w []) hl2 ⟨hE.sub ⟨rfl,rfl,rfl,rfl,trivial⟩,hM⟩ ?_
  rintro s5 a w ⟨hE,hM⟩ o8 hs6 hx7
  unfold Yn at hs6
  refine Zb (Zh hE rfl rfl rfl fun a hE=>Ze (wp_seq ?_))
  refine Zq hE rfl ?_ ?_
  ·intro hb9
   have hs6:=Zx hs6 hb9
   refine wp_skip (Zt (wp_seq (wp_block (Zb (Zd hE rfl fun a hE=>Zc hE rfl fun a hE=>Ze (Zb (Zd hE rfl fun a hE=>Zd hE rfl fun a hE=>Zd hE rfl ?_))))))); intro a hE
   obtain ⟨x10,hi12,hs6⟩:=bix hs6
   refine ZL hE rfl rfl Tryz.underlying55 Z6 (hM.rd hv0_1) hi12.1 ?_; intro a hE
   obtain ⟨cs13,hs14,hA15⟩:=WL hv0_1 hi12.2 -- ^
   obtain ⟨u16,u18,rfl,h17,h19⟩:=YO hs14 -- ^
   refine Zn hE rfl Z6 rfl (hM.atk hA15 (V2 hv0_1 hi12.2)) cq ?_; intro a hE
   obtain ⟨r20,e21,hs6⟩:=bind_some hs6
   refine jO (vs:=[(Value.agg (cat [[vI x10.Number],[vI x10.Version],enc x10.Nonce,[u16],[u18],enc x10.Tag]).toArray)]) hE Za ld rfl rfl hcb1 (hg1 _ hM.kept x10 u16 (hM.rdo h17) u18 (hM.rdo h19) r20 e21) ?_
   rintro v w a ⟨rfl,hK⟩ hE
   have hM:=hM.keep hK
   refine Ze ?_
   refine Zq hE rfl ?_ ?_
   ·intro hb22
    have hs6:=Zx hs6 hb22
    refine Zb (Zd hE rfl fun a hE=>Zc hE rfl fun a hE=>Ze ?_)
    obtain rfl:=hx7 _ (ois hs6)
    obtain rfl:=Option.some.inj hF3
    exact wp_ret (Ym (Zs (Zs (Ym (Zs (Zs (kr1 hE rfl rfl hM.kept)))))))
   ·intro hb22
    have hs6:=Zw hs6 hb22
    refine wp_skip (Yc (Zt (wp_region_lit (Zh hE rfl rfl rfl fun a hE=>Zd hE rfl fun a hE=>Zg (Zj ?_)))))
    exact ⟨_,(ois hs6),hE.sub ⟨rfl,rfl,rfl,rfl,trivial⟩,hM⟩
  ·intro hb9
   have hs6:=Zw hs6 hb9
   refine wp_exit (Zp (Zp (Ye ?_)))
   obtain rfl:=hx7 _ (ois hs6)
   refine Zj ?_
   exact ⟨(),rfl,hE.sub trivial,hM⟩
 ·skip
  rintro a w ⟨s4,ht,hE,hM⟩
  subst ht
  have hF3:=TW hF3
  refine Zt (Zb (Zc hE rfl fun a hE=>Ze ?_))
  obtain rfl:=Option.some.inj hF3
  exact wp_ret (kr1 hE rfl rfl hM.kept)
def Yi (p0 : (List GRecord)) (p1 : GRecord → Option (Bool)) : Option (Bool) :=
 (Yr p0 p1).bind fun r1=>some (decide (r1 ≥ 0))
theorem V3 (w0 : World) (p0 : (List GRecord)) (v0_1 : Value) (hv0_1 : Ro w0 p0 [v0_1]) (p1 : GRecord → Option (Bool)) (k1 : Nat) (q1 : List Value) (hcb1 : Callable Tryz.prog k1) (hg1 : ∀ (w2 : World),Kept (Old w0) w0 w2 → ∀ (z0 : GRecord) (zu1 : Value) (_ : Ro w2 z0.Label [zu1]) (zu2 : Value) (_ : Ro w2 z0.Body [zu2]) (zr : Bool),p1 z0 = some zr → Calls Tryz.prog k1 ([(Value.agg (cat [[vI z0.Number],[vI z0.Version],enc z0.Nonce,[zu1],[zu2],enc z0.Tag]).toArray)] ++ q1).toArray w2 (fun en w3=>∃ v,en = .returned v ∧ (v = (vT zr) ∧ Kept (Old w2) w2 w3))) (r : Bool) (hF : Yi p0 p1 = some r) :
  Calls Tryz.prog 162 [v0_1,(Value.func (.func k1) #[] q1.toArray)].toArray w0 (Rt w0 (vT r)):=by
 refine ce Tryz.func162 ?_
 intro a hE
 have hM:=M.start w0
 unfold Yi at hF
 refine Zb (Zc hE rfl fun a hE=>Ze (Zb (Zd hE rfl fun a hE=>Zd hE rfl ?_))); intro a hE
 obtain ⟨r1,e2,hF⟩:=bind_some hF
 refine Zv hE rfl (cbm Tryz.func188) (UF _ p0 v0_1 (hM.rdo hv0_1) p1 k1 q1 hcb1 (fun w2 hk2=>hg1 w2 (hM.kept.trans hk2)) r1 e2) ?_
 rintro v w a ⟨rfl,hK⟩ hE
 have hM:=hM.keep hK
 refine Zh hE rfl rfl rfl fun a hE=>Zc hE rfl fun a hE=>Ze ?_
 obtain rfl:=Option.some.inj hF
 exact wp_ret (kr1 hE rfl rfl hM.kept)
def Yy (p0 : GRecord) (p1 : GVault) (p2 : (Vector UInt8 16)) : Option (Bool) :=
 ((Z2 p1.Keys).bind fun r7=>if (p0.Version == (wr (r7 - 1))) = true then (some (decide (p0.Nonce = p2))) else (some false) : Option (Bool)).bind fun j3=>some j3
theorem KL (w0 : World) (p0 : GRecord) (v0_1 : Value) (hv0_1 : Ro w0 p0.Label [v0_1]) (v0_2 : Value) (hv0_2 : Ro w0 p0.Body [v0_2]) (pb1 : Nat) (p1 : GVault) (v1_2 : Value) (hv1_2 : Ro w0 p1.Keys [v1_2]) (v1_3 : Value) (hv1_3 : Ro w0 p1.Records [v1_3]) (v1_4 : Value) (hv1_4 : Ro w0 p1.Events [v1_4]) (hA1 : At w0 pb1 0 (cat [[v1_2],[vI p1.Next],[v1_3],[v1_4],enc p1.Head])) (hB1 : Old w0 pb1) (pb2 : Nat) (p2 : (Vector UInt8 16)) (hA2 : At w0 pb2 0 (enc p2)) (hB2 : Old w0 pb2) (r : Bool) (hF : Yy p0 p1 p2 = some r) :
  Calls Tryz.prog 163 [(Value.agg (cat [[vI p0.Number],[vI p0.Version],enc p0.Nonce,[v0_1],[v0_2],enc p0.Tag]).toArray),(ptr pb1 0),(ptr pb2 0)].toArray w0 (Rt w0 (vT r)):=by
 refine ce Tryz.func163 ?_
 intro a hE
 have hM:=M.start w0
 unfold Yy at hF
 refine Zb (ZO (cs:=cat [[vI p0.Number],[vI p0.Version],enc p0.Nonce,[v0_1],[v0_2],enc p0.Tag]) hE hM Za ld rfl rfl fun b1 w a hM hE=>Zc hE rfl fun a hE=>Ze ?_)
 obtain ⟨j3,hl4,hF5⟩:=bind_some hF
 refine ZM (fun a w=>Env 18 a [(4,vT j3)] ∧ M (Old w0) w0 w []) ?_ ?_
 ·skip
  obtain ⟨r7,e8,hl4⟩:=bind_some hl4
  refine Y0 (p0.Version == (wr (r7 - 1))) (fun hb9=>?_) (fun hb9=>?_)
  ·have hl4:=Zx hl4 hb9
   refine Yj [5,6,7,8,9,10,11,12,13,14,15,16,17,4] YL rfl rfl (by decide) rfl hE hM (qsP (fun z=>Zk z.E Za ld rfl (W1) (kr0 rfl)) (qsP (fun z=>ZN (v:=(vI p0.Version)) z.E Za ld rfl ty2 rfl (At.cat (pre:=[[vI p0.Number]]) (z.M.rawAt0) ck) (kr0 rfl)) (qsP (fun z=>Zk z.E Za ld rfl (WX) (kr0 rfl)) (qsP (fun z=>ZN (v:=v1_2) z.E Za ld rfl QR rfl (At.cat (pre:=[]) (z.M.atk hA1 hB1) cl0) (kr0 rfl)) (qsP (fun z=>Z7 z.E Za ld rfl zf (YG _ p1.Keys v1_2 (z.M.rdo hv1_2) r7 e8) (kc rfl)) (qsP (v:=(vI (wr (r7 - 1)))) (fun z=>Yb z.E Za ld rfl rfl rfl (kr0 rfl)) (qsP (fun z=>Yb z.E Za ld rfl rfl rfl (kr0 rfl)) (qsP (fun z=>Zu z.E Za ld rfl (kr0 rfl)) (qsP (fun z=>Zk z.E (Zo z.E rfl (lkb rfl hb9)) (by decide) rfl (QE) (kr0 rfl)) (qsP (fun z=>Yq z.E (Zo z.E rfl (lkb rfl hb9)) (by decide) rfl ZD rfl (At.cat (pre:=[[vI p0.Number],[vI p0.Version]]) (z.M.rawAt0) ck) (Flat.len _) (kr0 rfl)) (qsP (fun z=>Yq z.E (Zo z.E rfl (lkb rfl hb9)) (by decide) rfl ZD rfl (z.M.atk hA2 hB2) (Flat.len _) (kr0 rfl)) (qsP (fun z=>s_eqA z.E (Zo z.E rfl (lkb rfl hb9)) (by decide) rfl rfl (jB Tryz.underlying68 ty5 rfl false rfl (by decide) (yw Tryz.underlying5)) (by decide) (by kernel_rfl) (kr0 rfl)) (qsP (fun z=>Ky z.E Za ld (lkb rfl hb9) rfl (kr0 rfl)) (qsP (fun z=>Ko z.E Za ld rfl (kr0 rfl)) qs0)))))))))))))) ?_
   ·intro a w u hE hM
    refine Zg ?_
    obtain rfl:=Option.some.inj hl4
    refine Zj ?_
    have hM:=M.fst (l:=[]) hM
    exact ⟨hE.sub ⟨rfl,trivial⟩,hM⟩
  ·have hl4:=Zw hl4 hb9
   refine Yj [5,6,7,8,9,10,11,12,13,14,15,16,17,4] YL rfl rfl (by decide) rfl hE hM (qsP (fun z=>Zk z.E Za ld rfl (W1) (kr0 rfl)) (qsP (fun z=>ZN (v:=(vI p0.Version)) z.E Za ld rfl ty2 rfl (At.cat (pre:=[[vI p0.Number]]) (z.M.rawAt0) ck) (kr0 rfl)) (qsP (fun z=>Zk z.E Za ld rfl (WX) (kr0 rfl)) (qsP (fun z=>ZN (v:=v1_2) z.E Za ld rfl QR rfl (At.cat (pre:=[]) (z.M.atk hA1 hB1) cl0) (kr0 rfl)) (qsP (fun z=>Z7 z.E Za ld rfl zf (YG _ p1.Keys v1_2 (z.M.rdo hv1_2) r7 e8) (kc rfl)) (qsP (v:=(vI (wr (r7 - 1)))) (fun z=>Yb z.E Za ld rfl rfl rfl (kr0 rfl)) (qsP (fun z=>Yb z.E Za ld rfl rfl rfl (kr0 rfl)) (qsP (fun z=>Zu z.E Za ld rfl (kr0 rfl)) (qsP (fun z=>Zm z.E rfl (lkb rfl hb9) rfl (by decide) (kr0 rfl)) (qsP (fun z=>Zm z.E rfl (lkb rfl hb9) rfl (by decide) (kr0 rfl)) (qsP (fun z=>Zm z.E rfl (lkb rfl hb9) rfl (by decide) (kr0 rfl)) (qsP (fun z=>Zm z.E rfl (lkb rfl hb9) rfl (by decide) (kr0 rfl)) (qsP (fun z=>Q6 z.E Za ld (lkb rfl hb9) rfl (kr0 rfl)) (qsP (fun z=>Ko z.E Za ld rfl (kr0 rfl)) qs0)))))))))))))) ?_
   ·intro a w u hE hM
    refine Zg ?_
    obtain rfl:=Option.some.inj hl4
    refine Zj ?_
    have hM:=M.fst (l:=[]) hM
    exact ⟨hE.sub ⟨rfl,trivial⟩,hM⟩
 ·skip
  rintro a w ⟨hE,hM⟩
  obtain rfl:=Option.some.inj hF5
  exact wp_ret (kr1 hE rfl rfl hM.kept)
def X3 (p0 : GVault) (p1 : (Vector UInt8 16)) : Option (Bool) :=
 (Yi p0.Records (fun z0=>Yy z0 p0 p1)).bind fun r5=>some r5
theorem Jl (w0 : World) (p0 : GVault) (v0_1 : Value) (hv0_1 : Ro w0 p0.Keys [v0_1]) (v0_2 : Value) (hv0_2 : Ro w0 p0.Records [v0_2]) (v0_3 : Value) (hv0_3 : Ro w0 p0.Events [v0_3]) (p1 : (Vector UInt8 16)) (r : Bool) (hF : X3 p0 p1 = some r) :
  Calls Tryz.prog 104 [(Value.agg (cat [[v0_1],[vI p0.Next],[v0_2],[v0_3],enc p0.Head]).toArray),(Value.agg (enc p1).toArray)].toArray w0 (Rt w0 (vT r)):=by
 refine ce Tryz.func104 ?_
 intro a hE
 have hM:=M.start w0
 unfold X3 at hF
 refine Zb (ZO (cs:=cat [[v0_1],[vI p0.Next],[v0_2],[v0_3],enc p0.Head]) hE hM Za ld rfl rfl fun b1 w a hM hE=>ZO (cs:=enc p1) hE hM Za ld rfl rfl fun b3 w a hM hE=>Zc hE rfl fun a hE=>Ze (Zb (Zf hE rfl (XO) fun a hE=>Zy (v:=v0_2) hE rfl Qr rfl (At.cat (pre:=[[v0_1],[vI p0.Next]]) hM.rawAt1 ck) fun a hE=>qr hE Za ld rfl ?_))); intro a hE
 obtain ⟨r5,e6,hF⟩:=bind_some hF
 refine Zv hE rfl (cbm Tryz.func162) (V3 _ p0.Records v0_2 (hM.rdo hv0_2) (fun z0=>Yy z0 p0 p1) 163 [(ptr b1 0),(ptr b3 0)] (cbm Tryz.func163) (fun w2 hk2 z0 zu0_0 zh0_0 zu0_1 zh0_1 zr zhr=>KL w2 z0 zu0_0 zh0_0 zu0_1 zh0_1 b1 p0 v0_1 (A6 (hM.rdo hv0_1) hk2) v0_2 (A6 (hM.rdo hv0_2) hk2) v0_3 (A6 (hM.rdo hv0_3) hk2) (jG hM.rawAt1 hk2 (by simp [cat])) (B2 hM.rawAt1 hk2 (by simp [cat])) b3 p1 (jG hM.rawAt0 hk2 (Zbh (by decide))) (B2 hM.rawAt0 hk2 (Zbh (by decide))) zr zhr) r5 e6) ?_
 rintro v w a ⟨rfl,hK⟩ hE
 have hM:=hM.keep hK
 refine Zc hE rfl fun a hE=>Ze ?_
 obtain rfl:=Option.some.inj hF
 exact wp_ret (kr1 hE rfl rfl hM.kept)
def TH (p1 : Int) (p2 : Int) (s4 : Int × Int) : Option (Fl (Int × Int) Int) :=
 if (decide (s4.2 ≥ p2)) = true then (((Wm s4.2).bind fun _=>(if ((Q7 (Vy s4.1 s4.2) 1) == 1) = true then ((Wm (wr (s4.2 - p2))).bind fun _=>some (BF s4.1 (zZ p1 (wr (s4.2 - p2))))) else (some s4.1) : Option (Int)).bind fun j13=>some j13 : Option (Int)).bind fun j9=>some (Fl.nx (j9,wr (s4.2 - 1)))) else (some (Fl.ex s4.1))
def Qm (p0 : Int) (p1 : Int) (p2 : Int) : Option (Int) :=
 (ZB (TH p1 p2) (p0,15)).bind fun j1=>some j1
theorem jy (w0 : World) (p0 : Int) (p1 : Int) (p2 : Int) (r : Int) (hF : Qm p0 p1 p2 = some r) :
  Calls Tryz.prog 240 [vI p0,vI p1,vI p2].toArray w0 (Rt w0 (vI r)):=by
 refine ce Tryz.func240 ?_
 intro a hE
 have hM:=M.start w0
 unfold Qm at hF
 refine Zb (Zc hE rfl fun a hE=>Ze (wp_seq (Zb (Zc hE rfl fun a hE=>Ze ?_))))
 obtain ⟨j1,hl2,hF3⟩:=bind_some hF
 refine ZK (fun a w=>Env 26 a [(0,vI j1)] ∧ M (Old w0) w0 w []) ?_ ?_
 ·skip
  refine wp_block ?_
  refine ZE (fun (s4 : Int × Int) a w=>Env 26 a [(0,vI s4.1),(1,vI p1),(2,vI p2),(7,vI s4.2)] ∧ M (Old w0) w0 w []) hl2 ⟨hE.sub ⟨rfl,rfl,rfl,rfl,trivial⟩,hM⟩ ?_
  rintro s4 a w ⟨hE,hM⟩ o7 hs5 hx6
  unfold TH at hs5
  refine wp_seq (Zb (Zd hE rfl fun a hE=>Zd hE rfl fun a hE=>Zh hE rfl rfl rfl fun a hE=>Ze ?_))
  refine Zq hE rfl ?_ ?_
  ·intro hb8
   have hs5:=Zx hs5 hb8
   refine wp_skip (Zt ?_)
   obtain ⟨j9,hl10,hF11⟩:=bind_some hs5
   refine ZM (fun a w=>Env 26 a [(0,vI j9),(1,vI p1),(2,vI p2),(7,vI s4.2)] ∧ M (Old w0) w0 w []) ?_ ?_
   ·skip
    refine wp_block (Zb (Zd hE rfl fun a hE=>Zd hE rfl ?_)); intro a hE
    obtain ⟨_,e12,hl10⟩:=bind_some hl10
    have e12:=VR e12
    refine Bd hE Za ld rfl rfl (Jt _ _ e12) fun a hE=>Zh hE rfl rfl rfl fun a hE=>Zh hE rfl rfl rfl fun a hE=>Ze ?_
    obtain ⟨j13,hl14,hF15⟩:=bind_some hl10
    refine ZK (fun a w=>Env 26 a [(0,vI j13),(1,vI p1),(2,vI p2),(7,vI s4.2)] ∧ M (Old w0) w0 w []) ?_ ?_
    ·skip
     refine Zq hE rfl ?_ ?_
     ·intro hb16
      have hl14:=Zx hl14 hb16
      refine wp_region_lit (Zd hE rfl fun a hE=>Zd hE rfl fun a hE=>Zd hE rfl fun a hE=>Zd hE rfl fun a hE=>Zh hE rfl rfl rfl ?_); intro a hE
      obtain ⟨_,e17,hl14⟩:=bind_some hl14
      have e17:=VR e17
      refine Bd hE Za ld rfl rfl (qi _ _ e17) fun a hE=>Zh hE rfl rfl rfl fun a hE=>Zc hE rfl fun a hE=>Zg ?_
      obtain rfl:=Option.some.inj hl14
      refine Zj ?_
      exact ⟨hE.sub ⟨rfl,rfl,rfl,rfl,trivial⟩,hM⟩
     ·intro hb16
      have hl14:=Zw hl14 hb16
      refine wp_skip ?_
      obtain rfl:=Option.some.inj hl14
      refine Zj ?_
      exact ⟨hE.sub ⟨rfl,rfl,rfl,rfl,trivial⟩,hM⟩
    ·skip
     rintro a w ⟨hE,hM⟩
     refine Yc ?_
     obtain rfl:=Option.some.inj hF15
     refine Zj ?_
     exact ⟨hE.sub ⟨rfl,rfl,rfl,rfl,trivial⟩,hM⟩
   ·skip
    rintro a w ⟨hE,hM⟩
    refine wp_region_lit (Zd hE rfl fun a hE=>Zh hE rfl rfl rfl fun a hE=>Zc hE rfl fun a hE=>Zg (Zj ?_))
    exact ⟨_,(ois hF11),hE.sub ⟨rfl,rfl,rfl,rfl,trivial⟩,hM⟩
  ·intro hb8
   have hs5:=Zw hs5 hb8
   refine wp_exit (Zp (Zp (Ye ?_)))
   obtain rfl:=hx6 _ (ois hs5)
   refine Zj ?_
   exact ⟨hE.sub ⟨rfl,trivial⟩,hM⟩
 ·skip
  rintro a w ⟨hE,hM⟩
  refine Zt (Zb (Zd hE rfl fun a hE=>Zc hE rfl fun a hE=>Ze ?_))
  obtain rfl:=Option.some.inj hF3
  exact wp_ret (kr1 hE rfl rfl hM.kept)
def XQ (p1 : UInt8) (p2 : UInt8) (s4 : Int × Int) : Option (Fl (Int × Int) Int) :=
 if (decide (s4.2 < 8)) = true then (((Wm s4.2).bind fun _=>(if (((zb p2 s4.2) &&& 1) == 1) = true then ((Wm s4.2).bind fun _=>some (BF s4.1 (zZ (bI p1) s4.2))) else (some s4.1) : Option (Int)).bind fun j13=>some j13 : Option (Int)).bind fun j9=>some (Fl.nx (j9,wr (s4.2 + 1)))) else (some (Fl.ex s4.1))
def Yk (p0 : Int) (p1 : UInt8) (p2 : UInt8) : Option (UInt8) :=
 (ZB (XQ p1 p2) (0,0)).bind fun j1=>(Qm j1 p0 8).bind fun r22=>some (Zr r22)
theorem Y7 (w0 : World) (p0 : Int) (p1 : UInt8) (p2 : UInt8) (r : UInt8) (hF : Yk p0 p1 p2 = some r) :
  Calls Tryz.prog 233 [vI p0,vB p1,vB p2].toArray w0 (Rt w0 (vB r)):=by
 refine ce Tryz.func233 ?_
 intro a hE
 have hM:=M.start w0
 unfold Yk at hF
 refine Zb (Zc hE rfl fun a hE=>Ze (Zb (Zc hE rfl fun a hE=>Ze (wp_seq (Zb (Zd hE rfl fun a hE=>Ze ?_))))))
 obtain ⟨j1,hl2,hF3⟩:=bind_some hF
 refine ZK (fun a w=>Env 28 a [(0,vI p0),(7,vI j1)] ∧ M (Old w0) w0 w []) ?_ ?_
 ·skip
  refine wp_block ?_
  refine ZE (fun (s4 : Int × Int) a w=>Env 28 a [(0,vI p0),(1,vB p1),(2,vB p2),(7,vI s4.1),(9,vI s4.2)] ∧ M (Old w0) w0 w []) hl2 ⟨hE.sub ⟨rfl,rfl,rfl,rfl,rfl,trivial⟩,hM⟩ ?_
  rintro s4 a w ⟨hE,hM⟩ o7 hs5 hx6
  unfold XQ at hs5
  refine Zb (Zh hE rfl rfl rfl fun a hE=>Ze (wp_seq ?_))
  refine Zq hE rfl ?_ ?_
  ·intro hb8
   have hs5:=Zx hs5 hb8
   refine wp_skip (Zt ?_)
   obtain ⟨j9,hl10,hF11⟩:=bind_some hs5
   refine ZM (fun a w=>Env 28 a [(0,vI p0),(1,vB p1),(2,vB p2),(7,vI j9),(9,vI s4.2)] ∧ M (Old w0) w0 w []) ?_ ?_
   ·skip
    refine wp_block (Zb (Zd hE rfl fun a hE=>Zc hE rfl fun a hE=>Ze (Zb (Zd hE rfl fun a hE=>Zd hE rfl ?_)))); intro a hE
    obtain ⟨_,e12,hl10⟩:=bind_some hl10
    have e12:=VR e12
    refine Bd hE Za ld rfl rfl (Zbk _ _ e12) fun a hE=>Zh hE rfl rfl (bB_and (zb p2 s4.2) 1) fun a hE=>Zh hE rfl rfl (Zbb ((zb p2 s4.2) &&& 1) 1) fun a hE=>Ze ?_
    obtain ⟨j13,hl14,hF15⟩:=bind_some hl10
    refine ZK (fun a w=>Env 28 a [(0,vI p0),(1,vB p1),(2,vB p2),(7,vI j13),(9,vI s4.2)] ∧ M (Old w0) w0 w []) ?_ ?_
    ·skip
     refine Zq hE rfl ?_ ?_
     ·intro hb16
      have hl14:=Zx hl14 hb16
      refine wp_region_lit (Zd hE rfl fun a hE=>Zd hE rfl fun a hE=>AO hE Za ld rfl Tryz.underlying5 Tryz.underlying2 fun a hE=>Zd hE rfl ?_); intro a hE
      obtain ⟨_,e17,hl14⟩:=bind_some hl14
      have e17:=VR e17
      refine Bd hE Za ld rfl rfl (qi _ _ e17) fun a hE=>Zh hE rfl rfl rfl fun a hE=>Zc hE rfl fun a hE=>Zg ?_
      obtain rfl:=Option.some.inj hl14
      refine Zj ?_
      exact ⟨hE.sub ⟨rfl,rfl,rfl,rfl,rfl,trivial⟩,hM⟩
     ·intro hb16
      have hl14:=Zw hl14 hb16
      refine wp_skip ?_
      obtain rfl:=Option.some.inj hl14
      refine Zj ?_
      exact ⟨hE.sub ⟨rfl,rfl,rfl,rfl,rfl,trivial⟩,hM⟩
    ·skip
     rintro a w ⟨hE,hM⟩
     refine Yc ?_
     obtain rfl:=Option.some.inj hF15
     refine Zj ?_
     exact ⟨hE.sub ⟨rfl,rfl,rfl,rfl,rfl,trivial⟩,hM⟩
   ·skip
    rintro a w ⟨hE,hM⟩
    refine wp_region_lit (Zh hE rfl rfl rfl fun a hE=>Zd hE rfl fun a hE=>Zg (Zj ?_))
    exact ⟨_,(ois hF11),hE.sub ⟨rfl,rfl,rfl,rfl,rfl,trivial⟩,hM⟩
  ·intro hb8
   have hs5:=Zw hs5 hb8
   refine wp_exit (Zp (Zp (Ye ?_)))
   obtain rfl:=hx6 _ (ois hs5)
   refine Zj ?_
   exact ⟨hE.sub ⟨rfl,rfl,trivial⟩,hM⟩
 ·skip
  rintro a w ⟨hE,hM⟩
  refine Zt (Zb (Zd hE rfl fun a hE=>Zd hE rfl ?_)); intro a hE
  obtain ⟨r22,e23,hF3⟩:=bind_some hF3
  refine Zv hE rfl (cbm Tryz.func240) (jy _ j1 p0 8 r22 e23) ?_
  rintro v w a ⟨rfl,hK⟩ hE
  have hM:=hM.keep hK
  refine Yf hE Za ld rfl Tryz.underlying2 Tryz.underlying5 fun a hE=>Zc hE rfl fun a hE=>Ze ?_
  obtain rfl:=Option.some.inj hF3
  exact wp_ret (kr1 hE rfl rfl hM.kept)
def V7 (p0 : Int) (s4 : UInt8 × Int × UInt8) : Option (Fl (UInt8 × Int × UInt8) UInt8) :=
 if (decide (s4.2.1 > 0)) = true then (((if ((Int.tmod s4.2.1 2) == 1) = true then ((Yk p0 s4.2.2 s4.1).bind fun r16=>some r16) else (some s4.2.2) : Option (UInt8)).bind fun j12=>(Yk p0 s4.1 s4.1).bind fun r20=>some (r20,j12) : Option (UInt8 × UInt8)).bind fun j9=>some (Fl.nx (j9.1,wr (Int.tdiv s4.2.1 2),j9.2))) else (some (Fl.ex s4.2.2))
def X8 (p0 : Int) (p1 : UInt8) (p2 : Int) : Option (UInt8) :=
 (ZB (V7 p0) (p1,p2,1)).bind fun j1=>some j1
theorem Hx (w0 : World) (p0 : Int) (p1 : UInt8) (p2 : Int) (r : UInt8) (hF : X8 p0 p1 p2 = some r) :
  Calls Tryz.prog 234 [vI p0,vB p1,vI p2].toArray w0 (Rt w0 (vB r)):=by
 refine ce Tryz.func234 ?_
 intro a hE
 have hM:=M.start w0
 unfold X8 at hF
 refine Zb (Zc hE rfl fun a hE=>Ze (Zb (Zc hE rfl fun a hE=>Ze ?_)))
 obtain ⟨j1,hl2,hF3⟩:=bind_some hF
 refine ZM (fun a w=>Env 24 a [(7,vB j1)] ∧ M (Old w0) w0 w []) ?_ ?_
 ·skip
  refine wp_block ?_
  refine ZE (fun (s4 : UInt8 × Int × UInt8) a w=>Env 24 a [(0,vI p0),(1,vB s4.1),(2,vI s4.2.1),(7,vB s4.2.2)] ∧ M (Old w0) w0 w []) hl2 ⟨hE.sub ⟨rfl,rfl,rfl,rfl,trivial⟩,hM⟩ ?_
  rintro s4 a w ⟨hE,hM⟩ o7 hs5 hx6
  unfold V7 at hs5
  refine wp_seq (Zb (Zd hE rfl fun a hE=>Zh hE rfl rfl rfl fun a hE=>Ze ?_))
  refine Zq hE rfl ?_ ?_
  ·intro hb8
   have hs5:=Zx hs5 hb8
   refine wp_skip (Zt ?_)
   obtain ⟨j9,hl10,hF11⟩:=bind_some hs5
   refine ZM (fun a w=>Env 24 a [(0,vI p0),(1,vB j9.1),(2,vI s4.2.1),(7,vB j9.2)] ∧ M (Old w0) w0 w []) ?_ ?_
   ·skip
    refine wp_block ?_
    obtain ⟨j12,hl13,hF14⟩:=bind_some hl10
    refine ZM (fun a w=>Env 24 a [(0,vI p0),(1,vB s4.1),(2,vI s4.2.1),(7,vB j12)] ∧ M (Old w0) w0 w []) ?_ ?_
    ·skip
     refine Zb (Zd hE rfl fun a hE=>Zh hE rfl rfl (Kh _ _ (by decide)) fun a hE=>Zh hE rfl rfl rfl fun a hE=>Ze ?_)
     refine Zq hE rfl ?_ ?_
     ·intro hb15
      have hl13:=Zx hl13 hb15
      refine wp_region_lit (Zd hE rfl fun a hE=>Zd hE rfl fun a hE=>Zd hE rfl ?_); intro a hE
      obtain ⟨r16,e17,hl13⟩:=bind_some hl13
      refine Zv hE rfl B1 (Y7 _ p0 s4.2.2 s4.1 r16 e17) ?_
      rintro v w a ⟨rfl,hK⟩ hE
      have hM:=hM.keep hK
      refine Zc hE rfl fun a hE=>Zg ?_
      obtain rfl:=Option.some.inj hl13
      refine Zj ?_
      exact ⟨hE.sub ⟨rfl,rfl,rfl,rfl,trivial⟩,hM⟩
     ·intro hb15
      have hl13:=Zw hl13 hb15
      refine wp_skip ?_
      obtain rfl:=Option.some.inj hl13
      refine Zj ?_
      exact ⟨hE.sub ⟨rfl,rfl,rfl,rfl,trivial⟩,hM⟩
    ·skip
     rintro a w ⟨hE,hM⟩
     refine wp_region_lit (Zd hE rfl fun a hE=>Zd hE rfl fun a hE=>Zd hE rfl ?_); intro a hE
     obtain ⟨r20,e21,hF14⟩:=bind_some hF14
     refine Zv hE rfl B1 (Y7 _ p0 s4.1 s4.1 r20 e21) ?_
     rintro v w a ⟨rfl,hK⟩ hE
     have hM:=hM.keep hK
     refine Zc hE rfl fun a hE=>Zg (Yc ?_)
     obtain rfl:=Option.some.inj hF14
     refine Zj ?_
     exact ⟨hE.sub ⟨rfl,rfl,rfl,rfl,trivial⟩,hM⟩
   ·skip
    rintro a w ⟨hE,hM⟩
    refine wp_region_lit (Zd hE rfl fun a hE=>Zh hE rfl rfl (zB _ _ (by decide)) fun a hE=>Zc hE rfl fun a hE=>Zg (Zj ?_))
    exact ⟨_,(ois hF11),hE.sub ⟨rfl,rfl,rfl,rfl,trivial⟩,hM⟩
  ·intro hb8
   have hs5:=Zw hs5 hb8
   refine wp_exit (Zp (Zp (Ye ?_)))
   obtain rfl:=hx6 _ (ois hs5)
   refine Zj ?_
   exact ⟨hE.sub ⟨rfl,trivial⟩,hM⟩
 ·skip
  rintro a w ⟨hE,hM⟩
  refine Zb (Zd hE rfl fun a hE=>Zc hE rfl fun a hE=>Ze ?_)
  obtain rfl:=Option.some.inj hF3
  exact wp_ret (kr1 hE rfl rfl hM.kept)
def YD (p0 : Int) (p1 : UInt8) : Option (UInt8) :=
 (X8 p0 p1 254).bind fun r1=>some r1
theorem Ts (w0 : World) (p0 : Int) (p1 : UInt8) (r : UInt8) (hF : YD p0 p1 = some r) :
  Calls Tryz.prog 215 [vI p0,vB p1].toArray w0 (Rt w0 (vB r)):=by
 refine ce Tryz.func215 ?_
 intro a hE
 have hM:=M.start w0
 unfold YD at hF
 refine Zb (Zc hE rfl fun a hE=>Ze (Zb (Zd hE rfl fun a hE=>Zd hE rfl ?_))); intro a hE
 obtain ⟨r1,e2,hF⟩:=bind_some hF
 refine Zv hE rfl (cbm Tryz.func234) (Hx _ p0 p1 254 r1 e2) ?_
 rintro v w a ⟨rfl,hK⟩ hE
 have hM:=hM.keep hK
 refine Zc hE rfl fun a hE=>Ze ?_
 obtain rfl:=Option.some.inj hF
 exact wp_ret (kr1 hE rfl rfl hM.kept)
def Yx (p0 : UInt8) (p1 : Int) : Option (UInt8) :=
 (Wm (wru (BitVec.ofInt 64 (IntKind.u64.wrap p1) &&& BitVec.ofInt 64 7).toNat)).bind fun _=>(Wm (IntKind.u64.wrap (8 - (wru (BitVec.ofInt 64 (IntKind.u64.wrap p1) &&& BitVec.ofInt 64 7).toNat)))).bind fun _=>some ((shlB p0 (wru (BitVec.ofInt 64 (IntKind.u64.wrap p1) &&& BitVec.ofInt 64 7).toNat)) ||| (zb p0 (IntKind.u64.wrap (8 - (wru (BitVec.ofInt 64 (IntKind.u64.wrap p1) &&& BitVec.ofInt 64 7).toNat)))))
theorem Qq (w0 : World) (p0 : UInt8) (p1 : Int) (r : UInt8) (hF : Yx p0 p1 = some r) :
  Calls Tryz.prog 216 [vB p0,vI p1].toArray w0 (Rt w0 (vB r)):=by
 refine ce Tryz.func216 ?_
 intro a hE
 have hM:=M.start w0
 unfold Yx at hF
 refine Zb (Zc hE rfl fun a hE=>Ze (Zb (Zd hE rfl fun a hE=>A7 hE Za ld rfl Tryz.underlying3 Tryz.underlying171 fun a hE=>Zh hE rfl rfl rfl fun a hE=>Zc hE rfl fun a hE=>Ze (Zb (Zd hE rfl fun a hE=>Zd hE rfl ?_))))); intro a hE
 obtain ⟨_,e1,hF⟩:=bind_some hF
 have e1:=VR e1
 refine Bd hE Za ld rfl rfl (bB_shl _ _ e1) fun a hE=>Zd hE rfl fun a hE=>Zd hE rfl fun a hE=>Zh hE rfl rfl rfl ?_; intro a hE
 obtain ⟨_,e2,hF⟩:=bind_some hF
 have e2:=VR e2
 refine Bd hE Za ld rfl rfl (Zbk _ _ e2) fun a hE=>Zh hE rfl rfl (bB_or (shlB p0 (wru (BitVec.ofInt 64 (IntKind.u64.wrap p1) &&& BitVec.ofInt 64 7).toNat)) (zb p0 (IntKind.u64.wrap (8 - (wru (BitVec.ofInt 64 (IntKind.u64.wrap p1) &&& BitVec.ofInt 64 7).toNat))))) fun a hE=>Zc hE rfl fun a hE=>Ze ?_
 obtain rfl:=Option.some.inj hF
 exact wp_ret (kr1 hE rfl rfl hM.kept)
def WT (s8 : (Vector UInt8 256) × Int) : Option (Fl ((Vector UInt8 256) × Int) (Vector UInt8 256)) :=
 if (decide (s8.2 < 256)) = true then ((YD 285 (Zr s8.2)).bind fun r13=>(Yx r13 1).bind fun r15=>(Yx r13 4).bind fun r17=>(ZH s8.1 s8.2).bind fun x20=>some (Fl.nx ((s8.1.setIfInBounds (s8.2).toNat (((r13 ^^^ r15) ^^^ r17) ^^^ 90)),wr (s8.2 + 1)))) else (some (Fl.ex s8.1))
def Ub (s26 : (Vector (Vector UInt8 4) 4) × Int) (s34 : (Vector (Vector UInt8 4) 4) × Int) : Option (Fl ((Vector (Vector UInt8 4) 4) × Int) (Vector (Vector UInt8 4) 4)) :=
 if (decide (s34.2 < 4)) = true then ((YD 285 (Zr (BF s26.2 (wr (4 + s34.2))))).bind fun r40=>(ZH s34.1 s26.2).bind fun x43=>(ZH x43 s34.2).bind fun x46=>some (Fl.nx ((s34.1.setIfInBounds (s26.2).toNat (x43.setIfInBounds (s34.2).toNat r40)),wr (s34.2 + 1)))) else (some (Fl.ex s34.1))
def V8 (s26 : (Vector (Vector UInt8 4) 4) × Int) : Option (Fl ((Vector (Vector UInt8 4) 4) × Int) (Vector (Vector UInt8 4) 4)) :=
 if (decide (s26.2 < 4)) = true then ((ZB (Ub s26) (s26.1,0)).bind fun j31=>some (Fl.nx (j31,wr (s26.2 + 1)))) else (some (Fl.ex s26.1))
def V6 (s53 : (Vector UInt8 16) × Int) : Option (Fl ((Vector UInt8 16) × Int) (Vector UInt8 16)) :=
 if (decide (s53.2 < 16)) = true then ((ZH s53.1 s53.2).bind fun x59=>some (Fl.nx ((s53.1.setIfInBounds (s53.2).toNat (Zr (Int.tmod (wr ((wr (13 * s53.2)) + 4)) 16))),wr (s53.2 + 1)))) else (some (Fl.ex s53.1))
def Vx (p0 : Int) : Option (GCipher) :=
 (ZB (WT) ((Vector.replicate 256 (0 : UInt8)),0)).bind fun j5=>(ZB (V8) ((Vector.replicate 4 (Vector.replicate 4 (0 : UInt8))),0)).bind fun j23=>(ZB (V6) ((Vector.replicate 16 (0 : UInt8)),0)).bind fun j50=>some (⟨285,j5,j23,j50,p0⟩ : GCipher)
theorem Hm (w0 : World) (p0 : Int) (r : GCipher) (hF : Vx p0 = some r) :
  Calls Tryz.prog 180 [vI p0].toArray w0 (Rt w0 (Value.agg (enc r).toArray)):=by
 refine ce Tryz.func180 ?_
 intro a hE
 have hM:=M.start w0
 unfold Vx at hF
 refine Zb (Zz hE hM VU fun b1 w a hM hE=>Ze (Zb (Zd hE rfl fun a hE=>Y8 (parts:=[(0,.const (vI 285)),(4,.tmp 9)]) (vs:=[(0,vI 285),(4,vI p0)]) (cs:=cat [[vI 285],enc (Vector.replicate 256 (0 : UInt8)),enc (Vector.replicate 4 (Vector.replicate 4 (0 : UInt8))),enc (Vector.replicate 16 (0 : UInt8)),[vI p0]]) hE Za ld rfl rfl VU pl163 (Z5 (pre:=[]) (seg:=[vI 0]) (seg':=[vI 285]) (post:=[enc (Vector.replicate 256 (0 : UInt8)),enc (Vector.replicate 4 (Vector.replicate 4 (0 : UInt8))),enc (Vector.replicate 16 (0 : UInt8)),[vI 0]]) rfl cl0 rfl rfl rfl (Z5 (pre:=[[vI 285],enc (Vector.replicate 256 (0 : UInt8)),enc (Vector.replicate 4 (Vector.replicate 4 (0 : UInt8))),enc (Vector.replicate 16 (0 : UInt8))]) (seg:=[vI 0]) (seg':=[vI p0]) (post:=[]) rfl ck rfl rfl rfl Wu)) fun a hE=>Zz hE hM VU fun b3 w a hM hE=>Zl (seg:=cat [[vI 285],enc (Vector.replicate 256 (0 : UInt8)),enc (Vector.replicate 4 (Vector.replicate 4 (0 : UInt8))),enc (Vector.replicate 16 (0 : UInt8)),[vI p0]]) (cs':=cat [[vI 285],enc (Vector.replicate 256 (0 : UInt8)),enc (Vector.replicate 4 (Vector.replicate 4 (0 : UInt8))),enc (Vector.replicate 16 (0 : UInt8)),[vI p0]]) hE hM Za rfl rfl rfl VU cq (Nat.le_of_eq ((Nat.zero_add _).trans (Eq.trans cq (Eq.symm cq)))) (ZZ (cc1 (Flat.cell (285 : Int)) (cc1 (Flat.cell _) (cc1 (Flat.cell _) (cc1 (Flat.cell _) (cc1 (Flat.cell (p0 : Int)) cc0)))))) (Zi (Eq.trans cq (Eq.symm cq))) fun w a hM hE=>Ze (wp_seq (Zb (Zd hE rfl fun a hE=>Ze ?_))))))
 obtain ⟨j5,hl6,hF7⟩:=bind_some hF
 refine ZK (fun a w=>Env 61 a [(2,(ptr b1 0)),(3,(ptr b3 0))] ∧ M (Old w0) w0 w [raw b3 (cat [[vI 285],enc j5,enc (Vector.replicate 4 (Vector.replicate 4 (0 : UInt8))),enc (Vector.replicate 16 (0 : UInt8)),[vI p0]]),raw b1 (cat [[vI 0],enc (Vector.replicate 256 (0 : UInt8)),enc (Vector.replicate 4 (Vector.replicate 4 (0 : UInt8))),enc (Vector.replicate 16 (0 : UInt8)),[vI 0]])]) ?_ ?_
 ·skip
  refine wp_block ?_
  refine ZE (fun (s8 : (Vector UInt8 256) × Int) a w=>Env 61 a [(2,(ptr b1 0)),(3,(ptr b3 0)),(11,vI s8.2)] ∧ M (Old w0) w0 w [raw b3 (cat [[vI 285],enc s8.1,enc (Vector.replicate 4 (Vector.replicate 4 (0 : UInt8))),enc (Vector.replicate 16 (0 : UInt8)),[vI p0]]),raw b1 (cat [[vI 0],enc (Vector.replicate 256 (0 : UInt8)),enc (Vector.replicate 4 (Vector.replicate 4 (0 : UInt8))),enc (Vector.replicate 16 (0 : UInt8)),[vI 0]])]) hl6 ⟨hE.sub ⟨rfl,rfl,rfl,trivial⟩,hM⟩ ?_
  rintro s8 a w ⟨hE,hM⟩ o11 hs9 hx10
  unfold WT at hs9
  refine Zb (Zh hE rfl rfl rfl fun a hE=>Ze (wp_seq ?_))
  refine Zq hE rfl ?_ ?_
  ·intro hb12
   have hs9:=Zx hs9 hb12
   refine wp_skip (Zt (wp_seq (wp_block (Zb (Zd hE rfl fun a hE=>Zc hE rfl fun a hE=>Ze (Zb (Zd hE rfl fun a hE=>Yf hE Za ld rfl Tryz.underlying3 Tryz.underlying5 ?_))))))); intro a hE
   obtain ⟨r13,e14,hs9⟩:=bind_some hs9
   refine Zv hE rfl Zbj (Ts _ 285 (Zr s8.2) r13 e14) ?_
   rintro v w a ⟨rfl,hK⟩ hE
   have hM:=hM.keep hK
   refine Zc hE rfl fun a hE=>Ze (wp_region_lit (Zd hE rfl fun a hE=>Zd hE rfl fun a hE=>Zd hE rfl ?_)); intro a hE
   obtain ⟨r15,e16,hs9⟩:=bind_some hs9
   refine Zv hE rfl (cbm Tryz.func216) (Qq _ r13 1 r15 e16) ?_
   rintro v w a ⟨rfl,hK⟩ hE
   have hM:=hM.keep hK
   refine Zh hE rfl rfl (Vu r13 r15) fun a hE=>Zd hE rfl ?_; intro a hE
   obtain ⟨r17,e18,hs9⟩:=bind_some hs9
   refine Zv hE rfl (cbm Tryz.func216) (Qq _ r13 4 r17 e18) ?_
   rintro v w a ⟨rfl,hK⟩ hE
   have hM:=hM.keep hK
   refine Zh hE rfl rfl (Vu (r13 ^^^ r15) r17) fun a hE=>Zh hE rfl rfl (Vu ((r13 ^^^ r15) ^^^ r17) 90) fun a hE=>Zf hE rfl (JQ) ?_; intro a hE
   obtain ⟨x20,hi19,hs9⟩:=bvx hs9
   refine ZC hE rfl rfl Tryz.underlying157 ty5 hi19.1 fun a hE=>Zl (seg:=[(vB (((r13 ^^^ r15) ^^^ r17) ^^^ 90))]) (cs':=cat [[vI 285],enc (s8.1.setIfInBounds (s8.2).toNat (((r13 ^^^ r15) ^^^ r17) ^^^ 90)),enc (Vector.replicate 4 (Vector.replicate 4 (0 : UInt8))),enc (Vector.replicate 16 (0 : UInt8)),[vI p0]]) hE hM Za rfl rfl rfl ty5 rfl (JL (o':=0 + (s8.2).toNat * 1) (pre:=[[vI 285]]) (seg:=enc s8.1) (post:=[enc (Vector.replicate 4 (Vector.replicate 4 (0 : UInt8))),enc (Vector.replicate 16 (0 : UInt8)),[vI p0]]) ck (ZR (v:=s8.1) (x:=((r13 ^^^ r15) ^^^ r17) ^^^ 90) hi19.1) (by first | omega | (simp only [Flat.n] <;> omega))) (Flat.cell (((r13 ^^^ r15) ^^^ r17) ^^^ 90 : UInt8)) (UA (o':=0 + (s8.2).toNat * 1) (pre:=[[vI 285]]) (seg:=enc s8.1) (post:=[enc (Vector.replicate 4 (Vector.replicate 4 (0 : UInt8))),enc (Vector.replicate 16 (0 : UInt8)),[vI p0]]) ck (ZR (v:=s8.1) (x:=((r13 ^^^ r15) ^^^ r17) ^^^ 90) hi19.1) (ZF (v:=s8.1) (x:=((r13 ^^^ r15) ^^^ r17) ^^^ 90) hi19.1) (by first | omega | (simp only [Flat.n] <;> omega))) fun w a hM hE=>Zg (Yc (Zt (wp_region_lit (Zh hE rfl rfl rfl fun a hE=>Zd hE rfl fun a hE=>Zg (Zj ?_)))))
   exact ⟨_,(ois hs9),hE.sub ⟨rfl,rfl,rfl,trivial⟩,hM⟩
  ·intro hb12
   have hs9:=Zw hs9 hb12
   refine wp_exit (Zp (Zp (Ye ?_)))
   obtain rfl:=hx10 _ (ois hs9)
   refine Zj ?_
   exact ⟨hE.sub ⟨rfl,rfl,trivial⟩,hM⟩
 ·skip
  rintro a w ⟨hE,hM⟩
  refine Zt (wp_seq (Zb (Zd hE rfl fun a hE=>Ze ?_)))
  obtain ⟨j23,hl24,hF25⟩:=bind_some hF7
  refine ZK (fun a w=>Env 61 a [(2,(ptr b1 0)),(3,(ptr b3 0))] ∧ M (Old w0) w0 w [raw b3 (cat [[vI 285],enc j5,enc j23,enc (Vector.replicate 16 (0 : UInt8)),[vI p0]]),raw b1 (cat [[vI 0],enc (Vector.replicate 256 (0 : UInt8)),enc (Vector.replicate 4 (Vector.replicate 4 (0 : UInt8))),enc (Vector.replicate 16 (0 : UInt8)),[vI 0]])]) ?_ ?_
  ·skip
   refine wp_block ?_
   refine ZE (fun (s26 : (Vector (Vector UInt8 4) 4) × Int) a w=>Env 61 a [(2,(ptr b1 0)),(3,(ptr b3 0)),(29,vI s26.2)] ∧ M (Old w0) w0 w [raw b3 (cat [[vI 285],enc j5,enc s26.1,enc (Vector.replicate 16 (0 : UInt8)),[vI p0]]),raw b1 (cat [[vI 0],enc (Vector.replicate 256 (0 : UInt8)),enc (Vector.replicate 4 (Vector.replicate 4 (0 : UInt8))),enc (Vector.replicate 16 (0 : UInt8)),[vI 0]])]) hl24 ⟨hE.sub ⟨rfl,rfl,rfl,trivial⟩,hM⟩ ?_
   rintro s26 a w ⟨hE,hM⟩ o29 hs27 hx28
   unfold V8 at hs27
   refine Zb (Zh hE rfl rfl rfl fun a hE=>Ze (wp_seq ?_))
   refine Zq hE rfl ?_ ?_
   ·intro hb30
    have hs27:=Zx hs27 hb30
    refine wp_skip (Zt (wp_seq (wp_block (Zb (Zd hE rfl fun a hE=>Zc hE rfl fun a hE=>Ze (Zb (Zd hE rfl fun a hE=>Ze ?_)))))))
    obtain ⟨j31,hl32,hF33⟩:=bind_some hs27
    refine ZK (fun a w=>Env 61 a [(2,(ptr b1 0)),(3,(ptr b3 0)),(29,vI s26.2)] ∧ M (Old w0) w0 w [raw b3 (cat [[vI 285],enc j5,enc j31,enc (Vector.replicate 16 (0 : UInt8)),[vI p0]]),raw b1 (cat [[vI 0],enc (Vector.replicate 256 (0 : UInt8)),enc (Vector.replicate 4 (Vector.replicate 4 (0 : UInt8))),enc (Vector.replicate 16 (0 : UInt8)),[vI 0]])]) ?_ ?_
    ·skip
     refine wp_block ?_
     refine ZE (fun (s34 : (Vector (Vector UInt8 4) 4) × Int) a w=>Env 61 a [(2,(ptr b1 0)),(3,(ptr b3 0)),(6,vI s26.2),(29,vI s26.2),(32,vI s34.2)] ∧ M (Old w0) w0 w [raw b3 (cat [[vI 285],enc j5,enc s34.1,enc (Vector.replicate 16 (0 : UInt8)),[vI p0]]),raw b1 (cat [[vI 0],enc (Vector.replicate 256 (0 : UInt8)),enc (Vector.replicate 4 (Vector.replicate 4 (0 : UInt8))),enc (Vector.replicate 16 (0 : UInt8)),[vI 0]])]) hl32 ⟨hE.sub ⟨rfl,rfl,rfl,rfl,rfl,trivial⟩,hM⟩ ?_
     rintro s34 a w ⟨hE,hM⟩ o37 hs35 hx36
     unfold Ub at hs35
     refine Zb (Zh hE rfl rfl rfl fun a hE=>Ze (wp_seq ?_))
     refine Zq hE rfl ?_ ?_
     ·intro hb38
      have hs35:=Zx hs35 hb38
      refine wp_skip (Zt (wp_seq (wp_block (Zb (Zd hE rfl fun a hE=>Zc hE rfl fun a hE=>Ze ?_)))))
      obtain ⟨r40,e41,hs35⟩:=bind_some hs35
      obtain ⟨x43,hi42,hs35⟩:=bvx hs35
      obtain ⟨x46,hi45,hs35⟩:=bvx hs35
      refine Yj [35,36,37,38,39,40,41,42,43,44,45] YL rfl rfl (by decide) rfl hE hM (qsP (fun z=>Zu z.E Za ld rfl (kr0 rfl)) (qsP (fun z=>Zu z.E Za ld rfl (kr0 rfl)) (qsP (fun z=>Zu z.E Za ld rfl (kr0 rfl)) (qsP (fun z=>Zu z.E Za ld rfl (kr0 rfl)) (qsP (v:=(vI (wr (4 + s34.2)))) (fun z=>Yb z.E Za ld rfl rfl rfl (kr0 rfl)) (qsP (v:=(vI (BF s26.2 (wr (4 + s34.2))))) (fun z=>Yb z.E Za ld rfl rfl rfl (kr0 rfl)) (qsP (fun z=>Yf z.E Za ld rfl Tryz.underlying3 Tryz.underlying5 (kr0 rfl)) (qsP (fun z=>Z7 z.E Za ld rfl Zbj (Ts _ 285 (Zr (BF s26.2 (wr (4 + s34.2)))) r40 e41) (kc rfl)) (qsP (fun z=>Zk z.E Za ld rfl (Bb) (kr0 rfl)) (qsP (fun z=>ZG z.E Za ld rfl rfl Tryz.underlying160 XX hi42.1 (kr0 rfl)) (qsP (fun z=>ZG z.E Za ld rfl rfl Tryz.underlying158 ty5 hi45.1 (kr0 rfl)) qs0))))))))))) ?_
      ·intro a w u hE hM
       refine Zl (seg:=[vB r40]) (cs':=cat [[vI 285],enc j5,enc (s34.1.setIfInBounds (s26.2).toNat (x43.setIfInBounds (s34.2).toNat r40)),enc (Vector.replicate 16 (0 : UInt8)),[vI p0]]) hE hM Za rfl rfl rfl ty5 rfl (JL (o':=(s26.2).toNat * 4 + (0 + (s34.2).toNat * 1)) (pre:=[[vI 285],enc j5]) (seg:=enc s34.1) (post:=[enc (Vector.replicate 16 (0 : UInt8)),[vI p0]]) ck (UP (o':=0 + (s34.2).toNat * 1) hi42 (ZR (v:=x43) (x:=r40) hi45.1) (by first | omega | (simp only [Flat.n] <;> omega))) (by first | omega | (simp only [Flat.n] <;> omega))) (Flat.cell (r40 : UInt8)) (UA (o':=(s26.2).toNat * 4 + (0 + (s34.2).toNat * 1)) (pre:=[[vI 285],enc j5]) (seg:=enc s34.1) (post:=[enc (Vector.replicate 16 (0 : UInt8)),[vI p0]]) ck (UP (o':=0 + (s34.2).toNat * 1) hi42 (ZR (v:=x43) (x:=r40) hi45.1) (by first | omega | (simp only [Flat.n] <;> omega))) (VW (o':=0 + (s34.2).toNat * 1) hi42 (ZR (v:=x43) (x:=r40) hi45.1) (ZF (v:=x43) (x:=r40) hi45.1) (by first | omega | (simp only [Flat.n] <;> omega))) (by first | omega | (simp only [Flat.n] <;> omega))) fun w a hM hE=>Zg (Yc (Zt (wp_region_lit (Zh hE rfl rfl rfl fun a hE=>Zd hE rfl fun a hE=>Zg (Zj ?_)))))
       exact ⟨_,(ois hs35),hE.sub ⟨rfl,rfl,rfl,rfl,rfl,trivial⟩,hM⟩
     ·intro hb38
      have hs35:=Zw hs35 hb38
      refine wp_exit (Zp (Zp (Ye ?_)))
      obtain rfl:=hx36 _ (ois hs35)
      refine Zj ?_
      exact ⟨hE.sub ⟨rfl,rfl,rfl,trivial⟩,hM⟩
    ·skip
     rintro a w ⟨hE,hM⟩
     refine Yc (Zt (wp_region_lit (Zh hE rfl rfl rfl fun a hE=>Zd hE rfl fun a hE=>Zg (Zj ?_))))
     exact ⟨_,(ois hF33),hE.sub ⟨rfl,rfl,rfl,trivial⟩,hM⟩
   ·intro hb30
    have hs27:=Zw hs27 hb30
    refine wp_exit (Zp (Zp (Ye ?_)))
    obtain rfl:=hx28 _ (ois hs27)
    refine Zj ?_
    exact ⟨hE.sub ⟨rfl,rfl,trivial⟩,hM⟩
  ·skip
   rintro a w ⟨hE,hM⟩
   refine Zt (wp_seq (Zb (Zd hE rfl fun a hE=>Ze ?_)))
   obtain ⟨j50,hl51,hF52⟩:=bind_some hF25
   refine ZK (fun a w=>Env 61 a [(2,(ptr b1 0)),(3,(ptr b3 0))] ∧ M (Old w0) w0 w [raw b3 (cat [[vI 285],enc j5,enc j23,enc j50,[vI p0]]),raw b1 (cat [[vI 0],enc (Vector.replicate 256 (0 : UInt8)),enc (Vector.replicate 4 (Vector.replicate 4 (0 : UInt8))),enc (Vector.replicate 16 (0 : UInt8)),[vI 0]])]) ?_ ?_
   ·skip
    refine wp_block ?_
    refine ZE (fun (s53 : (Vector UInt8 16) × Int) a w=>Env 61 a [(2,(ptr b1 0)),(3,(ptr b3 0)),(48,vI s53.2)] ∧ M (Old w0) w0 w [raw b3 (cat [[vI 285],enc j5,enc j23,enc s53.1,[vI p0]]),raw b1 (cat [[vI 0],enc (Vector.replicate 256 (0 : UInt8)),enc (Vector.replicate 4 (Vector.replicate 4 (0 : UInt8))),enc (Vector.replicate 16 (0 : UInt8)),[vI 0]])]) hl51 ⟨hE.sub ⟨rfl,rfl,rfl,trivial⟩,hM⟩ ?_
    rintro s53 a w ⟨hE,hM⟩ o56 hs54 hx55
    unfold V6 at hs54
    refine Zb (Zh hE rfl rfl rfl fun a hE=>Ze (wp_seq ?_))
    refine Zq hE rfl ?_ ?_
    ·intro hb57
     have hs54:=Zx hs54 hb57
     refine wp_skip (Zt (wp_seq (wp_block (Zb (Zd hE rfl fun a hE=>Zc hE rfl fun a hE=>Ze (wp_region_lit (Zd hE rfl fun a hE=>Zd hE rfl fun a hE=>Zh hE rfl rfl rfl fun a hE=>Zh hE rfl rfl rfl fun a hE=>Zh hE rfl rfl (Kh _ _ (by decide)) fun a hE=>Yf hE Za ld rfl Tryz.underlying3 Tryz.underlying5 fun a hE=>Zf hE rfl (Bk) ?_))))))); intro a hE
     obtain ⟨x59,hi58,hs54⟩:=bvx hs54
     refine ZC hE rfl rfl Tryz.underlying161 ty5 hi58.1 fun a hE=>Zl (seg:=[(vB (Zr (Int.tmod (wr ((wr (13 * s53.2)) + 4)) 16)))]) (cs':=cat [[vI 285],enc j5,enc j23,enc (s53.1.setIfInBounds (s53.2).toNat (Zr (Int.tmod (wr ((wr (13 * s53.2)) + 4)) 16))),[vI p0]]) hE hM Za rfl rfl rfl ty5 rfl (JL (o':=0 + (s53.2).toNat * 1) (pre:=[[vI 285],enc j5,enc j23]) (seg:=enc s53.1) (post:=[[vI p0]]) ck (ZR (v:=s53.1) (x:=Zr (Int.tmod (wr ((wr (13 * s53.2)) + 4)) 16)) hi58.1) (by first | omega | (simp only [Flat.n] <;> omega))) (Flat.cell (Zr (Int.tmod (wr ((wr (13 * s53.2)) + 4)) 16) : UInt8)) (UA (o':=0 + (s53.2).toNat * 1) (pre:=[[vI 285],enc j5,enc j23]) (seg:=enc s53.1) (post:=[[vI p0]]) ck (ZR (v:=s53.1) (x:=Zr (Int.tmod (wr ((wr (13 * s53.2)) + 4)) 16)) hi58.1) (ZF (v:=s53.1) (x:=Zr (Int.tmod (wr ((wr (13 * s53.2)) + 4)) 16)) hi58.1) (by first | omega | (simp only [Flat.n] <;> omega))) fun w a hM hE=>Zg (Yc (Zt (wp_region_lit (Zh hE rfl rfl rfl fun a hE=>Zd hE rfl fun a hE=>Zg (Zj ?_)))))
     exact ⟨_,(ois hs54),hE.sub ⟨rfl,rfl,rfl,trivial⟩,hM⟩
    ·intro hb57
     have hs54:=Zw hs54 hb57
     refine wp_exit (Zp (Zp (Ye ?_)))
     obtain rfl:=hx55 _ (ois hs54)
     refine Zj ?_
     exact ⟨hE.sub ⟨rfl,rfl,trivial⟩,hM⟩
   ·skip
    rintro a w ⟨hE,hM⟩
    refine Zt (Zb (Zn hE rfl VU rfl hM.rawAt0 cq ?_)); intro a hE
    have hM:=hM.pull1
    refine Zl (seg:=cat [[(vI ((⟨285,j5,j23,j50,p0⟩ : GCipher).Field))],enc ((⟨285,j5,j23,j50,p0⟩ : GCipher).Box),enc ((⟨285,j5,j23,j50,p0⟩ : GCipher).Mix),enc ((⟨285,j5,j23,j50,p0⟩ : GCipher).Places),[(vI ((⟨285,j5,j23,j50,p0⟩ : GCipher).Rounds))]]) (cs':=cat [[(vI ((⟨285,j5,j23,j50,p0⟩ : GCipher).Field))],enc ((⟨285,j5,j23,j50,p0⟩ : GCipher).Box),enc ((⟨285,j5,j23,j50,p0⟩ : GCipher).Mix),enc ((⟨285,j5,j23,j50,p0⟩ : GCipher).Places),[(vI ((⟨285,j5,j23,j50,p0⟩ : GCipher).Rounds))]]) hE hM Za rfl rfl rfl VU cq (Nat.le_of_eq ((Nat.zero_add _).trans (Eq.trans cq (Eq.symm cq)))) (ZZ (cc1 (Flat.cell ((⟨285,j5,j23,j50,p0⟩ : GCipher).Field : Int)) (cc1 (Flat.cell _) (cc1 (Flat.cell _) (cc1 (Flat.cell _) (cc1 (Flat.cell ((⟨285,j5,j23,j50,p0⟩ : GCipher).Rounds : Int)) cc0)))))) (Zi (Eq.trans cq (Eq.symm cq))) fun w a hM hE=>Ze ?_
    obtain rfl:=Option.some.inj hF52
    have hq62 : Yl Tryz.prog _ _ (.cell 2 163) _:=ZI hE rfl VU rfl hM.rawAt0 cq rfl
    exact wp_ret (ZJ hE rfl hq62 ⟨_,rfl,rfl,hM.kept⟩)
def Qk (s8 : (Vector (Vector UInt8 4) 4) × Int) : Option (Fl ((Vector (Vector UInt8 4) 4) × Int) (Vector (Vector UInt8 4) 4)) :=
 if (decide (s8.2 < 4)) = true then ((ZH s8.1 s8.2).bind fun x14=>(ZH x14 s8.2).bind fun x17=>some (Fl.nx ((s8.1.setIfInBounds (s8.2).toNat (x14.setIfInBounds (s8.2).toNat 1)),wr (s8.2 + 1)))) else (some (Fl.ex s8.1))
def VO : Option ((Vector (Vector UInt8 4) 4)) :=
 (ZB (Qk) ((Vector.replicate 4 (Vector.replicate 4 (0 : UInt8))),0)).bind fun j5=>some j5
theorem Bo (w0 : World)  (r : (Vector (Vector UInt8 4) 4)) (hF : VO  = some r) :
  Calls Tryz.prog 232 [].toArray w0 (Rt w0 (Value.agg (enc r).toArray)):=by
 refine ce Tryz.func232 ?_
 intro a hE
 have hM:=M.start w0
 unfold VO at hF
 refine Zb (Zz hE hM Tv fun b1 w a hM hE=>Ze (Zb (Wd (parts:=[]) (vs:=[]) (cs:=enc (Vector.replicate 4 (Vector.replicate 4 (0 : UInt8)))) hE Za ld rfl rfl Tv rfl XX XF fun a hE=>Zz hE hM Tv fun b3 w a hM hE=>Zl (seg:=enc (Vector.replicate 4 (Vector.replicate 4 (0 : UInt8)))) (cs':=enc (Vector.replicate 4 (Vector.replicate 4 (0 : UInt8)))) hE hM Za rfl rfl rfl Tv (Flat.len _) (zle flq) (Flat.cell _) (Zi flq) fun w a hM hE=>Ze (wp_seq (Zb (Zd hE rfl fun a hE=>Ze ?_))))))
 obtain ⟨j5,hl6,hF7⟩:=bind_some hF
 refine ZK (fun a w=>Env 13 a [(0,(ptr b1 0)),(1,(ptr b3 0))] ∧ M (Old w0) w0 w [raw b3 (enc j5),raw b1 (enc (Vector.replicate 4 (Vector.replicate 4 (0 : UInt8))))]) ?_ ?_
 ·skip
  refine wp_block ?_
  refine ZE (fun (s8 : (Vector (Vector UInt8 4) 4) × Int) a w=>Env 13 a [(0,(ptr b1 0)),(1,(ptr b3 0)),(4,vI s8.2)] ∧ M (Old w0) w0 w [raw b3 (enc s8.1),raw b1 (enc (Vector.replicate 4 (Vector.replicate 4 (0 : UInt8))))]) hl6 ⟨hE.sub ⟨rfl,rfl,rfl,trivial⟩,hM⟩ ?_
  rintro s8 a w ⟨hE,hM⟩ o11 hs9 hx10
  unfold Qk at hs9
  refine Zb (Zh hE rfl rfl rfl fun a hE=>Ze (wp_seq ?_))
  refine Zq hE rfl ?_ ?_
  ·intro hb12
   have hs9:=Zx hs9 hb12
   refine wp_skip (Zt (wp_seq (wp_block (Zb (Zd hE rfl fun a hE=>Zc hE rfl fun a hE=>Ze (wp_region_lit (Zd hE rfl fun a hE=>Zd hE rfl ?_))))))); intro a hE
   obtain ⟨x14,hi13,hs9⟩:=bvx hs9
   refine ZC hE rfl rfl Tryz.underlying160 XX hi13.1 ?_; intro a hE
   obtain ⟨x17,hi16,hs9⟩:=bvx hs9
   refine ZC hE rfl rfl Tryz.underlying158 ty5 hi16.1 fun a hE=>Zl (seg:=[vB 1]) (cs':=enc (s8.1.setIfInBounds (s8.2).toNat (x14.setIfInBounds (s8.2).toNat 1))) hE hM Za rfl rfl rfl ty5 rfl (UP (o':=0 + (s8.2).toNat * 1) hi13 (ZR (v:=x14) (x:=1) hi16.1) (by first | omega | (simp only [Flat.n] <;> omega))) (Flat.cell (1 : UInt8)) (VW (o':=0 + (s8.2).toNat * 1) hi13 (ZR (v:=x14) (x:=1) hi16.1) (ZF (v:=x14) (x:=1) hi16.1) (by first | omega | (simp only [Flat.n] <;> omega))) fun w a hM hE=>Zg (Yc (Zt (wp_region_lit (Zh hE rfl rfl rfl fun a hE=>Zd hE rfl fun a hE=>Zg (Zj ?_)))))
   exact ⟨_,(ois hs9),hE.sub ⟨rfl,rfl,rfl,trivial⟩,hM⟩
  ·intro hb12
   have hs9:=Zw hs9 hb12
   refine wp_exit (Zp (Zp (Ye ?_)))
   obtain rfl:=hx10 _ (ois hs9)
   refine Zj ?_
   exact ⟨hE.sub ⟨rfl,rfl,trivial⟩,hM⟩
 ·skip
  rintro a w ⟨hE,hM⟩
  refine Zt (Zb (Zn hE rfl Tv rfl hM.rawAt0 (Flat.len _) ?_)); intro a hE
  have hM:=hM.pull1
  refine Zl (seg:=enc j5) (cs':=enc j5) hE hM Za rfl rfl rfl Tv (Flat.len _) (zle flq) (Flat.cell _) (Zi flq) fun w a hM hE=>Ze ?_
  obtain rfl:=Option.some.inj hF7
  have hq20 : Yl Tryz.prog _ _ (.cell 0 160) _:=ZI hE rfl Tv rfl hM.rawAt0 (Flat.len _) rfl
  exact wp_ret (ZJ hE rfl hq20 ⟨_,rfl,rfl,hM.kept⟩)
def Tu (s13 : (Vector (Vector UInt8 4) 4) × (Vector (Vector UInt8 4) 4) × Int × UInt8) (s21 : Int) : Option (Fl Int Int) :=
 (if (decide (s21 < 4)) = true then ((ZH s13.1 s21).bind fun x30=>(ZH x30 s13.2.2.1).bind fun x33=>some (x33 == 0)) else (some false) : Option (Bool)).bind fun j25=>if j25 = true then (some (Fl.nx (wr (s21 + 1)))) else (some (Fl.ex s21))
def Wo (p0 : Int) (s13 : (Vector (Vector UInt8 4) 4) × (Vector (Vector UInt8 4) 4) × Int × UInt8) (r90 : UInt8) (s95 : (Vector (Vector UInt8 4) 4) × (Vector (Vector UInt8 4) 4) × Int) : Option (Fl ((Vector (Vector UInt8 4) 4) × (Vector (Vector UInt8 4) 4) × Int) ((Vector (Vector UInt8 4) 4) × (Vector (Vector UInt8 4) 4))) :=
 if (decide (s95.2.2 < 4)) = true then ((ZH s95.1 s13.2.2.1).bind fun x102=>(ZH x102 s95.2.2).bind fun x105=>(Yk p0 x105 r90).bind fun r107=>(ZH s95.2.1 s13.2.2.1).bind fun x110=>(ZH x110 s95.2.2).bind fun x113=>(Yk p0 x113 r90).bind fun r115=>(ZH s95.1 s13.2.2.1).bind fun x118=>(ZH x118 s95.2.2).bind fun x121=>(ZH s95.2.1 s13.2.2.1).bind fun x124=>(ZH x124 s95.2.2).bind fun x127=>some (Fl.nx ((s95.1.setIfInBounds (s13.2.2.1).toNat (x118.setIfInBounds (s95.2.2).toNat r107)),(s95.2.1.setIfInBounds (s13.2.2.1).toNat (x124.setIfInBounds (s95.2.2).toNat r115)),wr (s95.2.2 + 1)))) else (some (Fl.ex (s95.1,s95.2.1)))
def Wq (p0 : Int) (s13 : (Vector (Vector UInt8 4) 4) × (Vector (Vector UInt8 4) 4) × Int × UInt8) (s133 : (Vector (Vector UInt8 4) 4) × (Vector (Vector UInt8 4) 4) × Int) (x145 : UInt8) (s160 : (Vector (Vector UInt8 4) 4) × (Vector (Vector UInt8 4) 4) × Int) : Option (Fl ((Vector (Vector UInt8 4) 4) × (Vector (Vector UInt8 4) 4) × Int) ((Vector (Vector UInt8 4) 4) × (Vector (Vector UInt8 4) 4))) :=
 if (decide (s160.2.2 < 4)) = true then (((ZH s160.1 s133.2.2).bind fun x170=>(ZH x170 s160.2.2).bind fun x173=>(ZH s160.1 s13.2.2.1).bind fun x176=>(ZH x176 s160.2.2).bind fun x179=>(Yk p0 x145 x179).bind fun r181=>(ZH s160.1 s133.2.2).bind fun x184=>(ZH x184 s160.2.2).bind fun x187=>some (s160.1.setIfInBounds (s133.2.2).toNat (x184.setIfInBounds (s160.2.2).toNat (x173 ^^^ r181))) : Option ((Vector (Vector UInt8 4) 4))).bind fun j165=>(ZH s160.2.1 s133.2.2).bind fun x192=>(ZH x192 s160.2.2).bind fun x195=>(ZH s160.2.1 s13.2.2.1).bind fun x198=>(ZH x198 s160.2.2).bind fun x201=>(Yk p0 x145 x201).bind fun r203=>(ZH s160.2.1 s133.2.2).bind fun x206=>(ZH x206 s160.2.2).bind fun x209=>some (Fl.nx (j165,(s160.2.1.setIfInBounds (s133.2.2).toNat (x206.setIfInBounds (s160.2.2).toNat (x195 ^^^ r203))),wr (s160.2.2 + 1)))) else (some (Fl.ex (s160.1,s160.2.1)))
def Wv (p0 : Int) (s13 : (Vector (Vector UInt8 4) 4) × (Vector (Vector UInt8 4) 4) × Int × UInt8) (s133 : (Vector (Vector UInt8 4) 4) × (Vector (Vector UInt8 4) 4) × Int) : Option (Fl ((Vector (Vector UInt8 4) 4) × (Vector (Vector UInt8 4) 4) × Int) ((Vector (Vector UInt8 4) 4) × (Vector (Vector UInt8 4) 4))) :=
 if (decide (s133.2.2 < 4)) = true then (((ZH s133.1 s133.2.2).bind fun x142=>(ZH x142 s13.2.2.1).bind fun x145=>(if (s133.2.2 != s13.2.2.1) = true then (some (x145 != 0)) else (some false) : Option (Bool)).bind fun j147=>(if j147 = true then ((ZB (Wq p0 s13 s133 x145) (s133.1,s133.2.1,0)).bind fun j157=>some (j157.1,j157.2)) else (some (s133.1,s133.2.1)) : Option ((Vector (Vector UInt8 4) 4) × (Vector (Vector UInt8 4) 4))).bind fun j153=>some (j153.1,j153.2) : Option ((Vector (Vector UInt8 4) 4) × (Vector (Vector UInt8 4) 4))).bind fun j138=>some (Fl.nx (j138.1,j138.2,wr (s133.2.2 + 1)))) else (some (Fl.ex (s133.1,s133.2.1)))
def Y3 (p0 : Int) (s13 : (Vector (Vector UInt8 4) 4) × (Vector (Vector UInt8 4) 4) × Int × UInt8) : Option (Fl ((Vector (Vector UInt8 4) 4) × (Vector (Vector UInt8 4) 4) × Int × UInt8) (Fl ((Vector (Vector UInt8 4) 4) × UInt8) (UInt8 × (Vector (Vector UInt8 4) 4)))) :=
 if (decide (s13.2.2.1 < 4)) = true then ((ZB (Tu s13) s13.2.2.1).bind fun j18=>if (j18 == 4) = true then (some (Fl.ex (Fl.ex (0,(Vector.replicate 4 (Vector.replicate 4 (0 : UInt8))))))) else (((ZH s13.1 s13.2.2.1).bind fun x47=>(ZH s13.1 j18).bind fun x50=>(ZH s13.1 j18).bind fun x53=>(ZH (s13.1.setIfInBounds (j18).toNat x47) s13.2.2.1).bind fun x56=>some ((s13.1.setIfInBounds (j18).toNat x47).setIfInBounds (s13.2.2.1).toNat x50) : Option ((Vector (Vector UInt8 4) 4))).bind fun j42=>((ZH s13.2.1 s13.2.2.1).bind fun x64=>(ZH s13.2.1 j18).bind fun x67=>(ZH s13.2.1 j18).bind fun x70=>(ZH (s13.2.1.setIfInBounds (j18).toNat x64) s13.2.2.1).bind fun x73=>some ((s13.2.1.setIfInBounds (j18).toNat x64).setIfInBounds (s13.2.2.1).toNat x67) : Option ((Vector (Vector UInt8 4) 4))).bind fun j59=>(ZH j42 s13.2.2.1).bind fun x77=>(ZH x77 s13.2.2.1).bind fun x80=>(Yk p0 s13.2.2.2 x80).bind fun r82=>(ZH j42 s13.2.2.1).bind fun x85=>(ZH x85 s13.2.2.1).bind fun x88=>(YD p0 x88).bind fun r90=>(ZB (Wo p0 s13 r90) (j42,j59,0)).bind fun j92=>(ZB (Wv p0 s13) (j92.1,j92.2,0)).bind fun j130=>some (Fl.nx (j130.1,j130.2,wr (s13.2.2.1 + 1),r82)))) else (some (Fl.ex (Fl.nx (s13.2.1,s13.2.2.2))))
def XT (p0 : Int) (p1 : (Vector (Vector UInt8 4) 4)) : Option (UInt8 × (Vector (Vector UInt8 4) 4)) :=
 (VO).bind fun r5=>(ZB (Y3 p0) (p1,r5,0,1)).bind fun j9=>j9.el (fun s12=>(some (s12.1,s12.2) : Option ((Vector (Vector UInt8 4) 4) × UInt8)).bind fun j217=>some (j217.2,j217.1)) (fun r=>some r)
theorem J2 (w0 : World) (p0 : Int) (p1 : (Vector (Vector UInt8 4) 4)) (r : UInt8 × (Vector (Vector UInt8 4) 4)) (hF : XT p0 p1 = some r) :
  Calls Tryz.prog 211 [vI p0,(Value.agg (enc p1).toArray)].toArray w0 (Rt w0 (Value.tuple [vB r.1,(Value.agg (enc r.2).toArray)].toArray)):=by
 refine ce Tryz.func211 ?_
 intro a hE
 have hM:=M.start w0
 unfold XT at hF
 refine Zb (ZO (cs:=enc p1) hE hM Za ld rfl rfl fun b1 w a hM hE=>Zc hE rfl fun a hE=>Zz hE hM Tv fun b3 w a hM hE=>Ze (Zb ?_))
 obtain ⟨r5,e6,hF⟩:=bind_some hF
 refine Zv hE rfl (cbm Tryz.func232) (Bo _  r5 e6) ?_
 rintro v w a ⟨rfl,hK⟩ hE
 have hM:=hM.keep hK
 refine Zz hE hM Tv fun b7 w a hM hE=>Zl (seg:=enc r5) (cs':=enc r5) hE hM Za rfl rfl rfl Tv (Flat.len _) (zle flq) (Flat.cell _) (Zi flq) fun w a hM hE=>Zc hE rfl fun a hE=>Ze (wp_seq (Zb (Zd hE rfl fun a hE=>Ze ?_)))
 obtain ⟨j9,hl10,hF11⟩:=bind_some hF
 refine ZK (fun a w=>∃ s12 : (Vector (Vector UInt8 4) 4) × UInt8,j9 = Fl.nx s12 ∧ Env 153 a [(5,(ptr b3 0)),(6,(ptr b7 0)),(7,vB s12.2)] ∧ M (Old w0) w0 w [raw b7 (enc s12.1),raw b3 (enc (Vector.replicate 4 (Vector.replicate 4 (0 : UInt8))))]) ?_ ?_
 ·skip
  refine wp_block ?_
  refine ZE (fun (s13 : (Vector (Vector UInt8 4) 4) × (Vector (Vector UInt8 4) 4) × Int × UInt8) a w=>Env 153 a [(0,vI p0),(3,(ptr b1 0)),(5,(ptr b3 0)),(6,(ptr b7 0)),(7,vB s13.2.2.2),(16,vI s13.2.2.1)] ∧ M (Old w0) w0 w [raw b7 (enc s13.2.1),raw b3 (enc (Vector.replicate 4 (Vector.replicate 4 (0 : UInt8)))),raw b1 (enc s13.1)]) hl10 ⟨hE.sub ⟨rfl,rfl,rfl,rfl,rfl,rfl,trivial⟩,hM⟩ ?_
  rintro s13 a w ⟨hE,hM⟩ o16 hs14 hx15
  unfold Y3 at hs14
  refine Zb (Zh hE rfl rfl rfl fun a hE=>Ze (wp_seq ?_))
  refine Zq hE rfl ?_ ?_
  ·intro hb17
   have hs14:=Zx hs14 hb17
   refine wp_skip (Zt (wp_seq (wp_block (Zb (Zd hE rfl fun a hE=>Zc hE rfl fun a hE=>Ze (Zb (Zd hE rfl fun a hE=>Zc hE rfl fun a hE=>Ze ?_)))))))
   obtain ⟨j18,hl19,hF20⟩:=bind_some hs14
   refine ZM (fun a w=>Env 153 a [(0,vI p0),(3,(ptr b1 0)),(5,(ptr b3 0)),(6,(ptr b7 0)),(7,vB s13.2.2.2),(8,vI s13.2.2.1),(9,vI j18),(16,vI s13.2.2.1)] ∧ M (Old w0) w0 w [raw b7 (enc s13.2.1),raw b3 (enc (Vector.replicate 4 (Vector.replicate 4 (0 : UInt8)))),raw b1 (enc s13.1)]) ?_ ?_
   ·skip
    refine wp_block ?_
    refine ZE (fun (s21 : Int) a w=>Env 153 a [(0,vI p0),(3,(ptr b1 0)),(5,(ptr b3 0)),(6,(ptr b7 0)),(7,vB s13.2.2.2),(8,vI s13.2.2.1),(9,vI s21),(16,vI s13.2.2.1)] ∧ M (Old w0) w0 w [raw b7 (enc s13.2.1),raw b3 (enc (Vector.replicate 4 (Vector.replicate 4 (0 : UInt8)))),raw b1 (enc s13.1)]) hl19 ⟨hE.sub ⟨rfl,rfl,rfl,rfl,rfl,rfl,rfl,rfl,trivial⟩,hM⟩ ?_
    rintro s21 a w ⟨hE,hM⟩ o24 hs22 hx23
    unfold Tu at hs22
    refine wp_seq ?_
    obtain ⟨j25,hl26,hF27⟩:=bind_some hs22
    refine ZM (fun a w=>Env 153 a [(0,vI p0),(3,(ptr b1 0)),(5,(ptr b3 0)),(6,(ptr b7 0)),(7,vB s13.2.2.2),(8,vI s13.2.2.1),(9,vI s21),(16,vI s13.2.2.1),(29,vT j25)] ∧ M (Old w0) w0 w [raw b7 (enc s13.2.1),raw b3 (enc (Vector.replicate 4 (Vector.replicate 4 (0 : UInt8)))),raw b1 (enc s13.1)]) ?_ ?_
    ·skip
     refine wp_region_lit (Zd hE rfl fun a hE=>Zh hE rfl rfl rfl fun a hE=>Zd hE rfl ?_); intro a hE
     refine Y0 (decide (s21 < 4)) (fun hb28=>?_) (fun hb28=>?_)
     ·have hl26:=Zx hl26 hb28
      refine Zu hE (Zo hE rfl (lkb rfl hb28)) (by decide) rfl fun a hE=>Zu hE (Zo hE rfl (lkb rfl hb28)) (by decide) rfl ?_; intro a hE
      obtain ⟨x30,hi29,hl26⟩:=bvx hl26
      refine ZG hE (Zo hE rfl (lkb rfl hb28)) (by decide) rfl rfl Tryz.underlying160 XX hi29.1 ?_; intro a hE
      obtain ⟨x33,hi32,hl26⟩:=bvx hl26
      refine ZG hE (Zo hE rfl (lkb rfl hb28)) (by decide) rfl rfl Tryz.underlying158 ty5 hi32.1 fun a hE=>ZN (v:=(vB x33)) hE (Zo hE rfl (lkb rfl hb28)) (by decide) rfl ty5 rfl (At.vec (At.vec hM.rawAt2 hi29.2) hi32.2) fun a hE=>Yb hE (Zo hE rfl (lkb rfl hb28)) (by decide) rfl rfl (Zbb x33 0) fun a hE=>ZW hE (lkb rfl hb28) rfl fun a hE=>Zg ?_
      obtain rfl:=Option.some.inj hl26
      refine Zj ?_
      exact ⟨hE.sub ⟨rfl,rfl,rfl,rfl,rfl,rfl,rfl,rfl,rfl,trivial⟩,hM⟩
     ·have hl26:=Zw hl26 hb28
      refine Zm hE rfl (lkb rfl hb28) rfl (by decide) fun a hE=>Zm hE rfl (lkb rfl hb28) rfl (by decide) fun a hE=>Zm hE rfl (lkb rfl hb28) rfl (by decide) fun a hE=>Zm hE rfl (lkb rfl hb28) rfl (by decide) fun a hE=>Zm hE rfl (lkb rfl hb28) rfl (by decide) fun a hE=>Zm hE rfl (lkb rfl hb28) rfl (by decide) fun a hE=>YV hE (lkb rfl hb28) rfl fun a hE=>Zg ?_
      obtain rfl:=Option.some.inj hl26
      refine Zj ?_
      exact ⟨hE.sub ⟨rfl,rfl,rfl,rfl,rfl,rfl,rfl,rfl,rfl,trivial⟩,hM⟩
    ·skip
     rintro a w ⟨hE,hM⟩
     refine Zq hE rfl ?_ ?_
     ·intro hb37
      have hF27:=Zx hF27 hb37
      refine wp_skip (Zt (wp_block (wp_region_lit (Zd hE rfl fun a hE=>Zh hE rfl rfl rfl fun a hE=>Zc hE rfl fun a hE=>Zg (Yc (Zj ?_))))))
      exact ⟨_,(ois hF27),hE.sub ⟨rfl,rfl,rfl,rfl,rfl,rfl,rfl,rfl,trivial⟩,hM⟩
     ·intro hb37
      have hF27:=Zw hF27 hb37
      refine wp_exit (Zp (Zp (Ye ?_)))
      obtain rfl:=hx23 _ (ois hF27)
      refine Zj ?_
      exact ⟨hE.sub ⟨rfl,rfl,rfl,rfl,rfl,rfl,rfl,rfl,trivial⟩,hM⟩
   ·skip
    rintro a w ⟨hE,hM⟩
    refine wp_seq (Zb (Zd hE rfl fun a hE=>Zh hE rfl rfl rfl fun a hE=>Ze ?_))
    refine Zq hE rfl ?_ ?_
    ·intro hb39
     have hF20:=Zx hF20 hb39
     refine Zb (Wd (parts:=[]) (vs:=[]) (cs:=enc (Vector.replicate 4 (Vector.replicate 4 (0 : UInt8)))) hE Za ld rfl rfl Tv rfl XX XF fun a hE=>Zc hE rfl ?_); intro a hE
     have hM:=hM.pull1
     refine Zl (seg:=enc (Vector.replicate 4 (Vector.replicate 4 (0 : UInt8)))) (cs':=enc (Vector.replicate 4 (Vector.replicate 4 (0 : UInt8)))) hE hM Za rfl rfl rfl Tv (Flat.len _) (zle flq) (Flat.cell _) (Zi flq) fun w a hM hE=>Ze ?_
     obtain rfl:=hx15 _ (ois hF20)
     obtain rfl:=Option.some.inj hF11
     have hq41 : Yl Tryz.prog _ _ (.cell 5 160) _:=ZI hE rfl Tv rfl hM.rawAt0 (Flat.len _) rfl
     exact wp_ret (Zs (Ym (Zs (Zs (Ym (Zs (Zs (kY hE rfl (ZQ hE rfl) hq41 ⟨_,rfl,rfl,hM.kept⟩))))))))
    ·intro hb39
     have hF20:=Zw hF20 hb39
     refine wp_skip (Zt ?_)
     obtain ⟨j42,hl43,hF44⟩:=bind_some hF20
     refine ZM (fun a w=>Env 153 a [(0,vI p0),(3,(ptr b1 0)),(5,(ptr b3 0)),(6,(ptr b7 0)),(7,vB s13.2.2.2),(8,vI s13.2.2.1),(9,vI j18),(16,vI s13.2.2.1)] ∧ M (Old w0) w0 w [raw b7 (enc s13.2.1),raw b3 (enc (Vector.replicate 4 (Vector.replicate 4 (0 : UInt8)))),raw b1 (enc j42)]) ?_ ?_
     ·skip
      have hM:=hM.pull2
      obtain ⟨x47,hi46,hl43⟩:=bvx hl43
      obtain ⟨x50,hi49,hl43⟩:=bvx hl43
      obtain ⟨x53,hi52,hl43⟩:=bvx hl43
      refine YA (its:=[raw b7 (enc s13.2.1),raw b3 (enc (Vector.replicate 4 (Vector.replicate 4 (0 : UInt8))))]) (mk:=([mkT 9 (raw b1 (enc s13.1)) (raw b1 (enc (s13.1.setIfInBounds (j18).toNat x47)))] : Mk)) [35,36,37,38,39,40,41,42,43,162] YL rfl rfl (by decide) rfl hE (fun u=>M.qT (M.q0 hM.drew u)) (qsP (fun z=>Zu z.E Za ld rfl (kr0 rfl)) (qsP (fun z=>Zu z.E Za ld rfl (kr0 rfl)) (qsP (fun z=>Zu z.E Za ld rfl (kr0 rfl)) (qsP (fun z=>ZG z.E Za ld rfl rfl Tryz.underlying160 XX hi46.1 (kr0 rfl)) (qsP (v:=(Value.agg (enc x47).toArray)) ?_ (qsP (fun z=>Zu z.E Za ld rfl (kr0 rfl)) (qsP (fun z=>ZG z.E Za ld rfl rfl Tryz.underlying160 XX hi49.1 (kr0 rfl)) (qsP (v:=(Value.agg (enc x50).toArray)) ?_ (qsP (fun z=>ZG z.E Za ld rfl rfl Tryz.underlying160 XX hi52.1 (kr0 rfl)) (qsM (pr:=fun v=>True) ?_ qs0)))))))))) ?_
      ·intro a w ux45 D z
       have hE:=z.E
       have hD : D 4 = false:=z.F
       have hM:=z.M.togA (pre:=[_,_]) (Tm (j:=9) (k:=1) z.c rfl rfl rfl hD)
       exact Zn hE rfl XX rfl (At.vec hM.rawAt2 hi46.2) (Flat.len _) fun a hE=>⟨Kept.refl _ _,_,rfl,hE⟩
      ·intro a w ux45 D z
       have hE:=z.E
       have hD : D 7 = false:=z.F
       have hM:=z.M.togA (pre:=[_,_]) (Tm (j:=9) (k:=9) z.c rfl rfl rfl hD)
       exact Zn hE rfl XX rfl (At.vec hM.rawAt2 hi49.2) (Flat.len _) fun a hE=>⟨Kept.refl _ _,_,rfl,hE⟩
      ·intro a w ux45 D z
       have hE:=z.E
       have hD : D 9 = false:=z.F
       have hM:=(z.M.togA (pre:=[_,_]) hD).pull2
       exact Zl (seg:=enc x47) (cs':=enc (s13.1.setIfInBounds (j18).toNat x47)) hE hM Za rfl rfl rfl XX (Flat.len _) (ZR (v:=s13.1) (x:=x47) hi52.1) (Flat.cell _) (ZF (v:=s13.1) (x:=x47) hi52.1) fun w a hM hE=>⟨undef,_,rfl,Env.dummy hE (by decide),M.qTog (mk1:=[]) (mk2:=[]) hM rfl,trivial⟩
      ·intro a w ux45 D hE hM hG hall
       have d9:=hall 9 (by decide)
       have hM:=hM.togB (pre:=[_,_]) d9
       obtain ⟨x56,hi55,hl43⟩:=bvx hl43
       refine ZC hE rfl rfl Tryz.underlying160 XX hi55.1 ?_; intro a hE
       have hM:=hM.pull2
       refine Zl (seg:=enc x50) (cs':=enc ((s13.1.setIfInBounds (j18).toNat x47).setIfInBounds (s13.2.2.1).toNat x50)) hE hM Za rfl rfl rfl XX (Flat.len _) (ZR (v:=(s13.1.setIfInBounds (j18).toNat x47)) (x:=x50) hi55.1) (Flat.cell _) (ZF (v:=(s13.1.setIfInBounds (j18).toNat x47)) (x:=x50) hi55.1) fun w a hM hE=>Zg ?_
       obtain rfl:=Option.some.inj hl43
       refine Zj ?_
       have hM:=hM.pull2.pull2
       exact ⟨hE.sub ⟨rfl,rfl,rfl,rfl,rfl,rfl,rfl,rfl,trivial⟩,hM⟩
     ·skip
      rintro a w ⟨hE,hM⟩
      obtain ⟨j59,hl60,hF61⟩:=bind_some hF44
      refine ZM (fun a w=>Env 153 a [(0,vI p0),(3,(ptr b1 0)),(5,(ptr b3 0)),(6,(ptr b7 0)),(7,vB s13.2.2.2),(8,vI s13.2.2.1),(16,vI s13.2.2.1)] ∧ M (Old w0) w0 w [raw b7 (enc j59),raw b3 (enc (Vector.replicate 4 (Vector.replicate 4 (0 : UInt8)))),raw b1 (enc j42)]) ?_ ?_
      ·skip
       obtain ⟨x64,hi63,hl60⟩:=bvx hl60
       obtain ⟨x67,hi66,hl60⟩:=bvx hl60
       obtain ⟨x70,hi69,hl60⟩:=bvx hl60
       refine YA (its:=[raw b3 (enc (Vector.replicate 4 (Vector.replicate 4 (0 : UInt8)))),raw b1 (enc j42)]) (mk:=([mkT 9 (raw b7 (enc s13.2.1)) (raw b7 (enc (s13.2.1.setIfInBounds (j18).toNat x64)))] : Mk)) [45,46,47,48,49,50,51,52,53,162] YL rfl rfl (by decide) rfl hE (fun u=>M.qT (M.q0 hM.drew u)) (qsP (fun z=>Zu z.E Za ld rfl (kr0 rfl)) (qsP (fun z=>Zu z.E Za ld rfl (kr0 rfl)) (qsP (fun z=>Zu z.E Za ld rfl (kr0 rfl)) (qsP (fun z=>ZG z.E Za ld rfl rfl Tryz.underlying160 XX hi63.1 (kr0 rfl)) (qsP (v:=(Value.agg (enc x64).toArray)) ?_ (qsP (fun z=>Zu z.E Za ld rfl (kr0 rfl)) (qsP (fun z=>ZG z.E Za ld rfl rfl Tryz.underlying160 XX hi66.1 (kr0 rfl)) (qsP (v:=(Value.agg (enc x67).toArray)) ?_ (qsP (fun z=>ZG z.E Za ld rfl rfl Tryz.underlying160 XX hi69.1 (kr0 rfl)) (qsM (pr:=fun v=>True) ?_ qs0)))))))))) ?_
       ·intro a w ux62 D z
        have hE:=z.E
        have hD : D 4 = false:=z.F
        have hM:=z.M.togA (pre:=[_,_]) (Tm (j:=9) (k:=1) z.c rfl rfl rfl hD)
        exact Zn hE rfl XX rfl (At.vec hM.rawAt2 hi63.2) (Flat.len _) fun a hE=>⟨Kept.refl _ _,_,rfl,hE⟩
       ·intro a w ux62 D z
        have hE:=z.E
        have hD : D 7 = false:=z.F
        have hM:=z.M.togA (pre:=[_,_]) (Tm (j:=9) (k:=9) z.c rfl rfl rfl hD)
        exact Zn hE rfl XX rfl (At.vec hM.rawAt2 hi66.2) (Flat.len _) fun a hE=>⟨Kept.refl _ _,_,rfl,hE⟩
       ·intro a w ux62 D z
        have hE:=z.E
        have hD : D 9 = false:=z.F
        have hM:=(z.M.togA (pre:=[_,_]) hD).pull2
        exact Zl (seg:=enc x64) (cs':=enc (s13.2.1.setIfInBounds (j18).toNat x64)) hE hM Za rfl rfl rfl XX (Flat.len _) (ZR (v:=s13.2.1) (x:=x64) hi69.1) (Flat.cell _) (ZF (v:=s13.2.1) (x:=x64) hi69.1) fun w a hM hE=>⟨undef,_,rfl,Env.dummy hE (by decide),M.qTog (mk1:=[]) (mk2:=[]) hM rfl,trivial⟩
       ·intro a w ux62 D hE hM hG hall
        have d9:=hall 9 (by decide)
        have hM:=hM.togB (pre:=[_,_]) d9
        obtain ⟨x73,hi72,hl60⟩:=bvx hl60
        refine ZC hE rfl rfl Tryz.underlying160 XX hi72.1 ?_; intro a hE
        have hM:=hM.pull2
        refine Zl (seg:=enc x67) (cs':=enc ((s13.2.1.setIfInBounds (j18).toNat x64).setIfInBounds (s13.2.2.1).toNat x67)) hE hM Za rfl rfl rfl XX (Flat.len _) (ZR (v:=(s13.2.1.setIfInBounds (j18).toNat x64)) (x:=x67) hi72.1) (Flat.cell _) (ZF (v:=(s13.2.1.setIfInBounds (j18).toNat x64)) (x:=x67) hi72.1) fun w a hM hE=>Zg ?_
        obtain rfl:=Option.some.inj hl60
        refine Zj ?_
        exact ⟨hE.sub ⟨rfl,rfl,rfl,rfl,rfl,rfl,rfl,trivial⟩,hM⟩
      ·skip
       rintro a w ⟨hE,hM⟩
       refine Zb (Zd hE rfl fun a hE=>Zd hE rfl fun a hE=>Zd hE rfl fun a hE=>Zd hE rfl ?_); intro a hE
       obtain ⟨x77,hi76,hF61⟩:=bvx hF61
       refine ZC hE rfl rfl Tryz.underlying160 XX hi76.1 ?_; intro a hE
       obtain ⟨x80,hi79,hF61⟩:=bvx hF61
       refine ZC hE rfl rfl Tryz.underlying158 ty5 hi79.1 fun a hE=>Zy (v:=(vB x80)) hE rfl ty5 rfl (At.vec (At.vec hM.rawAt2 hi76.2) hi79.2) ?_; intro a hE
       obtain ⟨r82,e83,hF61⟩:=bind_some hF61
       refine Zv hE rfl B1 (Y7 _ p0 s13.2.2.2 x80 r82 e83) ?_
       rintro v w a ⟨rfl,hK⟩ hE
       have hM:=hM.keep hK
       refine Zc hE rfl fun a hE=>Ze (Zb (Zd hE rfl fun a hE=>Zd hE rfl fun a hE=>Zd hE rfl ?_)); intro a hE
       obtain ⟨x85,hi84,hF61⟩:=bvx hF61
       refine ZC hE rfl rfl Tryz.underlying160 XX hi84.1 ?_; intro a hE
       obtain ⟨x88,hi87,hF61⟩:=bvx hF61
       refine ZC hE rfl rfl Tryz.underlying158 ty5 hi87.1 fun a hE=>Zy (v:=(vB x88)) hE rfl ty5 rfl (At.vec (At.vec hM.rawAt2 hi84.2) hi87.2) ?_; intro a hE
       obtain ⟨r90,e91,hF61⟩:=bind_some hF61
       refine Zv hE rfl Zbj (Ts _ p0 x88 r90 e91) ?_
       rintro v w a ⟨rfl,hK⟩ hE
       have hM:=hM.keep hK
       refine Zc hE rfl fun a hE=>Ze (wp_seq (Zb (Zd hE rfl fun a hE=>Ze ?_)))
       obtain ⟨j92,hl93,hF94⟩:=bind_some hF61
       refine ZK (fun a w=>Env 153 a [(0,vI p0),(3,(ptr b1 0)),(5,(ptr b3 0)),(6,(ptr b7 0)),(7,vB r82),(8,vI s13.2.2.1),(16,vI s13.2.2.1)] ∧ M (Old w0) w0 w [raw b7 (enc j92.2),raw b3 (enc (Vector.replicate 4 (Vector.replicate 4 (0 : UInt8)))),raw b1 (enc j92.1)]) ?_ ?_
       ·skip
        refine wp_block ?_
        refine ZE (fun (s95 : (Vector (Vector UInt8 4) 4) × (Vector (Vector UInt8 4) 4) × Int) a w=>Env 153 a [(0,vI p0),(3,(ptr b1 0)),(5,(ptr b3 0)),(6,(ptr b7 0)),(7,vB r82),(8,vI s13.2.2.1),(10,vB r90),(16,vI s13.2.2.1),(70,vI s95.2.2)] ∧ M (Old w0) w0 w [raw b7 (enc s95.2.1),raw b3 (enc (Vector.replicate 4 (Vector.replicate 4 (0 : UInt8)))),raw b1 (enc s95.1)]) hl93 ⟨hE.sub ⟨rfl,rfl,rfl,rfl,rfl,rfl,rfl,rfl,rfl,trivial⟩,hM⟩ ?_
        rintro s95 a w ⟨hE,hM⟩ o98 hs96 hx97
        unfold Wo at hs96
        refine Zb (Zh hE rfl rfl rfl fun a hE=>Ze (wp_seq ?_))
        refine Zq hE rfl ?_ ?_
        ·intro hb99
         have hs96:=Zx hs96 hb99
         refine wp_skip (Zt (wp_seq (wp_block (Zb (Zd hE rfl fun a hE=>Zc hE rfl fun a hE=>Ze ?_)))))
         have hM:=hM.pull2
         obtain ⟨x102,hi101,hs96⟩:=bvx hs96
         obtain ⟨x105,hi104,hs96⟩:=bvx hs96
         obtain ⟨r107,e108,hs96⟩:=bind_some hs96
         obtain ⟨x110,hi109,hs96⟩:=bvx hs96
         obtain ⟨x113,hi112,hs96⟩:=bvx hs96
         obtain ⟨r115,e116,hs96⟩:=bind_some hs96
         obtain ⟨x118,hi117,hs96⟩:=bvx hs96
         obtain ⟨x121,hi120,hs96⟩:=bvx hs96
         obtain ⟨x124,hi123,hs96⟩:=bvx hs96
         refine YA (its:=[raw b7 (enc s95.2.1),raw b3 (enc (Vector.replicate 4 (Vector.replicate 4 (0 : UInt8))))]) (mk:=([mkT 22 (raw b1 (enc s95.1)) (raw b1 (enc (s95.1.setIfInBounds (s13.2.2.1).toNat (x118.setIfInBounds (s95.2.2).toNat r107))))] : Mk)) [73,74,75,76,77,78,79,80,81,82,83,84,85,86,87,88,89,90,91,92,93,94,175,95] YL rfl rfl (by decide) rfl hE (fun u=>M.qT (M.q0 hM.drew u)) (qsP (fun z=>Zu z.E Za ld rfl (kr0 rfl)) (qsP (fun z=>Zu z.E Za ld rfl (kr0 rfl)) (qsP (fun z=>Zu z.E Za ld rfl (kr0 rfl)) (qsP (fun z=>Zu z.E Za ld rfl (kr0 rfl)) (qsP (fun z=>Zu z.E Za ld rfl (kr0 rfl)) (qsP (fun z=>Zu z.E Za ld rfl (kr0 rfl)) (qsP (fun z=>Zu z.E Za ld rfl (kr0 rfl)) (qsP (fun z=>ZG z.E Za ld rfl rfl Tryz.underlying160 XX hi101.1 (kr0 rfl)) (qsP (fun z=>ZG z.E Za ld rfl rfl Tryz.underlying158 ty5 hi104.1 (kr0 rfl)) (qsP (v:=(vB x105)) ?_ (qsP (fun z=>Zu z.E Za ld rfl (kr0 rfl)) (qsP (fun z=>Z7 z.E Za ld rfl B1 (Y7 _ p0 x105 r90 r107 e108) (kc rfl)) (qsP (fun z=>Zu z.E Za ld rfl (kr0 rfl)) (qsP (fun z=>Zu z.E Za ld rfl (kr0 rfl)) (qsP (fun z=>Zu z.E Za ld rfl (kr0 rfl)) (qsP (fun z=>ZG z.E Za ld rfl rfl Tryz.underlying160 XX hi109.1 (kr0 rfl)) (qsP (fun z=>ZG z.E Za ld rfl rfl Tryz.underlying158 ty5 hi112.1 (kr0 rfl)) (qsP (v:=(vB x113)) ?_ (qsP (fun z=>Zu z.E Za ld rfl (kr0 rfl)) (qsP (fun z=>Z7 z.E Za ld rfl B1 (Y7 _ p0 x113 r90 r115 e116) (kc rfl)) (qsP (fun z=>ZG z.E Za ld rfl rfl Tryz.underlying160 XX hi117.1 (kr0 rfl)) (qsP (fun z=>ZG z.E Za ld rfl rfl Tryz.underlying158 ty5 hi120.1 (kr0 rfl)) (qsM (pr:=fun v=>True) ?_ (qsP (fun z=>ZG z.E Za ld rfl rfl Tryz.underlying160 XX hi123.1 (kr0 rfl)) qs0)))))))))))))))))))))))) ?_
         ·intro a w ux100 D z
          have hE:=z.E
          have hD : D 9 = false:=z.F
          have hM:=z.M.togA (pre:=[_,_]) (Tm (j:=22) (k:=12) z.c rfl rfl rfl hD)
          exact Zy (v:=(vB x105)) hE rfl ty5 rfl (At.vec (At.vec hM.rawAt2 hi101.2) hi104.2) fun a hE=>⟨Kept.refl _ _,_,rfl,hE⟩
         ·intro a w ux100 D z
          have hE:=z.E
          have hM:=z.M
          exact Zy (v:=(vB x113)) hE rfl ty5 rfl (At.vec (At.vec hM.rawAt0 hi109.2) hi112.2) fun a hE=>⟨Kept.refl _ _,_,rfl,hE⟩
         ·intro a w ux100 D z
          have hE:=z.E
          have hD : D 22 = false:=z.F
          have hM:=(z.M.togA (pre:=[_,_]) hD).pull2
          exact Zl (seg:=[vB r107]) (cs':=enc (s95.1.setIfInBounds (s13.2.2.1).toNat (x118.setIfInBounds (s95.2.2).toNat r107))) hE hM Za rfl rfl rfl ty5 rfl (UP (o':=0 + (s95.2.2).toNat * 1) hi117 (ZR (v:=x118) (x:=r107) hi120.1) (by first | omega | (simp only [Flat.n] <;> omega))) (Flat.cell (r107 : UInt8)) (VW (o':=0 + (s95.2.2).toNat * 1) hi117 (ZR (v:=x118) (x:=r107) hi120.1) (ZF (v:=x118) (x:=r107) hi120.1) (by first | omega | (simp only [Flat.n] <;> omega))) fun w a hM hE=>⟨undef,_,rfl,Env.dummy hE (by decide),M.qTog (mk1:=[]) (mk2:=[]) hM rfl,trivial⟩
         ·intro a w ux100 D hE hM hG hall
          have d22:=hall 22 (by decide)
          have hM:=hM.togB (pre:=[_,_]) d22
          obtain ⟨x127,hi126,hs96⟩:=bvx hs96
          refine ZC hE rfl rfl Tryz.underlying158 ty5 hi126.1 fun a hE=>Zl (seg:=[vB r115]) (cs':=enc (s95.2.1.setIfInBounds (s13.2.2.1).toNat (x124.setIfInBounds (s95.2.2).toNat r115))) hE hM Za rfl rfl rfl ty5 rfl (UP (o':=0 + (s95.2.2).toNat * 1) hi123 (ZR (v:=x124) (x:=r115) hi126.1) (by first | omega | (simp only [Flat.n] <;> omega))) (Flat.cell (r115 : UInt8)) (VW (o':=0 + (s95.2.2).toNat * 1) hi123 (ZR (v:=x124) (x:=r115) hi126.1) (ZF (v:=x124) (x:=r115) hi126.1) (by first | omega | (simp only [Flat.n] <;> omega))) fun w a hM hE=>Zg (Yc (Zt (wp_region_lit (Zh hE rfl rfl rfl fun a hE=>Zd hE rfl fun a hE=>Zg (Zj ?_)))))
          exact ⟨_,(ois hs96),hE.sub ⟨rfl,rfl,rfl,rfl,rfl,rfl,rfl,rfl,rfl,trivial⟩,hM⟩
        ·intro hb99
         have hs96:=Zw hs96 hb99
         refine wp_exit (Zp (Zp (Ye ?_)))
         obtain rfl:=hx97 _ (ois hs96)
         refine Zj ?_
         exact ⟨hE.sub ⟨rfl,rfl,rfl,rfl,rfl,rfl,rfl,trivial⟩,hM⟩
       ·skip
        rintro a w ⟨hE,hM⟩
        refine Zt (Zb (Zd hE rfl fun a hE=>Ze ?_))
        obtain ⟨j130,hl131,hF132⟩:=bind_some hF94
        refine ZK (fun a w=>Env 153 a [(0,vI p0),(3,(ptr b1 0)),(5,(ptr b3 0)),(6,(ptr b7 0)),(7,vB r82),(16,vI s13.2.2.1)] ∧ M (Old w0) w0 w [raw b7 (enc j130.2),raw b3 (enc (Vector.replicate 4 (Vector.replicate 4 (0 : UInt8)))),raw b1 (enc j130.1)]) ?_ ?_
        ·skip
         refine wp_block ?_
         refine ZE (fun (s133 : (Vector (Vector UInt8 4) 4) × (Vector (Vector UInt8 4) 4) × Int) a w=>Env 153 a [(0,vI p0),(3,(ptr b1 0)),(5,(ptr b3 0)),(6,(ptr b7 0)),(7,vB r82),(8,vI s13.2.2.1),(16,vI s13.2.2.1),(98,vI s133.2.2)] ∧ M (Old w0) w0 w [raw b7 (enc s133.2.1),raw b3 (enc (Vector.replicate 4 (Vector.replicate 4 (0 : UInt8)))),raw b1 (enc s133.1)]) hl131 ⟨hE.sub ⟨rfl,rfl,rfl,rfl,rfl,rfl,rfl,rfl,trivial⟩,hM⟩ ?_
         rintro s133 a w ⟨hE,hM⟩ o136 hs134 hx135
         unfold Wv at hs134
         refine Zb (Zh hE rfl rfl rfl fun a hE=>Ze (wp_seq ?_))
         refine Zq hE rfl ?_ ?_
         ·intro hb137
          have hs134:=Zx hs134 hb137
          refine wp_skip (Zt ?_)
          obtain ⟨j138,hl139,hF140⟩:=bind_some hs134
          refine ZM (fun a w=>Env 153 a [(0,vI p0),(3,(ptr b1 0)),(5,(ptr b3 0)),(6,(ptr b7 0)),(7,vB r82),(8,vI s13.2.2.1),(16,vI s13.2.2.1),(98,vI s133.2.2)] ∧ M (Old w0) w0 w [raw b7 (enc j138.2),raw b3 (enc (Vector.replicate 4 (Vector.replicate 4 (0 : UInt8)))),raw b1 (enc j138.1)]) ?_ ?_
          ·skip
           refine wp_block (Zb (Zd hE rfl fun a hE=>Zc hE rfl fun a hE=>Ze (Zb (Zd hE rfl fun a hE=>Zd hE rfl ?_)))); intro a hE
           obtain ⟨x142,hi141,hl139⟩:=bvx hl139
           refine ZC hE rfl rfl Tryz.underlying160 XX hi141.1 ?_; intro a hE
           obtain ⟨x145,hi144,hl139⟩:=bvx hl139
           refine ZC hE rfl rfl Tryz.underlying158 ty5 hi144.1 fun a hE=>Zy (v:=(vB x145)) hE rfl ty5 rfl (At.vec (At.vec hM.rawAt2 hi141.2) hi144.2) fun a hE=>Zc hE rfl fun a hE=>Ze ?_
           obtain ⟨j147,hl148,hF149⟩:=bind_some hl139
           refine ZM (fun a w=>Env 153 a [(0,vI p0),(3,(ptr b1 0)),(5,(ptr b3 0)),(6,(ptr b7 0)),(7,vB r82),(8,vI s13.2.2.1),(12,vI s133.2.2),(13,vB x145),(16,vI s13.2.2.1),(98,vI s133.2.2),(112,vT j147)] ∧ M (Old w0) w0 w [raw b7 (enc s133.2.1),raw b3 (enc (Vector.replicate 4 (Vector.replicate 4 (0 : UInt8)))),raw b1 (enc s133.1)]) ?_ ?_
           ·skip
            refine wp_region_lit (Zd hE rfl fun a hE=>Zd hE rfl fun a hE=>Zh hE rfl rfl rfl fun a hE=>Zd hE rfl ?_); intro a hE
            refine Y0 (s133.2.2 != s13.2.2.1) (fun hb150=>?_) (fun hb150=>?_)
            ·have hl148:=Zx hl148 hb150
             refine Zu hE (Zo hE rfl (lkb rfl hb150)) (by decide) rfl fun a hE=>Yb hE (Zo hE rfl (lkb rfl hb150)) (by decide) rfl rfl (KV x145 0) fun a hE=>ZW hE (lkb rfl hb150) rfl fun a hE=>Zg ?_
             obtain rfl:=Option.some.inj hl148
             refine Zj ?_
             exact ⟨hE.sub ⟨rfl,rfl,rfl,rfl,rfl,rfl,rfl,rfl,rfl,rfl,rfl,trivial⟩,hM⟩
            ·have hl148:=Zw hl148 hb150
             refine Zm hE rfl (lkb rfl hb150) rfl (by decide) fun a hE=>Zm hE rfl (lkb rfl hb150) rfl (by decide) fun a hE=>YV hE (lkb rfl hb150) rfl fun a hE=>Zg ?_
             obtain rfl:=Option.some.inj hl148
             refine Zj ?_
             exact ⟨hE.sub ⟨rfl,rfl,rfl,rfl,rfl,rfl,rfl,rfl,rfl,rfl,rfl,trivial⟩,hM⟩
           ·skip
            rintro a w ⟨hE,hM⟩
            obtain ⟨j153,hl154,hF155⟩:=bind_some hF149
            refine ZK (fun a w=>Env 153 a [(0,vI p0),(3,(ptr b1 0)),(5,(ptr b3 0)),(6,(ptr b7 0)),(7,vB r82),(8,vI s13.2.2.1),(16,vI s13.2.2.1),(98,vI s133.2.2)] ∧ M (Old w0) w0 w [raw b7 (enc j153.2),raw b3 (enc (Vector.replicate 4 (Vector.replicate 4 (0 : UInt8)))),raw b1 (enc j153.1)]) ?_ ?_
            ·skip
             refine Zq hE rfl ?_ ?_
             ·intro hb156
              have hl154:=Zx hl154 hb156
              refine Zb (Zd hE rfl fun a hE=>Ze ?_)
              obtain ⟨j157,hl158,hF159⟩:=bind_some hl154
              refine ZK (fun a w=>Env 153 a [(0,vI p0),(3,(ptr b1 0)),(5,(ptr b3 0)),(6,(ptr b7 0)),(7,vB r82),(8,vI s13.2.2.1),(16,vI s13.2.2.1),(98,vI s133.2.2)] ∧ M (Old w0) w0 w [raw b7 (enc j157.2),raw b3 (enc (Vector.replicate 4 (Vector.replicate 4 (0 : UInt8)))),raw b1 (enc j157.1)]) ?_ ?_
              ·skip
               refine wp_block ?_
               refine ZE (fun (s160 : (Vector (Vector UInt8 4) 4) × (Vector (Vector UInt8 4) 4) × Int) a w=>Env 153 a [(0,vI p0),(3,(ptr b1 0)),(5,(ptr b3 0)),(6,(ptr b7 0)),(7,vB r82),(8,vI s13.2.2.1),(12,vI s133.2.2),(13,vB x145),(16,vI s13.2.2.1),(98,vI s133.2.2),(113,vI s160.2.2)] ∧ M (Old w0) w0 w [raw b7 (enc s160.2.1),raw b3 (enc (Vector.replicate 4 (Vector.replicate 4 (0 : UInt8)))),raw b1 (enc s160.1)]) hl158 ⟨hE.sub ⟨rfl,rfl,rfl,rfl,rfl,rfl,rfl,rfl,rfl,rfl,rfl,trivial⟩,hM⟩ ?_
               rintro s160 a w ⟨hE,hM⟩ o163 hs161 hx162
               unfold Wq at hs161
               refine Zb (Zh hE rfl rfl rfl fun a hE=>Ze (wp_seq ?_))
               refine Zq hE rfl ?_ ?_
               ·intro hb164
                have hs161:=Zx hs161 hb164
                refine wp_skip (Zt (wp_seq (wp_block (Zb (Zd hE rfl fun a hE=>Zc hE rfl fun a hE=>Ze ?_)))))
                obtain ⟨j165,hl166,hF167⟩:=bind_some hs161
                refine ZM (fun a w=>Env 153 a [(0,vI p0),(3,(ptr b1 0)),(5,(ptr b3 0)),(6,(ptr b7 0)),(7,vB r82),(8,vI s13.2.2.1),(12,vI s133.2.2),(13,vB x145),(14,vI s160.2.2),(16,vI s13.2.2.1),(98,vI s133.2.2),(113,vI s160.2.2)] ∧ M (Old w0) w0 w [raw b7 (enc s160.2.1),raw b3 (enc (Vector.replicate 4 (Vector.replicate 4 (0 : UInt8)))),raw b1 (enc j165)]) ?_ ?_
                ·skip
                 obtain ⟨x170,hi169,hl166⟩:=bvx hl166
                 obtain ⟨x173,hi172,hl166⟩:=bvx hl166
                 obtain ⟨x176,hi175,hl166⟩:=bvx hl166
                 obtain ⟨x179,hi178,hl166⟩:=bvx hl166
                 obtain ⟨r181,e182,hl166⟩:=bind_some hl166
                 obtain ⟨x184,hi183,hl166⟩:=bvx hl166
                 obtain ⟨x187,hi186,hl166⟩:=bvx hl166
                 refine Yj [116,117,118,119,120,121,122,123,124,125,126,127,128,129,130,131] YL rfl rfl (by decide) rfl hE hM (qsP (fun z=>Zu z.E Za ld rfl (kr0 rfl)) (qsP (fun z=>Zu z.E Za ld rfl (kr0 rfl)) (qsP (fun z=>ZG z.E Za ld rfl rfl Tryz.underlying160 XX hi169.1 (kr0 rfl)) (qsP (fun z=>ZG z.E Za ld rfl rfl Tryz.underlying158 ty5 hi172.1 (kr0 rfl)) (qsP (fun z=>ZN (v:=(vB x173)) z.E Za ld rfl ty5 rfl (At.vec (At.vec (z.M.rawAt2) hi169.2) hi172.2) (kr0 rfl)) (qsP (fun z=>Zu z.E Za ld rfl (kr0 rfl)) (qsP (fun z=>Zu z.E Za ld rfl (kr0 rfl)) (qsP (fun z=>Zu z.E Za ld rfl (kr0 rfl)) (qsP (fun z=>Zu z.E Za ld rfl (kr0 rfl)) (qsP (fun z=>ZG z.E Za ld rfl rfl Tryz.underlying160 XX hi175.1 (kr0 rfl)) (qsP (fun z=>ZG z.E Za ld rfl rfl Tryz.underlying158 ty5 hi178.1 (kr0 rfl)) (qsP (fun z=>ZN (v:=(vB x179)) z.E Za ld rfl ty5 rfl (At.vec (At.vec (z.M.rawAt2) hi175.2) hi178.2) (kr0 rfl)) (qsP (fun z=>Z7 z.E Za ld rfl B1 (Y7 _ p0 x145 x179 r181 e182) (kc rfl)) (qsP (v:=(vB (x173 ^^^ r181))) (fun z=>Yb z.E Za ld rfl rfl (Vu x173 r181) (kr0 rfl)) (qsP (fun z=>ZG z.E Za ld rfl rfl Tryz.underlying160 XX hi183.1 (kr0 rfl)) (qsP (fun z=>ZG z.E Za ld rfl rfl Tryz.underlying158 ty5 hi186.1 (kr0 rfl)) qs0)))))))))))))))) ?_
                 ·intro a w u hE hM
                  have hM:=hM.pull2
                  refine Zl (seg:=[(vB (x173 ^^^ r181))]) (cs':=enc (s160.1.setIfInBounds (s133.2.2).toNat (x184.setIfInBounds (s160.2.2).toNat (x173 ^^^ r181)))) hE hM Za rfl rfl rfl ty5 rfl (UP (o':=0 + (s160.2.2).toNat * 1) hi183 (ZR (v:=x184) (x:=x173 ^^^ r181) hi186.1) (by first | omega | (simp only [Flat.n] <;> omega))) (Flat.cell (x173 ^^^ r181 : UInt8)) (VW (o':=0 + (s160.2.2).toNat * 1) hi183 (ZR (v:=x184) (x:=x173 ^^^ r181) hi186.1) (ZF (v:=x184) (x:=x173 ^^^ r181) hi186.1) (by first | omega | (simp only [Flat.n] <;> omega))) fun w a hM hE=>Zg ?_
                  obtain rfl:=Option.some.inj hl166
                  refine Zj ?_
                  have hM:=hM.pull2.pull2
                  exact ⟨hE.sub ⟨rfl,rfl,rfl,rfl,rfl,rfl,rfl,rfl,rfl,rfl,rfl,rfl,trivial⟩,hM⟩
                ·skip
                 rintro a w ⟨hE,hM⟩
                 obtain ⟨x192,hi191,hF167⟩:=bvx hF167
                 obtain ⟨x195,hi194,hF167⟩:=bvx hF167
                 obtain ⟨x198,hi197,hF167⟩:=bvx hF167
                 obtain ⟨x201,hi200,hF167⟩:=bvx hF167
                 obtain ⟨r203,e204,hF167⟩:=bind_some hF167
                 obtain ⟨x206,hi205,hF167⟩:=bvx hF167
                 obtain ⟨x209,hi208,hF167⟩:=bvx hF167
                 refine Yj [132,133,134,135,136,137,138,139,140,141,142,143,144,145,146,147] YL rfl rfl (by decide) rfl hE hM (qsP (fun z=>Zu z.E Za ld rfl (kr0 rfl)) (qsP (fun z=>Zu z.E Za ld rfl (kr0 rfl)) (qsP (fun z=>ZG z.E Za ld rfl rfl Tryz.underlying160 XX hi191.1 (kr0 rfl)) (qsP (fun z=>ZG z.E Za ld rfl rfl Tryz.underlying158 ty5 hi194.1 (kr0 rfl)) (qsP (fun z=>ZN (v:=(vB x195)) z.E Za ld rfl ty5 rfl (At.vec (At.vec (z.M.rawAt0) hi191.2) hi194.2) (kr0 rfl)) (qsP (fun z=>Zu z.E Za ld rfl (kr0 rfl)) (qsP (fun z=>Zu z.E Za ld rfl (kr0 rfl)) (qsP (fun z=>Zu z.E Za ld rfl (kr0 rfl)) (qsP (fun z=>Zu z.E Za ld rfl (kr0 rfl)) (qsP (fun z=>ZG z.E Za ld rfl rfl Tryz.underlying160 XX hi197.1 (kr0 rfl)) (qsP (fun z=>ZG z.E Za ld rfl rfl Tryz.underlying158 ty5 hi200.1 (kr0 rfl)) (qsP (fun z=>ZN (v:=(vB x201)) z.E Za ld rfl ty5 rfl (At.vec (At.vec (z.M.rawAt0) hi197.2) hi200.2) (kr0 rfl)) (qsP (fun z=>Z7 z.E Za ld rfl B1 (Y7 _ p0 x145 x201 r203 e204) (kc rfl)) (qsP (v:=(vB (x195 ^^^ r203))) (fun z=>Yb z.E Za ld rfl rfl (Vu x195 r203) (kr0 rfl)) (qsP (fun z=>ZG z.E Za ld rfl rfl Tryz.underlying160 XX hi205.1 (kr0 rfl)) (qsP (fun z=>ZG z.E Za ld rfl rfl Tryz.underlying158 ty5 hi208.1 (kr0 rfl)) qs0)))))))))))))))) ?_
                 ·intro a w u hE hM
                  refine Zl (seg:=[(vB (x195 ^^^ r203))]) (cs':=enc (s160.2.1.setIfInBounds (s133.2.2).toNat (x206.setIfInBounds (s160.2.2).toNat (x195 ^^^ r203)))) hE hM Za rfl rfl rfl ty5 rfl (UP (o':=0 + (s160.2.2).toNat * 1) hi205 (ZR (v:=x206) (x:=x195 ^^^ r203) hi208.1) (by first | omega | (simp only [Flat.n] <;> omega))) (Flat.cell (x195 ^^^ r203 : UInt8)) (VW (o':=0 + (s160.2.2).toNat * 1) hi205 (ZR (v:=x206) (x:=x195 ^^^ r203) hi208.1) (ZF (v:=x206) (x:=x195 ^^^ r203) hi208.1) (by first | omega | (simp only [Flat.n] <;> omega))) fun w a hM hE=>Zg (Yc (Zt (wp_region_lit (Zh hE rfl rfl rfl fun a hE=>Zd hE rfl fun a hE=>Zg (Zj ?_)))))
                  exact ⟨_,(ois hF167),hE.sub ⟨rfl,rfl,rfl,rfl,rfl,rfl,rfl,rfl,rfl,rfl,rfl,trivial⟩,hM⟩
               ·intro hb164
                have hs161:=Zw hs161 hb164
                refine wp_exit (Zp (Zp (Ye ?_)))
                obtain rfl:=hx162 _ (ois hs161)
                refine Zj ?_
                exact ⟨hE.sub ⟨rfl,rfl,rfl,rfl,rfl,rfl,rfl,rfl,trivial⟩,hM⟩
              ·skip
               rintro a w ⟨hE,hM⟩
               obtain rfl:=Option.some.inj hF159
               refine Zj ?_
               exact ⟨hE.sub ⟨rfl,rfl,rfl,rfl,rfl,rfl,rfl,rfl,trivial⟩,hM⟩
             ·intro hb156
              have hl154:=Zw hl154 hb156
              refine wp_skip ?_
              obtain rfl:=Option.some.inj hl154
              refine Zj ?_
              exact ⟨hE.sub ⟨rfl,rfl,rfl,rfl,rfl,rfl,rfl,rfl,trivial⟩,hM⟩
            ·skip
             rintro a w ⟨hE,hM⟩
             refine Yc ?_
             obtain rfl:=Option.some.inj hF155
             refine Zj ?_
             exact ⟨hE.sub ⟨rfl,rfl,rfl,rfl,rfl,rfl,rfl,rfl,trivial⟩,hM⟩
          ·skip
           rintro a w ⟨hE,hM⟩
           refine wp_region_lit (Zh hE rfl rfl rfl fun a hE=>Zd hE rfl fun a hE=>Zg (Zj ?_))
           exact ⟨_,(ois hF140),hE.sub ⟨rfl,rfl,rfl,rfl,rfl,rfl,rfl,rfl,trivial⟩,hM⟩
         ·intro hb137
          have hs134:=Zw hs134 hb137
          refine wp_exit (Zp (Zp (Ye ?_)))
          obtain rfl:=hx135 _ (ois hs134)
          refine Zj ?_
          exact ⟨hE.sub ⟨rfl,rfl,rfl,rfl,rfl,rfl,trivial⟩,hM⟩
        ·skip
         rintro a w ⟨hE,hM⟩
         refine Yc (Zt (wp_region_lit (Zh hE rfl rfl rfl fun a hE=>Zd hE rfl fun a hE=>Zg (Zj ?_))))
         exact ⟨_,(ois hF132),hE.sub ⟨rfl,rfl,rfl,rfl,rfl,rfl,trivial⟩,hM⟩
  ·intro hb17
   have hs14:=Zw hs14 hb17
   refine wp_exit (Zp (Zp (Ye ?_)))
   obtain rfl:=hx15 _ (ois hs14)
   refine Zj ?_
   have hM:=M.fst (l:=[_,_]) hM.pull1.pull1
   exact ⟨(s13.2.1,s13.2.2.2),rfl,hE.sub ⟨rfl,rfl,rfl,trivial⟩,hM⟩
 ·skip
  rintro a w ⟨s12,ht,hE,hM⟩
  subst ht
  have hF11:=TW hF11
  refine Zt ?_
  obtain ⟨j217,hl218,hF219⟩:=bind_some hF11
  refine ZM (fun a w=>Env 153 a [(4,vB j217.2),(5,(ptr b3 0))] ∧ M (Old w0) w0 w [raw b3 (enc j217.1)]) ?_ ?_
  ·skip
   refine Yj [151,152,4] YL rfl rfl (by decide) rfl hE hM (qsP (fun z=>Zu z.E Za ld rfl (kr0 rfl)) (qsP (fun z=>Yq z.E Za ld rfl Tv rfl (z.M.rawAt0) (Flat.len _) (kr0 rfl)) (qsP (fun z=>Ko z.E Za ld rfl (kr0 rfl)) qs0))) ?_
   ·intro a w u hE hM
    have hM:=hM.pull1
    refine Zl (seg:=enc s12.1) (cs':=enc s12.1) hE hM Za rfl rfl rfl Tv (Flat.len _) (zle flq) (Flat.cell _) (Zi flq) fun w a hM hE=>Zg ?_
    obtain rfl:=Option.some.inj hl218
    refine Zj ?_
    have hM:=M.fst (l:=[_]) hM
    exact ⟨hE.sub ⟨rfl,rfl,trivial⟩,hM⟩
  ·skip
   rintro a w ⟨hE,hM⟩
   obtain rfl:=Option.some.inj hF219
   have hq222 : Yl Tryz.prog _ _ (.cell 5 160) _:=ZI hE rfl Tv rfl hM.rawAt0 (Flat.len _) rfl
   exact wp_ret (kY hE rfl (ZQ hE rfl) hq222 ⟨_,rfl,rfl,hM.kept⟩)
def XU (p0 : (Vector UInt8 256)) (s10 : (Vector UInt8 256) × Int) : Option (Fl ((Vector UInt8 256) × Int) (Vector UInt8 256)) :=
 if (decide (s10.2 < 256)) = true then ((ZH p0 s10.2).bind fun x15=>(ZH s10.1 (bI x15)).bind fun x19=>some (Fl.nx ((s10.1.setIfInBounds ((bI x15)).toNat (Zr s10.2)),wr (s10.2 + 1)))) else (some (Fl.ex s10.1))
def Vk (p0 : (Vector UInt8 256)) : Option ((Vector UInt8 256)) :=
 (ZB (XU p0) ((Vector.replicate 256 (0 : UInt8)),0)).bind fun j7=>some j7
theorem Hs (w0 : World) (p0 : (Vector UInt8 256)) (r : (Vector UInt8 256)) (hF : Vk p0 = some r) :
  Calls Tryz.prog 212 [(Value.agg (enc p0).toArray)].toArray w0 (Rt w0 (Value.agg (enc r).toArray)):=by
 refine ce Tryz.func212 ?_
 intro a hE
 have hM:=M.start w0
 unfold Vk at hF
 refine Zb (ZO (cs:=enc p0) hE hM Za ld rfl rfl fun b1 w a hM hE=>Zz hE hM X1 fun b3 w a hM hE=>Ze (Zb (Wd (parts:=[]) (vs:=[]) (cs:=enc (Vector.replicate 256 (0 : UInt8))) hE Za ld rfl rfl X1 rfl ty5 XF fun a hE=>Zz hE hM X1 fun b5 w a hM hE=>Zl (seg:=enc (Vector.replicate 256 (0 : UInt8))) (cs':=enc (Vector.replicate 256 (0 : UInt8))) hE hM Za rfl rfl rfl X1 (Flat.len _) (zle flq) (Flat.cell _) (Zi flq) fun w a hM hE=>Ze (wp_seq (Zb (Zn hE rfl X1 rfl hM.rawAt2 (Flat.len _) fun a hE=>Zd hE rfl fun a hE=>Ze ?_))))))
 obtain ⟨j7,hl8,hF9⟩:=bind_some hF
 refine ZK (fun a w=>Env 18 a [(2,(ptr b3 0)),(3,(ptr b5 0))] ∧ M (Old w0) w0 w [raw b5 (enc j7),raw b3 (enc (Vector.replicate 256 (0 : UInt8)))]) ?_ ?_
 ·skip
  refine wp_block ?_
  have hM:=M.fst (l:=[_,_]) hM.pull1.pull1
  refine ZE (fun (s10 : (Vector UInt8 256) × Int) a w=>Env 18 a [(2,(ptr b3 0)),(3,(ptr b5 0)),(7,(Value.agg (enc p0).toArray)),(8,vI s10.2)] ∧ M (Old w0) w0 w [raw b5 (enc s10.1),raw b3 (enc (Vector.replicate 256 (0 : UInt8)))]) hl8 ⟨hE.sub ⟨rfl,rfl,rfl,rfl,trivial⟩,hM⟩ ?_
  rintro s10 a w ⟨hE,hM⟩ o13 hs11 hx12
  unfold XU at hs11
  refine Zb (Zh hE rfl rfl rfl fun a hE=>Ze (wp_seq ?_))
  refine Zq hE rfl ?_ ?_
  ·intro hb14
   have hs11:=Zx hs11 hb14
   refine wp_skip (Zt (wp_seq (wp_block (Zb (Zd hE rfl ?_))))); intro a hE
   obtain ⟨x15,hi17,hs11⟩:=bvx hs11
   refine JF hE Za ld rfl rfl Tryz.underlying157 ty5 rfl rfl hi17 rfl fun a hE=>Zc hE rfl fun a hE=>Zc hE rfl fun a hE=>Ze (wp_region_lit (Zd hE rfl fun a hE=>Zd hE rfl fun a hE=>Yf hE Za ld rfl Tryz.underlying3 Tryz.underlying5 ?_)); intro a hE
   obtain ⟨x19,hi18,hs11⟩:=bvx hs11
   refine ZC hE rfl rfl Tryz.underlying157 ty5 hi18.1 fun a hE=>Zl (seg:=[(vB (Zr s10.2))]) (cs':=enc (s10.1.setIfInBounds ((bI x15)).toNat (Zr s10.2))) hE hM Za rfl rfl rfl ty5 rfl (ZR (v:=s10.1) (x:=Zr s10.2) hi18.1) (Flat.cell (Zr s10.2 : UInt8)) (ZF (v:=s10.1) (x:=Zr s10.2) hi18.1) fun w a hM hE=>Zg (Yc (Zt (wp_region_lit (Zh hE rfl rfl rfl fun a hE=>Zd hE rfl fun a hE=>Zg (Zj ?_)))))
   exact ⟨_,(ois hs11),hE.sub ⟨rfl,rfl,rfl,rfl,trivial⟩,hM⟩
  ·intro hb14
   have hs11:=Zw hs11 hb14
   refine wp_exit (Zp (Zp (Ye ?_)))
   obtain rfl:=hx12 _ (ois hs11)
   refine Zj ?_
   exact ⟨hE.sub ⟨rfl,rfl,trivial⟩,hM⟩
 ·skip
  rintro a w ⟨hE,hM⟩
  refine Zt (Zb (Zn hE rfl X1 rfl hM.rawAt0 (Flat.len _) ?_)); intro a hE
  have hM:=hM.pull1
  refine Zl (seg:=enc j7) (cs':=enc j7) hE hM Za rfl rfl rfl X1 (Flat.len _) (zle flq) (Flat.cell _) (Zi flq) fun w a hM hE=>Ze ?_
  obtain rfl:=Option.some.inj hF9
  have hq22 : Yl Tryz.prog _ _ (.cell 2 157) _:=ZI hE rfl X1 rfl hM.rawAt0 (Flat.len _) rfl
  exact wp_ret (ZJ hE rfl hq22 ⟨_,rfl,rfl,hM.kept⟩)
def Xe (p0 : (Vector UInt8 16)) (s10 : (Vector UInt8 16) × Int) : Option (Fl ((Vector UInt8 16) × Int) (Vector UInt8 16)) :=
 if (decide (s10.2 < 16)) = true then ((ZH p0 s10.2).bind fun x15=>(ZH s10.1 (bI x15)).bind fun x19=>some (Fl.nx ((s10.1.setIfInBounds ((bI x15)).toNat (Zr s10.2)),wr (s10.2 + 1)))) else (some (Fl.ex s10.1))
def X6 (p0 : (Vector UInt8 16)) : Option ((Vector UInt8 16)) :=
 (ZB (Xe p0) ((Vector.replicate 16 (0 : UInt8)),0)).bind fun j7=>some j7
theorem Jk (w0 : World) (p0 : (Vector UInt8 16)) (r : (Vector UInt8 16)) (hF : X6 p0 = some r) :
  Calls Tryz.prog 213 [(Value.agg (enc p0).toArray)].toArray w0 (Rt w0 (Value.agg (enc r).toArray)):=by
 refine ce Tryz.func213 ?_
 intro a hE
 have hM:=M.start w0
 unfold X6 at hF
 refine Zb (ZO (cs:=enc p0) hE hM Za ld rfl rfl fun b1 w a hM hE=>Zz hE hM Q2 fun b3 w a hM hE=>Ze (Zb (Wd (parts:=[]) (vs:=[]) (cs:=enc (Vector.replicate 16 (0 : UInt8))) hE Za ld rfl rfl Q2 rfl ty5 XF fun a hE=>Zz hE hM Q2 fun b5 w a hM hE=>Zl (seg:=enc (Vector.replicate 16 (0 : UInt8))) (cs':=enc (Vector.replicate 16 (0 : UInt8))) hE hM Za rfl rfl rfl Q2 (Flat.len _) (zle flq) (Flat.cell _) (Zi flq) fun w a hM hE=>Ze (wp_seq (Zb (Zn hE rfl Q2 rfl hM.rawAt2 (Flat.len _) fun a hE=>Zd hE rfl fun a hE=>Ze ?_))))))
 obtain ⟨j7,hl8,hF9⟩:=bind_some hF
 refine ZK (fun a w=>Env 18 a [(2,(ptr b3 0)),(3,(ptr b5 0))] ∧ M (Old w0) w0 w [raw b5 (enc j7),raw b3 (enc (Vector.replicate 16 (0 : UInt8)))]) ?_ ?_
 ·skip
  refine wp_block ?_
  have hM:=M.fst (l:=[_,_]) hM.pull1.pull1
  refine ZE (fun (s10 : (Vector UInt8 16) × Int) a w=>Env 18 a [(2,(ptr b3 0)),(3,(ptr b5 0)),(7,(Value.agg (enc p0).toArray)),(8,vI s10.2)] ∧ M (Old w0) w0 w [raw b5 (enc s10.1),raw b3 (enc (Vector.replicate 16 (0 : UInt8)))]) hl8 ⟨hE.sub ⟨rfl,rfl,rfl,rfl,trivial⟩,hM⟩ ?_
  rintro s10 a w ⟨hE,hM⟩ o13 hs11 hx12
  unfold Xe at hs11
  refine Zb (Zh hE rfl rfl rfl fun a hE=>Ze (wp_seq ?_))
  refine Zq hE rfl ?_ ?_
  ·intro hb14
   have hs11:=Zx hs11 hb14
   refine wp_skip (Zt (wp_seq (wp_block (Zb (Zd hE rfl ?_))))); intro a hE
   obtain ⟨x15,hi17,hs11⟩:=bvx hs11
   refine JF hE Za ld rfl rfl Tryz.underlying161 ty5 rfl rfl hi17 rfl fun a hE=>Zc hE rfl fun a hE=>Zc hE rfl fun a hE=>Ze (wp_region_lit (Zd hE rfl fun a hE=>Zd hE rfl fun a hE=>Yf hE Za ld rfl Tryz.underlying3 Tryz.underlying5 ?_)); intro a hE
   obtain ⟨x19,hi18,hs11⟩:=bvx hs11
   refine ZC hE rfl rfl Tryz.underlying161 ty5 hi18.1 fun a hE=>Zl (seg:=[(vB (Zr s10.2))]) (cs':=enc (s10.1.setIfInBounds ((bI x15)).toNat (Zr s10.2))) hE hM Za rfl rfl rfl ty5 rfl (ZR (v:=s10.1) (x:=Zr s10.2) hi18.1) (Flat.cell (Zr s10.2 : UInt8)) (ZF (v:=s10.1) (x:=Zr s10.2) hi18.1) fun w a hM hE=>Zg (Yc (Zt (wp_region_lit (Zh hE rfl rfl rfl fun a hE=>Zd hE rfl fun a hE=>Zg (Zj ?_)))))
   exact ⟨_,(ois hs11),hE.sub ⟨rfl,rfl,rfl,rfl,trivial⟩,hM⟩
  ·intro hb14
   have hs11:=Zw hs11 hb14
   refine wp_exit (Zp (Zp (Ye ?_)))
   obtain rfl:=hx12 _ (ois hs11)
   refine Zj ?_
   exact ⟨hE.sub ⟨rfl,rfl,trivial⟩,hM⟩
 ·skip
  rintro a w ⟨hE,hM⟩
  refine Zt (Zb (Zn hE rfl Q2 rfl hM.rawAt0 (Flat.len _) ?_)); intro a hE
  have hM:=hM.pull1
  refine Zl (seg:=enc j7) (cs':=enc j7) hE hM Za rfl rfl rfl Q2 (Flat.len _) (zle flq) (Flat.cell _) (Zi flq) fun w a hM hE=>Ze ?_
  obtain rfl:=Option.some.inj hF9
  have hq22 : Yl Tryz.prog _ _ (.cell 2 161) _:=ZI hE rfl Q2 rfl hM.rawAt0 (Flat.len _) rfl
  exact wp_ret (ZJ hE rfl hq22 ⟨_,rfl,rfl,hM.kept⟩)
def Va (s8 : (Vector (Vector (Vector UInt8 256) 4) 4) × Int) (s19 : (Vector (Vector (Vector UInt8 256) 4) 4) × Int) (s30 : (Vector (Vector (Vector UInt8 256) 4) 4) × Int) (r35 : UInt8) (s40 : (Vector (Vector (Vector UInt8 256) 4) 4) × Int) : Option (Fl ((Vector (Vector (Vector UInt8 256) 4) 4) × Int) (Vector (Vector (Vector UInt8 256) 4) 4)) :=
 if (decide (s40.2 < s30.2)) = true then ((ZH s40.1 s8.2).bind fun x47=>(ZH x47 s19.2).bind fun x50=>(ZH x50 s40.2).bind fun x53=>(ZH s40.1 s8.2).bind fun x56=>(ZH x56 s19.2).bind fun x59=>(ZH x59 (orI s30.2 s40.2)).bind fun x62=>some (Fl.nx ((s40.1.setIfInBounds (s8.2).toNat (x56.setIfInBounds (s19.2).toNat (x59.setIfInBounds ((orI s30.2 s40.2)).toNat (r35 ^^^ x53)))),wr (s40.2 + 1)))) else (some (Fl.ex s40.1))
def Vc (p0 : Int) (s8 : (Vector (Vector (Vector UInt8 256) 4) 4) × Int) (s19 : (Vector (Vector (Vector UInt8 256) 4) 4) × Int) (x24 : UInt8) (s30 : (Vector (Vector (Vector UInt8 256) 4) 4) × Int) : Option (Fl ((Vector (Vector (Vector UInt8 256) 4) 4) × Int) (Vector (Vector (Vector UInt8 256) 4) 4)) :=
 if (decide (s30.2 < 256)) = true then ((Yk p0 x24 (Zr s30.2)).bind fun r35=>(ZB (Va s8 s19 s30 r35) (s30.1,0)).bind fun j37=>some (Fl.nx (j37,wr (s30.2 * 2)))) else (some (Fl.ex s30.1))
def Vj (p0 : Int) (s8 : (Vector (Vector (Vector UInt8 256) 4) 4) × Int) (x14 : (Vector UInt8 4)) (s19 : (Vector (Vector (Vector UInt8 256) 4) 4) × Int) : Option (Fl ((Vector (Vector (Vector UInt8 256) 4) 4) × Int) (Vector (Vector (Vector UInt8 256) 4) 4)) :=
 if (decide (s19.2 < 4)) = true then ((ZH x14 s19.2).bind fun x24=>(ZB (Vc p0 s8 s19 x24) (s19.1,1)).bind fun j27=>some (Fl.nx (j27,wr (s19.2 + 1)))) else (some (Fl.ex s19.1))
def Vd (p0 : Int) (p1 : (Vector (Vector UInt8 4) 4)) (s8 : (Vector (Vector (Vector UInt8 256) 4) 4) × Int) : Option (Fl ((Vector (Vector (Vector UInt8 256) 4) 4) × Int) (Vector (Vector (Vector UInt8 256) 4) 4)) :=
 if (decide (s8.2 < 4)) = true then ((ZH p1 s8.2).bind fun x14=>(ZB (Vj p0 s8 x14) (s8.1,0)).bind fun j16=>some (Fl.nx (j16,wr (s8.2 + 1)))) else (some (Fl.ex s8.1))
def VF (p0 : Int) (p1 : (Vector (Vector UInt8 4) 4)) : Option ((Ref (Vector (Vector (Vector UInt8 256) 4) 4))) :=
 (ZB (Vd p0 p1) ((Vector.replicate 4 (Vector.replicate 4 (Vector.replicate 256 (0 : UInt8)))),0)).bind fun j5=>some (⟨j5⟩ : (Ref (Vector (Vector (Vector UInt8 256) 4) 4)))
theorem Jf (w0 : World) (p0 : Int) (p1 : (Vector (Vector UInt8 4) 4)) (r : (Ref (Vector (Vector (Vector UInt8 256) 4) 4))) (hF : VF p0 p1 = some r) :
  Calls Tryz.prog 214 [vI p0,(Value.agg (enc p1).toArray)].toArray w0 (fun en w'=>∃ v,en = .returned v ∧ (∃ (y1 : Value),v = y1 ∧ Fr w0 w' [own NoB (r : (Ref (Vector (Vector (Vector UInt8 256) 4) 4))) [y1]] ∧ Kept (Old w0) w0 w')):=by
 refine ce Tryz.func214 ?_
 intro a hE
 have hM:=M.start w0
 unfold VF at hF
 refine Zb (ZO (cs:=enc p1) hE hM Za ld rfl rfl fun b1 w a hM hE=>Zc hE rfl fun a hE=>Ze (Zb (Wd (parts:=[]) (vs:=[]) (cs:=enc (Vector.replicate 4 (Vector.replicate 4 (Vector.replicate 256 (0 : UInt8))))) hE Za ld rfl rfl ty265 rfl za XF fun a hE=>ZO (cs:=enc (Vector.replicate 4 (Vector.replicate 4 (Vector.replicate 256 (0 : UInt8))))) hE hM Za ld rfl rfl fun b3 w a hM hE=>Zc hE rfl fun a hE=>Ze (wp_seq (Zb (Zd hE rfl fun a hE=>Ze ?_))))))
 obtain ⟨j5,hl6,hF7⟩:=bind_some hF
 refine ZK (fun a w=>Env 62 a [(5,(ptr b3 0))] ∧ M (Old w0) w0 w [raw b3 (enc j5)]) ?_ ?_
 ·skip
  refine wp_block ?_
  refine ZE (fun (s8 : (Vector (Vector (Vector UInt8 256) 4) 4) × Int) a w=>Env 62 a [(0,vI p0),(3,(ptr b1 0)),(5,(ptr b3 0)),(14,vI s8.2)] ∧ M (Old w0) w0 w [raw b3 (enc s8.1),raw b1 (enc p1)]) hl6 ⟨hE.sub ⟨rfl,rfl,rfl,rfl,trivial⟩,hM⟩ ?_
  rintro s8 a w ⟨hE,hM⟩ o11 hs9 hx10
  unfold Vd at hs9
  refine Zb (Zh hE rfl rfl rfl fun a hE=>Ze (wp_seq ?_))
  refine Zq hE rfl ?_ ?_
  ·intro hb12
   have hs9:=Zx hs9 hb12
   refine wp_skip (Zt (wp_seq (wp_block (Zb (Zd hE rfl fun a hE=>Zc hE rfl fun a hE=>Ze (Zb (Zd hE rfl ?_))))))); intro a hE
   obtain ⟨x14,hi13,hs9⟩:=bvx hs9
   refine ZC hE rfl rfl Tryz.underlying160 XX hi13.1 fun a hE=>Zn hE rfl XX rfl (At.vec hM.rawAt1 hi13.2) (Flat.len _) fun a hE=>Zd hE rfl fun a hE=>Ze ?_
   obtain ⟨j16,hl17,hF18⟩:=bind_some hs9
   refine ZK (fun a w=>Env 62 a [(0,vI p0),(3,(ptr b1 0)),(5,(ptr b3 0)),(14,vI s8.2)] ∧ M (Old w0) w0 w [raw b3 (enc j16),raw b1 (enc p1)]) ?_ ?_
   ·skip
    refine wp_block ?_
    refine ZE (fun (s19 : (Vector (Vector (Vector UInt8 256) 4) 4) × Int) a w=>Env 62 a [(0,vI p0),(3,(ptr b1 0)),(5,(ptr b3 0)),(6,vI s8.2),(14,vI s8.2),(19,(Value.agg (enc x14).toArray)),(20,vI s19.2)] ∧ M (Old w0) w0 w [raw b3 (enc s19.1),raw b1 (enc p1)]) hl17 ⟨hE.sub ⟨rfl,rfl,rfl,rfl,rfl,rfl,rfl,trivial⟩,hM⟩ ?_
    rintro s19 a w ⟨hE,hM⟩ o22 hs20 hx21
    unfold Vj at hs20
    refine Zb (Zh hE rfl rfl rfl fun a hE=>Ze (wp_seq ?_))
    refine Zq hE rfl ?_ ?_
    ·intro hb23
     have hs20:=Zx hs20 hb23
     refine wp_skip (Zt (wp_seq (wp_block (Zb (Zd hE rfl ?_))))); intro a hE
     obtain ⟨x24,hi26,hs20⟩:=bvx hs20
     refine JF hE Za ld rfl rfl Tryz.underlying158 ty5 rfl rfl hi26 rfl fun a hE=>Zc hE rfl fun a hE=>Zc hE rfl fun a hE=>Ze (Zb (Zc hE rfl fun a hE=>Ze ?_))
     obtain ⟨j27,hl28,hF29⟩:=bind_some hs20
     refine ZK (fun a w=>Env 62 a [(0,vI p0),(3,(ptr b1 0)),(5,(ptr b3 0)),(6,vI s8.2),(14,vI s8.2),(19,(Value.agg (enc x14).toArray)),(20,vI s19.2)] ∧ M (Old w0) w0 w [raw b3 (enc j27),raw b1 (enc p1)]) ?_ ?_
     ·skip
      refine wp_block ?_
      refine ZE (fun (s30 : (Vector (Vector (Vector UInt8 256) 4) 4) × Int) a w=>Env 62 a [(0,vI p0),(3,(ptr b1 0)),(5,(ptr b3 0)),(6,vI s8.2),(7,vI s19.2),(8,vB x24),(9,vI s30.2),(14,vI s8.2),(19,(Value.agg (enc x14).toArray)),(20,vI s19.2)] ∧ M (Old w0) w0 w [raw b3 (enc s30.1),raw b1 (enc p1)]) hl28 ⟨hE.sub ⟨rfl,rfl,rfl,rfl,rfl,rfl,rfl,rfl,rfl,rfl,trivial⟩,hM⟩ ?_
      rintro s30 a w ⟨hE,hM⟩ o33 hs31 hx32
      unfold Vc at hs31
      refine wp_seq (Zb (Zd hE rfl fun a hE=>Zh hE rfl rfl rfl fun a hE=>Ze ?_))
      refine Zq hE rfl ?_ ?_
      ·intro hb34
       have hs31:=Zx hs31 hb34
       refine wp_skip (Zt (wp_seq (wp_block (Zb (Zd hE rfl fun a hE=>Zd hE rfl fun a hE=>Zd hE rfl fun a hE=>Yf hE Za ld rfl Tryz.underlying3 Tryz.underlying5 ?_))))); intro a hE
       obtain ⟨r35,e36,hs31⟩:=bind_some hs31
       refine Zv hE rfl B1 (Y7 _ p0 x24 (Zr s30.2) r35 e36) ?_
       rintro v w a ⟨rfl,hK⟩ hE
       have hM:=hM.keep hK
       refine Zc hE rfl fun a hE=>Ze (Zb (Zd hE rfl fun a hE=>Zd hE rfl fun a hE=>Ze ?_))
       obtain ⟨j37,hl38,hF39⟩:=bind_some hs31
       refine ZK (fun a w=>Env 62 a [(0,vI p0),(3,(ptr b1 0)),(5,(ptr b3 0)),(6,vI s8.2),(7,vI s19.2),(8,vB x24),(9,vI s30.2),(14,vI s8.2),(19,(Value.agg (enc x14).toArray)),(20,vI s19.2)] ∧ M (Old w0) w0 w [raw b3 (enc j37),raw b1 (enc p1)]) ?_ ?_
       ·skip
        refine wp_block ?_
        refine ZE (fun (s40 : (Vector (Vector (Vector UInt8 256) 4) 4) × Int) a w=>Env 62 a [(0,vI p0),(3,(ptr b1 0)),(5,(ptr b3 0)),(6,vI s8.2),(7,vI s19.2),(8,vB x24),(9,vI s30.2),(10,vB r35),(14,vI s8.2),(19,(Value.agg (enc x14).toArray)),(20,vI s19.2),(33,vI s30.2),(34,vI s40.2)] ∧ M (Old w0) w0 w [raw b3 (enc s40.1),raw b1 (enc p1)]) hl38 ⟨hE.sub ⟨rfl,rfl,rfl,rfl,rfl,rfl,rfl,rfl,rfl,rfl,rfl,rfl,rfl,trivial⟩,hM⟩ ?_
        rintro s40 a w ⟨hE,hM⟩ o43 hs41 hx42
        unfold Va at hs41
        refine Zb (Zh hE rfl rfl rfl fun a hE=>Ze (wp_seq ?_))
        refine Zq hE rfl ?_ ?_
        ·intro hb44
         have hs41:=Zx hs41 hb44
         refine wp_skip (Zt (wp_seq (wp_block (Zb (Zd hE rfl fun a hE=>Zc hE rfl fun a hE=>Ze ?_)))))
         obtain ⟨x47,hi46,hs41⟩:=bvx hs41
         obtain ⟨x50,hi49,hs41⟩:=bvx hs41
         obtain ⟨x53,hi52,hs41⟩:=bvx hs41
         obtain ⟨x56,hi55,hs41⟩:=bvx hs41
         obtain ⟨x59,hi58,hs41⟩:=bvx hs41
         obtain ⟨x62,hi61,hs41⟩:=bvx hs41
         refine Yj [37,38,39,40,41,42,43,44,45,46,47,48,49,50,51,52,53,54,55,56,57] YL rfl rfl (by decide) rfl hE hM (qsP (fun z=>Zu z.E Za ld rfl (kr0 rfl)) (qsP (fun z=>Zu z.E Za ld rfl (kr0 rfl)) (qsP (fun z=>Zu z.E Za ld rfl (kr0 rfl)) (qsP (fun z=>Zu z.E Za ld rfl (kr0 rfl)) (qsP (fun z=>Zu z.E Za ld rfl (kr0 rfl)) (qsP (v:=(vI (orI s30.2 s40.2))) (fun z=>Yb z.E Za ld rfl rfl rfl (kr0 rfl)) (qsP (fun z=>Zu z.E Za ld rfl (kr0 rfl)) (qsP (fun z=>Zu z.E Za ld rfl (kr0 rfl)) (qsP (fun z=>Zu z.E Za ld rfl (kr0 rfl)) (qsP (fun z=>Zu z.E Za ld rfl (kr0 rfl)) (qsP (fun z=>Zu z.E Za ld rfl (kr0 rfl)) (qsP (fun z=>WN z.E Za ld rfl (kr0 rfl)) (qsP (fun z=>ZG z.E Za ld rfl rfl Tryz.underlying265 za hi46.1 (kr0 rfl)) (qsP (fun z=>ZG z.E Za ld rfl rfl Tryz.underlying263 yx hi49.1 (kr0 rfl)) (qsP (fun z=>ZG z.E Za ld rfl rfl Tryz.underlying156 ty5 hi52.1 (kr0 rfl)) (qsP (fun z=>ZN (v:=(vB x53)) z.E Za ld rfl ty5 rfl (At.vec (At.vec (At.vec (z.M.rawAt0) hi46.2) hi49.2) hi52.2) (kr0 rfl)) (qsP (v:=(vB (r35 ^^^ x53))) (fun z=>Yb z.E Za ld rfl rfl (Vu r35 x53) (kr0 rfl)) (qsP (fun z=>WN z.E Za ld rfl (kr0 rfl)) (qsP (fun z=>ZG z.E Za ld rfl rfl Tryz.underlying265 za hi55.1 (kr0 rfl)) (qsP (fun z=>ZG z.E Za ld rfl rfl Tryz.underlying263 yx hi58.1 (kr0 rfl)) (qsP (fun z=>ZG z.E Za ld rfl rfl Tryz.underlying156 ty5 hi61.1 (kr0 rfl)) qs0))))))))))))))))))))) ?_
         ·intro a w u hE hM
          refine Zl (seg:=[(vB (r35 ^^^ x53))]) (cs':=enc (s40.1.setIfInBounds (s8.2).toNat (x56.setIfInBounds (s19.2).toNat (x59.setIfInBounds ((orI s30.2 s40.2)).toNat (r35 ^^^ x53))))) hE hM Za rfl rfl rfl ty5 rfl (UP (o':=(s19.2).toNat * 256 + (0 + ((orI s30.2 s40.2)).toNat * 1)) hi55 (UP (o':=0 + ((orI s30.2 s40.2)).toNat * 1) hi58 (ZR (v:=x59) (x:=r35 ^^^ x53) hi61.1) (by first | omega | (simp only [Flat.n] <;> omega))) (by first | omega | (simp only [Flat.n] <;> omega))) (Flat.cell (r35 ^^^ x53 : UInt8)) (VW (o':=(s19.2).toNat * 256 + (0 + ((orI s30.2 s40.2)).toNat * 1)) hi55 (UP (o':=0 + ((orI s30.2 s40.2)).toNat * 1) hi58 (ZR (v:=x59) (x:=r35 ^^^ x53) hi61.1) (by first | omega | (simp only [Flat.n] <;> omega))) (VW (o':=0 + ((orI s30.2 s40.2)).toNat * 1) hi58 (ZR (v:=x59) (x:=r35 ^^^ x53) hi61.1) (ZF (v:=x59) (x:=r35 ^^^ x53) hi61.1) (by first | omega | (simp only [Flat.n] <;> omega))) (by first | omega | (simp only [Flat.n] <;> omega))) fun w a hM hE=>Zg (Yc (Zt (wp_region_lit (Zh hE rfl rfl rfl fun a hE=>Zd hE rfl fun a hE=>Zg (Zj ?_)))))
          exact ⟨_,(ois hs41),hE.sub ⟨rfl,rfl,rfl,rfl,rfl,rfl,rfl,rfl,rfl,rfl,rfl,rfl,rfl,trivial⟩,hM⟩
        ·intro hb44
         have hs41:=Zw hs41 hb44
         refine wp_exit (Zp (Zp (Ye ?_)))
         obtain rfl:=hx42 _ (ois hs41)
         refine Zj ?_
         exact ⟨hE.sub ⟨rfl,rfl,rfl,rfl,rfl,rfl,rfl,rfl,rfl,rfl,trivial⟩,hM⟩
       ·skip
        rintro a w ⟨hE,hM⟩
        refine Yc (Zt (wp_region_lit (Zd hE rfl fun a hE=>Zh hE rfl rfl rfl fun a hE=>Zc hE rfl fun a hE=>Zg (Zj ?_))))
        exact ⟨_,(ois hF39),hE.sub ⟨rfl,rfl,rfl,rfl,rfl,rfl,rfl,rfl,rfl,rfl,trivial⟩,hM⟩
      ·intro hb34
       have hs31:=Zw hs31 hb34
       refine wp_exit (Zp (Zp (Ye ?_)))
       obtain rfl:=hx32 _ (ois hs31)
       refine Zj ?_
       exact ⟨hE.sub ⟨rfl,rfl,rfl,rfl,rfl,rfl,rfl,trivial⟩,hM⟩
     ·skip
      rintro a w ⟨hE,hM⟩
      refine Yc (Zt (wp_region_lit (Zh hE rfl rfl rfl fun a hE=>Zd hE rfl fun a hE=>Zg (Zj ?_))))
      exact ⟨_,(ois hF29),hE.sub ⟨rfl,rfl,rfl,rfl,rfl,rfl,rfl,trivial⟩,hM⟩
    ·intro hb23
     have hs20:=Zw hs20 hb23
     refine wp_exit (Zp (Zp (Ye ?_)))
     obtain rfl:=hx21 _ (ois hs20)
     refine Zj ?_
     exact ⟨hE.sub ⟨rfl,rfl,rfl,rfl,trivial⟩,hM⟩
   ·skip
    rintro a w ⟨hE,hM⟩
    refine Yc (Zt (wp_region_lit (Zh hE rfl rfl rfl fun a hE=>Zd hE rfl fun a hE=>Zg (Zj ?_))))
    exact ⟨_,(ois hF18),hE.sub ⟨rfl,rfl,rfl,rfl,trivial⟩,hM⟩
  ·intro hb12
   have hs9:=Zw hs9 hb12
   refine wp_exit (Zp (Zp (Ye ?_)))
   obtain rfl:=hx10 _ (ois hs9)
   refine Zj ?_
   have hM:=M.fst (l:=[_]) hM
   exact ⟨hE.sub ⟨rfl,trivial⟩,hM⟩
 ·skip
  rintro a w ⟨hE,hM⟩
  refine Zt (Zb (Zd hE rfl fun a hE=>Zc hE rfl fun a hE=>Ze ?_))
  have hM:=M.toRefF (x:=j5) hM
  obtain rfl:=Option.some.inj hF7
  exact wp_ret (ZJ hE rfl (ZQ hE rfl) ⟨_,rfl,(ptr b3 0),rfl,hM.outF (BZ YR),hM.kept⟩)
def Us (p0 : GCipher) : Option ((Ref Gengine)) :=
 (XT p0.Field p0.Mix).bind fun r3=>(Vk p0.Box).bind fun r8=>(X6 p0.Places).bind fun r10=>(VF p0.Field p0.Mix).bind fun r12=>(VF p0.Field r3.2).bind fun r15=>some (⟨(⟨p0.Box,r8,p0.Places,r10,r12,r15,p0.Rounds⟩ : Gengine)⟩ : (Ref Gengine))
theorem BV (w0 : World) (p0 : GCipher) (r : (Ref Gengine)) (hF : Us p0 = some r) :
  Calls Tryz.prog 179 [(Value.agg (enc p0).toArray)].toArray w0 (fun en w'=>∃ v,en = .returned v ∧ (∃ (y1 : Value),v = y1 ∧ Fr w0 w' [own NoB (r : (Ref Gengine)) [y1]] ∧ Kept (Old w0) w0 w')):=by
 refine ce Tryz.func179 ?_
 intro a hE
 have hM:=M.start w0
 unfold Us at hF
 refine Zb (ZO (cs:=cat [[vI p0.Field],enc p0.Box,enc p0.Mix,enc p0.Places,[vI p0.Rounds]]) hE hM Za ld rfl rfl fun b1 w a hM hE=>Zc hE rfl fun a hE=>Ze (Zb (Zf hE rfl (AC) fun a hE=>Zy (v:=(vI p0.Field)) hE rfl ty2 rfl (At.cat (pre:=[]) hM.rawAt0 cl0) fun a hE=>Zf hE rfl (Bb) fun a hE=>Zn hE rfl Tv rfl (At.cat (pre:=[[vI p0.Field],enc p0.Box]) hM.rawAt0 ck) (Flat.len _) ?_))); intro a hE
 obtain ⟨r3,e4,hF⟩:=bind_some hF
 refine Zv hE rfl (cbm Tryz.func211) (J2 _ p0.Field p0.Mix r3 e4) ?_
 rintro v w a ⟨rfl,hK⟩ hE
 have hM:=hM.keep hK
 refine Zd hE rfl fun a hE=>W8 hE Za ld rfl rfl fun a hE=>W8 hE Za ld rfl rfl fun a hE=>Zz hE hM Tv fun b5 w a hM hE=>Zc hE rfl fun a hE=>Zl (seg:=enc r3.2) (cs':=enc r3.2) hE hM Za rfl rfl rfl Tv (Flat.len _) (zle flq) (Flat.cell _) (Zi flq) fun w a hM hE=>Ze (wp_seq ?_)
 obtain ⟨r8,e9,hF⟩:=bind_some hF
 obtain ⟨r10,e11,hF⟩:=bind_some hF
 obtain ⟨r12,e13,hF⟩:=bind_some hF
 obtain ⟨r15,e16,hF⟩:=bind_some hF
 refine YA (its:=[raw b5 (enc r3.2),raw b1 (cat [[vI p0.Field],enc p0.Box,enc p0.Mix,enc p0.Places,[vI p0.Rounds]])]) (mk:=([mkO 14 (fun v=>own NoB (r12 : (Ref (Vector (Vector (Vector UInt8 256) 4) 4))) [v]),mkO 18 (fun v=>own NoB (r15 : (Ref (Vector (Vector (Vector UInt8 256) 4) 4))) [v])] : Mk)) [13,14,15,16,17,18,19,20,21,22,23,24,25,26,27,28,29,30,31,32,33] YL rfl rfl (by decide) rfl hE (fun u=>M.qE (M.qE (M.q0 hM.drew u) emO) emO) (qsP (fun z=>Zk z.E Za ld rfl (JQ) (kr0 rfl)) (qsP (v:=(Value.agg (enc p0.Box).toArray)) ?_ (qsP (fun z=>Zk z.E Za ld rfl (JQ) (kr0 rfl)) (qsP (v:=(Value.agg (enc p0.Box).toArray)) ?_ (qsP (fun z=>Z7 z.E Za ld rfl (cbm Tryz.func212) (Hs _ p0.Box r8 e9) (kc rfl)) (qsP (fun z=>Zk z.E Za ld rfl (Bk) (kr0 rfl)) (qsP (v:=(Value.agg (enc p0.Places).toArray)) ?_ (qsP (fun z=>Zk z.E Za ld rfl (Bk) (kr0 rfl)) (qsP (v:=(Value.agg (enc p0.Places).toArray)) ?_ (qsP (fun z=>Z7 z.E Za ld rfl (cbm Tryz.func213) (Jk _ p0.Places r10 e11) (kc rfl)) (qsP (fun z=>Zk z.E Za ld rfl (AC) (kr0 rfl)) (qsP (v:=(vI p0.Field)) ?_ (qsP (fun z=>Zk z.E Za ld rfl (Bb) (kr0 rfl)) (qsP (v:=(Value.agg (enc p0.Mix).toArray)) ?_ (qsM (pr:=fun v=>True) ?_ (qsP (fun z=>Zk z.E Za ld rfl (AC) (kr0 rfl)) (qsP (v:=(vI p0.Field)) ?_ (qsP (v:=(Value.agg (enc r3.2).toArray)) ?_ (qsM (pr:=fun v=>True) ?_ (qsP (fun z=>Zk z.E Za ld rfl (jg) (kr0 rfl)) (qsP (v:=(vI p0.Rounds)) ?_ qs0))))))))))))))))))))) ?_
 ·intro a w ux7 D z
  have hE:=z.E
  have hM:=z.M
  exact Zn hE rfl X1 rfl (At.cat (pre:=[[vI p0.Field]]) hM.rawAt1 ck) (Flat.len _) fun a hE=>⟨Kept.refl _ _,_,rfl,hE⟩
 ·intro a w ux7 D z
  have hE:=z.E
  have hM:=z.M
  exact Zn hE rfl X1 rfl (At.cat (pre:=[[vI p0.Field]]) hM.rawAt1 ck) (Flat.len _) fun a hE=>⟨Kept.refl _ _,_,rfl,hE⟩
 ·intro a w ux7 D z
  have hE:=z.E
  have hM:=z.M
  exact Zn hE rfl Q2 rfl (At.cat (pre:=[[vI p0.Field],enc p0.Box,enc p0.Mix]) hM.rawAt1 ck) (Flat.len _) fun a hE=>⟨Kept.refl _ _,_,rfl,hE⟩
 ·intro a w ux7 D z
  have hE:=z.E
  have hM:=z.M
  exact Zn hE rfl Q2 rfl (At.cat (pre:=[[vI p0.Field],enc p0.Box,enc p0.Mix]) hM.rawAt1 ck) (Flat.len _) fun a hE=>⟨Kept.refl _ _,_,rfl,hE⟩
 ·intro a w ux7 D z
  have hE:=z.E
  have hM:=z.M
  exact Zy (v:=(vI p0.Field)) hE rfl ty2 rfl (At.cat (pre:=[]) hM.rawAt1 cl0) fun a hE=>⟨Kept.refl _ _,_,rfl,hE⟩
 ·intro a w ux7 D z
  have hE:=z.E
  have hM:=z.M
  exact Zn hE rfl Tv rfl (At.cat (pre:=[[vI p0.Field],enc p0.Box]) hM.rawAt1 ck) (Flat.len _) fun a hE=>⟨Kept.refl _ _,_,rfl,hE⟩
 ·intro a w ux7 D z
  have hE:=z.E
  have hD : D 14 = false:=z.F
  have hM0:=z.M
  have hM:=z.M
  refine Zv hE rfl (cbm Tryz.func214) (Jf _ p0.Field p0.Mix r12 e13) ?_
  rintro _ w a ⟨_,rfl,hFr,hK⟩ hE
  have hM:=hM0.add hK hFr
  exact ⟨_,_,rfl,hE,M.qFill (mk1:=[]) (mk2:=[_]) (f:=(fun v=>own NoB (r12 : (Ref (Vector (Vector (Vector UInt8 256) 4) 4))) [v])) hM rfl hD,trivial⟩
 ·intro a w ux7 D z
  have hE:=z.E
  have hM:=z.M
  exact Zy (v:=(vI p0.Field)) hE rfl ty2 rfl (At.cat (pre:=[]) hM.rawAt1 cl0) fun a hE=>⟨Kept.refl _ _,_,rfl,hE⟩
 ·intro a w ux7 D z
  have hE:=z.E
  have hM:=z.M
  exact Zn hE rfl Tv rfl hM.rawAt0 (Flat.len _) fun a hE=>⟨Kept.refl _ _,_,rfl,hE⟩
 ·intro a w ux7 D z
  have hE:=z.E
  have hD : D 18 = false:=z.F
  have hM0:=z.M
  have hM:=z.M
  refine Zv hE rfl (cbm Tryz.func214) (Jf _ p0.Field r3.2 r15 e16) ?_
  rintro _ w a ⟨_,rfl,hFr,hK⟩ hE
  have hM:=hM0.add hK hFr
  exact ⟨_,_,rfl,hE,M.qFill (mk1:=[_]) (mk2:=[]) (f:=(fun v=>own NoB (r15 : (Ref (Vector (Vector (Vector UInt8 256) 4) 4))) [v])) hM rfl hD,trivial⟩
 ·intro a w ux7 D z
  have hE:=z.E
  have hM:=z.M
  exact Zy (v:=(vI p0.Rounds)) hE rfl ty2 rfl (At.cat (pre:=[[vI p0.Field],enc p0.Box,enc p0.Mix,enc p0.Places]) hM.rawAt1 ck) fun a hE=>⟨Kept.refl _ _,_,rfl,hE⟩
 ·intro a w ux7 D hE hM hG hall
  have d14:=hall 14 (by decide)
  have d18:=hall 18 (by decide)
  have hM:=(hM.sure (pre:=[_,_]) d14).sure (pre:=[_,_,_]) d18
  refine Y8 (parts:=[(0,.tmp 14),(1,.tmp 17),(2,.tmp 19),(3,.tmp 22),(4,.tmp 27),(5,.tmp 31),(6,.tmp 33)]) (vs:=[(0,(Value.agg (enc p0.Box).toArray)),(1,(Value.agg (enc r8).toArray)),(2,(Value.agg (enc p0.Places).toArray)),(3,(Value.agg (enc r10).toArray)),(4,(ux7 14)),(5,(ux7 18)),(6,vI p0.Rounds)]) (cs:=cat [enc p0.Box,enc r8,enc p0.Places,enc r10,[(ux7 14)],[(ux7 18)],[vI p0.Rounds]]) hE Za ld rfl rfl B0 pl244 (Z5 (pre:=[]) (seg:=enc (Vector.replicate 256 (0 : UInt8))) (seg':=enc p0.Box) (post:=[enc (Vector.replicate 256 (0 : UInt8)),enc (Vector.replicate 16 (0 : UInt8)),enc (Vector.replicate 16 (0 : UInt8)),[(Value.pointer none)],[(Value.pointer none)],[vI 0]]) rfl cl0 (Flat.len _) (Flat.len _) rfl (Z5 (pre:=[enc p0.Box]) (seg:=enc (Vector.replicate 256 (0 : UInt8))) (seg':=enc r8) (post:=[enc (Vector.replicate 16 (0 : UInt8)),enc (Vector.replicate 16 (0 : UInt8)),[(Value.pointer none)],[(Value.pointer none)],[vI 0]]) rfl ck (Flat.len _) (Flat.len _) rfl (Z5 (pre:=[enc p0.Box,enc r8]) (seg:=enc (Vector.replicate 16 (0 : UInt8))) (seg':=enc p0.Places) (post:=[enc (Vector.replicate 16 (0 : UInt8)),[(Value.pointer none)],[(Value.pointer none)],[vI 0]]) rfl ck (Flat.len _) (Flat.len _) rfl (Z5 (pre:=[enc p0.Box,enc r8,enc p0.Places]) (seg:=enc (Vector.replicate 16 (0 : UInt8))) (seg':=enc r10) (post:=[[(Value.pointer none)],[(Value.pointer none)],[vI 0]]) rfl ck (Flat.len _) (Flat.len _) rfl (Z5 (pre:=[enc p0.Box,enc r8,enc p0.Places,enc r10]) (seg:=[(Value.pointer none)]) (seg':=[(ux7 14)]) (post:=[[(Value.pointer none)],[vI 0]]) rfl ck rfl rfl (yG (hM.ro (pre:=[_,_]) noB)) (Z5 (pre:=[enc p0.Box,enc r8,enc p0.Places,enc r10,[(ux7 14)]]) (seg:=[(Value.pointer none)]) (seg':=[(ux7 18)]) (post:=[[vI 0]]) rfl ck rfl rfl (yG (hM.ro (pre:=[_,_,_]) noB)) (Z5 (pre:=[enc p0.Box,enc r8,enc p0.Places,enc r10,[(ux7 14)],[(ux7 18)]]) (seg:=[vI 0]) (seg':=[vI p0.Rounds]) (post:=[]) rfl ck rfl rfl rfl Wu))))))) fun a hE=>ZO (cs:=cat [enc p0.Box,enc r8,enc p0.Places,enc r10,[(ux7 14)],[(ux7 18)],[vI p0.Rounds]]) hE hM Za ld rfl rfl fun b18 w a hM hE=>Zc hE rfl fun a hE=>Zg (Zt ?_)
  have hM:=hM.pull4.pull4
  have hM:=(((hM.pack2 (it:=own NoB (⟨p0.Box,r8,p0.Places,r10,r12,r15,p0.Rounds⟩ : Gengine) (cat [enc p0.Box,enc r8,enc p0.Places,enc r10,[(ux7 14)],[(ux7 18)],[vI p0.Rounds]])) (Xt noB) (fun f0 f1 q0 q1=>(qg q0 q1 (by simp)))).pull1).pull1).pull1
  have hM:=M.toRef hM noB
  obtain rfl:=Option.some.inj hF
  have hM:=M.fst (l:=[_]) hM
  exact wp_ret (ZJ hE rfl (ZQ hE rfl) ⟨_,rfl,(ptr b18 0),rfl,hM.outF (BZ YR),hM.kept⟩)
def Qu (p0 : Int) : Option ((Ref Gengine)) :=
 (Vx p0).bind fun r1=>(Us r1).bind fun r3=>some r3
theorem yY (w0 : World) (p0 : Int) (r : (Ref Gengine)) (hF : Qu p0 = some r) :
  Calls Tryz.prog 127 [vI p0].toArray w0 (fun en w'=>∃ v,en = .returned v ∧ (∃ (y1 : Value),v = y1 ∧ Fr w0 w' [own NoB (r : (Ref Gengine)) [y1]] ∧ Kept (Old w0) w0 w')):=by
 refine ce Tryz.func127 ?_
 intro a hE
 have hM:=M.start w0
 unfold Qu at hF
 refine Zb (Zc hE rfl fun a hE=>Ze (Zb (Zd hE rfl ?_))); intro a hE
 obtain ⟨r1,e2,hF⟩:=bind_some hF
 refine Zv hE rfl (cbm Tryz.func180) (Hm _ p0 r1 e2) ?_
 rintro v w a ⟨rfl,hK⟩ hE
 have hM:=hM.keep hK
 obtain ⟨r3,e4,hF⟩:=bind_some hF
 refine Zv hE rfl (cbm Tryz.func179) (BV _ r1 r3 e4) ?_
 rintro u5 w a ⟨_,rfl,hFr,hK⟩ hE
 have hM:=hM.add hK hFr
 refine Zc hE rfl fun a hE=>Ze ?_
 obtain rfl:=Option.some.inj hF
 exact wp_ret (ZJ hE rfl (ZQ hE rfl) ⟨_,rfl,u5,rfl,hM.outF (BZ YR),hM.kept⟩)
def Vn : Option ((Ref Gengine)) :=
 (Qu 4).bind fun r1=>some r1
theorem Hi (w0 : World)  (r : (Ref Gengine)) (hF : Vn  = some r) :
  Calls Tryz.prog 89 [].toArray w0 (fun en w'=>∃ v,en = .returned v ∧ (∃ (y1 : Value),v = y1 ∧ Fr w0 w' [own NoB (r : (Ref Gengine)) [y1]] ∧ Kept (Old w0) w0 w')):=by
 refine ce Tryz.func89 ?_
 intro a hE
 have hM:=M.start w0
 unfold Vn at hF
 refine Zb (Zc hE rfl fun a hE=>Ze (Zb ?_))
 obtain ⟨r1,e2,hF⟩:=bind_some hF
 refine Zv hE rfl (cbm Tryz.func127) (yY _ 4 r1 e2) ?_
 rintro u3 w a ⟨_,rfl,hFr,hK⟩ hE
 have hM:=hM.add hK hFr
 refine Zc hE rfl fun a hE=>Ze ?_
 obtain rfl:=Option.some.inj hF
 exact wp_ret (ZJ hE rfl (ZQ hE rfl) ⟨_,rfl,u3,rfl,hM.outF (BZ YR),hM.kept⟩)
def Yp (p0 : (List (Vector UInt8 16))) : Option ((List (Vector UInt8 16))) :=
 (app 16 ([] : List (Vector UInt8 16)) p0).bind fun l7=>some (([] : List (Vector UInt8 16)) ++ p0)
theorem T0 (w0 : World) (p0 : (List (Vector UInt8 16))) (v0_1 : Value) (hv0_1 : Ro w0 p0 [v0_1]) (r : (List (Vector UInt8 16))) (hF : Yp p0 = some r) :
  Calls Tryz.prog 148 [v0_1].toArray w0 (fun en w'=>∃ v,en = .returned v ∧ (∃ (y1 : Value),v = y1 ∧ Fr w0 w' [osl NoB (r : List (Vector UInt8 16)) y1] ∧ Kept (Old w0) w0 w')):=by
 refine ce Tryz.func148 ?_
 intro a hE
 have hM:=M.start w0
 unfold Yp at hF
 refine Zb (Zc hE rfl fun a hE=>Ze (wp_seq (Zb (Zd hE rfl fun a hE=>jk hE Za ld rfl rfl Tryz.underlying54 (hM.rd hv0_1) fun bn1 a hn2 hE=>Ze ?_))))
 refine Zq hE rfl ?_ ?_
 ·intro hb3
  have h0:=hn2 hb3
  have hF : some ([]) = some r:=by rw [h0] at hF; simpa [app] using hF
  refine Zb (Zc hE rfl fun a hE=>Ze ?_)
  have hM:=M.nilS (α:=(Vector UInt8 16)) NoB noB hM
  obtain rfl:=Option.some.inj hF
  exact wp_ret (Zs (ZJ hE rfl (ZQ hE rfl) ⟨_,rfl,(Value.slice none 0 0),rfl,hM.outF (Z8 YR),hM.kept⟩))
 ·intro hb3
  refine wp_skip (Zt (Zb (ZU (xs:=[]) (l:=([] : List (Vector UInt8 16))) (vs:=[]) hE hM Za ld rfl rfl Tryz.underlying54 ZD rfl (by decide) rfl fun u5 w a hM hE=>Zd hE rfl ?_))); intro a hE
  obtain ⟨l7,e8,hF⟩:=bind_some hF
  obtain ⟨e11,rfl⟩:=ZY e8
  refine ZV hE hM Za ld rfl rfl (hM.rd hv0_1) Tryz.underlying54 ZD rfl (by decide) e11 fun u9 w a hM hE=>Zc hE rfl fun a hE=>Ze ?_
  obtain rfl:=Option.some.inj hF
  exact wp_ret (ZJ hE rfl (ZQ hE rfl) ⟨_,rfl,u9,rfl,hM.outF (Z8 YR),hM.kept⟩)
def Yo (p0 : (List GEvent)) : Option ((List GEvent)) :=
 (app 48 ([] : List GEvent) p0).bind fun l7=>some (([] : List GEvent) ++ p0)
theorem TZ (w0 : World) (p0 : (List GEvent)) (v0_1 : Value) (hv0_1 : Ro w0 p0 [v0_1]) (r : (List GEvent)) (hF : Yo p0 = some r) :
  Calls Tryz.prog 149 [v0_1].toArray w0 (fun en w'=>∃ v,en = .returned v ∧ (∃ (y1 : Value),v = y1 ∧ Fr w0 w' [osl NoB (r : List GEvent) y1] ∧ Kept (Old w0) w0 w')):=by
 refine ce Tryz.func149 ?_
 intro a hE
 have hM:=M.start w0
 unfold Yo at hF
 refine Zb (Zc hE rfl fun a hE=>Ze (wp_seq (Zb (Zd hE rfl fun a hE=>jk hE Za ld rfl rfl Tryz.underlying56 (hM.rd hv0_1) fun bn1 a hn2 hE=>Ze ?_))))
 refine Zq hE rfl ?_ ?_
 ·intro hb3
  have h0:=hn2 hb3
  have hF : some ([]) = some r:=by rw [h0] at hF; simpa [app] using hF
  refine Zb (Zc hE rfl fun a hE=>Ze ?_)
  have hM:=M.nilS (α:=GEvent) NoB noB hM
  obtain rfl:=Option.some.inj hF
  exact wp_ret (Zs (ZJ hE rfl (ZQ hE rfl) ⟨_,rfl,(Value.slice none 0 0),rfl,hM.outF (Z8 YR),hM.kept⟩))
 ·intro hb3
  refine wp_skip (Zt (Zb (ZU (xs:=[]) (l:=([] : List GEvent)) (vs:=[]) hE hM Za ld rfl rfl Tryz.underlying56 Xs rfl (by decide) rfl fun u5 w a hM hE=>Zd hE rfl ?_))); intro a hE
  obtain ⟨l7,e8,hF⟩:=bind_some hF
  obtain ⟨e11,rfl⟩:=ZY e8
  refine ZV hE hM Za ld rfl rfl (hM.rd hv0_1) Tryz.underlying56 Xs rfl (by decide) e11 fun u9 w a hM hE=>Zc hE rfl fun a hE=>Ze ?_
  obtain rfl:=Option.some.inj hF
  exact wp_ret (ZJ hE rfl (ZQ hE rfl) ⟨_,rfl,u9,rfl,hM.outF (Z8 YR),hM.kept⟩)
def ZS (p0 : (List UInt8)) : Option ((List UInt8)) :=
 (app 1 ([] : List UInt8) p0).bind fun l7=>some (([] : List UInt8) ++ p0)
theorem YX (w0 : World) (p0 : (List UInt8)) (v0_1 : Value) (hv0_1 : Ro w0 p0 [v0_1]) (r : (List UInt8)) (hF : ZS p0 = some r) :
  Calls Tryz.prog 75 [v0_1].toArray w0 (fun en w'=>∃ v,en = .returned v ∧ (∃ (y1 : Value),v = y1 ∧ Fr w0 w' [osl NoB (r : List UInt8) y1] ∧ Kept (Old w0) w0 w')):=by
 refine ce Tryz.func75 ?_
 intro a hE
 have hM:=M.start w0
 unfold ZS at hF
 refine Zb (Zc hE rfl fun a hE=>Ze (wp_seq (Zb (Zd hE rfl fun a hE=>jk hE Za ld rfl rfl Tryz.underlying40 (hM.rd hv0_1) fun bn1 a hn2 hE=>Ze ?_))))
 refine Zq hE rfl ?_ ?_
 ·intro hb3
  have h0:=hn2 hb3
  have hF : some ([]) = some r:=by rw [h0] at hF; simpa [app] using hF
  refine Zb (Zc hE rfl fun a hE=>Ze ?_)
  have hM:=M.nilS (α:=UInt8) NoB noB hM
  obtain rfl:=Option.some.inj hF
  exact wp_ret (Zs (ZJ hE rfl (ZQ hE rfl) ⟨_,rfl,(Value.slice none 0 0),rfl,hM.outF (Z8 YR),hM.kept⟩))
 ·intro hb3
  refine wp_skip (Zt (Zb (ZU (xs:=[]) (l:=([] : List UInt8)) (vs:=[]) hE hM Za ld rfl rfl Tryz.underlying40 ty5 rfl (by decide) rfl fun u5 w a hM hE=>Zd hE rfl ?_))); intro a hE
  obtain ⟨l7,e8,hF⟩:=bind_some hF
  obtain ⟨e11,rfl⟩:=ZY e8
  refine ZV hE hM Za ld rfl rfl (hM.rd hv0_1) Tryz.underlying40 ty5 rfl (by decide) e11 fun u9 w a hM hE=>Zc hE rfl fun a hE=>Ze ?_
  obtain rfl:=Option.some.inj hF
  exact wp_ret (ZJ hE rfl (ZQ hE rfl) ⟨_,rfl,u9,rfl,hM.outF (Z8 YR),hM.kept⟩)
def WQ (p0 : GVault) (s21 : (List GRecord) × Int) : Option (Fl ((List GRecord) × Int) (List GRecord)) :=
 if (decide (s21.2 < (p0.Records.length : Int))) = true then ((idx p0.Records s21.2).bind fun x29=>((ZS x29.Label).bind fun r49=>(ZS x29.Body).bind fun r52=>some (r49,r52) : Option ((List UInt8) × (List UInt8))).bind fun j41=>(app 112 s21.1 ([(⟨x29.Number,x29.Version,x29.Nonce,j41.1,j41.2,x29.Tag⟩ : GRecord)] : List GRecord)).bind fun l58=>some (Fl.nx ((s21.1 ++ ([(⟨x29.Number,x29.Version,x29.Nonce,j41.1,j41.2,x29.Tag⟩ : GRecord)] : List GRecord)),wr (s21.2 + 1)))) else (some (Fl.ex s21.1))
def Vw (p0 : GVault) : Option (GVault) :=
 (Yp p0.Keys).bind fun r6=>(Yo p0.Events).bind fun r9=>(ZB (WQ p0) ([],0)).bind fun j16=>some (⟨r6,p0.Next,j16,r9,p0.Head⟩ : GVault)
theorem Hz (w0 : World) (p0 : GVault) (v0_1 : Value) (hv0_1 : Ro w0 p0.Keys [v0_1]) (v0_2 : Value) (hv0_2 : Ro w0 p0.Records [v0_2]) (v0_3 : Value) (hv0_3 : Ro w0 p0.Events [v0_3]) (r : GVault) (hF : Vw p0 = some r) :
  Calls Tryz.prog 87 [(Value.agg (cat [[v0_1],[vI p0.Next],[v0_2],[v0_3],enc p0.Head]).toArray)].toArray w0 (fun en w'=>∃ v,en = .returned v ∧ (∃ (y1 : Value) (y2 : Value) (y3 : Value),v = (Value.agg (cat [[y1],[vI r.Next],[y2],[y3],enc r.Head]).toArray) ∧ Fr w0 w' [osl NoB (r.Keys : List (Vector UInt8 16)) y1,osl NoB (r.Records : List GRecord) y2,osl NoB (r.Events : List GEvent) y3] ∧ Kept (Old w0) w0 w')):=by
 refine ce Tryz.func87 ?_
 intro a hE
 have hM:=M.start w0
 unfold Vw at hF
 refine Zb (ZO (cs:=cat [[v0_1],[vI p0.Next],[v0_2],[v0_3],enc p0.Head]) hE hM Za ld rfl rfl fun b1 w a hM hE=>Zz hE hM Ys fun b3 w a hM hE=>Ze (wp_seq ?_))
 obtain ⟨r6,e7,hF⟩:=bind_some hF
 obtain ⟨r9,e10,hF⟩:=bind_some hF
 refine YA (its:=[raw b3 (cat [[(Value.slice none 0 0)],[vI 0],[(Value.slice none 0 0)],[(Value.slice none 0 0)],enc (Vector.replicate 32 (0 : UInt8))]),raw b1 (cat [[v0_1],[vI p0.Next],[v0_2],[v0_3],enc p0.Head])]) (mk:=([mkO 2 (fun v=>osl NoB (r6 : List (Vector UInt8 16)) v),mkO 7 (fun v=>osl NoB (r9 : List GEvent) v),mkO 11 (fun v=>Wx v (cat [[(Value.slice none 0 0)],[vI 0],[(Value.slice none 0 0)],[(Value.slice none 0 0)],enc (Vector.replicate 32 (0 : UInt8))]))] : Mk)) [6,7,8,9,10,11,12,13,14,15,16,3] YL rfl rfl (by decide) rfl hE (fun u=>M.qE (M.qE (M.qE (M.q0 hM.drew u) emO) emO) emO) (qsP (fun z=>Zk z.E Za ld rfl (WX) (kr0 rfl)) (qsP (v:=v0_1) ?_ (qsM (pr:=fun v=>True) ?_ (qsP (fun z=>Zk z.E Za ld rfl (UM) (kr0 rfl)) (qsP (v:=(vI p0.Next)) ?_ (qsP (fun z=>Zk z.E Za ld rfl (Ur) (kr0 rfl)) (qsP (v:=v0_3) ?_ (qsM (pr:=fun v=>True) ?_ (qsP (fun z=>Zk z.E Za ld rfl (Hr) (kr0 rfl)) (qsP (v:=(Value.agg (enc p0.Head).toArray)) ?_ (qsD (ds:=[2,7]) (f:=fun us=>(Value.agg (cat [[(us.getD 0 undef)],[vI p0.Next],[(Value.slice none 0 0)],[(us.getD 1 undef)],enc p0.Head]).toArray)) ?_ (qsM (pr:=fun v=>True) ?_ qs0)))))))))))) ?_
 ·intro a w ux5 D z
  have hE:=z.E
  have hM:=z.M
  exact Zy (v:=v0_1) hE rfl QR rfl (At.cat (pre:=[]) hM.rawAt1 cl0) fun a hE=>⟨Kept.refl _ _,_,rfl,hE⟩
 ·intro a w ux5 D z
  have hE:=z.E
  have hD : D 2 = false:=z.F
  have hM0:=z.M
  have hM:=z.M
  refine Zv hE rfl (cbm Tryz.func148) (T0 _ p0.Keys v0_1 (hM.rdo hv0_1) r6 e7) ?_
  rintro _ w a ⟨_,rfl,hFr,hK⟩ hE
  have hM:=hM0.add hK hFr
  exact ⟨_,_,rfl,hE,M.qFill (mk1:=[]) (mk2:=[_,_]) (f:=(fun v=>osl NoB (r6 : List (Vector UInt8 16)) v)) hM rfl hD,trivial⟩
 ·intro a w ux5 D z
  have hE:=z.E
  have hM:=z.M
  exact Zy (v:=(vI p0.Next)) hE rfl ty2 rfl (At.cat (pre:=[[v0_1]]) hM.rawAt1 ck) fun a hE=>⟨Kept.refl _ _,_,rfl,hE⟩
 ·intro a w ux5 D z
  have hE:=z.E
  have hM:=z.M
  exact Zy (v:=v0_3) hE rfl KD rfl (At.cat (pre:=[[v0_1],[vI p0.Next],[v0_2]]) hM.rawAt1 ck) fun a hE=>⟨Kept.refl _ _,_,rfl,hE⟩
 ·intro a w ux5 D z
  have hE:=z.E
  have hD : D 7 = false:=z.F
  have hM0:=z.M
  have hM:=z.M
  refine Zv hE rfl (cbm Tryz.func149) (TZ _ p0.Events v0_3 (hM.rdo hv0_3) r9 e10) ?_
  rintro _ w a ⟨_,rfl,hFr,hK⟩ hE
  have hM:=hM0.add hK hFr
  exact ⟨_,_,rfl,hE,M.qFill (mk1:=[_]) (mk2:=[_]) (f:=(fun v=>osl NoB (r9 : List GEvent) v)) hM rfl hD,trivial⟩
 ·intro a w ux5 D z
  have hE:=z.E
  have hM:=z.M
  exact Zn hE rfl Yh rfl (At.cat (pre:=[[v0_1],[vI p0.Next],[v0_2],[v0_3]]) hM.rawAt1 ck) (Flat.len _) fun a hE=>⟨Kept.refl _ _,_,rfl,hE⟩
 ·intro a w ux5 D z
  have hE:=z.E
  have d2 : D 2 = true:=z.p 0 _ rfl rfl
  have d7 : D 7 = true:=z.p 2 _ rfl rfl
  have hM:=(z.M.sure (pre:=[_,_]) d2).sure (pre:=[_,_,_]) d7
  exact Y8 (parts:=[(0,.tmp 8),(1,.tmp 10),(3,.tmp 13),(4,.tmp 15)]) (vs:=[(0,(ux5 2)),(1,vI p0.Next),(3,(ux5 7)),(4,(Value.agg (enc p0.Head).toArray))]) (cs:=cat [[(ux5 2)],[vI p0.Next],[(Value.slice none 0 0)],[(ux5 7)],enc p0.Head]) hE Za ld rfl rfl Ys yb (Z5 (pre:=[]) (seg:=[(Value.slice none 0 0)]) (seg':=[(ux5 2)]) (post:=[[vI 0],[(Value.slice none 0 0)],[(Value.slice none 0 0)],enc (Vector.replicate 32 (0 : UInt8))]) rfl cl0 rfl rfl (ZX (hM.sl (pre:=[_,_]) noB)) (Z5 (pre:=[[(ux5 2)]]) (seg:=[vI 0]) (seg':=[vI p0.Next]) (post:=[[(Value.slice none 0 0)],[(Value.slice none 0 0)],enc (Vector.replicate 32 (0 : UInt8))]) rfl ck rfl rfl rfl (Z5 (pre:=[[(ux5 2)],[vI p0.Next],[(Value.slice none 0 0)]]) (seg:=[(Value.slice none 0 0)]) (seg':=[(ux5 7)]) (post:=[enc (Vector.replicate 32 (0 : UInt8))]) rfl ck rfl rfl (ZX (hM.sl (pre:=[_,_,_]) noB)) (Z5 (pre:=[[(ux5 2)],[vI p0.Next],[(Value.slice none 0 0)],[(ux5 7)]]) (seg:=enc (Vector.replicate 32 (0 : UInt8))) (seg':=enc p0.Head) (post:=[]) rfl ck (Flat.len _) (Flat.len _) rfl Wu)))) fun a hE=>⟨Kept.refl _ _,(BS d2 (BS d7 zk)),_,rfl,hE⟩
 ·intro a w ux5 D z
  have hE:=z.E
  have hD : D 11 = false:=z.F
  have hM:=z.M
  refine Zz hE hM Ys ?_; intro b12 w a hM hE
  have hM:=hM.pack1 (it:=Wx _ (cat [[(Value.slice none 0 0)],[vI 0],[(Value.slice none 0 0)],[(Value.slice none 0 0)],enc (Vector.replicate 32 (0 : UInt8))])) (fun w w' fp ⟨b',e,k⟩ hb=>⟨b',e,YF w w' fp k hb⟩) (fun fp k=>⟨_,rfl,k⟩)
  exact ⟨_,_,rfl,hE,M.qFill (mk1:=[_,_]) (mk2:=[]) (f:=fun v=>Wx v (cat [[(Value.slice none 0 0)],[vI 0],[(Value.slice none 0 0)],[(Value.slice none 0 0)],enc (Vector.replicate 32 (0 : UInt8))])) hM rfl hD,trivial⟩
 ·intro a w ux5 D hE hM hG hall
  have d2:=hall 2 (by decide)
  have d7:=hall 7 (by decide)
  have d11:=hall 11 (by decide)
  have hM:=(((hM.sure (pre:=[_,_]) d2).sure (pre:=[_,_,_]) d7).sure (pre:=[_,_,_,_]) d11).pull
  obtain ⟨_,⟨b14,f15,_⟩,_⟩:=hM.head
  have hM:=hM.pack1 YF (it:=raw b14 (cat [[(Value.slice none 0 0)],[vI 0],[(Value.slice none 0 0)],[(Value.slice none 0 0)],enc (Vector.replicate 32 (0 : UInt8))])) (fun fp ⟨b2,e2,k2⟩=>by rw [f15] at e2; simp [ptr] at e2; subst e2; exact k2)
  have hE:=hE.setq (t:=3) rfl f15
  refine Zl (seg:=cat [[(ux5 2)],[vI p0.Next],[(Value.slice none 0 0)],[(ux5 7)],enc p0.Head]) (cs':=cat [[(ux5 2)],[vI p0.Next],[(Value.slice none 0 0)],[(ux5 7)],enc p0.Head]) hE hM Za rfl rfl rfl Ys cq (Nat.le_of_eq ((Nat.zero_add _).trans (Eq.trans cq (Eq.symm cq)))) (ZZ (cc1 (Rep.cell (hM.sl (pre:=[_,_,_]) noB)) (cc1 (Flat.cell (p0.Next : Int)) (cc1 Xd (cc1 (Rep.cell (hM.sl (pre:=[_,_,_,_]) noB)) (cc1 (Flat.cell _) cc0)))))) (Zi (Eq.trans cq (Eq.symm cq))) fun w a hM hE=>Zg (Zt (wp_seq (Zb (Zf hE rfl (XO) fun a hE=>Zy (v:=v0_2) hE rfl Qr rfl (At.cat (pre:=[[v0_1],[vI p0.Next]]) hM.rawAt2 ck) fun a hE=>Z9 hE rfl Tryz.underlying55 (hM.rd hv0_2) fun a hE=>Zd hE rfl fun a hE=>Ze ?_))))
  obtain ⟨j16,hl17,hF18⟩:=bind_some hF
  refine ZK (fun a w=>∃ (u19 : Value),Env 40 a [(2,(ptr b3 0)),(3,(ptr b14 0))] ∧ M (Old w0) w0 w [raw b14 (cat [[(ux5 2)],[vI p0.Next],[u19],[(ux5 7)],enc p0.Head]),raw b3 (cat [[(Value.slice none 0 0)],[vI 0],[(Value.slice none 0 0)],[(Value.slice none 0 0)],enc (Vector.replicate 32 (0 : UInt8))]),osl NoB (r6 : List (Vector UInt8 16)) (ux5 2),osl NoB (r9 : List GEvent) (ux5 7),osl NoB (j16 : List GRecord) u19]) ?_ ?_
  ·skip
   refine wp_block ?_
   have hM:=M.fst (l:=[_,_,_,_,_]) (((((M.nilS (α:=GRecord) NoB noB hM).pull5).pull5).pull4).pull4)
   refine ZE (fun (s21 : (List GRecord) × Int) a w=>∃ (u22 : Value),Env 40 a [(2,(ptr b3 0)),(3,(ptr b14 0)),(18,v0_2),(19,(vI (p0.Records.length : Int))),(20,vI s21.2)] ∧ M (Old w0) w0 w [raw b14 (cat [[(ux5 2)],[vI p0.Next],[u22],[(ux5 7)],enc p0.Head]),raw b3 (cat [[(Value.slice none 0 0)],[vI 0],[(Value.slice none 0 0)],[(Value.slice none 0 0)],enc (Vector.replicate 32 (0 : UInt8))]),osl NoB (r6 : List (Vector UInt8 16)) (ux5 2),osl NoB (r9 : List GEvent) (ux5 7),osl NoB (s21.1 : List GRecord) u22]) hl17 ⟨(Value.slice none 0 0),hE.sub ⟨rfl,rfl,rfl,rfl,rfl,trivial⟩,hM⟩ ?_
   rintro s21 a w ⟨u22,hE,hM⟩ o26 hs24 hx25
   unfold WQ at hs24
   refine Zb (Zh hE rfl rfl rfl fun a hE=>Ze (wp_seq ?_))
   refine Zq hE rfl ?_ ?_
   ·intro hb28
    have hs24:=Zx hs24 hb28
    refine wp_skip (Zt (wp_seq (wp_block (Zb ?_))))
    obtain ⟨x29,hi31,hs24⟩:=bix hs24
    refine ZL hE rfl rfl Tryz.underlying55 Z6 (hM.rd hv0_2) hi31.1 ?_; intro a hE
    obtain ⟨cs32,hs33,hA34⟩:=WL hv0_2 hi31.2 -- ^
    obtain ⟨u35,u37,rfl,h36,h38⟩:=YO hs33 -- ^
    refine Zn hE rfl Z6 rfl (hM.atk hA34 (V2 hv0_2 hi31.2)) cq fun a hE=>Zz hE hM Z6 fun b39 w a hM hE=>Zl (seg:=cat [[vI x29.Number],[vI x29.Version],enc x29.Nonce,[u35],[u37],enc x29.Tag]) (cs':=cat [[vI x29.Number],[vI x29.Version],enc x29.Nonce,[u35],[u37],enc x29.Tag]) hE hM Za rfl rfl rfl Z6 cq (Nat.le_of_eq ((Nat.zero_add _).trans (Eq.trans cq (Eq.symm cq)))) (ZZ (cc1 (Flat.cell (x29.Number : Int)) (cc1 (Flat.cell (x29.Version : Int)) (cc1 (Flat.cell _) (cc1 (Rep.cell (hM.rd h36)) (cc1 (Rep.cell (hM.rd h38)) (cc1 (Flat.cell _) cc0))))))) (Zi (Eq.trans cq (Eq.symm cq))) fun w a hM hE=>Ze ?_
    obtain ⟨j41,hl42,hF43⟩:=bind_some hs24
    refine ZM (fun a w=>∃ (u44 : Value) (u46 : Value),Env 40 a [(2,(ptr b3 0)),(3,(ptr b14 0)),(5,(ptr b39 0)),(18,v0_2),(19,(vI (p0.Records.length : Int))),(20,vI s21.2)] ∧ M (Old w0) w0 w [raw b39 (cat [[vI x29.Number],[vI x29.Version],enc x29.Nonce,[u44],[u46],enc x29.Tag]),raw b14 (cat [[(ux5 2)],[vI p0.Next],[u22],[(ux5 7)],enc p0.Head]),raw b3 (cat [[(Value.slice none 0 0)],[vI 0],[(Value.slice none 0 0)],[(Value.slice none 0 0)],enc (Vector.replicate 32 (0 : UInt8))]),osl NoB (r6 : List (Vector UInt8 16)) (ux5 2),osl NoB (r9 : List GEvent) (ux5 7),osl NoB (s21.1 : List GRecord) u22,osl NoB (j41.1 : List UInt8) u44,osl NoB (j41.2 : List UInt8) u46]) ?_ ?_
    ·skip
     obtain ⟨r49,e50,hl42⟩:=bind_some hl42
     obtain ⟨r52,e53,hl42⟩:=bind_some hl42
     refine YA (its:=[raw b39 (cat [[vI x29.Number],[vI x29.Version],enc x29.Nonce,[u35],[u37],enc x29.Tag]),raw b14 (cat [[(ux5 2)],[vI p0.Next],[u22],[(ux5 7)],enc p0.Head]),raw b3 (cat [[(Value.slice none 0 0)],[vI 0],[(Value.slice none 0 0)],[(Value.slice none 0 0)],enc (Vector.replicate 32 (0 : UInt8))]),osl NoB (r6 : List (Vector UInt8 16)) (ux5 2),osl NoB (r9 : List GEvent) (ux5 7),osl NoB (s21.1 : List GRecord) u22]) (mk:=([mkO 2 (fun v=>osl NoB (r49 : List UInt8) v),mkO 5 (fun v=>osl NoB (r52 : List UInt8) v)] : Mk)) [24,25,26,27,28,29,30] YL rfl rfl (by decide) rfl hE (fun u=>M.qE (M.qE (M.q0 hM.drew u) emO) emO) (qsP (fun z=>Zk z.E Za ld rfl (Uc) (kr0 rfl)) (qsP (v:=u35) ?_ (qsM (pr:=fun v=>True) ?_ (qsP (fun z=>Zk z.E Za ld rfl (UH) (kr0 rfl)) (qsP (v:=u37) ?_ (qsM (pr:=fun v=>True) ?_ (qsP (fun z=>Zk z.E Za ld rfl (Uc) (kr0 rfl)) qs0))))))) ?_
     ·intro a w ux48 D z
      have hE:=z.E
      have hM:=z.M
      exact Zy (v:=u35) hE rfl WU rfl (At.cat (pre:=[[vI x29.Number],[vI x29.Version],enc x29.Nonce]) hM.rawAt0 ck) fun a hE=>⟨Kept.refl _ _,_,rfl,hE⟩
     ·intro a w ux48 D z
      have hE:=z.E
      have hD : D 2 = false:=z.F
      have hM0:=z.M
      have hM:=z.M
      refine Zv hE rfl cb75 (YX _ x29.Label u35 (hM.rdo h36) r49 e50) ?_
      rintro _ w a ⟨_,rfl,hFr,hK⟩ hE
      have hM:=hM0.add hK hFr
      exact ⟨_,_,rfl,hE,M.qFill (mk1:=[]) (mk2:=[_]) (f:=(fun v=>osl NoB (r49 : List UInt8) v)) hM rfl hD,trivial⟩
     ·intro a w ux48 D z
      have hE:=z.E
      have hM:=z.M
      exact Zy (v:=u37) hE rfl WU rfl (At.cat (pre:=[[vI x29.Number],[vI x29.Version],enc x29.Nonce,[u35]]) hM.rawAt0 ck) fun a hE=>⟨Kept.refl _ _,_,rfl,hE⟩
     ·intro a w ux48 D z
      have hE:=z.E
      have hD : D 5 = false:=z.F
      have hM0:=z.M
      have hM:=z.M
      refine Zv hE rfl cb75 (YX _ x29.Body u37 (hM.rdo h38) r52 e53) ?_
      rintro _ w a ⟨_,rfl,hFr,hK⟩ hE
      have hM:=hM0.add hK hFr
      exact ⟨_,_,rfl,hE,M.qFill (mk1:=[_]) (mk2:=[]) (f:=(fun v=>osl NoB (r52 : List UInt8) v)) hM rfl hD,trivial⟩
     ·intro a w ux48 D hE hM hG hall
      have d2:=hall 2 (by decide)
      have d5:=hall 5 (by decide)
      have hM:=(hM.sure (pre:=[_,_,_,_,_,_]) d2).sure (pre:=[_,_,_,_,_,_,_]) d5
      refine Zl (seg:=[(ux48 2)]) hE hM Za rfl rfl (ZX (hM.sl (pre:=[_,_,_,_,_,_]) noB)) WU rfl (YH (pre:=[[vI x29.Number],[vI x29.Version],enc x29.Nonce]) ck rfl) (Rep.cell (hM.sl (pre:=[_,_,_,_,_,_]) noB)) (ZP (pre:=[[vI x29.Number],[vI x29.Version],enc x29.Nonce]) ck rfl) fun w a hM hE=>Zf hE rfl (UH) fun a hE=>Zl (seg:=[(ux48 5)]) hE hM Za rfl rfl (ZX (hM.sl (pre:=[_,_,_,_,_,_,_]) noB)) WU rfl (YH (pre:=[[vI x29.Number],[vI x29.Version],enc x29.Nonce,[(ux48 2)]]) ck rfl) (Rep.cell (hM.sl (pre:=[_,_,_,_,_,_,_]) noB)) (ZP (pre:=[[vI x29.Number],[vI x29.Version],enc x29.Nonce,[(ux48 2)]]) ck rfl) fun w a hM hE=>Zg ?_
      obtain rfl:=Option.some.inj hl42
      refine Zj ?_
      exact ⟨(ux48 2),(ux48 5),hE.sub ⟨rfl,rfl,rfl,rfl,rfl,rfl,trivial⟩,hM⟩
    ·skip
     rintro a w ⟨u44,u46,hE,hM⟩
     refine wp_region_lit (Zf hE rfl (XO) fun a hE=>Zy (v:=u22) hE rfl Qr rfl (At.cat (pre:=[[(ux5 2)],[vI p0.Next]]) hM.rawAt1 ck) fun a hE=>Zn hE rfl Z6 rfl hM.rawAt0 cq ?_); intro a hE
     have hM:=hM.pull7.pull7
     have hM:=hM.pack2 (it:=own NoB (⟨x29.Number,x29.Version,x29.Nonce,j41.1,j41.2,x29.Tag⟩ : GRecord) (cat [[vI x29.Number],[vI x29.Version],enc x29.Nonce,[u44],[u46],enc x29.Tag])) (Xt noB) (fun f0 f1 q0 q1=>(X9 (X2.sat q0) (X2.sat q1) (by simp)))
     refine Be (xs:=[.tmp 34]) (seg:=cat [[vI x29.Number],[vI x29.Version],enc x29.Nonce,[u44],[u46],enc x29.Tag]) hE hM noB Za ld rfl rfl Tryz.underlying55 Z6 rfl (by decide) ?_; intro u56 w a hM hE
     obtain ⟨l58,e59,hF43⟩:=bind_some hF43
     obtain ⟨e62,rfl⟩:=ZY e59
     have hM:=hM.pull6
     refine JS hE hM noB Za ld rfl rfl Tryz.underlying55 Z6 rfl (by decide) e62 fun u60 w a hM hE=>Zf hE rfl (XO) ?_; intro a hE
     have hM:=hM.pull2
     refine Zl (seg:=[u60]) hE hM Za rfl rfl (ZX (hM.sl (pre:=[_]) noB)) Qr rfl (YH (pre:=[[(ux5 2)],[vI p0.Next]]) ck rfl) (Rep.cell (hM.sl (pre:=[_]) noB)) (ZP (pre:=[[(ux5 2)],[vI p0.Next]]) ck rfl) fun w a hM hE=>Zg (Yc (Zt (wp_region_lit (Zh hE rfl rfl rfl fun a hE=>Zd hE rfl fun a hE=>Zg (Zj ?_)))))
     have hM:=M.fst (l:=[_,_,_,_,_]) hM.pull1.pull5.pull5.pull5.pull4
     exact ⟨_,(ois hF43),u60,hE.sub ⟨rfl,rfl,rfl,rfl,rfl,trivial⟩,hM⟩
   ·intro hb28
    have hs24:=Zw hs24 hb28
    refine wp_exit (Zp (Zp (Ye ?_)))
    obtain rfl:=hx25 _ (ois hs24)
    refine Zj ?_
    exact ⟨u22,hE.sub ⟨rfl,rfl,trivial⟩,hM⟩
  ·skip
   rintro a w ⟨u19,hE,hM⟩
   refine Zt (Zb (Zn hE rfl Ys rfl hM.rawAt0 cq ?_)); intro a hE
   have hM:=hM.pull1
   refine Zl (seg:=cat [[(ux5 2)],[vI p0.Next],[u19],[(ux5 7)],enc p0.Head]) (cs':=cat [[(ux5 2)],[vI p0.Next],[u19],[(ux5 7)],enc p0.Head]) hE hM Za rfl rfl rfl Ys cq (Nat.le_of_eq ((Nat.zero_add _).trans (Eq.trans cq (Eq.symm cq)))) (ZZ (cc1 (Rep.cell (hM.sl (pre:=[_,_]) noB)) (cc1 (Flat.cell (p0.Next : Int)) (cc1 (Rep.cell (hM.sl (pre:=[_,_,_,_]) noB)) (cc1 (Rep.cell (hM.sl (pre:=[_,_,_]) noB)) (cc1 (Flat.cell _) cc0)))))) (Zi (Eq.trans cq (Eq.symm cq))) fun w a hM hE=>Ze ?_
   obtain rfl:=Option.some.inj hF18
   have hq64 : Yl Tryz.prog _ _ (.cell 2 58) _:=ZI hE rfl Ys rfl hM.rawAt0 cq rfl
   have hM:=M.fst (l:=[_,_,_]) hM.pull3.pull4.pull4
   exact wp_ret (ZJ hE rfl hq64 ⟨_,rfl,(ux5 2),u19,(ux5 7),rfl,hM.outF (Z8 (Z8 (Z8 YR))),hM.kept⟩)
def UN (p1 : UInt8) (s6 : (Vector UInt8 16) × Int) : Option (Fl ((Vector UInt8 16) × Int) (Vector UInt8 16)) :=
 if (decide (s6.2 < 16)) = true then ((ZH s6.1 s6.2).bind fun x12=>(ZH s6.1 s6.2).bind fun x15=>some (Fl.nx ((s6.1.setIfInBounds (s6.2).toNat (x12 ^^^ p1)),wr (s6.2 + 1)))) else (some (Fl.ex s6.1))
def XN (p0 : (Vector UInt8 16)) (p1 : UInt8) : Option ((List UInt8)) :=
 (ZB (UN p1) (p0,0)).bind fun j3=>(slc j3.toList (0 : Int) (16 : Int)).bind fun l18=>some l18
theorem QA (w0 : World) (p0 : (Vector UInt8 16)) (p1 : UInt8) (r : (List UInt8)) (hF : XN p0 p1 = some r) :
  Calls Tryz.prog 164 [(Value.agg (enc p0).toArray),vB p1].toArray w0 (fun en w'=>∃ v,en = .returned v ∧ (∃ (y1 : Value),v = y1 ∧ Fr w0 w' [osl NoB (r : List UInt8) y1] ∧ Kept (Old w0) w0 w')):=by
 refine ce Tryz.func164 ?_
 intro a hE
 have hM:=M.start w0
 unfold XN at hF
 refine Zb (ZO (cs:=enc p0) hE hM Za ld rfl rfl fun b1 w a hM hE=>Zc hE rfl fun a hE=>Ze (wp_seq (Zb (Zd hE rfl fun a hE=>Ze ?_))))
 obtain ⟨j3,hl4,hF5⟩:=bind_some hF
 refine ZK (fun a w=>Env 17 a [(2,(ptr b1 0))] ∧ M (Old w0) w0 w [raw b1 (enc j3)]) ?_ ?_
 ·skip
  refine wp_block ?_
  refine ZE (fun (s6 : (Vector UInt8 16) × Int) a w=>Env 17 a [(1,vB p1),(2,(ptr b1 0)),(6,vI s6.2)] ∧ M (Old w0) w0 w [raw b1 (enc s6.1)]) hl4 ⟨hE.sub ⟨rfl,rfl,rfl,trivial⟩,hM⟩ ?_
  rintro s6 a w ⟨hE,hM⟩ o9 hs7 hx8
  unfold UN at hs7
  refine Zb (Zh hE rfl rfl rfl fun a hE=>Ze (wp_seq ?_))
  refine Zq hE rfl ?_ ?_
  ·intro hb10
   have hs7:=Zx hs7 hb10
   refine wp_skip (Zt (wp_seq (wp_block (Zb (Zd hE rfl fun a hE=>Zc hE rfl fun a hE=>Ze (wp_region_lit (Zd hE rfl ?_))))))); intro a hE
   obtain ⟨x12,hi11,hs7⟩:=bvx hs7
   refine ZC hE rfl rfl Tryz.underlying68 ty5 hi11.1 fun a hE=>Zy (v:=(vB x12)) hE rfl ty5 rfl (At.vec hM.rawAt0 hi11.2) fun a hE=>Zd hE rfl fun a hE=>Zh hE rfl rfl (Vu x12 p1) ?_; intro a hE
   obtain ⟨x15,hi14,hs7⟩:=bvx hs7
   refine ZC hE rfl rfl Tryz.underlying68 ty5 hi14.1 fun a hE=>Zl (seg:=[(vB (x12 ^^^ p1))]) (cs':=enc (s6.1.setIfInBounds (s6.2).toNat (x12 ^^^ p1))) hE hM Za rfl rfl rfl ty5 rfl (ZR (v:=s6.1) (x:=x12 ^^^ p1) hi14.1) (Flat.cell (x12 ^^^ p1 : UInt8)) (ZF (v:=s6.1) (x:=x12 ^^^ p1) hi14.1) fun w a hM hE=>Zg (Yc (Zt (wp_region_lit (Zh hE rfl rfl rfl fun a hE=>Zd hE rfl fun a hE=>Zg (Zj ?_)))))
   exact ⟨_,(ois hs7),hE.sub ⟨rfl,rfl,rfl,trivial⟩,hM⟩
  ·intro hb10
   have hs7:=Zw hs7 hb10
   refine wp_exit (Zp (Zp (Ye ?_)))
   obtain rfl:=hx8 _ (ois hs7)
   refine Zj ?_
   exact ⟨hE.sub ⟨rfl,trivial⟩,hM⟩
 ·skip
  rintro a w ⟨hE,hM⟩
  refine Zt (Zb ?_)
  obtain ⟨l18,e19,hF5⟩:=bind_some hF5
  have hb20:=Qf e19 -- ^
  refine WM (N:=16) hE Za ld rfl rfl rfl rfl rfl Tryz.underlying68 ty5 hb20 fun a hE=>Zc hE rfl fun a hE=>Ze ?_
  have hM:=(M.rawOsl hM).cut noB e19
  obtain rfl:=Option.some.inj hF5
  exact wp_ret (ZJ hE rfl (ZQ hE rfl) ⟨_,rfl,(Yd (.slice (some ⟨b1,0,none⟩) 16 16) ((0 : Int)).toNat ((16 : Int)).toNat 1),rfl,hM.outF (Z8 YR),hM.kept⟩)
def YZ (p1 : Int) : Option ((List UInt8)) :=
 (if (decide (p1 < 0)) = true then (none) else (some ()) : Option (Unit)).bind fun j1=>(if (decide ((wr (p1 - (wr (0 - 0)))) > 0)) = true then ((mkS 1 (0 : UInt8) (wr (p1 - (wr (0 - 0))))).bind fun l14=>(slc l14 (0 : Int) (0 : Int)).bind fun l16=>some l16) else (some ([])) : Option ((List UInt8))).bind fun j6=>some j6
theorem Q4 (w0 : World) (p1 : Int) (r : (List UInt8)) (hF : YZ p1 = some r) :
  Calls Tryz.prog 181 [(Value.slice none 0 0),vI p1].toArray w0 (fun en w'=>∃ v,en = .returned v ∧ (∃ (y1 : Value),v = y1 ∧ Fr w0 w' [osl NoB (r : List UInt8) y1] ∧ Kept (Old w0) w0 w')):=by
 refine ce Tryz.func181 ?_
 intro a hE
 have hM:=M.start w0
 unfold YZ at hF
 refine Zb (Zc hE rfl fun a hE=>Ze ?_)
 obtain ⟨j1,hl2,hF3⟩:=bind_some hF
 refine ZM (fun a w=>Env 27 a [(0,(Value.slice none 0 0)),(1,vI p1)] ∧ M (Old w0) w0 w []) ?_ ?_
 ·skip
  refine Zb (Zd hE rfl fun a hE=>Zh hE rfl rfl rfl fun a hE=>Ze ?_)
  refine Zq hE rfl ?_ ?_
  ·intro hb4
   have hl2:=Zx hl2 hb4
   cases hl2
  ·intro hb4
   have hl2:=Zw hl2 hb4
   refine wp_skip ?_
   obtain rfl:=Option.some.inj hl2
   refine Zj ?_
   exact ⟨hE.sub ⟨rfl,rfl,trivial⟩,hM⟩
 ·skip
  rintro a w ⟨hE,hM⟩
  obtain ⟨j6,hl7,hF8⟩:=bind_some hF3
  refine ZM (fun a w=>∃ (u9 : Value),Env 27 a [(0,u9)] ∧ M (Old w0) w0 w [osl NoB (j6 : List UInt8) u9]) ?_ ?_
  ·skip
   refine Zb (Zd hE rfl fun a hE=>Zd hE rfl fun a hE=>jI hE Za ld rfl Tryz.underlying40 fun a hE=>Zd hE rfl fun a hE=>kb hE Za ld rfl Tryz.underlying40 fun a hE=>Zh hE rfl rfl rfl fun a hE=>Zh hE rfl rfl rfl fun a hE=>Zc hE rfl fun a hE=>Ze (Zb (Zd hE rfl fun a hE=>Zh hE rfl rfl rfl fun a hE=>Ze ?_)))
   refine Zq hE rfl ?_ ?_
   ·intro hb11
    have hl7:=Zx hl7 hb11
    refine wp_region_lit (Zd hE rfl fun a hE=>Zd hE rfl fun a hE=>jI hE Za ld rfl Tryz.underlying40 fun a hE=>qh hE Za ld rfl rfl Tryz.underlying40 ty5 fun a hE=>Zd hE rfl ?_); intro a hE
    obtain ⟨l14,e15,hl7⟩:=bind_some hl7
    refine Zan hE hM Za ld rfl rfl Tryz.underlying40 Tryz.underlying3 ty5 rfl (by decide) (by decide) (fun _=>T2.2 ⟨rfl,rfl⟩) e15 fun u12 w a hM hE=>Zd hE rfl fun a hE=>kb hE Za ld rfl Tryz.underlying40 ?_; intro a hE
    obtain ⟨l16,e17,hl7⟩:=bind_some hl7
    refine Bi hE Za ld rfl rfl rfl rfl rfl Tryz.underlying40 ty5 (hM.sl (pre:=[]) noB) e17 ?_; intro a hE
    have hM:=hM.cut noB e17
    refine Zc hE rfl fun a hE=>Zg ?_
    obtain rfl:=Option.some.inj hl7
    refine Zj ?_
    exact ⟨(Yd u12 ((0 : Int)).toNat ((0 : Int)).toNat 1),hE.sub ⟨rfl,trivial⟩,hM⟩
   ·intro hb11
    have hl7:=Zw hl7 hb11
    refine wp_skip ?_
    obtain rfl:=Option.some.inj hl7
    refine Zj ?_
    have hM:=M.nilS (α:=UInt8) NoB noB hM
    exact ⟨(Value.slice none 0 0),hE.sub ⟨rfl,trivial⟩,hM⟩
  ·skip
   rintro a w ⟨u9,hE,hM⟩
   refine Zb (Zd hE rfl fun a hE=>Zc hE rfl fun a hE=>Ze ?_)
   obtain rfl:=Option.some.inj hF8
   exact wp_ret (ZJ hE rfl (ZQ hE rfl) ⟨_,rfl,u9,rfl,hM.outF (Z8 YR),hM.kept⟩)
def XI (p0 : (List (List UInt8))) (s4 : Int × Int) : Option (Fl (Int × Int) Int) :=
 if (decide (s4.1 < (p0.length : Int))) = true then (((idx p0 s4.1).bind fun x12=>(if (decide ((wr (s4.2 + (x12.length : Int))) < 0)) = true then (none) else (some ()) : Option (Unit)).bind fun j20=>some (wr (s4.2 + (x12.length : Int))) : Option (Int)).bind fun j9=>some (Fl.nx (wr (s4.1 + 1),j9))) else (some (Fl.ex s4.2))
def XL (p0 : (List (List UInt8))) (s35 : Int × (List UInt8)) : Option (Fl (Int × (List UInt8)) (List UInt8)) :=
 if (decide (s35.1 < (p0.length : Int))) = true then ((idx p0 s35.1).bind fun x42=>(app 1 s35.2 x42).bind fun l50=>some (Fl.nx (wr (s35.1 + 1),(s35.2 ++ x42)))) else (some (Fl.ex s35.2))
def Ya (p0 : (List (List UInt8))) : Option ((List UInt8)) :=
 (ZB (XI p0) (0,0)).bind fun j1=>(YZ j1).bind fun r27=>(ZB (XL p0) (0,r27)).bind fun j30=>some j30
theorem VA (w0 : World) (p0 : (List (List UInt8))) (v0_1 : Value) (hv0_1 : Ro w0 p0 [v0_1]) (r : (List UInt8)) (hF : Ya p0 = some r) :
  Calls Tryz.prog 133 [v0_1].toArray w0 (fun en w'=>∃ v,en = .returned v ∧ (∃ (y1 : Value),v = y1 ∧ Fr w0 w' [osl NoB (r : List UInt8) y1] ∧ Kept (Old w0) w0 w')):=by
 refine ce Tryz.func133 ?_
 intro a hE
 have hM:=M.start w0
 unfold Ya at hF
 refine Zb (Zc hE rfl fun a hE=>Ze (Zb (Zc hE rfl fun a hE=>Ze (wp_seq (Zb (Zd hE rfl fun a hE=>Z9 hE rfl Tryz.underlying23 (hM.rd hv0_1) fun a hE=>Zd hE rfl fun a hE=>Ze ?_))))))
 obtain ⟨j1,hl2,hF3⟩:=bind_some hF
 refine ZK (fun a w=>Env 36 a [(0,v0_1),(3,vI j1)] ∧ M (Old w0) w0 w []) ?_ ?_
 ·skip
  refine wp_block ?_
  refine ZE (fun (s4 : Int × Int) a w=>Env 36 a [(0,v0_1),(3,vI s4.2),(9,v0_1),(10,(vI (p0.length : Int))),(11,vI s4.1)] ∧ M (Old w0) w0 w []) hl2 ⟨hE.sub ⟨rfl,rfl,rfl,rfl,rfl,trivial⟩,hM⟩ ?_
  rintro s4 a w ⟨hE,hM⟩ o7 hs5 hx6
  unfold XI at hs5
  refine Zb (Zh hE rfl rfl rfl fun a hE=>Ze (wp_seq ?_))
  refine Zq hE rfl ?_ ?_
  ·intro hb8
   have hs5:=Zx hs5 hb8
   refine wp_skip (Zt ?_)
   obtain ⟨j9,hl10,hF11⟩:=bind_some hs5
   refine ZM (fun a w=>Env 36 a [(0,v0_1),(3,vI j9),(9,v0_1),(10,(vI (p0.length : Int))),(11,vI s4.1)] ∧ M (Old w0) w0 w []) ?_ ?_
   ·skip
    refine wp_block (Zb ?_)
    obtain ⟨x12,hi14,hl10⟩:=bix hl10
    refine ZL hE rfl rfl Tryz.underlying23 WU (hM.rd hv0_1) hi14.1 ?_; intro a hE
    obtain ⟨cs15,hs16,hA17⟩:=WL hv0_1 hi14.2 -- ^
    obtain ⟨u18,rfl⟩:=QY hs16 -- ^
    have h19:=hs16 -- ^
    refine Zy (v:=u18) hE rfl WU rfl (hM.atk hA17 (V2 hv0_1 hi14.2)) fun a hE=>Zc hE rfl fun a hE=>Ze (Zb (Zd hE rfl fun a hE=>Zd hE rfl fun a hE=>Z9 hE rfl Tryz.underlying40 (hM.rd h19) fun a hE=>Zh hE rfl rfl rfl fun a hE=>Zc hE rfl fun a hE=>Ze (Zb (Zd hE rfl fun a hE=>Zh hE rfl rfl rfl fun a hE=>Ze ?_))))
    obtain ⟨j20,hl21,hF22⟩:=bind_some hl10
    refine ZK (fun a w=>Env 36 a [(0,v0_1),(3,(vI (wr (s4.2 + (x12.length : Int))))),(9,v0_1),(10,(vI (p0.length : Int))),(11,vI s4.1)] ∧ M (Old w0) w0 w []) ?_ ?_
    ·skip
     refine Zq hE rfl ?_ ?_
     ·intro hb23
      have hl21:=Zx hl21 hb23
      cases hl21
     ·intro hb23
      have hl21:=Zw hl21 hb23
      refine wp_skip ?_
      obtain rfl:=Option.some.inj hl21
      refine Zj ?_
      exact ⟨hE.sub ⟨rfl,rfl,rfl,rfl,rfl,trivial⟩,hM⟩
    ·skip
     rintro a w ⟨hE,hM⟩
     refine Yc ?_
     obtain rfl:=Option.some.inj hF22
     refine Zj ?_
     exact ⟨hE.sub ⟨rfl,rfl,rfl,rfl,rfl,trivial⟩,hM⟩
   ·skip
    rintro a w ⟨hE,hM⟩
    refine wp_region_lit (Zh hE rfl rfl rfl fun a hE=>Zd hE rfl fun a hE=>Zg (Zj ?_))
    exact ⟨_,(ois hF11),hE.sub ⟨rfl,rfl,rfl,rfl,rfl,trivial⟩,hM⟩
  ·intro hb8
   have hs5:=Zw hs5 hb8
   refine wp_exit (Zp (Zp (Ye ?_)))
   obtain rfl:=hx6 _ (ois hs5)
   refine Zj ?_
   exact ⟨hE.sub ⟨rfl,rfl,trivial⟩,hM⟩
 ·skip
  rintro a w ⟨hE,hM⟩
  refine Zt (Zb (Zd hE rfl ?_)); intro a hE
  obtain ⟨r27,e28,hF3⟩:=bind_some hF3
  refine Zv hE rfl (cbm Tryz.func181) (Q4 _ j1 r27 e28) ?_
  rintro u29 w a ⟨_,rfl,hFr,hK⟩ hE
  have hM:=hM.add hK hFr
  refine Zc hE rfl fun a hE=>Ze (wp_seq (Zb (Zd hE rfl fun a hE=>Z9 hE rfl Tryz.underlying23 (hM.rd hv0_1) fun a hE=>Zd hE rfl fun a hE=>Ze ?_)))
  obtain ⟨j30,hl31,hF32⟩:=bind_some hF3
  refine ZK (fun a w=>∃ (u33 : Value),Env 36 a [(6,u33)] ∧ M (Old w0) w0 w [osl NoB (j30 : List UInt8) u33]) ?_ ?_
  ·skip
   refine wp_block ?_
   refine ZE (fun (s35 : Int × (List UInt8)) a w=>∃ (u36 : Value),Env 36 a [(6,u36),(25,v0_1),(26,(vI (p0.length : Int))),(27,vI s35.1)] ∧ M (Old w0) w0 w [osl NoB (s35.2 : List UInt8) u36]) hl31 ⟨u29,hE.sub ⟨rfl,rfl,rfl,rfl,trivial⟩,hM⟩ ?_
   rintro s35 a w ⟨u36,hE,hM⟩ o40 hs38 hx39
   unfold XL at hs38
   refine Zb (Zh hE rfl rfl rfl fun a hE=>Ze (wp_seq ?_))
   refine Zq hE rfl ?_ ?_
   ·intro hb41
    have hs38:=Zx hs38 hb41
    refine wp_skip (Zt (wp_seq (wp_block (Zb ?_))))
    obtain ⟨x42,hi44,hs38⟩:=bix hs38
    refine ZL hE rfl rfl Tryz.underlying23 WU (hM.rd hv0_1) hi44.1 ?_; intro a hE
    obtain ⟨cs45,hs46,hA47⟩:=WL hv0_1 hi44.2 -- ^
    obtain ⟨u48,rfl⟩:=QY hs46 -- ^
    have h49:=hs46 -- ^
    refine Zy (v:=u48) hE rfl WU rfl (hM.atk hA47 (V2 hv0_1 hi44.2)) fun a hE=>Zc hE rfl fun a hE=>Ze (wp_region_lit (Zd hE rfl fun a hE=>Zd hE rfl ?_)); intro a hE
    obtain ⟨l50,e51,hs38⟩:=bind_some hs38
    obtain ⟨e54,rfl⟩:=ZY e51
    refine ZV hE hM Za ld rfl rfl (hM.rd h49) Tryz.underlying40 ty5 rfl (by decide) e54 fun u52 w a hM hE=>Zc hE rfl fun a hE=>Zg (Yc (Zt (wp_region_lit (Zh hE rfl rfl rfl fun a hE=>Zd hE rfl fun a hE=>Zg (Zj ?_)))))
    exact ⟨_,(ois hs38),u52,hE.sub ⟨rfl,rfl,rfl,rfl,trivial⟩,hM⟩
   ·intro hb41
    have hs38:=Zw hs38 hb41
    refine wp_exit (Zp (Zp (Ye ?_)))
    obtain rfl:=hx39 _ (ois hs38)
    refine Zj ?_
    exact ⟨u36,hE.sub ⟨rfl,trivial⟩,hM⟩
  ·skip
   rintro a w ⟨u33,hE,hM⟩
   refine Zt (Zb (Zd hE rfl fun a hE=>Zc hE rfl fun a hE=>Ze ?_))
   obtain rfl:=Option.some.inj hF32
   exact wp_ret (ZJ hE rfl (ZQ hE rfl) ⟨_,rfl,u33,rfl,hM.outF (Z8 YR),hM.kept⟩)
def Xm (s8 : (Vector UInt8 32) × Int) : Option (Fl ((Vector UInt8 32) × Int) (Vector UInt8 32)) :=
 if (decide (s8.2 < 32)) = true then ((ZH s8.1 s8.2).bind fun x14=>some (Fl.nx ((s8.1.setIfInBounds (s8.2).toNat (Zr (wr (17 * s8.2)))),wr (s8.2 + 1)))) else (some (Fl.ex s8.1))
def Wg : Option ((Vector UInt8 32)) :=
 (ZB (Xm) ((Vector.replicate 32 (0 : UInt8)),0)).bind fun j5=>some j5
theorem JH (w0 : World)  (r : (Vector UInt8 32)) (hF : Wg  = some r) :
  Calls Tryz.prog 130 [].toArray w0 (Rt w0 (Value.agg (enc r).toArray)):=by
 refine ce Tryz.func130 ?_
 intro a hE
 have hM:=M.start w0
 unfold Wg at hF
 refine Zb (Zz hE hM Yh fun b1 w a hM hE=>Ze (Zb (Wd (parts:=[]) (vs:=[]) (cs:=enc (Vector.replicate 32 (0 : UInt8))) hE Za ld rfl rfl Yh rfl ty5 XF fun a hE=>Zz hE hM Yh fun b3 w a hM hE=>Zl (seg:=enc (Vector.replicate 32 (0 : UInt8))) (cs':=enc (Vector.replicate 32 (0 : UInt8))) hE hM Za rfl rfl rfl Yh (Flat.len _) (zle flq) (Flat.cell _) (Zi flq) fun w a hM hE=>Ze (wp_seq (Zb (Zd hE rfl fun a hE=>Ze ?_))))))
 obtain ⟨j5,hl6,hF7⟩:=bind_some hF
 refine ZK (fun a w=>Env 14 a [(0,(ptr b1 0)),(1,(ptr b3 0))] ∧ M (Old w0) w0 w [raw b3 (enc j5),raw b1 (enc (Vector.replicate 32 (0 : UInt8)))]) ?_ ?_
 ·skip
  refine wp_block ?_
  refine ZE (fun (s8 : (Vector UInt8 32) × Int) a w=>Env 14 a [(0,(ptr b1 0)),(1,(ptr b3 0)),(4,vI s8.2)] ∧ M (Old w0) w0 w [raw b3 (enc s8.1),raw b1 (enc (Vector.replicate 32 (0 : UInt8)))]) hl6 ⟨hE.sub ⟨rfl,rfl,rfl,trivial⟩,hM⟩ ?_
  rintro s8 a w ⟨hE,hM⟩ o11 hs9 hx10
  unfold Xm at hs9
  refine Zb (Zh hE rfl rfl rfl fun a hE=>Ze (wp_seq ?_))
  refine Zq hE rfl ?_ ?_
  ·intro hb12
   have hs9:=Zx hs9 hb12
   refine wp_skip (Zt (wp_seq (wp_block (Zb (Zd hE rfl fun a hE=>Zc hE rfl fun a hE=>Ze (wp_region_lit (Zd hE rfl fun a hE=>Zd hE rfl fun a hE=>Zh hE rfl rfl rfl fun a hE=>Yf hE Za ld rfl Tryz.underlying3 Tryz.underlying5 ?_))))))); intro a hE
   obtain ⟨x14,hi13,hs9⟩:=bvx hs9
   refine ZC hE rfl rfl Tryz.underlying35 ty5 hi13.1 fun a hE=>Zl (seg:=[(vB (Zr (wr (17 * s8.2))))]) (cs':=enc (s8.1.setIfInBounds (s8.2).toNat (Zr (wr (17 * s8.2))))) hE hM Za rfl rfl rfl ty5 rfl (ZR (v:=s8.1) (x:=Zr (wr (17 * s8.2))) hi13.1) (Flat.cell (Zr (wr (17 * s8.2)) : UInt8)) (ZF (v:=s8.1) (x:=Zr (wr (17 * s8.2))) hi13.1) fun w a hM hE=>Zg (Yc (Zt (wp_region_lit (Zh hE rfl rfl rfl fun a hE=>Zd hE rfl fun a hE=>Zg (Zj ?_)))))
   exact ⟨_,(ois hs9),hE.sub ⟨rfl,rfl,rfl,trivial⟩,hM⟩
  ·intro hb12
   have hs9:=Zw hs9 hb12
   refine wp_exit (Zp (Zp (Ye ?_)))
   obtain rfl:=hx10 _ (ois hs9)
   refine Zj ?_
   exact ⟨hE.sub ⟨rfl,rfl,trivial⟩,hM⟩
 ·skip
  rintro a w ⟨hE,hM⟩
  refine Zt (Zb (Zn hE rfl Yh rfl hM.rawAt0 (Flat.len _) ?_)); intro a hE
  have hM:=hM.pull1
  refine Zl (seg:=enc j5) (cs':=enc j5) hE hM Za rfl rfl rfl Yh (Flat.len _) (zle flq) (Flat.cell _) (Zi flq) fun w a hM hE=>Ze ?_
  obtain rfl:=Option.some.inj hF7
  have hq17 : Yl Tryz.prog _ _ (.cell 0 35) _:=ZI hE rfl Yh rfl hM.rawAt0 (Flat.len _) rfl
  exact wp_ret (ZJ hE rfl hq17 ⟨_,rfl,rfl,hM.kept⟩)
def VS (p0 : Int) (s8 : (List UInt8) × Int) : Option (Fl ((List UInt8) × Int) (List UInt8)) :=
 if (decide (s8.2 ≥ 0)) = true then ((Wm (wr (8 * s8.2))).bind fun _=>(app 1 s8.1 ([Zr (Vy p0 (wr (8 * s8.2)))] : List UInt8)).bind fun l18=>some (Fl.nx ((s8.1 ++ ([Zr (Vy p0 (wr (8 * s8.2)))] : List UInt8)),wr (s8.2 - 1)))) else (some (Fl.ex s8.1))
def YW (p0 : Int) (p1 : Int) : Option ((List UInt8)) :=
 (ZB (VS p0) (([] : List UInt8),wr (p1 - 1))).bind fun j3=>some j3
theorem QK (w0 : World) (p0 : Int) (p1 : Int) (r : (List UInt8)) (hF : YW p0 p1 = some r) :
  Calls Tryz.prog 166 [vI p0,vI p1].toArray w0 (fun en w'=>∃ v,en = .returned v ∧ (∃ (y1 : Value),v = y1 ∧ Fr w0 w' [osl NoB (r : List UInt8) y1] ∧ Kept (Old w0) w0 w')):=by
 refine ce Tryz.func166 ?_
 intro a hE
 have hM:=M.start w0
 unfold YW at hF
 refine Zb (Zc hE rfl fun a hE=>Ze (Zb (ZU (xs:=[]) (l:=([] : List UInt8)) (vs:=[]) hE hM Za ld rfl rfl Tryz.underlying40 ty5 rfl (by decide) rfl fun u1 w a hM hE=>Zc hE rfl fun a hE=>Ze (wp_seq (Zb (Zd hE rfl fun a hE=>Zh hE rfl rfl rfl fun a hE=>Zc hE rfl fun a hE=>Ze ?_))))))
 obtain ⟨j3,hl4,hF5⟩:=bind_some hF
 refine ZK (fun a w=>∃ (u6 : Value),Env 23 a [(5,u6)] ∧ M (Old w0) w0 w [osl NoB (j3 : List UInt8) u6]) ?_ ?_
 ·skip
  refine wp_block ?_
  refine ZE (fun (s8 : (List UInt8) × Int) a w=>∃ (u9 : Value),Env 23 a [(0,vI p0),(5,u9),(6,vI s8.2)] ∧ M (Old w0) w0 w [osl NoB (s8.1 : List UInt8) u9]) hl4 ⟨u1,hE.sub ⟨rfl,rfl,rfl,trivial⟩,hM⟩ ?_
  rintro s8 a w ⟨u9,hE,hM⟩ o13 hs11 hx12
  unfold VS at hs11
  refine wp_seq (Zb (Zd hE rfl fun a hE=>Zh hE rfl rfl rfl fun a hE=>Ze ?_))
  refine Zq hE rfl ?_ ?_
  ·intro hb14
   have hs11:=Zx hs11 hb14
   refine wp_skip (Zt (wp_seq (wp_block (wp_region_lit (Zd hE rfl fun a hE=>Zd hE rfl fun a hE=>Zd hE rfl fun a hE=>Zh hE rfl rfl rfl ?_))))); intro a hE
   obtain ⟨_,e15,hs11⟩:=bind_some hs11
   have e15:=VR e15
   refine Bd hE Za ld rfl rfl (Jt _ _ e15) fun a hE=>Yf hE Za ld rfl Tryz.underlying2 Tryz.underlying5 fun a hE=>ZU (xs:=[.tmp 19]) (l:=([Zr (Vy p0 (wr (8 * s8.2)))] : List UInt8)) (vs:=[(vB (Zr (Vy p0 (wr (8 * s8.2)))))]) hE hM Za ld rfl rfl Tryz.underlying40 ty5 rfl (by decide) rfl ?_; intro u16 w a hM hE
   obtain ⟨l18,e19,hs11⟩:=bind_some hs11
   obtain ⟨e22,rfl⟩:=ZY e19
   have hM:=hM.pull1
   refine ZV hE hM Za ld rfl rfl (hM.sl (pre:=[_]) noB) Tryz.underlying40 ty5 rfl (by decide) e22 fun u20 w a hM hE=>Zc hE rfl fun a hE=>Zg (Yc (Zt (wp_region_lit (Zd hE rfl fun a hE=>Zh hE rfl rfl rfl fun a hE=>Zc hE rfl fun a hE=>Zg (Zj ?_)))))
   have hM:=M.fst (l:=[_]) hM
   exact ⟨_,(ois hs11),u20,hE.sub ⟨rfl,rfl,rfl,trivial⟩,hM⟩
  ·intro hb14
   have hs11:=Zw hs11 hb14
   refine wp_exit (Zp (Zp (Ye ?_)))
   obtain rfl:=hx12 _ (ois hs11)
   refine Zj ?_
   exact ⟨u9,hE.sub ⟨rfl,trivial⟩,hM⟩
 ·skip
  rintro a w ⟨u6,hE,hM⟩
  refine Zt (Zb (Zd hE rfl fun a hE=>Zc hE rfl fun a hE=>Ze ?_))
  obtain rfl:=Option.some.inj hF5
  exact wp_ret (ZJ hE rfl (ZQ hE rfl) ⟨_,rfl,u6,rfl,hM.outF (Z8 YR),hM.kept⟩)
def UI (s16 : (List UInt8)) : Option (Fl (List UInt8) (List UInt8)) :=
 if ((Int.tmod (s16.length : Int) 16) != 8) = true then ((app 1 s16 ([0] : List UInt8)).bind fun l25=>some (Fl.nx (s16 ++ ([0] : List UInt8)))) else (some (Fl.ex s16))
def VT (p0 : (List UInt8)) : Option ((List UInt8)) :=
 (ZS p0).bind fun r1=>(app 1 r1 ([128] : List UInt8)).bind fun l6=>(ZB (UI) (r1 ++ ([128] : List UInt8))).bind fun j11=>(YW (p0.length : Int) 8).bind fun r31=>(app 1 j11 r31).bind fun l34=>some (j11 ++ r31)
theorem HQ (w0 : World) (p0 : (List UInt8)) (v0_1 : Value) (hv0_1 : Ro w0 p0 [v0_1]) (r : (List UInt8)) (hF : VT p0 = some r) :
  Calls Tryz.prog 132 [v0_1].toArray w0 (fun en w'=>∃ v,en = .returned v ∧ (∃ (y1 : Value),v = y1 ∧ Fr w0 w' [osl NoB (r : List UInt8) y1] ∧ Kept (Old w0) w0 w')):=by
 refine ce Tryz.func132 ?_
 intro a hE
 have hM:=M.start w0
 unfold VT at hF
 refine Zb (Zc hE rfl fun a hE=>Ze (Zb (Zd hE rfl ?_))); intro a hE
 obtain ⟨r1,e2,hF⟩:=bind_some hF
 refine Zv hE rfl cb75 (YX _ p0 v0_1 (hM.rdo hv0_1) r1 e2) ?_
 rintro u3 w a ⟨_,rfl,hFr,hK⟩ hE
 have hM:=hM.add hK hFr
 refine ZU (xs:=[.const (vB 128)]) (l:=([128] : List UInt8)) (vs:=[vB 128]) hE hM Za ld rfl rfl Tryz.underlying40 ty5 rfl (by decide) rfl ?_; intro u4 w a hM hE
 obtain ⟨l6,e7,hF⟩:=bind_some hF
 obtain ⟨e10,rfl⟩:=ZY e7
 have hM:=hM.pull1
 refine ZV hE hM Za ld rfl rfl (hM.sl (pre:=[_]) noB) Tryz.underlying40 ty5 rfl (by decide) e10 fun u8 w a hM hE=>Zc hE rfl fun a hE=>Ze ?_
 obtain ⟨j11,hl12,hF13⟩:=bind_some hF
 refine ZM (fun a w=>∃ (u14 : Value),Env 20 a [(0,v0_1),(3,u14)] ∧ M (Old w0) w0 w [osl NoB (j11 : List UInt8) u14]) ?_ ?_
 ·skip
  refine wp_block ?_
  have hM:=M.fst (l:=[_]) hM
  refine ZE (fun (s16 : (List UInt8)) a w=>∃ (u17 : Value),Env 20 a [(0,v0_1),(3,u17)] ∧ M (Old w0) w0 w [osl NoB (s16 : List UInt8) u17]) hl12 ⟨u8,hE.sub ⟨rfl,rfl,trivial⟩,hM⟩ ?_
  rintro s16 a w ⟨u17,hE,hM⟩ o21 hs19 hx20
  unfold UI at hs19
  refine wp_seq (Zb (Zd hE rfl fun a hE=>Z9 hE rfl Tryz.underlying40 (hM.sl (pre:=[]) noB) fun a hE=>Zh hE rfl rfl (Kh _ _ (by decide)) fun a hE=>Zh hE rfl rfl rfl fun a hE=>Ze ?_))
  refine Zq hE rfl ?_ ?_
  ·intro hb22
   have hs19:=Zx hs19 hb22
   refine wp_skip (Zt (wp_block (wp_region_lit (Zd hE rfl fun a hE=>ZU (xs:=[.const (vB 0)]) (l:=([0] : List UInt8)) (vs:=[vB 0]) hE hM Za ld rfl rfl Tryz.underlying40 ty5 rfl (by decide) rfl ?_)))); intro u23 w a hM hE
   obtain ⟨l25,e26,hs19⟩:=bind_some hs19
   obtain ⟨e29,rfl⟩:=ZY e26
   have hM:=hM.pull1
   refine ZV hE hM Za ld rfl rfl (hM.sl (pre:=[_]) noB) Tryz.underlying40 ty5 rfl (by decide) e29 fun u27 w a hM hE=>Zc hE rfl fun a hE=>Zg (Yc (Zj ?_))
   have hM:=M.fst (l:=[_]) hM
   exact ⟨_,(ois hs19),u27,hE.sub ⟨rfl,rfl,trivial⟩,hM⟩
  ·intro hb22
   have hs19:=Zw hs19 hb22
   refine wp_exit (Zp (Zp (Ye ?_)))
   obtain rfl:=hx20 _ (ois hs19)
   refine Zj ?_
   exact ⟨u17,hE.sub ⟨rfl,rfl,trivial⟩,hM⟩
 ·skip
  rintro a w ⟨u14,hE,hM⟩
  refine Zb (Zd hE rfl fun a hE=>Zd hE rfl fun a hE=>Z9 hE rfl Tryz.underlying40 (hM.rd hv0_1) ?_); intro a hE
  obtain ⟨r31,e32,hF13⟩:=bind_some hF13
  refine Zv hE rfl Zcd (QK _ (p0.length : Int) 8 r31 e32) ?_
  rintro u33 w a ⟨_,rfl,hFr,hK⟩ hE
  have hM:=hM.add hK hFr
  obtain ⟨l34,e35,hF13⟩:=bind_some hF13
  obtain ⟨e38,rfl⟩:=ZY e35
  have hM:=hM.pull1
  refine ZV hE hM Za ld rfl rfl (hM.sl (pre:=[_]) noB) Tryz.underlying40 ty5 rfl (by decide) e38 fun u36 w a hM hE=>Zc hE rfl fun a hE=>Ze ?_
  obtain rfl:=Option.some.inj hF13
  have hM:=M.fst (l:=[_]) hM
  exact wp_ret (ZJ hE rfl (ZQ hE rfl) ⟨_,rfl,u36,rfl,hM.outF (Z8 YR),hM.kept⟩)
def Vf (p0 : (List UInt8)) (s8 : (List (Vector UInt8 16)) × Int) : Option (Fl ((List (Vector UInt8 16)) × Int) (List (Vector UInt8 16))) :=
 if (decide (s8.2 < (p0.length : Int))) = true then ((slc p0 s8.2 (wr (s8.2 + 16))).bind fun l15=>(QH 16 l15).bind fun x18=>(app 16 s8.1 ([x18] : List (Vector UInt8 16))).bind fun l22=>some (Fl.nx ((s8.1 ++ ([x18] : List (Vector UInt8 16))),wr (s8.2 + 16)))) else (some (Fl.ex s8.1))
def UZ (p0 : (List UInt8)) : Option ((List (Vector UInt8 16))) :=
 (ZB (Vf p0) (([] : List (Vector UInt8 16)),0)).bind fun j3=>some j3
theorem Ay (w0 : World) (p0 : (List UInt8)) (v0_1 : Value) (hv0_1 : Ro w0 p0 [v0_1]) (r : (List (Vector UInt8 16))) (hF : UZ p0 = some r) :
  Calls Tryz.prog 131 [v0_1].toArray w0 (fun en w'=>∃ v,en = .returned v ∧ (∃ (y1 : Value),v = y1 ∧ Fr w0 w' [osl NoB (r : List (Vector UInt8 16)) y1] ∧ Kept (Old w0) w0 w')):=by
 refine ce Tryz.func131 ?_
 intro a hE
 have hM:=M.start w0
 unfold UZ at hF
 refine Zb (Zc hE rfl fun a hE=>Ze (Zb (ZU (xs:=[]) (l:=([] : List (Vector UInt8 16))) (vs:=[]) hE hM Za ld rfl rfl Tryz.underlying54 ZD rfl (by decide) rfl fun u1 w a hM hE=>Zc hE rfl fun a hE=>Ze (wp_seq (Zb (Zc hE rfl fun a hE=>Ze ?_))))))
 obtain ⟨j3,hl4,hF5⟩:=bind_some hF
 refine ZK (fun a w=>∃ (u6 : Value),Env 23 a [(3,u6)] ∧ M (Old w0) w0 w [osl NoB (j3 : List (Vector UInt8 16)) u6]) ?_ ?_
 ·skip
  refine wp_block ?_
  refine ZE (fun (s8 : (List (Vector UInt8 16)) × Int) a w=>∃ (u9 : Value),Env 23 a [(0,v0_1),(3,u9),(4,vI s8.2)] ∧ M (Old w0) w0 w [osl NoB (s8.1 : List (Vector UInt8 16)) u9]) hl4 ⟨u1,hE.sub ⟨rfl,rfl,rfl,trivial⟩,hM⟩ ?_
  rintro s8 a w ⟨u9,hE,hM⟩ o13 hs11 hx12
  unfold Vf at hs11
  refine wp_seq (Zb (Zd hE rfl fun a hE=>Zd hE rfl fun a hE=>Z9 hE rfl Tryz.underlying40 (hM.rd hv0_1) fun a hE=>Zh hE rfl rfl rfl fun a hE=>Ze ?_))
  refine Zq hE rfl ?_ ?_
  ·intro hb14
   have hs11:=Zx hs11 hb14
   refine wp_skip (Zt (wp_seq (wp_block (wp_region_lit (Zd hE rfl fun a hE=>Zd hE rfl fun a hE=>Zd hE rfl fun a hE=>Zd hE rfl fun a hE=>Zh hE rfl rfl rfl ?_))))); intro a hE
   obtain ⟨l15,e16,hs11⟩:=bind_some hs11
   refine Bi hE Za ld rfl rfl rfl rfl rfl Tryz.underlying40 ty5 (hM.rd hv0_1) e16 ?_; intro a hE
   have h17 : Rep.sat (Old w0) w0 l15 [(Yd v0_1 (s8.2).toNat ((wr (s8.2 + 16))).toNat 1)] []:=Xg hv0_1 e16 -- ^
   obtain ⟨x18,e19,hs11⟩:=bind_some hs11
   refine Bf hE Za ld rfl Tryz.underlying68 (hM.rd h17) (QI e19).1 (by decide) fun a hE=>Zn hE rfl ZD rfl (zA (hM.rd h17) e19 (by decide)) (Flat.len _) fun a hE=>ZU (xs:=[.tmp 19]) (l:=([x18] : List (Vector UInt8 16))) (vs:=[(Value.agg (enc x18).toArray)]) hE hM Za ld rfl rfl Tryz.underlying54 ZD rfl (by decide) rfl ?_; intro u20 w a hM hE
   obtain ⟨l22,e23,hs11⟩:=bind_some hs11
   obtain ⟨e26,rfl⟩:=ZY e23
   have hM:=hM.pull1
   refine ZV hE hM Za ld rfl rfl (hM.sl (pre:=[_]) noB) Tryz.underlying54 ZD rfl (by decide) e26 fun u24 w a hM hE=>Zc hE rfl fun a hE=>Zg (Yc (Zt (wp_region_lit (Zd hE rfl fun a hE=>Zh hE rfl rfl rfl fun a hE=>Zc hE rfl fun a hE=>Zg (Zj ?_)))))
   have hM:=M.fst (l:=[_]) hM
   exact ⟨_,(ois hs11),u24,hE.sub ⟨rfl,rfl,rfl,trivial⟩,hM⟩
  ·intro hb14
   have hs11:=Zw hs11 hb14
   refine wp_exit (Zp (Zp (Ye ?_)))
   obtain rfl:=hx12 _ (ois hs11)
   refine Zj ?_
   exact ⟨u9,hE.sub ⟨rfl,trivial⟩,hM⟩
 ·skip
  rintro a w ⟨u6,hE,hM⟩
  refine Zt (Zb (Zd hE rfl fun a hE=>Zc hE rfl fun a hE=>Ze ?_))
  obtain rfl:=Option.some.inj hF5
  exact wp_ret (ZJ hE rfl (ZQ hE rfl) ⟨_,rfl,u6,rfl,hM.outF (Z8 YR),hM.kept⟩)
def WJ (p1 : (Vector UInt8 16)) (s10 : (Vector UInt8 16) × Int) : Option (Fl ((Vector UInt8 16) × Int) (Vector UInt8 16)) :=
 if (decide (s10.2 < 16)) = true then ((ZH s10.1 s10.2).bind fun x17=>(ZH p1 s10.2).bind fun x20=>(ZH s10.1 s10.2).bind fun x23=>some (Fl.nx ((s10.1.setIfInBounds (s10.2).toNat (x17 ^^^ x20)),wr (s10.2 + 1)))) else (some (Fl.ex s10.1))
def YM (p0 : (Vector UInt8 16)) (p1 : (Vector UInt8 16)) : Option ((Vector UInt8 16)) :=
 (ZB (WJ p1) (p0,0)).bind fun j7=>some j7
theorem Vh (w0 : World) (p0 : (Vector UInt8 16)) (p1 : (Vector UInt8 16)) (r : (Vector UInt8 16)) (hF : YM p0 p1 = some r) :
  Calls Tryz.prog 182 [(Value.agg (enc p0).toArray),(Value.agg (enc p1).toArray)].toArray w0 (Rt w0 (Value.agg (enc r).toArray)):=by
 refine ce Tryz.func182 ?_
 intro a hE
 have hM:=M.start w0
 unfold YM at hF
 refine Zb (ZO (cs:=enc p0) hE hM Za ld rfl rfl fun b1 w a hM hE=>ZO (cs:=enc p1) hE hM Za ld rfl rfl fun b3 w a hM hE=>Zz hE hM ZD fun b5 w a hM hE=>Ze (wp_seq (Zb (Zd hE rfl fun a hE=>Ze ?_))))
 obtain ⟨j7,hl8,hF9⟩:=bind_some hF
 refine ZK (fun a w=>Env 19 a [(2,(ptr b1 0)),(4,(ptr b5 0))] ∧ M (Old w0) w0 w [raw b5 (enc (Vector.replicate 16 (0 : UInt8))),raw b1 (enc j7)]) ?_ ?_
 ·skip
  refine wp_block ?_
  refine ZE (fun (s10 : (Vector UInt8 16) × Int) a w=>Env 19 a [(2,(ptr b1 0)),(3,(ptr b3 0)),(4,(ptr b5 0)),(6,vI s10.2)] ∧ M (Old w0) w0 w [raw b5 (enc (Vector.replicate 16 (0 : UInt8))),raw b3 (enc p1),raw b1 (enc s10.1)]) hl8 ⟨hE.sub ⟨rfl,rfl,rfl,rfl,trivial⟩,hM⟩ ?_
  rintro s10 a w ⟨hE,hM⟩ o13 hs11 hx12
  unfold WJ at hs11
  refine Zb (Zh hE rfl rfl rfl fun a hE=>Ze (wp_seq ?_))
  refine Zq hE rfl ?_ ?_
  ·intro hb14
   have hs11:=Zx hs11 hb14
   refine wp_skip (Zt (wp_seq (wp_block (Zb (Zd hE rfl fun a hE=>Zc hE rfl fun a hE=>Ze ?_)))))
   obtain ⟨x17,hi16,hs11⟩:=bvx hs11
   obtain ⟨x20,hi19,hs11⟩:=bvx hs11
   obtain ⟨x23,hi22,hs11⟩:=bvx hs11
   refine Yj [9,10,11,12,13,14,15,16] YL rfl rfl (by decide) rfl hE hM (qsP (fun z=>Zu z.E Za ld rfl (kr0 rfl)) (qsP (fun z=>ZG z.E Za ld rfl rfl Tryz.underlying68 ty5 hi16.1 (kr0 rfl)) (qsP (fun z=>ZN (v:=(vB x17)) z.E Za ld rfl ty5 rfl (At.vec (z.M.rawAt2) hi16.2) (kr0 rfl)) (qsP (fun z=>Zu z.E Za ld rfl (kr0 rfl)) (qsP (fun z=>ZG z.E Za ld rfl rfl Tryz.underlying68 ty5 hi19.1 (kr0 rfl)) (qsP (fun z=>ZN (v:=(vB x20)) z.E Za ld rfl ty5 rfl (At.vec (z.M.rawAt1) hi19.2) (kr0 rfl)) (qsP (v:=(vB (x17 ^^^ x20))) (fun z=>Yb z.E Za ld rfl rfl (Vu x17 x20) (kr0 rfl)) (qsP (fun z=>ZG z.E Za ld rfl rfl Tryz.underlying68 ty5 hi22.1 (kr0 rfl)) qs0)))))))) ?_
   ·intro a w u hE hM
    have hM:=hM.pull2
    refine Zl (seg:=[(vB (x17 ^^^ x20))]) (cs':=enc (s10.1.setIfInBounds (s10.2).toNat (x17 ^^^ x20))) hE hM Za rfl rfl rfl ty5 rfl (ZR (v:=s10.1) (x:=x17 ^^^ x20) hi22.1) (Flat.cell (x17 ^^^ x20 : UInt8)) (ZF (v:=s10.1) (x:=x17 ^^^ x20) hi22.1) fun w a hM hE=>Zg (Yc (Zt (wp_region_lit (Zh hE rfl rfl rfl fun a hE=>Zd hE rfl fun a hE=>Zg (Zj ?_)))))
    have hM:=hM.pull2.pull2
    exact ⟨_,(ois hs11),hE.sub ⟨rfl,rfl,rfl,rfl,trivial⟩,hM⟩
  ·intro hb14
   have hs11:=Zw hs11 hb14
   refine wp_exit (Zp (Zp (Ye ?_)))
   obtain rfl:=hx12 _ (ois hs11)
   refine Zj ?_
   have hM:=M.fst (l:=[_,_]) hM.pull2.pull1
   exact ⟨hE.sub ⟨rfl,rfl,trivial⟩,hM⟩
 ·skip
  rintro a w ⟨hE,hM⟩
  refine Zt (Zb (Zn hE rfl ZD rfl hM.rawAt1 (Flat.len _) fun a hE=>Zl (seg:=enc j7) (cs':=enc j7) hE hM Za rfl rfl rfl ZD (Flat.len _) (zle flq) (Flat.cell _) (Zi flq) fun w a hM hE=>Ze ?_))
  obtain rfl:=Option.some.inj hF9
  have hq26 : Yl Tryz.prog _ _ (.cell 4 68) _:=ZI hE rfl ZD rfl hM.rawAt0 (Flat.len _) rfl
  exact wp_ret (ZJ hE rfl hq26 ⟨_,rfl,rfl,hM.kept⟩)
end

end Go.Proofs.YtpibglnacohdkaaGreat
