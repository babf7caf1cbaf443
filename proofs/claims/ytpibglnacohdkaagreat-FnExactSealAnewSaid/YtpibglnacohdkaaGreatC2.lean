/- The walk of what the law reaches: contracts of functions. -/
import Derived.Test.YtpibglnacohdkaaGreatC1
set_option linter.unusedVariables false
set_option linter.unusedSimpArgs false
set_option maxRecDepth 20000
set_option maxHeartbeats 400000
namespace Go.Proofs.YtpibglnacohdkaaGreat
open Go
open Flat (enc)
noncomputable section
theorem KS (w0 : World) (p0 : GVault) (v0_1 : Value) (hv0_1 : Ro w0 p0.Keys [v0_1]) (v0_2 : Value) (hv0_2 : Ro w0 p0.Records [v0_2]) (v0_3 : Value) (hv0_3 : Ro w0 p0.Events [v0_3]) (p1 : GRecord) (v1_1 : Value) (hv1_1 : Ro w0 p1.Label [v1_1]) (v1_2 : Value) (hv1_2 : Ro w0 p1.Body [v1_2]) (p2 : (List UInt8)) (v2_1 : Value) (hv2_1 : Ro w0 p2 [v2_1]) (r : (List UInt8)) (hF : X8 p0 p1 p2 = some r) :
  Calls Tryz.prog 101 [(Value.agg (cat [[v0_1],[vI p0.Next],[v0_2],[v0_3],enc p0.Head]).toArray),(Value.agg (cat [[vI p1.Number],[vI p1.Version],enc p1.Nonce,[v1_1],[v1_2],enc p1.Tag]).toArray),v2_1].toArray w0 (fun en w'=>∃ v,en = .returned v ∧ (∃ (y1 : Value),v = y1 ∧ Fr w0 w' [osl NoB (r : List UInt8) y1] ∧ Kept (Old w0) w0 w')):=by
 refine ce Tryz.func101 ?_
 intro a hE
 have hM:=M.start w0
 unfold X8 at hF
 refine Zb (ZK (cs:=cat [[v0_1],[vI p0.Next],[v0_2],[v0_3],enc p0.Head]) hE hM Za ld rfl rfl fun b1 w a hM hE=>ZK (cs:=cat [[vI p1.Number],[vI p1.Version],enc p1.Nonce,[v1_1],[v1_2],enc p1.Tag]) hE hM Za ld rfl rfl fun b3 w a hM hE=>Zc hE rfl fun a hE=>Ze ?_)
 obtain ⟨j5,hl6,hF7⟩:=bind_some hF
 refine ZO (fun a w=>∃ (u8 : Value) (u10 : Value),Env 42 a [(2,v2_1),(7,u8),(8,u10)] ∧ M (Old w0) w0 w [osl NoB (j5.1 : List UInt8) u8,osl NoB (j5.2 : List UInt8) u10]) ?_ ?_
 ·skip
  obtain ⟨r13,e14,hl6⟩:=bind_some hl6
  obtain ⟨x15,hi17,hl6⟩:=bix hl6
  obtain ⟨r18,e19,hl6⟩:=bind_some hl6
  refine YC (its:=[raw b3 (cat [[vI p1.Number],[vI p1.Version],enc p1.Nonce,[v1_1],[v1_2],enc p1.Tag]),raw b1 (cat [[v0_1],[vI p0.Next],[v0_2],[v0_3],enc p0.Head])]) (mk:=([mkO 11 (fun v=>osl NoB (r18 : List UInt8) v),mkO 12 (fun v=>osl NoB (([] : List UInt8) : List UInt8) v)] : Mk)) [10,11,12,13,14,15,16,17,18,19,20,21,22,7] YF rfl rfl (by decide) rfl hE (fun u=>M.qE (M.qE (M.q0 hM.drew u) emO) emO) (qsP (fun z=>Z0 z.E Za ld rfl Zae (TZ _  r13 e14) (kc rfl)) (qsP (fun z=>Zj z.E Za ld rfl (WZ) (kr0 rfl)) (qsP (v:=v0_1) ?_ (qsP (fun z=>Zj z.E Za ld rfl (WE) (kr0 rfl)) (qsP (v:=(vI p1.Version)) ?_ (qsP (v:=(ptr (sb v0_1) (so v0_1 + (p1.Version).toNat * 16))) ?_ (qsP (v:=(Value.agg (enc x15).toArray)) ?_ (qsP (fun z=>Zj z.E Za ld rfl (Qf) (kr0 rfl)) (qsP (v:=(Value.agg (enc p1.Nonce).toArray)) ?_ (qsP (fun z=>Zu z.E Za ld rfl (kr0 rfl)) (qsP (v:=(vI (p2.length : Int))) ?_ (qsM (pr:=fun v=>True) ?_ (qsM (pr:=fun v=>True) ?_ (qsD (ds:=[11]) (f:=fun us=>(us.getD 0 undef)) ?_ qs0)))))))))))))) ?_
  ·intro a w ux12 D z
   have hE:=z.E
   have hM:=z.M
   exact Zy (v:=v0_1) hE rfl Q7 rfl (At.cat (pre:=[]) hM.rawAt1 cl0) fun a hE=>⟨Kept.refl _ _,_,rfl,hE⟩
  ·intro a w ux12 D z
   have hE:=z.E
   have hM:=z.M
   exact Zy (v:=(vI p1.Version)) hE rfl ty2 rfl (At.cat (pre:=[[vI p1.Number]]) hM.rawAt0 ck) fun a hE=>⟨Kept.refl _ _,_,rfl,hE⟩
  ·intro a w ux12 D z
   have hE:=z.E
   have hM:=z.M
   exact ZL hE rfl rfl Tryz.underlying54 ZC (hM.rd hv0_1) hi17.1 fun a hE=>⟨Kept.refl _ _,_,rfl,hE⟩
  ·intro a w ux12 D z
   have hE:=z.E
   have hM:=z.M
   exact Zm hE rfl ZC rfl (Y6 (hM.rd hv0_1) hi17.2) (Flat.len _) fun a hE=>⟨Kept.refl _ _,_,rfl,hE⟩
  ·intro a w ux12 D z
   have hE:=z.E
   have hM:=z.M
   exact Zm hE rfl ZC rfl (At.cat (pre:=[[vI p1.Number],[vI p1.Version]]) hM.rawAt0 ck) (Flat.len _) fun a hE=>⟨Kept.refl _ _,_,rfl,hE⟩
  ·intro a w ux12 D z
   have hE:=z.E
   have hM:=z.M
   exact Yf hE rfl Tryz.underlying40 (hM.rd hv2_1) fun a hE=>⟨Kept.refl _ _,_,rfl,hE⟩
  ·intro a w ux12 D z
   have hE:=z.E
   have hD : D 11 = false:=z.F
   have hM0:=z.M
   have hM:=z.M
   refine Zv hE rfl (cbm Tryz.func153) (BO _ r13 x15 p1.Nonce (p2.length : Int) r18 e19) ?_
   rintro _ w a ⟨_,rfl,hFr,hK⟩ hE
   have hM:=hM0.add hK hFr
   exact ⟨_,_,rfl,hE,M.qFill (mk1:=[]) (mk2:=[_]) (f:=(fun v=>osl NoB (r18 : List UInt8) v)) hM rfl hD,trivial⟩
  ·intro a w ux12 D z
   have hE:=z.E
   have hD : D 12 = false:=z.F
   have hM:=z.M
   exact ZW (xs:=[]) (l:=([] : List UInt8)) (vs:=[]) hE hM Za ld rfl rfl Tryz.underlying40 ty5 rfl (by decide) rfl fun u21 w a hM hE=>⟨_,_,rfl,hE,M.qFill (mk1:=[_]) (mk2:=[]) (f:=(fun v=>osl NoB (([] : List UInt8) : List UInt8) v)) hM rfl hD,trivial⟩
  ·intro a w ux12 D z
   have hE:=z.E
   have d11 : D 11 = true:=z.p 0 _ rfl rfl
   exact Zc hE rfl fun a hE=>⟨Kept.refl _ _,(zR d11 jp),_,rfl,hE⟩
  ·intro a w ux12 D hE hM hG hall
   have d11:=hall 11 (by decide)
   have d12:=hall 12 (by decide)
   have hM:=(hM.sure (pre:=[_,_]) d11).sure (pre:=[_,_,_]) d12
   refine Zc hE rfl fun a hE=>Zg ?_
   obtain rfl:=Option.some.inj hl6
   refine Zk ?_
   have hM:=M.fst (l:=[_,_]) hM.pull3.pull3
   exact ⟨(ux12 11),(ux12 12),hE.sub ⟨rfl,rfl,rfl,trivial⟩,hM⟩
 ·skip
  rintro a w ⟨u8,u10,hE,hM⟩
  refine wp_seq (Zb (Zc hE rfl fun a hE=>Ze ?_))
  obtain ⟨j24,hl25,hF26⟩:=bind_some hF7
  refine ZM (fun a w=>∃ (u27 : Value),Env 42 a [(8,u27)] ∧ M (Old w0) w0 w [osl NoB (j24 : List UInt8) u27]) ?_ ?_
  ·skip
   refine wp_block ?_
   refine ZE (fun (s29 : (List UInt8) × Int) a w=>∃ (u30 : Value),Env 42 a [(2,v2_1),(7,u8),(8,u30),(9,vI s29.2)] ∧ M (Old w0) w0 w [osl NoB (j5.1 : List UInt8) u8,osl NoB (s29.1 : List UInt8) u30]) hl25 ⟨u10,hE.sub ⟨rfl,rfl,rfl,rfl,trivial⟩,hM⟩ ?_
   rintro s29 a w ⟨u30,hE,hM⟩ o34 hs32 hx33
   unfold WC at hs32
   refine wp_seq (Zb (Zd hE rfl fun a hE=>Zd hE rfl fun a hE=>Yf hE rfl Tryz.underlying40 (hM.rd hv2_1) fun a hE=>Zh hE rfl rfl rfl fun a hE=>Ze ?_))
   refine Zo hE rfl ?_ ?_
   ·intro hb35
    have hs32:=Zw hs32 hb35
    refine wp_skip (Zt (wp_seq (wp_block ?_)))
    obtain ⟨x37,hi39,hs32⟩:=bix hs32
    obtain ⟨x40,hi42,hs32⟩:=bix hs32
    refine YC (its:=[osl NoB (j5.1 : List UInt8) u8,osl NoB (s29.1 : List UInt8) u30]) (mk:=([mkO 10 (fun v=>osl NoB (([x37 ^^^ x40] : List UInt8) : List UInt8) v)] : Mk)) [29,30,31,32,33,34,35,36,37,38,39] YF rfl rfl (by decide) rfl hE (fun u=>M.qE (M.q0 hM.drew u) emO) (qsP (fun z=>Zu z.E Za ld rfl (kr0 rfl)) (qsP (fun z=>Zu z.E Za ld rfl (kr0 rfl)) (qsP (fun z=>Zu z.E Za ld rfl (kr0 rfl)) (qsP (v:=(ptr (sb v2_1) (so v2_1 + (s29.2).toNat * 1))) ?_ (qsP (v:=(vB x37)) ?_ (qsP (fun z=>Zu z.E Za ld rfl (kr0 rfl)) (qsP (fun z=>Zu z.E Za ld rfl (kr0 rfl)) (qsP (v:=(ptr (sb u8) (so u8 + (s29.2).toNat * 1))) ?_ (qsP (v:=(vB x40)) ?_ (qsP (v:=(vB (x37 ^^^ x40))) (fun z=>Yt z.E Za ld rfl rfl (Vu x37 x40) (kr0 rfl)) (qsM (pr:=fun v=>True) ?_ qs0))))))))))) ?_
    ·intro a w ux36 D z
     have hE:=z.E
     have hM:=z.M
     exact ZL hE rfl rfl Tryz.underlying40 ty5 (hM.rd hv2_1) hi39.1 fun a hE=>⟨Kept.refl _ _,_,rfl,hE⟩
    ·intro a w ux36 D z
     have hE:=z.E
     have hM:=z.M
     exact Zy (v:=(vB x37)) hE rfl ty5 rfl (Y6 (hM.rd hv2_1) hi39.2) fun a hE=>⟨Kept.refl _ _,_,rfl,hE⟩
    ·intro a w ux36 D z
     have hE:=z.E
     have hM:=z.M
     exact ZL hE rfl rfl Tryz.underlying40 ty5 (hM.sl (pre:=[]) noB) hi42.1 fun a hE=>⟨Kept.refl _ _,_,rfl,hE⟩
    ·intro a w ux36 D z
     have hE:=z.E
     have hM:=z.M
     exact Zy (v:=(vB x40)) hE rfl ty5 rfl (Y6 (hM.sl (pre:=[]) noB) hi42.2) fun a hE=>⟨Kept.refl _ _,_,rfl,hE⟩
    ·intro a w ux36 D z
     have hE:=z.E
     have hD : D 10 = false:=z.F
     have hM:=z.M
     exact ZW (xs:=[.tmp 38]) (l:=([x37 ^^^ x40] : List UInt8)) (vs:=[(vB (x37 ^^^ x40))]) hE hM Za ld rfl rfl Tryz.underlying40 ty5 rfl (by decide) rfl fun u43 w a hM hE=>⟨_,_,rfl,hE,M.qFill (mk1:=[]) (mk2:=[]) (f:=(fun v=>osl NoB (([x37 ^^^ x40] : List UInt8) : List UInt8) v)) hM rfl hD,trivial⟩
    ·intro a w ux36 D hE hM hG hall
     have d10:=hall 10 (by decide)
     have hM:=hM.sure (pre:=[_,_]) d10
     obtain ⟨l45,e46,hs32⟩:=bind_some hs32
     obtain ⟨e49,rfl⟩:=Z8 e46
     have hM:=hM.pull1
     refine ZY hE hM Za ld rfl rfl (hM.sl (pre:=[_,_]) noB) Tryz.underlying40 ty5 rfl (by decide) e49 fun u47 w a hM hE=>Zc hE rfl fun a hE=>Zg (Yb (Zt (wp_region_lit (Zd hE rfl fun a hE=>Zh hE rfl rfl rfl fun a hE=>Zc hE rfl fun a hE=>Zg (Zk ?_)))))
     have hM:=M.fst (l:=[_,_]) hM.pull1
     exact ⟨_,(ois hs32),u47,hE.sub ⟨rfl,rfl,rfl,rfl,trivial⟩,hM⟩
   ·intro hb35
    have hs32:=Zx hs32 hb35
    refine wp_exit (Zn (Zn (Yd ?_)))
    obtain rfl:=hx33 _ (ois hs32)
    refine Zk ?_
    have hM:=M.fst (l:=[_]) hM.pull1
    exact ⟨u30,hE.sub ⟨rfl,trivial⟩,hM⟩
  ·skip
   rintro a w ⟨u27,hE,hM⟩
   refine Zt (Zb (Zd hE rfl fun a hE=>Zc hE rfl fun a hE=>Ze ?_))
   obtain rfl:=Option.some.inj hF26
   exact wp_ret (ZJ hE rfl (ZP hE rfl) ⟨_,rfl,u27,rfl,hM.outF (Yi YO),hM.kept⟩)
def V6 (p0 : GVault) (p1 : Int) : Option ((List UInt8) × Int) :=
 (QI p0).bind fun r3=>if (!r3) = true then (some ([],1)) else ((VF p0 p1).bind fun r7=>if (decide (r7 < 0)) = true then (some ([],4)) else (((idx p0.Records r7).bind fun x15=>(V9 p0 x15).bind fun r25=>(idx p0.Records r7).bind fun x27=>some (!decide (r25 = x27.Tag)) : Option (Bool)).bind fun j11=>if j11 = true then (some ([],5)) else (((idx p0.Records r7).bind fun x46=>(idx p0.Records r7).bind fun x56=>(X8 p0 x46 x56.Body).bind fun r66=>some (r66,0) : Option ((List UInt8) × Int)).bind fun j40=>some (j40.1,j40.2))))
theorem BG (w0 : World) (p0 : GVault) (v0_1 : Value) (hv0_1 : Ro w0 p0.Keys [v0_1]) (v0_2 : Value) (hv0_2 : Ro w0 p0.Records [v0_2]) (v0_3 : Value) (hv0_3 : Ro w0 p0.Events [v0_3]) (p1 : Int) (r : (List UInt8) × Int) (hF : V6 p0 p1 = some r) :
  Calls Tryz.prog 107 [(Value.agg (cat [[v0_1],[vI p0.Next],[v0_2],[v0_3],enc p0.Head]).toArray),vI p1].toArray w0 (fun en w'=>∃ v,en = .returned v ∧ (∃ (y1 : Value),v = (Value.tuple [y1,vI r.2].toArray) ∧ Fr w0 w' [osl NoB (r.1 : List UInt8) y1] ∧ Kept (Old w0) w0 w')):=by
 refine ce Tryz.func107 ?_
 intro a hE
 have hM:=M.start w0
 unfold V6 at hF
 refine Zb (ZK (cs:=cat [[v0_1],[vI p0.Next],[v0_2],[v0_3],enc p0.Head]) hE hM Za ld rfl rfl fun b1 w a hM hE=>Zc hE rfl fun a hE=>Zc hE rfl fun a hE=>Ze (wp_seq (Zb (Zm hE rfl Yn rfl hM.rawAt0 cq ?_)))); intro a hE
 obtain ⟨r3,e4,hF⟩:=bind_some hF
 refine Zv hE rfl (cbm Tryz.func79) (jl _ p0 v0_1 (hM.rdo hv0_1) v0_2 (hM.rdo hv0_2) v0_3 (hM.rdo hv0_3) r3 e4) ?_
 rintro v w a ⟨rfl,hK⟩ hE
 have hM:=hM.keep hK
 refine QO hE rfl fun a hE=>Ze ?_
 refine Zo hE rfl ?_ ?_
 ·intro hb5
  have hF:=Zw hF hb5
  refine Zb (Zc hE rfl fun a hE=>Zc hE rfl fun a hE=>Ze ?_)
  have hM:=M.nilS (α:=UInt8) NoB noB hM
  obtain rfl:=Option.some.inj hF
  have hM:=M.fst (l:=[_]) hM
  exact wp_ret (Zs (Th hE rfl (ZP hE rfl) (ZP hE rfl) ⟨_,rfl,(Value.slice none 0 0),rfl,hM.outF (Yi YO),hM.kept⟩))
 ·intro hb5
  have hF:=Zx hF hb5
  refine wp_skip (Zt (Zb (Zm hE rfl Yn rfl hM.rawAt0 cq fun a hE=>Zd hE rfl ?_))); intro a hE
  obtain ⟨r7,e8,hF⟩:=bind_some hF
  refine Zv hE rfl (cbm Tryz.func80) (Jl _ p0 v0_1 (hM.rdo hv0_1) v0_2 (hM.rdo hv0_2) v0_3 (hM.rdo hv0_3) p1 r7 e8) ?_
  rintro v w a ⟨rfl,hK⟩ hE
  have hM:=hM.keep hK
  refine Zc hE rfl fun a hE=>Ze (wp_seq (Zb (Zd hE rfl fun a hE=>Zh hE rfl rfl rfl fun a hE=>Ze ?_)))
  refine Zo hE rfl ?_ ?_
  ·intro hb9
   have hF:=Zw hF hb9
   refine Zb (Zc hE rfl fun a hE=>Zc hE rfl fun a hE=>Ze ?_)
   have hM:=M.nilS (α:=UInt8) NoB noB hM
   obtain rfl:=Option.some.inj hF
   have hM:=M.fst (l:=[_]) hM
   exact wp_ret (Zs (Th hE rfl (ZP hE rfl) (ZP hE rfl) ⟨_,rfl,(Value.slice none 0 0),rfl,hM.outF (Yi YO),hM.kept⟩))
  ·intro hb9
   have hF:=Zx hF hb9
   refine wp_skip (Zt (wp_seq ?_))
   obtain ⟨j11,hl12,hF13⟩:=bind_some hF
   refine ZO (fun a w=>Env 42 a [(2,(ptr b1 0)),(6,vI r7),(28,vT j11)] ∧ M (Old w0) w0 w [raw b1 (cat [[v0_1],[vI p0.Next],[v0_2],[v0_3],enc p0.Head])]) ?_ ?_
   ·skip
    obtain ⟨x15,hi17,hl12⟩:=bix hl12
    obtain ⟨cs18,hs19,hA20⟩:=Xj hv0_2 hi17.2 -- ^
    obtain ⟨u21,u23,rfl,h22,h24⟩:=Yp hs19 -- ^
    obtain ⟨r25,e26,hl12⟩:=bind_some hl12
    obtain ⟨x27,hi29,hl12⟩:=bix hl12
    obtain ⟨cs30,hs31,hA32⟩:=Xj hv0_2 hi29.2 -- ^
    obtain ⟨u33,u35,rfl,h34,h36⟩:=Yp hs31 -- ^
    refine Z9 [15,16,17,18,19,20,21,22,23,24,25,26,27,28] YF rfl rfl (by decide) rfl hE hM (qsP (fun z=>ZX z.E Za ld rfl Yn rfl (z.M.rawAt0) cq (kr0 rfl)) (qsP (fun z=>Zj z.E Za ld rfl (Y2) (kr0 rfl)) (qsP (fun z=>ZN (v:=v0_2) z.E Za ld rfl Tr rfl (At.cat (pre:=[[v0_1],[vI p0.Next]]) (z.M.rawAt0) ck) (kr0 rfl)) (qsP (fun z=>Zu z.E Za ld rfl (kr0 rfl)) (qsP (fun z=>YR z.E Za ld rfl rfl Tryz.underlying55 ZV (z.M.rd hv0_2) hi17.1 (kr0 rfl)) (qsP (fun z=>ZX z.E Za ld rfl ZV rfl (z.M.atk hA20 (Wu hv0_2 hi17.2)) cq (kr0 rfl)) (qsP (fun z=>Z0 z.E Za ld rfl (cbm Tryz.func102) (Hl _ p0 v0_1 (z.M.rdo hv0_1) v0_2 (z.M.rdo hv0_2) v0_3 (z.M.rdo hv0_3) x15 u21 (z.M.rdo h22) u23 (z.M.rdo h24) r25 e26) (kc rfl)) (qsP (fun z=>Zj z.E Za ld rfl (Y2) (kr0 rfl)) (qsP (fun z=>ZN (v:=v0_2) z.E Za ld rfl Tr rfl (At.cat (pre:=[[v0_1],[vI p0.Next]]) (z.M.rawAt0) ck) (kr0 rfl)) (qsP (fun z=>Zu z.E Za ld rfl (kr0 rfl)) (qsP (fun z=>YR z.E Za ld rfl rfl Tryz.underlying55 ZV (z.M.rd hv0_2) hi29.1 (kr0 rfl)) (qsP (fun z=>Zj z.E Za ld rfl (Qg) (kr0 rfl)) (qsP (fun z=>ZX z.E Za ld rfl Ye rfl (At.cat (pre:=[[vI x27.Number],[vI x27.Version],enc x27.Nonce,[u33],[u35]]) (z.M.atk hA32 (Wu hv0_2 hi29.2)) ck) (Flat.len _) (kr0 rfl)) (qsP (fun z=>Zcr z.E Za ld rfl rfl (J2 Tryz.underlying35 ty5 rfl false rfl (by decide) (KW Tryz.underlying5)) (by decide) (by kernel_rfl) (kr0 rfl)) qs0)))))))))))))) ?_
    ·intro a w u hE hM
     refine Zg ?_
     obtain rfl:=Option.some.inj hl12
     refine Zk ?_
     exact ⟨hE.sub ⟨rfl,rfl,rfl,trivial⟩,hM⟩
   ·skip
    rintro a w ⟨hE,hM⟩
    refine Zo hE rfl ?_ ?_
    ·intro hb38
     have hF13:=Zw hF13 hb38
     refine Zb (Zc hE rfl fun a hE=>Zc hE rfl fun a hE=>Ze ?_)
     have hM:=M.nilS (α:=UInt8) NoB noB hM
     obtain rfl:=Option.some.inj hF13
     have hM:=M.fst (l:=[_]) hM
     exact wp_ret (Zs (Th hE rfl (ZP hE rfl) (ZP hE rfl) ⟨_,rfl,(Value.slice none 0 0),rfl,hM.outF (Yi YO),hM.kept⟩))
    ·intro hb38
     have hF13:=Zx hF13 hb38
     refine wp_skip (Zt ?_)
     obtain ⟨j40,hl41,hF42⟩:=bind_some hF13
     refine ZO (fun a w=>∃ (u43 : Value),Env 42 a [(4,u43),(5,vI j40.2)] ∧ M (Old w0) w0 w [osl NoB (j40.1 : List UInt8) u43]) ?_ ?_
     ·skip
      obtain ⟨x46,hi48,hl41⟩:=bix hl41
      obtain ⟨cs49,hs50,hA51⟩:=Xj hv0_2 hi48.2 -- ^
      obtain ⟨u52,u54,rfl,h53,h55⟩:=Yp hs50 -- ^
      obtain ⟨x56,hi58,hl41⟩:=bix hl41
      obtain ⟨cs59,hs60,hA61⟩:=Xj hv0_2 hi58.2 -- ^
      obtain ⟨u62,u64,rfl,h63,h65⟩:=Yp hs60 -- ^
      refine Z9 [29,30,31,32,33,34,35,36,37,38,39,40] YF rfl rfl (by decide) rfl hE hM (qsP (fun z=>ZX z.E Za ld rfl Yn rfl (z.M.rawAt0) cq (kr0 rfl)) (qsP (fun z=>Zj z.E Za ld rfl (Y2) (kr0 rfl)) (qsP (fun z=>ZN (v:=v0_2) z.E Za ld rfl Tr rfl (At.cat (pre:=[[v0_1],[vI p0.Next]]) (z.M.rawAt0) ck) (kr0 rfl)) (qsP (fun z=>Zu z.E Za ld rfl (kr0 rfl)) (qsP (fun z=>YR z.E Za ld rfl rfl Tryz.underlying55 ZV (z.M.rd hv0_2) hi48.1 (kr0 rfl)) (qsP (fun z=>ZX z.E Za ld rfl ZV rfl (z.M.atk hA51 (Wu hv0_2 hi48.2)) cq (kr0 rfl)) (qsP (fun z=>Zj z.E Za ld rfl (Y2) (kr0 rfl)) (qsP (fun z=>ZN (v:=v0_2) z.E Za ld rfl Tr rfl (At.cat (pre:=[[v0_1],[vI p0.Next]]) (z.M.rawAt0) ck) (kr0 rfl)) (qsP (fun z=>Zu z.E Za ld rfl (kr0 rfl)) (qsP (fun z=>YR z.E Za ld rfl rfl Tryz.underlying55 ZV (z.M.rd hv0_2) hi58.1 (kr0 rfl)) (qsP (fun z=>Zj z.E Za ld rfl (V1) (kr0 rfl)) (qsP (fun z=>ZN (v:=u64) z.E Za ld rfl Wh rfl (At.cat (pre:=[[vI x56.Number],[vI x56.Version],enc x56.Nonce,[u62]]) (z.M.atk hA61 (Wu hv0_2 hi58.2)) ck) (kr0 rfl)) qs0)))))))))))) ?_
      ·intro a w u hE hM
       obtain ⟨r66,e67,hl41⟩:=bind_some hl41
       refine Zv hE rfl (cbm Tryz.func101) (KS _ p0 v0_1 (hM.rdo hv0_1) v0_2 (hM.rdo hv0_2) v0_3 (hM.rdo hv0_3) x46 u52 (hM.rdo h53) u54 (hM.rdo h55) x56.Body u64 (hM.rdo h65) r66 e67) ?_
       rintro u68 w a ⟨_,rfl,hFr,hK⟩ hE
       have hM:=hM.add hK hFr
       refine Zc hE rfl fun a hE=>Zc hE rfl fun a hE=>Zg ?_
       obtain rfl:=Option.some.inj hl41
       refine Zk ?_
       have hM:=M.fst (l:=[_]) hM
       exact ⟨u68,hE.sub ⟨rfl,rfl,trivial⟩,hM⟩
     ·skip
      rintro a w ⟨u43,hE,hM⟩
      obtain rfl:=Option.some.inj hF42
      exact wp_ret (Th hE rfl (ZP hE rfl) (ZP hE rfl) ⟨_,rfl,u43,rfl,hM.outF (Yi YO),hM.kept⟩)
def U9 (p0 : GVault) (p1 : (Vector UInt8 16)) (s9 : Int) : Option (Fl Int (Fl Unit Bool)) :=
 if (decide (s9 < (p0.Records.length : Int))) = true then (((idx p0.Records s9).bind fun x18=>if (x18.Version == (wr ((p0.Keys.length : Int) - 1))) = true then ((idx p0.Records s9).bind fun x29=>some (decide (x29.Nonce = p1))) else (some false) : Option (Bool)).bind fun j14=>if j14 = true then (some (Fl.ex (Fl.ex true))) else (some (Fl.nx (wr (s9 + 1))))) else (some (Fl.ex (Fl.nx ())))
def Tx (p0 : GVault) (p1 : (Vector UInt8 16)) : Option (Bool) :=
 (ZB (U9 p0 p1) 0).bind fun j5=>j5.el (fun s8=>some false) (fun r=>some r)
theorem zg (w0 : World) (p0 : GVault) (v0_1 : Value) (hv0_1 : Ro w0 p0.Keys [v0_1]) (v0_2 : Value) (hv0_2 : Ro w0 p0.Records [v0_2]) (v0_3 : Value) (hv0_3 : Ro w0 p0.Events [v0_3]) (p1 : (Vector UInt8 16)) (r : Bool) (hF : Tx p0 p1 = some r) :
  Calls Tryz.prog 100 [(Value.agg (cat [[v0_1],[vI p0.Next],[v0_2],[v0_3],enc p0.Head]).toArray),(Value.agg (enc p1).toArray)].toArray w0 (Rt w0 (vT r)):=by
 refine ce Tryz.func100 ?_
 intro a hE
 have hM:=M.start w0
 unfold Tx at hF
 refine Zb (ZK (cs:=cat [[v0_1],[vI p0.Next],[v0_2],[v0_3],enc p0.Head]) hE hM Za ld rfl rfl fun b1 w a hM hE=>ZK (cs:=enc p1) hE hM Za ld rfl rfl fun b3 w a hM hE=>Zc hE rfl fun a hE=>Ze (wp_seq (Zb (Zc hE rfl fun a hE=>Ze ?_))))
 obtain ⟨j5,hl6,hF7⟩:=bind_some hF
 refine ZM (fun a w=>∃ s8 : Unit,j5 = Fl.nx s8 ∧ Env 34 a [] ∧ M (Old w0) w0 w []) ?_ ?_
 ·skip
  refine wp_block ?_
  refine ZE (fun (s9 : Int) a w=>Env 34 a [(2,(ptr b1 0)),(3,(ptr b3 0)),(5,vI s9)] ∧ M (Old w0) w0 w [raw b3 (enc p1),raw b1 (cat [[v0_1],[vI p0.Next],[v0_2],[v0_3],enc p0.Head])]) hl6 ⟨hE.sub ⟨rfl,rfl,rfl,trivial⟩,hM⟩ ?_
  rintro s9 a w ⟨hE,hM⟩ o12 hs10 hx11
  unfold U9 at hs10
  refine wp_seq (Zb (Zd hE rfl fun a hE=>Zf hE rfl (Y2) fun a hE=>Zy (v:=v0_2) hE rfl Tr rfl (At.cat (pre:=[[v0_1],[vI p0.Next]]) hM.rawAt1 ck) fun a hE=>Yf hE rfl Tryz.underlying55 (hM.rd hv0_2) fun a hE=>Zh hE rfl rfl rfl fun a hE=>Ze ?_))
  refine Zo hE rfl ?_ ?_
  ·intro hb13
   have hs10:=Zw hs10 hb13
   refine wp_skip (Zt (wp_seq (wp_block ?_)))
   obtain ⟨j14,hl15,hF16⟩:=bind_some hs10
   refine ZO (fun a w=>Env 34 a [(2,(ptr b1 0)),(3,(ptr b3 0)),(5,vI s9),(33,vT j14)] ∧ M (Old w0) w0 w [raw b3 (enc p1),raw b1 (cat [[v0_1],[vI p0.Next],[v0_2],[v0_3],enc p0.Head])]) ?_ ?_
   ·skip
    obtain ⟨x18,hi20,hl15⟩:=bix hl15
    obtain ⟨cs21,hs22,hA23⟩:=Xj hv0_2 hi20.2 -- ^
    obtain ⟨u24,u26,rfl,h25,h27⟩:=Yp hs22 -- ^
    refine X1 (x18.Version == (wr ((p0.Keys.length : Int) - 1))) (fun hb28=>?_) (fun hb28=>?_)
    ·have hl15:=Zw hl15 hb28
     obtain ⟨x29,hi31,hl15⟩:=bix hl15
     obtain ⟨cs32,hs33,hA34⟩:=Xj hv0_2 hi31.2 -- ^
     obtain ⟨u35,u37,rfl,h36,h38⟩:=Yp hs33 -- ^
     refine Z9 [13,14,15,16,17,18,19,20,21,22,23,24,25,26,27,28,29,30,31,32,33] YF rfl rfl (by decide) rfl hE hM (qsP (fun z=>Zj z.E Za ld rfl (Y2) (kr0 rfl)) (qsP (fun z=>ZN (v:=v0_2) z.E Za ld rfl Tr rfl (At.cat (pre:=[[v0_1],[vI p0.Next]]) (z.M.rawAt1) ck) (kr0 rfl)) (qsP (fun z=>Zu z.E Za ld rfl (kr0 rfl)) (qsP (fun z=>YR z.E Za ld rfl rfl Tryz.underlying55 ZV (z.M.rd hv0_2) hi20.1 (kr0 rfl)) (qsP (fun z=>Zj z.E Za ld rfl (WE) (kr0 rfl)) (qsP (fun z=>ZN (v:=(vI x18.Version)) z.E Za ld rfl ty2 rfl (At.cat (pre:=[[vI x18.Number]]) (z.M.atk hA23 (Wu hv0_2 hi20.2)) ck) (kr0 rfl)) (qsP (fun z=>Zj z.E Za ld rfl (WZ) (kr0 rfl)) (qsP (fun z=>ZN (v:=v0_1) z.E Za ld rfl Q7 rfl (At.cat (pre:=[]) (z.M.rawAt1) cl0) (kr0 rfl)) (qsP (fun z=>Kx z.E Za ld rfl Tryz.underlying54 (z.M.rd hv0_1) (kr0 rfl)) (qsP (v:=(vI (wr ((p0.Keys.length : Int) - 1)))) (fun z=>Yt z.E Za ld rfl rfl rfl (kr0 rfl)) (qsP (fun z=>Yt z.E Za ld rfl rfl rfl (kr0 rfl)) (qsP (fun z=>Zu z.E Za ld rfl (kr0 rfl)) (qsP (fun z=>Zj z.E (Zq z.E rfl (lkb rfl hb28)) (by decide) rfl (Y2) (kr0 rfl)) (qsP (fun z=>ZN (v:=v0_2) z.E (Zq z.E rfl (lkb rfl hb28)) (by decide) rfl Tr rfl (At.cat (pre:=[[v0_1],[vI p0.Next]]) (z.M.rawAt1) ck) (kr0 rfl)) (qsP (fun z=>Zu z.E (Zq z.E rfl (lkb rfl hb28)) (by decide) rfl (kr0 rfl)) (qsP (fun z=>YR z.E (Zq z.E rfl (lkb rfl hb28)) (by decide) rfl rfl Tryz.underlying55 ZV (z.M.rd hv0_2) hi31.1 (kr0 rfl)) (qsP (fun z=>Zj z.E (Zq z.E rfl (lkb rfl hb28)) (by decide) rfl (Qf) (kr0 rfl)) (qsP (fun z=>ZX z.E (Zq z.E rfl (lkb rfl hb28)) (by decide) rfl ZC rfl (At.cat (pre:=[[vI x29.Number],[vI x29.Version]]) (z.M.atk hA34 (Wu hv0_2 hi31.2)) ck) (Flat.len _) (kr0 rfl)) (qsP (fun z=>ZX z.E (Zq z.E rfl (lkb rfl hb28)) (by decide) rfl ZC rfl (z.M.rawAt0) (Flat.len _) (kr0 rfl)) (qsP (fun z=>s_eqA z.E (Zq z.E rfl (lkb rfl hb28)) (by decide) rfl rfl (J2 Tryz.underlying68 ty5 rfl false rfl (by decide) (KW Tryz.underlying5)) (by decide) (by kernel_rfl) (kr0 rfl)) (qsP (fun z=>Kh z.E Za ld (lkb rfl hb28) rfl (kr0 rfl)) qs0))))))))))))))))))))) ?_
     ·intro a w u hE hM
      refine Zg ?_
      obtain rfl:=Option.some.inj hl15
      refine Zk ?_
      exact ⟨hE.sub ⟨rfl,rfl,rfl,rfl,trivial⟩,hM⟩
    ·have hl15:=Zx hl15 hb28
     refine Z9 [13,14,15,16,17,18,19,20,21,22,23,24,25,26,27,28,29,30,31,32,33] YF rfl rfl (by decide) rfl hE hM (qsP (fun z=>Zj z.E Za ld rfl (Y2) (kr0 rfl)) (qsP (fun z=>ZN (v:=v0_2) z.E Za ld rfl Tr rfl (At.cat (pre:=[[v0_1],[vI p0.Next]]) (z.M.rawAt1) ck) (kr0 rfl)) (qsP (fun z=>Zu z.E Za ld rfl (kr0 rfl)) (qsP (fun z=>YR z.E Za ld rfl rfl Tryz.underlying55 ZV (z.M.rd hv0_2) hi20.1 (kr0 rfl)) (qsP (fun z=>Zj z.E Za ld rfl (WE) (kr0 rfl)) (qsP (fun z=>ZN (v:=(vI x18.Version)) z.E Za ld rfl ty2 rfl (At.cat (pre:=[[vI x18.Number]]) (z.M.atk hA23 (Wu hv0_2 hi20.2)) ck) (kr0 rfl)) (qsP (fun z=>Zj z.E Za ld rfl (WZ) (kr0 rfl)) (qsP (fun z=>ZN (v:=v0_1) z.E Za ld rfl Q7 rfl (At.cat (pre:=[]) (z.M.rawAt1) cl0) (kr0 rfl)) (qsP (fun z=>Kx z.E Za ld rfl Tryz.underlying54 (z.M.rd hv0_1) (kr0 rfl)) (qsP (v:=(vI (wr ((p0.Keys.length : Int) - 1)))) (fun z=>Yt z.E Za ld rfl rfl rfl (kr0 rfl)) (qsP (fun z=>Yt z.E Za ld rfl rfl rfl (kr0 rfl)) (qsP (fun z=>Zu z.E Za ld rfl (kr0 rfl)) (qsP (fun z=>Zr z.E rfl (lkb rfl hb28) rfl (by decide) (kr0 rfl)) (qsP (fun z=>Zr z.E rfl (lkb rfl hb28) rfl (by decide) (kr0 rfl)) (qsP (fun z=>Zr z.E rfl (lkb rfl hb28) rfl (by decide) (kr0 rfl)) (qsP (fun z=>Zr z.E rfl (lkb rfl hb28) rfl (by decide) (kr0 rfl)) (qsP (fun z=>Zr z.E rfl (lkb rfl hb28) rfl (by decide) (kr0 rfl)) (qsP (fun z=>Zr z.E rfl (lkb rfl hb28) rfl (by decide) (kr0 rfl)) (qsP (fun z=>Zr z.E rfl (lkb rfl hb28) rfl (by decide) (kr0 rfl)) (qsP (fun z=>Zr z.E rfl (lkb rfl hb28) rfl (by decide) (kr0 rfl)) (qsP (fun z=>QY z.E Za ld (lkb rfl hb28) rfl (kr0 rfl)) qs0))))))))))))))))))))) ?_
     ·intro a w u hE hM
      refine Zg ?_
      obtain rfl:=Option.some.inj hl15
      refine Zk ?_
      exact ⟨hE.sub ⟨rfl,rfl,rfl,rfl,trivial⟩,hM⟩
   ·skip
    rintro a w ⟨hE,hM⟩
    refine Zo hE rfl ?_ ?_
    ·intro hb41
     have hF16:=Zw hF16 hb41
     refine Zb (Zc hE rfl fun a hE=>Ze ?_)
     obtain rfl:=hx11 _ (ois hF16)
     obtain rfl:=Option.some.inj hF7
     exact wp_ret (Yr (Zs (Zs (Yr (Zs (Zs (kr1 hE rfl rfl hM.kept)))))))
    ·intro hb41
     have hF16:=Zx hF16 hb41
     refine wp_skip (Yb (Zt (wp_region_lit (Zd hE rfl fun a hE=>Zh hE rfl rfl rfl fun a hE=>Zc hE rfl fun a hE=>Zg (Zk ?_)))))
     exact ⟨_,(ois hF16),hE.sub ⟨rfl,rfl,rfl,trivial⟩,hM⟩
  ·intro hb13
   have hs10:=Zx hs10 hb13
   refine wp_exit (Zn (Zn (Yd ?_)))
   obtain rfl:=hx11 _ (ois hs10)
   refine Zk ?_
   have hM:=M.fst (l:=[]) hM
   exact ⟨(),rfl,hE.sub trivial,hM⟩
 ·skip
  rintro a w ⟨s8,ht,hE,hM⟩
  subst ht
  have hF7:=TG hF7
  refine Zt (Zb (Zc hE rfl fun a hE=>Ze ?_))
  obtain rfl:=Option.some.inj hF7
  exact wp_ret (kr1 hE rfl rfl hM.kept)
def TF (p0 : GVault) (s29 : (List GRecord) × Int) : Option (Fl ((List GRecord) × Int) (List GRecord)) :=
 if (decide (s29.2 < (p0.Records.length : Int))) = true then ((idx p0.Records s29.2).bind fun x37=>(Xs x37.Label).bind fun r49=>(Xs x37.Body).bind fun r52=>(app 112 s29.1 ([(⟨x37.Number,x37.Version,x37.Nonce,r49,r52,x37.Tag⟩ : GRecord)] : List GRecord)).bind fun l57=>some (Fl.nx ((s29.1 ++ ([(⟨x37.Number,x37.Version,x37.Nonce,r49,r52,x37.Tag⟩ : GRecord)] : List GRecord)),wr (s29.2 + 1)))) else (some (Fl.ex s29.1))
def T7 (p0 : GVault) : Option (GVault) :=
 (app 16 ([] : List (Vector UInt8 16)) p0.Keys).bind fun l8=>(app 48 ([] : List GEvent) p0.Events).bind fun l15=>(ZB (TF p0) ([],0)).bind fun j24=>some (⟨(([] : List (Vector UInt8 16)) ++ p0.Keys),p0.Next,j24,(([] : List GEvent) ++ p0.Events),p0.Head⟩ : GVault)
theorem yq (w0 : World) (p0 : GVault) (v0_1 : Value) (hv0_1 : Ro w0 p0.Keys [v0_1]) (v0_2 : Value) (hv0_2 : Ro w0 p0.Records [v0_2]) (v0_3 : Value) (hv0_3 : Ro w0 p0.Events [v0_3]) (r : GVault) (hF : T7 p0 = some r) :
  Calls Tryz.prog 81 [(Value.agg (cat [[v0_1],[vI p0.Next],[v0_2],[v0_3],enc p0.Head]).toArray)].toArray w0 (fun en w'=>∃ v,en = .returned v ∧ (∃ (y1 : Value) (y2 : Value) (y3 : Value),v = (Value.agg (cat [[y1],[vI r.Next],[y2],[y3],enc r.Head]).toArray) ∧ Fr w0 w' [osl NoB (r.Keys : List (Vector UInt8 16)) y1,osl NoB (r.Records : List GRecord) y2,osl NoB (r.Events : List GEvent) y3] ∧ Kept (Old w0) w0 w')):=by
 refine ce Tryz.func81 ?_
 intro a hE
 have hM:=M.start w0
 unfold T7 at hF
 refine Zb (ZK (cs:=cat [[v0_1],[vI p0.Next],[v0_2],[v0_3],enc p0.Head]) hE hM Za ld rfl rfl fun b1 w a hM hE=>Zz hE hM Yn fun b3 w a hM hE=>Ze (wp_seq ?_))
 obtain ⟨l8,e9,hF⟩:=bind_some hF
 obtain ⟨l15,e16,hF⟩:=bind_some hF
 refine YC (its:=[raw b3 (cat [[(Value.slice none 0 0)],[vI 0],[(Value.slice none 0 0)],[(Value.slice none 0 0)],enc (Vector.replicate 32 (0 : UInt8))]),raw b1 (cat [[v0_1],[vI p0.Next],[v0_2],[v0_3],enc p0.Head])]) (mk:=([mkN [(3,fun v=>osl NoB ((([] : List (Vector UInt8 16)) ++ p0.Keys) : List (Vector UInt8 16)) v),(0,fun v=>osl NoB (([] : List (Vector UInt8 16)) : List (Vector UInt8 16)) v)],mkN [(9,fun v=>osl NoB ((([] : List GEvent) ++ p0.Events) : List GEvent) v),(6,fun v=>osl NoB (([] : List GEvent) : List GEvent) v)],mkO 13 (fun v=>Wy v (cat [[(Value.slice none 0 0)],[vI 0],[(Value.slice none 0 0)],[(Value.slice none 0 0)],enc (Vector.replicate 32 (0 : UInt8))]))] : Mk)) [6,7,8,9,10,11,12,13,14,15,16,17,18,3] YF rfl rfl (by decide) rfl hE (fun u=>M.qE (M.qE (M.qE (M.q0 hM.drew u) emO) emN) emN) (qsM (pr:=fun v=>True) ?_ (qsP (fun z=>Zj z.E Za ld rfl (WZ) (kr0 rfl)) (qsP (v:=v0_1) ?_ (qsM (pr:=fun v=>True) ?_ (qsP (fun z=>Zj z.E Za ld rfl (Ky) (kr0 rfl)) (qsP (v:=(vI p0.Next)) ?_ (qsM (pr:=fun v=>True) ?_ (qsP (fun z=>Zj z.E Za ld rfl (Us) (kr0 rfl)) (qsP (v:=v0_3) ?_ (qsM (pr:=fun v=>True) ?_ (qsP (fun z=>Zj z.E Za ld rfl (HF) (kr0 rfl)) (qsP (v:=(Value.agg (enc p0.Head).toArray)) ?_ (qsD (ds:=[3,9]) (f:=fun us=>(Value.agg (cat [[(us.getD 0 undef)],[vI p0.Next],[(Value.slice none 0 0)],[(us.getD 1 undef)],enc p0.Head]).toArray)) ?_ (qsM (pr:=fun v=>True) ?_ qs0)))))))))))))) ?_
 ·intro a w ux5 D z
  have hE:=z.E
  have hD : D 0 = false:=z.F
  have hM:=z.M
  refine ZW (xs:=[]) (l:=([] : List (Vector UInt8 16))) (vs:=[]) hE hM Za ld rfl rfl Tryz.underlying54 ZC rfl (by decide) rfl ?_; intro u6 w a hM hE
  have hq3 : D 3 = false:=Q9 (j:=3) (k:=0) z.c rfl rfl rfl hD
  exact ⟨_,_,rfl,hE,M.qPut (p:=mkN [(3,fun v=>osl NoB ((([] : List (Vector UInt8 16)) ++ p0.Keys) : List (Vector UInt8 16)) v),(0,fun v=>osl NoB (([] : List (Vector UInt8 16)) : List (Vector UInt8 16)) v)]) (its:=[raw b3 (cat [[(Value.slice none 0 0)],[vI 0],[(Value.slice none 0 0)],[(Value.slice none 0 0)],enc (Vector.replicate 32 (0 : UInt8))]),raw b1 (cat [[v0_1],[vI p0.Next],[v0_2],[v0_3],enc p0.Head])]) (mk1:=[]) (mk2:=[_,_]) hM rfl (AS (Au hq3 (Au hD AH))) (JF (l:=[_]) (Au hq3 AH)),trivial⟩
 ·intro a w ux5 D z
  have hE:=z.E
  have hM:=z.M
  exact Zy (v:=v0_1) hE rfl Q7 rfl (At.cat (pre:=[]) hM.rawAt1 cl0) fun a hE=>⟨Kept.refl _ _,_,rfl,hE⟩
 ·intro a w ux5 D z
  have hE:=z.E
  have hD : D 3 = false:=z.F
  have d0 : D 0 = true:=z.p 0 _ rfl rfl
  have hM:=(z.M.chnF (pre:=[_,_]) hD).chnT (pre:=[_,_]) d0
  obtain ⟨e12,rfl⟩:=Z8 e9
  have hM:=hM.pull2
  exact ZY hE hM Za ld rfl rfl (hM.rd hv0_1) Tryz.underlying54 ZC rfl (by decide) e12 fun u10 w a hM hE=>⟨_,_,rfl,hE,M.qTogS (p:=mkN [(3,fun v=>osl NoB ((([] : List (Vector UInt8 16)) ++ p0.Keys) : List (Vector UInt8 16)) v),(0,fun v=>osl NoB (([] : List (Vector UInt8 16)) : List (Vector UInt8 16)) v)]) (its:=[raw b3 (cat [[(Value.slice none 0 0)],[vI 0],[(Value.slice none 0 0)],[(Value.slice none 0 0)],enc (Vector.replicate 32 (0 : UInt8))]),raw b1 (cat [[v0_1],[vI p0.Next],[v0_2],[v0_3],enc p0.Head])]) (mk1:=[]) (mk2:=[_,_]) hM rfl (JF (l:=[]) AH),trivial⟩
 ·intro a w ux5 D z
  have hE:=z.E
  have hM:=z.M
  exact Zy (v:=(vI p0.Next)) hE rfl ty2 rfl (At.cat (pre:=[[v0_1]]) hM.rawAt1 ck) fun a hE=>⟨Kept.refl _ _,_,rfl,hE⟩
 ·intro a w ux5 D z
  have hE:=z.E
  have hD : D 6 = false:=z.F
  have hM:=z.M
  refine ZW (xs:=[]) (l:=([] : List GEvent)) (vs:=[]) hE hM Za ld rfl rfl Tryz.underlying56 Xp rfl (by decide) rfl ?_; intro u13 w a hM hE
  have hq9 : D 9 = false:=Q9 (j:=9) (k:=0) z.c rfl rfl rfl hD
  exact ⟨_,_,rfl,hE,M.qPut (p:=mkN [(9,fun v=>osl NoB ((([] : List GEvent) ++ p0.Events) : List GEvent) v),(6,fun v=>osl NoB (([] : List GEvent) : List GEvent) v)]) (its:=[raw b3 (cat [[(Value.slice none 0 0)],[vI 0],[(Value.slice none 0 0)],[(Value.slice none 0 0)],enc (Vector.replicate 32 (0 : UInt8))]),raw b1 (cat [[v0_1],[vI p0.Next],[v0_2],[v0_3],enc p0.Head])]) (mk1:=[_]) (mk2:=[_]) hM rfl (AS (Au hq9 (Au hD AH))) (JF (l:=[_]) (Au hq9 AH)),trivial⟩
 ·intro a w ux5 D z
  have hE:=z.E
  have hM:=z.M
  exact Zy (v:=v0_3) hE rfl KJ rfl (At.cat (pre:=[[v0_1],[vI p0.Next],[v0_2]]) hM.rawAt1 ck) fun a hE=>⟨Kept.refl _ _,_,rfl,hE⟩
 ·intro a w ux5 D z
  have hE:=z.E
  have hD : D 9 = false:=z.F
  have d6 : D 6 = true:=z.p 0 _ rfl rfl
  have hM:=(z.M.chnF (pre:=[_,_,_]) hD).chnT (pre:=[_,_,_]) d6
  obtain ⟨e19,rfl⟩:=Z8 e16
  have hM:=hM.pull3
  exact ZY hE hM Za ld rfl rfl (hM.rd hv0_3) Tryz.underlying56 Xp rfl (by decide) e19 fun u17 w a hM hE=>⟨_,_,rfl,hE,M.qTogS (p:=mkN [(9,fun v=>osl NoB ((([] : List GEvent) ++ p0.Events) : List GEvent) v),(6,fun v=>osl NoB (([] : List GEvent) : List GEvent) v)]) (its:=[raw b3 (cat [[(Value.slice none 0 0)],[vI 0],[(Value.slice none 0 0)],[(Value.slice none 0 0)],enc (Vector.replicate 32 (0 : UInt8))]),raw b1 (cat [[v0_1],[vI p0.Next],[v0_2],[v0_3],enc p0.Head])]) (mk1:=[_]) (mk2:=[_]) hM rfl (JF (l:=[]) AH),trivial⟩
 ·intro a w ux5 D z
  have hE:=z.E
  have hM:=z.M
  exact Zm hE rfl Ye rfl (At.cat (pre:=[[v0_1],[vI p0.Next],[v0_2],[v0_3]]) hM.rawAt1 ck) (Flat.len _) fun a hE=>⟨Kept.refl _ _,_,rfl,hE⟩
 ·intro a w ux5 D z
  have hE:=z.E
  have d3 : D 3 = true:=z.p 0 _ rfl rfl
  have d9 : D 9 = true:=z.p 2 _ rfl rfl
  have hM:=(z.M.chnT (pre:=[_,_]) d3).chnT (pre:=[_,_,_]) d9
  exact XG (parts:=[(0,.tmp 9),(1,.tmp 11),(3,.tmp 15),(4,.tmp 17)]) (vs:=[(0,(ux5 3)),(1,vI p0.Next),(3,(ux5 9)),(4,(Value.agg (enc p0.Head).toArray))]) (cs:=cat [[(ux5 3)],[vI p0.Next],[(Value.slice none 0 0)],[(ux5 9)],enc p0.Head]) hE Za ld rfl rfl Yn kh (Yl (pre:=[]) (seg:=[(Value.slice none 0 0)]) (seg':=[(ux5 3)]) (post:=[[vI 0],[(Value.slice none 0 0)],[(Value.slice none 0 0)],enc (Vector.replicate 32 (0 : UInt8))]) rfl cl0 rfl rfl (Z6 (hM.sl (pre:=[_,_]) noB)) (Yl (pre:=[[(ux5 3)]]) (seg:=[vI 0]) (seg':=[vI p0.Next]) (post:=[[(Value.slice none 0 0)],[(Value.slice none 0 0)],enc (Vector.replicate 32 (0 : UInt8))]) rfl ck rfl rfl rfl (Yl (pre:=[[(ux5 3)],[vI p0.Next],[(Value.slice none 0 0)]]) (seg:=[(Value.slice none 0 0)]) (seg':=[(ux5 9)]) (post:=[enc (Vector.replicate 32 (0 : UInt8))]) rfl ck rfl rfl (Z6 (hM.sl (pre:=[_,_,_]) noB)) (Yl (pre:=[[(ux5 3)],[vI p0.Next],[(Value.slice none 0 0)],[(ux5 9)]]) (seg:=enc (Vector.replicate 32 (0 : UInt8))) (seg':=enc p0.Head) (post:=[]) rfl ck (Flat.len _) (Flat.len _) rfl V3)))) fun a hE=>⟨Kept.refl _ _,(zR d3 (zR d9 jp)),_,rfl,hE⟩
 ·intro a w ux5 D z
  have hE:=z.E
  have hD : D 13 = false:=z.F
  have hM:=z.M
  refine Zz hE hM Yn ?_; intro b20 w a hM hE
  have hM:=hM.pack1 (it:=Wy _ (cat [[(Value.slice none 0 0)],[vI 0],[(Value.slice none 0 0)],[(Value.slice none 0 0)],enc (Vector.replicate 32 (0 : UInt8))])) (fun w w' fp ⟨b',e,k⟩ hb=>⟨b',e,YD w w' fp k hb⟩) (fun fp k=>⟨_,rfl,k⟩)
  exact ⟨_,_,rfl,hE,M.qFill (mk1:=[_,_]) (mk2:=[]) (f:=fun v=>Wy v (cat [[(Value.slice none 0 0)],[vI 0],[(Value.slice none 0 0)],[(Value.slice none 0 0)],enc (Vector.replicate 32 (0 : UInt8))])) hM rfl hD,trivial⟩
 ·intro a w ux5 D hE hM hG hall
  have d3:=hall 3 (by decide)
  have d9:=hall 9 (by decide)
  have d13:=hall 13 (by decide)
  have hM:=(((hM.chnT (pre:=[_,_]) d3).chnT (pre:=[_,_,_]) d9).sure (pre:=[_,_,_,_]) d13).pull
  obtain ⟨_,⟨b22,f23,_⟩,_⟩:=hM.head
  have hM:=hM.pack1 YD (it:=raw b22 (cat [[(Value.slice none 0 0)],[vI 0],[(Value.slice none 0 0)],[(Value.slice none 0 0)],enc (Vector.replicate 32 (0 : UInt8))])) (fun fp ⟨b2,e2,k2⟩=>by rw [f23] at e2; simp [ptr] at e2; subst e2; exact k2)
  have hE:=hE.setq (t:=3) rfl f23
  refine Zl (seg:=cat [[(ux5 3)],[vI p0.Next],[(Value.slice none 0 0)],[(ux5 9)],enc p0.Head]) (cs':=cat [[(ux5 3)],[vI p0.Next],[(Value.slice none 0 0)],[(ux5 9)],enc p0.Head]) hE hM Za rfl rfl rfl Yn cq (Nat.le_of_eq ((Nat.zero_add _).trans (Eq.trans cq (Eq.symm cq)))) (Z1 (cc1 (Rep.cell (hM.sl (pre:=[_,_,_]) noB)) (cc1 (Flat.cell (p0.Next : Int)) (cc1 Wb (cc1 (Rep.cell (hM.sl (pre:=[_,_,_,_]) noB)) (cc1 (Flat.cell _) cc0)))))) (Zi (Eq.trans cq (Eq.symm cq))) fun w a hM hE=>Zg (Zt (wp_seq (Zb (Zc hE rfl fun a hE=>Ze ?_))))
  obtain ⟨j24,hl25,hF26⟩:=bind_some hF
  refine ZM (fun a w=>∃ (u27 : Value),Env 46 a [(2,(ptr b3 0)),(3,(ptr b22 0))] ∧ M (Old w0) w0 w [raw b22 (cat [[(ux5 3)],[vI p0.Next],[u27],[(ux5 9)],enc p0.Head]),raw b3 (cat [[(Value.slice none 0 0)],[vI 0],[(Value.slice none 0 0)],[(Value.slice none 0 0)],enc (Vector.replicate 32 (0 : UInt8))]),osl NoB ((([] : List (Vector UInt8 16)) ++ p0.Keys) : List (Vector UInt8 16)) (ux5 3),osl NoB ((([] : List GEvent) ++ p0.Events) : List GEvent) (ux5 9),osl NoB (j24 : List GRecord) u27]) ?_ ?_
  ·skip
   refine wp_block ?_
   have hM:=(((((M.nilS (α:=GRecord) NoB noB hM).pull5).pull5).pull5).pull5).pull5
   refine ZE (fun (s29 : (List GRecord) × Int) a w=>∃ (u30 : Value),Env 46 a [(1,(ptr b1 0)),(2,(ptr b3 0)),(3,(ptr b22 0)),(4,vI s29.2)] ∧ M (Old w0) w0 w [raw b22 (cat [[(ux5 3)],[vI p0.Next],[u30],[(ux5 9)],enc p0.Head]),raw b3 (cat [[(Value.slice none 0 0)],[vI 0],[(Value.slice none 0 0)],[(Value.slice none 0 0)],enc (Vector.replicate 32 (0 : UInt8))]),raw b1 (cat [[v0_1],[vI p0.Next],[v0_2],[v0_3],enc p0.Head]),osl NoB ((([] : List (Vector UInt8 16)) ++ p0.Keys) : List (Vector UInt8 16)) (ux5 3),osl NoB ((([] : List GEvent) ++ p0.Events) : List GEvent) (ux5 9),osl NoB (s29.1 : List GRecord) u30]) hl25 ⟨(Value.slice none 0 0),hE.sub ⟨rfl,rfl,rfl,rfl,trivial⟩,hM⟩ ?_
   rintro s29 a w ⟨u30,hE,hM⟩ o34 hs32 hx33
   unfold TF at hs32
   refine wp_seq (Zb (Zd hE rfl fun a hE=>Zf hE rfl (Y2) fun a hE=>Zy (v:=v0_2) hE rfl Tr rfl (At.cat (pre:=[[v0_1],[vI p0.Next]]) hM.rawAt2 ck) fun a hE=>Yf hE rfl Tryz.underlying55 (hM.rd hv0_2) fun a hE=>Zh hE rfl rfl rfl fun a hE=>Ze ?_))
   refine Zo hE rfl ?_ ?_
   ·intro hb36
    have hs32:=Zw hs32 hb36
    refine wp_skip (Zt (wp_seq (wp_block (Zb (Zf hE rfl (Y2) fun a hE=>Zy (v:=v0_2) hE rfl Tr rfl (At.cat (pre:=[[v0_1],[vI p0.Next]]) hM.rawAt2 ck) fun a hE=>Zd hE rfl ?_))))); intro a hE
    obtain ⟨x37,hi39,hs32⟩:=bix hs32
    refine ZL hE rfl rfl Tryz.underlying55 ZV (hM.rd hv0_2) hi39.1 ?_; intro a hE
    obtain ⟨cs40,hs41,hA42⟩:=Xj hv0_2 hi39.2 -- ^
    obtain ⟨u43,u45,rfl,h44,h46⟩:=Yp hs41 -- ^
    refine Zm hE rfl ZV rfl (hM.atk hA42 (Wu hv0_2 hi39.2)) cq fun a hE=>Zz hE hM ZV fun b47 w a hM hE=>Zl (seg:=cat [[vI x37.Number],[vI x37.Version],enc x37.Nonce,[u43],[u45],enc x37.Tag]) (cs':=cat [[vI x37.Number],[vI x37.Version],enc x37.Nonce,[u43],[u45],enc x37.Tag]) hE hM Za rfl rfl rfl ZV cq (Nat.le_of_eq ((Nat.zero_add _).trans (Eq.trans cq (Eq.symm cq)))) (Z1 (cc1 (Flat.cell (x37.Number : Int)) (cc1 (Flat.cell (x37.Version : Int)) (cc1 (Flat.cell _) (cc1 (Rep.cell (hM.rd h44)) (cc1 (Rep.cell (hM.rd h46)) (cc1 (Flat.cell _) cc0))))))) (Zi (Eq.trans cq (Eq.symm cq))) fun w a hM hE=>Ze (Zb (Zf hE rfl (V2) fun a hE=>Zy (v:=u43) hE rfl Wh rfl (At.cat (pre:=[[vI x37.Number],[vI x37.Version],enc x37.Nonce]) hM.rawAt0 ck) ?_)); intro a hE
    obtain ⟨r49,e50,hs32⟩:=bind_some hs32
    refine Zv hE rfl cb65 (QM _ x37.Label u43 (hM.rdo h44) r49 e50) ?_
    rintro u51 w a ⟨_,rfl,hFr,hK⟩ hE
    have hM:=hM.add hK hFr
    refine Zf hE rfl (V2) ?_; intro a hE
    have hM:=hM.pull1
    refine Zl (seg:=[u51]) hE hM Za rfl rfl (Z6 (hM.sl (pre:=[_]) noB)) Wh rfl (YL (pre:=[[vI x37.Number],[vI x37.Version],enc x37.Nonce]) ck rfl) (Rep.cell (hM.sl (pre:=[_]) noB)) (ZR (pre:=[[vI x37.Number],[vI x37.Version],enc x37.Nonce]) ck rfl) fun w a hM hE=>Ze (Zb (Zf hE rfl (V1) fun a hE=>Zy (v:=u45) hE rfl Wh rfl (At.cat (pre:=[[vI x37.Number],[vI x37.Version],enc x37.Nonce,[u51]]) hM.rawAt0 ck) ?_)); intro a hE
    obtain ⟨r52,e53,hs32⟩:=bind_some hs32
    refine Zv hE rfl cb65 (QM _ x37.Body u45 (hM.rdo h46) r52 e53) ?_
    rintro u54 w a ⟨_,rfl,hFr,hK⟩ hE
    have hM:=hM.add hK hFr
    refine Zf hE rfl (V1) ?_; intro a hE
    have hM:=hM.pull1
    refine Zl (seg:=[u54]) hE hM Za rfl rfl (Z6 (hM.sl (pre:=[_]) noB)) Wh rfl (YL (pre:=[[vI x37.Number],[vI x37.Version],enc x37.Nonce,[u51]]) ck rfl) (Rep.cell (hM.sl (pre:=[_]) noB)) (ZR (pre:=[[vI x37.Number],[vI x37.Version],enc x37.Nonce,[u51]]) ck rfl) fun w a hM hE=>Ze (wp_region_lit (Zf hE rfl (Y2) fun a hE=>Zy (v:=u30) hE rfl Tr rfl (At.cat (pre:=[[(ux5 3)],[vI p0.Next]]) hM.rawAt3 ck) fun a hE=>Zm hE rfl ZV rfl hM.rawAt0 cq ?_)); intro a hE
    have hM:=hM.pull1.pull2
    have hM:=hM.pack2 (it:=own NoB (⟨x37.Number,x37.Version,x37.Nonce,r49,r52,x37.Tag⟩ : GRecord) (cat [[vI x37.Number],[vI x37.Version],enc x37.Nonce,[u51],[u54],enc x37.Tag])) (XH noB) (fun f0 f1 q0 q1=>(Vg (Wv.sat q0) (Wv.sat q1) (by simp)))
    refine jW (xs:=[.tmp 41]) (seg:=cat [[vI x37.Number],[vI x37.Version],enc x37.Nonce,[u51],[u54],enc x37.Tag]) hE hM noB Za ld rfl rfl Tryz.underlying55 ZV rfl (by decide) ?_; intro u55 w a hM hE
    obtain ⟨l57,e58,hs32⟩:=bind_some hs32
    obtain ⟨e61,rfl⟩:=Z8 e58
    have hM:=hM.pull7
    refine yR hE hM noB Za ld rfl rfl Tryz.underlying55 ZV rfl (by decide) e61 fun u59 w a hM hE=>Zf hE rfl (Y2) ?_; intro a hE
    have hM:=hM.pull2
    refine Zl (seg:=[u59]) hE hM Za rfl rfl (Z6 (hM.sl (pre:=[_]) noB)) Tr rfl (YL (pre:=[[(ux5 3)],[vI p0.Next]]) ck rfl) (Rep.cell (hM.sl (pre:=[_]) noB)) (ZR (pre:=[[(ux5 3)],[vI p0.Next]]) ck rfl) fun w a hM hE=>Zg (Yb (Zt (wp_region_lit (Zd hE rfl fun a hE=>Zh hE rfl rfl rfl fun a hE=>Zc hE rfl fun a hE=>Zg (Zk ?_)))))
    have hM:=M.fst (l:=[_,_,_,_,_,_]) hM.pull1.pull6.pull6.pull6.pull6.pull5
    exact ⟨_,(ois hs32),u59,hE.sub ⟨rfl,rfl,rfl,rfl,trivial⟩,hM⟩
   ·intro hb36
    have hs32:=Zx hs32 hb36
    refine wp_exit (Zn (Zn (Yd ?_)))
    obtain rfl:=hx33 _ (ois hs32)
    refine Zk ?_
    have hM:=M.fst (l:=[_,_,_,_,_]) hM.pull5.pull5.pull5.pull4.pull4
    exact ⟨u30,hE.sub ⟨rfl,rfl,trivial⟩,hM⟩
  ·skip
   rintro a w ⟨u27,hE,hM⟩
   refine Zt (Zb (Zm hE rfl Yn rfl hM.rawAt0 cq ?_)); intro a hE
   have hM:=hM.pull1
   refine Zl (seg:=cat [[(ux5 3)],[vI p0.Next],[u27],[(ux5 9)],enc p0.Head]) (cs':=cat [[(ux5 3)],[vI p0.Next],[u27],[(ux5 9)],enc p0.Head]) hE hM Za rfl rfl rfl Yn cq (Nat.le_of_eq ((Nat.zero_add _).trans (Eq.trans cq (Eq.symm cq)))) (Z1 (cc1 (Rep.cell (hM.sl (pre:=[_,_]) noB)) (cc1 (Flat.cell (p0.Next : Int)) (cc1 (Rep.cell (hM.sl (pre:=[_,_,_,_]) noB)) (cc1 (Rep.cell (hM.sl (pre:=[_,_,_]) noB)) (cc1 (Flat.cell _) cc0)))))) (Zi (Eq.trans cq (Eq.symm cq))) fun w a hM hE=>Ze ?_
   obtain rfl:=Option.some.inj hF26
   have hq63 : Yw Tryz.prog _ _ (.cell 2 58) _:=ZI hE rfl Yn rfl hM.rawAt0 cq rfl
   have hM:=M.fst (l:=[_,_,_]) hM.pull3.pull4.pull4
   exact wp_ret (ZJ hE rfl hq63 ⟨_,rfl,(ux5 3),u27,(ux5 9),rfl,hM.outF (Yi (Yi (Yi YO))),hM.kept⟩)
def TH (p0 : (Vector UInt8 32)) (p1 : GEvent) : Option ((Vector UInt8 32)) :=
 ((XZ p0).bind fun r13=>(app 1 r13 ([Zp p1.Kind] : List UInt8)).bind fun l18=>some (r13 ++ ([Zp p1.Kind] : List UInt8)) : Option ((List UInt8))).bind fun j7=>(UI p1.Number).bind fun r24=>(app 1 j7 r24).bind fun l27=>((XD).bind fun r36=>(XZ p1.Tag).bind fun r38=>(app 1 (j7 ++ r24) r38).bind fun l41=>(WY r36 ((j7 ++ r24) ++ r38)).bind fun r46=>some r46 : Option ((Vector UInt8 32))).bind fun j32=>some j32
theorem zF (w0 : World) (p0 : (Vector UInt8 32)) (p1 : GEvent) (r : (Vector UInt8 32)) (hF : TH p0 p1 = some r) :
  Calls Tryz.prog 168 [(Value.agg (enc p0).toArray),(Value.agg (enc p1).toArray)].toArray w0 (Rt w0 (Value.agg (enc r).toArray)):=by
 refine ce Tryz.func168 ?_
 intro a hE
 have hM:=M.start w0
 unfold TH at hF
 refine Zb (ZK (cs:=enc p0) hE hM Za ld rfl rfl fun b1 w a hM hE=>ZK (cs:=cat [[vI p1.Kind],[vI p1.Number],enc p1.Tag]) hE hM Za ld rfl rfl fun b3 w a hM hE=>Zz hE hM Ye fun b5 w a hM hE=>Ze ?_)
 obtain ⟨j7,hl8,hF9⟩:=bind_some hF
 refine ZO (fun a w=>∃ (u10 : Value),Env 25 a [(3,(ptr b3 0)),(4,(ptr b5 0)),(5,u10)] ∧ M (Old w0) w0 w [raw b5 (enc (Vector.replicate 32 (0 : UInt8))),raw b3 (cat [[vI p1.Kind],[vI p1.Number],enc p1.Tag]),osl NoB (j7 : List UInt8) u10]) ?_ ?_
 ·skip
  obtain ⟨r13,e14,hl8⟩:=bind_some hl8
  refine YC (its:=[raw b5 (enc (Vector.replicate 32 (0 : UInt8))),raw b3 (cat [[vI p1.Kind],[vI p1.Number],enc p1.Tag]),raw b1 (enc p0)]) (mk:=([mkO 1 (fun v=>osl NoB (r13 : List UInt8) v),mkO 5 (fun v=>osl NoB (([Zp p1.Kind] : List UInt8) : List UInt8) v)] : Mk)) [6,7,8,9,10,11] YF rfl rfl (by decide) rfl hE (fun u=>M.qE (M.qE (M.q0 hM.drew u) emO) emO) (qsP (v:=(Value.agg (enc p0).toArray)) ?_ (qsM (pr:=fun v=>True) ?_ (qsP (fun z=>Zj z.E Za ld rfl (Ke) (kr0 rfl)) (qsP (v:=(vI p1.Kind)) ?_ (qsP (fun z=>Yg z.E Za ld rfl Tryz.underlying2 Tryz.underlying5 (kr0 rfl)) (qsM (pr:=fun v=>True) ?_ qs0)))))) ?_
  ·intro a w ux12 D z
   have hE:=z.E
   have hM:=z.M
   exact Zm hE rfl Ye rfl hM.rawAt2 (Flat.len _) fun a hE=>⟨Kept.refl _ _,_,rfl,hE⟩
  ·intro a w ux12 D z
   have hE:=z.E
   have hD : D 1 = false:=z.F
   have hM0:=z.M
   have hM:=z.M
   refine Zv hE rfl Zaf (Qk _ p0 r13 e14) ?_
   rintro _ w a ⟨_,rfl,hFr,hK⟩ hE
   have hM:=hM0.add hK hFr
   exact ⟨_,_,rfl,hE,M.qFill (mk1:=[]) (mk2:=[_]) (f:=(fun v=>osl NoB (r13 : List UInt8) v)) hM rfl hD,trivial⟩
  ·intro a w ux12 D z
   have hE:=z.E
   have hM:=z.M
   exact Zy (v:=(vI p1.Kind)) hE rfl ty2 rfl (At.cat (pre:=[]) hM.rawAt1 cl0) fun a hE=>⟨Kept.refl _ _,_,rfl,hE⟩
  ·intro a w ux12 D z
   have hE:=z.E
   have hD : D 5 = false:=z.F
   have hM:=z.M
   exact ZW (xs:=[.tmp 10]) (l:=([Zp p1.Kind] : List UInt8)) (vs:=[(vB (Zp p1.Kind))]) hE hM Za ld rfl rfl Tryz.underlying40 ty5 rfl (by decide) rfl fun u16 w a hM hE=>⟨_,_,rfl,hE,M.qFill (mk1:=[_]) (mk2:=[]) (f:=(fun v=>osl NoB (([Zp p1.Kind] : List UInt8) : List UInt8) v)) hM rfl hD,trivial⟩
  ·intro a w ux12 D hE hM hG hall
   have d1:=hall 1 (by decide)
   have d5:=hall 5 (by decide)
   have hM:=(hM.sure (pre:=[_,_,_]) d1).sure (pre:=[_,_,_,_]) d5
   obtain ⟨l18,e19,hl8⟩:=bind_some hl8
   obtain ⟨e22,rfl⟩:=Z8 e19
   have hM:=hM.pull3
   refine ZY hE hM Za ld rfl rfl (hM.sl (pre:=[_,_,_,_]) noB) Tryz.underlying40 ty5 rfl (by decide) e22 fun u20 w a hM hE=>Zc hE rfl fun a hE=>Zg ?_
   obtain rfl:=Option.some.inj hl8
   refine Zk ?_
   have hM:=M.fst (l:=[_,_,_]) hM.pull2.pull2
   exact ⟨u20,hE.sub ⟨rfl,rfl,rfl,trivial⟩,hM⟩
 ·skip
  rintro a w ⟨u10,hE,hM⟩
  refine Zb (Zd hE rfl fun a hE=>Zf hE rfl (Kl) fun a hE=>Zy (v:=(vI p1.Number)) hE rfl ty2 rfl (At.cat (pre:=[[vI p1.Kind]]) hM.rawAt1 ck) ?_); intro a hE
  obtain ⟨r24,e25,hF9⟩:=bind_some hF9
  refine Zv hE rfl (cbm Tryz.func155) (JZ _ p1.Number r24 e25) ?_
  rintro u26 w a ⟨_,rfl,hFr,hK⟩ hE
  have hM:=hM.add hK hFr
  obtain ⟨l27,e28,hF9⟩:=bind_some hF9
  obtain ⟨e31,rfl⟩:=Z8 e28
  have hM:=hM.pull3
  refine ZY hE hM Za ld rfl rfl (hM.sl (pre:=[_]) noB) Tryz.underlying40 ty5 rfl (by decide) e31 fun u29 w a hM hE=>Zc hE rfl fun a hE=>Ze ?_
  obtain ⟨j32,hl33,hF34⟩:=bind_some hF9
  refine ZO (fun a w=>Env 25 a [(4,(ptr b5 0))] ∧ M (Old w0) w0 w [raw b5 (enc j32)]) ?_ ?_
  ·skip
   obtain ⟨r36,e37,hl33⟩:=bind_some hl33
   obtain ⟨r38,e39,hl33⟩:=bind_some hl33
   refine YC (its:=[osl NoB ((j7 ++ r24) : List UInt8) u29,osl NoB (r24 : List UInt8) u26,raw b5 (enc (Vector.replicate 32 (0 : UInt8))),raw b3 (cat [[vI p1.Kind],[vI p1.Number],enc p1.Tag])]) (mk:=([mkO 4 (fun v=>osl NoB (r38 : List UInt8) v)] : Mk)) [18,19,20,21,22] YF rfl rfl (by decide) rfl hE (fun u=>M.qE (M.q0 hM.drew u) emO) (qsP (fun z=>Z0 z.E Za ld rfl Zae (TZ _  r36 e37) (kc rfl)) (qsP (fun z=>Zu z.E Za ld rfl (kr0 rfl)) (qsP (fun z=>Zj z.E Za ld rfl (K2) (kr0 rfl)) (qsP (v:=(Value.agg (enc p1.Tag).toArray)) ?_ (qsM (pr:=fun v=>True) ?_ qs0))))) ?_
   ·intro a w ux35 D z
    have hE:=z.E
    have hM:=z.M
    exact Zm hE rfl Ye rfl (At.cat (pre:=[[vI p1.Kind],[vI p1.Number]]) hM.rawAt3 ck) (Flat.len _) fun a hE=>⟨Kept.refl _ _,_,rfl,hE⟩
   ·intro a w ux35 D z
    have hE:=z.E
    have hD : D 4 = false:=z.F
    have hM0:=z.M
    have hM:=z.M
    refine Zv hE rfl Zaf (Qk _ p1.Tag r38 e39) ?_
    rintro _ w a ⟨_,rfl,hFr,hK⟩ hE
    have hM:=hM0.add hK hFr
    exact ⟨_,_,rfl,hE,M.qFill (mk1:=[]) (mk2:=[]) (f:=(fun v=>osl NoB (r38 : List UInt8) v)) hM rfl hD,trivial⟩
   ·intro a w ux35 D hE hM hG hall
    have d4:=hall 4 (by decide)
    have hM:=hM.sure (pre:=[_,_,_,_]) d4
    obtain ⟨l41,e42,hl33⟩:=bind_some hl33
    obtain ⟨e45,rfl⟩:=Z8 e42
    refine ZY hE hM Za ld rfl rfl (hM.sl (pre:=[_,_,_,_]) noB) Tryz.underlying40 ty5 rfl (by decide) e45 ?_; intro u43 w a hM hE
    obtain ⟨r46,e47,hl33⟩:=bind_some hl33
    refine Zv hE rfl Zak (Km _ r36 ((j7 ++ r24) ++ r38) u43 (hM.sl (pre:=[]) noB) r46 e47) ?_
    rintro v w a ⟨rfl,hK⟩ hE
    have hM:=(hM.keep hK).pull2
    refine Zl (seg:=enc r46) (cs':=enc r46) hE hM Za rfl rfl rfl Ye (Flat.len _) (zle flq) (Flat.cell _) (Zi flq) fun w a hM hE=>Zg ?_
    obtain rfl:=Option.some.inj hl33
    refine Zk ?_
    have hM:=M.fst (l:=[_]) hM
    exact ⟨hE.sub ⟨rfl,trivial⟩,hM⟩
  ·skip
   rintro a w ⟨hE,hM⟩
   obtain rfl:=Option.some.inj hF34
   have hq49 : Yw Tryz.prog _ _ (.cell 4 35) _:=ZI hE rfl Ye rfl hM.rawAt0 (Flat.len _) rfl
   exact wp_ret (ZJ hE rfl hq49 ⟨_,rfl,rfl,hM.kept⟩)
def VB (p0 : (List GEvent)) (s19 : (Vector UInt8 32) × Int) : Option (Fl ((Vector UInt8 32) × Int) (Vector UInt8 32)) :=
 if (decide (s19.2 < (p0.length : Int))) = true then ((idx p0 s19.2).bind fun x25=>(TH s19.1 x25).bind fun r28=>some (Fl.nx (r28,wr (s19.2 + 1)))) else (some (Fl.ex s19.1))
def TI (p0 : (List GEvent)) : Option ((Vector UInt8 32)) :=
 (XD).bind fun r4=>(mkS 1 (0 : UInt8) 32).bind fun l6=>(WY r4 l6).bind fun r10=>(ZB (VB p0) (r10,0)).bind fun j16=>some j16
theorem zw (w0 : World) (p0 : (List GEvent)) (v0_1 : Value) (hv0_1 : Ro w0 p0 [v0_1]) (r : (Vector UInt8 32)) (hF : TI p0 = some r) :
  Calls Tryz.prog 110 [v0_1].toArray w0 (Rt w0 (Value.agg (enc r).toArray)):=by
 refine ce Tryz.func110 ?_
 intro a hE
 have hM:=M.start w0
 unfold TI at hF
 refine Zb (Zz hE hM Ye fun b1 w a hM hE=>Ze (wp_seq ?_))
 obtain ⟨r4,e5,hF⟩:=bind_some hF
 obtain ⟨l6,e7,hF⟩:=bind_some hF
 obtain ⟨r10,e11,hF⟩:=bind_some hF
 refine YC (its:=[raw b1 (enc (Vector.replicate 32 (0 : UInt8)))]) (mk:=([mkO 1 (fun v=>osl NoB (l6 : List UInt8) v),mkO 3 (fun v=>Wy v (enc (Vector.replicate 32 (0 : UInt8))))] : Mk)) [5,6,7,3] YF rfl rfl (by decide) rfl hE (fun u=>M.qE (M.qE (M.q0 hM.drew u) emO) emO) (qsP (fun z=>Z0 z.E Za ld rfl Zae (TZ _  r4 e5) (kc rfl)) (qsM (pr:=fun v=>True) ?_ (qsP (v:=(Value.agg (enc r10).toArray)) ?_ (qsM (pr:=fun v=>True) ?_ qs0)))) ?_
 ·intro a w ux3 D z
  have hE:=z.E
  have hD : D 1 = false:=z.F
  have hM:=z.M
  exact BW hE hM Za ld rfl rfl Tryz.underlying40 ty5 rfl (by decide) (fun _=>Qa.2 ⟨rfl,rfl⟩) e7 fun u8 w a hM hE=>⟨_,_,rfl,hE,M.qFill (mk1:=[]) (mk2:=[_]) (f:=(fun v=>osl NoB (l6 : List UInt8) v)) hM rfl hD,trivial⟩
 ·intro a w ux3 D z
  have hE:=z.E
  have d1 : D 1 = true:=z.p 1 _ rfl rfl
  have hM:=z.M.sure (pre:=[_]) d1
  refine Zv hE rfl Zak (Km _ r4 l6 (ux3 1) (hM.sl (pre:=[_]) noB) r10 e11) ?_
  rintro v w a ⟨rfl,hK⟩ hE
  exact ⟨hK,_,rfl,hE⟩
 ·intro a w ux3 D z
  have hE:=z.E
  have hD : D 3 = false:=z.F
  have hM:=z.M
  refine Zz hE hM Ye ?_; intro b12 w a hM hE
  have hM:=hM.pack1 (it:=Wy _ (enc (Vector.replicate 32 (0 : UInt8)))) (fun w w' fp ⟨b',e,k⟩ hb=>⟨b',e,YD w w' fp k hb⟩) (fun fp k=>⟨_,rfl,k⟩)
  exact ⟨_,_,rfl,hE,M.qFill (mk1:=[_]) (mk2:=[]) (f:=fun v=>Wy v (enc (Vector.replicate 32 (0 : UInt8)))) hM rfl hD,trivial⟩
 ·intro a w ux3 D hE hM hG hall
  have d1:=hall 1 (by decide)
  have d3:=hall 3 (by decide)
  have hM:=((hM.sure (pre:=[_]) d1).sure (pre:=[_,_]) d3).pull
  obtain ⟨_,⟨b14,f15,_⟩,_⟩:=hM.head
  have hM:=hM.pack1 YD (it:=raw b14 (enc (Vector.replicate 32 (0 : UInt8)))) (fun fp ⟨b2,e2,k2⟩=>by rw [f15] at e2; simp [ptr] at e2; subst e2; exact k2)
  have hE:=hE.setq (t:=3) rfl f15
  refine Zl (seg:=enc r10) (cs':=enc r10) hE hM Za rfl rfl rfl Ye (Flat.len _) (zle flq) (Flat.cell _) (Zi flq) fun w a hM hE=>Zg (Zt (wp_seq (Zb (Zc hE rfl fun a hE=>Ze ?_))))
  obtain ⟨j16,hl17,hF18⟩:=bind_some hF
  refine ZM (fun a w=>Env 21 a [(2,(ptr b1 0)),(3,(ptr b14 0))] ∧ M (Old w0) w0 w [raw b14 (enc j16),raw b1 (enc (Vector.replicate 32 (0 : UInt8)))]) ?_ ?_
  ·skip
   refine wp_block ?_
   have hM:=M.fst (l:=[_,_]) hM.pull1.pull1
   refine ZE (fun (s19 : (Vector UInt8 32) × Int) a w=>Env 21 a [(0,v0_1),(2,(ptr b1 0)),(3,(ptr b14 0)),(4,vI s19.2)] ∧ M (Old w0) w0 w [raw b14 (enc s19.1),raw b1 (enc (Vector.replicate 32 (0 : UInt8)))]) hl17 ⟨hE.sub ⟨rfl,rfl,rfl,rfl,trivial⟩,hM⟩ ?_
   rintro s19 a w ⟨hE,hM⟩ o22 hs20 hx21
   unfold VB at hs20
   refine wp_seq (Zb (Zd hE rfl fun a hE=>Zd hE rfl fun a hE=>Yf hE rfl Tryz.underlying56 (hM.rd hv0_1) fun a hE=>Zh hE rfl rfl rfl fun a hE=>Ze ?_))
   refine Zo hE rfl ?_ ?_
   ·intro hb23
    have hs20:=Zw hs20 hb23
    refine wp_skip (Zt (wp_seq (wp_block ?_)))
    obtain ⟨x25,hi27,hs20⟩:=bix hs20
    obtain ⟨r28,e29,hs20⟩:=bind_some hs20
    refine Z9 [14,15,16,17,18,19] YF rfl rfl (by decide) rfl hE hM (qsP (fun z=>ZX z.E Za ld rfl Ye rfl (z.M.rawAt0) (Flat.len _) (kr0 rfl)) (qsP (fun z=>Zu z.E Za ld rfl (kr0 rfl)) (qsP (fun z=>Zu z.E Za ld rfl (kr0 rfl)) (qsP (fun z=>YR z.E Za ld rfl rfl Tryz.underlying56 Xp (z.M.rd hv0_1) hi27.1 (kr0 rfl)) (qsP (fun z=>ZX z.E Za ld rfl Xp rfl (Y6 (z.M.rd hv0_1) hi27.2) cq (kr0 rfl)) (qsP (fun z=>Z0 z.E Za ld rfl (cbm Tryz.func168) (zF _ s19.1 x25 r28 e29) (kc rfl)) qs0)))))) ?_
    ·intro a w u hE hM
     refine Zl (seg:=enc r28) (cs':=enc r28) hE hM Za rfl rfl rfl Ye (Flat.len _) (zle flq) (Flat.cell _) (Zi flq) fun w a hM hE=>Zg (Yb (Zt (wp_region_lit (Zd hE rfl fun a hE=>Zh hE rfl rfl rfl fun a hE=>Zc hE rfl fun a hE=>Zg (Zk ?_)))))
     exact ⟨_,(ois hs20),hE.sub ⟨rfl,rfl,rfl,rfl,trivial⟩,hM⟩
   ·intro hb23
    have hs20:=Zx hs20 hb23
    refine wp_exit (Zn (Zn (Yd ?_)))
    obtain rfl:=hx21 _ (ois hs20)
    refine Zk ?_
    exact ⟨hE.sub ⟨rfl,rfl,trivial⟩,hM⟩
  ·skip
   rintro a w ⟨hE,hM⟩
   refine Zt (Zb (Zm hE rfl Ye rfl hM.rawAt0 (Flat.len _) ?_)); intro a hE
   have hM:=hM.pull1
   refine Zl (seg:=enc j16) (cs':=enc j16) hE hM Za rfl rfl rfl Ye (Flat.len _) (zle flq) (Flat.cell _) (Zi flq) fun w a hM hE=>Ze ?_
   obtain rfl:=Option.some.inj hF18
   have hq31 : Yw Tryz.prog _ _ (.cell 2 35) _:=ZI hE rfl Ye rfl hM.rawAt0 (Flat.len _) rfl
   exact wp_ret (ZJ hE rfl hq31 ⟨_,rfl,rfl,hM.kept⟩)
def Uy (p0 : GVault) (p1 : Int) (p2 : Int) (p3 : (Vector UInt8 32)) : Option (GVault) :=
 (app 48 p0.Events ([(⟨p1,p2,p3⟩ : GEvent)] : List GEvent)).bind fun l9=>(TI (p0.Events ++ ([(⟨p1,p2,p3⟩ : GEvent)] : List GEvent))).bind fun r14=>some (⟨p0.Keys,p0.Next,p0.Records,(p0.Events ++ ([(⟨p1,p2,p3⟩ : GEvent)] : List GEvent)),r14⟩ : GVault)
theorem zW (St : Nat → Prop) (W w0 : World) (its : List Item) (p0 : GVault) (v0_1 : Value) (v0_2 : Value) (v0_3 : Value) (p1 : Int) (p2 : Int) (p3 : (Vector UInt8 32)) (hM : M St W w0 (osl NoB (p0.Keys : List (Vector UInt8 16)) v0_1 :: osl NoB (p0.Records : List GRecord) v0_2 :: osl NoB (p0.Events : List GEvent) v0_3 :: its)) (r : GVault) (hF : Uy p0 p1 p2 p3 = some r) :
  Calls Tryz.prog 82 [(Value.agg (cat [[v0_1],[vI p0.Next],[v0_2],[v0_3],enc p0.Head]).toArray),vI p1,vI p2,(Value.agg (enc p3).toArray)].toArray w0 (fun en w'=>∃ v,en = .returned v ∧ (∃ (y1 : Value) (y2 : Value) (y3 : Value),v = (Value.agg (cat [[y1],[vI r.Next],[y2],[y3],enc r.Head]).toArray) ∧ M St W w' (osl NoB (r.Keys : List (Vector UInt8 16)) y1 :: osl NoB (r.Records : List GRecord) y2 :: osl NoB (r.Events : List GEvent) y3 :: its))):=by
 refine ce Tryz.func82 ?_
 intro a hE
 unfold Uy at hF
 refine Zb (ZK (cs:=cat [[v0_1],[vI p0.Next],[v0_2],[v0_3],enc p0.Head]) hE hM Za ld rfl rfl fun b1 w a hM hE=>ZK (cs:=enc p3) hE hM Za ld rfl rfl fun b3 w a hM hE=>Zz hE hM Yn fun b5 w a hM hE=>Ze (Zb (Zf hE rfl (Us) fun a hE=>Zy (v:=v0_3) hE rfl KJ rfl (At.cat (pre:=[[v0_1],[vI p0.Next],[v0_2]]) hM.rawAt2 ck) fun a hE=>Zd hE rfl fun a hE=>Zd hE rfl fun a hE=>Zm hE rfl Ye rfl hM.rawAt1 (Flat.len _) fun a hE=>XG (parts:=[(0,.tmp 11),(1,.tmp 12),(2,.tmp 13)]) (vs:=[(0,vI p1),(1,vI p2),(2,(Value.agg (enc p3).toArray))]) (cs:=cat [[vI p1],[vI p2],enc p3]) hE Za ld rfl rfl Xp pl131 (Yl (pre:=[]) (seg:=[vI 0]) (seg':=[vI p1]) (post:=[[vI 0],enc (Vector.replicate 32 (0 : UInt8))]) rfl cl0 rfl rfl rfl (Yl (pre:=[[vI p1]]) (seg:=[vI 0]) (seg':=[vI p2]) (post:=[enc (Vector.replicate 32 (0 : UInt8))]) rfl ck rfl rfl rfl (Yl (pre:=[[vI p1],[vI p2]]) (seg:=enc (Vector.replicate 32 (0 : UInt8))) (seg':=enc p3) (post:=[]) rfl ck (Flat.len _) (Flat.len _) rfl V3))) fun a hE=>ZW (xs:=[.tmp 14]) (l:=([(⟨p1,p2,p3⟩ : GEvent)] : List GEvent)) (vs:=[(Value.agg (enc (⟨p1,p2,p3⟩ : GEvent)).toArray)]) hE hM Za ld rfl rfl Tryz.underlying56 Xp rfl (by decide) rfl ?_))); intro u7 w a hM hE
 obtain ⟨l9,e10,hF⟩:=bind_some hF
 obtain ⟨e13,rfl⟩:=Z8 e10
 have hM:=hM.pull6
 refine ZY hE hM Za ld rfl rfl (hM.sl (pre:=[_]) noB) Tryz.underlying56 Xp rfl (by decide) e13 fun u11 w a hM hE=>Zf hE rfl (Us) ?_; intro a hE
 have hM:=hM.pull4
 refine Zl (seg:=[u11]) hE hM Za rfl rfl (Z6 (hM.sl (pre:=[_]) noB)) KJ rfl (YL (pre:=[[v0_1],[vI p0.Next],[v0_2]]) ck rfl) (Rep.cell (hM.sl (pre:=[_]) noB)) (ZR (pre:=[[v0_1],[vI p0.Next],[v0_2]]) ck rfl) fun w a hM hE=>Ze (Zb (Zf hE rfl (Us) fun a hE=>Zy (v:=u11) hE rfl KJ rfl (At.cat (pre:=[[v0_1],[vI p0.Next],[v0_2]]) hM.rawAt0 ck) ?_)); intro a hE
 obtain ⟨r14,e15,hF⟩:=bind_some hF
 refine Zv hE rfl (cbm Tryz.func110) (zw _ (p0.Events ++ ([(⟨p1,p2,p3⟩ : GEvent)] : List GEvent)) u11 (hM.sl (pre:=[_]) noB) r14 e15) ?_
 rintro v w a ⟨rfl,hK⟩ hE
 have hM:=hM.keep hK
 refine Zf hE rfl (HF) fun a hE=>Zl (seg:=enc r14) hE hM Za rfl rfl rfl Ye (Flat.len _) (YL (pre:=[[v0_1],[vI p0.Next],[v0_2],[u11]]) ck flq) (Flat.cell _) (ZR (pre:=[[v0_1],[vI p0.Next],[v0_2],[u11]]) ck flq) fun w a hM hE=>Ze (Zb (Zm hE rfl Yn rfl hM.rawAt0 cq ?_)); intro a hE
 have hM:=hM.pull3
 refine Zl (seg:=cat [[v0_1],[vI p0.Next],[v0_2],[u11],enc r14]) (cs':=cat [[v0_1],[vI p0.Next],[v0_2],[u11],enc r14]) hE hM Za rfl rfl rfl Yn cq (Nat.le_of_eq ((Nat.zero_add _).trans (Eq.trans cq (Eq.symm cq)))) (Z1 (cc1 (Rep.cell (hM.sl (pre:=[_,_,_,_,_]) noB)) (cc1 (Flat.cell (p0.Next : Int)) (cc1 (Rep.cell (hM.sl (pre:=[_,_,_,_,_,_]) noB)) (cc1 (Rep.cell (hM.sl (pre:=[_,_]) noB)) (cc1 (Flat.cell _) cc0)))))) (Zi (Eq.trans cq (Eq.symm cq))) fun w a hM hE=>Ze ?_
 obtain rfl:=Option.some.inj hF
 have hq16 : Yw Tryz.prog _ _ (.cell 8 58) _:=ZI hE rfl Yn rfl hM.rawAt0 cq rfl
 have hM:=((((hM.pull2.pull6.pull6.pull6).drop.pull5).drop.pull4).drop.pull3).drop
 exact wp_ret (ZJ hE rfl hq16 ⟨_,rfl,v0_1,v0_2,u11,rfl,hM⟩)
def Ta (p0 : GVault) (p1 : Int) (p2 : (Vector UInt8 16)) : Option (GVault × Int) :=
 (V6 p0 p1).bind fun r7=>if (r7.2 != 0) = true then (some ((⟨[],0,[],[],(Vector.replicate 32 (0 : UInt8))⟩ : GVault),r7.2)) else ((Tx p0 p2).bind fun r15=>if r15 = true then (some ((⟨[],0,[],[],(Vector.replicate 32 (0 : UInt8))⟩ : GVault),5)) else (if ((p0.Events.length : Int) == 60) = true then (some ((⟨[],0,[],[],(Vector.replicate 32 (0 : UInt8))⟩ : GVault),3)) else ((T7 p0).bind fun r28=>(VF p0 p1).bind fun r34=>(idx r28.Records r34).bind fun x43=>(idx r28.Records r34).bind fun x52=>(X8 p0 (⟨p1,wr ((p0.Keys.length : Int) - 1),p2,x43.Label,[],(Vector.replicate 32 (0 : UInt8))⟩ : GRecord) r7.1).bind fun r59=>(V9 p0 (⟨p1,wr ((p0.Keys.length : Int) - 1),p2,x43.Label,r59,(Vector.replicate 32 (0 : UInt8))⟩ : GRecord)).bind fun r62=>(idx r28.Records r34).bind fun x64=>(Uy (⟨r28.Keys,r28.Next,(r28.Records.set (r34).toNat (⟨p1,wr ((p0.Keys.length : Int) - 1),p2,x43.Label,r59,r62⟩ : GRecord)),r28.Events,r28.Head⟩ : GVault) 4 p1 r62).bind fun r67=>some (r67,0))))
theorem AM (w0 : World) (p0 : GVault) (v0_1 : Value) (hv0_1 : Ro w0 p0.Keys [v0_1]) (v0_2 : Value) (hv0_2 : Ro w0 p0.Records [v0_2]) (v0_3 : Value) (hv0_3 : Ro w0 p0.Events [v0_3]) (p1 : Int) (p2 : (Vector UInt8 16)) (r : GVault × Int) (hF : Ta p0 p1 p2 = some r) :
  Calls Tryz.prog 33 [(Value.agg (cat [[v0_1],[vI p0.Next],[v0_2],[v0_3],enc p0.Head]).toArray),vI p1,(Value.agg (enc p2).toArray)].toArray w0 (fun en w'=>∃ v,en = .returned v ∧ (∃ (y1 : Value) (y2 : Value) (y3 : Value),v = (Value.tuple [(Value.agg (cat [[y1],[vI r.1.Next],[y2],[y3],enc r.1.Head]).toArray),vI r.2].toArray) ∧ Fr w0 w' [osl NoB (r.1.Keys : List (Vector UInt8 16)) y1,osl NoB (r.1.Records : List GRecord) y2,osl NoB (r.1.Events : List GEvent) y3] ∧ Kept (Old w0) w0 w')):=by
 refine ce Tryz.func33 ?_
 intro a hE
 have hM:=M.start w0
 unfold Ta at hF
 refine Zb (ZK (cs:=cat [[v0_1],[vI p0.Next],[v0_2],[v0_3],enc p0.Head]) hE hM Za ld rfl rfl fun b1 w a hM hE=>ZK (cs:=enc p2) hE hM Za ld rfl rfl fun b3 w a hM hE=>Zz hE hM Yn fun b5 w a hM hE=>Zc hE rfl fun a hE=>Ze (Zb (Zm hE rfl Yn rfl hM.rawAt2 cq fun a hE=>Zd hE rfl ?_))); intro a hE
 obtain ⟨r7,e8,hF⟩:=bind_some hF
 refine Zv hE rfl (cbm Tryz.func107) (BG _ p0 v0_1 (hM.rdo hv0_1) v0_2 (hM.rdo hv0_2) v0_3 (hM.rdo hv0_3) p1 r7 e8) ?_
 rintro v w a ⟨u9,rfl,hFr,hK⟩ hE
 have hM:=hM.add hK hFr
 refine Zd hE rfl fun a hE=>WG hE Za ld rfl rfl fun a hE=>WG hE Za ld rfl rfl fun a hE=>Zc hE rfl fun a hE=>Zc hE rfl fun a hE=>Ze (wp_seq (wp_block (Zb (Zd hE rfl fun a hE=>Zh hE rfl rfl rfl fun a hE=>Zc hE rfl fun a hE=>Ze ?_))))
 refine Zo hE rfl ?_ ?_
 ·intro hb10
  have hF:=Zw hF hb10
  refine Zb (XG (parts:=[]) (vs:=[]) (cs:=cat [[(Value.slice none 0 0)],[vI 0],[(Value.slice none 0 0)],[(Value.slice none 0 0)],enc (Vector.replicate 32 (0 : UInt8))]) hE Za ld rfl rfl Yn kh V3 fun a hE=>Zd hE rfl ?_); intro a hE
  have hM:=hM.pull1
  refine Zl (seg:=cat [[(Value.slice none 0 0)],[vI 0],[(Value.slice none 0 0)],[(Value.slice none 0 0)],enc (Vector.replicate 32 (0 : UInt8))]) (cs':=cat [[(Value.slice none 0 0)],[vI 0],[(Value.slice none 0 0)],[(Value.slice none 0 0)],enc (Vector.replicate 32 (0 : UInt8))]) hE hM Za rfl rfl rfl Yn cq (Nat.le_of_eq ((Nat.zero_add _).trans (Eq.trans cq (Eq.symm cq)))) (Z1 (cc1 Wb (cc1 (Flat.cell (0 : Int)) (cc1 Wb (cc1 Wb (cc1 (Flat.cell _) cc0)))))) (Zi (Eq.trans cq (Eq.symm cq))) fun w a hM hE=>Zc hE rfl fun a hE=>Ze ?_
  have hM:=M.nilS (α:=GEvent) NoB noB (M.nilS (α:=GRecord) NoB noB (M.nilS (α:=(Vector UInt8 16)) NoB noB hM))
  obtain rfl:=Option.some.inj hF
  have hq14 : Yw Tryz.prog _ _ (.cell 6 58) _:=ZI hE rfl Yn rfl hM.rawAt3 cq rfl
  have hM:=M.fst (l:=[_,_,_]) hM.pull1.pull2
  exact wp_ret (Yr (Zs (Th hE rfl hq14 (ZP hE rfl) ⟨_,rfl,(Value.slice none 0 0),(Value.slice none 0 0),(Value.slice none 0 0),rfl,hM.outF (Yi (Yi (Yi YO))),hM.kept⟩)))
 ·intro hb10
  have hF:=Zx hF hb10
  refine Zb (Zm hE rfl Yn rfl hM.rawAt3 cq fun a hE=>Zm hE rfl ZC rfl hM.rawAt2 (Flat.len _) ?_); intro a hE
  obtain ⟨r15,e16,hF⟩:=bind_some hF
  refine Zv hE rfl (cbm Tryz.func100) (zg _ p0 v0_1 (hM.rdo hv0_1) v0_2 (hM.rdo hv0_2) v0_3 (hM.rdo hv0_3) p2 r15 e16) ?_
  rintro v w a ⟨rfl,hK⟩ hE
  have hM:=hM.keep hK
  refine Zc hE rfl fun a hE=>Ze ?_
  refine Zo hE rfl ?_ ?_
  ·intro hb17
   have hF:=Zw hF hb17
   refine Zb (XG (parts:=[]) (vs:=[]) (cs:=cat [[(Value.slice none 0 0)],[vI 0],[(Value.slice none 0 0)],[(Value.slice none 0 0)],enc (Vector.replicate 32 (0 : UInt8))]) hE Za ld rfl rfl Yn kh V3 ?_); intro a hE
   have hM:=hM.pull1
   refine Zl (seg:=cat [[(Value.slice none 0 0)],[vI 0],[(Value.slice none 0 0)],[(Value.slice none 0 0)],enc (Vector.replicate 32 (0 : UInt8))]) (cs':=cat [[(Value.slice none 0 0)],[vI 0],[(Value.slice none 0 0)],[(Value.slice none 0 0)],enc (Vector.replicate 32 (0 : UInt8))]) hE hM Za rfl rfl rfl Yn cq (Nat.le_of_eq ((Nat.zero_add _).trans (Eq.trans cq (Eq.symm cq)))) (Z1 (cc1 Wb (cc1 (Flat.cell (0 : Int)) (cc1 Wb (cc1 Wb (cc1 (Flat.cell _) cc0)))))) (Zi (Eq.trans cq (Eq.symm cq))) fun w a hM hE=>Zc hE rfl fun a hE=>Ze ?_
   have hM:=M.nilS (α:=GEvent) NoB noB (M.nilS (α:=GRecord) NoB noB (M.nilS (α:=(Vector UInt8 16)) NoB noB hM))
   obtain rfl:=Option.some.inj hF
   have hq21 : Yw Tryz.prog _ _ (.cell 6 58) _:=ZI hE rfl Yn rfl hM.rawAt3 cq rfl
   have hM:=M.fst (l:=[_,_,_]) hM.pull1.pull2
   exact wp_ret (Yr (Zs (Th hE rfl hq21 (ZP hE rfl) ⟨_,rfl,(Value.slice none 0 0),(Value.slice none 0 0),(Value.slice none 0 0),rfl,hM.outF (Yi (Yi (Yi YO))),hM.kept⟩)))
  ·intro hb17
   have hF:=Zx hF hb17
   refine Zb (Zf hE rfl (Us) fun a hE=>Zy (v:=v0_3) hE rfl KJ rfl (At.cat (pre:=[[v0_1],[vI p0.Next],[v0_2]]) hM.rawAt3 ck) fun a hE=>Yf hE rfl Tryz.underlying56 (hM.rd hv0_3) fun a hE=>Zh hE rfl rfl rfl fun a hE=>Zc hE rfl fun a hE=>Ze ?_)
   refine Zo hE rfl ?_ ?_
   ·intro hb22
    have hF:=Zw hF hb22
    refine Zb (XG (parts:=[]) (vs:=[]) (cs:=cat [[(Value.slice none 0 0)],[vI 0],[(Value.slice none 0 0)],[(Value.slice none 0 0)],enc (Vector.replicate 32 (0 : UInt8))]) hE Za ld rfl rfl Yn kh V3 ?_); intro a hE
    have hM:=hM.pull1
    refine Zl (seg:=cat [[(Value.slice none 0 0)],[vI 0],[(Value.slice none 0 0)],[(Value.slice none 0 0)],enc (Vector.replicate 32 (0 : UInt8))]) (cs':=cat [[(Value.slice none 0 0)],[vI 0],[(Value.slice none 0 0)],[(Value.slice none 0 0)],enc (Vector.replicate 32 (0 : UInt8))]) hE hM Za rfl rfl rfl Yn cq (Nat.le_of_eq ((Nat.zero_add _).trans (Eq.trans cq (Eq.symm cq)))) (Z1 (cc1 Wb (cc1 (Flat.cell (0 : Int)) (cc1 Wb (cc1 Wb (cc1 (Flat.cell _) cc0)))))) (Zi (Eq.trans cq (Eq.symm cq))) fun w a hM hE=>Zc hE rfl fun a hE=>Ze ?_
    have hM:=M.nilS (α:=GEvent) NoB noB (M.nilS (α:=GRecord) NoB noB (M.nilS (α:=(Vector UInt8 16)) NoB noB hM))
    obtain rfl:=Option.some.inj hF
    have hq26 : Yw Tryz.prog _ _ (.cell 6 58) _:=ZI hE rfl Yn rfl hM.rawAt3 cq rfl
    have hM:=M.fst (l:=[_,_,_]) hM.pull1.pull2
    exact wp_ret (Yr (Zs (Th hE rfl hq26 (ZP hE rfl) ⟨_,rfl,(Value.slice none 0 0),(Value.slice none 0 0),(Value.slice none 0 0),rfl,hM.outF (Yi (Yi (Yi YO))),hM.kept⟩)))
   ·intro hb22
    have hF:=Zx hF hb22
    refine wp_skip (Yb (Zt (wp_seq ?_)))
    obtain ⟨r28,e29,hF⟩:=bind_some hF
    obtain ⟨r34,e35,hF⟩:=bind_some hF
    refine YC (its:=[osl NoB (r7.1 : List UInt8) u9,raw b5 (cat [[(Value.slice none 0 0)],[vI 0],[(Value.slice none 0 0)],[(Value.slice none 0 0)],enc (Vector.replicate 32 (0 : UInt8))]),raw b3 (enc p2),raw b1 (cat [[v0_1],[vI p0.Next],[v0_2],[v0_3],enc p0.Head])]) (mk:=([mkO 1 (fun v=>own NoB r28 (Value.cells v).toList),mkO 5 (fun v=>Wy v (cat [[(Value.slice none 0 0)],[vI 0],[(Value.slice none 0 0)],[(Value.slice none 0 0)],enc (Vector.replicate 32 (0 : UInt8))]))] : Mk)) [35,36,37,38,39,10] YF rfl rfl (by decide) rfl hE (fun u=>M.qE (M.qE (M.q0 hM.drew u) emO) emO) (qsP (v:=(Value.agg (cat [[v0_1],[vI p0.Next],[v0_2],[v0_3],enc p0.Head]).toArray)) ?_ (qsM (pr:=fun v=>∃ cs,v = .agg cs) ?_ (qsP (v:=(Value.agg (cat [[v0_1],[vI p0.Next],[v0_2],[v0_3],enc p0.Head]).toArray)) ?_ (qsP (fun z=>Zu z.E Za ld rfl (kr0 rfl)) (qsP (v:=(vI r34)) ?_ (qsM (pr:=fun v=>True) ?_ qs0)))))) ?_
    ·intro a w ux27 D z
     have hE:=z.E
     have hM:=z.M
     exact Zm hE rfl Yn rfl hM.rawAt3 cq fun a hE=>⟨Kept.refl _ _,_,rfl,hE⟩
    ·intro a w ux27 D z
     have hE:=z.E
     have hD : D 1 = false:=z.F
     have hM0:=z.M
     have hM:=z.M
     refine Zv hE rfl (cbm Tryz.func81) (yq _ p0 v0_1 (hM.rdo hv0_1) v0_2 (hM.rdo hv0_2) v0_3 (hM.rdo hv0_3) r28 e29) ?_
     rintro _ w a ⟨u30,u31,u32,rfl,hFr,hK⟩ hE
     have hM:=Qs (x:=r28) (hM0.add hK hFr) sio sio sio
     exact ⟨_,_,rfl,hE,M.qFill (mk1:=[]) (mk2:=[_]) (f:=(fun v=>own NoB r28 (Value.cells v).toList)) hM rfl hD,⟨_,rfl⟩⟩
    ·intro a w ux27 D z
     have hE:=z.E
     have hM:=z.M
     exact Zm hE rfl Yn rfl hM.rawAt3 cq fun a hE=>⟨Kept.refl _ _,_,rfl,hE⟩
    ·intro a w ux27 D z
     have hE:=z.E
     have hM:=z.M
     refine Zv hE rfl (cbm Tryz.func80) (Jl _ p0 v0_1 (hM.rdo hv0_1) v0_2 (hM.rdo hv0_2) v0_3 (hM.rdo hv0_3) p1 r34 e35) ?_
     rintro v w a ⟨rfl,hK⟩ hE
     exact ⟨hK,_,rfl,hE⟩
    ·intro a w ux27 D z
     have hE:=z.E
     have hD : D 5 = false:=z.F
     have hM:=z.M
     refine Zz hE hM Yn ?_; intro b36 w a hM hE
     have hM:=hM.pack1 (it:=Wy _ (cat [[(Value.slice none 0 0)],[vI 0],[(Value.slice none 0 0)],[(Value.slice none 0 0)],enc (Vector.replicate 32 (0 : UInt8))])) (fun w w' fp ⟨b',e,k⟩ hb=>⟨b',e,YD w w' fp k hb⟩) (fun fp k=>⟨_,rfl,k⟩)
     exact ⟨_,_,rfl,hE,M.qFill (mk1:=[_]) (mk2:=[]) (f:=fun v=>Wy v (cat [[(Value.slice none 0 0)],[vI 0],[(Value.slice none 0 0)],[(Value.slice none 0 0)],enc (Vector.replicate 32 (0 : UInt8))])) hM rfl hD,trivial⟩
    ·intro a w ux27 D hE hM hG hall
     have d1:=hall 1 (by decide)
     have d5:=hall 5 (by decide)
     have hM:=((hM.sure (pre:=[_,_,_,_]) d1).sure (pre:=[_,_,_,_,_]) d5).pull
     obtain ⟨_,⟨b38,f39,_⟩,_⟩:=hM.head
     have hM:=hM.pack1 YD (it:=raw b38 (cat [[(Value.slice none 0 0)],[vI 0],[(Value.slice none 0 0)],[(Value.slice none 0 0)],enc (Vector.replicate 32 (0 : UInt8))])) (fun fp ⟨b2,e2,k2⟩=>by rw [f39] at e2; simp [ptr] at e2; subst e2; exact k2)
     obtain ⟨q27_1_0_1,q27_1_0_2,q27_1_0_3,hcz,_,_,_⟩:=WB (hM.ro (pre:=[_,_,_,_,_]) noB)
     have qK33 : (ux27 1) = (Value.agg (cat [[q27_1_0_1],[vI r28.Next],[q27_1_0_2],[q27_1_0_3],enc r28.Head]).toArray):=H1 hcz (hG 1 d1 _ rfl).2
     have hM:=hM.pull5
     have hM:=Qx (hM.recown (congrArg (fun v=>(Value.cells v).toList) qK33))
     have hE:=hE.setq (t:=36) rfl qK33
     have hE:=hE.setq (t:=10) rfl f39
     have hM:=hM.pull3
     refine Zl (seg:=cat [[q27_1_0_1],[vI r28.Next],[q27_1_0_2],[q27_1_0_3],enc r28.Head]) (cs':=cat [[q27_1_0_1],[vI r28.Next],[q27_1_0_2],[q27_1_0_3],enc r28.Head]) hE hM Za rfl rfl rfl Yn cq (Nat.le_of_eq ((Nat.zero_add _).trans (Eq.trans cq (Eq.symm cq)))) (Z1 (cc1 (Rep.cell (hM.ro (pre:=[_]) noB)) (cc1 (Flat.cell (r28.Next : Int)) (cc1 (Rep.cell (hM.ro (pre:=[_,_]) noB)) (cc1 (Rep.cell (hM.ro (pre:=[_,_,_]) noB)) (cc1 (Flat.cell _) cc0)))))) (Zi (Eq.trans cq (Eq.symm cq))) fun w a hM hE=>Zc hE rfl fun a hE=>Zg (Zt (wp_seq ?_))
     have hM:=hM.pull2.toOsl0
     obtain ⟨x43,hi45,hF⟩:=bix hF
     obtain ⟨cs46,hM,_⟩:=hM.open1 noB hi45.2
     obtain ⟨_,hx,_⟩:=hM.head
     obtain ⟨u47,u48,_,_,rfl,_,_,_⟩:=VV hx
     have hM:=HI hM
     obtain ⟨x52,hi54,hF⟩:=bix hF
     refine YC (its:=[own NoB (x43.Label : (List UInt8)) [u47],own NoB (x43.Body : (List UInt8)) [u48],Jq NoB (r28.Records : List GRecord) (r34).toNat q27_1_0_2 (cat [[vI x43.Number],[vI x43.Version],enc x43.Nonce,[u47],[u48],enc x43.Tag]),raw b38 (cat [[q27_1_0_1],[vI r28.Next],[q27_1_0_2],[q27_1_0_3],enc r28.Head]),own NoB (r28.Keys : (List (Vector UInt8 16))) [q27_1_0_1],own NoB (r28.Events : (List GEvent)) [q27_1_0_3],osl NoB (r7.1 : List UInt8) u9,raw b5 (cat [[(Value.slice none 0 0)],[vI 0],[(Value.slice none 0 0)],[(Value.slice none 0 0)],enc (Vector.replicate 32 (0 : UInt8))]),raw b3 (enc p2),raw b1 (cat [[v0_1],[vI p0.Next],[v0_2],[v0_3],enc p0.Head])]) (mk:=([mkO 13 (fun v=>Wy v (cat [[vI 0],[vI 0],enc (Vector.replicate 16 (0 : UInt8)),[(Value.slice none 0 0)],[(Value.slice none 0 0)],enc (Vector.replicate 32 (0 : UInt8))]))] : Mk)) [40,41,42,43,44,45,46,47,48,49,50,51,52,12] YF rfl rfl (by decide) rfl hE (fun u=>M.qE (M.q0 hM.drew u) emO) (qsP (fun z=>Zu z.E Za ld rfl (kr0 rfl)) (qsP (fun z=>Zj z.E Za ld rfl (WZ) (kr0 rfl)) (qsP (v:=v0_1) ?_ (qsP (v:=(vI (p0.Keys.length : Int))) ?_ (qsP (v:=(vI (wr ((p0.Keys.length : Int) - 1)))) (fun z=>Yt z.E Za ld rfl rfl rfl (kr0 rfl)) (qsP (v:=(Value.agg (enc p2).toArray)) ?_ (qsP (fun z=>Zj z.E Za ld rfl (Y2) (kr0 rfl)) (qsP (v:=q27_1_0_2) ?_ (qsP (fun z=>Zu z.E Za ld rfl (kr0 rfl)) (qsP (v:=(ptr (sb q27_1_0_2) (so q27_1_0_2 + (r34).toNat * 52))) ?_ (qsP (fun z=>Zj z.E Za ld rfl (V2) (kr0 rfl)) (qsP (v:=u47) ?_ (qsP (v:=(Value.agg (cat [[vI p1],[(vI (wr ((p0.Keys.length : Int) - 1)))],enc p2,[u47],[(Value.slice none 0 0)],enc (Vector.replicate 32 (0 : UInt8))]).toArray)) ?_ (qsM (pr:=fun v=>True) ?_ qs0)))))))))))))) ?_
     ·intro a w ux51 D z
      have hE:=z.E
      have hM:=z.M
      exact Zy (v:=v0_1) hE rfl Q7 rfl (At.cat (pre:=[]) hM.rawAt9 cl0) fun a hE=>⟨Kept.refl _ _,_,rfl,hE⟩
     ·intro a w ux51 D z
      have hE:=z.E
      have hM:=z.M
      exact Yf hE rfl Tryz.underlying54 (hM.rd hv0_1) fun a hE=>⟨Kept.refl _ _,_,rfl,hE⟩
     ·intro a w ux51 D z
      have hE:=z.E
      have hM:=z.M
      exact Zm hE rfl ZC rfl hM.rawAt8 (Flat.len _) fun a hE=>⟨Kept.refl _ _,_,rfl,hE⟩
     ·intro a w ux51 D z
      have hE:=z.E
      have hM:=z.M
      exact Zy (v:=q27_1_0_2) hE rfl Tr rfl (At.cat (pre:=[[q27_1_0_1],[vI r28.Next]]) hM.rawAt3 ck) fun a hE=>⟨Kept.refl _ _,_,rfl,hE⟩
     ·intro a w ux51 D z
      have hE:=z.E
      have hM:=z.M
      exact zp (pre:=[_,_]) hE hM Za ld rfl rfl Tryz.underlying55 ZV hi54.1 fun a hE=>⟨Kept.refl _ _,_,rfl,hE⟩
     ·intro a w ux51 D z
      have hE:=z.E
      have hM:=z.M
      exact Zy (v:=u47) hE rfl Wh rfl (At.cat (pre:=[[vI x43.Number],[vI x43.Version],enc x43.Nonce]) (hM.holeAt (pre:=[_,_])) ck) fun a hE=>⟨Kept.refl _ _,_,rfl,hE⟩
     ·intro a w ux51 D z
      have hE:=z.E
      have hM:=z.M
      exact XG (parts:=[(0,.tmp 40),(1,.tmp 44),(2,.tmp 45),(3,.tmp 51)]) (vs:=[(0,vI p1),(1,(vI (wr ((p0.Keys.length : Int) - 1)))),(2,(Value.agg (enc p2).toArray)),(3,u47)]) (cs:=cat [[vI p1],[(vI (wr ((p0.Keys.length : Int) - 1)))],enc p2,[u47],[(Value.slice none 0 0)],enc (Vector.replicate 32 (0 : UInt8))]) hE Za ld rfl rfl ZV pl127 (Yl (pre:=[]) (seg:=[vI 0]) (seg':=[vI p1]) (post:=[[vI 0],enc (Vector.replicate 16 (0 : UInt8)),[(Value.slice none 0 0)],[(Value.slice none 0 0)],enc (Vector.replicate 32 (0 : UInt8))]) rfl cl0 rfl rfl rfl (Yl (pre:=[[vI p1]]) (seg:=[vI 0]) (seg':=[(vI (wr ((p0.Keys.length : Int) - 1)))]) (post:=[enc (Vector.replicate 16 (0 : UInt8)),[(Value.slice none 0 0)],[(Value.slice none 0 0)],enc (Vector.replicate 32 (0 : UInt8))]) rfl ck rfl rfl rfl (Yl (pre:=[[vI p1],[(vI (wr ((p0.Keys.length : Int) - 1)))]]) (seg:=enc (Vector.replicate 16 (0 : UInt8))) (seg':=enc p2) (post:=[[(Value.slice none 0 0)],[(Value.slice none 0 0)],enc (Vector.replicate 32 (0 : UInt8))]) rfl ck (Flat.len _) (Flat.len _) rfl (Yl (pre:=[[vI p1],[(vI (wr ((p0.Keys.length : Int) - 1)))],enc p2]) (seg:=[(Value.slice none 0 0)]) (seg':=[u47]) (post:=[[(Value.slice none 0 0)],enc (Vector.replicate 32 (0 : UInt8))]) rfl ck rfl rfl (Z6 (hM.ro (pre:=[]) noB)) V3)))) fun a hE=>⟨Kept.refl _ _,_,rfl,hE⟩
     ·intro a w ux51 D z
      have hE:=z.E
      have hD : D 13 = false:=z.F
      have hM:=z.M
      refine Zz hE hM ZV ?_; intro b55 w a hM hE
      have hM:=hM.pack1 (it:=Wy _ (cat [[vI 0],[vI 0],enc (Vector.replicate 16 (0 : UInt8)),[(Value.slice none 0 0)],[(Value.slice none 0 0)],enc (Vector.replicate 32 (0 : UInt8))])) (fun w w' fp ⟨b',e,k⟩ hb=>⟨b',e,YD w w' fp k hb⟩) (fun fp k=>⟨_,rfl,k⟩)
      exact ⟨_,_,rfl,hE,M.qFill (mk1:=[]) (mk2:=[]) (f:=fun v=>Wy v (cat [[vI 0],[vI 0],enc (Vector.replicate 16 (0 : UInt8)),[(Value.slice none 0 0)],[(Value.slice none 0 0)],enc (Vector.replicate 32 (0 : UInt8))])) hM rfl hD,trivial⟩
     ·intro a w ux51 D hE hM hG hall
      have d13:=hall 13 (by decide)
      have hM:=(hM.sure (pre:=[_,_,_,_,_,_,_,_,_,_]) d13).pull
      obtain ⟨_,⟨b57,f58,_⟩,_⟩:=hM.head
      have hM:=hM.pack1 YD (it:=raw b57 (cat [[vI 0],[vI 0],enc (Vector.replicate 16 (0 : UInt8)),[(Value.slice none 0 0)],[(Value.slice none 0 0)],enc (Vector.replicate 32 (0 : UInt8))])) (fun fp ⟨b2,e2,k2⟩=>by rw [f58] at e2; simp [ptr] at e2; subst e2; exact k2)
      have hE:=hE.setq (t:=12) rfl f58
      refine Zl (seg:=cat [[vI p1],[(vI (wr ((p0.Keys.length : Int) - 1)))],enc p2,[u47],[(Value.slice none 0 0)],enc (Vector.replicate 32 (0 : UInt8))]) (cs':=cat [[vI p1],[(vI (wr ((p0.Keys.length : Int) - 1)))],enc p2,[u47],[(Value.slice none 0 0)],enc (Vector.replicate 32 (0 : UInt8))]) hE hM Za rfl rfl rfl ZV cq (Nat.le_of_eq ((Nat.zero_add _).trans (Eq.trans cq (Eq.symm cq)))) (Z1 (cc1 (Flat.cell (p1 : Int)) (cc1 (Flat.cell (wr ((p0.Keys.length : Int) - 1) : Int)) (cc1 (Flat.cell _) (cc1 (Rep.cell (hM.ro (pre:=[_]) noB)) (cc1 Wb (cc1 (Flat.cell _) cc0))))))) (Zi (Eq.trans cq (Eq.symm cq))) fun w a hM hE=>Zg (Zt (Zb (Zm hE rfl Yn rfl hM.rawAt10 cq fun a hE=>Zm hE rfl ZV rfl hM.rawAt0 cq fun a hE=>Zd hE rfl ?_))); intro a hE
      obtain ⟨r59,e60,hF⟩:=bind_some hF
      refine Zv hE rfl (cbm Tryz.func101) (KS _ p0 v0_1 (hM.rdo hv0_1) v0_2 (hM.rdo hv0_2) v0_3 (hM.rdo hv0_3) (⟨p1,wr ((p0.Keys.length : Int) - 1),p2,x43.Label,[],(Vector.replicate 32 (0 : UInt8))⟩ : GRecord) u47 (hM.ro (pre:=[_]) noB) (Value.slice none 0 0) ro_nil r7.1 u9 (hM.sl (pre:=[_,_,_,_,_,_,_]) noB) r59 e60) ?_
      rintro u61 w a ⟨_,rfl,hFr,hK⟩ hE
      have hM:=hM.add hK hFr
      refine Zf hE rfl (V1) ?_; intro a hE
      have hM:=hM.pull1
      refine Zl (seg:=[u61]) hE hM Za rfl rfl (Z6 (hM.sl (pre:=[_]) noB)) Wh rfl (YL (pre:=[[vI p1],[(vI (wr ((p0.Keys.length : Int) - 1)))],enc p2,[u47]]) ck rfl) (Rep.cell (hM.sl (pre:=[_]) noB)) (ZR (pre:=[[vI p1],[(vI (wr ((p0.Keys.length : Int) - 1)))],enc p2,[u47]]) ck rfl) fun w a hM hE=>Ze (Zb (Zm hE rfl Yn rfl hM.rawAt11 cq fun a hE=>Zm hE rfl ZV rfl hM.rawAt0 cq ?_)); intro a hE
      obtain ⟨r62,e63,hF⟩:=bind_some hF
      refine Zv hE rfl (cbm Tryz.func102) (Hl _ p0 v0_1 (hM.rdo hv0_1) v0_2 (hM.rdo hv0_2) v0_3 (hM.rdo hv0_3) (⟨p1,wr ((p0.Keys.length : Int) - 1),p2,x43.Label,r59,(Vector.replicate 32 (0 : UInt8))⟩ : GRecord) u47 (hM.ro (pre:=[_,_]) noB) u61 (hM.sl (pre:=[_]) noB) r62 e63) ?_
      rintro v w a ⟨rfl,hK⟩ hE
      have hM:=hM.keep hK
      refine Zf hE rfl (Qg) fun a hE=>Zl (seg:=enc r62) hE hM Za rfl rfl rfl Ye (Flat.len _) (YL (pre:=[[vI p1],[(vI (wr ((p0.Keys.length : Int) - 1)))],enc p2,[u47],[u61]]) ck flq) (Flat.cell _) (ZR (pre:=[[vI p1],[(vI (wr ((p0.Keys.length : Int) - 1)))],enc p2,[u47],[u61]]) ck flq) fun w a hM hE=>Ze (Zb (Zf hE rfl (Y2) fun a hE=>Zy (v:=q27_1_0_2) hE rfl Tr rfl (At.cat (pre:=[[q27_1_0_1],[vI r28.Next]]) hM.rawAt5 ck) fun a hE=>Zd hE rfl fun a hE=>Zm hE rfl ZV rfl hM.rawAt0 cq ?_)); intro a hE
      obtain ⟨x64,hi66,hF⟩:=bix hF
      refine zp (pre:=[_,_,_,_]) hE hM Za ld rfl rfl Tryz.underlying55 ZV hi66.1 ?_; intro a hE
      have hM:=hM.pull4
      refine km (k0:=0) (seg:=cat [[vI p1],[(vI (wr ((p0.Keys.length : Int) - 1)))],enc p2,[u47],[u61],enc r62]) (cs':=cat [[vI p1],[(vI (wr ((p0.Keys.length : Int) - 1)))],enc p2,[u47],[u61],enc r62]) hE hM noB Za rfl rfl rfl ZV cq (Z1 (cc1 (Flat.cell (p1 : Int)) (cc1 (Flat.cell (wr ((p0.Keys.length : Int) - 1) : Int)) (cc1 (Flat.cell _) (cc1 (Rep.cell (hM.ro (pre:=[_,_,_]) noB)) (cc1 (Rep.cell (hM.sl (pre:=[_,_]) noB)) (cc1 (Flat.cell _) cc0))))))) (Nat.le_of_eq ((Nat.zero_add _).trans (Eq.trans cq (Eq.symm cq)))) (Zi (Eq.trans cq (Eq.symm cq))) ?_; intro w a hM hE
      have hM:=(Kq (x:=(⟨p1,wr ((p0.Keys.length : Int) - 1),p2,x43.Label,r59,r62⟩ : GRecord)) hM.pull11.pull11.pull11.pull11.pull11.pull11.pull11.pull11.pull9.pull9.pull10.pull11 siw sio).close1 noB
      refine Ze (Zb (Zm hE rfl Yn rfl hM.rawAt3 cq fun a hE=>Zd hE rfl fun a hE=>Zf hE rfl (Qg) fun a hE=>Zm hE rfl Ye rfl (At.cat (pre:=[[vI p1],[(vI (wr ((p0.Keys.length : Int) - 1)))],enc p2,[u47],[u61]]) hM.rawAt1 ck) (Flat.len _) ?_)); intro a hE
      have hM:=hM.pull4.toOsl0.pull5.toOsl0.pull2.pull2
      have hM0:=hM
      obtain ⟨r67,e68,hF⟩:=bind_some hF
      refine Zv hE rfl (cbm Tryz.func82) (zW _ _ _ _ (⟨r28.Keys,r28.Next,(r28.Records.set (r34).toNat (⟨p1,wr ((p0.Keys.length : Int) - 1),p2,x43.Label,r59,r62⟩ : GRecord)),r28.Events,r28.Head⟩ : GVault) q27_1_0_1 q27_1_0_2 q27_1_0_3 4 p1 r62 hM r67 e68) ?_
      rintro v w a ⟨u69,u70,u71,rfl,hM⟩ hE
      have hM:=hM.pull7
      refine Zl (seg:=cat [[u69],[vI r67.Next],[u70],[u71],enc r67.Head]) (cs':=cat [[u69],[vI r67.Next],[u70],[u71],enc r67.Head]) hE hM Za rfl rfl rfl Yn cq (Nat.le_of_eq ((Nat.zero_add _).trans (Eq.trans cq (Eq.symm cq)))) (Z1 (cc1 (Rep.cell (hM.sl (pre:=[_]) noB)) (cc1 (Flat.cell (r67.Next : Int)) (cc1 (Rep.cell (hM.sl (pre:=[_,_]) noB)) (cc1 (Rep.cell (hM.sl (pre:=[_,_,_]) noB)) (cc1 (Flat.cell _) cc0)))))) (Zi (Eq.trans cq (Eq.symm cq))) fun w a hM hE=>Zc hE rfl fun a hE=>Ze ?_
      obtain rfl:=Option.some.inj hF
      have hq72 : Yw Tryz.prog _ _ (.cell 6 58) _:=ZI hE rfl Yn rfl hM.rawAt0 cq rfl
      have hM:=M.fst (l:=[_,_,_]) hM.pull3.pull3.pull3
      exact wp_ret (Th hE rfl hq72 (ZP hE rfl) ⟨_,rfl,u69,u70,u71,rfl,hM.outF (Yi (Yi (Yi YO))),hM.kept⟩)
def Z5 (p0 : (List (Vector UInt8 16))) : Option (Int) :=
 some (p0.length : Int)
theorem YG (w0 : World) (p0 : (List (Vector UInt8 16))) (v0_1 : Value) (hv0_1 : Ro w0 p0 [v0_1]) (r : Int) (hF : Z5 p0 = some r) :
  Calls Tryz.prog 106 [v0_1].toArray w0 (Rt w0 (vI r)):=by
 refine ce Tryz.func106 ?_
 intro a hE
 have hM:=M.start w0
 unfold Z5 at hF
 refine Zb (Zc hE rfl fun a hE=>Ze (Zb (Zd hE rfl fun a hE=>Yf hE rfl Tryz.underlying54 (hM.rd hv0_1) fun a hE=>Zc hE rfl fun a hE=>Ze ?_)))
 obtain rfl:=Option.some.inj hF
 exact wp_ret (kr1 hE rfl rfl hM.kept)
def Xn (p0 : Int) (p1 : Int) (p2 : Int) : Option (Bool) :=
 (if (decide (p1 ≤ p0)) = true then (some (decide (p0 ≤ p2))) else (some false) : Option (Bool)).bind fun j1=>some j1
theorem Xo (w0 : World) (p0 : Int) (p1 : Int) (p2 : Int) (r : Bool) (hF : Xn p0 p1 p2 = some r) :
  Calls Tryz.prog 129 [vI p0,vI p1,vI p2].toArray w0 (Rt w0 (vT r)):=by
 refine ce Tryz.func129 ?_
 intro a hE
 have hM:=M.start w0
 unfold Xn at hF
 refine Zb (Zc hE rfl fun a hE=>Ze ?_)
 obtain ⟨j1,hl2,hF3⟩:=bind_some hF
 refine ZO (fun a w=>Env 15 a [(6,vT j1)] ∧ M (Old w0) w0 w []) ?_ ?_
 ·skip
  refine wp_region_lit (Zd hE rfl fun a hE=>Zd hE rfl fun a hE=>Zh hE rfl rfl rfl fun a hE=>Zd hE rfl ?_); intro a hE
  refine X1 (decide (p1 ≤ p0)) (fun hb4=>?_) (fun hb4=>?_)
  ·have hl2:=Zw hl2 hb4
   refine Zu hE (Zq hE rfl (lkb rfl hb4)) (by decide) rfl fun a hE=>Zu hE (Zq hE rfl (lkb rfl hb4)) (by decide) rfl fun a hE=>Yt hE (Zq hE rfl (lkb rfl hb4)) (by decide) rfl rfl rfl fun a hE=>Yy hE (lkb rfl hb4) rfl fun a hE=>Zc hE rfl fun a hE=>Zg ?_
   obtain rfl:=Option.some.inj hl2
   refine Zk ?_
   exact ⟨hE.sub ⟨rfl,trivial⟩,hM⟩
  ·have hl2:=Zx hl2 hb4
   refine Zr hE rfl (lkb rfl hb4) rfl (by decide) fun a hE=>Zr hE rfl (lkb rfl hb4) rfl (by decide) fun a hE=>Zr hE rfl (lkb rfl hb4) rfl (by decide) fun a hE=>Wc hE (lkb rfl hb4) rfl fun a hE=>Zc hE rfl fun a hE=>Zg ?_
   obtain rfl:=Option.some.inj hl2
   refine Zk ?_
   exact ⟨hE.sub ⟨rfl,trivial⟩,hM⟩
 ·skip
  rintro a w ⟨hE,hM⟩
  obtain rfl:=Option.some.inj hF3
  exact wp_ret (kr1 hE rfl rfl hM.kept)
def YS (p0 : (List GEvent)) (p1 : GEvent → Option (Bool)) (s5 : Int) : Option (Fl Int (Fl Unit Int)) :=
 if (decide (s5 < (p0.length : Int))) = true then ((idx p0 s5).bind fun x10=>((p1 x10)).bind fun r13=>if r13 = true then (some (Fl.ex (Fl.ex s5))) else (some (Fl.nx (wr (s5 + 1))))) else (some (Fl.ex (Fl.nx ())))
def Yx (p0 : (List GEvent)) (p1 : GEvent → Option (Bool)) : Option (Int) :=
 (ZB (YS p0 p1) 0).bind fun j1=>j1.el (fun s4=>some (-1)) (fun r=>some r)
theorem Ti (w0 : World) (p0 : (List GEvent)) (v0_1 : Value) (hv0_1 : Ro w0 p0 [v0_1]) (p1 : GEvent → Option (Bool)) (k1 : Nat) (q1 : List Value) (hcb1 : Callable Tryz.prog k1) (hg1 : ∀ (w2 : World),Kept (Old w0) w0 w2 → ∀ (z0 : GEvent) (zr : Bool),p1 z0 = some zr → Calls Tryz.prog k1 ([(Value.agg (enc z0).toArray)] ++ q1).toArray w2 (fun en w3=>∃ v,en = .returned v ∧ (v = (vT zr) ∧ Kept (Old w2) w2 w3))) (r : Int) (hF : Yx p0 p1 = some r) :
  Calls Tryz.prog 192 [v0_1,(Value.func (.func k1) #[] q1.toArray)].toArray w0 (Rt w0 (vI r)):=by
 refine ce Tryz.func192 ?_
 intro a hE
 have hM:=M.start w0
 unfold Yx at hF
 refine Zb (Zc hE rfl fun a hE=>Ze (wp_seq (Zb (Zd hE rfl fun a hE=>Yf hE rfl Tryz.underlying56 (hM.rd hv0_1) fun a hE=>Zd hE rfl fun a hE=>Ze ?_))))
 obtain ⟨j1,hl2,hF3⟩:=bind_some hF
 refine ZM (fun a w=>∃ s4 : Unit,j1 = Fl.nx s4 ∧ Env 19 a [] ∧ M (Old w0) w0 w []) ?_ ?_
 ·skip
  refine wp_block ?_
  refine ZE (fun (s5 : Int) a w=>Env 19 a [(0,v0_1),(1,(Value.func (.func k1) #[] q1.toArray)),(7,(vI (p0.length : Int))),(8,vI s5)] ∧ M (Old w0) w0 w []) hl2 ⟨hE.sub ⟨rfl,rfl,rfl,rfl,trivial⟩,hM⟩ ?_
  rintro s5 a w ⟨hE,hM⟩ o8 hs6 hx7
  unfold YS at hs6
  refine Zb (Zh hE rfl rfl rfl fun a hE=>Ze (wp_seq ?_))
  refine Zo hE rfl ?_ ?_
  ·intro hb9
   have hs6:=Zw hs6 hb9
   refine wp_skip (Zt (wp_seq (wp_block (Zb (Zd hE rfl fun a hE=>Zc hE rfl fun a hE=>Ze (Zb (Zd hE rfl fun a hE=>Zd hE rfl fun a hE=>Zd hE rfl ?_))))))); intro a hE
   obtain ⟨x10,hi12,hs6⟩:=bix hs6
   refine ZL hE rfl rfl Tryz.underlying56 Xp (hM.rd hv0_1) hi12.1 fun a hE=>Zm hE rfl Xp rfl (Y6 (hM.rd hv0_1) hi12.2) cq ?_; intro a hE
   obtain ⟨r13,e14,hs6⟩:=bind_some hs6
   refine kY (vs:=[(Value.agg (enc x10).toArray)]) hE Za ld rfl rfl hcb1 (hg1 _ hM.kept x10 r13 e14) ?_
   rintro v w a ⟨rfl,hK⟩ hE
   have hM:=hM.keep hK
   refine Ze ?_
   refine Zo hE rfl ?_ ?_
   ·intro hb15
    have hs6:=Zw hs6 hb15
    refine Zb (Zd hE rfl fun a hE=>Zc hE rfl fun a hE=>Ze ?_)
    obtain rfl:=hx7 _ (ois hs6)
    obtain rfl:=Option.some.inj hF3
    exact wp_ret (Yr (Zs (Zs (Yr (Zs (Zs (kr1 hE rfl rfl hM.kept)))))))
   ·intro hb15
    have hs6:=Zx hs6 hb15
    refine wp_skip (Yb (Zt (wp_region_lit (Zh hE rfl rfl rfl fun a hE=>Zd hE rfl fun a hE=>Zg (Zk ?_)))))
    exact ⟨_,(ois hs6),hE.sub ⟨rfl,rfl,rfl,rfl,trivial⟩,hM⟩
  ·intro hb9
   have hs6:=Zx hs6 hb9
   refine wp_exit (Zn (Zn (Yd ?_)))
   obtain rfl:=hx7 _ (ois hs6)
   refine Zk ?_
   exact ⟨(),rfl,hE.sub trivial,hM⟩
 ·skip
  rintro a w ⟨s4,ht,hE,hM⟩
  subst ht
  have hF3:=TG hF3
  refine Zt (Zb (Zc hE rfl fun a hE=>Ze ?_))
  obtain rfl:=Option.some.inj hF3
  exact wp_ret (kr1 hE rfl rfl hM.kept)
def Z3 (p0 : (List GEvent)) (p1 : GEvent → Option (Bool)) : Option (Bool) :=
 (Yx p0 p1).bind fun r1=>some (decide (r1 ≥ 0))
theorem UL (w0 : World) (p0 : (List GEvent)) (v0_1 : Value) (hv0_1 : Ro w0 p0 [v0_1]) (p1 : GEvent → Option (Bool)) (k1 : Nat) (q1 : List Value) (hcb1 : Callable Tryz.prog k1) (hg1 : ∀ (w2 : World),Kept (Old w0) w0 w2 → ∀ (z0 : GEvent) (zr : Bool),p1 z0 = some zr → Calls Tryz.prog k1 ([(Value.agg (enc z0).toArray)] ++ q1).toArray w2 (fun en w3=>∃ v,en = .returned v ∧ (v = (vT zr) ∧ Kept (Old w2) w2 w3))) (r : Bool) (hF : Z3 p0 p1 = some r) :
  Calls Tryz.prog 159 [v0_1,(Value.func (.func k1) #[] q1.toArray)].toArray w0 (Rt w0 (vT r)):=by
 refine ce Tryz.func159 ?_
 intro a hE
 have hM:=M.start w0
 unfold Z3 at hF
 refine Zb (Zc hE rfl fun a hE=>Ze (Zb (Zd hE rfl fun a hE=>Zd hE rfl ?_))); intro a hE
 obtain ⟨r1,e2,hF⟩:=bind_some hF
 refine Zv hE rfl (cbm Tryz.func192) (Ti _ p0 v0_1 (hM.rdo hv0_1) p1 k1 q1 hcb1 (fun w2 hk2=>hg1 w2 (hM.kept.trans hk2)) r1 e2) ?_
 rintro v w a ⟨rfl,hK⟩ hE
 have hM:=hM.keep hK
 refine Zh hE rfl rfl rfl fun a hE=>Zc hE rfl fun a hE=>Ze ?_
 obtain rfl:=Option.some.inj hF
 exact wp_ret (kr1 hE rfl rfl hM.kept)
def Qe (p0 : Int) : Option (Bool) :=
 (Xn p0 0 1000000).bind fun r1=>some r1
theorem Ay (w0 : World) (p0 : Int) (r : Bool) (hF : Qe p0 = some r) :
  Calls Tryz.prog 193 [vI p0].toArray w0 (Rt w0 (vT r)):=by
 refine ce Tryz.func193 ?_
 intro a hE
 have hM:=M.start w0
 unfold Qe at hF
 refine Zb (Zc hE rfl fun a hE=>Ze (Zb (Zd hE rfl ?_))); intro a hE
 obtain ⟨r1,e2,hF⟩:=bind_some hF
 refine Zv hE rfl Hp (Xo _ p0 0 1000000 r1 e2) ?_
 rintro v w a ⟨rfl,hK⟩ hE
 have hM:=hM.keep hK
 refine Zc hE rfl fun a hE=>Ze ?_
 obtain rfl:=Option.some.inj hF
 exact wp_ret (kr1 hE rfl rfl hM.kept)
def Ts (p0 : GEvent) : Option (Bool) :=
 ((Xn p0.Kind 1 4).bind fun r6=>if r6 = true then ((Qe p0.Number).bind fun r9=>some r9) else (some false) : Option (Bool)).bind fun j3=>some j3
theorem zd (w0 : World) (p0 : GEvent) (r : Bool) (hF : Ts p0 = some r) :
  Calls Tryz.prog 161 [(Value.agg (enc p0).toArray)].toArray w0 (Rt w0 (vT r)):=by
 refine ce Tryz.func161 ?_
 intro a hE
 have hM:=M.start w0
 unfold Ts at hF
 refine Zb (ZK (cs:=cat [[vI p0.Kind],[vI p0.Number],enc p0.Tag]) hE hM Za ld rfl rfl fun b1 w a hM hE=>Zc hE rfl fun a hE=>Ze ?_)
 obtain ⟨j3,hl4,hF5⟩:=bind_some hF
 refine ZO (fun a w=>Env 11 a [(2,vT j3)] ∧ M (Old w0) w0 w []) ?_ ?_
 ·skip
  refine wp_region_lit (Zf hE rfl (Ke) fun a hE=>Zy (v:=(vI p0.Kind)) hE rfl ty2 rfl (At.cat (pre:=[]) hM.rawAt0 cl0) ?_); intro a hE
  obtain ⟨r6,e7,hl4⟩:=bind_some hl4
  refine Zv hE rfl Hp (Xo _ p0.Kind 1 4 r6 e7) ?_
  rintro v w a ⟨rfl,hK⟩ hE
  have hM:=hM.keep hK
  refine Zd hE rfl ?_; intro a hE
  refine X1 r6 (fun hb8=>?_) (fun hb8=>?_)
  ·have hl4:=Zw hl4 hb8
   refine Zj hE (Zq hE rfl (lkb rfl hb8)) (by decide) rfl (Kl) fun a hE=>ZN (v:=(vI p0.Number)) hE (Zq hE rfl (lkb rfl hb8)) (by decide) rfl ty2 rfl (At.cat (pre:=[[vI p0.Kind]]) hM.rawAt0 ck) ?_; intro a hE
   obtain ⟨r9,e10,hl4⟩:=bind_some hl4
   refine Z0 hE (Zq hE rfl (lkb rfl hb8)) (by decide) rfl (cbm Tryz.func193) (Ay _ p0.Number r9 e10) ?_
   rintro v w a ⟨rfl,hK⟩ hE
   have hM:=hM.keep hK
   refine Yy hE (lkb rfl hb8) rfl fun a hE=>Zc hE rfl fun a hE=>Zg ?_
   obtain rfl:=Option.some.inj hl4
   refine Zk ?_
   have hM:=M.fst (l:=[]) hM
   exact ⟨hE.sub ⟨rfl,trivial⟩,hM⟩
  ·have hl4:=Zx hl4 hb8
   refine Zr hE rfl (lkb rfl hb8) rfl (by decide) fun a hE=>Zr hE rfl (lkb rfl hb8) rfl (by decide) fun a hE=>Zr hE rfl (lkb rfl hb8) rfl (by decide) fun a hE=>Wc hE (lkb rfl hb8) rfl fun a hE=>Zc hE rfl fun a hE=>Zg ?_
   obtain rfl:=Option.some.inj hl4
   refine Zk ?_
   have hM:=M.fst (l:=[]) hM
   exact ⟨hE.sub ⟨rfl,trivial⟩,hM⟩
 ·skip
  rintro a w ⟨hE,hM⟩
  obtain rfl:=Option.some.inj hF5
  exact wp_ret (kr1 hE rfl rfl hM.kept)
def UB (p0 : GEvent) : Option (Bool) :=
 (Ts p0).bind fun r3=>some (!r3)
theorem BL (w0 : World) (p0 : GEvent) (r : Bool) (hF : UB p0 = some r) :
  Calls Tryz.prog 160 [(Value.agg (enc p0).toArray)].toArray w0 (Rt w0 (vT r)):=by
 refine ce Tryz.func160 ?_
 intro a hE
 have hM:=M.start w0
 unfold UB at hF
 refine Zb (ZK (cs:=cat [[vI p0.Kind],[vI p0.Number],enc p0.Tag]) hE hM Za ld rfl rfl fun b1 w a hM hE=>Zc hE rfl fun a hE=>Ze (Zb (Zm hE rfl Xp rfl hM.rawAt0 cq ?_))); intro a hE
 obtain ⟨r3,e4,hF⟩:=bind_some hF
 refine Zv hE rfl (cbm Tryz.func161) (zd _ p0 r3 e4) ?_
 rintro v w a ⟨rfl,hK⟩ hE
 have hM:=hM.keep hK
 refine QO hE rfl fun a hE=>Zc hE rfl fun a hE=>Ze ?_
 obtain rfl:=Option.some.inj hF
 exact wp_ret (kr1 hE rfl rfl hM.kept)
def VL (p0 : GVault) (s24 : Int) : Option (Fl Int (Fl Unit Bool)) :=
 if (decide (s24 < (p0.Records.length : Int))) = true then ((idx p0.Records s24).bind fun x29=>((Xn x29.Number 1 (wr (p0.Next - 1))).bind fun r45=>if (!r45) = true then (some true) else (if (decide (s24 > 0)) = true then ((idx p0.Records (wr (s24 - 1))).bind fun x50=>some (decide (x50.Number ≥ x29.Number))) else (some false)) : Option (Bool)).bind fun j41=>if j41 = true then (some (Fl.ex (Fl.ex false))) else (((Z5 p0.Keys).bind fun r68=>(Xn x29.Version 0 (wr (r68 - 1))).bind fun r70=>if (!r70) = true then (some true) else (if (decide ((x29.Label.length : Int) > 32)) = true then (some true) else (some (decide ((x29.Body.length : Int) > 200)))) : Option (Bool)).bind fun j64=>if j64 = true then (some (Fl.ex (Fl.ex false))) else (some (Fl.nx (wr (s24 + 1)))))) else (some (Fl.ex (Fl.nx ())))
def Tv (p0 : GVault) : Option (Bool) :=
 ((Z5 p0.Keys).bind fun r6=>(Xn r6 1 8).bind fun r8=>if (!r8) = true then (some true) else ((Xn p0.Next 1 1000000).bind fun r12=>if (!r12) = true then (some true) else (if (decide ((p0.Records.length : Int) > 12)) = true then (some true) else (some (decide ((p0.Events.length : Int) > 60))))) : Option (Bool)).bind fun j3=>if j3 = true then (some false) else ((ZB (VL p0) 0).bind fun j20=>j20.el (fun s23=>(Z3 p0.Events (fun z0=>UB z0)).bind fun r80=>some (!r80)) (fun r=>some r))
theorem zi (w0 : World) (p0 : GVault) (v0_1 : Value) (hv0_1 : Ro w0 p0.Keys [v0_1]) (v0_2 : Value) (hv0_2 : Ro w0 p0.Records [v0_2]) (v0_3 : Value) (hv0_3 : Ro w0 p0.Events [v0_3]) (r : Bool) (hF : Tv p0 = some r) :
  Calls Tryz.prog 103 [(Value.agg (cat [[v0_1],[vI p0.Next],[v0_2],[v0_3],enc p0.Head]).toArray)].toArray w0 (Rt w0 (vT r)):=by
 refine ce Tryz.func103 ?_
 intro a hE
 have hM:=M.start w0
 unfold Tv at hF
 refine Zb (ZK (cs:=cat [[v0_1],[vI p0.Next],[v0_2],[v0_3],enc p0.Head]) hE hM Za ld rfl rfl fun b1 w a hM hE=>Zc hE rfl fun a hE=>Ze (wp_seq ?_))
 obtain ⟨j3,hl4,hF5⟩:=bind_some hF
 refine ZO (fun a w=>Env 84 a [(1,(ptr b1 0)),(27,vT j3)] ∧ M (Old w0) w0 w [raw b1 (cat [[v0_1],[vI p0.Next],[v0_2],[v0_3],enc p0.Head])]) ?_ ?_
 ·skip
  refine wp_region_lit (Zf hE rfl (WZ) fun a hE=>Zy (v:=v0_1) hE rfl Q7 rfl (At.cat (pre:=[]) hM.rawAt0 cl0) ?_); intro a hE
  obtain ⟨r6,e7,hl4⟩:=bind_some hl4
  refine Zv hE rfl yb (YG _ p0.Keys v0_1 (hM.rdo hv0_1) r6 e7) ?_
  rintro v w a ⟨rfl,hK⟩ hE
  have hM:=hM.keep hK
  obtain ⟨r8,e9,hl4⟩:=bind_some hl4
  refine Zv hE rfl Hp (Xo _ r6 1 8 r8 e9) ?_
  rintro v w a ⟨rfl,hK⟩ hE
  have hM:=hM.keep hK
  refine QO hE rfl fun a hE=>Zd hE rfl ?_; intro a hE
  refine X1 (!r8) (fun hb10=>?_) (fun hb10=>?_)
  ·have hl4:=Zw hl4 hb10
   refine Zr hE rfl (lkb rfl hb10) rfl (by decide) fun a hE=>Zr hE rfl (lkb rfl hb10) rfl (by decide) fun a hE=>Zr hE rfl (lkb rfl hb10) rfl (by decide) fun a hE=>Zr hE rfl (lkb rfl hb10) rfl (by decide) fun a hE=>Yy hE (lkb rfl hb10) rfl fun a hE=>Zd hE rfl fun a hE=>Zr hE rfl rfl rfl (by decide) fun a hE=>Zr hE rfl rfl rfl (by decide) fun a hE=>Zr hE rfl rfl rfl (by decide) fun a hE=>Zr hE rfl rfl rfl (by decide) fun a hE=>Yy hE rfl rfl fun a hE=>Zd hE rfl ?_; intro a hE
   refine Zr hE rfl rfl rfl (by decide) fun a hE=>Zr hE rfl rfl rfl (by decide) fun a hE=>Zr hE rfl rfl rfl (by decide) fun a hE=>Zr hE rfl rfl rfl (by decide) fun a hE=>Yy hE rfl rfl fun a hE=>Zg ?_
   obtain rfl:=Option.some.inj hl4
   refine Zk ?_
   exact ⟨hE.sub ⟨rfl,rfl,trivial⟩,hM⟩
  ·have hl4:=Zx hl4 hb10
   refine Zj hE (Zq hE rfl (lkb rfl hb10)) (by decide) rfl (Ky) fun a hE=>ZN (v:=(vI p0.Next)) hE (Zq hE rfl (lkb rfl hb10)) (by decide) rfl ty2 rfl (At.cat (pre:=[[v0_1]]) hM.rawAt0 ck) ?_; intro a hE
   obtain ⟨r12,e13,hl4⟩:=bind_some hl4
   refine Z0 hE (Zq hE rfl (lkb rfl hb10)) (by decide) rfl Hp (Xo _ p0.Next 1 1000000 r12 e13) ?_
   rintro v w a ⟨rfl,hK⟩ hE
   have hM:=hM.keep hK
   refine KA hE (Zq hE rfl (lkb rfl hb10)) (by decide) rfl fun a hE=>Wc hE (lkb rfl hb10) rfl fun a hE=>Zd hE rfl ?_; intro a hE
   refine X1 (!r12) (fun hb14=>?_) (fun hb14=>?_)
   ·have hl4:=Zw hl4 hb14
    refine Zr hE rfl (lkb rfl hb14) rfl (by decide) fun a hE=>Zr hE rfl (lkb rfl hb14) rfl (by decide) fun a hE=>Zr hE rfl (lkb rfl hb14) rfl (by decide) fun a hE=>Zr hE rfl (lkb rfl hb14) rfl (by decide) fun a hE=>Yy hE (lkb rfl hb14) rfl fun a hE=>Zd hE rfl fun a hE=>Zr hE rfl rfl rfl (by decide) fun a hE=>Zr hE rfl rfl rfl (by decide) fun a hE=>Zr hE rfl rfl rfl (by decide) fun a hE=>Zr hE rfl rfl rfl (by decide) fun a hE=>Yy hE rfl rfl fun a hE=>Zg ?_
    obtain rfl:=Option.some.inj hl4
    refine Zk ?_
    exact ⟨hE.sub ⟨rfl,rfl,trivial⟩,hM⟩
   ·have hl4:=Zx hl4 hb14
    refine Zj hE (Zq hE rfl (lkb rfl hb14)) (by decide) rfl (Y2) fun a hE=>ZN (v:=v0_2) hE (Zq hE rfl (lkb rfl hb14)) (by decide) rfl Tr rfl (At.cat (pre:=[[v0_1],[vI p0.Next]]) hM.rawAt0 ck) fun a hE=>Kx hE (Zq hE rfl (lkb rfl hb14)) (by decide) rfl Tryz.underlying55 (hM.rd hv0_2) fun a hE=>Yt hE (Zq hE rfl (lkb rfl hb14)) (by decide) rfl rfl rfl fun a hE=>Wc hE (lkb rfl hb14) rfl fun a hE=>Zd hE rfl ?_; intro a hE
    refine X1 (decide ((p0.Records.length : Int) > 12)) (fun hb16=>?_) (fun hb16=>?_)
    ·have hl4:=Zw hl4 hb16
     refine Zr hE rfl (lkb rfl hb16) rfl (by decide) fun a hE=>Zr hE rfl (lkb rfl hb16) rfl (by decide) fun a hE=>Zr hE rfl (lkb rfl hb16) rfl (by decide) fun a hE=>Zr hE rfl (lkb rfl hb16) rfl (by decide) fun a hE=>Yy hE (lkb rfl hb16) rfl fun a hE=>Zg ?_
     obtain rfl:=Option.some.inj hl4
     refine Zk ?_
     exact ⟨hE.sub ⟨rfl,rfl,trivial⟩,hM⟩
    ·have hl4:=Zx hl4 hb16
     refine Zj hE (Zq hE rfl (lkb rfl hb16)) (by decide) rfl (Us) fun a hE=>ZN (v:=v0_3) hE (Zq hE rfl (lkb rfl hb16)) (by decide) rfl KJ rfl (At.cat (pre:=[[v0_1],[vI p0.Next],[v0_2]]) hM.rawAt0 ck) fun a hE=>Kx hE (Zq hE rfl (lkb rfl hb16)) (by decide) rfl Tryz.underlying56 (hM.rd hv0_3) fun a hE=>Yt hE (Zq hE rfl (lkb rfl hb16)) (by decide) rfl rfl rfl fun a hE=>Wc hE (lkb rfl hb16) rfl fun a hE=>Zg ?_
     obtain rfl:=Option.some.inj hl4
     refine Zk ?_
     exact ⟨hE.sub ⟨rfl,rfl,trivial⟩,hM⟩
 ·skip
  rintro a w ⟨hE,hM⟩
  refine Zo hE rfl ?_ ?_
  ·intro hb19
   have hF5:=Zw hF5 hb19
   refine Zb (Zc hE rfl fun a hE=>Ze ?_)
   obtain rfl:=Option.some.inj hF5
   exact wp_ret (Zs (kr1 hE rfl rfl hM.kept))
  ·intro hb19
   have hF5:=Zx hF5 hb19
   refine wp_skip (Zt (wp_seq (Zb (Zf hE rfl (Y2) fun a hE=>Zy (v:=v0_2) hE rfl Tr rfl (At.cat (pre:=[[v0_1],[vI p0.Next]]) hM.rawAt0 ck) fun a hE=>Yf hE rfl Tryz.underlying55 (hM.rd hv0_2) fun a hE=>Zd hE rfl fun a hE=>Ze ?_))))
   obtain ⟨j20,hl21,hF22⟩:=bind_some hF5
   refine ZM (fun a w=>∃ s23 : Unit,j20 = Fl.nx s23 ∧ Env 84 a [(1,(ptr b1 0))] ∧ M (Old w0) w0 w [raw b1 (cat [[v0_1],[vI p0.Next],[v0_2],[v0_3],enc p0.Head])]) ?_ ?_
   ·skip
    refine wp_block ?_
    refine ZE (fun (s24 : Int) a w=>Env 84 a [(1,(ptr b1 0)),(29,v0_2),(30,(vI (p0.Records.length : Int))),(31,vI s24)] ∧ M (Old w0) w0 w [raw b1 (cat [[v0_1],[vI p0.Next],[v0_2],[v0_3],enc p0.Head])]) hl21 ⟨hE.sub ⟨rfl,rfl,rfl,rfl,trivial⟩,hM⟩ ?_
    rintro s24 a w ⟨hE,hM⟩ o27 hs25 hx26
    unfold VL at hs25
    refine Zb (Zh hE rfl rfl rfl fun a hE=>Ze (wp_seq ?_))
    refine Zo hE rfl ?_ ?_
    ·intro hb28
     have hs25:=Zw hs25 hb28
     refine wp_skip (Zt (wp_seq (wp_block (Zb (Zd hE rfl ?_))))); intro a hE
     obtain ⟨x29,hi31,hs25⟩:=bix hs25
     refine ZL hE rfl rfl Tryz.underlying55 ZV (hM.rd hv0_2) hi31.1 ?_; intro a hE
     obtain ⟨cs32,hs33,hA34⟩:=Xj hv0_2 hi31.2 -- ^
     obtain ⟨u35,u37,rfl,h36,h38⟩:=Yp hs33 -- ^
     refine Zm hE rfl ZV rfl (hM.atk hA34 (Wu hv0_2 hi31.2)) cq fun a hE=>Zz hE hM ZV fun b39 w a hM hE=>Zc hE rfl fun a hE=>Zl (seg:=cat [[vI x29.Number],[vI x29.Version],enc x29.Nonce,[u35],[u37],enc x29.Tag]) (cs':=cat [[vI x29.Number],[vI x29.Version],enc x29.Nonce,[u35],[u37],enc x29.Tag]) hE hM Za rfl rfl rfl ZV cq (Nat.le_of_eq ((Nat.zero_add _).trans (Eq.trans cq (Eq.symm cq)))) (Z1 (cc1 (Flat.cell (x29.Number : Int)) (cc1 (Flat.cell (x29.Version : Int)) (cc1 (Flat.cell _) (cc1 (Rep.cell (hM.rd h36)) (cc1 (Rep.cell (hM.rd h38)) (cc1 (Flat.cell _) cc0))))))) (Zi (Eq.trans cq (Eq.symm cq))) fun w a hM hE=>Ze (wp_seq ?_)
     obtain ⟨j41,hl42,hF43⟩:=bind_some hs25
     refine ZO (fun a w=>Env 84 a [(1,(ptr b1 0)),(4,(ptr b39 0)),(29,v0_2),(30,(vI (p0.Records.length : Int))),(31,vI s24),(58,vT j41)] ∧ M (Old w0) w0 w [raw b39 (cat [[vI x29.Number],[vI x29.Version],enc x29.Nonce,[u35],[u37],enc x29.Tag]),raw b1 (cat [[v0_1],[vI p0.Next],[v0_2],[v0_3],enc p0.Head])]) ?_ ?_
     ·skip
      obtain ⟨r45,e46,hl42⟩:=bind_some hl42
      refine X1 (!r45) (fun hb47=>?_) (fun hb47=>?_)
      ·have hl42:=Zw hl42 hb47
       refine Z9 [36,37,38,39,40,41,42,43,44,45,46,47,48,49,50,51,52,53,54,55,56,57,58] YF rfl rfl (by decide) rfl hE hM (qsP (fun z=>Zj z.E Za ld rfl (VS) (kr0 rfl)) (qsP (fun z=>ZN (v:=(vI x29.Number)) z.E Za ld rfl ty2 rfl (At.cat (pre:=[]) (z.M.rawAt0) cl0) (kr0 rfl)) (qsP (fun z=>Zj z.E Za ld rfl (Ky) (kr0 rfl)) (qsP (fun z=>ZN (v:=(vI p0.Next)) z.E Za ld rfl ty2 rfl (At.cat (pre:=[[v0_1]]) (z.M.rawAt1) ck) (kr0 rfl)) (qsP (v:=(vI (wr (p0.Next - 1)))) (fun z=>Yt z.E Za ld rfl rfl rfl (kr0 rfl)) (qsP (fun z=>Z0 z.E Za ld rfl Hp (Xo _ x29.Number 1 (wr (p0.Next - 1)) r45 e46) (kc rfl)) (qsP (fun z=>KA z.E Za ld rfl (kr0 rfl)) (qsP (fun z=>Zu z.E Za ld rfl (kr0 rfl)) (qsP (fun z=>Zr z.E rfl (lkb rfl hb47) rfl (by decide) (kr0 rfl)) (qsP (fun z=>Zr z.E rfl (lkb rfl hb47) rfl (by decide) (kr0 rfl)) (qsP (fun z=>Zr z.E rfl (lkb rfl hb47) rfl (by decide) (kr0 rfl)) (qsP (fun z=>QX z.E rfl rfl (by decide) (kr0 rfl)) (qsP (fun z=>QX z.E rfl rfl (by decide) (kr0 rfl)) (qsP (fun z=>QX z.E rfl rfl (by decide) (kr0 rfl)) (qsP (fun z=>QX z.E rfl rfl (by decide) (kr0 rfl)) (qsP (fun z=>QX z.E rfl rfl (by decide) (kr0 rfl)) (qsP (fun z=>QX z.E rfl rfl (by decide) (kr0 rfl)) (qsP (fun z=>QX z.E rfl rfl (by decide) (kr0 rfl)) (qsP (fun z=>QX z.E rfl rfl (by decide) (kr0 rfl)) (qsP (fun z=>QX z.E rfl rfl (by decide) (kr0 rfl)) (qsP (fun z=>QX z.E rfl rfl (by decide) (kr0 rfl)) (qsP (fun z=>Zr z.E rfl (lkb rfl hb47) rfl (by decide) (kr0 rfl)) (qsP (fun z=>Kh z.E Za ld (lkb rfl hb47) rfl (kr0 rfl)) qs0))))))))))))))))))))))) ?_
       ·intro a w u hE hM
        refine Zg ?_
        obtain rfl:=Option.some.inj hl42
        refine Zk ?_
        exact ⟨hE.sub ⟨rfl,rfl,rfl,rfl,rfl,rfl,trivial⟩,hM⟩
      ·have hl42:=Zx hl42 hb47
       refine X1 (decide (s24 > 0)) (fun hb49=>?_) (fun hb49=>?_)
       ·have hl42:=Zw hl42 hb49
        obtain ⟨x50,hi52,hl42⟩:=bix hl42
        obtain ⟨cs53,hs54,hA55⟩:=Xj hv0_2 hi52.2 -- ^
        obtain ⟨u56,u58,rfl,h57,h59⟩:=Yp hs54 -- ^
        refine Z9 [36,37,38,39,40,41,42,43,44,45,46,47,48,49,50,51,52,53,54,55,56,57,58] YF rfl rfl (by decide) rfl hE hM (qsP (fun z=>Zj z.E Za ld rfl (VS) (kr0 rfl)) (qsP (fun z=>ZN (v:=(vI x29.Number)) z.E Za ld rfl ty2 rfl (At.cat (pre:=[]) (z.M.rawAt0) cl0) (kr0 rfl)) (qsP (fun z=>Zj z.E Za ld rfl (Ky) (kr0 rfl)) (qsP (fun z=>ZN (v:=(vI p0.Next)) z.E Za ld rfl ty2 rfl (At.cat (pre:=[[v0_1]]) (z.M.rawAt1) ck) (kr0 rfl)) (qsP (v:=(vI (wr (p0.Next - 1)))) (fun z=>Yt z.E Za ld rfl rfl rfl (kr0 rfl)) (qsP (fun z=>Z0 z.E Za ld rfl Hp (Xo _ x29.Number 1 (wr (p0.Next - 1)) r45 e46) (kc rfl)) (qsP (fun z=>KA z.E Za ld rfl (kr0 rfl)) (qsP (fun z=>Zu z.E Za ld rfl (kr0 rfl)) (qsP (fun z=>Zu z.E (Zq z.E rfl (lkb rfl hb47)) (by decide) rfl (kr0 rfl)) (qsP (fun z=>Yt z.E (Zq z.E rfl (lkb rfl hb47)) (by decide) rfl rfl rfl (kr0 rfl)) (qsP (fun z=>Zu z.E (Zq z.E rfl (lkb rfl hb47)) (by decide) rfl (kr0 rfl)) (qsP (fun z=>Zj z.E (Zq z.E rfl (lkb rfl hb49)) (by decide) rfl (Y2) (kr0 rfl)) (qsP (fun z=>ZN (v:=v0_2) z.E (Zq z.E rfl (lkb rfl hb49)) (by decide) rfl Tr rfl (At.cat (pre:=[[v0_1],[vI p0.Next]]) (z.M.rawAt1) ck) (kr0 rfl)) (qsP (fun z=>Zu z.E (Zq z.E rfl (lkb rfl hb49)) (by decide) rfl (kr0 rfl)) (qsP (v:=(vI (wr (s24 - 1)))) (fun z=>Yt z.E (Zq z.E rfl (lkb rfl hb49)) (by decide) rfl rfl rfl (kr0 rfl)) (qsP (fun z=>YR z.E (Zq z.E rfl (lkb rfl hb49)) (by decide) rfl rfl Tryz.underlying55 ZV (z.M.rd hv0_2) hi52.1 (kr0 rfl)) (qsP (fun z=>Zj z.E (Zq z.E rfl (lkb rfl hb49)) (by decide) rfl (VS) (kr0 rfl)) (qsP (fun z=>ZN (v:=(vI x50.Number)) z.E (Zq z.E rfl (lkb rfl hb49)) (by decide) rfl ty2 rfl (At.cat (pre:=[]) (z.M.atk hA55 (Wu hv0_2 hi52.2)) cl0) (kr0 rfl)) (qsP (fun z=>Zj z.E (Zq z.E rfl (lkb rfl hb49)) (by decide) rfl (VS) (kr0 rfl)) (qsP (fun z=>ZN (v:=(vI x29.Number)) z.E (Zq z.E rfl (lkb rfl hb49)) (by decide) rfl ty2 rfl (At.cat (pre:=[]) (z.M.rawAt0) cl0) (kr0 rfl)) (qsP (fun z=>Yt z.E (Zq z.E rfl (lkb rfl hb49)) (by decide) rfl rfl rfl (kr0 rfl)) (qsP (fun z=>Kh z.E (Zq z.E rfl (lkb rfl hb47)) (by decide) (lkb rfl hb49) rfl (kr0 rfl)) (qsP (fun z=>QY z.E Za ld (lkb rfl hb47) rfl (kr0 rfl)) qs0))))))))))))))))))))))) ?_
        ·intro a w u hE hM
         refine Zg ?_
         obtain rfl:=Option.some.inj hl42
         refine Zk ?_
         exact ⟨hE.sub ⟨rfl,rfl,rfl,rfl,rfl,rfl,trivial⟩,hM⟩
       ·have hl42:=Zx hl42 hb49
        refine Z9 [36,37,38,39,40,41,42,43,44,45,46,47,48,49,50,51,52,53,54,55,56,57,58] YF rfl rfl (by decide) rfl hE hM (qsP (fun z=>Zj z.E Za ld rfl (VS) (kr0 rfl)) (qsP (fun z=>ZN (v:=(vI x29.Number)) z.E Za ld rfl ty2 rfl (At.cat (pre:=[]) (z.M.rawAt0) cl0) (kr0 rfl)) (qsP (fun z=>Zj z.E Za ld rfl (Ky) (kr0 rfl)) (qsP (fun z=>ZN (v:=(vI p0.Next)) z.E Za ld rfl ty2 rfl (At.cat (pre:=[[v0_1]]) (z.M.rawAt1) ck) (kr0 rfl)) (qsP (v:=(vI (wr (p0.Next - 1)))) (fun z=>Yt z.E Za ld rfl rfl rfl (kr0 rfl)) (qsP (fun z=>Z0 z.E Za ld rfl Hp (Xo _ x29.Number 1 (wr (p0.Next - 1)) r45 e46) (kc rfl)) (qsP (fun z=>KA z.E Za ld rfl (kr0 rfl)) (qsP (fun z=>Zu z.E Za ld rfl (kr0 rfl)) (qsP (fun z=>Zu z.E (Zq z.E rfl (lkb rfl hb47)) (by decide) rfl (kr0 rfl)) (qsP (fun z=>Yt z.E (Zq z.E rfl (lkb rfl hb47)) (by decide) rfl rfl rfl (kr0 rfl)) (qsP (fun z=>Zu z.E (Zq z.E rfl (lkb rfl hb47)) (by decide) rfl (kr0 rfl)) (qsP (fun z=>Zr z.E rfl (lkb rfl hb49) rfl (by decide) (kr0 rfl)) (qsP (fun z=>Zr z.E rfl (lkb rfl hb49) rfl (by decide) (kr0 rfl)) (qsP (fun z=>Zr z.E rfl (lkb rfl hb49) rfl (by decide) (kr0 rfl)) (qsP (fun z=>Zr z.E rfl (lkb rfl hb49) rfl (by decide) (kr0 rfl)) (qsP (fun z=>Zr z.E rfl (lkb rfl hb49) rfl (by decide) (kr0 rfl)) (qsP (fun z=>Zr z.E rfl (lkb rfl hb49) rfl (by decide) (kr0 rfl)) (qsP (fun z=>Zr z.E rfl (lkb rfl hb49) rfl (by decide) (kr0 rfl)) (qsP (fun z=>Zr z.E rfl (lkb rfl hb49) rfl (by decide) (kr0 rfl)) (qsP (fun z=>Zr z.E rfl (lkb rfl hb49) rfl (by decide) (kr0 rfl)) (qsP (fun z=>Zr z.E rfl (lkb rfl hb49) rfl (by decide) (kr0 rfl)) (qsP (fun z=>QY z.E (Zq z.E rfl (lkb rfl hb47)) (by decide) (lkb rfl hb49) rfl (kr0 rfl)) (qsP (fun z=>QY z.E Za ld (lkb rfl hb47) rfl (kr0 rfl)) qs0))))))))))))))))))))))) ?_
        ·intro a w u hE hM
         refine Zg ?_
         obtain rfl:=Option.some.inj hl42
         refine Zk ?_
         exact ⟨hE.sub ⟨rfl,rfl,rfl,rfl,rfl,rfl,trivial⟩,hM⟩
     ·skip
      rintro a w ⟨hE,hM⟩
      refine Zo hE rfl ?_ ?_
      ·intro hb62
       have hF43:=Zw hF43 hb62
       refine Zb (Zc hE rfl fun a hE=>Ze ?_)
       obtain rfl:=hx26 _ (ois hF43)
       obtain rfl:=Option.some.inj hF22
       exact wp_ret (Zs (Yr (Zs (Zs (Yr (Zs (Zs (kr1 hE rfl rfl hM.kept))))))))
      ·intro hb62
       have hF43:=Zx hF43 hb62
       refine wp_skip (Zt ?_)
       obtain ⟨j64,hl65,hF66⟩:=bind_some hF43
       refine ZO (fun a w=>Env 84 a [(1,(ptr b1 0)),(29,v0_2),(30,(vI (p0.Records.length : Int))),(31,vI s24),(78,vT j64)] ∧ M (Old w0) w0 w [raw b1 (cat [[v0_1],[vI p0.Next],[v0_2],[v0_3],enc p0.Head])]) ?_ ?_
       ·skip
        obtain ⟨r68,e69,hl65⟩:=bind_some hl65
        obtain ⟨r70,e71,hl65⟩:=bind_some hl65
        refine X1 (!r70) (fun hb72=>?_) (fun hb72=>?_)
        ·have hl65:=Zw hl65 hb72
         refine Z9 [59,60,61,62,63,64,65,66,67,68,69,70,71,72,73,74,75,76,77,78] YF rfl rfl (by decide) rfl hE hM (qsP (fun z=>Zj z.E Za ld rfl (WE) (kr0 rfl)) (qsP (fun z=>ZN (v:=(vI x29.Version)) z.E Za ld rfl ty2 rfl (At.cat (pre:=[[vI x29.Number]]) (z.M.rawAt0) ck) (kr0 rfl)) (qsP (fun z=>Zj z.E Za ld rfl (WZ) (kr0 rfl)) (qsP (fun z=>ZN (v:=v0_1) z.E Za ld rfl Q7 rfl (At.cat (pre:=[]) (z.M.rawAt1) cl0) (kr0 rfl)) (qsP (fun z=>Z0 z.E Za ld rfl yb (YG _ p0.Keys v0_1 (z.M.rdo hv0_1) r68 e69) (kc rfl)) (qsP (v:=(vI (wr (r68 - 1)))) (fun z=>Yt z.E Za ld rfl rfl rfl (kr0 rfl)) (qsP (fun z=>Z0 z.E Za ld rfl Hp (Xo _ x29.Version 0 (wr (r68 - 1)) r70 e71) (kc rfl)) (qsP (fun z=>KA z.E Za ld rfl (kr0 rfl)) (qsP (fun z=>Zu z.E Za ld rfl (kr0 rfl)) (qsP (fun z=>Zr z.E rfl (lkb rfl hb72) rfl (by decide) (kr0 rfl)) (qsP (fun z=>Zr z.E rfl (lkb rfl hb72) rfl (by decide) (kr0 rfl)) (qsP (fun z=>Zr z.E rfl (lkb rfl hb72) rfl (by decide) (kr0 rfl)) (qsP (fun z=>Zr z.E rfl (lkb rfl hb72) rfl (by decide) (kr0 rfl)) (qsP (fun z=>Kh z.E Za ld (lkb rfl hb72) rfl (kr0 rfl)) (qsP (fun z=>Zu z.E Za ld rfl (kr0 rfl)) (qsP (fun z=>Zr z.E rfl rfl rfl (by decide) (kr0 rfl)) (qsP (fun z=>Zr z.E rfl rfl rfl (by decide) (kr0 rfl)) (qsP (fun z=>Zr z.E rfl rfl rfl (by decide) (kr0 rfl)) (qsP (fun z=>Zr z.E rfl rfl rfl (by decide) (kr0 rfl)) (qsP (fun z=>Kh z.E Za ld rfl rfl (kr0 rfl)) qs0)))))))))))))))))))) ?_
         ·intro a w u hE hM
          refine Zg ?_
          obtain rfl:=Option.some.inj hl65
          refine Zk ?_
          have hM:=M.fst (l:=[_]) hM.pull1
          exact ⟨hE.sub ⟨rfl,rfl,rfl,rfl,rfl,trivial⟩,hM⟩
        ·have hl65:=Zx hl65 hb72
         refine X1 (decide ((x29.Label.length : Int) > 32)) (fun hb74=>?_) (fun hb74=>?_)
         ·have hl65:=Zw hl65 hb74
          refine Z9 [59,60,61,62,63,64,65,66,67,68,69,70,71,72,73,74,75,76,77,78] YF rfl rfl (by decide) rfl hE hM (qsP (fun z=>Zj z.E Za ld rfl (WE) (kr0 rfl)) (qsP (fun z=>ZN (v:=(vI x29.Version)) z.E Za ld rfl ty2 rfl (At.cat (pre:=[[vI x29.Number]]) (z.M.rawAt0) ck) (kr0 rfl)) (qsP (fun z=>Zj z.E Za ld rfl (WZ) (kr0 rfl)) (qsP (fun z=>ZN (v:=v0_1) z.E Za ld rfl Q7 rfl (At.cat (pre:=[]) (z.M.rawAt1) cl0) (kr0 rfl)) (qsP (fun z=>Z0 z.E Za ld rfl yb (YG _ p0.Keys v0_1 (z.M.rdo hv0_1) r68 e69) (kc rfl)) (qsP (v:=(vI (wr (r68 - 1)))) (fun z=>Yt z.E Za ld rfl rfl rfl (kr0 rfl)) (qsP (fun z=>Z0 z.E Za ld rfl Hp (Xo _ x29.Version 0 (wr (r68 - 1)) r70 e71) (kc rfl)) (qsP (fun z=>KA z.E Za ld rfl (kr0 rfl)) (qsP (fun z=>Zu z.E Za ld rfl (kr0 rfl)) (qsP (fun z=>Zj z.E (Zq z.E rfl (lkb rfl hb72)) (by decide) rfl (V2) (kr0 rfl)) (qsP (fun z=>ZN (v:=u35) z.E (Zq z.E rfl (lkb rfl hb72)) (by decide) rfl Wh rfl (At.cat (pre:=[[vI x29.Number],[vI x29.Version],enc x29.Nonce]) (z.M.rawAt0) ck) (kr0 rfl)) (qsP (fun z=>Kx z.E (Zq z.E rfl (lkb rfl hb72)) (by decide) rfl Tryz.underlying40 (z.M.rd h36) (kr0 rfl)) (qsP (fun z=>Yt z.E (Zq z.E rfl (lkb rfl hb72)) (by decide) rfl rfl rfl (kr0 rfl)) (qsP (fun z=>QY z.E Za ld (lkb rfl hb72) rfl (kr0 rfl)) (qsP (fun z=>Zu z.E Za ld rfl (kr0 rfl)) (qsP (fun z=>Zr z.E rfl (lkb rfl hb74) rfl (by decide) (kr0 rfl)) (qsP (fun z=>Zr z.E rfl (lkb rfl hb74) rfl (by decide) (kr0 rfl)) (qsP (fun z=>Zr z.E rfl (lkb rfl hb74) rfl (by decide) (kr0 rfl)) (qsP (fun z=>Zr z.E rfl (lkb rfl hb74) rfl (by decide) (kr0 rfl)) (qsP (fun z=>Kh z.E Za ld (lkb rfl hb74) rfl (kr0 rfl)) qs0)))))))))))))))))))) ?_
          ·intro a w u hE hM
           refine Zg ?_
           obtain rfl:=Option.some.inj hl65
           refine Zk ?_
           have hM:=M.fst (l:=[_]) hM.pull1
           exact ⟨hE.sub ⟨rfl,rfl,rfl,rfl,rfl,trivial⟩,hM⟩
         ·have hl65:=Zx hl65 hb74
          refine Z9 [59,60,61,62,63,64,65,66,67,68,69,70,71,72,73,74,75,76,77,78] YF rfl rfl (by decide) rfl hE hM (qsP (fun z=>Zj z.E Za ld rfl (WE) (kr0 rfl)) (qsP (fun z=>ZN (v:=(vI x29.Version)) z.E Za ld rfl ty2 rfl (At.cat (pre:=[[vI x29.Number]]) (z.M.rawAt0) ck) (kr0 rfl)) (qsP (fun z=>Zj z.E Za ld rfl (WZ) (kr0 rfl)) (qsP (fun z=>ZN (v:=v0_1) z.E Za ld rfl Q7 rfl (At.cat (pre:=[]) (z.M.rawAt1) cl0) (kr0 rfl)) (qsP (fun z=>Z0 z.E Za ld rfl yb (YG _ p0.Keys v0_1 (z.M.rdo hv0_1) r68 e69) (kc rfl)) (qsP (v:=(vI (wr (r68 - 1)))) (fun z=>Yt z.E Za ld rfl rfl rfl (kr0 rfl)) (qsP (fun z=>Z0 z.E Za ld rfl Hp (Xo _ x29.Version 0 (wr (r68 - 1)) r70 e71) (kc rfl)) (qsP (fun z=>KA z.E Za ld rfl (kr0 rfl)) (qsP (fun z=>Zu z.E Za ld rfl (kr0 rfl)) (qsP (fun z=>Zj z.E (Zq z.E rfl (lkb rfl hb72)) (by decide) rfl (V2) (kr0 rfl)) (qsP (fun z=>ZN (v:=u35) z.E (Zq z.E rfl (lkb rfl hb72)) (by decide) rfl Wh rfl (At.cat (pre:=[[vI x29.Number],[vI x29.Version],enc x29.Nonce]) (z.M.rawAt0) ck) (kr0 rfl)) (qsP (fun z=>Kx z.E (Zq z.E rfl (lkb rfl hb72)) (by decide) rfl Tryz.underlying40 (z.M.rd h36) (kr0 rfl)) (qsP (fun z=>Yt z.E (Zq z.E rfl (lkb rfl hb72)) (by decide) rfl rfl rfl (kr0 rfl)) (qsP (fun z=>QY z.E Za ld (lkb rfl hb72) rfl (kr0 rfl)) (qsP (fun z=>Zu z.E Za ld rfl (kr0 rfl)) (qsP (fun z=>Zj z.E (Zq z.E rfl (lkb rfl hb74)) (by decide) rfl (V1) (kr0 rfl)) (qsP (fun z=>ZN (v:=u37) z.E (Zq z.E rfl (lkb rfl hb74)) (by decide) rfl Wh rfl (At.cat (pre:=[[vI x29.Number],[vI x29.Version],enc x29.Nonce,[u35]]) (z.M.rawAt0) ck) (kr0 rfl)) (qsP (fun z=>Kx z.E (Zq z.E rfl (lkb rfl hb74)) (by decide) rfl Tryz.underlying40 (z.M.rd h38) (kr0 rfl)) (qsP (fun z=>Yt z.E (Zq z.E rfl (lkb rfl hb74)) (by decide) rfl rfl rfl (kr0 rfl)) (qsP (fun z=>QY z.E Za ld (lkb rfl hb74) rfl (kr0 rfl)) qs0)))))))))))))))))))) ?_
          ·intro a w u hE hM
           refine Zg ?_
           obtain rfl:=Option.some.inj hl65
           refine Zk ?_
           have hM:=M.fst (l:=[_]) hM.pull1
           exact ⟨hE.sub ⟨rfl,rfl,rfl,rfl,rfl,trivial⟩,hM⟩
       ·skip
        rintro a w ⟨hE,hM⟩
        refine Zo hE rfl ?_ ?_
        ·intro hb77
         have hF66:=Zw hF66 hb77
         refine Zb (Zc hE rfl fun a hE=>Ze ?_)
         obtain rfl:=hx26 _ (ois hF66)
         obtain rfl:=Option.some.inj hF22
         exact wp_ret (Yr (Zs (Zs (Yr (Zs (Zs (kr1 hE rfl rfl hM.kept)))))))
        ·intro hb77
         have hF66:=Zx hF66 hb77
         refine wp_skip (Yb (Zt (wp_region_lit (Zh hE rfl rfl rfl fun a hE=>Zd hE rfl fun a hE=>Zg (Zk ?_)))))
         exact ⟨_,(ois hF66),hE.sub ⟨rfl,rfl,rfl,rfl,trivial⟩,hM⟩
    ·intro hb28
     have hs25:=Zx hs25 hb28
     refine wp_exit (Zn (Zn (Yd ?_)))
     obtain rfl:=hx26 _ (ois hs25)
     refine Zk ?_
     exact ⟨(),rfl,hE.sub ⟨rfl,trivial⟩,hM⟩
   ·skip
    rintro a w ⟨s23,ht,hE,hM⟩
    subst ht
    have hF22:=TG hF22
    refine Zt (Zb (Zf hE rfl (Us) fun a hE=>Zy (v:=v0_3) hE rfl KJ rfl (At.cat (pre:=[[v0_1],[vI p0.Next],[v0_2]]) hM.rawAt0 ck) ?_)); intro a hE
    obtain ⟨r80,e81,hF22⟩:=bind_some hF22
    refine Zv hE rfl (cbm Tryz.func159) (UL _ p0.Events v0_3 (hM.rdo hv0_3) (fun z0=>UB z0) 160 [] (cbm Tryz.func160) (fun w2 hk2 z0 zr zhr=>BL w2 z0 zr zhr) r80 e81) ?_
    rintro v w a ⟨rfl,hK⟩ hE
    have hM:=hM.keep hK
    refine QO hE rfl fun a hE=>Zc hE rfl fun a hE=>Ze ?_
    obtain rfl:=Option.some.inj hF22
    exact wp_ret (kr1 hE rfl rfl hM.kept)
def Z2 (p0 : (List GRecord)) (p1 : GRecord → Option (Bool)) (s5 : Int) : Option (Fl Int (Fl Unit Int)) :=
 if (decide (s5 < (p0.length : Int))) = true then ((idx p0 s5).bind fun x10=>((p1 x10)).bind fun r20=>if r20 = true then (some (Fl.ex (Fl.ex s5))) else (some (Fl.nx (wr (s5 + 1))))) else (some (Fl.ex (Fl.nx ())))
def ZU (p0 : (List GRecord)) (p1 : GRecord → Option (Bool)) : Option (Int) :=
 (ZB (Z2 p0 p1) 0).bind fun j1=>j1.el (fun s4=>some (-1)) (fun r=>some r)
theorem XN (w0 : World) (p0 : (List GRecord)) (v0_1 : Value) (hv0_1 : Ro w0 p0 [v0_1]) (p1 : GRecord → Option (Bool)) (k1 : Nat) (q1 : List Value) (hcb1 : Callable Tryz.prog k1) (hg1 : ∀ (w2 : World),Kept (Old w0) w0 w2 → ∀ (z0 : GRecord) (zu1 : Value) (_ : Ro w2 z0.Label [zu1]) (zu2 : Value) (_ : Ro w2 z0.Body [zu2]) (zr : Bool),p1 z0 = some zr → Calls Tryz.prog k1 ([(Value.agg (cat [[vI z0.Number],[vI z0.Version],enc z0.Nonce,[zu1],[zu2],enc z0.Tag]).toArray)] ++ q1).toArray w2 (fun en w3=>∃ v,en = .returned v ∧ (v = (vT zr) ∧ Kept (Old w2) w2 w3))) (r : Int) (hF : ZU p0 p1 = some r) :
  Calls Tryz.prog 188 [v0_1,(Value.func (.func k1) #[] q1.toArray)].toArray w0 (Rt w0 (vI r)):=by
 refine ce Tryz.func188 ?_
 intro a hE
 have hM:=M.start w0
 unfold ZU at hF
 refine Zb (Zc hE rfl fun a hE=>Ze (wp_seq (Zb (Zd hE rfl fun a hE=>Yf hE rfl Tryz.underlying55 (hM.rd hv0_1) fun a hE=>Zd hE rfl fun a hE=>Ze ?_))))
 obtain ⟨j1,hl2,hF3⟩:=bind_some hF
 refine ZM (fun a w=>∃ s4 : Unit,j1 = Fl.nx s4 ∧ Env 19 a [] ∧ M (Old w0) w0 w []) ?_ ?_
 ·skip
  refine wp_block ?_
  refine ZE (fun (s5 : Int) a w=>Env 19 a [(0,v0_1),(1,(Value.func (.func k1) #[] q1.toArray)),(7,(vI (p0.length : Int))),(8,vI s5)] ∧ M (Old w0) w0 w []) hl2 ⟨hE.sub ⟨rfl,rfl,rfl,rfl,trivial⟩,hM⟩ ?_
  rintro s5 a w ⟨hE,hM⟩ o8 hs6 hx7
  unfold Z2 at hs6
  refine Zb (Zh hE rfl rfl rfl fun a hE=>Ze (wp_seq ?_))
  refine Zo hE rfl ?_ ?_
  ·intro hb9
   have hs6:=Zw hs6 hb9
   refine wp_skip (Zt (wp_seq (wp_block (Zb (Zd hE rfl fun a hE=>Zc hE rfl fun a hE=>Ze (Zb (Zd hE rfl fun a hE=>Zd hE rfl fun a hE=>Zd hE rfl ?_))))))); intro a hE
   obtain ⟨x10,hi12,hs6⟩:=bix hs6
   refine ZL hE rfl rfl Tryz.underlying55 ZV (hM.rd hv0_1) hi12.1 ?_; intro a hE
   obtain ⟨cs13,hs14,hA15⟩:=Xj hv0_1 hi12.2 -- ^
   obtain ⟨u16,u18,rfl,h17,h19⟩:=Yp hs14 -- ^
   refine Zm hE rfl ZV rfl (hM.atk hA15 (Wu hv0_1 hi12.2)) cq ?_; intro a hE
   obtain ⟨r20,e21,hs6⟩:=bind_some hs6
   refine kY (vs:=[(Value.agg (cat [[vI x10.Number],[vI x10.Version],enc x10.Nonce,[u16],[u18],enc x10.Tag]).toArray)]) hE Za ld rfl rfl hcb1 (hg1 _ hM.kept x10 u16 (hM.rdo h17) u18 (hM.rdo h19) r20 e21) ?_
   rintro v w a ⟨rfl,hK⟩ hE
   have hM:=hM.keep hK
   refine Ze ?_
   refine Zo hE rfl ?_ ?_
   ·intro hb22
    have hs6:=Zw hs6 hb22
    refine Zb (Zd hE rfl fun a hE=>Zc hE rfl fun a hE=>Ze ?_)
    obtain rfl:=hx7 _ (ois hs6)
    obtain rfl:=Option.some.inj hF3
    exact wp_ret (Yr (Zs (Zs (Yr (Zs (Zs (kr1 hE rfl rfl hM.kept)))))))
   ·intro hb22
    have hs6:=Zx hs6 hb22
    refine wp_skip (Yb (Zt (wp_region_lit (Zh hE rfl rfl rfl fun a hE=>Zd hE rfl fun a hE=>Zg (Zk ?_)))))
    exact ⟨_,(ois hs6),hE.sub ⟨rfl,rfl,rfl,rfl,trivial⟩,hM⟩
  ·intro hb9
   have hs6:=Zx hs6 hb9
   refine wp_exit (Zn (Zn (Yd ?_)))
   obtain rfl:=hx7 _ (ois hs6)
   refine Zk ?_
   exact ⟨(),rfl,hE.sub trivial,hM⟩
 ·skip
  rintro a w ⟨s4,ht,hE,hM⟩
  subst ht
  have hF3:=TG hF3
  refine Zt (Zb (Zc hE rfl fun a hE=>Ze ?_))
  obtain rfl:=Option.some.inj hF3
  exact wp_ret (kr1 hE rfl rfl hM.kept)
def VW (p0 : GRecord) (p1 : Int) : Option (Bool) :=
 some (p0.Number == p1)
theorem JE (w0 : World) (p0 : GRecord) (v0_1 : Value) (hv0_1 : Ro w0 p0.Label [v0_1]) (v0_2 : Value) (hv0_2 : Ro w0 p0.Body [v0_2]) (pb1 : Nat) (p1 : Int) (hA1 : At w0 pb1 0 ([vI p1])) (hB1 : Old w0 pb1) (r : Bool) (hF : VW p0 p1 = some r) :
  Calls Tryz.prog 189 [(Value.agg (cat [[vI p0.Number],[vI p0.Version],enc p0.Nonce,[v0_1],[v0_2],enc p0.Tag]).toArray),(ptr pb1 0)].toArray w0 (Rt w0 (vT r)):=by
 refine ce Tryz.func189 ?_
 intro a hE
 have hM:=M.start w0
 unfold VW at hF
 refine Zb (ZK (cs:=cat [[vI p0.Number],[vI p0.Version],enc p0.Nonce,[v0_1],[v0_2],enc p0.Tag]) hE hM Za ld rfl rfl fun b1 w a hM hE=>Zc hE rfl fun a hE=>Ze (Zb (Zf hE rfl (VS) fun a hE=>Zy (v:=(vI p0.Number)) hE rfl ty2 rfl (At.cat (pre:=[]) hM.rawAt0 cl0) fun a hE=>Zy (v:=(vI p1)) hE rfl ty2 rfl (hM.atk hA1 hB1) fun a hE=>Zh hE rfl rfl rfl fun a hE=>Zc hE rfl fun a hE=>Ze ?_)))
 obtain rfl:=Option.some.inj hF
 exact wp_ret (kr1 hE rfl rfl hM.kept)
def Vj (p0 : GVault) (p1 : Int) : Option (Int) :=
 (ZU p0.Records (fun z0=>VW z0 p1)).bind fun r5=>some r5
theorem H0 (w0 : World) (p0 : GVault) (v0_1 : Value) (hv0_1 : Ro w0 p0.Keys [v0_1]) (v0_2 : Value) (hv0_2 : Ro w0 p0.Records [v0_2]) (v0_3 : Value) (hv0_3 : Ro w0 p0.Events [v0_3]) (p1 : Int) (r : Int) (hF : Vj p0 p1 = some r) :
  Calls Tryz.prog 147 [(Value.agg (cat [[v0_1],[vI p0.Next],[v0_2],[v0_3],enc p0.Head]).toArray),vI p1].toArray w0 (Rt w0 (vI r)):=by
 refine ce Tryz.func147 ?_
 intro a hE
 have hM:=M.start w0
 unfold Vj at hF
 refine Zb (ZK (cs:=cat [[v0_1],[vI p0.Next],[v0_2],[v0_3],enc p0.Head]) hE hM Za ld rfl rfl fun b1 w a hM hE=>ZK (cs:=[vI p1]) hE hM Za ld rfl rfl fun b3 w a hM hE=>Zc hE rfl fun a hE=>Ze (Zb (Zf hE rfl (Y2) fun a hE=>Zy (v:=v0_2) hE rfl Tr rfl (At.cat (pre:=[[v0_1],[vI p0.Next]]) hM.rawAt1 ck) fun a hE=>z8 hE Za ld rfl ?_))); intro a hE
 obtain ⟨r5,e6,hF⟩:=bind_some hF
 refine Zv hE rfl (cbm Tryz.func188) (XN _ p0.Records v0_2 (hM.rdo hv0_2) (fun z0=>VW z0 p1) 189 [(ptr b3 0)] (cbm Tryz.func189) (fun w2 hk2 z0 zu0_0 zh0_0 zu0_1 zh0_1 zr zhr=>JE w2 z0 zu0_0 zh0_0 zu0_1 zh0_1 b3 p1 (z9 hM.rawAt0 hk2 (by simp [cat])) (JV hM.rawAt0 hk2 (by simp [cat])) zr zhr) r5 e6) ?_
 rintro v w a ⟨rfl,hK⟩ hE
 have hM:=hM.keep hK
 refine Zc hE rfl fun a hE=>Ze ?_
 obtain rfl:=Option.some.inj hF
 exact wp_ret (kr1 hE rfl rfl hM.kept)
def Vl (p0 : GVault) (p1 : Int) : Option (Int × Int) :=
 (Tv p0).bind fun r3=>if (!r3) = true then (some (0,1)) else ((Vj p0 p1).bind fun r6=>if (decide (r6 < 0)) = true then (some (0,4)) else (some (r6,0)))
theorem HY (w0 : World) (p0 : GVault) (v0_1 : Value) (hv0_1 : Ro w0 p0.Keys [v0_1]) (v0_2 : Value) (hv0_2 : Ro w0 p0.Records [v0_2]) (v0_3 : Value) (hv0_3 : Ro w0 p0.Events [v0_3]) (p1 : Int) (r : Int × Int) (hF : Vl p0 p1 = some r) :
  Calls Tryz.prog 86 [(Value.agg (cat [[v0_1],[vI p0.Next],[v0_2],[v0_3],enc p0.Head]).toArray),vI p1].toArray w0 (Rt w0 (Value.tuple [vI r.1,vI r.2].toArray)):=by
 refine ce Tryz.func86 ?_
 intro a hE
 have hM:=M.start w0
 unfold Vl at hF
 refine Zb (ZK (cs:=cat [[v0_1],[vI p0.Next],[v0_2],[v0_3],enc p0.Head]) hE hM Za ld rfl rfl fun b1 w a hM hE=>Zc hE rfl fun a hE=>Zc hE rfl fun a hE=>Ze (wp_seq (Zb (Zm hE rfl Yn rfl hM.rawAt0 cq ?_)))); intro a hE
 obtain ⟨r3,e4,hF⟩:=bind_some hF
 refine Zv hE rfl (cbm Tryz.func103) (zi _ p0 v0_1 (hM.rdo hv0_1) v0_2 (hM.rdo hv0_2) v0_3 (hM.rdo hv0_3) r3 e4) ?_
 rintro v w a ⟨rfl,hK⟩ hE
 have hM:=hM.keep hK
 refine QO hE rfl fun a hE=>Ze ?_
 refine Zo hE rfl ?_ ?_
 ·intro hb5
  have hF:=Zw hF hb5
  refine Zb (Zc hE rfl fun a hE=>Zc hE rfl fun a hE=>Ze ?_)
  obtain rfl:=Option.some.inj hF
  exact wp_ret (Zs (Th hE rfl (ZP hE rfl) (ZP hE rfl) ⟨_,rfl,rfl,hM.kept⟩))
 ·intro hb5
  have hF:=Zx hF hb5
  refine wp_skip (Zt (Zb (Zm hE rfl Yn rfl hM.rawAt0 cq fun a hE=>Zd hE rfl ?_))); intro a hE
  obtain ⟨r6,e7,hF⟩:=bind_some hF
  refine Zv hE rfl (cbm Tryz.func147) (H0 _ p0 v0_1 (hM.rdo hv0_1) v0_2 (hM.rdo hv0_2) v0_3 (hM.rdo hv0_3) p1 r6 e7) ?_
  rintro v w a ⟨rfl,hK⟩ hE
  have hM:=hM.keep hK
  refine Zc hE rfl fun a hE=>Ze (wp_seq (Zb (Zd hE rfl fun a hE=>Zh hE rfl rfl rfl fun a hE=>Ze ?_)))
  refine Zo hE rfl ?_ ?_
  ·intro hb8
   have hF:=Zw hF hb8
   refine Zb (Zc hE rfl fun a hE=>Zc hE rfl fun a hE=>Ze ?_)
   obtain rfl:=Option.some.inj hF
   exact wp_ret (Zs (Th hE rfl (ZP hE rfl) (ZP hE rfl) ⟨_,rfl,rfl,hM.kept⟩))
  ·intro hb8
   have hF:=Zx hF hb8
   refine wp_skip (Zt (Zb (Zd hE rfl fun a hE=>Zc hE rfl fun a hE=>Zc hE rfl fun a hE=>Ze ?_)))
   obtain rfl:=Option.some.inj hF
   exact wp_ret (Th hE rfl (ZP hE rfl) (ZP hE rfl) ⟨_,rfl,rfl,hM.kept⟩)
def TV (p1 : Int) (p2 : Int) (s4 : Int × Int) : Option (Fl (Int × Int) Int) :=
 if (decide (s4.2 ≥ p2)) = true then (((We s4.2).bind fun _=>(if ((Ki (VA s4.1 s4.2) 1) == 1) = true then ((We (wr (s4.2 - p2))).bind fun _=>some (BP s4.1 (yy p1 (wr (s4.2 - p2))))) else (some s4.1) : Option (Int)).bind fun j13=>some j13 : Option (Int)).bind fun j9=>some (Fl.nx (j9,wr (s4.2 - 1)))) else (some (Fl.ex s4.1))
def Qy (p0 : Int) (p1 : Int) (p2 : Int) : Option (Int) :=
 (ZB (TV p1 p2) (p0,15)).bind fun j1=>some j1
theorem k8 (w0 : World) (p0 : Int) (p1 : Int) (p2 : Int) (r : Int) (hF : Qy p0 p1 p2 = some r) :
  Calls Tryz.prog 240 [vI p0,vI p1,vI p2].toArray w0 (Rt w0 (vI r)):=by
 refine ce Tryz.func240 ?_
 intro a hE
 have hM:=M.start w0
 unfold Qy at hF
 refine Zb (Zc hE rfl fun a hE=>Ze (wp_seq (Zb (Zc hE rfl fun a hE=>Ze ?_))))
 obtain ⟨j1,hl2,hF3⟩:=bind_some hF
 refine ZM (fun a w=>Env 26 a [(0,vI j1)] ∧ M (Old w0) w0 w []) ?_ ?_
 ·skip
  refine wp_block ?_
  refine ZE (fun (s4 : Int × Int) a w=>Env 26 a [(0,vI s4.1),(1,vI p1),(2,vI p2),(7,vI s4.2)] ∧ M (Old w0) w0 w []) hl2 ⟨hE.sub ⟨rfl,rfl,rfl,rfl,trivial⟩,hM⟩ ?_
  rintro s4 a w ⟨hE,hM⟩ o7 hs5 hx6
  unfold TV at hs5
  refine wp_seq (Zb (Zd hE rfl fun a hE=>Zd hE rfl fun a hE=>Zh hE rfl rfl rfl fun a hE=>Ze ?_))
  refine Zo hE rfl ?_ ?_
  ·intro hb8
   have hs5:=Zw hs5 hb8
   refine wp_skip (Zt ?_)
   obtain ⟨j9,hl10,hF11⟩:=bind_some hs5
   refine ZO (fun a w=>Env 26 a [(0,vI j9),(1,vI p1),(2,vI p2),(7,vI s4.2)] ∧ M (Old w0) w0 w []) ?_ ?_
   ·skip
    refine wp_block (Zb (Zd hE rfl fun a hE=>Zd hE rfl ?_)); intro a hE
    obtain ⟨_,e12,hl10⟩:=bind_some hl10
    have e12:=V4 e12
    refine BC hE Za ld rfl rfl (JS _ _ e12) fun a hE=>Zh hE rfl rfl rfl fun a hE=>Zh hE rfl rfl rfl fun a hE=>Ze ?_
    obtain ⟨j13,hl14,hF15⟩:=bind_some hl10
    refine ZM (fun a w=>Env 26 a [(0,vI j13),(1,vI p1),(2,vI p2),(7,vI s4.2)] ∧ M (Old w0) w0 w []) ?_ ?_
    ·skip
     refine Zo hE rfl ?_ ?_
     ·intro hb16
      have hl14:=Zw hl14 hb16
      refine wp_region_lit (Zd hE rfl fun a hE=>Zd hE rfl fun a hE=>Zd hE rfl fun a hE=>Zd hE rfl fun a hE=>Zh hE rfl rfl rfl ?_); intro a hE
      obtain ⟨_,e17,hl14⟩:=bind_some hl14
      have e17:=V4 e17
      refine BC hE Za ld rfl rfl (qh _ _ e17) fun a hE=>Zh hE rfl rfl rfl fun a hE=>Zc hE rfl fun a hE=>Zg ?_
      obtain rfl:=Option.some.inj hl14
      refine Zk ?_
      exact ⟨hE.sub ⟨rfl,rfl,rfl,rfl,trivial⟩,hM⟩
     ·intro hb16
      have hl14:=Zx hl14 hb16
      refine wp_skip ?_
      obtain rfl:=Option.some.inj hl14
      refine Zk ?_
      exact ⟨hE.sub ⟨rfl,rfl,rfl,rfl,trivial⟩,hM⟩
    ·skip
     rintro a w ⟨hE,hM⟩
     refine Yb ?_
     obtain rfl:=Option.some.inj hF15
     refine Zk ?_
     exact ⟨hE.sub ⟨rfl,rfl,rfl,rfl,trivial⟩,hM⟩
   ·skip
    rintro a w ⟨hE,hM⟩
    refine wp_region_lit (Zd hE rfl fun a hE=>Zh hE rfl rfl rfl fun a hE=>Zc hE rfl fun a hE=>Zg (Zk ?_))
    exact ⟨_,(ois hF11),hE.sub ⟨rfl,rfl,rfl,rfl,trivial⟩,hM⟩
  ·intro hb8
   have hs5:=Zx hs5 hb8
   refine wp_exit (Zn (Zn (Yd ?_)))
   obtain rfl:=hx6 _ (ois hs5)
   refine Zk ?_
   exact ⟨hE.sub ⟨rfl,trivial⟩,hM⟩
 ·skip
  rintro a w ⟨hE,hM⟩
  refine Zt (Zb (Zd hE rfl fun a hE=>Zc hE rfl fun a hE=>Ze ?_))
  obtain rfl:=Option.some.inj hF3
  exact wp_ret (kr1 hE rfl rfl hM.kept)
def XV (p1 : UInt8) (p2 : UInt8) (s4 : Int × Int) : Option (Fl (Int × Int) Int) :=
 if (decide (s4.2 < 8)) = true then (((We s4.2).bind fun _=>(if (((yf p2 s4.2) &&& 1) == 1) = true then ((We s4.2).bind fun _=>some (BP s4.1 (yy (bI p1) s4.2))) else (some s4.1) : Option (Int)).bind fun j13=>some j13 : Option (Int)).bind fun j9=>some (Fl.nx (j9,wr (s4.2 + 1)))) else (some (Fl.ex s4.1))
def Yo (p0 : Int) (p1 : UInt8) (p2 : UInt8) : Option (UInt8) :=
 (ZB (XV p1 p2) (0,0)).bind fun j1=>(Qy j1 p0 8).bind fun r22=>some (Zp r22)
theorem Y9 (w0 : World) (p0 : Int) (p1 : UInt8) (p2 : UInt8) (r : UInt8) (hF : Yo p0 p1 p2 = some r) :
  Calls Tryz.prog 233 [vI p0,vB p1,vB p2].toArray w0 (Rt w0 (vB r)):=by
 refine ce Tryz.func233 ?_
 intro a hE
 have hM:=M.start w0
 unfold Yo at hF
 refine Zb (Zc hE rfl fun a hE=>Ze (Zb (Zc hE rfl fun a hE=>Ze (wp_seq (Zb (Zd hE rfl fun a hE=>Ze ?_))))))
 obtain ⟨j1,hl2,hF3⟩:=bind_some hF
 refine ZM (fun a w=>Env 28 a [(0,vI p0),(7,vI j1)] ∧ M (Old w0) w0 w []) ?_ ?_
 ·skip
  refine wp_block ?_
  refine ZE (fun (s4 : Int × Int) a w=>Env 28 a [(0,vI p0),(1,vB p1),(2,vB p2),(7,vI s4.1),(9,vI s4.2)] ∧ M (Old w0) w0 w []) hl2 ⟨hE.sub ⟨rfl,rfl,rfl,rfl,rfl,trivial⟩,hM⟩ ?_
  rintro s4 a w ⟨hE,hM⟩ o7 hs5 hx6
  unfold XV at hs5
  refine Zb (Zh hE rfl rfl rfl fun a hE=>Ze (wp_seq ?_))
  refine Zo hE rfl ?_ ?_
  ·intro hb8
   have hs5:=Zw hs5 hb8
   refine wp_skip (Zt ?_)
   obtain ⟨j9,hl10,hF11⟩:=bind_some hs5
   refine ZO (fun a w=>Env 28 a [(0,vI p0),(1,vB p1),(2,vB p2),(7,vI j9),(9,vI s4.2)] ∧ M (Old w0) w0 w []) ?_ ?_
   ·skip
    refine wp_block (Zb (Zd hE rfl fun a hE=>Zc hE rfl fun a hE=>Ze (Zb (Zd hE rfl fun a hE=>Zd hE rfl ?_)))); intro a hE
    obtain ⟨_,e12,hl10⟩:=bind_some hl10
    have e12:=V4 e12
    refine BC hE Za ld rfl rfl (Zbr _ _ e12) fun a hE=>Zh hE rfl rfl (bB_and (yf p2 s4.2) 1) fun a hE=>Zh hE rfl rfl (Zcf ((yf p2 s4.2) &&& 1) 1) fun a hE=>Ze ?_
    obtain ⟨j13,hl14,hF15⟩:=bind_some hl10
    refine ZM (fun a w=>Env 28 a [(0,vI p0),(1,vB p1),(2,vB p2),(7,vI j13),(9,vI s4.2)] ∧ M (Old w0) w0 w []) ?_ ?_
    ·skip
     refine Zo hE rfl ?_ ?_
     ·intro hb16
      have hl14:=Zw hl14 hb16
      refine wp_region_lit (Zd hE rfl fun a hE=>Zd hE rfl fun a hE=>A6 hE Za ld rfl Tryz.underlying5 Tryz.underlying2 fun a hE=>Zd hE rfl ?_); intro a hE
      obtain ⟨_,e17,hl14⟩:=bind_some hl14
      have e17:=V4 e17
      refine BC hE Za ld rfl rfl (qh _ _ e17) fun a hE=>Zh hE rfl rfl rfl fun a hE=>Zc hE rfl fun a hE=>Zg ?_
      obtain rfl:=Option.some.inj hl14
      refine Zk ?_
      exact ⟨hE.sub ⟨rfl,rfl,rfl,rfl,rfl,trivial⟩,hM⟩
     ·intro hb16
      have hl14:=Zx hl14 hb16
      refine wp_skip ?_
      obtain rfl:=Option.some.inj hl14
      refine Zk ?_
      exact ⟨hE.sub ⟨rfl,rfl,rfl,rfl,rfl,trivial⟩,hM⟩
    ·skip
     rintro a w ⟨hE,hM⟩
     refine Yb ?_
     obtain rfl:=Option.some.inj hF15
     refine Zk ?_
     exact ⟨hE.sub ⟨rfl,rfl,rfl,rfl,rfl,trivial⟩,hM⟩
   ·skip
    rintro a w ⟨hE,hM⟩
    refine wp_region_lit (Zh hE rfl rfl rfl fun a hE=>Zd hE rfl fun a hE=>Zg (Zk ?_))
    exact ⟨_,(ois hF11),hE.sub ⟨rfl,rfl,rfl,rfl,rfl,trivial⟩,hM⟩
  ·intro hb8
   have hs5:=Zx hs5 hb8
   refine wp_exit (Zn (Zn (Yd ?_)))
   obtain rfl:=hx6 _ (ois hs5)
   refine Zk ?_
   exact ⟨hE.sub ⟨rfl,rfl,trivial⟩,hM⟩
 ·skip
  rintro a w ⟨hE,hM⟩
  refine Zt (Zb (Zd hE rfl fun a hE=>Zd hE rfl ?_)); intro a hE
  obtain ⟨r22,e23,hF3⟩:=bind_some hF3
  refine Zv hE rfl (cbm Tryz.func240) (k8 _ j1 p0 8 r22 e23) ?_
  rintro v w a ⟨rfl,hK⟩ hE
  have hM:=hM.keep hK
  refine Yg hE Za ld rfl Tryz.underlying2 Tryz.underlying5 fun a hE=>Zc hE rfl fun a hE=>Ze ?_
  obtain rfl:=Option.some.inj hF3
  exact wp_ret (kr1 hE rfl rfl hM.kept)
def Uf (p0 : Int) (s4 : UInt8 × Int × UInt8) : Option (Fl (UInt8 × Int × UInt8) UInt8) :=
 if (decide (s4.2.1 > 0)) = true then (((if ((Int.tmod s4.2.1 2) == 1) = true then ((Yo p0 s4.2.2 s4.1).bind fun r16=>some r16) else (some s4.2.2) : Option (UInt8)).bind fun j12=>(Yo p0 s4.1 s4.1).bind fun r20=>some (r20,j12) : Option (UInt8 × UInt8)).bind fun j9=>some (Fl.nx (j9.1,wr (Int.tdiv s4.2.1 2),j9.2))) else (some (Fl.ex s4.2.2))
def X9 (p0 : Int) (p1 : UInt8) (p2 : Int) : Option (UInt8) :=
 (ZB (Uf p0) (p1,p2,1)).bind fun j1=>some j1
theorem Hv (w0 : World) (p0 : Int) (p1 : UInt8) (p2 : Int) (r : UInt8) (hF : X9 p0 p1 p2 = some r) :
  Calls Tryz.prog 234 [vI p0,vB p1,vI p2].toArray w0 (Rt w0 (vB r)):=by
 refine ce Tryz.func234 ?_
 intro a hE
 have hM:=M.start w0
 unfold X9 at hF
 refine Zb (Zc hE rfl fun a hE=>Ze (Zb (Zc hE rfl fun a hE=>Ze ?_)))
 obtain ⟨j1,hl2,hF3⟩:=bind_some hF
 refine ZO (fun a w=>Env 24 a [(7,vB j1)] ∧ M (Old w0) w0 w []) ?_ ?_
 ·skip
  refine wp_block ?_
  refine ZE (fun (s4 : UInt8 × Int × UInt8) a w=>Env 24 a [(0,vI p0),(1,vB s4.1),(2,vI s4.2.1),(7,vB s4.2.2)] ∧ M (Old w0) w0 w []) hl2 ⟨hE.sub ⟨rfl,rfl,rfl,rfl,trivial⟩,hM⟩ ?_
  rintro s4 a w ⟨hE,hM⟩ o7 hs5 hx6
  unfold Uf at hs5
  refine wp_seq (Zb (Zd hE rfl fun a hE=>Zh hE rfl rfl rfl fun a hE=>Ze ?_))
  refine Zo hE rfl ?_ ?_
  ·intro hb8
   have hs5:=Zw hs5 hb8
   refine wp_skip (Zt ?_)
   obtain ⟨j9,hl10,hF11⟩:=bind_some hs5
   refine ZO (fun a w=>Env 24 a [(0,vI p0),(1,vB j9.1),(2,vI s4.2.1),(7,vB j9.2)] ∧ M (Old w0) w0 w []) ?_ ?_
   ·skip
    refine wp_block ?_
    obtain ⟨j12,hl13,hF14⟩:=bind_some hl10
    refine ZO (fun a w=>Env 24 a [(0,vI p0),(1,vB s4.1),(2,vI s4.2.1),(7,vB j12)] ∧ M (Old w0) w0 w []) ?_ ?_
    ·skip
     refine Zb (Zd hE rfl fun a hE=>Zh hE rfl rfl (Ku _ _ (by decide)) fun a hE=>Zh hE rfl rfl rfl fun a hE=>Ze ?_)
     refine Zo hE rfl ?_ ?_
     ·intro hb15
      have hl13:=Zw hl13 hb15
      refine wp_region_lit (Zd hE rfl fun a hE=>Zd hE rfl fun a hE=>Zd hE rfl ?_); intro a hE
      obtain ⟨r16,e17,hl13⟩:=bind_some hl13
      refine Zv hE rfl Af (Y9 _ p0 s4.2.2 s4.1 r16 e17) ?_
      rintro v w a ⟨rfl,hK⟩ hE
      have hM:=hM.keep hK
      refine Zc hE rfl fun a hE=>Zg ?_
      obtain rfl:=Option.some.inj hl13
      refine Zk ?_
      exact ⟨hE.sub ⟨rfl,rfl,rfl,rfl,trivial⟩,hM⟩
     ·intro hb15
      have hl13:=Zx hl13 hb15
      refine wp_skip ?_
      obtain rfl:=Option.some.inj hl13
      refine Zk ?_
      exact ⟨hE.sub ⟨rfl,rfl,rfl,rfl,trivial⟩,hM⟩
    ·skip
     rintro a w ⟨hE,hM⟩
     refine wp_region_lit (Zd hE rfl fun a hE=>Zd hE rfl fun a hE=>Zd hE rfl ?_); intro a hE
     obtain ⟨r20,e21,hF14⟩:=bind_some hF14
     refine Zv hE rfl Af (Y9 _ p0 s4.1 s4.1 r20 e21) ?_
     rintro v w a ⟨rfl,hK⟩ hE
     have hM:=hM.keep hK
     refine Zc hE rfl fun a hE=>Zg (Yb ?_)
     obtain rfl:=Option.some.inj hF14
     refine Zk ?_
     exact ⟨hE.sub ⟨rfl,rfl,rfl,rfl,trivial⟩,hM⟩
   ·skip
    rintro a w ⟨hE,hM⟩
    refine wp_region_lit (Zd hE rfl fun a hE=>Zh hE rfl rfl (zI _ _ (by decide)) fun a hE=>Zc hE rfl fun a hE=>Zg (Zk ?_))
    exact ⟨_,(ois hF11),hE.sub ⟨rfl,rfl,rfl,rfl,trivial⟩,hM⟩
  ·intro hb8
   have hs5:=Zx hs5 hb8
   refine wp_exit (Zn (Zn (Yd ?_)))
   obtain rfl:=hx6 _ (ois hs5)
   refine Zk ?_
   exact ⟨hE.sub ⟨rfl,trivial⟩,hM⟩
 ·skip
  rintro a w ⟨hE,hM⟩
  refine Zb (Zd hE rfl fun a hE=>Zc hE rfl fun a hE=>Ze ?_)
  obtain rfl:=Option.some.inj hF3
  exact wp_ret (kr1 hE rfl rfl hM.kept)
def YE (p0 : Int) (p1 : UInt8) : Option (UInt8) :=
 (X9 p0 p1 254).bind fun r1=>some r1
theorem TC (w0 : World) (p0 : Int) (p1 : UInt8) (r : UInt8) (hF : YE p0 p1 = some r) :
  Calls Tryz.prog 215 [vI p0,vB p1].toArray w0 (Rt w0 (vB r)):=by
 refine ce Tryz.func215 ?_
 intro a hE
 have hM:=M.start w0
 unfold YE at hF
 refine Zb (Zc hE rfl fun a hE=>Ze (Zb (Zd hE rfl fun a hE=>Zd hE rfl ?_))); intro a hE
 obtain ⟨r1,e2,hF⟩:=bind_some hF
 refine Zv hE rfl (cbm Tryz.func234) (Hv _ p0 p1 254 r1 e2) ?_
 rintro v w a ⟨rfl,hK⟩ hE
 have hM:=hM.keep hK
 refine Zc hE rfl fun a hE=>Ze ?_
 obtain rfl:=Option.some.inj hF
 exact wp_ret (kr1 hE rfl rfl hM.kept)
def YA (p0 : UInt8) (p1 : Int) : Option (UInt8) :=
 (We (wru (BitVec.ofInt 64 (IntKind.u64.wrap p1) &&& BitVec.ofInt 64 7).toNat)).bind fun _=>(We (IntKind.u64.wrap (8 - (wru (BitVec.ofInt 64 (IntKind.u64.wrap p1) &&& BitVec.ofInt 64 7).toNat)))).bind fun _=>some ((shlB p0 (wru (BitVec.ofInt 64 (IntKind.u64.wrap p1) &&& BitVec.ofInt 64 7).toNat)) ||| (yf p0 (IntKind.u64.wrap (8 - (wru (BitVec.ofInt 64 (IntKind.u64.wrap p1) &&& BitVec.ofInt 64 7).toNat)))))
theorem Qt (w0 : World) (p0 : UInt8) (p1 : Int) (r : UInt8) (hF : YA p0 p1 = some r) :
  Calls Tryz.prog 216 [vB p0,vI p1].toArray w0 (Rt w0 (vB r)):=by
 refine ce Tryz.func216 ?_
 intro a hE
 have hM:=M.start w0
 unfold YA at hF
 refine Zb (Zc hE rfl fun a hE=>Ze (Zb (Zd hE rfl fun a hE=>zh hE Za ld rfl Tryz.underlying3 Tryz.underlying171 fun a hE=>Zh hE rfl rfl rfl fun a hE=>Zc hE rfl fun a hE=>Ze (Zb (Zd hE rfl fun a hE=>Zd hE rfl ?_))))); intro a hE
 obtain ⟨_,e1,hF⟩:=bind_some hF
 have e1:=V4 e1
 refine BC hE Za ld rfl rfl (bB_shl _ _ e1) fun a hE=>Zd hE rfl fun a hE=>Zd hE rfl fun a hE=>Zh hE rfl rfl rfl ?_; intro a hE
 obtain ⟨_,e2,hF⟩:=bind_some hF
 have e2:=V4 e2
 refine BC hE Za ld rfl rfl (Zbr _ _ e2) fun a hE=>Zh hE rfl rfl (bB_or (shlB p0 (wru (BitVec.ofInt 64 (IntKind.u64.wrap p1) &&& BitVec.ofInt 64 7).toNat)) (yf p0 (IntKind.u64.wrap (8 - (wru (BitVec.ofInt 64 (IntKind.u64.wrap p1) &&& BitVec.ofInt 64 7).toNat))))) fun a hE=>Zc hE rfl fun a hE=>Ze ?_
 obtain rfl:=Option.some.inj hF
 exact wp_ret (kr1 hE rfl rfl hM.kept)
def WU (s8 : (Vector UInt8 256) × Int) : Option (Fl ((Vector UInt8 256) × Int) (Vector UInt8 256)) :=
 if (decide (s8.2 < 256)) = true then ((YE 285 (Zp s8.2)).bind fun r13=>(YA r13 1).bind fun r15=>(YA r13 4).bind fun r17=>(ZH s8.1 s8.2).bind fun x20=>some (Fl.nx ((s8.1.setIfInBounds (s8.2).toNat (((r13 ^^^ r15) ^^^ r17) ^^^ 90)),wr (s8.2 + 1)))) else (some (Fl.ex s8.1))
def Ue (s26 : (Vector (Vector UInt8 4) 4) × Int) (s34 : (Vector (Vector UInt8 4) 4) × Int) : Option (Fl ((Vector (Vector UInt8 4) 4) × Int) (Vector (Vector UInt8 4) 4)) :=
 if (decide (s34.2 < 4)) = true then ((YE 285 (Zp (BP s26.2 (wr (4 + s34.2))))).bind fun r40=>(ZH s34.1 s26.2).bind fun x43=>(ZH x43 s34.2).bind fun x46=>some (Fl.nx ((s34.1.setIfInBounds (s26.2).toNat (x43.setIfInBounds (s34.2).toNat r40)),wr (s34.2 + 1)))) else (some (Fl.ex s34.1))
def Ul (s26 : (Vector (Vector UInt8 4) 4) × Int) : Option (Fl ((Vector (Vector UInt8 4) 4) × Int) (Vector (Vector UInt8 4) 4)) :=
 if (decide (s26.2 < 4)) = true then ((ZB (Ue s26) (s26.1,0)).bind fun j31=>some (Fl.nx (j31,wr (s26.2 + 1)))) else (some (Fl.ex s26.1))
def Um (s53 : (Vector UInt8 16) × Int) : Option (Fl ((Vector UInt8 16) × Int) (Vector UInt8 16)) :=
 if (decide (s53.2 < 16)) = true then ((ZH s53.1 s53.2).bind fun x59=>some (Fl.nx ((s53.1.setIfInBounds (s53.2).toNat (Zp (Int.tmod (wr ((wr (13 * s53.2)) + 4)) 16))),wr (s53.2 + 1)))) else (some (Fl.ex s53.1))
def Vk (p0 : Int) : Option (GCipher) :=
 (ZB (WU) ((Vector.replicate 256 (0 : UInt8)),0)).bind fun j5=>(ZB (Ul) ((Vector.replicate 4 (Vector.replicate 4 (0 : UInt8))),0)).bind fun j23=>(ZB (Um) ((Vector.replicate 16 (0 : UInt8)),0)).bind fun j50=>some (⟨285,j5,j23,j50,p0⟩ : GCipher)
theorem HG (w0 : World) (p0 : Int) (r : GCipher) (hF : Vk p0 = some r) :
  Calls Tryz.prog 180 [vI p0].toArray w0 (Rt w0 (Value.agg (enc r).toArray)):=by
 refine ce Tryz.func180 ?_
 intro a hE
 have hM:=M.start w0
 unfold Vk at hF
 refine Zb (Zz hE hM V0 fun b1 w a hM hE=>Ze (Zb (Zd hE rfl fun a hE=>XG (parts:=[(0,.const (vI 285)),(4,.tmp 9)]) (vs:=[(0,vI 285),(4,vI p0)]) (cs:=cat [[vI 285],enc (Vector.replicate 256 (0 : UInt8)),enc (Vector.replicate 4 (Vector.replicate 4 (0 : UInt8))),enc (Vector.replicate 16 (0 : UInt8)),[vI p0]]) hE Za ld rfl rfl V0 pl163 (Yl (pre:=[]) (seg:=[vI 0]) (seg':=[vI 285]) (post:=[enc (Vector.replicate 256 (0 : UInt8)),enc (Vector.replicate 4 (Vector.replicate 4 (0 : UInt8))),enc (Vector.replicate 16 (0 : UInt8)),[vI 0]]) rfl cl0 rfl rfl rfl (Yl (pre:=[[vI 285],enc (Vector.replicate 256 (0 : UInt8)),enc (Vector.replicate 4 (Vector.replicate 4 (0 : UInt8))),enc (Vector.replicate 16 (0 : UInt8))]) (seg:=[vI 0]) (seg':=[vI p0]) (post:=[]) rfl ck rfl rfl rfl V3)) fun a hE=>Zz hE hM V0 fun b3 w a hM hE=>Zl (seg:=cat [[vI 285],enc (Vector.replicate 256 (0 : UInt8)),enc (Vector.replicate 4 (Vector.replicate 4 (0 : UInt8))),enc (Vector.replicate 16 (0 : UInt8)),[vI p0]]) (cs':=cat [[vI 285],enc (Vector.replicate 256 (0 : UInt8)),enc (Vector.replicate 4 (Vector.replicate 4 (0 : UInt8))),enc (Vector.replicate 16 (0 : UInt8)),[vI p0]]) hE hM Za rfl rfl rfl V0 cq (Nat.le_of_eq ((Nat.zero_add _).trans (Eq.trans cq (Eq.symm cq)))) (Z1 (cc1 (Flat.cell (285 : Int)) (cc1 (Flat.cell _) (cc1 (Flat.cell _) (cc1 (Flat.cell _) (cc1 (Flat.cell (p0 : Int)) cc0)))))) (Zi (Eq.trans cq (Eq.symm cq))) fun w a hM hE=>Ze (wp_seq (Zb (Zd hE rfl fun a hE=>Ze ?_))))))
 obtain ⟨j5,hl6,hF7⟩:=bind_some hF
 refine ZM (fun a w=>Env 61 a [(2,(ptr b1 0)),(3,(ptr b3 0))] ∧ M (Old w0) w0 w [raw b3 (cat [[vI 285],enc j5,enc (Vector.replicate 4 (Vector.replicate 4 (0 : UInt8))),enc (Vector.replicate 16 (0 : UInt8)),[vI p0]]),raw b1 (cat [[vI 0],enc (Vector.replicate 256 (0 : UInt8)),enc (Vector.replicate 4 (Vector.replicate 4 (0 : UInt8))),enc (Vector.replicate 16 (0 : UInt8)),[vI 0]])]) ?_ ?_
 ·skip
  refine wp_block ?_
  refine ZE (fun (s8 : (Vector UInt8 256) × Int) a w=>Env 61 a [(2,(ptr b1 0)),(3,(ptr b3 0)),(11,vI s8.2)] ∧ M (Old w0) w0 w [raw b3 (cat [[vI 285],enc s8.1,enc (Vector.replicate 4 (Vector.replicate 4 (0 : UInt8))),enc (Vector.replicate 16 (0 : UInt8)),[vI p0]]),raw b1 (cat [[vI 0],enc (Vector.replicate 256 (0 : UInt8)),enc (Vector.replicate 4 (Vector.replicate 4 (0 : UInt8))),enc (Vector.replicate 16 (0 : UInt8)),[vI 0]])]) hl6 ⟨hE.sub ⟨rfl,rfl,rfl,trivial⟩,hM⟩ ?_
  rintro s8 a w ⟨hE,hM⟩ o11 hs9 hx10
  unfold WU at hs9
  refine Zb (Zh hE rfl rfl rfl fun a hE=>Ze (wp_seq ?_))
  refine Zo hE rfl ?_ ?_
  ·intro hb12
   have hs9:=Zw hs9 hb12
   refine wp_skip (Zt (wp_seq (wp_block (Zb (Zd hE rfl fun a hE=>Zc hE rfl fun a hE=>Ze (Zb (Zd hE rfl fun a hE=>Yg hE Za ld rfl Tryz.underlying3 Tryz.underlying5 ?_))))))); intro a hE
   obtain ⟨r13,e14,hs9⟩:=bind_some hs9
   refine Zv hE rfl Zcl (TC _ 285 (Zp s8.2) r13 e14) ?_
   rintro v w a ⟨rfl,hK⟩ hE
   have hM:=hM.keep hK
   refine Zc hE rfl fun a hE=>Ze (wp_region_lit (Zd hE rfl fun a hE=>Zd hE rfl fun a hE=>Zd hE rfl ?_)); intro a hE
   obtain ⟨r15,e16,hs9⟩:=bind_some hs9
   refine Zv hE rfl (cbm Tryz.func216) (Qt _ r13 1 r15 e16) ?_
   rintro v w a ⟨rfl,hK⟩ hE
   have hM:=hM.keep hK
   refine Zh hE rfl rfl (Vu r13 r15) fun a hE=>Zd hE rfl ?_; intro a hE
   obtain ⟨r17,e18,hs9⟩:=bind_some hs9
   refine Zv hE rfl (cbm Tryz.func216) (Qt _ r13 4 r17 e18) ?_
   rintro v w a ⟨rfl,hK⟩ hE
   have hM:=hM.keep hK
   refine Zh hE rfl rfl (Vu (r13 ^^^ r15) r17) fun a hE=>Zh hE rfl rfl (Vu ((r13 ^^^ r15) ^^^ r17) 90) fun a hE=>Zf hE rfl (J7) ?_; intro a hE
   obtain ⟨x20,hi19,hs9⟩:=bvx hs9
   refine ZD hE rfl rfl Tryz.underlying157 ty5 hi19.1 fun a hE=>Zl (seg:=[(vB (((r13 ^^^ r15) ^^^ r17) ^^^ 90))]) (cs':=cat [[vI 285],enc (s8.1.setIfInBounds (s8.2).toNat (((r13 ^^^ r15) ^^^ r17) ^^^ 90)),enc (Vector.replicate 4 (Vector.replicate 4 (0 : UInt8))),enc (Vector.replicate 16 (0 : UInt8)),[vI p0]]) hE hM Za rfl rfl rfl ty5 rfl (JQ (o':=0 + (s8.2).toNat * 1) (pre:=[[vI 285]]) (seg:=enc s8.1) (post:=[enc (Vector.replicate 4 (Vector.replicate 4 (0 : UInt8))),enc (Vector.replicate 16 (0 : UInt8)),[vI p0]]) ck (ZQ (v:=s8.1) (x:=((r13 ^^^ r15) ^^^ r17) ^^^ 90) hi19.1) (by first | omega | (simp only [Flat.n] <;> omega))) (Flat.cell (((r13 ^^^ r15) ^^^ r17) ^^^ 90 : UInt8)) (UM (o':=0 + (s8.2).toNat * 1) (pre:=[[vI 285]]) (seg:=enc s8.1) (post:=[enc (Vector.replicate 4 (Vector.replicate 4 (0 : UInt8))),enc (Vector.replicate 16 (0 : UInt8)),[vI p0]]) ck (ZQ (v:=s8.1) (x:=((r13 ^^^ r15) ^^^ r17) ^^^ 90) hi19.1) (ZF (v:=s8.1) (x:=((r13 ^^^ r15) ^^^ r17) ^^^ 90) hi19.1) (by first | omega | (simp only [Flat.n] <;> omega))) fun w a hM hE=>Zg (Yb (Zt (wp_region_lit (Zh hE rfl rfl rfl fun a hE=>Zd hE rfl fun a hE=>Zg (Zk ?_)))))
   exact ⟨_,(ois hs9),hE.sub ⟨rfl,rfl,rfl,trivial⟩,hM⟩
  ·intro hb12
   have hs9:=Zx hs9 hb12
   refine wp_exit (Zn (Zn (Yd ?_)))
   obtain rfl:=hx10 _ (ois hs9)
   refine Zk ?_
   exact ⟨hE.sub ⟨rfl,rfl,trivial⟩,hM⟩
 ·skip
  rintro a w ⟨hE,hM⟩
  refine Zt (wp_seq (Zb (Zd hE rfl fun a hE=>Ze ?_)))
  obtain ⟨j23,hl24,hF25⟩:=bind_some hF7
  refine ZM (fun a w=>Env 61 a [(2,(ptr b1 0)),(3,(ptr b3 0))] ∧ M (Old w0) w0 w [raw b3 (cat [[vI 285],enc j5,enc j23,enc (Vector.replicate 16 (0 : UInt8)),[vI p0]]),raw b1 (cat [[vI 0],enc (Vector.replicate 256 (0 : UInt8)),enc (Vector.replicate 4 (Vector.replicate 4 (0 : UInt8))),enc (Vector.replicate 16 (0 : UInt8)),[vI 0]])]) ?_ ?_
  ·skip
   refine wp_block ?_
   refine ZE (fun (s26 : (Vector (Vector UInt8 4) 4) × Int) a w=>Env 61 a [(2,(ptr b1 0)),(3,(ptr b3 0)),(29,vI s26.2)] ∧ M (Old w0) w0 w [raw b3 (cat [[vI 285],enc j5,enc s26.1,enc (Vector.replicate 16 (0 : UInt8)),[vI p0]]),raw b1 (cat [[vI 0],enc (Vector.replicate 256 (0 : UInt8)),enc (Vector.replicate 4 (Vector.replicate 4 (0 : UInt8))),enc (Vector.replicate 16 (0 : UInt8)),[vI 0]])]) hl24 ⟨hE.sub ⟨rfl,rfl,rfl,trivial⟩,hM⟩ ?_
   rintro s26 a w ⟨hE,hM⟩ o29 hs27 hx28
   unfold Ul at hs27
   refine Zb (Zh hE rfl rfl rfl fun a hE=>Ze (wp_seq ?_))
   refine Zo hE rfl ?_ ?_
   ·intro hb30
    have hs27:=Zw hs27 hb30
    refine wp_skip (Zt (wp_seq (wp_block (Zb (Zd hE rfl fun a hE=>Zc hE rfl fun a hE=>Ze (Zb (Zd hE rfl fun a hE=>Ze ?_)))))))
    obtain ⟨j31,hl32,hF33⟩:=bind_some hs27
    refine ZM (fun a w=>Env 61 a [(2,(ptr b1 0)),(3,(ptr b3 0)),(29,vI s26.2)] ∧ M (Old w0) w0 w [raw b3 (cat [[vI 285],enc j5,enc j31,enc (Vector.replicate 16 (0 : UInt8)),[vI p0]]),raw b1 (cat [[vI 0],enc (Vector.replicate 256 (0 : UInt8)),enc (Vector.replicate 4 (Vector.replicate 4 (0 : UInt8))),enc (Vector.replicate 16 (0 : UInt8)),[vI 0]])]) ?_ ?_
    ·skip
     refine wp_block ?_
     refine ZE (fun (s34 : (Vector (Vector UInt8 4) 4) × Int) a w=>Env 61 a [(2,(ptr b1 0)),(3,(ptr b3 0)),(6,vI s26.2),(29,vI s26.2),(32,vI s34.2)] ∧ M (Old w0) w0 w [raw b3 (cat [[vI 285],enc j5,enc s34.1,enc (Vector.replicate 16 (0 : UInt8)),[vI p0]]),raw b1 (cat [[vI 0],enc (Vector.replicate 256 (0 : UInt8)),enc (Vector.replicate 4 (Vector.replicate 4 (0 : UInt8))),enc (Vector.replicate 16 (0 : UInt8)),[vI 0]])]) hl32 ⟨hE.sub ⟨rfl,rfl,rfl,rfl,rfl,trivial⟩,hM⟩ ?_
     rintro s34 a w ⟨hE,hM⟩ o37 hs35 hx36
     unfold Ue at hs35
     refine Zb (Zh hE rfl rfl rfl fun a hE=>Ze (wp_seq ?_))
     refine Zo hE rfl ?_ ?_
     ·intro hb38
      have hs35:=Zw hs35 hb38
      refine wp_skip (Zt (wp_seq (wp_block (Zb (Zd hE rfl fun a hE=>Zc hE rfl fun a hE=>Ze ?_)))))
      obtain ⟨r40,e41,hs35⟩:=bind_some hs35
      obtain ⟨x43,hi42,hs35⟩:=bvx hs35
      obtain ⟨x46,hi45,hs35⟩:=bvx hs35
      refine Z9 [35,36,37,38,39,40,41,42,43,44,45] YF rfl rfl (by decide) rfl hE hM (qsP (fun z=>Zu z.E Za ld rfl (kr0 rfl)) (qsP (fun z=>Zu z.E Za ld rfl (kr0 rfl)) (qsP (fun z=>Zu z.E Za ld rfl (kr0 rfl)) (qsP (fun z=>Zu z.E Za ld rfl (kr0 rfl)) (qsP (v:=(vI (wr (4 + s34.2)))) (fun z=>Yt z.E Za ld rfl rfl rfl (kr0 rfl)) (qsP (v:=(vI (BP s26.2 (wr (4 + s34.2))))) (fun z=>Yt z.E Za ld rfl rfl rfl (kr0 rfl)) (qsP (fun z=>Yg z.E Za ld rfl Tryz.underlying3 Tryz.underlying5 (kr0 rfl)) (qsP (fun z=>Z0 z.E Za ld rfl Zcl (TC _ 285 (Zp (BP s26.2 (wr (4 + s34.2)))) r40 e41) (kc rfl)) (qsP (fun z=>Zj z.E Za ld rfl (Bh) (kr0 rfl)) (qsP (fun z=>ZG z.E Za ld rfl rfl Tryz.underlying160 XX hi42.1 (kr0 rfl)) (qsP (fun z=>ZG z.E Za ld rfl rfl Tryz.underlying158 ty5 hi45.1 (kr0 rfl)) qs0))))))))))) ?_
      ·intro a w u hE hM
       refine Zl (seg:=[vB r40]) (cs':=cat [[vI 285],enc j5,enc (s34.1.setIfInBounds (s26.2).toNat (x43.setIfInBounds (s34.2).toNat r40)),enc (Vector.replicate 16 (0 : UInt8)),[vI p0]]) hE hM Za rfl rfl rfl ty5 rfl (JQ (o':=(s26.2).toNat * 4 + (0 + (s34.2).toNat * 1)) (pre:=[[vI 285],enc j5]) (seg:=enc s34.1) (post:=[enc (Vector.replicate 16 (0 : UInt8)),[vI p0]]) ck (Td (o':=0 + (s34.2).toNat * 1) hi42 (ZQ (v:=x43) (x:=r40) hi45.1) (by first | omega | (simp only [Flat.n] <;> omega))) (by first | omega | (simp only [Flat.n] <;> omega))) (Flat.cell (r40 : UInt8)) (UM (o':=(s26.2).toNat * 4 + (0 + (s34.2).toNat * 1)) (pre:=[[vI 285],enc j5]) (seg:=enc s34.1) (post:=[enc (Vector.replicate 16 (0 : UInt8)),[vI p0]]) ck (Td (o':=0 + (s34.2).toNat * 1) hi42 (ZQ (v:=x43) (x:=r40) hi45.1) (by first | omega | (simp only [Flat.n] <;> omega))) (V7 (o':=0 + (s34.2).toNat * 1) hi42 (ZQ (v:=x43) (x:=r40) hi45.1) (ZF (v:=x43) (x:=r40) hi45.1) (by first | omega | (simp only [Flat.n] <;> omega))) (by first | omega | (simp only [Flat.n] <;> omega))) fun w a hM hE=>Zg (Yb (Zt (wp_region_lit (Zh hE rfl rfl rfl fun a hE=>Zd hE rfl fun a hE=>Zg (Zk ?_)))))
       exact ⟨_,(ois hs35),hE.sub ⟨rfl,rfl,rfl,rfl,rfl,trivial⟩,hM⟩
     ·intro hb38
      have hs35:=Zx hs35 hb38
      refine wp_exit (Zn (Zn (Yd ?_)))
      obtain rfl:=hx36 _ (ois hs35)
      refine Zk ?_
      exact ⟨hE.sub ⟨rfl,rfl,rfl,trivial⟩,hM⟩
    ·skip
     rintro a w ⟨hE,hM⟩
     refine Yb (Zt (wp_region_lit (Zh hE rfl rfl rfl fun a hE=>Zd hE rfl fun a hE=>Zg (Zk ?_))))
     exact ⟨_,(ois hF33),hE.sub ⟨rfl,rfl,rfl,trivial⟩,hM⟩
   ·intro hb30
    have hs27:=Zx hs27 hb30
    refine wp_exit (Zn (Zn (Yd ?_)))
    obtain rfl:=hx28 _ (ois hs27)
    refine Zk ?_
    exact ⟨hE.sub ⟨rfl,rfl,trivial⟩,hM⟩
  ·skip
   rintro a w ⟨hE,hM⟩
   refine Zt (wp_seq (Zb (Zd hE rfl fun a hE=>Ze ?_)))
   obtain ⟨j50,hl51,hF52⟩:=bind_some hF25
   refine ZM (fun a w=>Env 61 a [(2,(ptr b1 0)),(3,(ptr b3 0))] ∧ M (Old w0) w0 w [raw b3 (cat [[vI 285],enc j5,enc j23,enc j50,[vI p0]]),raw b1 (cat [[vI 0],enc (Vector.replicate 256 (0 : UInt8)),enc (Vector.replicate 4 (Vector.replicate 4 (0 : UInt8))),enc (Vector.replicate 16 (0 : UInt8)),[vI 0]])]) ?_ ?_
   ·skip
    refine wp_block ?_
    refine ZE (fun (s53 : (Vector UInt8 16) × Int) a w=>Env 61 a [(2,(ptr b1 0)),(3,(ptr b3 0)),(48,vI s53.2)] ∧ M (Old w0) w0 w [raw b3 (cat [[vI 285],enc j5,enc j23,enc s53.1,[vI p0]]),raw b1 (cat [[vI 0],enc (Vector.replicate 256 (0 : UInt8)),enc (Vector.replicate 4 (Vector.replicate 4 (0 : UInt8))),enc (Vector.replicate 16 (0 : UInt8)),[vI 0]])]) hl51 ⟨hE.sub ⟨rfl,rfl,rfl,trivial⟩,hM⟩ ?_
    rintro s53 a w ⟨hE,hM⟩ o56 hs54 hx55
    unfold Um at hs54
    refine Zb (Zh hE rfl rfl rfl fun a hE=>Ze (wp_seq ?_))
    refine Zo hE rfl ?_ ?_
    ·intro hb57
     have hs54:=Zw hs54 hb57
     refine wp_skip (Zt (wp_seq (wp_block (Zb (Zd hE rfl fun a hE=>Zc hE rfl fun a hE=>Ze (wp_region_lit (Zd hE rfl fun a hE=>Zd hE rfl fun a hE=>Zh hE rfl rfl rfl fun a hE=>Zh hE rfl rfl rfl fun a hE=>Zh hE rfl rfl (Ku _ _ (by decide)) fun a hE=>Yg hE Za ld rfl Tryz.underlying3 Tryz.underlying5 fun a hE=>Zf hE rfl (Bq) ?_))))))); intro a hE
     obtain ⟨x59,hi58,hs54⟩:=bvx hs54
     refine ZD hE rfl rfl Tryz.underlying161 ty5 hi58.1 fun a hE=>Zl (seg:=[(vB (Zp (Int.tmod (wr ((wr (13 * s53.2)) + 4)) 16)))]) (cs':=cat [[vI 285],enc j5,enc j23,enc (s53.1.setIfInBounds (s53.2).toNat (Zp (Int.tmod (wr ((wr (13 * s53.2)) + 4)) 16))),[vI p0]]) hE hM Za rfl rfl rfl ty5 rfl (JQ (o':=0 + (s53.2).toNat * 1) (pre:=[[vI 285],enc j5,enc j23]) (seg:=enc s53.1) (post:=[[vI p0]]) ck (ZQ (v:=s53.1) (x:=Zp (Int.tmod (wr ((wr (13 * s53.2)) + 4)) 16)) hi58.1) (by first | omega | (simp only [Flat.n] <;> omega))) (Flat.cell (Zp (Int.tmod (wr ((wr (13 * s53.2)) + 4)) 16) : UInt8)) (UM (o':=0 + (s53.2).toNat * 1) (pre:=[[vI 285],enc j5,enc j23]) (seg:=enc s53.1) (post:=[[vI p0]]) ck (ZQ (v:=s53.1) (x:=Zp (Int.tmod (wr ((wr (13 * s53.2)) + 4)) 16)) hi58.1) (ZF (v:=s53.1) (x:=Zp (Int.tmod (wr ((wr (13 * s53.2)) + 4)) 16)) hi58.1) (by first | omega | (simp only [Flat.n] <;> omega))) fun w a hM hE=>Zg (Yb (Zt (wp_region_lit (Zh hE rfl rfl rfl fun a hE=>Zd hE rfl fun a hE=>Zg (Zk ?_)))))
     exact ⟨_,(ois hs54),hE.sub ⟨rfl,rfl,rfl,trivial⟩,hM⟩
    ·intro hb57
     have hs54:=Zx hs54 hb57
     refine wp_exit (Zn (Zn (Yd ?_)))
     obtain rfl:=hx55 _ (ois hs54)
     refine Zk ?_
     exact ⟨hE.sub ⟨rfl,rfl,trivial⟩,hM⟩
   ·skip
    rintro a w ⟨hE,hM⟩
    refine Zt (Zb (Zm hE rfl V0 rfl hM.rawAt0 cq ?_)); intro a hE
    have hM:=hM.pull1
    refine Zl (seg:=cat [[(vI ((⟨285,j5,j23,j50,p0⟩ : GCipher).Field))],enc ((⟨285,j5,j23,j50,p0⟩ : GCipher).Box),enc ((⟨285,j5,j23,j50,p0⟩ : GCipher).Mix),enc ((⟨285,j5,j23,j50,p0⟩ : GCipher).Places),[(vI ((⟨285,j5,j23,j50,p0⟩ : GCipher).Rounds))]]) (cs':=cat [[(vI ((⟨285,j5,j23,j50,p0⟩ : GCipher).Field))],enc ((⟨285,j5,j23,j50,p0⟩ : GCipher).Box),enc ((⟨285,j5,j23,j50,p0⟩ : GCipher).Mix),enc ((⟨285,j5,j23,j50,p0⟩ : GCipher).Places),[(vI ((⟨285,j5,j23,j50,p0⟩ : GCipher).Rounds))]]) hE hM Za rfl rfl rfl V0 cq (Nat.le_of_eq ((Nat.zero_add _).trans (Eq.trans cq (Eq.symm cq)))) (Z1 (cc1 (Flat.cell ((⟨285,j5,j23,j50,p0⟩ : GCipher).Field : Int)) (cc1 (Flat.cell _) (cc1 (Flat.cell _) (cc1 (Flat.cell _) (cc1 (Flat.cell ((⟨285,j5,j23,j50,p0⟩ : GCipher).Rounds : Int)) cc0)))))) (Zi (Eq.trans cq (Eq.symm cq))) fun w a hM hE=>Ze ?_
    obtain rfl:=Option.some.inj hF52
    have hq62 : Yw Tryz.prog _ _ (.cell 2 163) _:=ZI hE rfl V0 rfl hM.rawAt0 cq rfl
    exact wp_ret (ZJ hE rfl hq62 ⟨_,rfl,rfl,hM.kept⟩)
def Qq (s8 : (Vector (Vector UInt8 4) 4) × Int) : Option (Fl ((Vector (Vector UInt8 4) 4) × Int) (Vector (Vector UInt8 4) 4)) :=
 if (decide (s8.2 < 4)) = true then ((ZH s8.1 s8.2).bind fun x14=>(ZH x14 s8.2).bind fun x17=>some (Fl.nx ((s8.1.setIfInBounds (s8.2).toNat (x14.setIfInBounds (s8.2).toNat 1)),wr (s8.2 + 1)))) else (some (Fl.ex s8.1))
def VQ : Option ((Vector (Vector UInt8 4) 4)) :=
 (ZB (Qq) ((Vector.replicate 4 (Vector.replicate 4 (0 : UInt8))),0)).bind fun j5=>some j5
theorem Bn (w0 : World)  (r : (Vector (Vector UInt8 4) 4)) (hF : VQ  = some r) :
  Calls Tryz.prog 232 [].toArray w0 (Rt w0 (Value.agg (enc r).toArray)):=by
 refine ce Tryz.func232 ?_
 intro a hE
 have hM:=M.start w0
 unfold VQ at hF
 refine Zb (Zz hE hM TB fun b1 w a hM hE=>Ze (Zb (Wl (parts:=[]) (vs:=[]) (cs:=enc (Vector.replicate 4 (Vector.replicate 4 (0 : UInt8)))) hE Za ld rfl rfl TB rfl XX XA fun a hE=>Zz hE hM TB fun b3 w a hM hE=>Zl (seg:=enc (Vector.replicate 4 (Vector.replicate 4 (0 : UInt8)))) (cs':=enc (Vector.replicate 4 (Vector.replicate 4 (0 : UInt8)))) hE hM Za rfl rfl rfl TB (Flat.len _) (zle flq) (Flat.cell _) (Zi flq) fun w a hM hE=>Ze (wp_seq (Zb (Zd hE rfl fun a hE=>Ze ?_))))))
 obtain ⟨j5,hl6,hF7⟩:=bind_some hF
 refine ZM (fun a w=>Env 13 a [(0,(ptr b1 0)),(1,(ptr b3 0))] ∧ M (Old w0) w0 w [raw b3 (enc j5),raw b1 (enc (Vector.replicate 4 (Vector.replicate 4 (0 : UInt8))))]) ?_ ?_
 ·skip
  refine wp_block ?_
  refine ZE (fun (s8 : (Vector (Vector UInt8 4) 4) × Int) a w=>Env 13 a [(0,(ptr b1 0)),(1,(ptr b3 0)),(4,vI s8.2)] ∧ M (Old w0) w0 w [raw b3 (enc s8.1),raw b1 (enc (Vector.replicate 4 (Vector.replicate 4 (0 : UInt8))))]) hl6 ⟨hE.sub ⟨rfl,rfl,rfl,trivial⟩,hM⟩ ?_
  rintro s8 a w ⟨hE,hM⟩ o11 hs9 hx10
  unfold Qq at hs9
  refine Zb (Zh hE rfl rfl rfl fun a hE=>Ze (wp_seq ?_))
  refine Zo hE rfl ?_ ?_
  ·intro hb12
   have hs9:=Zw hs9 hb12
   refine wp_skip (Zt (wp_seq (wp_block (Zb (Zd hE rfl fun a hE=>Zc hE rfl fun a hE=>Ze (wp_region_lit (Zd hE rfl fun a hE=>Zd hE rfl ?_))))))); intro a hE
   obtain ⟨x14,hi13,hs9⟩:=bvx hs9
   refine ZD hE rfl rfl Tryz.underlying160 XX hi13.1 ?_; intro a hE
   obtain ⟨x17,hi16,hs9⟩:=bvx hs9
   refine ZD hE rfl rfl Tryz.underlying158 ty5 hi16.1 fun a hE=>Zl (seg:=[vB 1]) (cs':=enc (s8.1.setIfInBounds (s8.2).toNat (x14.setIfInBounds (s8.2).toNat 1))) hE hM Za rfl rfl rfl ty5 rfl (Td (o':=0 + (s8.2).toNat * 1) hi13 (ZQ (v:=x14) (x:=1) hi16.1) (by first | omega | (simp only [Flat.n] <;> omega))) (Flat.cell (1 : UInt8)) (V7 (o':=0 + (s8.2).toNat * 1) hi13 (ZQ (v:=x14) (x:=1) hi16.1) (ZF (v:=x14) (x:=1) hi16.1) (by first | omega | (simp only [Flat.n] <;> omega))) fun w a hM hE=>Zg (Yb (Zt (wp_region_lit (Zh hE rfl rfl rfl fun a hE=>Zd hE rfl fun a hE=>Zg (Zk ?_)))))
   exact ⟨_,(ois hs9),hE.sub ⟨rfl,rfl,rfl,trivial⟩,hM⟩
  ·intro hb12
   have hs9:=Zx hs9 hb12
   refine wp_exit (Zn (Zn (Yd ?_)))
   obtain rfl:=hx10 _ (ois hs9)
   refine Zk ?_
   exact ⟨hE.sub ⟨rfl,rfl,trivial⟩,hM⟩
 ·skip
  rintro a w ⟨hE,hM⟩
  refine Zt (Zb (Zm hE rfl TB rfl hM.rawAt0 (Flat.len _) ?_)); intro a hE
  have hM:=hM.pull1
  refine Zl (seg:=enc j5) (cs':=enc j5) hE hM Za rfl rfl rfl TB (Flat.len _) (zle flq) (Flat.cell _) (Zi flq) fun w a hM hE=>Ze ?_
  obtain rfl:=Option.some.inj hF7
  have hq20 : Yw Tryz.prog _ _ (.cell 0 160) _:=ZI hE rfl TB rfl hM.rawAt0 (Flat.len _) rfl
  exact wp_ret (ZJ hE rfl hq20 ⟨_,rfl,rfl,hM.kept⟩)
def TA (s13 : (Vector (Vector UInt8 4) 4) × (Vector (Vector UInt8 4) 4) × Int × UInt8) (s21 : Int) : Option (Fl Int Int) :=
 (if (decide (s21 < 4)) = true then ((ZH s13.1 s21).bind fun x30=>(ZH x30 s13.2.2.1).bind fun x33=>some (x33 == 0)) else (some false) : Option (Bool)).bind fun j25=>if j25 = true then (some (Fl.nx (wr (s21 + 1)))) else (some (Fl.ex s21))
def Ws (p0 : Int) (s13 : (Vector (Vector UInt8 4) 4) × (Vector (Vector UInt8 4) 4) × Int × UInt8) (r90 : UInt8) (s95 : (Vector (Vector UInt8 4) 4) × (Vector (Vector UInt8 4) 4) × Int) : Option (Fl ((Vector (Vector UInt8 4) 4) × (Vector (Vector UInt8 4) 4) × Int) ((Vector (Vector UInt8 4) 4) × (Vector (Vector UInt8 4) 4))) :=
 if (decide (s95.2.2 < 4)) = true then ((ZH s95.1 s13.2.2.1).bind fun x102=>(ZH x102 s95.2.2).bind fun x105=>(Yo p0 x105 r90).bind fun r107=>(ZH s95.2.1 s13.2.2.1).bind fun x110=>(ZH x110 s95.2.2).bind fun x113=>(Yo p0 x113 r90).bind fun r115=>(ZH s95.1 s13.2.2.1).bind fun x118=>(ZH x118 s95.2.2).bind fun x121=>(ZH s95.2.1 s13.2.2.1).bind fun x124=>(ZH x124 s95.2.2).bind fun x127=>some (Fl.nx ((s95.1.setIfInBounds (s13.2.2.1).toNat (x118.setIfInBounds (s95.2.2).toNat r107)),(s95.2.1.setIfInBounds (s13.2.2.1).toNat (x124.setIfInBounds (s95.2.2).toNat r115)),wr (s95.2.2 + 1)))) else (some (Fl.ex (s95.1,s95.2.1)))
def Wr (p0 : Int) (s13 : (Vector (Vector UInt8 4) 4) × (Vector (Vector UInt8 4) 4) × Int × UInt8) (s133 : (Vector (Vector UInt8 4) 4) × (Vector (Vector UInt8 4) 4) × Int) (x145 : UInt8) (s160 : (Vector (Vector UInt8 4) 4) × (Vector (Vector UInt8 4) 4) × Int) : Option (Fl ((Vector (Vector UInt8 4) 4) × (Vector (Vector UInt8 4) 4) × Int) ((Vector (Vector UInt8 4) 4) × (Vector (Vector UInt8 4) 4))) :=
 if (decide (s160.2.2 < 4)) = true then (((ZH s160.1 s133.2.2).bind fun x170=>(ZH x170 s160.2.2).bind fun x173=>(ZH s160.1 s13.2.2.1).bind fun x176=>(ZH x176 s160.2.2).bind fun x179=>(Yo p0 x145 x179).bind fun r181=>(ZH s160.1 s133.2.2).bind fun x184=>(ZH x184 s160.2.2).bind fun x187=>some (s160.1.setIfInBounds (s133.2.2).toNat (x184.setIfInBounds (s160.2.2).toNat (x173 ^^^ r181))) : Option ((Vector (Vector UInt8 4) 4))).bind fun j165=>(ZH s160.2.1 s133.2.2).bind fun x192=>(ZH x192 s160.2.2).bind fun x195=>(ZH s160.2.1 s13.2.2.1).bind fun x198=>(ZH x198 s160.2.2).bind fun x201=>(Yo p0 x145 x201).bind fun r203=>(ZH s160.2.1 s133.2.2).bind fun x206=>(ZH x206 s160.2.2).bind fun x209=>some (Fl.nx (j165,(s160.2.1.setIfInBounds (s133.2.2).toNat (x206.setIfInBounds (s160.2.2).toNat (x195 ^^^ r203))),wr (s160.2.2 + 1)))) else (some (Fl.ex (s160.1,s160.2.1)))
def Wk (p0 : Int) (s13 : (Vector (Vector UInt8 4) 4) × (Vector (Vector UInt8 4) 4) × Int × UInt8) (s133 : (Vector (Vector UInt8 4) 4) × (Vector (Vector UInt8 4) 4) × Int) : Option (Fl ((Vector (Vector UInt8 4) 4) × (Vector (Vector UInt8 4) 4) × Int) ((Vector (Vector UInt8 4) 4) × (Vector (Vector UInt8 4) 4))) :=
 if (decide (s133.2.2 < 4)) = true then (((ZH s133.1 s133.2.2).bind fun x142=>(ZH x142 s13.2.2.1).bind fun x145=>(if (s133.2.2 != s13.2.2.1) = true then (some (x145 != 0)) else (some false) : Option (Bool)).bind fun j147=>(if j147 = true then ((ZB (Wr p0 s13 s133 x145) (s133.1,s133.2.1,0)).bind fun j157=>some (j157.1,j157.2)) else (some (s133.1,s133.2.1)) : Option ((Vector (Vector UInt8 4) 4) × (Vector (Vector UInt8 4) 4))).bind fun j153=>some (j153.1,j153.2) : Option ((Vector (Vector UInt8 4) 4) × (Vector (Vector UInt8 4) 4))).bind fun j138=>some (Fl.nx (j138.1,j138.2,wr (s133.2.2 + 1)))) else (some (Fl.ex (s133.1,s133.2.1)))
def Y3 (p0 : Int) (s13 : (Vector (Vector UInt8 4) 4) × (Vector (Vector UInt8 4) 4) × Int × UInt8) : Option (Fl ((Vector (Vector UInt8 4) 4) × (Vector (Vector UInt8 4) 4) × Int × UInt8) (Fl ((Vector (Vector UInt8 4) 4) × UInt8) (UInt8 × (Vector (Vector UInt8 4) 4)))) :=
 if (decide (s13.2.2.1 < 4)) = true then ((ZB (TA s13) s13.2.2.1).bind fun j18=>if (j18 == 4) = true then (some (Fl.ex (Fl.ex (0,(Vector.replicate 4 (Vector.replicate 4 (0 : UInt8))))))) else (((ZH s13.1 s13.2.2.1).bind fun x47=>(ZH s13.1 j18).bind fun x50=>(ZH s13.1 j18).bind fun x53=>(ZH (s13.1.setIfInBounds (j18).toNat x47) s13.2.2.1).bind fun x56=>some ((s13.1.setIfInBounds (j18).toNat x47).setIfInBounds (s13.2.2.1).toNat x50) : Option ((Vector (Vector UInt8 4) 4))).bind fun j42=>((ZH s13.2.1 s13.2.2.1).bind fun x64=>(ZH s13.2.1 j18).bind fun x67=>(ZH s13.2.1 j18).bind fun x70=>(ZH (s13.2.1.setIfInBounds (j18).toNat x64) s13.2.2.1).bind fun x73=>some ((s13.2.1.setIfInBounds (j18).toNat x64).setIfInBounds (s13.2.2.1).toNat x67) : Option ((Vector (Vector UInt8 4) 4))).bind fun j59=>(ZH j42 s13.2.2.1).bind fun x77=>(ZH x77 s13.2.2.1).bind fun x80=>(Yo p0 s13.2.2.2 x80).bind fun r82=>(ZH j42 s13.2.2.1).bind fun x85=>(ZH x85 s13.2.2.1).bind fun x88=>(YE p0 x88).bind fun r90=>(ZB (Ws p0 s13 r90) (j42,j59,0)).bind fun j92=>(ZB (Wk p0 s13) (j92.1,j92.2,0)).bind fun j130=>some (Fl.nx (j130.1,j130.2,wr (s13.2.2.1 + 1),r82)))) else (some (Fl.ex (Fl.nx (s13.2.1,s13.2.2.2))))
def XU (p0 : Int) (p1 : (Vector (Vector UInt8 4) 4)) : Option (UInt8 × (Vector (Vector UInt8 4) 4)) :=
 (VQ).bind fun r5=>(ZB (Y3 p0) (p1,r5,0,1)).bind fun j9=>j9.el (fun s12=>(some (s12.1,s12.2) : Option ((Vector (Vector UInt8 4) 4) × UInt8)).bind fun j217=>some (j217.2,j217.1)) (fun r=>some r)
theorem Hd (w0 : World) (p0 : Int) (p1 : (Vector (Vector UInt8 4) 4)) (r : UInt8 × (Vector (Vector UInt8 4) 4)) (hF : XU p0 p1 = some r) :
  Calls Tryz.prog 211 [vI p0,(Value.agg (enc p1).toArray)].toArray w0 (Rt w0 (Value.tuple [vB r.1,(Value.agg (enc r.2).toArray)].toArray)):=by
 refine ce Tryz.func211 ?_
 intro a hE
 have hM:=M.start w0
 unfold XU at hF
 refine Zb (ZK (cs:=enc p1) hE hM Za ld rfl rfl fun b1 w a hM hE=>Zc hE rfl fun a hE=>Zz hE hM TB fun b3 w a hM hE=>Ze (Zb ?_))
 obtain ⟨r5,e6,hF⟩:=bind_some hF
 refine Zv hE rfl (cbm Tryz.func232) (Bn _  r5 e6) ?_
 rintro v w a ⟨rfl,hK⟩ hE
 have hM:=hM.keep hK
 refine Zz hE hM TB fun b7 w a hM hE=>Zl (seg:=enc r5) (cs':=enc r5) hE hM Za rfl rfl rfl TB (Flat.len _) (zle flq) (Flat.cell _) (Zi flq) fun w a hM hE=>Zc hE rfl fun a hE=>Ze (wp_seq (Zb (Zd hE rfl fun a hE=>Ze ?_)))
 obtain ⟨j9,hl10,hF11⟩:=bind_some hF
 refine ZM (fun a w=>∃ s12 : (Vector (Vector UInt8 4) 4) × UInt8,j9 = Fl.nx s12 ∧ Env 153 a [(5,(ptr b3 0)),(6,(ptr b7 0)),(7,vB s12.2)] ∧ M (Old w0) w0 w [raw b7 (enc s12.1),raw b3 (enc (Vector.replicate 4 (Vector.replicate 4 (0 : UInt8))))]) ?_ ?_
 ·skip
  refine wp_block ?_
  refine ZE (fun (s13 : (Vector (Vector UInt8 4) 4) × (Vector (Vector UInt8 4) 4) × Int × UInt8) a w=>Env 153 a [(0,vI p0),(3,(ptr b1 0)),(5,(ptr b3 0)),(6,(ptr b7 0)),(7,vB s13.2.2.2),(16,vI s13.2.2.1)] ∧ M (Old w0) w0 w [raw b7 (enc s13.2.1),raw b3 (enc (Vector.replicate 4 (Vector.replicate 4 (0 : UInt8)))),raw b1 (enc s13.1)]) hl10 ⟨hE.sub ⟨rfl,rfl,rfl,rfl,rfl,rfl,trivial⟩,hM⟩ ?_
  rintro s13 a w ⟨hE,hM⟩ o16 hs14 hx15
  unfold Y3 at hs14
  refine Zb (Zh hE rfl rfl rfl fun a hE=>Ze (wp_seq ?_))
  refine Zo hE rfl ?_ ?_
  ·intro hb17
   have hs14:=Zw hs14 hb17
   refine wp_skip (Zt (wp_seq (wp_block (Zb (Zd hE rfl fun a hE=>Zc hE rfl fun a hE=>Ze (Zb (Zd hE rfl fun a hE=>Zc hE rfl fun a hE=>Ze ?_)))))))
   obtain ⟨j18,hl19,hF20⟩:=bind_some hs14
   refine ZO (fun a w=>Env 153 a [(0,vI p0),(3,(ptr b1 0)),(5,(ptr b3 0)),(6,(ptr b7 0)),(7,vB s13.2.2.2),(8,vI s13.2.2.1),(9,vI j18),(16,vI s13.2.2.1)] ∧ M (Old w0) w0 w [raw b7 (enc s13.2.1),raw b3 (enc (Vector.replicate 4 (Vector.replicate 4 (0 : UInt8)))),raw b1 (enc s13.1)]) ?_ ?_
   ·skip
    refine wp_block ?_
    refine ZE (fun (s21 : Int) a w=>Env 153 a [(0,vI p0),(3,(ptr b1 0)),(5,(ptr b3 0)),(6,(ptr b7 0)),(7,vB s13.2.2.2),(8,vI s13.2.2.1),(9,vI s21),(16,vI s13.2.2.1)] ∧ M (Old w0) w0 w [raw b7 (enc s13.2.1),raw b3 (enc (Vector.replicate 4 (Vector.replicate 4 (0 : UInt8)))),raw b1 (enc s13.1)]) hl19 ⟨hE.sub ⟨rfl,rfl,rfl,rfl,rfl,rfl,rfl,rfl,trivial⟩,hM⟩ ?_
    rintro s21 a w ⟨hE,hM⟩ o24 hs22 hx23
    unfold TA at hs22
    refine wp_seq ?_
    obtain ⟨j25,hl26,hF27⟩:=bind_some hs22
    refine ZO (fun a w=>Env 153 a [(0,vI p0),(3,(ptr b1 0)),(5,(ptr b3 0)),(6,(ptr b7 0)),(7,vB s13.2.2.2),(8,vI s13.2.2.1),(9,vI s21),(16,vI s13.2.2.1),(29,vT j25)] ∧ M (Old w0) w0 w [raw b7 (enc s13.2.1),raw b3 (enc (Vector.replicate 4 (Vector.replicate 4 (0 : UInt8)))),raw b1 (enc s13.1)]) ?_ ?_
    ·skip
     refine wp_region_lit (Zd hE rfl fun a hE=>Zh hE rfl rfl rfl fun a hE=>Zd hE rfl ?_); intro a hE
     refine X1 (decide (s21 < 4)) (fun hb28=>?_) (fun hb28=>?_)
     ·have hl26:=Zw hl26 hb28
      refine Zu hE (Zq hE rfl (lkb rfl hb28)) (by decide) rfl fun a hE=>Zu hE (Zq hE rfl (lkb rfl hb28)) (by decide) rfl ?_; intro a hE
      obtain ⟨x30,hi29,hl26⟩:=bvx hl26
      refine ZG hE (Zq hE rfl (lkb rfl hb28)) (by decide) rfl rfl Tryz.underlying160 XX hi29.1 ?_; intro a hE
      obtain ⟨x33,hi32,hl26⟩:=bvx hl26
      refine ZG hE (Zq hE rfl (lkb rfl hb28)) (by decide) rfl rfl Tryz.underlying158 ty5 hi32.1 fun a hE=>ZN (v:=(vB x33)) hE (Zq hE rfl (lkb rfl hb28)) (by decide) rfl ty5 rfl (At.vec (At.vec hM.rawAt2 hi29.2) hi32.2) fun a hE=>Yt hE (Zq hE rfl (lkb rfl hb28)) (by decide) rfl rfl (Zcf x33 0) fun a hE=>Yy hE (lkb rfl hb28) rfl fun a hE=>Zg ?_
      obtain rfl:=Option.some.inj hl26
      refine Zk ?_
      exact ⟨hE.sub ⟨rfl,rfl,rfl,rfl,rfl,rfl,rfl,rfl,rfl,trivial⟩,hM⟩
     ·have hl26:=Zx hl26 hb28
      refine Zr hE rfl (lkb rfl hb28) rfl (by decide) fun a hE=>Zr hE rfl (lkb rfl hb28) rfl (by decide) fun a hE=>Zr hE rfl (lkb rfl hb28) rfl (by decide) fun a hE=>Zr hE rfl (lkb rfl hb28) rfl (by decide) fun a hE=>Zr hE rfl (lkb rfl hb28) rfl (by decide) fun a hE=>Zr hE rfl (lkb rfl hb28) rfl (by decide) fun a hE=>Wc hE (lkb rfl hb28) rfl fun a hE=>Zg ?_
      obtain rfl:=Option.some.inj hl26
      refine Zk ?_
      exact ⟨hE.sub ⟨rfl,rfl,rfl,rfl,rfl,rfl,rfl,rfl,rfl,trivial⟩,hM⟩
    ·skip
     rintro a w ⟨hE,hM⟩
     refine Zo hE rfl ?_ ?_
     ·intro hb37
      have hF27:=Zw hF27 hb37
      refine wp_skip (Zt (wp_block (wp_region_lit (Zd hE rfl fun a hE=>Zh hE rfl rfl rfl fun a hE=>Zc hE rfl fun a hE=>Zg (Yb (Zk ?_))))))
      exact ⟨_,(ois hF27),hE.sub ⟨rfl,rfl,rfl,rfl,rfl,rfl,rfl,rfl,trivial⟩,hM⟩
     ·intro hb37
      have hF27:=Zx hF27 hb37
      refine wp_exit (Zn (Zn (Yd ?_)))
      obtain rfl:=hx23 _ (ois hF27)
      refine Zk ?_
      exact ⟨hE.sub ⟨rfl,rfl,rfl,rfl,rfl,rfl,rfl,rfl,trivial⟩,hM⟩
   ·skip
    rintro a w ⟨hE,hM⟩
    refine wp_seq (Zb (Zd hE rfl fun a hE=>Zh hE rfl rfl rfl fun a hE=>Ze ?_))
    refine Zo hE rfl ?_ ?_
    ·intro hb39
     have hF20:=Zw hF20 hb39
     refine Zb (Wl (parts:=[]) (vs:=[]) (cs:=enc (Vector.replicate 4 (Vector.replicate 4 (0 : UInt8)))) hE Za ld rfl rfl TB rfl XX XA fun a hE=>Zc hE rfl ?_); intro a hE
     have hM:=hM.pull1
     refine Zl (seg:=enc (Vector.replicate 4 (Vector.replicate 4 (0 : UInt8)))) (cs':=enc (Vector.replicate 4 (Vector.replicate 4 (0 : UInt8)))) hE hM Za rfl rfl rfl TB (Flat.len _) (zle flq) (Flat.cell _) (Zi flq) fun w a hM hE=>Ze ?_
     obtain rfl:=hx15 _ (ois hF20)
     obtain rfl:=Option.some.inj hF11
     have hq41 : Yw Tryz.prog _ _ (.cell 5 160) _:=ZI hE rfl TB rfl hM.rawAt0 (Flat.len _) rfl
     exact wp_ret (Zs (Yr (Zs (Zs (Yr (Zs (Zs (Th hE rfl (ZP hE rfl) hq41 ⟨_,rfl,rfl,hM.kept⟩))))))))
    ·intro hb39
     have hF20:=Zx hF20 hb39
     refine wp_skip (Zt ?_)
     obtain ⟨j42,hl43,hF44⟩:=bind_some hF20
     refine ZO (fun a w=>Env 153 a [(0,vI p0),(3,(ptr b1 0)),(5,(ptr b3 0)),(6,(ptr b7 0)),(7,vB s13.2.2.2),(8,vI s13.2.2.1),(9,vI j18),(16,vI s13.2.2.1)] ∧ M (Old w0) w0 w [raw b7 (enc s13.2.1),raw b3 (enc (Vector.replicate 4 (Vector.replicate 4 (0 : UInt8)))),raw b1 (enc j42)]) ?_ ?_
     ·skip
      have hM:=hM.pull2
      obtain ⟨x47,hi46,hl43⟩:=bvx hl43
      obtain ⟨x50,hi49,hl43⟩:=bvx hl43
      obtain ⟨x53,hi52,hl43⟩:=bvx hl43
      refine YC (its:=[raw b7 (enc s13.2.1),raw b3 (enc (Vector.replicate 4 (Vector.replicate 4 (0 : UInt8))))]) (mk:=([mkT 9 (raw b1 (enc s13.1)) (raw b1 (enc (s13.1.setIfInBounds (j18).toNat x47)))] : Mk)) [35,36,37,38,39,40,41,42,43,162] YF rfl rfl (by decide) rfl hE (fun u=>M.qT (M.q0 hM.drew u)) (qsP (fun z=>Zu z.E Za ld rfl (kr0 rfl)) (qsP (fun z=>Zu z.E Za ld rfl (kr0 rfl)) (qsP (fun z=>Zu z.E Za ld rfl (kr0 rfl)) (qsP (fun z=>ZG z.E Za ld rfl rfl Tryz.underlying160 XX hi46.1 (kr0 rfl)) (qsP (v:=(Value.agg (enc x47).toArray)) ?_ (qsP (fun z=>Zu z.E Za ld rfl (kr0 rfl)) (qsP (fun z=>ZG z.E Za ld rfl rfl Tryz.underlying160 XX hi49.1 (kr0 rfl)) (qsP (v:=(Value.agg (enc x50).toArray)) ?_ (qsP (fun z=>ZG z.E Za ld rfl rfl Tryz.underlying160 XX hi52.1 (kr0 rfl)) (qsM (pr:=fun v=>True) ?_ qs0)))))))))) ?_
      ·intro a w ux45 D z
       have hE:=z.E
       have hD : D 4 = false:=z.F
       have hM:=z.M.togA (pre:=[_,_]) (Q9 (j:=9) (k:=1) z.c rfl rfl rfl hD)
       exact Zm hE rfl XX rfl (At.vec hM.rawAt2 hi46.2) (Flat.len _) fun a hE=>⟨Kept.refl _ _,_,rfl,hE⟩
      ·intro a w ux45 D z
       have hE:=z.E
       have hD : D 7 = false:=z.F
       have hM:=z.M.togA (pre:=[_,_]) (Q9 (j:=9) (k:=9) z.c rfl rfl rfl hD)
       exact Zm hE rfl XX rfl (At.vec hM.rawAt2 hi49.2) (Flat.len _) fun a hE=>⟨Kept.refl _ _,_,rfl,hE⟩
      ·intro a w ux45 D z
       have hE:=z.E
       have hD : D 9 = false:=z.F
       have hM:=(z.M.togA (pre:=[_,_]) hD).pull2
       exact Zl (seg:=enc x47) (cs':=enc (s13.1.setIfInBounds (j18).toNat x47)) hE hM Za rfl rfl rfl XX (Flat.len _) (ZQ (v:=s13.1) (x:=x47) hi52.1) (Flat.cell _) (ZF (v:=s13.1) (x:=x47) hi52.1) fun w a hM hE=>⟨undef,_,rfl,Env.dummy hE (by decide),M.qTog (mk1:=[]) (mk2:=[]) hM rfl,trivial⟩
      ·intro a w ux45 D hE hM hG hall
       have d9:=hall 9 (by decide)
       have hM:=hM.togB (pre:=[_,_]) d9
       obtain ⟨x56,hi55,hl43⟩:=bvx hl43
       refine ZD hE rfl rfl Tryz.underlying160 XX hi55.1 ?_; intro a hE
       have hM:=hM.pull2
       refine Zl (seg:=enc x50) (cs':=enc ((s13.1.setIfInBounds (j18).toNat x47).setIfInBounds (s13.2.2.1).toNat x50)) hE hM Za rfl rfl rfl XX (Flat.len _) (ZQ (v:=(s13.1.setIfInBounds (j18).toNat x47)) (x:=x50) hi55.1) (Flat.cell _) (ZF (v:=(s13.1.setIfInBounds (j18).toNat x47)) (x:=x50) hi55.1) fun w a hM hE=>Zg ?_
       obtain rfl:=Option.some.inj hl43
       refine Zk ?_
       have hM:=hM.pull2.pull2
       exact ⟨hE.sub ⟨rfl,rfl,rfl,rfl,rfl,rfl,rfl,rfl,trivial⟩,hM⟩
     ·skip
      rintro a w ⟨hE,hM⟩
      obtain ⟨j59,hl60,hF61⟩:=bind_some hF44
      refine ZO (fun a w=>Env 153 a [(0,vI p0),(3,(ptr b1 0)),(5,(ptr b3 0)),(6,(ptr b7 0)),(7,vB s13.2.2.2),(8,vI s13.2.2.1),(16,vI s13.2.2.1)] ∧ M (Old w0) w0 w [raw b7 (enc j59),raw b3 (enc (Vector.replicate 4 (Vector.replicate 4 (0 : UInt8)))),raw b1 (enc j42)]) ?_ ?_
      ·skip
       obtain ⟨x64,hi63,hl60⟩:=bvx hl60
       obtain ⟨x67,hi66,hl60⟩:=bvx hl60
       obtain ⟨x70,hi69,hl60⟩:=bvx hl60
       refine YC (its:=[raw b3 (enc (Vector.replicate 4 (Vector.replicate 4 (0 : UInt8)))),raw b1 (enc j42)]) (mk:=([mkT 9 (raw b7 (enc s13.2.1)) (raw b7 (enc (s13.2.1.setIfInBounds (j18).toNat x64)))] : Mk)) [45,46,47,48,49,50,51,52,53,162] YF rfl rfl (by decide) rfl hE (fun u=>M.qT (M.q0 hM.drew u)) (qsP (fun z=>Zu z.E Za ld rfl (kr0 rfl)) (qsP (fun z=>Zu z.E Za ld rfl (kr0 rfl)) (qsP (fun z=>Zu z.E Za ld rfl (kr0 rfl)) (qsP (fun z=>ZG z.E Za ld rfl rfl Tryz.underlying160 XX hi63.1 (kr0 rfl)) (qsP (v:=(Value.agg (enc x64).toArray)) ?_ (qsP (fun z=>Zu z.E Za ld rfl (kr0 rfl)) (qsP (fun z=>ZG z.E Za ld rfl rfl Tryz.underlying160 XX hi66.1 (kr0 rfl)) (qsP (v:=(Value.agg (enc x67).toArray)) ?_ (qsP (fun z=>ZG z.E Za ld rfl rfl Tryz.underlying160 XX hi69.1 (kr0 rfl)) (qsM (pr:=fun v=>True) ?_ qs0)))))))))) ?_
       ·intro a w ux62 D z
        have hE:=z.E
        have hD : D 4 = false:=z.F
        have hM:=z.M.togA (pre:=[_,_]) (Q9 (j:=9) (k:=1) z.c rfl rfl rfl hD)
        exact Zm hE rfl XX rfl (At.vec hM.rawAt2 hi63.2) (Flat.len _) fun a hE=>⟨Kept.refl _ _,_,rfl,hE⟩
       ·intro a w ux62 D z
        have hE:=z.E
        have hD : D 7 = false:=z.F
        have hM:=z.M.togA (pre:=[_,_]) (Q9 (j:=9) (k:=9) z.c rfl rfl rfl hD)
        exact Zm hE rfl XX rfl (At.vec hM.rawAt2 hi66.2) (Flat.len _) fun a hE=>⟨Kept.refl _ _,_,rfl,hE⟩
       ·intro a w ux62 D z
        have hE:=z.E
        have hD : D 9 = false:=z.F
        have hM:=(z.M.togA (pre:=[_,_]) hD).pull2
        exact Zl (seg:=enc x64) (cs':=enc (s13.2.1.setIfInBounds (j18).toNat x64)) hE hM Za rfl rfl rfl XX (Flat.len _) (ZQ (v:=s13.2.1) (x:=x64) hi69.1) (Flat.cell _) (ZF (v:=s13.2.1) (x:=x64) hi69.1) fun w a hM hE=>⟨undef,_,rfl,Env.dummy hE (by decide),M.qTog (mk1:=[]) (mk2:=[]) hM rfl,trivial⟩
       ·intro a w ux62 D hE hM hG hall
        have d9:=hall 9 (by decide)
        have hM:=hM.togB (pre:=[_,_]) d9
        obtain ⟨x73,hi72,hl60⟩:=bvx hl60
        refine ZD hE rfl rfl Tryz.underlying160 XX hi72.1 ?_; intro a hE
        have hM:=hM.pull2
        refine Zl (seg:=enc x67) (cs':=enc ((s13.2.1.setIfInBounds (j18).toNat x64).setIfInBounds (s13.2.2.1).toNat x67)) hE hM Za rfl rfl rfl XX (Flat.len _) (ZQ (v:=(s13.2.1.setIfInBounds (j18).toNat x64)) (x:=x67) hi72.1) (Flat.cell _) (ZF (v:=(s13.2.1.setIfInBounds (j18).toNat x64)) (x:=x67) hi72.1) fun w a hM hE=>Zg ?_
        obtain rfl:=Option.some.inj hl60
        refine Zk ?_
        exact ⟨hE.sub ⟨rfl,rfl,rfl,rfl,rfl,rfl,rfl,trivial⟩,hM⟩
      ·skip
       rintro a w ⟨hE,hM⟩
       refine Zb (Zd hE rfl fun a hE=>Zd hE rfl fun a hE=>Zd hE rfl fun a hE=>Zd hE rfl ?_); intro a hE
       obtain ⟨x77,hi76,hF61⟩:=bvx hF61
       refine ZD hE rfl rfl Tryz.underlying160 XX hi76.1 ?_; intro a hE
       obtain ⟨x80,hi79,hF61⟩:=bvx hF61
       refine ZD hE rfl rfl Tryz.underlying158 ty5 hi79.1 fun a hE=>Zy (v:=(vB x80)) hE rfl ty5 rfl (At.vec (At.vec hM.rawAt2 hi76.2) hi79.2) ?_; intro a hE
       obtain ⟨r82,e83,hF61⟩:=bind_some hF61
       refine Zv hE rfl Af (Y9 _ p0 s13.2.2.2 x80 r82 e83) ?_
       rintro v w a ⟨rfl,hK⟩ hE
       have hM:=hM.keep hK
       refine Zc hE rfl fun a hE=>Ze (Zb (Zd hE rfl fun a hE=>Zd hE rfl fun a hE=>Zd hE rfl ?_)); intro a hE
       obtain ⟨x85,hi84,hF61⟩:=bvx hF61
       refine ZD hE rfl rfl Tryz.underlying160 XX hi84.1 ?_; intro a hE
       obtain ⟨x88,hi87,hF61⟩:=bvx hF61
       refine ZD hE rfl rfl Tryz.underlying158 ty5 hi87.1 fun a hE=>Zy (v:=(vB x88)) hE rfl ty5 rfl (At.vec (At.vec hM.rawAt2 hi84.2) hi87.2) ?_; intro a hE
       obtain ⟨r90,e91,hF61⟩:=bind_some hF61
       refine Zv hE rfl Zcl (TC _ p0 x88 r90 e91) ?_
       rintro v w a ⟨rfl,hK⟩ hE
       have hM:=hM.keep hK
       refine Zc hE rfl fun a hE=>Ze (wp_seq (Zb (Zd hE rfl fun a hE=>Ze ?_)))
       obtain ⟨j92,hl93,hF94⟩:=bind_some hF61
       refine ZM (fun a w=>Env 153 a [(0,vI p0),(3,(ptr b1 0)),(5,(ptr b3 0)),(6,(ptr b7 0)),(7,vB r82),(8,vI s13.2.2.1),(16,vI s13.2.2.1)] ∧ M (Old w0) w0 w [raw b7 (enc j92.2),raw b3 (enc (Vector.replicate 4 (Vector.replicate 4 (0 : UInt8)))),raw b1 (enc j92.1)]) ?_ ?_
       ·skip
        refine wp_block ?_
        refine ZE (fun (s95 : (Vector (Vector UInt8 4) 4) × (Vector (Vector UInt8 4) 4) × Int) a w=>Env 153 a [(0,vI p0),(3,(ptr b1 0)),(5,(ptr b3 0)),(6,(ptr b7 0)),(7,vB r82),(8,vI s13.2.2.1),(10,vB r90),(16,vI s13.2.2.1),(70,vI s95.2.2)] ∧ M (Old w0) w0 w [raw b7 (enc s95.2.1),raw b3 (enc (Vector.replicate 4 (Vector.replicate 4 (0 : UInt8)))),raw b1 (enc s95.1)]) hl93 ⟨hE.sub ⟨rfl,rfl,rfl,rfl,rfl,rfl,rfl,rfl,rfl,trivial⟩,hM⟩ ?_
        rintro s95 a w ⟨hE,hM⟩ o98 hs96 hx97
        unfold Ws at hs96
        refine Zb (Zh hE rfl rfl rfl fun a hE=>Ze (wp_seq ?_))
        refine Zo hE rfl ?_ ?_
        ·intro hb99
         have hs96:=Zw hs96 hb99
         refine wp_skip (Zt (wp_seq (wp_block (Zb (Zd hE rfl fun a hE=>Zc hE rfl fun a hE=>Ze ?_)))))
         have hM:=hM.pull2
         obtain ⟨x102,hi101,hs96⟩:=bvx hs96
         obtain ⟨x105,hi104,hs96⟩:=bvx hs96
         obtain ⟨r107,e108,hs96⟩:=bind_some hs96
         obtain ⟨x110,hi109,hs96⟩:=bvx hs96
         obtain ⟨x113,hi112,hs96⟩:=bvx hs96
         obtain ⟨r115,e116,hs96⟩:=bind_some hs96
         obtain ⟨x118,hi117,hs96⟩:=bvx hs96
         obtain ⟨x121,hi120,hs96⟩:=bvx hs96
         obtain ⟨x124,hi123,hs96⟩:=bvx hs96
         refine YC (its:=[raw b7 (enc s95.2.1),raw b3 (enc (Vector.replicate 4 (Vector.replicate 4 (0 : UInt8))))]) (mk:=([mkT 22 (raw b1 (enc s95.1)) (raw b1 (enc (s95.1.setIfInBounds (s13.2.2.1).toNat (x118.setIfInBounds (s95.2.2).toNat r107))))] : Mk)) [73,74,75,76,77,78,79,80,81,82,83,84,85,86,87,88,89,90,91,92,93,94,175,95] YF rfl rfl (by decide) rfl hE (fun u=>M.qT (M.q0 hM.drew u)) (qsP (fun z=>Zu z.E Za ld rfl (kr0 rfl)) (qsP (fun z=>Zu z.E Za ld rfl (kr0 rfl)) (qsP (fun z=>Zu z.E Za ld rfl (kr0 rfl)) (qsP (fun z=>Zu z.E Za ld rfl (kr0 rfl)) (qsP (fun z=>Zu z.E Za ld rfl (kr0 rfl)) (qsP (fun z=>Zu z.E Za ld rfl (kr0 rfl)) (qsP (fun z=>Zu z.E Za ld rfl (kr0 rfl)) (qsP (fun z=>ZG z.E Za ld rfl rfl Tryz.underlying160 XX hi101.1 (kr0 rfl)) (qsP (fun z=>ZG z.E Za ld rfl rfl Tryz.underlying158 ty5 hi104.1 (kr0 rfl)) (qsP (v:=(vB x105)) ?_ (qsP (fun z=>Zu z.E Za ld rfl (kr0 rfl)) (qsP (fun z=>Z0 z.E Za ld rfl Af (Y9 _ p0 x105 r90 r107 e108) (kc rfl)) (qsP (fun z=>Zu z.E Za ld rfl (kr0 rfl)) (qsP (fun z=>Zu z.E Za ld rfl (kr0 rfl)) (qsP (fun z=>Zu z.E Za ld rfl (kr0 rfl)) (qsP (fun z=>ZG z.E Za ld rfl rfl Tryz.underlying160 XX hi109.1 (kr0 rfl)) (qsP (fun z=>ZG z.E Za ld rfl rfl Tryz.underlying158 ty5 hi112.1 (kr0 rfl)) (qsP (v:=(vB x113)) ?_ (qsP (fun z=>Zu z.E Za ld rfl (kr0 rfl)) (qsP (fun z=>Z0 z.E Za ld rfl Af (Y9 _ p0 x113 r90 r115 e116) (kc rfl)) (qsP (fun z=>ZG z.E Za ld rfl rfl Tryz.underlying160 XX hi117.1 (kr0 rfl)) (qsP (fun z=>ZG z.E Za ld rfl rfl Tryz.underlying158 ty5 hi120.1 (kr0 rfl)) (qsM (pr:=fun v=>True) ?_ (qsP (fun z=>ZG z.E Za ld rfl rfl Tryz.underlying160 XX hi123.1 (kr0 rfl)) qs0)))))))))))))))))))))))) ?_
         ·intro a w ux100 D z
          have hE:=z.E
          have hD : D 9 = false:=z.F
          have hM:=z.M.togA (pre:=[_,_]) (Q9 (j:=22) (k:=12) z.c rfl rfl rfl hD)
          exact Zy (v:=(vB x105)) hE rfl ty5 rfl (At.vec (At.vec hM.rawAt2 hi101.2) hi104.2) fun a hE=>⟨Kept.refl _ _,_,rfl,hE⟩
         ·intro a w ux100 D z
          have hE:=z.E
          have hM:=z.M
          exact Zy (v:=(vB x113)) hE rfl ty5 rfl (At.vec (At.vec hM.rawAt0 hi109.2) hi112.2) fun a hE=>⟨Kept.refl _ _,_,rfl,hE⟩
         ·intro a w ux100 D z
          have hE:=z.E
          have hD : D 22 = false:=z.F
          have hM:=(z.M.togA (pre:=[_,_]) hD).pull2
          exact Zl (seg:=[vB r107]) (cs':=enc (s95.1.setIfInBounds (s13.2.2.1).toNat (x118.setIfInBounds (s95.2.2).toNat r107))) hE hM Za rfl rfl rfl ty5 rfl (Td (o':=0 + (s95.2.2).toNat * 1) hi117 (ZQ (v:=x118) (x:=r107) hi120.1) (by first | omega | (simp only [Flat.n] <;> omega))) (Flat.cell (r107 : UInt8)) (V7 (o':=0 + (s95.2.2).toNat * 1) hi117 (ZQ (v:=x118) (x:=r107) hi120.1) (ZF (v:=x118) (x:=r107) hi120.1) (by first | omega | (simp only [Flat.n] <;> omega))) fun w a hM hE=>⟨undef,_,rfl,Env.dummy hE (by decide),M.qTog (mk1:=[]) (mk2:=[]) hM rfl,trivial⟩
         ·intro a w ux100 D hE hM hG hall
          have d22:=hall 22 (by decide)
          have hM:=hM.togB (pre:=[_,_]) d22
          obtain ⟨x127,hi126,hs96⟩:=bvx hs96
          refine ZD hE rfl rfl Tryz.underlying158 ty5 hi126.1 fun a hE=>Zl (seg:=[vB r115]) (cs':=enc (s95.2.1.setIfInBounds (s13.2.2.1).toNat (x124.setIfInBounds (s95.2.2).toNat r115))) hE hM Za rfl rfl rfl ty5 rfl (Td (o':=0 + (s95.2.2).toNat * 1) hi123 (ZQ (v:=x124) (x:=r115) hi126.1) (by first | omega | (simp only [Flat.n] <;> omega))) (Flat.cell (r115 : UInt8)) (V7 (o':=0 + (s95.2.2).toNat * 1) hi123 (ZQ (v:=x124) (x:=r115) hi126.1) (ZF (v:=x124) (x:=r115) hi126.1) (by first | omega | (simp only [Flat.n] <;> omega))) fun w a hM hE=>Zg (Yb (Zt (wp_region_lit (Zh hE rfl rfl rfl fun a hE=>Zd hE rfl fun a hE=>Zg (Zk ?_)))))
          exact ⟨_,(ois hs96),hE.sub ⟨rfl,rfl,rfl,rfl,rfl,rfl,rfl,rfl,rfl,trivial⟩,hM⟩
        ·intro hb99
         have hs96:=Zx hs96 hb99
         refine wp_exit (Zn (Zn (Yd ?_)))
         obtain rfl:=hx97 _ (ois hs96)
         refine Zk ?_
         exact ⟨hE.sub ⟨rfl,rfl,rfl,rfl,rfl,rfl,rfl,trivial⟩,hM⟩
       ·skip
        rintro a w ⟨hE,hM⟩
        refine Zt (Zb (Zd hE rfl fun a hE=>Ze ?_))
        obtain ⟨j130,hl131,hF132⟩:=bind_some hF94
        refine ZM (fun a w=>Env 153 a [(0,vI p0),(3,(ptr b1 0)),(5,(ptr b3 0)),(6,(ptr b7 0)),(7,vB r82),(16,vI s13.2.2.1)] ∧ M (Old w0) w0 w [raw b7 (enc j130.2),raw b3 (enc (Vector.replicate 4 (Vector.replicate 4 (0 : UInt8)))),raw b1 (enc j130.1)]) ?_ ?_
        ·skip
         refine wp_block ?_
         refine ZE (fun (s133 : (Vector (Vector UInt8 4) 4) × (Vector (Vector UInt8 4) 4) × Int) a w=>Env 153 a [(0,vI p0),(3,(ptr b1 0)),(5,(ptr b3 0)),(6,(ptr b7 0)),(7,vB r82),(8,vI s13.2.2.1),(16,vI s13.2.2.1),(98,vI s133.2.2)] ∧ M (Old w0) w0 w [raw b7 (enc s133.2.1),raw b3 (enc (Vector.replicate 4 (Vector.replicate 4 (0 : UInt8)))),raw b1 (enc s133.1)]) hl131 ⟨hE.sub ⟨rfl,rfl,rfl,rfl,rfl,rfl,rfl,rfl,trivial⟩,hM⟩ ?_
         rintro s133 a w ⟨hE,hM⟩ o136 hs134 hx135
         unfold Wk at hs134
         refine Zb (Zh hE rfl rfl rfl fun a hE=>Ze (wp_seq ?_))
         refine Zo hE rfl ?_ ?_
         ·intro hb137
          have hs134:=Zw hs134 hb137
          refine wp_skip (Zt ?_)
          obtain ⟨j138,hl139,hF140⟩:=bind_some hs134
          refine ZO (fun a w=>Env 153 a [(0,vI p0),(3,(ptr b1 0)),(5,(ptr b3 0)),(6,(ptr b7 0)),(7,vB r82),(8,vI s13.2.2.1),(16,vI s13.2.2.1),(98,vI s133.2.2)] ∧ M (Old w0) w0 w [raw b7 (enc j138.2),raw b3 (enc (Vector.replicate 4 (Vector.replicate 4 (0 : UInt8)))),raw b1 (enc j138.1)]) ?_ ?_
          ·skip
           refine wp_block (Zb (Zd hE rfl fun a hE=>Zc hE rfl fun a hE=>Ze (Zb (Zd hE rfl fun a hE=>Zd hE rfl ?_)))); intro a hE
           obtain ⟨x142,hi141,hl139⟩:=bvx hl139
           refine ZD hE rfl rfl Tryz.underlying160 XX hi141.1 ?_; intro a hE
           obtain ⟨x145,hi144,hl139⟩:=bvx hl139
           refine ZD hE rfl rfl Tryz.underlying158 ty5 hi144.1 fun a hE=>Zy (v:=(vB x145)) hE rfl ty5 rfl (At.vec (At.vec hM.rawAt2 hi141.2) hi144.2) fun a hE=>Zc hE rfl fun a hE=>Ze ?_
           obtain ⟨j147,hl148,hF149⟩:=bind_some hl139
           refine ZO (fun a w=>Env 153 a [(0,vI p0),(3,(ptr b1 0)),(5,(ptr b3 0)),(6,(ptr b7 0)),(7,vB r82),(8,vI s13.2.2.1),(12,vI s133.2.2),(13,vB x145),(16,vI s13.2.2.1),(98,vI s133.2.2),(112,vT j147)] ∧ M (Old w0) w0 w [raw b7 (enc s133.2.1),raw b3 (enc (Vector.replicate 4 (Vector.replicate 4 (0 : UInt8)))),raw b1 (enc s133.1)]) ?_ ?_
           ·skip
            refine wp_region_lit (Zd hE rfl fun a hE=>Zd hE rfl fun a hE=>Zh hE rfl rfl rfl fun a hE=>Zd hE rfl ?_); intro a hE
            refine X1 (s133.2.2 != s13.2.2.1) (fun hb150=>?_) (fun hb150=>?_)
            ·have hl148:=Zw hl148 hb150
             refine Zu hE (Zq hE rfl (lkb rfl hb150)) (by decide) rfl fun a hE=>Yt hE (Zq hE rfl (lkb rfl hb150)) (by decide) rfl rfl (K6 x145 0) fun a hE=>Yy hE (lkb rfl hb150) rfl fun a hE=>Zg ?_
             obtain rfl:=Option.some.inj hl148
             refine Zk ?_
             exact ⟨hE.sub ⟨rfl,rfl,rfl,rfl,rfl,rfl,rfl,rfl,rfl,rfl,rfl,trivial⟩,hM⟩
            ·have hl148:=Zx hl148 hb150
             refine Zr hE rfl (lkb rfl hb150) rfl (by decide) fun a hE=>Zr hE rfl (lkb rfl hb150) rfl (by decide) fun a hE=>Wc hE (lkb rfl hb150) rfl fun a hE=>Zg ?_
             obtain rfl:=Option.some.inj hl148
             refine Zk ?_
             exact ⟨hE.sub ⟨rfl,rfl,rfl,rfl,rfl,rfl,rfl,rfl,rfl,rfl,rfl,trivial⟩,hM⟩
           ·skip
            rintro a w ⟨hE,hM⟩
            obtain ⟨j153,hl154,hF155⟩:=bind_some hF149
            refine ZM (fun a w=>Env 153 a [(0,vI p0),(3,(ptr b1 0)),(5,(ptr b3 0)),(6,(ptr b7 0)),(7,vB r82),(8,vI s13.2.2.1),(16,vI s13.2.2.1),(98,vI s133.2.2)] ∧ M (Old w0) w0 w [raw b7 (enc j153.2),raw b3 (enc (Vector.replicate 4 (Vector.replicate 4 (0 : UInt8)))),raw b1 (enc j153.1)]) ?_ ?_
            ·skip
             refine Zo hE rfl ?_ ?_
             ·intro hb156
              have hl154:=Zw hl154 hb156
              refine Zb (Zd hE rfl fun a hE=>Ze ?_)
              obtain ⟨j157,hl158,hF159⟩:=bind_some hl154
              refine ZM (fun a w=>Env 153 a [(0,vI p0),(3,(ptr b1 0)),(5,(ptr b3 0)),(6,(ptr b7 0)),(7,vB r82),(8,vI s13.2.2.1),(16,vI s13.2.2.1),(98,vI s133.2.2)] ∧ M (Old w0) w0 w [raw b7 (enc j157.2),raw b3 (enc (Vector.replicate 4 (Vector.replicate 4 (0 : UInt8)))),raw b1 (enc j157.1)]) ?_ ?_
              ·skip
               refine wp_block ?_
               refine ZE (fun (s160 : (Vector (Vector UInt8 4) 4) × (Vector (Vector UInt8 4) 4) × Int) a w=>Env 153 a [(0,vI p0),(3,(ptr b1 0)),(5,(ptr b3 0)),(6,(ptr b7 0)),(7,vB r82),(8,vI s13.2.2.1),(12,vI s133.2.2),(13,vB x145),(16,vI s13.2.2.1),(98,vI s133.2.2),(113,vI s160.2.2)] ∧ M (Old w0) w0 w [raw b7 (enc s160.2.1),raw b3 (enc (Vector.replicate 4 (Vector.replicate 4 (0 : UInt8)))),raw b1 (enc s160.1)]) hl158 ⟨hE.sub ⟨rfl,rfl,rfl,rfl,rfl,rfl,rfl,rfl,rfl,rfl,rfl,trivial⟩,hM⟩ ?_
               rintro s160 a w ⟨hE,hM⟩ o163 hs161 hx162
               unfold Wr at hs161
               refine Zb (Zh hE rfl rfl rfl fun a hE=>Ze (wp_seq ?_))
               refine Zo hE rfl ?_ ?_
               ·intro hb164
                have hs161:=Zw hs161 hb164
                refine wp_skip (Zt (wp_seq (wp_block (Zb (Zd hE rfl fun a hE=>Zc hE rfl fun a hE=>Ze ?_)))))
                obtain ⟨j165,hl166,hF167⟩:=bind_some hs161
                refine ZO (fun a w=>Env 153 a [(0,vI p0),(3,(ptr b1 0)),(5,(ptr b3 0)),(6,(ptr b7 0)),(7,vB r82),(8,vI s13.2.2.1),(12,vI s133.2.2),(13,vB x145),(14,vI s160.2.2),(16,vI s13.2.2.1),(98,vI s133.2.2),(113,vI s160.2.2)] ∧ M (Old w0) w0 w [raw b7 (enc s160.2.1),raw b3 (enc (Vector.replicate 4 (Vector.replicate 4 (0 : UInt8)))),raw b1 (enc j165)]) ?_ ?_
                ·skip
                 obtain ⟨x170,hi169,hl166⟩:=bvx hl166
                 obtain ⟨x173,hi172,hl166⟩:=bvx hl166
                 obtain ⟨x176,hi175,hl166⟩:=bvx hl166
                 obtain ⟨x179,hi178,hl166⟩:=bvx hl166
                 obtain ⟨r181,e182,hl166⟩:=bind_some hl166
                 obtain ⟨x184,hi183,hl166⟩:=bvx hl166
                 obtain ⟨x187,hi186,hl166⟩:=bvx hl166
                 refine Z9 [116,117,118,119,120,121,122,123,124,125,126,127,128,129,130,131] YF rfl rfl (by decide) rfl hE hM (qsP (fun z=>Zu z.E Za ld rfl (kr0 rfl)) (qsP (fun z=>Zu z.E Za ld rfl (kr0 rfl)) (qsP (fun z=>ZG z.E Za ld rfl rfl Tryz.underlying160 XX hi169.1 (kr0 rfl)) (qsP (fun z=>ZG z.E Za ld rfl rfl Tryz.underlying158 ty5 hi172.1 (kr0 rfl)) (qsP (fun z=>ZN (v:=(vB x173)) z.E Za ld rfl ty5 rfl (At.vec (At.vec (z.M.rawAt2) hi169.2) hi172.2) (kr0 rfl)) (qsP (fun z=>Zu z.E Za ld rfl (kr0 rfl)) (qsP (fun z=>Zu z.E Za ld rfl (kr0 rfl)) (qsP (fun z=>Zu z.E Za ld rfl (kr0 rfl)) (qsP (fun z=>Zu z.E Za ld rfl (kr0 rfl)) (qsP (fun z=>ZG z.E Za ld rfl rfl Tryz.underlying160 XX hi175.1 (kr0 rfl)) (qsP (fun z=>ZG z.E Za ld rfl rfl Tryz.underlying158 ty5 hi178.1 (kr0 rfl)) (qsP (fun z=>ZN (v:=(vB x179)) z.E Za ld rfl ty5 rfl (At.vec (At.vec (z.M.rawAt2) hi175.2) hi178.2) (kr0 rfl)) (qsP (fun z=>Z0 z.E Za ld rfl Af (Y9 _ p0 x145 x179 r181 e182) (kc rfl)) (qsP (v:=(vB (x173 ^^^ r181))) (fun z=>Yt z.E Za ld rfl rfl (Vu x173 r181) (kr0 rfl)) (qsP (fun z=>ZG z.E Za ld rfl rfl Tryz.underlying160 XX hi183.1 (kr0 rfl)) (qsP (fun z=>ZG z.E Za ld rfl rfl Tryz.underlying158 ty5 hi186.1 (kr0 rfl)) qs0)))))))))))))))) ?_
                 ·intro a w u hE hM
                  have hM:=hM.pull2
                  refine Zl (seg:=[(vB (x173 ^^^ r181))]) (cs':=enc (s160.1.setIfInBounds (s133.2.2).toNat (x184.setIfInBounds (s160.2.2).toNat (x173 ^^^ r181)))) hE hM Za rfl rfl rfl ty5 rfl (Td (o':=0 + (s160.2.2).toNat * 1) hi183 (ZQ (v:=x184) (x:=x173 ^^^ r181) hi186.1) (by first | omega | (simp only [Flat.n] <;> omega))) (Flat.cell (x173 ^^^ r181 : UInt8)) (V7 (o':=0 + (s160.2.2).toNat * 1) hi183 (ZQ (v:=x184) (x:=x173 ^^^ r181) hi186.1) (ZF (v:=x184) (x:=x173 ^^^ r181) hi186.1) (by first | omega | (simp only [Flat.n] <;> omega))) fun w a hM hE=>Zg ?_
                  obtain rfl:=Option.some.inj hl166
                  refine Zk ?_
                  have hM:=hM.pull2.pull2
                  exact ⟨hE.sub ⟨rfl,rfl,rfl,rfl,rfl,rfl,rfl,rfl,rfl,rfl,rfl,rfl,trivial⟩,hM⟩
                ·skip
                 rintro a w ⟨hE,hM⟩
                 obtain ⟨x192,hi191,hF167⟩:=bvx hF167
                 obtain ⟨x195,hi194,hF167⟩:=bvx hF167
                 obtain ⟨x198,hi197,hF167⟩:=bvx hF167
                 obtain ⟨x201,hi200,hF167⟩:=bvx hF167
                 obtain ⟨r203,e204,hF167⟩:=bind_some hF167
                 obtain ⟨x206,hi205,hF167⟩:=bvx hF167
                 obtain ⟨x209,hi208,hF167⟩:=bvx hF167
                 refine Z9 [132,133,134,135,136,137,138,139,140,141,142,143,144,145,146,147] YF rfl rfl (by decide) rfl hE hM (qsP (fun z=>Zu z.E Za ld rfl (kr0 rfl)) (qsP (fun z=>Zu z.E Za ld rfl (kr0 rfl)) (qsP (fun z=>ZG z.E Za ld rfl rfl Tryz.underlying160 XX hi191.1 (kr0 rfl)) (qsP (fun z=>ZG z.E Za ld rfl rfl Tryz.underlying158 ty5 hi194.1 (kr0 rfl)) (qsP (fun z=>ZN (v:=(vB x195)) z.E Za ld rfl ty5 rfl (At.vec (At.vec (z.M.rawAt0) hi191.2) hi194.2) (kr0 rfl)) (qsP (fun z=>Zu z.E Za ld rfl (kr0 rfl)) (qsP (fun z=>Zu z.E Za ld rfl (kr0 rfl)) (qsP (fun z=>Zu z.E Za ld rfl (kr0 rfl)) (qsP (fun z=>Zu z.E Za ld rfl (kr0 rfl)) (qsP (fun z=>ZG z.E Za ld rfl rfl Tryz.underlying160 XX hi197.1 (kr0 rfl)) (qsP (fun z=>ZG z.E Za ld rfl rfl Tryz.underlying158 ty5 hi200.1 (kr0 rfl)) (qsP (fun z=>ZN (v:=(vB x201)) z.E Za ld rfl ty5 rfl (At.vec (At.vec (z.M.rawAt0) hi197.2) hi200.2) (kr0 rfl)) (qsP (fun z=>Z0 z.E Za ld rfl Af (Y9 _ p0 x145 x201 r203 e204) (kc rfl)) (qsP (v:=(vB (x195 ^^^ r203))) (fun z=>Yt z.E Za ld rfl rfl (Vu x195 r203) (kr0 rfl)) (qsP (fun z=>ZG z.E Za ld rfl rfl Tryz.underlying160 XX hi205.1 (kr0 rfl)) (qsP (fun z=>ZG z.E Za ld rfl rfl Tryz.underlying158 ty5 hi208.1 (kr0 rfl)) qs0)))))))))))))))) ?_
                 ·intro a w u hE hM
                  refine Zl (seg:=[(vB (x195 ^^^ r203))]) (cs':=enc (s160.2.1.setIfInBounds (s133.2.2).toNat (x206.setIfInBounds (s160.2.2).toNat (x195 ^^^ r203)))) hE hM Za rfl rfl rfl ty5 rfl (Td (o':=0 + (s160.2.2).toNat * 1) hi205 (ZQ (v:=x206) (x:=x195 ^^^ r203) hi208.1) (by first | omega | (simp only [Flat.n] <;> omega))) (Flat.cell (x195 ^^^ r203 : UInt8)) (V7 (o':=0 + (s160.2.2).toNat * 1) hi205 (ZQ (v:=x206) (x:=x195 ^^^ r203) hi208.1) (ZF (v:=x206) (x:=x195 ^^^ r203) hi208.1) (by first | omega | (simp only [Flat.n] <;> omega))) fun w a hM hE=>Zg (Yb (Zt (wp_region_lit (Zh hE rfl rfl rfl fun a hE=>Zd hE rfl fun a hE=>Zg (Zk ?_)))))
                  exact ⟨_,(ois hF167),hE.sub ⟨rfl,rfl,rfl,rfl,rfl,rfl,rfl,rfl,rfl,rfl,rfl,trivial⟩,hM⟩
               ·intro hb164
                have hs161:=Zx hs161 hb164
                refine wp_exit (Zn (Zn (Yd ?_)))
                obtain rfl:=hx162 _ (ois hs161)
                refine Zk ?_
                exact ⟨hE.sub ⟨rfl,rfl,rfl,rfl,rfl,rfl,rfl,rfl,trivial⟩,hM⟩
              ·skip
               rintro a w ⟨hE,hM⟩
               obtain rfl:=Option.some.inj hF159
               refine Zk ?_
               exact ⟨hE.sub ⟨rfl,rfl,rfl,rfl,rfl,rfl,rfl,rfl,trivial⟩,hM⟩
             ·intro hb156
              have hl154:=Zx hl154 hb156
              refine wp_skip ?_
              obtain rfl:=Option.some.inj hl154
              refine Zk ?_
              exact ⟨hE.sub ⟨rfl,rfl,rfl,rfl,rfl,rfl,rfl,rfl,trivial⟩,hM⟩
            ·skip
             rintro a w ⟨hE,hM⟩
             refine Yb ?_
             obtain rfl:=Option.some.inj hF155
             refine Zk ?_
             exact ⟨hE.sub ⟨rfl,rfl,rfl,rfl,rfl,rfl,rfl,rfl,trivial⟩,hM⟩
          ·skip
           rintro a w ⟨hE,hM⟩
           refine wp_region_lit (Zh hE rfl rfl rfl fun a hE=>Zd hE rfl fun a hE=>Zg (Zk ?_))
           exact ⟨_,(ois hF140),hE.sub ⟨rfl,rfl,rfl,rfl,rfl,rfl,rfl,rfl,trivial⟩,hM⟩
         ·intro hb137
          have hs134:=Zx hs134 hb137
          refine wp_exit (Zn (Zn (Yd ?_)))
          obtain rfl:=hx135 _ (ois hs134)
          refine Zk ?_
          exact ⟨hE.sub ⟨rfl,rfl,rfl,rfl,rfl,rfl,trivial⟩,hM⟩
        ·skip
         rintro a w ⟨hE,hM⟩
         refine Yb (Zt (wp_region_lit (Zh hE rfl rfl rfl fun a hE=>Zd hE rfl fun a hE=>Zg (Zk ?_))))
         exact ⟨_,(ois hF132),hE.sub ⟨rfl,rfl,rfl,rfl,rfl,rfl,trivial⟩,hM⟩
  ·intro hb17
   have hs14:=Zx hs14 hb17
   refine wp_exit (Zn (Zn (Yd ?_)))
   obtain rfl:=hx15 _ (ois hs14)
   refine Zk ?_
   have hM:=M.fst (l:=[_,_]) hM.pull1.pull1
   exact ⟨(s13.2.1,s13.2.2.2),rfl,hE.sub ⟨rfl,rfl,rfl,trivial⟩,hM⟩
 ·skip
  rintro a w ⟨s12,ht,hE,hM⟩
  subst ht
  have hF11:=TG hF11
  refine Zt ?_
  obtain ⟨j217,hl218,hF219⟩:=bind_some hF11
  refine ZO (fun a w=>Env 153 a [(4,vB j217.2),(5,(ptr b3 0))] ∧ M (Old w0) w0 w [raw b3 (enc j217.1)]) ?_ ?_
  ·skip
   refine Z9 [151,152,4] YF rfl rfl (by decide) rfl hE hM (qsP (fun z=>Zu z.E Za ld rfl (kr0 rfl)) (qsP (fun z=>ZX z.E Za ld rfl TB rfl (z.M.rawAt0) (Flat.len _) (kr0 rfl)) (qsP (fun z=>KX z.E Za ld rfl (kr0 rfl)) qs0))) ?_
   ·intro a w u hE hM
    have hM:=hM.pull1
    refine Zl (seg:=enc s12.1) (cs':=enc s12.1) hE hM Za rfl rfl rfl TB (Flat.len _) (zle flq) (Flat.cell _) (Zi flq) fun w a hM hE=>Zg ?_
    obtain rfl:=Option.some.inj hl218
    refine Zk ?_
    have hM:=M.fst (l:=[_]) hM
    exact ⟨hE.sub ⟨rfl,rfl,trivial⟩,hM⟩
  ·skip
   rintro a w ⟨hE,hM⟩
   obtain rfl:=Option.some.inj hF219
   have hq222 : Yw Tryz.prog _ _ (.cell 5 160) _:=ZI hE rfl TB rfl hM.rawAt0 (Flat.len _) rfl
   exact wp_ret (Th hE rfl (ZP hE rfl) hq222 ⟨_,rfl,rfl,hM.kept⟩)
def XT (p0 : (Vector UInt8 256)) (s10 : (Vector UInt8 256) × Int) : Option (Fl ((Vector UInt8 256) × Int) (Vector UInt8 256)) :=
 if (decide (s10.2 < 256)) = true then ((ZH p0 s10.2).bind fun x15=>(ZH s10.1 (bI x15)).bind fun x19=>some (Fl.nx ((s10.1.setIfInBounds ((bI x15)).toNat (Zp s10.2)),wr (s10.2 + 1)))) else (some (Fl.ex s10.1))
def Vw (p0 : (Vector UInt8 256)) : Option ((Vector UInt8 256)) :=
 (ZB (XT p0) ((Vector.replicate 256 (0 : UInt8)),0)).bind fun j7=>some j7
theorem HE (w0 : World) (p0 : (Vector UInt8 256)) (r : (Vector UInt8 256)) (hF : Vw p0 = some r) :
  Calls Tryz.prog 212 [(Value.agg (enc p0).toArray)].toArray w0 (Rt w0 (Value.agg (enc r).toArray)):=by
 refine ce Tryz.func212 ?_
 intro a hE
 have hM:=M.start w0
 unfold Vw at hF
 refine Zb (ZK (cs:=enc p0) hE hM Za ld rfl rfl fun b1 w a hM hE=>Zz hE hM X6 fun b3 w a hM hE=>Ze (Zb (Wl (parts:=[]) (vs:=[]) (cs:=enc (Vector.replicate 256 (0 : UInt8))) hE Za ld rfl rfl X6 rfl ty5 XA fun a hE=>Zz hE hM X6 fun b5 w a hM hE=>Zl (seg:=enc (Vector.replicate 256 (0 : UInt8))) (cs':=enc (Vector.replicate 256 (0 : UInt8))) hE hM Za rfl rfl rfl X6 (Flat.len _) (zle flq) (Flat.cell _) (Zi flq) fun w a hM hE=>Ze (wp_seq (Zb (Zm hE rfl X6 rfl hM.rawAt2 (Flat.len _) fun a hE=>Zd hE rfl fun a hE=>Ze ?_))))))
 obtain ⟨j7,hl8,hF9⟩:=bind_some hF
 refine ZM (fun a w=>Env 18 a [(2,(ptr b3 0)),(3,(ptr b5 0))] ∧ M (Old w0) w0 w [raw b5 (enc j7),raw b3 (enc (Vector.replicate 256 (0 : UInt8)))]) ?_ ?_
 ·skip
  refine wp_block ?_
  have hM:=M.fst (l:=[_,_]) hM.pull1.pull1
  refine ZE (fun (s10 : (Vector UInt8 256) × Int) a w=>Env 18 a [(2,(ptr b3 0)),(3,(ptr b5 0)),(7,(Value.agg (enc p0).toArray)),(8,vI s10.2)] ∧ M (Old w0) w0 w [raw b5 (enc s10.1),raw b3 (enc (Vector.replicate 256 (0 : UInt8)))]) hl8 ⟨hE.sub ⟨rfl,rfl,rfl,rfl,trivial⟩,hM⟩ ?_
  rintro s10 a w ⟨hE,hM⟩ o13 hs11 hx12
  unfold XT at hs11
  refine Zb (Zh hE rfl rfl rfl fun a hE=>Ze (wp_seq ?_))
  refine Zo hE rfl ?_ ?_
  ·intro hb14
   have hs11:=Zw hs11 hb14
   refine wp_skip (Zt (wp_seq (wp_block (Zb (Zd hE rfl ?_))))); intro a hE
   obtain ⟨x15,hi17,hs11⟩:=bvx hs11
   refine JC hE Za ld rfl rfl Tryz.underlying157 ty5 rfl rfl hi17 rfl fun a hE=>Zc hE rfl fun a hE=>Zc hE rfl fun a hE=>Ze (wp_region_lit (Zd hE rfl fun a hE=>Zd hE rfl fun a hE=>Yg hE Za ld rfl Tryz.underlying3 Tryz.underlying5 ?_)); intro a hE
   obtain ⟨x19,hi18,hs11⟩:=bvx hs11
   refine ZD hE rfl rfl Tryz.underlying157 ty5 hi18.1 fun a hE=>Zl (seg:=[(vB (Zp s10.2))]) (cs':=enc (s10.1.setIfInBounds ((bI x15)).toNat (Zp s10.2))) hE hM Za rfl rfl rfl ty5 rfl (ZQ (v:=s10.1) (x:=Zp s10.2) hi18.1) (Flat.cell (Zp s10.2 : UInt8)) (ZF (v:=s10.1) (x:=Zp s10.2) hi18.1) fun w a hM hE=>Zg (Yb (Zt (wp_region_lit (Zh hE rfl rfl rfl fun a hE=>Zd hE rfl fun a hE=>Zg (Zk ?_)))))
   exact ⟨_,(ois hs11),hE.sub ⟨rfl,rfl,rfl,rfl,trivial⟩,hM⟩
  ·intro hb14
   have hs11:=Zx hs11 hb14
   refine wp_exit (Zn (Zn (Yd ?_)))
   obtain rfl:=hx12 _ (ois hs11)
   refine Zk ?_
   exact ⟨hE.sub ⟨rfl,rfl,trivial⟩,hM⟩
 ·skip
  rintro a w ⟨hE,hM⟩
  refine Zt (Zb (Zm hE rfl X6 rfl hM.rawAt0 (Flat.len _) ?_)); intro a hE
  have hM:=hM.pull1
  refine Zl (seg:=enc j7) (cs':=enc j7) hE hM Za rfl rfl rfl X6 (Flat.len _) (zle flq) (Flat.cell _) (Zi flq) fun w a hM hE=>Ze ?_
  obtain rfl:=Option.some.inj hF9
  have hq22 : Yw Tryz.prog _ _ (.cell 2 157) _:=ZI hE rfl X6 rfl hM.rawAt0 (Flat.len _) rfl
  exact wp_ret (ZJ hE rfl hq22 ⟨_,rfl,rfl,hM.kept⟩)
def Xc (p0 : (Vector UInt8 16)) (s10 : (Vector UInt8 16) × Int) : Option (Fl ((Vector UInt8 16) × Int) (Vector UInt8 16)) :=
 if (decide (s10.2 < 16)) = true then ((ZH p0 s10.2).bind fun x15=>(ZH s10.1 (bI x15)).bind fun x19=>some (Fl.nx ((s10.1.setIfInBounds ((bI x15)).toNat (Zp s10.2)),wr (s10.2 + 1)))) else (some (Fl.ex s10.1))
def X5 (p0 : (Vector UInt8 16)) : Option ((Vector UInt8 16)) :=
 (ZB (Xc p0) ((Vector.replicate 16 (0 : UInt8)),0)).bind fun j7=>some j7
theorem Jt (w0 : World) (p0 : (Vector UInt8 16)) (r : (Vector UInt8 16)) (hF : X5 p0 = some r) :
  Calls Tryz.prog 213 [(Value.agg (enc p0).toArray)].toArray w0 (Rt w0 (Value.agg (enc r).toArray)):=by
 refine ce Tryz.func213 ?_
 intro a hE
 have hM:=M.start w0
 unfold X5 at hF
 refine Zb (ZK (cs:=enc p0) hE hM Za ld rfl rfl fun b1 w a hM hE=>Zz hE hM Kd fun b3 w a hM hE=>Ze (Zb (Wl (parts:=[]) (vs:=[]) (cs:=enc (Vector.replicate 16 (0 : UInt8))) hE Za ld rfl rfl Kd rfl ty5 XA fun a hE=>Zz hE hM Kd fun b5 w a hM hE=>Zl (seg:=enc (Vector.replicate 16 (0 : UInt8))) (cs':=enc (Vector.replicate 16 (0 : UInt8))) hE hM Za rfl rfl rfl Kd (Flat.len _) (zle flq) (Flat.cell _) (Zi flq) fun w a hM hE=>Ze (wp_seq (Zb (Zm hE rfl Kd rfl hM.rawAt2 (Flat.len _) fun a hE=>Zd hE rfl fun a hE=>Ze ?_))))))
 obtain ⟨j7,hl8,hF9⟩:=bind_some hF
 refine ZM (fun a w=>Env 18 a [(2,(ptr b3 0)),(3,(ptr b5 0))] ∧ M (Old w0) w0 w [raw b5 (enc j7),raw b3 (enc (Vector.replicate 16 (0 : UInt8)))]) ?_ ?_
 ·skip
  refine wp_block ?_
  have hM:=M.fst (l:=[_,_]) hM.pull1.pull1
  refine ZE (fun (s10 : (Vector UInt8 16) × Int) a w=>Env 18 a [(2,(ptr b3 0)),(3,(ptr b5 0)),(7,(Value.agg (enc p0).toArray)),(8,vI s10.2)] ∧ M (Old w0) w0 w [raw b5 (enc s10.1),raw b3 (enc (Vector.replicate 16 (0 : UInt8)))]) hl8 ⟨hE.sub ⟨rfl,rfl,rfl,rfl,trivial⟩,hM⟩ ?_
  rintro s10 a w ⟨hE,hM⟩ o13 hs11 hx12
  unfold Xc at hs11
  refine Zb (Zh hE rfl rfl rfl fun a hE=>Ze (wp_seq ?_))
  refine Zo hE rfl ?_ ?_
  ·intro hb14
   have hs11:=Zw hs11 hb14
   refine wp_skip (Zt (wp_seq (wp_block (Zb (Zd hE rfl ?_))))); intro a hE
   obtain ⟨x15,hi17,hs11⟩:=bvx hs11
   refine JC hE Za ld rfl rfl Tryz.underlying161 ty5 rfl rfl hi17 rfl fun a hE=>Zc hE rfl fun a hE=>Zc hE rfl fun a hE=>Ze (wp_region_lit (Zd hE rfl fun a hE=>Zd hE rfl fun a hE=>Yg hE Za ld rfl Tryz.underlying3 Tryz.underlying5 ?_)); intro a hE
   obtain ⟨x19,hi18,hs11⟩:=bvx hs11
   refine ZD hE rfl rfl Tryz.underlying161 ty5 hi18.1 fun a hE=>Zl (seg:=[(vB (Zp s10.2))]) (cs':=enc (s10.1.setIfInBounds ((bI x15)).toNat (Zp s10.2))) hE hM Za rfl rfl rfl ty5 rfl (ZQ (v:=s10.1) (x:=Zp s10.2) hi18.1) (Flat.cell (Zp s10.2 : UInt8)) (ZF (v:=s10.1) (x:=Zp s10.2) hi18.1) fun w a hM hE=>Zg (Yb (Zt (wp_region_lit (Zh hE rfl rfl rfl fun a hE=>Zd hE rfl fun a hE=>Zg (Zk ?_)))))
   exact ⟨_,(ois hs11),hE.sub ⟨rfl,rfl,rfl,rfl,trivial⟩,hM⟩
  ·intro hb14
   have hs11:=Zx hs11 hb14
   refine wp_exit (Zn (Zn (Yd ?_)))
   obtain rfl:=hx12 _ (ois hs11)
   refine Zk ?_
   exact ⟨hE.sub ⟨rfl,rfl,trivial⟩,hM⟩
 ·skip
  rintro a w ⟨hE,hM⟩
  refine Zt (Zb (Zm hE rfl Kd rfl hM.rawAt0 (Flat.len _) ?_)); intro a hE
  have hM:=hM.pull1
  refine Zl (seg:=enc j7) (cs':=enc j7) hE hM Za rfl rfl rfl Kd (Flat.len _) (zle flq) (Flat.cell _) (Zi flq) fun w a hM hE=>Ze ?_
  obtain rfl:=Option.some.inj hF9
  have hq22 : Yw Tryz.prog _ _ (.cell 2 161) _:=ZI hE rfl Kd rfl hM.rawAt0 (Flat.len _) rfl
  exact wp_ret (ZJ hE rfl hq22 ⟨_,rfl,rfl,hM.kept⟩)
def W7 (s8 : (Vector (Vector (Vector UInt8 256) 4) 4) × Int) (s19 : (Vector (Vector (Vector UInt8 256) 4) 4) × Int) (s30 : (Vector (Vector (Vector UInt8 256) 4) 4) × Int) (r35 : UInt8) (s40 : (Vector (Vector (Vector UInt8 256) 4) 4) × Int) : Option (Fl ((Vector (Vector (Vector UInt8 256) 4) 4) × Int) (Vector (Vector (Vector UInt8 256) 4) 4)) :=
 if (decide (s40.2 < s30.2)) = true then ((ZH s40.1 s8.2).bind fun x47=>(ZH x47 s19.2).bind fun x50=>(ZH x50 s40.2).bind fun x53=>(ZH s40.1 s8.2).bind fun x56=>(ZH x56 s19.2).bind fun x59=>(ZH x59 (orI s30.2 s40.2)).bind fun x62=>some (Fl.nx ((s40.1.setIfInBounds (s8.2).toNat (x56.setIfInBounds (s19.2).toNat (x59.setIfInBounds ((orI s30.2 s40.2)).toNat (r35 ^^^ x53)))),wr (s40.2 + 1)))) else (some (Fl.ex s40.1))
def Vb (p0 : Int) (s8 : (Vector (Vector (Vector UInt8 256) 4) 4) × Int) (s19 : (Vector (Vector (Vector UInt8 256) 4) 4) × Int) (x24 : UInt8) (s30 : (Vector (Vector (Vector UInt8 256) 4) 4) × Int) : Option (Fl ((Vector (Vector (Vector UInt8 256) 4) 4) × Int) (Vector (Vector (Vector UInt8 256) 4) 4)) :=
 if (decide (s30.2 < 256)) = true then ((Yo p0 x24 (Zp s30.2)).bind fun r35=>(ZB (W7 s8 s19 s30 r35) (s30.1,0)).bind fun j37=>some (Fl.nx (j37,wr (s30.2 * 2)))) else (some (Fl.ex s30.1))
def W8 (p0 : Int) (s8 : (Vector (Vector (Vector UInt8 256) 4) 4) × Int) (x14 : (Vector UInt8 4)) (s19 : (Vector (Vector (Vector UInt8 256) 4) 4) × Int) : Option (Fl ((Vector (Vector (Vector UInt8 256) 4) 4) × Int) (Vector (Vector (Vector UInt8 256) 4) 4)) :=
 if (decide (s19.2 < 4)) = true then ((ZH x14 s19.2).bind fun x24=>(ZB (Vb p0 s8 s19 x24) (s19.1,1)).bind fun j27=>some (Fl.nx (j27,wr (s19.2 + 1)))) else (some (Fl.ex s19.1))
def Vd (p0 : Int) (p1 : (Vector (Vector UInt8 4) 4)) (s8 : (Vector (Vector (Vector UInt8 256) 4) 4) × Int) : Option (Fl ((Vector (Vector (Vector UInt8 256) 4) 4) × Int) (Vector (Vector (Vector UInt8 256) 4) 4)) :=
 if (decide (s8.2 < 4)) = true then ((ZH p1 s8.2).bind fun x14=>(ZB (W8 p0 s8 x14) (s8.1,0)).bind fun j16=>some (Fl.nx (j16,wr (s8.2 + 1)))) else (some (Fl.ex s8.1))
def VE (p0 : Int) (p1 : (Vector (Vector UInt8 4) 4)) : Option ((Ref (Vector (Vector (Vector UInt8 256) 4) 4))) :=
 (ZB (Vd p0 p1) ((Vector.replicate 4 (Vector.replicate 4 (Vector.replicate 256 (0 : UInt8)))),0)).bind fun j5=>some (⟨j5⟩ : (Ref (Vector (Vector (Vector UInt8 256) 4) 4)))
theorem Jj (w0 : World) (p0 : Int) (p1 : (Vector (Vector UInt8 4) 4)) (r : (Ref (Vector (Vector (Vector UInt8 256) 4) 4))) (hF : VE p0 p1 = some r) :
  Calls Tryz.prog 214 [vI p0,(Value.agg (enc p1).toArray)].toArray w0 (fun en w'=>∃ v,en = .returned v ∧ (∃ (y1 : Value),v = y1 ∧ Fr w0 w' [own NoB (r : (Ref (Vector (Vector (Vector UInt8 256) 4) 4))) [y1]] ∧ Kept (Old w0) w0 w')):=by
 refine ce Tryz.func214 ?_
 intro a hE
 have hM:=M.start w0
 unfold VE at hF
 refine Zb (ZK (cs:=enc p1) hE hM Za ld rfl rfl fun b1 w a hM hE=>Zc hE rfl fun a hE=>Ze (Zb (Wl (parts:=[]) (vs:=[]) (cs:=enc (Vector.replicate 4 (Vector.replicate 4 (Vector.replicate 256 (0 : UInt8))))) hE Za ld rfl rfl ty265 rfl zj XA fun a hE=>ZK (cs:=enc (Vector.replicate 4 (Vector.replicate 4 (Vector.replicate 256 (0 : UInt8))))) hE hM Za ld rfl rfl fun b3 w a hM hE=>Zc hE rfl fun a hE=>Ze (wp_seq (Zb (Zd hE rfl fun a hE=>Ze ?_))))))
 obtain ⟨j5,hl6,hF7⟩:=bind_some hF
 refine ZM (fun a w=>Env 62 a [(5,(ptr b3 0))] ∧ M (Old w0) w0 w [raw b3 (enc j5)]) ?_ ?_
 ·skip
  refine wp_block ?_
  refine ZE (fun (s8 : (Vector (Vector (Vector UInt8 256) 4) 4) × Int) a w=>Env 62 a [(0,vI p0),(3,(ptr b1 0)),(5,(ptr b3 0)),(14,vI s8.2)] ∧ M (Old w0) w0 w [raw b3 (enc s8.1),raw b1 (enc p1)]) hl6 ⟨hE.sub ⟨rfl,rfl,rfl,rfl,trivial⟩,hM⟩ ?_
  rintro s8 a w ⟨hE,hM⟩ o11 hs9 hx10
  unfold Vd at hs9
  refine Zb (Zh hE rfl rfl rfl fun a hE=>Ze (wp_seq ?_))
  refine Zo hE rfl ?_ ?_
  ·intro hb12
   have hs9:=Zw hs9 hb12
   refine wp_skip (Zt (wp_seq (wp_block (Zb (Zd hE rfl fun a hE=>Zc hE rfl fun a hE=>Ze (Zb (Zd hE rfl ?_))))))); intro a hE
   obtain ⟨x14,hi13,hs9⟩:=bvx hs9
   refine ZD hE rfl rfl Tryz.underlying160 XX hi13.1 fun a hE=>Zm hE rfl XX rfl (At.vec hM.rawAt1 hi13.2) (Flat.len _) fun a hE=>Zd hE rfl fun a hE=>Ze ?_
   obtain ⟨j16,hl17,hF18⟩:=bind_some hs9
   refine ZM (fun a w=>Env 62 a [(0,vI p0),(3,(ptr b1 0)),(5,(ptr b3 0)),(14,vI s8.2)] ∧ M (Old w0) w0 w [raw b3 (enc j16),raw b1 (enc p1)]) ?_ ?_
   ·skip
    refine wp_block ?_
    refine ZE (fun (s19 : (Vector (Vector (Vector UInt8 256) 4) 4) × Int) a w=>Env 62 a [(0,vI p0),(3,(ptr b1 0)),(5,(ptr b3 0)),(6,vI s8.2),(14,vI s8.2),(19,(Value.agg (enc x14).toArray)),(20,vI s19.2)] ∧ M (Old w0) w0 w [raw b3 (enc s19.1),raw b1 (enc p1)]) hl17 ⟨hE.sub ⟨rfl,rfl,rfl,rfl,rfl,rfl,rfl,trivial⟩,hM⟩ ?_
    rintro s19 a w ⟨hE,hM⟩ o22 hs20 hx21
    unfold W8 at hs20
    refine Zb (Zh hE rfl rfl rfl fun a hE=>Ze (wp_seq ?_))
    refine Zo hE rfl ?_ ?_
    ·intro hb23
     have hs20:=Zw hs20 hb23
     refine wp_skip (Zt (wp_seq (wp_block (Zb (Zd hE rfl ?_))))); intro a hE
     obtain ⟨x24,hi26,hs20⟩:=bvx hs20
     refine JC hE Za ld rfl rfl Tryz.underlying158 ty5 rfl rfl hi26 rfl fun a hE=>Zc hE rfl fun a hE=>Zc hE rfl fun a hE=>Ze (Zb (Zc hE rfl fun a hE=>Ze ?_))
     obtain ⟨j27,hl28,hF29⟩:=bind_some hs20
     refine ZM (fun a w=>Env 62 a [(0,vI p0),(3,(ptr b1 0)),(5,(ptr b3 0)),(6,vI s8.2),(14,vI s8.2),(19,(Value.agg (enc x14).toArray)),(20,vI s19.2)] ∧ M (Old w0) w0 w [raw b3 (enc j27),raw b1 (enc p1)]) ?_ ?_
     ·skip
      refine wp_block ?_
      refine ZE (fun (s30 : (Vector (Vector (Vector UInt8 256) 4) 4) × Int) a w=>Env 62 a [(0,vI p0),(3,(ptr b1 0)),(5,(ptr b3 0)),(6,vI s8.2),(7,vI s19.2),(8,vB x24),(9,vI s30.2),(14,vI s8.2),(19,(Value.agg (enc x14).toArray)),(20,vI s19.2)] ∧ M (Old w0) w0 w [raw b3 (enc s30.1),raw b1 (enc p1)]) hl28 ⟨hE.sub ⟨rfl,rfl,rfl,rfl,rfl,rfl,rfl,rfl,rfl,rfl,trivial⟩,hM⟩ ?_
      rintro s30 a w ⟨hE,hM⟩ o33 hs31 hx32
      unfold Vb at hs31
      refine wp_seq (Zb (Zd hE rfl fun a hE=>Zh hE rfl rfl rfl fun a hE=>Ze ?_))
      refine Zo hE rfl ?_ ?_
      ·intro hb34
       have hs31:=Zw hs31 hb34
       refine wp_skip (Zt (wp_seq (wp_block (Zb (Zd hE rfl fun a hE=>Zd hE rfl fun a hE=>Zd hE rfl fun a hE=>Yg hE Za ld rfl Tryz.underlying3 Tryz.underlying5 ?_))))); intro a hE
       obtain ⟨r35,e36,hs31⟩:=bind_some hs31
       refine Zv hE rfl Af (Y9 _ p0 x24 (Zp s30.2) r35 e36) ?_
       rintro v w a ⟨rfl,hK⟩ hE
       have hM:=hM.keep hK
       refine Zc hE rfl fun a hE=>Ze (Zb (Zd hE rfl fun a hE=>Zd hE rfl fun a hE=>Ze ?_))
       obtain ⟨j37,hl38,hF39⟩:=bind_some hs31
       refine ZM (fun a w=>Env 62 a [(0,vI p0),(3,(ptr b1 0)),(5,(ptr b3 0)),(6,vI s8.2),(7,vI s19.2),(8,vB x24),(9,vI s30.2),(14,vI s8.2),(19,(Value.agg (enc x14).toArray)),(20,vI s19.2)] ∧ M (Old w0) w0 w [raw b3 (enc j37),raw b1 (enc p1)]) ?_ ?_
       ·skip
        refine wp_block ?_
        refine ZE (fun (s40 : (Vector (Vector (Vector UInt8 256) 4) 4) × Int) a w=>Env 62 a [(0,vI p0),(3,(ptr b1 0)),(5,(ptr b3 0)),(6,vI s8.2),(7,vI s19.2),(8,vB x24),(9,vI s30.2),(10,vB r35),(14,vI s8.2),(19,(Value.agg (enc x14).toArray)),(20,vI s19.2),(33,vI s30.2),(34,vI s40.2)] ∧ M (Old w0) w0 w [raw b3 (enc s40.1),raw b1 (enc p1)]) hl38 ⟨hE.sub ⟨rfl,rfl,rfl,rfl,rfl,rfl,rfl,rfl,rfl,rfl,rfl,rfl,rfl,trivial⟩,hM⟩ ?_
        rintro s40 a w ⟨hE,hM⟩ o43 hs41 hx42
        unfold W7 at hs41
        refine Zb (Zh hE rfl rfl rfl fun a hE=>Ze (wp_seq ?_))
        refine Zo hE rfl ?_ ?_
        ·intro hb44
         have hs41:=Zw hs41 hb44
         refine wp_skip (Zt (wp_seq (wp_block (Zb (Zd hE rfl fun a hE=>Zc hE rfl fun a hE=>Ze ?_)))))
         obtain ⟨x47,hi46,hs41⟩:=bvx hs41
         obtain ⟨x50,hi49,hs41⟩:=bvx hs41
         obtain ⟨x53,hi52,hs41⟩:=bvx hs41
         obtain ⟨x56,hi55,hs41⟩:=bvx hs41
         obtain ⟨x59,hi58,hs41⟩:=bvx hs41
         obtain ⟨x62,hi61,hs41⟩:=bvx hs41
         refine Z9 [37,38,39,40,41,42,43,44,45,46,47,48,49,50,51,52,53,54,55,56,57] YF rfl rfl (by decide) rfl hE hM (qsP (fun z=>Zu z.E Za ld rfl (kr0 rfl)) (qsP (fun z=>Zu z.E Za ld rfl (kr0 rfl)) (qsP (fun z=>Zu z.E Za ld rfl (kr0 rfl)) (qsP (fun z=>Zu z.E Za ld rfl (kr0 rfl)) (qsP (fun z=>Zu z.E Za ld rfl (kr0 rfl)) (qsP (v:=(vI (orI s30.2 s40.2))) (fun z=>Yt z.E Za ld rfl rfl rfl (kr0 rfl)) (qsP (fun z=>Zu z.E Za ld rfl (kr0 rfl)) (qsP (fun z=>Zu z.E Za ld rfl (kr0 rfl)) (qsP (fun z=>Zu z.E Za ld rfl (kr0 rfl)) (qsP (fun z=>Zu z.E Za ld rfl (kr0 rfl)) (qsP (fun z=>Zu z.E Za ld rfl (kr0 rfl)) (qsP (fun z=>WP z.E Za ld rfl (kr0 rfl)) (qsP (fun z=>ZG z.E Za ld rfl rfl Tryz.underlying265 zj hi46.1 (kr0 rfl)) (qsP (fun z=>ZG z.E Za ld rfl rfl Tryz.underlying263 yG hi49.1 (kr0 rfl)) (qsP (fun z=>ZG z.E Za ld rfl rfl Tryz.underlying156 ty5 hi52.1 (kr0 rfl)) (qsP (fun z=>ZN (v:=(vB x53)) z.E Za ld rfl ty5 rfl (At.vec (At.vec (At.vec (z.M.rawAt0) hi46.2) hi49.2) hi52.2) (kr0 rfl)) (qsP (v:=(vB (r35 ^^^ x53))) (fun z=>Yt z.E Za ld rfl rfl (Vu r35 x53) (kr0 rfl)) (qsP (fun z=>WP z.E Za ld rfl (kr0 rfl)) (qsP (fun z=>ZG z.E Za ld rfl rfl Tryz.underlying265 zj hi55.1 (kr0 rfl)) (qsP (fun z=>ZG z.E Za ld rfl rfl Tryz.underlying263 yG hi58.1 (kr0 rfl)) (qsP (fun z=>ZG z.E Za ld rfl rfl Tryz.underlying156 ty5 hi61.1 (kr0 rfl)) qs0))))))))))))))))))))) ?_
         ·intro a w u hE hM
          refine Zl (seg:=[(vB (r35 ^^^ x53))]) (cs':=enc (s40.1.setIfInBounds (s8.2).toNat (x56.setIfInBounds (s19.2).toNat (x59.setIfInBounds ((orI s30.2 s40.2)).toNat (r35 ^^^ x53))))) hE hM Za rfl rfl rfl ty5 rfl (Td (o':=(s19.2).toNat * 256 + (0 + ((orI s30.2 s40.2)).toNat * 1)) hi55 (Td (o':=0 + ((orI s30.2 s40.2)).toNat * 1) hi58 (ZQ (v:=x59) (x:=r35 ^^^ x53) hi61.1) (by first | omega | (simp only [Flat.n] <;> omega))) (by first | omega | (simp only [Flat.n] <;> omega))) (Flat.cell (r35 ^^^ x53 : UInt8)) (V7 (o':=(s19.2).toNat * 256 + (0 + ((orI s30.2 s40.2)).toNat * 1)) hi55 (Td (o':=0 + ((orI s30.2 s40.2)).toNat * 1) hi58 (ZQ (v:=x59) (x:=r35 ^^^ x53) hi61.1) (by first | omega | (simp only [Flat.n] <;> omega))) (V7 (o':=0 + ((orI s30.2 s40.2)).toNat * 1) hi58 (ZQ (v:=x59) (x:=r35 ^^^ x53) hi61.1) (ZF (v:=x59) (x:=r35 ^^^ x53) hi61.1) (by first | omega | (simp only [Flat.n] <;> omega))) (by first | omega | (simp only [Flat.n] <;> omega))) fun w a hM hE=>Zg (Yb (Zt (wp_region_lit (Zh hE rfl rfl rfl fun a hE=>Zd hE rfl fun a hE=>Zg (Zk ?_)))))
          exact ⟨_,(ois hs41),hE.sub ⟨rfl,rfl,rfl,rfl,rfl,rfl,rfl,rfl,rfl,rfl,rfl,rfl,rfl,trivial⟩,hM⟩
        ·intro hb44
         have hs41:=Zx hs41 hb44
         refine wp_exit (Zn (Zn (Yd ?_)))
         obtain rfl:=hx42 _ (ois hs41)
         refine Zk ?_
         exact ⟨hE.sub ⟨rfl,rfl,rfl,rfl,rfl,rfl,rfl,rfl,rfl,rfl,trivial⟩,hM⟩
       ·skip
        rintro a w ⟨hE,hM⟩
        refine Yb (Zt (wp_region_lit (Zd hE rfl fun a hE=>Zh hE rfl rfl rfl fun a hE=>Zc hE rfl fun a hE=>Zg (Zk ?_))))
        exact ⟨_,(ois hF39),hE.sub ⟨rfl,rfl,rfl,rfl,rfl,rfl,rfl,rfl,rfl,rfl,trivial⟩,hM⟩
      ·intro hb34
       have hs31:=Zx hs31 hb34
       refine wp_exit (Zn (Zn (Yd ?_)))
       obtain rfl:=hx32 _ (ois hs31)
       refine Zk ?_
       exact ⟨hE.sub ⟨rfl,rfl,rfl,rfl,rfl,rfl,rfl,trivial⟩,hM⟩
     ·skip
      rintro a w ⟨hE,hM⟩
      refine Yb (Zt (wp_region_lit (Zh hE rfl rfl rfl fun a hE=>Zd hE rfl fun a hE=>Zg (Zk ?_))))
      exact ⟨_,(ois hF29),hE.sub ⟨rfl,rfl,rfl,rfl,rfl,rfl,rfl,trivial⟩,hM⟩
    ·intro hb23
     have hs20:=Zx hs20 hb23
     refine wp_exit (Zn (Zn (Yd ?_)))
     obtain rfl:=hx21 _ (ois hs20)
     refine Zk ?_
     exact ⟨hE.sub ⟨rfl,rfl,rfl,rfl,trivial⟩,hM⟩
   ·skip
    rintro a w ⟨hE,hM⟩
    refine Yb (Zt (wp_region_lit (Zh hE rfl rfl rfl fun a hE=>Zd hE rfl fun a hE=>Zg (Zk ?_))))
    exact ⟨_,(ois hF18),hE.sub ⟨rfl,rfl,rfl,rfl,trivial⟩,hM⟩
  ·intro hb12
   have hs9:=Zx hs9 hb12
   refine wp_exit (Zn (Zn (Yd ?_)))
   obtain rfl:=hx10 _ (ois hs9)
   refine Zk ?_
   have hM:=M.fst (l:=[_]) hM
   exact ⟨hE.sub ⟨rfl,trivial⟩,hM⟩
 ·skip
  rintro a w ⟨hE,hM⟩
  refine Zt (Zb (Zd hE rfl fun a hE=>Zc hE rfl fun a hE=>Ze ?_))
  have hM:=M.toRefF (x:=j5) hM
  obtain rfl:=Option.some.inj hF7
  exact wp_ret (ZJ hE rfl (ZP hE rfl) ⟨_,rfl,(ptr b3 0),rfl,hM.outF (JX YO),hM.kept⟩)
def UK (p0 : GCipher) : Option ((Ref Gengine)) :=
 (XU p0.Field p0.Mix).bind fun r3=>(Vw p0.Box).bind fun r8=>(X5 p0.Places).bind fun r10=>(VE p0.Field p0.Mix).bind fun r12=>(VE p0.Field r3.2).bind fun r15=>some (⟨(⟨p0.Box,r8,p0.Places,r10,r12,r15,p0.Rounds⟩ : Gengine)⟩ : (Ref Gengine))
theorem BQ (w0 : World) (p0 : GCipher) (r : (Ref Gengine)) (hF : UK p0 = some r) :
  Calls Tryz.prog 179 [(Value.agg (enc p0).toArray)].toArray w0 (fun en w'=>∃ v,en = .returned v ∧ (∃ (y1 : Value),v = y1 ∧ Fr w0 w' [own NoB (r : (Ref Gengine)) [y1]] ∧ Kept (Old w0) w0 w')):=by
 refine ce Tryz.func179 ?_
 intro a hE
 have hM:=M.start w0
 unfold UK at hF
 refine Zb (ZK (cs:=cat [[vI p0.Field],enc p0.Box,enc p0.Mix,enc p0.Places,[vI p0.Rounds]]) hE hM Za ld rfl rfl fun b1 w a hM hE=>Zc hE rfl fun a hE=>Ze (Zb (Zf hE rfl (A7) fun a hE=>Zy (v:=(vI p0.Field)) hE rfl ty2 rfl (At.cat (pre:=[]) hM.rawAt0 cl0) fun a hE=>Zf hE rfl (Bh) fun a hE=>Zm hE rfl TB rfl (At.cat (pre:=[[vI p0.Field],enc p0.Box]) hM.rawAt0 ck) (Flat.len _) ?_))); intro a hE
 obtain ⟨r3,e4,hF⟩:=bind_some hF
 refine Zv hE rfl (cbm Tryz.func211) (Hd _ p0.Field p0.Mix r3 e4) ?_
 rintro v w a ⟨rfl,hK⟩ hE
 have hM:=hM.keep hK
 refine Zd hE rfl fun a hE=>WG hE Za ld rfl rfl fun a hE=>WG hE Za ld rfl rfl fun a hE=>Zz hE hM TB fun b5 w a hM hE=>Zc hE rfl fun a hE=>Zl (seg:=enc r3.2) (cs':=enc r3.2) hE hM Za rfl rfl rfl TB (Flat.len _) (zle flq) (Flat.cell _) (Zi flq) fun w a hM hE=>Ze (wp_seq ?_)
 obtain ⟨r8,e9,hF⟩:=bind_some hF
 obtain ⟨r10,e11,hF⟩:=bind_some hF
 obtain ⟨r12,e13,hF⟩:=bind_some hF
 obtain ⟨r15,e16,hF⟩:=bind_some hF
 refine YC (its:=[raw b5 (enc r3.2),raw b1 (cat [[vI p0.Field],enc p0.Box,enc p0.Mix,enc p0.Places,[vI p0.Rounds]])]) (mk:=([mkO 14 (fun v=>own NoB (r12 : (Ref (Vector (Vector (Vector UInt8 256) 4) 4))) [v]),mkO 18 (fun v=>own NoB (r15 : (Ref (Vector (Vector (Vector UInt8 256) 4) 4))) [v])] : Mk)) [13,14,15,16,17,18,19,20,21,22,23,24,25,26,27,28,29,30,31,32,33] YF rfl rfl (by decide) rfl hE (fun u=>M.qE (M.qE (M.q0 hM.drew u) emO) emO) (qsP (fun z=>Zj z.E Za ld rfl (J7) (kr0 rfl)) (qsP (v:=(Value.agg (enc p0.Box).toArray)) ?_ (qsP (fun z=>Zj z.E Za ld rfl (J7) (kr0 rfl)) (qsP (v:=(Value.agg (enc p0.Box).toArray)) ?_ (qsP (fun z=>Z0 z.E Za ld rfl (cbm Tryz.func212) (HE _ p0.Box r8 e9) (kc rfl)) (qsP (fun z=>Zj z.E Za ld rfl (Bq) (kr0 rfl)) (qsP (v:=(Value.agg (enc p0.Places).toArray)) ?_ (qsP (fun z=>Zj z.E Za ld rfl (Bq) (kr0 rfl)) (qsP (v:=(Value.agg (enc p0.Places).toArray)) ?_ (qsP (fun z=>Z0 z.E Za ld rfl (cbm Tryz.func213) (Jt _ p0.Places r10 e11) (kc rfl)) (qsP (fun z=>Zj z.E Za ld rfl (A7) (kr0 rfl)) (qsP (v:=(vI p0.Field)) ?_ (qsP (fun z=>Zj z.E Za ld rfl (Bh) (kr0 rfl)) (qsP (v:=(Value.agg (enc p0.Mix).toArray)) ?_ (qsM (pr:=fun v=>True) ?_ (qsP (fun z=>Zj z.E Za ld rfl (A7) (kr0 rfl)) (qsP (v:=(vI p0.Field)) ?_ (qsP (v:=(Value.agg (enc r3.2).toArray)) ?_ (qsM (pr:=fun v=>True) ?_ (qsP (fun z=>Zj z.E Za ld rfl (jA) (kr0 rfl)) (qsP (v:=(vI p0.Rounds)) ?_ qs0))))))))))))))))))))) ?_
 ·intro a w ux7 D z
  have hE:=z.E
  have hM:=z.M
  exact Zm hE rfl X6 rfl (At.cat (pre:=[[vI p0.Field]]) hM.rawAt1 ck) (Flat.len _) fun a hE=>⟨Kept.refl _ _,_,rfl,hE⟩
 ·intro a w ux7 D z
  have hE:=z.E
  have hM:=z.M
  exact Zm hE rfl X6 rfl (At.cat (pre:=[[vI p0.Field]]) hM.rawAt1 ck) (Flat.len _) fun a hE=>⟨Kept.refl _ _,_,rfl,hE⟩
 ·intro a w ux7 D z
  have hE:=z.E
  have hM:=z.M
  exact Zm hE rfl Kd rfl (At.cat (pre:=[[vI p0.Field],enc p0.Box,enc p0.Mix]) hM.rawAt1 ck) (Flat.len _) fun a hE=>⟨Kept.refl _ _,_,rfl,hE⟩
 ·intro a w ux7 D z
  have hE:=z.E
  have hM:=z.M
  exact Zm hE rfl Kd rfl (At.cat (pre:=[[vI p0.Field],enc p0.Box,enc p0.Mix]) hM.rawAt1 ck) (Flat.len _) fun a hE=>⟨Kept.refl _ _,_,rfl,hE⟩
 ·intro a w ux7 D z
  have hE:=z.E
  have hM:=z.M
  exact Zy (v:=(vI p0.Field)) hE rfl ty2 rfl (At.cat (pre:=[]) hM.rawAt1 cl0) fun a hE=>⟨Kept.refl _ _,_,rfl,hE⟩
 ·intro a w ux7 D z
  have hE:=z.E
  have hM:=z.M
  exact Zm hE rfl TB rfl (At.cat (pre:=[[vI p0.Field],enc p0.Box]) hM.rawAt1 ck) (Flat.len _) fun a hE=>⟨Kept.refl _ _,_,rfl,hE⟩
 ·intro a w ux7 D z
  have hE:=z.E
  have hD : D 14 = false:=z.F
  have hM0:=z.M
  have hM:=z.M
  refine Zv hE rfl (cbm Tryz.func214) (Jj _ p0.Field p0.Mix r12 e13) ?_
  rintro _ w a ⟨_,rfl,hFr,hK⟩ hE
  have hM:=hM0.add hK hFr
  exact ⟨_,_,rfl,hE,M.qFill (mk1:=[]) (mk2:=[_]) (f:=(fun v=>own NoB (r12 : (Ref (Vector (Vector (Vector UInt8 256) 4) 4))) [v])) hM rfl hD,trivial⟩
 ·intro a w ux7 D z
  have hE:=z.E
  have hM:=z.M
  exact Zy (v:=(vI p0.Field)) hE rfl ty2 rfl (At.cat (pre:=[]) hM.rawAt1 cl0) fun a hE=>⟨Kept.refl _ _,_,rfl,hE⟩
 ·intro a w ux7 D z
  have hE:=z.E
  have hM:=z.M
  exact Zm hE rfl TB rfl hM.rawAt0 (Flat.len _) fun a hE=>⟨Kept.refl _ _,_,rfl,hE⟩
 ·intro a w ux7 D z
  have hE:=z.E
  have hD : D 18 = false:=z.F
  have hM0:=z.M
  have hM:=z.M
  refine Zv hE rfl (cbm Tryz.func214) (Jj _ p0.Field r3.2 r15 e16) ?_
  rintro _ w a ⟨_,rfl,hFr,hK⟩ hE
  have hM:=hM0.add hK hFr
  exact ⟨_,_,rfl,hE,M.qFill (mk1:=[_]) (mk2:=[]) (f:=(fun v=>own NoB (r15 : (Ref (Vector (Vector (Vector UInt8 256) 4) 4))) [v])) hM rfl hD,trivial⟩
 ·intro a w ux7 D z
  have hE:=z.E
  have hM:=z.M
  exact Zy (v:=(vI p0.Rounds)) hE rfl ty2 rfl (At.cat (pre:=[[vI p0.Field],enc p0.Box,enc p0.Mix,enc p0.Places]) hM.rawAt1 ck) fun a hE=>⟨Kept.refl _ _,_,rfl,hE⟩
 ·intro a w ux7 D hE hM hG hall
  have d14:=hall 14 (by decide)
  have d18:=hall 18 (by decide)
  have hM:=(hM.sure (pre:=[_,_]) d14).sure (pre:=[_,_,_]) d18
  refine XG (parts:=[(0,.tmp 14),(1,.tmp 17),(2,.tmp 19),(3,.tmp 22),(4,.tmp 27),(5,.tmp 31),(6,.tmp 33)]) (vs:=[(0,(Value.agg (enc p0.Box).toArray)),(1,(Value.agg (enc r8).toArray)),(2,(Value.agg (enc p0.Places).toArray)),(3,(Value.agg (enc r10).toArray)),(4,(ux7 14)),(5,(ux7 18)),(6,vI p0.Rounds)]) (cs:=cat [enc p0.Box,enc r8,enc p0.Places,enc r10,[(ux7 14)],[(ux7 18)],[vI p0.Rounds]]) hE Za ld rfl rfl Ag pl244 (Yl (pre:=[]) (seg:=enc (Vector.replicate 256 (0 : UInt8))) (seg':=enc p0.Box) (post:=[enc (Vector.replicate 256 (0 : UInt8)),enc (Vector.replicate 16 (0 : UInt8)),enc (Vector.replicate 16 (0 : UInt8)),[(Value.pointer none)],[(Value.pointer none)],[vI 0]]) rfl cl0 (Flat.len _) (Flat.len _) rfl (Yl (pre:=[enc p0.Box]) (seg:=enc (Vector.replicate 256 (0 : UInt8))) (seg':=enc r8) (post:=[enc (Vector.replicate 16 (0 : UInt8)),enc (Vector.replicate 16 (0 : UInt8)),[(Value.pointer none)],[(Value.pointer none)],[vI 0]]) rfl ck (Flat.len _) (Flat.len _) rfl (Yl (pre:=[enc p0.Box,enc r8]) (seg:=enc (Vector.replicate 16 (0 : UInt8))) (seg':=enc p0.Places) (post:=[enc (Vector.replicate 16 (0 : UInt8)),[(Value.pointer none)],[(Value.pointer none)],[vI 0]]) rfl ck (Flat.len _) (Flat.len _) rfl (Yl (pre:=[enc p0.Box,enc r8,enc p0.Places]) (seg:=enc (Vector.replicate 16 (0 : UInt8))) (seg':=enc r10) (post:=[[(Value.pointer none)],[(Value.pointer none)],[vI 0]]) rfl ck (Flat.len _) (Flat.len _) rfl (Yl (pre:=[enc p0.Box,enc r8,enc p0.Places,enc r10]) (seg:=[(Value.pointer none)]) (seg':=[(ux7 14)]) (post:=[[(Value.pointer none)],[vI 0]]) rfl ck rfl rfl (yE (hM.ro (pre:=[_,_]) noB)) (Yl (pre:=[enc p0.Box,enc r8,enc p0.Places,enc r10,[(ux7 14)]]) (seg:=[(Value.pointer none)]) (seg':=[(ux7 18)]) (post:=[[vI 0]]) rfl ck rfl rfl (yE (hM.ro (pre:=[_,_,_]) noB)) (Yl (pre:=[enc p0.Box,enc r8,enc p0.Places,enc r10,[(ux7 14)],[(ux7 18)]]) (seg:=[vI 0]) (seg':=[vI p0.Rounds]) (post:=[]) rfl ck rfl rfl rfl V3))))))) fun a hE=>ZK (cs:=cat [enc p0.Box,enc r8,enc p0.Places,enc r10,[(ux7 14)],[(ux7 18)],[vI p0.Rounds]]) hE hM Za ld rfl rfl fun b18 w a hM hE=>Zc hE rfl fun a hE=>Zg (Zt ?_)
  have hM:=hM.pull4.pull4
  have hM:=(((hM.pack2 (it:=own NoB (⟨p0.Box,r8,p0.Places,r10,r12,r15,p0.Rounds⟩ : Gengine) (cat [enc p0.Box,enc r8,enc p0.Places,enc r10,[(ux7 14)],[(ux7 18)],[vI p0.Rounds]])) (XH noB) (fun f0 f1 q0 q1=>(qJ q0 q1 (by simp)))).pull1).pull1).pull1
  have hM:=M.toRef hM noB
  obtain rfl:=Option.some.inj hF
  have hM:=M.fst (l:=[_]) hM
  exact wp_ret (ZJ hE rfl (ZP hE rfl) ⟨_,rfl,(ptr b18 0),rfl,hM.outF (JX YO),hM.kept⟩)
def Qz (p0 : Int) : Option ((Ref Gengine)) :=
 (Vk p0).bind fun r1=>(UK r1).bind fun r3=>some r3
theorem jy (w0 : World) (p0 : Int) (r : (Ref Gengine)) (hF : Qz p0 = some r) :
  Calls Tryz.prog 127 [vI p0].toArray w0 (fun en w'=>∃ v,en = .returned v ∧ (∃ (y1 : Value),v = y1 ∧ Fr w0 w' [own NoB (r : (Ref Gengine)) [y1]] ∧ Kept (Old w0) w0 w')):=by
 refine ce Tryz.func127 ?_
 intro a hE
 have hM:=M.start w0
 unfold Qz at hF
 refine Zb (Zc hE rfl fun a hE=>Ze (Zb (Zd hE rfl ?_))); intro a hE
 obtain ⟨r1,e2,hF⟩:=bind_some hF
 refine Zv hE rfl (cbm Tryz.func180) (HG _ p0 r1 e2) ?_
 rintro v w a ⟨rfl,hK⟩ hE
 have hM:=hM.keep hK
 obtain ⟨r3,e4,hF⟩:=bind_some hF
 refine Zv hE rfl (cbm Tryz.func179) (BQ _ r1 r3 e4) ?_
 rintro u5 w a ⟨_,rfl,hFr,hK⟩ hE
 have hM:=hM.add hK hFr
 refine Zc hE rfl fun a hE=>Ze ?_
 obtain rfl:=Option.some.inj hF
 exact wp_ret (ZJ hE rfl (ZP hE rfl) ⟨_,rfl,u5,rfl,hM.outF (JX YO),hM.kept⟩)
def Vr : Option ((Ref Gengine)) :=
 (Qz 4).bind fun r1=>some r1
theorem HR (w0 : World)  (r : (Ref Gengine)) (hF : Vr  = some r) :
  Calls Tryz.prog 89 [].toArray w0 (fun en w'=>∃ v,en = .returned v ∧ (∃ (y1 : Value),v = y1 ∧ Fr w0 w' [own NoB (r : (Ref Gengine)) [y1]] ∧ Kept (Old w0) w0 w')):=by
 refine ce Tryz.func89 ?_
 intro a hE
 have hM:=M.start w0
 unfold Vr at hF
 refine Zb (Zc hE rfl fun a hE=>Ze (Zb ?_))
 obtain ⟨r1,e2,hF⟩:=bind_some hF
 refine Zv hE rfl (cbm Tryz.func127) (jy _ 4 r1 e2) ?_
 rintro u3 w a ⟨_,rfl,hFr,hK⟩ hE
 have hM:=hM.add hK hFr
 refine Zc hE rfl fun a hE=>Ze ?_
 obtain rfl:=Option.some.inj hF
 exact wp_ret (ZJ hE rfl (ZP hE rfl) ⟨_,rfl,u3,rfl,hM.outF (JX YO),hM.kept⟩)
def Yq (p0 : (List (Vector UInt8 16))) : Option ((List (Vector UInt8 16))) :=
 (app 16 ([] : List (Vector UInt8 16)) p0).bind fun l7=>some (([] : List (Vector UInt8 16)) ++ p0)
theorem T1 (w0 : World) (p0 : (List (Vector UInt8 16))) (v0_1 : Value) (hv0_1 : Ro w0 p0 [v0_1]) (r : (List (Vector UInt8 16))) (hF : Yq p0 = some r) :
  Calls Tryz.prog 148 [v0_1].toArray w0 (fun en w'=>∃ v,en = .returned v ∧ (∃ (y1 : Value),v = y1 ∧ Fr w0 w' [osl NoB (r : List (Vector UInt8 16)) y1] ∧ Kept (Old w0) w0 w')):=by
 refine ce Tryz.func148 ?_
 intro a hE
 have hM:=M.start w0
 unfold Yq at hF
 refine Zb (Zc hE rfl fun a hE=>Ze (wp_seq (Zb (Zd hE rfl fun a hE=>jG hE Za ld rfl rfl Tryz.underlying54 (hM.rd hv0_1) fun bn1 a hn2 hE=>Ze ?_))))
 refine Zo hE rfl ?_ ?_
 ·intro hb3
  have h0:=hn2 hb3
  have hF : some ([]) = some r:=by rw [h0] at hF; simpa [app] using hF
  refine Zb (Zc hE rfl fun a hE=>Ze ?_)
  have hM:=M.nilS (α:=(Vector UInt8 16)) NoB noB hM
  obtain rfl:=Option.some.inj hF
  exact wp_ret (Zs (ZJ hE rfl (ZP hE rfl) ⟨_,rfl,(Value.slice none 0 0),rfl,hM.outF (Yi YO),hM.kept⟩))
 ·intro hb3
  refine wp_skip (Zt (Zb (ZW (xs:=[]) (l:=([] : List (Vector UInt8 16))) (vs:=[]) hE hM Za ld rfl rfl Tryz.underlying54 ZC rfl (by decide) rfl fun u5 w a hM hE=>Zd hE rfl ?_))); intro a hE
  obtain ⟨l7,e8,hF⟩:=bind_some hF
  obtain ⟨e11,rfl⟩:=Z8 e8
  refine ZY hE hM Za ld rfl rfl (hM.rd hv0_1) Tryz.underlying54 ZC rfl (by decide) e11 fun u9 w a hM hE=>Zc hE rfl fun a hE=>Ze ?_
  obtain rfl:=Option.some.inj hF
  exact wp_ret (ZJ hE rfl (ZP hE rfl) ⟨_,rfl,u9,rfl,hM.outF (Yi YO),hM.kept⟩)
def Ys (p0 : (List GEvent)) : Option ((List GEvent)) :=
 (app 48 ([] : List GEvent) p0).bind fun l7=>some (([] : List GEvent) ++ p0)
theorem T4 (w0 : World) (p0 : (List GEvent)) (v0_1 : Value) (hv0_1 : Ro w0 p0 [v0_1]) (r : (List GEvent)) (hF : Ys p0 = some r) :
  Calls Tryz.prog 149 [v0_1].toArray w0 (fun en w'=>∃ v,en = .returned v ∧ (∃ (y1 : Value),v = y1 ∧ Fr w0 w' [osl NoB (r : List GEvent) y1] ∧ Kept (Old w0) w0 w')):=by
 refine ce Tryz.func149 ?_
 intro a hE
 have hM:=M.start w0
 unfold Ys at hF
 refine Zb (Zc hE rfl fun a hE=>Ze (wp_seq (Zb (Zd hE rfl fun a hE=>jG hE Za ld rfl rfl Tryz.underlying56 (hM.rd hv0_1) fun bn1 a hn2 hE=>Ze ?_))))
 refine Zo hE rfl ?_ ?_
 ·intro hb3
  have h0:=hn2 hb3
  have hF : some ([]) = some r:=by rw [h0] at hF; simpa [app] using hF
  refine Zb (Zc hE rfl fun a hE=>Ze ?_)
  have hM:=M.nilS (α:=GEvent) NoB noB hM
  obtain rfl:=Option.some.inj hF
  exact wp_ret (Zs (ZJ hE rfl (ZP hE rfl) ⟨_,rfl,(Value.slice none 0 0),rfl,hM.outF (Yi YO),hM.kept⟩))
 ·intro hb3
  refine wp_skip (Zt (Zb (ZW (xs:=[]) (l:=([] : List GEvent)) (vs:=[]) hE hM Za ld rfl rfl Tryz.underlying56 Xp rfl (by decide) rfl fun u5 w a hM hE=>Zd hE rfl ?_))); intro a hE
  obtain ⟨l7,e8,hF⟩:=bind_some hF
  obtain ⟨e11,rfl⟩:=Z8 e8
  refine ZY hE hM Za ld rfl rfl (hM.rd hv0_1) Tryz.underlying56 Xp rfl (by decide) e11 fun u9 w a hM hE=>Zc hE rfl fun a hE=>Ze ?_
  obtain rfl:=Option.some.inj hF
  exact wp_ret (ZJ hE rfl (ZP hE rfl) ⟨_,rfl,u9,rfl,hM.outF (Yi YO),hM.kept⟩)
def ZZ (p0 : (List UInt8)) : Option ((List UInt8)) :=
 (app 1 ([] : List UInt8) p0).bind fun l7=>some (([] : List UInt8) ++ p0)
theorem Xq (w0 : World) (p0 : (List UInt8)) (v0_1 : Value) (hv0_1 : Ro w0 p0 [v0_1]) (r : (List UInt8)) (hF : ZZ p0 = some r) :
  Calls Tryz.prog 75 [v0_1].toArray w0 (fun en w'=>∃ v,en = .returned v ∧ (∃ (y1 : Value),v = y1 ∧ Fr w0 w' [osl NoB (r : List UInt8) y1] ∧ Kept (Old w0) w0 w')):=by
 refine ce Tryz.func75 ?_
 intro a hE
 have hM:=M.start w0
 unfold ZZ at hF
 refine Zb (Zc hE rfl fun a hE=>Ze (wp_seq (Zb (Zd hE rfl fun a hE=>jG hE Za ld rfl rfl Tryz.underlying40 (hM.rd hv0_1) fun bn1 a hn2 hE=>Ze ?_))))
 refine Zo hE rfl ?_ ?_
 ·intro hb3
  have h0:=hn2 hb3
  have hF : some ([]) = some r:=by rw [h0] at hF; simpa [app] using hF
  refine Zb (Zc hE rfl fun a hE=>Ze ?_)
  have hM:=M.nilS (α:=UInt8) NoB noB hM
  obtain rfl:=Option.some.inj hF
  exact wp_ret (Zs (ZJ hE rfl (ZP hE rfl) ⟨_,rfl,(Value.slice none 0 0),rfl,hM.outF (Yi YO),hM.kept⟩))
 ·intro hb3
  refine wp_skip (Zt (Zb (ZW (xs:=[]) (l:=([] : List UInt8)) (vs:=[]) hE hM Za ld rfl rfl Tryz.underlying40 ty5 rfl (by decide) rfl fun u5 w a hM hE=>Zd hE rfl ?_))); intro a hE
  obtain ⟨l7,e8,hF⟩:=bind_some hF
  obtain ⟨e11,rfl⟩:=Z8 e8
  refine ZY hE hM Za ld rfl rfl (hM.rd hv0_1) Tryz.underlying40 ty5 rfl (by decide) e11 fun u9 w a hM hE=>Zc hE rfl fun a hE=>Ze ?_
  obtain rfl:=Option.some.inj hF
  exact wp_ret (ZJ hE rfl (ZP hE rfl) ⟨_,rfl,u9,rfl,hM.outF (Yi YO),hM.kept⟩)
def WW (p0 : GVault) (s21 : (List GRecord) × Int) : Option (Fl ((List GRecord) × Int) (List GRecord)) :=
 if (decide (s21.2 < (p0.Records.length : Int))) = true then ((idx p0.Records s21.2).bind fun x29=>((ZZ x29.Label).bind fun r49=>(ZZ x29.Body).bind fun r52=>some (r49,r52) : Option ((List UInt8) × (List UInt8))).bind fun j41=>(app 112 s21.1 ([(⟨x29.Number,x29.Version,x29.Nonce,j41.1,j41.2,x29.Tag⟩ : GRecord)] : List GRecord)).bind fun l58=>some (Fl.nx ((s21.1 ++ ([(⟨x29.Number,x29.Version,x29.Nonce,j41.1,j41.2,x29.Tag⟩ : GRecord)] : List GRecord)),wr (s21.2 + 1)))) else (some (Fl.ex s21.1))
def Vm (p0 : GVault) : Option (GVault) :=
 (Yq p0.Keys).bind fun r6=>(Ys p0.Events).bind fun r9=>(ZB (WW p0) ([],0)).bind fun j16=>some (⟨r6,p0.Next,j16,r9,p0.Head⟩ : GVault)
theorem HS (w0 : World) (p0 : GVault) (v0_1 : Value) (hv0_1 : Ro w0 p0.Keys [v0_1]) (v0_2 : Value) (hv0_2 : Ro w0 p0.Records [v0_2]) (v0_3 : Value) (hv0_3 : Ro w0 p0.Events [v0_3]) (r : GVault) (hF : Vm p0 = some r) :
  Calls Tryz.prog 87 [(Value.agg (cat [[v0_1],[vI p0.Next],[v0_2],[v0_3],enc p0.Head]).toArray)].toArray w0 (fun en w'=>∃ v,en = .returned v ∧ (∃ (y1 : Value) (y2 : Value) (y3 : Value),v = (Value.agg (cat [[y1],[vI r.Next],[y2],[y3],enc r.Head]).toArray) ∧ Fr w0 w' [osl NoB (r.Keys : List (Vector UInt8 16)) y1,osl NoB (r.Records : List GRecord) y2,osl NoB (r.Events : List GEvent) y3] ∧ Kept (Old w0) w0 w')):=by
 refine ce Tryz.func87 ?_
 intro a hE
 have hM:=M.start w0
 unfold Vm at hF
 refine Zb (ZK (cs:=cat [[v0_1],[vI p0.Next],[v0_2],[v0_3],enc p0.Head]) hE hM Za ld rfl rfl fun b1 w a hM hE=>Zz hE hM Yn fun b3 w a hM hE=>Ze (wp_seq ?_))
 obtain ⟨r6,e7,hF⟩:=bind_some hF
 obtain ⟨r9,e10,hF⟩:=bind_some hF
 refine YC (its:=[raw b3 (cat [[(Value.slice none 0 0)],[vI 0],[(Value.slice none 0 0)],[(Value.slice none 0 0)],enc (Vector.replicate 32 (0 : UInt8))]),raw b1 (cat [[v0_1],[vI p0.Next],[v0_2],[v0_3],enc p0.Head])]) (mk:=([mkO 2 (fun v=>osl NoB (r6 : List (Vector UInt8 16)) v),mkO 7 (fun v=>osl NoB (r9 : List GEvent) v),mkO 11 (fun v=>Wy v (cat [[(Value.slice none 0 0)],[vI 0],[(Value.slice none 0 0)],[(Value.slice none 0 0)],enc (Vector.replicate 32 (0 : UInt8))]))] : Mk)) [6,7,8,9,10,11,12,13,14,15,16,3] YF rfl rfl (by decide) rfl hE (fun u=>M.qE (M.qE (M.qE (M.q0 hM.drew u) emO) emO) emO) (qsP (fun z=>Zj z.E Za ld rfl (WZ) (kr0 rfl)) (qsP (v:=v0_1) ?_ (qsM (pr:=fun v=>True) ?_ (qsP (fun z=>Zj z.E Za ld rfl (Ky) (kr0 rfl)) (qsP (v:=(vI p0.Next)) ?_ (qsP (fun z=>Zj z.E Za ld rfl (Us) (kr0 rfl)) (qsP (v:=v0_3) ?_ (qsM (pr:=fun v=>True) ?_ (qsP (fun z=>Zj z.E Za ld rfl (HF) (kr0 rfl)) (qsP (v:=(Value.agg (enc p0.Head).toArray)) ?_ (qsD (ds:=[2,7]) (f:=fun us=>(Value.agg (cat [[(us.getD 0 undef)],[vI p0.Next],[(Value.slice none 0 0)],[(us.getD 1 undef)],enc p0.Head]).toArray)) ?_ (qsM (pr:=fun v=>True) ?_ qs0)))))))))))) ?_
 ·intro a w ux5 D z
  have hE:=z.E
  have hM:=z.M
  exact Zy (v:=v0_1) hE rfl Q7 rfl (At.cat (pre:=[]) hM.rawAt1 cl0) fun a hE=>⟨Kept.refl _ _,_,rfl,hE⟩
 ·intro a w ux5 D z
  have hE:=z.E
  have hD : D 2 = false:=z.F
  have hM0:=z.M
  have hM:=z.M
  refine Zv hE rfl (cbm Tryz.func148) (T1 _ p0.Keys v0_1 (hM.rdo hv0_1) r6 e7) ?_
  rintro _ w a ⟨_,rfl,hFr,hK⟩ hE
  have hM:=hM0.add hK hFr
  exact ⟨_,_,rfl,hE,M.qFill (mk1:=[]) (mk2:=[_,_]) (f:=(fun v=>osl NoB (r6 : List (Vector UInt8 16)) v)) hM rfl hD,trivial⟩
 ·intro a w ux5 D z
  have hE:=z.E
  have hM:=z.M
  exact Zy (v:=(vI p0.Next)) hE rfl ty2 rfl (At.cat (pre:=[[v0_1]]) hM.rawAt1 ck) fun a hE=>⟨Kept.refl _ _,_,rfl,hE⟩
 ·intro a w ux5 D z
  have hE:=z.E
  have hM:=z.M
  exact Zy (v:=v0_3) hE rfl KJ rfl (At.cat (pre:=[[v0_1],[vI p0.Next],[v0_2]]) hM.rawAt1 ck) fun a hE=>⟨Kept.refl _ _,_,rfl,hE⟩
 ·intro a w ux5 D z
  have hE:=z.E
  have hD : D 7 = false:=z.F
  have hM0:=z.M
  have hM:=z.M
  refine Zv hE rfl (cbm Tryz.func149) (T4 _ p0.Events v0_3 (hM.rdo hv0_3) r9 e10) ?_
  rintro _ w a ⟨_,rfl,hFr,hK⟩ hE
  have hM:=hM0.add hK hFr
  exact ⟨_,_,rfl,hE,M.qFill (mk1:=[_]) (mk2:=[_]) (f:=(fun v=>osl NoB (r9 : List GEvent) v)) hM rfl hD,trivial⟩
 ·intro a w ux5 D z
  have hE:=z.E
  have hM:=z.M
  exact Zm hE rfl Ye rfl (At.cat (pre:=[[v0_1],[vI p0.Next],[v0_2],[v0_3]]) hM.rawAt1 ck) (Flat.len _) fun a hE=>⟨Kept.refl _ _,_,rfl,hE⟩
 ·intro a w ux5 D z
  have hE:=z.E
  have d2 : D 2 = true:=z.p 0 _ rfl rfl
  have d7 : D 7 = true:=z.p 2 _ rfl rfl
  have hM:=(z.M.sure (pre:=[_,_]) d2).sure (pre:=[_,_,_]) d7
  exact XG (parts:=[(0,.tmp 8),(1,.tmp 10),(3,.tmp 13),(4,.tmp 15)]) (vs:=[(0,(ux5 2)),(1,vI p0.Next),(3,(ux5 7)),(4,(Value.agg (enc p0.Head).toArray))]) (cs:=cat [[(ux5 2)],[vI p0.Next],[(Value.slice none 0 0)],[(ux5 7)],enc p0.Head]) hE Za ld rfl rfl Yn kh (Yl (pre:=[]) (seg:=[(Value.slice none 0 0)]) (seg':=[(ux5 2)]) (post:=[[vI 0],[(Value.slice none 0 0)],[(Value.slice none 0 0)],enc (Vector.replicate 32 (0 : UInt8))]) rfl cl0 rfl rfl (Z6 (hM.sl (pre:=[_,_]) noB)) (Yl (pre:=[[(ux5 2)]]) (seg:=[vI 0]) (seg':=[vI p0.Next]) (post:=[[(Value.slice none 0 0)],[(Value.slice none 0 0)],enc (Vector.replicate 32 (0 : UInt8))]) rfl ck rfl rfl rfl (Yl (pre:=[[(ux5 2)],[vI p0.Next],[(Value.slice none 0 0)]]) (seg:=[(Value.slice none 0 0)]) (seg':=[(ux5 7)]) (post:=[enc (Vector.replicate 32 (0 : UInt8))]) rfl ck rfl rfl (Z6 (hM.sl (pre:=[_,_,_]) noB)) (Yl (pre:=[[(ux5 2)],[vI p0.Next],[(Value.slice none 0 0)],[(ux5 7)]]) (seg:=enc (Vector.replicate 32 (0 : UInt8))) (seg':=enc p0.Head) (post:=[]) rfl ck (Flat.len _) (Flat.len _) rfl V3)))) fun a hE=>⟨Kept.refl _ _,(zR d2 (zR d7 jp)),_,rfl,hE⟩
 ·intro a w ux5 D z
  have hE:=z.E
  have hD : D 11 = false:=z.F
  have hM:=z.M
  refine Zz hE hM Yn ?_; intro b12 w a hM hE
  have hM:=hM.pack1 (it:=Wy _ (cat [[(Value.slice none 0 0)],[vI 0],[(Value.slice none 0 0)],[(Value.slice none 0 0)],enc (Vector.replicate 32 (0 : UInt8))])) (fun w w' fp ⟨b',e,k⟩ hb=>⟨b',e,YD w w' fp k hb⟩) (fun fp k=>⟨_,rfl,k⟩)
  exact ⟨_,_,rfl,hE,M.qFill (mk1:=[_,_]) (mk2:=[]) (f:=fun v=>Wy v (cat [[(Value.slice none 0 0)],[vI 0],[(Value.slice none 0 0)],[(Value.slice none 0 0)],enc (Vector.replicate 32 (0 : UInt8))])) hM rfl hD,trivial⟩
 ·intro a w ux5 D hE hM hG hall
  have d2:=hall 2 (by decide)
  have d7:=hall 7 (by decide)
  have d11:=hall 11 (by decide)
  have hM:=(((hM.sure (pre:=[_,_]) d2).sure (pre:=[_,_,_]) d7).sure (pre:=[_,_,_,_]) d11).pull
  obtain ⟨_,⟨b14,f15,_⟩,_⟩:=hM.head
  have hM:=hM.pack1 YD (it:=raw b14 (cat [[(Value.slice none 0 0)],[vI 0],[(Value.slice none 0 0)],[(Value.slice none 0 0)],enc (Vector.replicate 32 (0 : UInt8))])) (fun fp ⟨b2,e2,k2⟩=>by rw [f15] at e2; simp [ptr] at e2; subst e2; exact k2)
  have hE:=hE.setq (t:=3) rfl f15
  refine Zl (seg:=cat [[(ux5 2)],[vI p0.Next],[(Value.slice none 0 0)],[(ux5 7)],enc p0.Head]) (cs':=cat [[(ux5 2)],[vI p0.Next],[(Value.slice none 0 0)],[(ux5 7)],enc p0.Head]) hE hM Za rfl rfl rfl Yn cq (Nat.le_of_eq ((Nat.zero_add _).trans (Eq.trans cq (Eq.symm cq)))) (Z1 (cc1 (Rep.cell (hM.sl (pre:=[_,_,_]) noB)) (cc1 (Flat.cell (p0.Next : Int)) (cc1 Wb (cc1 (Rep.cell (hM.sl (pre:=[_,_,_,_]) noB)) (cc1 (Flat.cell _) cc0)))))) (Zi (Eq.trans cq (Eq.symm cq))) fun w a hM hE=>Zg (Zt (wp_seq (Zb (Zf hE rfl (Y2) fun a hE=>Zy (v:=v0_2) hE rfl Tr rfl (At.cat (pre:=[[v0_1],[vI p0.Next]]) hM.rawAt2 ck) fun a hE=>Yf hE rfl Tryz.underlying55 (hM.rd hv0_2) fun a hE=>Zd hE rfl fun a hE=>Ze ?_))))
  obtain ⟨j16,hl17,hF18⟩:=bind_some hF
  refine ZM (fun a w=>∃ (u19 : Value),Env 40 a [(2,(ptr b3 0)),(3,(ptr b14 0))] ∧ M (Old w0) w0 w [raw b14 (cat [[(ux5 2)],[vI p0.Next],[u19],[(ux5 7)],enc p0.Head]),raw b3 (cat [[(Value.slice none 0 0)],[vI 0],[(Value.slice none 0 0)],[(Value.slice none 0 0)],enc (Vector.replicate 32 (0 : UInt8))]),osl NoB (r6 : List (Vector UInt8 16)) (ux5 2),osl NoB (r9 : List GEvent) (ux5 7),osl NoB (j16 : List GRecord) u19]) ?_ ?_
  ·skip
   refine wp_block ?_
   have hM:=M.fst (l:=[_,_,_,_,_]) (((((M.nilS (α:=GRecord) NoB noB hM).pull5).pull5).pull4).pull4)
   refine ZE (fun (s21 : (List GRecord) × Int) a w=>∃ (u22 : Value),Env 40 a [(2,(ptr b3 0)),(3,(ptr b14 0)),(18,v0_2),(19,(vI (p0.Records.length : Int))),(20,vI s21.2)] ∧ M (Old w0) w0 w [raw b14 (cat [[(ux5 2)],[vI p0.Next],[u22],[(ux5 7)],enc p0.Head]),raw b3 (cat [[(Value.slice none 0 0)],[vI 0],[(Value.slice none 0 0)],[(Value.slice none 0 0)],enc (Vector.replicate 32 (0 : UInt8))]),osl NoB (r6 : List (Vector UInt8 16)) (ux5 2),osl NoB (r9 : List GEvent) (ux5 7),osl NoB (s21.1 : List GRecord) u22]) hl17 ⟨(Value.slice none 0 0),hE.sub ⟨rfl,rfl,rfl,rfl,rfl,trivial⟩,hM⟩ ?_
   rintro s21 a w ⟨u22,hE,hM⟩ o26 hs24 hx25
   unfold WW at hs24
   refine Zb (Zh hE rfl rfl rfl fun a hE=>Ze (wp_seq ?_))
   refine Zo hE rfl ?_ ?_
   ·intro hb28
    have hs24:=Zw hs24 hb28
    refine wp_skip (Zt (wp_seq (wp_block (Zb ?_))))
    obtain ⟨x29,hi31,hs24⟩:=bix hs24
    refine ZL hE rfl rfl Tryz.underlying55 ZV (hM.rd hv0_2) hi31.1 ?_; intro a hE
    obtain ⟨cs32,hs33,hA34⟩:=Xj hv0_2 hi31.2 -- ^
    obtain ⟨u35,u37,rfl,h36,h38⟩:=Yp hs33 -- ^
    refine Zm hE rfl ZV rfl (hM.atk hA34 (Wu hv0_2 hi31.2)) cq fun a hE=>Zz hE hM ZV fun b39 w a hM hE=>Zl (seg:=cat [[vI x29.Number],[vI x29.Version],enc x29.Nonce,[u35],[u37],enc x29.Tag]) (cs':=cat [[vI x29.Number],[vI x29.Version],enc x29.Nonce,[u35],[u37],enc x29.Tag]) hE hM Za rfl rfl rfl ZV cq (Nat.le_of_eq ((Nat.zero_add _).trans (Eq.trans cq (Eq.symm cq)))) (Z1 (cc1 (Flat.cell (x29.Number : Int)) (cc1 (Flat.cell (x29.Version : Int)) (cc1 (Flat.cell _) (cc1 (Rep.cell (hM.rd h36)) (cc1 (Rep.cell (hM.rd h38)) (cc1 (Flat.cell _) cc0))))))) (Zi (Eq.trans cq (Eq.symm cq))) fun w a hM hE=>Ze ?_
    obtain ⟨j41,hl42,hF43⟩:=bind_some hs24
    refine ZO (fun a w=>∃ (u44 : Value) (u46 : Value),Env 40 a [(2,(ptr b3 0)),(3,(ptr b14 0)),(5,(ptr b39 0)),(18,v0_2),(19,(vI (p0.Records.length : Int))),(20,vI s21.2)] ∧ M (Old w0) w0 w [raw b39 (cat [[vI x29.Number],[vI x29.Version],enc x29.Nonce,[u44],[u46],enc x29.Tag]),raw b14 (cat [[(ux5 2)],[vI p0.Next],[u22],[(ux5 7)],enc p0.Head]),raw b3 (cat [[(Value.slice none 0 0)],[vI 0],[(Value.slice none 0 0)],[(Value.slice none 0 0)],enc (Vector.replicate 32 (0 : UInt8))]),osl NoB (r6 : List (Vector UInt8 16)) (ux5 2),osl NoB (r9 : List GEvent) (ux5 7),osl NoB (s21.1 : List GRecord) u22,osl NoB (j41.1 : List UInt8) u44,osl NoB (j41.2 : List UInt8) u46]) ?_ ?_
    ·skip
     obtain ⟨r49,e50,hl42⟩:=bind_some hl42
     obtain ⟨r52,e53,hl42⟩:=bind_some hl42
     refine YC (its:=[raw b39 (cat [[vI x29.Number],[vI x29.Version],enc x29.Nonce,[u35],[u37],enc x29.Tag]),raw b14 (cat [[(ux5 2)],[vI p0.Next],[u22],[(ux5 7)],enc p0.Head]),raw b3 (cat [[(Value.slice none 0 0)],[vI 0],[(Value.slice none 0 0)],[(Value.slice none 0 0)],enc (Vector.replicate 32 (0 : UInt8))]),osl NoB (r6 : List (Vector UInt8 16)) (ux5 2),osl NoB (r9 : List GEvent) (ux5 7),osl NoB (s21.1 : List GRecord) u22]) (mk:=([mkO 2 (fun v=>osl NoB (r49 : List UInt8) v),mkO 5 (fun v=>osl NoB (r52 : List UInt8) v)] : Mk)) [24,25,26,27,28,29,30] YF rfl rfl (by decide) rfl hE (fun u=>M.qE (M.qE (M.q0 hM.drew u) emO) emO) (qsP (fun z=>Zj z.E Za ld rfl (V2) (kr0 rfl)) (qsP (v:=u35) ?_ (qsM (pr:=fun v=>True) ?_ (qsP (fun z=>Zj z.E Za ld rfl (V1) (kr0 rfl)) (qsP (v:=u37) ?_ (qsM (pr:=fun v=>True) ?_ (qsP (fun z=>Zj z.E Za ld rfl (V2) (kr0 rfl)) qs0))))))) ?_
     ·intro a w ux48 D z
      have hE:=z.E
      have hM:=z.M
      exact Zy (v:=u35) hE rfl Wh rfl (At.cat (pre:=[[vI x29.Number],[vI x29.Version],enc x29.Nonce]) hM.rawAt0 ck) fun a hE=>⟨Kept.refl _ _,_,rfl,hE⟩
     ·intro a w ux48 D z
      have hE:=z.E
      have hD : D 2 = false:=z.F
      have hM0:=z.M
      have hM:=z.M
      refine Zv hE rfl cb75 (Xq _ x29.Label u35 (hM.rdo h36) r49 e50) ?_
      rintro _ w a ⟨_,rfl,hFr,hK⟩ hE
      have hM:=hM0.add hK hFr
      exact ⟨_,_,rfl,hE,M.qFill (mk1:=[]) (mk2:=[_]) (f:=(fun v=>osl NoB (r49 : List UInt8) v)) hM rfl hD,trivial⟩
     ·intro a w ux48 D z
      have hE:=z.E
      have hM:=z.M
      exact Zy (v:=u37) hE rfl Wh rfl (At.cat (pre:=[[vI x29.Number],[vI x29.Version],enc x29.Nonce,[u35]]) hM.rawAt0 ck) fun a hE=>⟨Kept.refl _ _,_,rfl,hE⟩
     ·intro a w ux48 D z
      have hE:=z.E
      have hD : D 5 = false:=z.F
      have hM0:=z.M
      have hM:=z.M
      refine Zv hE rfl cb75 (Xq _ x29.Body u37 (hM.rdo h38) r52 e53) ?_
      rintro _ w a ⟨_,rfl,hFr,hK⟩ hE
      have hM:=hM0.add hK hFr
      exact ⟨_,_,rfl,hE,M.qFill (mk1:=[_]) (mk2:=[]) (f:=(fun v=>osl NoB (r52 : List UInt8) v)) hM rfl hD,trivial⟩
     ·intro a w ux48 D hE hM hG hall
      have d2:=hall 2 (by decide)
      have d5:=hall 5 (by decide)
      have hM:=(hM.sure (pre:=[_,_,_,_,_,_]) d2).sure (pre:=[_,_,_,_,_,_,_]) d5
      refine Zl (seg:=[(ux48 2)]) hE hM Za rfl rfl (Z6 (hM.sl (pre:=[_,_,_,_,_,_]) noB)) Wh rfl (YL (pre:=[[vI x29.Number],[vI x29.Version],enc x29.Nonce]) ck rfl) (Rep.cell (hM.sl (pre:=[_,_,_,_,_,_]) noB)) (ZR (pre:=[[vI x29.Number],[vI x29.Version],enc x29.Nonce]) ck rfl) fun w a hM hE=>Zf hE rfl (V1) fun a hE=>Zl (seg:=[(ux48 5)]) hE hM Za rfl rfl (Z6 (hM.sl (pre:=[_,_,_,_,_,_,_]) noB)) Wh rfl (YL (pre:=[[vI x29.Number],[vI x29.Version],enc x29.Nonce,[(ux48 2)]]) ck rfl) (Rep.cell (hM.sl (pre:=[_,_,_,_,_,_,_]) noB)) (ZR (pre:=[[vI x29.Number],[vI x29.Version],enc x29.Nonce,[(ux48 2)]]) ck rfl) fun w a hM hE=>Zg ?_
      obtain rfl:=Option.some.inj hl42
      refine Zk ?_
      exact ⟨(ux48 2),(ux48 5),hE.sub ⟨rfl,rfl,rfl,rfl,rfl,rfl,trivial⟩,hM⟩
    ·skip
     rintro a w ⟨u44,u46,hE,hM⟩
     refine wp_region_lit (Zf hE rfl (Y2) fun a hE=>Zy (v:=u22) hE rfl Tr rfl (At.cat (pre:=[[(ux5 2)],[vI p0.Next]]) hM.rawAt1 ck) fun a hE=>Zm hE rfl ZV rfl hM.rawAt0 cq ?_); intro a hE
     have hM:=hM.pull7.pull7
     have hM:=hM.pack2 (it:=own NoB (⟨x29.Number,x29.Version,x29.Nonce,j41.1,j41.2,x29.Tag⟩ : GRecord) (cat [[vI x29.Number],[vI x29.Version],enc x29.Nonce,[u44],[u46],enc x29.Tag])) (XH noB) (fun f0 f1 q0 q1=>(Vg (Wv.sat q0) (Wv.sat q1) (by simp)))
     refine jW (xs:=[.tmp 34]) (seg:=cat [[vI x29.Number],[vI x29.Version],enc x29.Nonce,[u44],[u46],enc x29.Tag]) hE hM noB Za ld rfl rfl Tryz.underlying55 ZV rfl (by decide) ?_; intro u56 w a hM hE
     obtain ⟨l58,e59,hF43⟩:=bind_some hF43
     obtain ⟨e62,rfl⟩:=Z8 e59
     have hM:=hM.pull6
     refine yR hE hM noB Za ld rfl rfl Tryz.underlying55 ZV rfl (by decide) e62 fun u60 w a hM hE=>Zf hE rfl (Y2) ?_; intro a hE
     have hM:=hM.pull2
     refine Zl (seg:=[u60]) hE hM Za rfl rfl (Z6 (hM.sl (pre:=[_]) noB)) Tr rfl (YL (pre:=[[(ux5 2)],[vI p0.Next]]) ck rfl) (Rep.cell (hM.sl (pre:=[_]) noB)) (ZR (pre:=[[(ux5 2)],[vI p0.Next]]) ck rfl) fun w a hM hE=>Zg (Yb (Zt (wp_region_lit (Zh hE rfl rfl rfl fun a hE=>Zd hE rfl fun a hE=>Zg (Zk ?_)))))
     have hM:=M.fst (l:=[_,_,_,_,_]) hM.pull1.pull5.pull5.pull5.pull4
     exact ⟨_,(ois hF43),u60,hE.sub ⟨rfl,rfl,rfl,rfl,rfl,trivial⟩,hM⟩
   ·intro hb28
    have hs24:=Zx hs24 hb28
    refine wp_exit (Zn (Zn (Yd ?_)))
    obtain rfl:=hx25 _ (ois hs24)
    refine Zk ?_
    exact ⟨u22,hE.sub ⟨rfl,rfl,trivial⟩,hM⟩
  ·skip
   rintro a w ⟨u19,hE,hM⟩
   refine Zt (Zb (Zm hE rfl Yn rfl hM.rawAt0 cq ?_)); intro a hE
   have hM:=hM.pull1
   refine Zl (seg:=cat [[(ux5 2)],[vI p0.Next],[u19],[(ux5 7)],enc p0.Head]) (cs':=cat [[(ux5 2)],[vI p0.Next],[u19],[(ux5 7)],enc p0.Head]) hE hM Za rfl rfl rfl Yn cq (Nat.le_of_eq ((Nat.zero_add _).trans (Eq.trans cq (Eq.symm cq)))) (Z1 (cc1 (Rep.cell (hM.sl (pre:=[_,_]) noB)) (cc1 (Flat.cell (p0.Next : Int)) (cc1 (Rep.cell (hM.sl (pre:=[_,_,_,_]) noB)) (cc1 (Rep.cell (hM.sl (pre:=[_,_,_]) noB)) (cc1 (Flat.cell _) cc0)))))) (Zi (Eq.trans cq (Eq.symm cq))) fun w a hM hE=>Ze ?_
   obtain rfl:=Option.some.inj hF18
   have hq64 : Yw Tryz.prog _ _ (.cell 2 58) _:=ZI hE rfl Yn rfl hM.rawAt0 cq rfl
   have hM:=M.fst (l:=[_,_,_]) hM.pull3.pull4.pull4
   exact wp_ret (ZJ hE rfl hq64 ⟨_,rfl,(ux5 2),u19,(ux5 7),rfl,hM.outF (Yi (Yi (Yi YO))),hM.kept⟩)
def UR (p1 : UInt8) (s6 : (Vector UInt8 16) × Int) : Option (Fl ((Vector UInt8 16) × Int) (Vector UInt8 16)) :=
 if (decide (s6.2 < 16)) = true then ((ZH s6.1 s6.2).bind fun x12=>(ZH s6.1 s6.2).bind fun x15=>some (Fl.nx ((s6.1.setIfInBounds (s6.2).toNat (x12 ^^^ p1)),wr (s6.2 + 1)))) else (some (Fl.ex s6.1))
def XK (p0 : (Vector UInt8 16)) (p1 : UInt8) : Option ((List UInt8)) :=
 (ZB (UR p1) (p0,0)).bind fun j3=>(slc j3.toList (0 : Int) (16 : Int)).bind fun l18=>some l18
theorem QA (w0 : World) (p0 : (Vector UInt8 16)) (p1 : UInt8) (r : (List UInt8)) (hF : XK p0 p1 = some r) :
  Calls Tryz.prog 164 [(Value.agg (enc p0).toArray),vB p1].toArray w0 (fun en w'=>∃ v,en = .returned v ∧ (∃ (y1 : Value),v = y1 ∧ Fr w0 w' [osl NoB (r : List UInt8) y1] ∧ Kept (Old w0) w0 w')):=by
 refine ce Tryz.func164 ?_
 intro a hE
 have hM:=M.start w0
 unfold XK at hF
 refine Zb (ZK (cs:=enc p0) hE hM Za ld rfl rfl fun b1 w a hM hE=>Zc hE rfl fun a hE=>Ze (wp_seq (Zb (Zd hE rfl fun a hE=>Ze ?_))))
 obtain ⟨j3,hl4,hF5⟩:=bind_some hF
 refine ZM (fun a w=>Env 17 a [(2,(ptr b1 0))] ∧ M (Old w0) w0 w [raw b1 (enc j3)]) ?_ ?_
 ·skip
  refine wp_block ?_
  refine ZE (fun (s6 : (Vector UInt8 16) × Int) a w=>Env 17 a [(1,vB p1),(2,(ptr b1 0)),(6,vI s6.2)] ∧ M (Old w0) w0 w [raw b1 (enc s6.1)]) hl4 ⟨hE.sub ⟨rfl,rfl,rfl,trivial⟩,hM⟩ ?_
  rintro s6 a w ⟨hE,hM⟩ o9 hs7 hx8
  unfold UR at hs7
  refine Zb (Zh hE rfl rfl rfl fun a hE=>Ze (wp_seq ?_))
  refine Zo hE rfl ?_ ?_
  ·intro hb10
   have hs7:=Zw hs7 hb10
   refine wp_skip (Zt (wp_seq (wp_block (Zb (Zd hE rfl fun a hE=>Zc hE rfl fun a hE=>Ze (wp_region_lit (Zd hE rfl ?_))))))); intro a hE
   obtain ⟨x12,hi11,hs7⟩:=bvx hs7
   refine ZD hE rfl rfl Tryz.underlying68 ty5 hi11.1 fun a hE=>Zy (v:=(vB x12)) hE rfl ty5 rfl (At.vec hM.rawAt0 hi11.2) fun a hE=>Zd hE rfl fun a hE=>Zh hE rfl rfl (Vu x12 p1) ?_; intro a hE
   obtain ⟨x15,hi14,hs7⟩:=bvx hs7
   refine ZD hE rfl rfl Tryz.underlying68 ty5 hi14.1 fun a hE=>Zl (seg:=[(vB (x12 ^^^ p1))]) (cs':=enc (s6.1.setIfInBounds (s6.2).toNat (x12 ^^^ p1))) hE hM Za rfl rfl rfl ty5 rfl (ZQ (v:=s6.1) (x:=x12 ^^^ p1) hi14.1) (Flat.cell (x12 ^^^ p1 : UInt8)) (ZF (v:=s6.1) (x:=x12 ^^^ p1) hi14.1) fun w a hM hE=>Zg (Yb (Zt (wp_region_lit (Zh hE rfl rfl rfl fun a hE=>Zd hE rfl fun a hE=>Zg (Zk ?_)))))
   exact ⟨_,(ois hs7),hE.sub ⟨rfl,rfl,rfl,trivial⟩,hM⟩
  ·intro hb10
   have hs7:=Zx hs7 hb10
   refine wp_exit (Zn (Zn (Yd ?_)))
   obtain rfl:=hx8 _ (ois hs7)
   refine Zk ?_
   exact ⟨hE.sub ⟨rfl,trivial⟩,hM⟩
 ·skip
  rintro a w ⟨hE,hM⟩
  refine Zt (Zb ?_)
  obtain ⟨l18,e19,hF5⟩:=bind_some hF5
  have hb20:=Ql e19 -- ^
  refine WQ (N:=16) hE Za ld rfl rfl rfl rfl rfl Tryz.underlying68 ty5 hb20 fun a hE=>Zc hE rfl fun a hE=>Ze ?_
  have hM:=(M.rawOsl hM).cut noB e19
  obtain rfl:=Option.some.inj hF5
  exact wp_ret (ZJ hE rfl (ZP hE rfl) ⟨_,rfl,(Yc (.slice (some ⟨b1,0,none⟩) 16 16) ((0 : Int)).toNat ((16 : Int)).toNat 1),rfl,hM.outF (Yi YO),hM.kept⟩)
def V5 (p0 : Int) (s8 : (List UInt8) × Int) : Option (Fl ((List UInt8) × Int) (List UInt8)) :=
 if (decide (s8.2 ≥ 0)) = true then ((We (wr (8 * s8.2))).bind fun _=>(app 1 s8.1 ([Zp (VA p0 (wr (8 * s8.2)))] : List UInt8)).bind fun l18=>some (Fl.nx ((s8.1 ++ ([Zp (VA p0 (wr (8 * s8.2)))] : List UInt8)),wr (s8.2 - 1)))) else (some (Fl.ex s8.1))
def YU (p0 : Int) (p1 : Int) : Option ((List UInt8)) :=
 (ZB (V5 p0) (([] : List UInt8),wr (p1 - 1))).bind fun j3=>some j3
theorem QR (w0 : World) (p0 : Int) (p1 : Int) (r : (List UInt8)) (hF : YU p0 p1 = some r) :
  Calls Tryz.prog 166 [vI p0,vI p1].toArray w0 (fun en w'=>∃ v,en = .returned v ∧ (∃ (y1 : Value),v = y1 ∧ Fr w0 w' [osl NoB (r : List UInt8) y1] ∧ Kept (Old w0) w0 w')):=by
 refine ce Tryz.func166 ?_
 intro a hE
 have hM:=M.start w0
 unfold YU at hF
 refine Zb (Zc hE rfl fun a hE=>Ze (Zb (ZW (xs:=[]) (l:=([] : List UInt8)) (vs:=[]) hE hM Za ld rfl rfl Tryz.underlying40 ty5 rfl (by decide) rfl fun u1 w a hM hE=>Zc hE rfl fun a hE=>Ze (wp_seq (Zb (Zd hE rfl fun a hE=>Zh hE rfl rfl rfl fun a hE=>Zc hE rfl fun a hE=>Ze ?_))))))
 obtain ⟨j3,hl4,hF5⟩:=bind_some hF
 refine ZM (fun a w=>∃ (u6 : Value),Env 23 a [(5,u6)] ∧ M (Old w0) w0 w [osl NoB (j3 : List UInt8) u6]) ?_ ?_
 ·skip
  refine wp_block ?_
  refine ZE (fun (s8 : (List UInt8) × Int) a w=>∃ (u9 : Value),Env 23 a [(0,vI p0),(5,u9),(6,vI s8.2)] ∧ M (Old w0) w0 w [osl NoB (s8.1 : List UInt8) u9]) hl4 ⟨u1,hE.sub ⟨rfl,rfl,rfl,trivial⟩,hM⟩ ?_
  rintro s8 a w ⟨u9,hE,hM⟩ o13 hs11 hx12
  unfold V5 at hs11
  refine wp_seq (Zb (Zd hE rfl fun a hE=>Zh hE rfl rfl rfl fun a hE=>Ze ?_))
  refine Zo hE rfl ?_ ?_
  ·intro hb14
   have hs11:=Zw hs11 hb14
   refine wp_skip (Zt (wp_seq (wp_block (wp_region_lit (Zd hE rfl fun a hE=>Zd hE rfl fun a hE=>Zd hE rfl fun a hE=>Zh hE rfl rfl rfl ?_))))); intro a hE
   obtain ⟨_,e15,hs11⟩:=bind_some hs11
   have e15:=V4 e15
   refine BC hE Za ld rfl rfl (JS _ _ e15) fun a hE=>Yg hE Za ld rfl Tryz.underlying2 Tryz.underlying5 fun a hE=>ZW (xs:=[.tmp 19]) (l:=([Zp (VA p0 (wr (8 * s8.2)))] : List UInt8)) (vs:=[(vB (Zp (VA p0 (wr (8 * s8.2)))))]) hE hM Za ld rfl rfl Tryz.underlying40 ty5 rfl (by decide) rfl ?_; intro u16 w a hM hE
   obtain ⟨l18,e19,hs11⟩:=bind_some hs11
   obtain ⟨e22,rfl⟩:=Z8 e19
   have hM:=hM.pull1
   refine ZY hE hM Za ld rfl rfl (hM.sl (pre:=[_]) noB) Tryz.underlying40 ty5 rfl (by decide) e22 fun u20 w a hM hE=>Zc hE rfl fun a hE=>Zg (Yb (Zt (wp_region_lit (Zd hE rfl fun a hE=>Zh hE rfl rfl rfl fun a hE=>Zc hE rfl fun a hE=>Zg (Zk ?_)))))
   have hM:=M.fst (l:=[_]) hM
   exact ⟨_,(ois hs11),u20,hE.sub ⟨rfl,rfl,rfl,trivial⟩,hM⟩
  ·intro hb14
   have hs11:=Zx hs11 hb14
   refine wp_exit (Zn (Zn (Yd ?_)))
   obtain rfl:=hx12 _ (ois hs11)
   refine Zk ?_
   exact ⟨u9,hE.sub ⟨rfl,trivial⟩,hM⟩
 ·skip
  rintro a w ⟨u6,hE,hM⟩
  refine Zt (Zb (Zd hE rfl fun a hE=>Zc hE rfl fun a hE=>Ze ?_))
  obtain rfl:=Option.some.inj hF5
  exact wp_ret (ZJ hE rfl (ZP hE rfl) ⟨_,rfl,u6,rfl,hM.outF (Yi YO),hM.kept⟩)
def YY (p1 : Int) : Option ((List UInt8)) :=
 (if (decide (p1 < 0)) = true then (none) else (some ()) : Option (Unit)).bind fun j1=>(if (decide ((wr (p1 - (wr (0 - 0)))) > 0)) = true then ((mkS 1 (0 : UInt8) (wr (p1 - (wr (0 - 0))))).bind fun l14=>(slc l14 (0 : Int) (0 : Int)).bind fun l16=>some l16) else (some ([])) : Option ((List UInt8))).bind fun j6=>some j6
theorem Kj (w0 : World) (p1 : Int) (r : (List UInt8)) (hF : YY p1 = some r) :
  Calls Tryz.prog 181 [(Value.slice none 0 0),vI p1].toArray w0 (fun en w'=>∃ v,en = .returned v ∧ (∃ (y1 : Value),v = y1 ∧ Fr w0 w' [osl NoB (r : List UInt8) y1] ∧ Kept (Old w0) w0 w')):=by
 refine ce Tryz.func181 ?_
 intro a hE
 have hM:=M.start w0
 unfold YY at hF
 refine Zb (Zc hE rfl fun a hE=>Ze ?_)
 obtain ⟨j1,hl2,hF3⟩:=bind_some hF
 refine ZO (fun a w=>Env 27 a [(0,(Value.slice none 0 0)),(1,vI p1)] ∧ M (Old w0) w0 w []) ?_ ?_
 ·skip
  refine Zb (Zd hE rfl fun a hE=>Zh hE rfl rfl rfl fun a hE=>Ze ?_)
  refine Zo hE rfl ?_ ?_
  ·intro hb4
   have hl2:=Zw hl2 hb4
   cases hl2
  ·intro hb4
   have hl2:=Zx hl2 hb4
   refine wp_skip ?_
   obtain rfl:=Option.some.inj hl2
   refine Zk ?_
   exact ⟨hE.sub ⟨rfl,rfl,trivial⟩,hM⟩
 ·skip
  rintro a w ⟨hE,hM⟩
  obtain ⟨j6,hl7,hF8⟩:=bind_some hF3
  refine ZO (fun a w=>∃ (u9 : Value),Env 27 a [(0,u9)] ∧ M (Old w0) w0 w [osl NoB (j6 : List UInt8) u9]) ?_ ?_
  ·skip
   refine Zb (Zd hE rfl fun a hE=>Zd hE rfl fun a hE=>jU hE Za ld rfl Tryz.underlying40 fun a hE=>Zd hE rfl fun a hE=>kA hE Za ld rfl Tryz.underlying40 fun a hE=>Zh hE rfl rfl rfl fun a hE=>Zh hE rfl rfl rfl fun a hE=>Zc hE rfl fun a hE=>Ze (Zb (Zd hE rfl fun a hE=>Zh hE rfl rfl rfl fun a hE=>Ze ?_)))
   refine Zo hE rfl ?_ ?_
   ·intro hb11
    have hl7:=Zw hl7 hb11
    refine wp_region_lit (Zd hE rfl fun a hE=>Zd hE rfl fun a hE=>jU hE Za ld rfl Tryz.underlying40 fun a hE=>qx hE Za ld rfl rfl Tryz.underlying40 ty5 fun a hE=>Zd hE rfl ?_); intro a hE
    obtain ⟨l14,e15,hl7⟩:=bind_some hl7
    refine Za4 hE hM Za ld rfl rfl Tryz.underlying40 Tryz.underlying3 ty5 rfl (by decide) (by decide) (fun _=>Qa.2 ⟨rfl,rfl⟩) e15 fun u12 w a hM hE=>Zd hE rfl fun a hE=>kA hE Za ld rfl Tryz.underlying40 ?_; intro a hE
    obtain ⟨l16,e17,hl7⟩:=bind_some hl7
    refine Bp hE Za ld rfl rfl rfl rfl rfl Tryz.underlying40 ty5 (hM.sl (pre:=[]) noB) e17 ?_; intro a hE
    have hM:=hM.cut noB e17
    refine Zc hE rfl fun a hE=>Zg ?_
    obtain rfl:=Option.some.inj hl7
    refine Zk ?_
    exact ⟨(Yc u12 ((0 : Int)).toNat ((0 : Int)).toNat 1),hE.sub ⟨rfl,trivial⟩,hM⟩
   ·intro hb11
    have hl7:=Zx hl7 hb11
    refine wp_skip ?_
    obtain rfl:=Option.some.inj hl7
    refine Zk ?_
    have hM:=M.nilS (α:=UInt8) NoB noB hM
    exact ⟨(Value.slice none 0 0),hE.sub ⟨rfl,trivial⟩,hM⟩
  ·skip
   rintro a w ⟨u9,hE,hM⟩
   refine Zb (Zd hE rfl fun a hE=>Zc hE rfl fun a hE=>Ze ?_)
   obtain rfl:=Option.some.inj hF8
   exact wp_ret (ZJ hE rfl (ZP hE rfl) ⟨_,rfl,u9,rfl,hM.outF (Yi YO),hM.kept⟩)
def XL (p0 : (List (List UInt8))) (s4 : Int × Int) : Option (Fl (Int × Int) Int) :=
 if (decide (s4.1 < (p0.length : Int))) = true then (((idx p0 s4.1).bind fun x12=>(if (decide ((wr (s4.2 + (x12.length : Int))) < 0)) = true then (none) else (some ()) : Option (Unit)).bind fun j20=>some (wr (s4.2 + (x12.length : Int))) : Option (Int)).bind fun j9=>some (Fl.nx (wr (s4.1 + 1),j9))) else (some (Fl.ex s4.2))
def XJ (p0 : (List (List UInt8))) (s35 : Int × (List UInt8)) : Option (Fl (Int × (List UInt8)) (List UInt8)) :=
 if (decide (s35.1 < (p0.length : Int))) = true then ((idx p0 s35.1).bind fun x42=>(app 1 s35.2 x42).bind fun l50=>some (Fl.nx (wr (s35.1 + 1),(s35.2 ++ x42)))) else (some (Fl.ex s35.2))
def Ya (p0 : (List (List UInt8))) : Option ((List UInt8)) :=
 (ZB (XL p0) (0,0)).bind fun j1=>(YY j1).bind fun r27=>(ZB (XJ p0) (0,r27)).bind fun j30=>some j30
theorem Vy (w0 : World) (p0 : (List (List UInt8))) (v0_1 : Value) (hv0_1 : Ro w0 p0 [v0_1]) (r : (List UInt8)) (hF : Ya p0 = some r) :
  Calls Tryz.prog 133 [v0_1].toArray w0 (fun en w'=>∃ v,en = .returned v ∧ (∃ (y1 : Value),v = y1 ∧ Fr w0 w' [osl NoB (r : List UInt8) y1] ∧ Kept (Old w0) w0 w')):=by
 refine ce Tryz.func133 ?_
 intro a hE
 have hM:=M.start w0
 unfold Ya at hF
 refine Zb (Zc hE rfl fun a hE=>Ze (Zb (Zc hE rfl fun a hE=>Ze (wp_seq (Zb (Zd hE rfl fun a hE=>Yf hE rfl Tryz.underlying23 (hM.rd hv0_1) fun a hE=>Zd hE rfl fun a hE=>Ze ?_))))))
 obtain ⟨j1,hl2,hF3⟩:=bind_some hF
 refine ZM (fun a w=>Env 36 a [(0,v0_1),(3,vI j1)] ∧ M (Old w0) w0 w []) ?_ ?_
 ·skip
  refine wp_block ?_
  refine ZE (fun (s4 : Int × Int) a w=>Env 36 a [(0,v0_1),(3,vI s4.2),(9,v0_1),(10,(vI (p0.length : Int))),(11,vI s4.1)] ∧ M (Old w0) w0 w []) hl2 ⟨hE.sub ⟨rfl,rfl,rfl,rfl,rfl,trivial⟩,hM⟩ ?_
  rintro s4 a w ⟨hE,hM⟩ o7 hs5 hx6
  unfold XL at hs5
  refine Zb (Zh hE rfl rfl rfl fun a hE=>Ze (wp_seq ?_))
  refine Zo hE rfl ?_ ?_
  ·intro hb8
   have hs5:=Zw hs5 hb8
   refine wp_skip (Zt ?_)
   obtain ⟨j9,hl10,hF11⟩:=bind_some hs5
   refine ZO (fun a w=>Env 36 a [(0,v0_1),(3,vI j9),(9,v0_1),(10,(vI (p0.length : Int))),(11,vI s4.1)] ∧ M (Old w0) w0 w []) ?_ ?_
   ·skip
    refine wp_block (Zb ?_)
    obtain ⟨x12,hi14,hl10⟩:=bix hl10
    refine ZL hE rfl rfl Tryz.underlying23 Wh (hM.rd hv0_1) hi14.1 ?_; intro a hE
    obtain ⟨cs15,hs16,hA17⟩:=Xj hv0_1 hi14.2 -- ^
    obtain ⟨u18,rfl⟩:=Q3 hs16 -- ^
    have h19:=hs16 -- ^
    refine Zy (v:=u18) hE rfl Wh rfl (hM.atk hA17 (Wu hv0_1 hi14.2)) fun a hE=>Zc hE rfl fun a hE=>Ze (Zb (Zd hE rfl fun a hE=>Zd hE rfl fun a hE=>Yf hE rfl Tryz.underlying40 (hM.rd h19) fun a hE=>Zh hE rfl rfl rfl fun a hE=>Zc hE rfl fun a hE=>Ze (Zb (Zd hE rfl fun a hE=>Zh hE rfl rfl rfl fun a hE=>Ze ?_))))
    obtain ⟨j20,hl21,hF22⟩:=bind_some hl10
    refine ZM (fun a w=>Env 36 a [(0,v0_1),(3,(vI (wr (s4.2 + (x12.length : Int))))),(9,v0_1),(10,(vI (p0.length : Int))),(11,vI s4.1)] ∧ M (Old w0) w0 w []) ?_ ?_
    ·skip
     refine Zo hE rfl ?_ ?_
     ·intro hb23
      have hl21:=Zw hl21 hb23
      cases hl21
     ·intro hb23
      have hl21:=Zx hl21 hb23
      refine wp_skip ?_
      obtain rfl:=Option.some.inj hl21
      refine Zk ?_
      exact ⟨hE.sub ⟨rfl,rfl,rfl,rfl,rfl,trivial⟩,hM⟩
    ·skip
     rintro a w ⟨hE,hM⟩
     refine Yb ?_
     obtain rfl:=Option.some.inj hF22
     refine Zk ?_
     exact ⟨hE.sub ⟨rfl,rfl,rfl,rfl,rfl,trivial⟩,hM⟩
   ·skip
    rintro a w ⟨hE,hM⟩
    refine wp_region_lit (Zh hE rfl rfl rfl fun a hE=>Zd hE rfl fun a hE=>Zg (Zk ?_))
    exact ⟨_,(ois hF11),hE.sub ⟨rfl,rfl,rfl,rfl,rfl,trivial⟩,hM⟩
  ·intro hb8
   have hs5:=Zx hs5 hb8
   refine wp_exit (Zn (Zn (Yd ?_)))
   obtain rfl:=hx6 _ (ois hs5)
   refine Zk ?_
   exact ⟨hE.sub ⟨rfl,rfl,trivial⟩,hM⟩
 ·skip
  rintro a w ⟨hE,hM⟩
  refine Zt (Zb (Zd hE rfl ?_)); intro a hE
  obtain ⟨r27,e28,hF3⟩:=bind_some hF3
  refine Zv hE rfl (cbm Tryz.func181) (Kj _ j1 r27 e28) ?_
  rintro u29 w a ⟨_,rfl,hFr,hK⟩ hE
  have hM:=hM.add hK hFr
  refine Zc hE rfl fun a hE=>Ze (wp_seq (Zb (Zd hE rfl fun a hE=>Yf hE rfl Tryz.underlying23 (hM.rd hv0_1) fun a hE=>Zd hE rfl fun a hE=>Ze ?_)))
  obtain ⟨j30,hl31,hF32⟩:=bind_some hF3
  refine ZM (fun a w=>∃ (u33 : Value),Env 36 a [(6,u33)] ∧ M (Old w0) w0 w [osl NoB (j30 : List UInt8) u33]) ?_ ?_
  ·skip
   refine wp_block ?_
   refine ZE (fun (s35 : Int × (List UInt8)) a w=>∃ (u36 : Value),Env 36 a [(6,u36),(25,v0_1),(26,(vI (p0.length : Int))),(27,vI s35.1)] ∧ M (Old w0) w0 w [osl NoB (s35.2 : List UInt8) u36]) hl31 ⟨u29,hE.sub ⟨rfl,rfl,rfl,rfl,trivial⟩,hM⟩ ?_
   rintro s35 a w ⟨u36,hE,hM⟩ o40 hs38 hx39
   unfold XJ at hs38
   refine Zb (Zh hE rfl rfl rfl fun a hE=>Ze (wp_seq ?_))
   refine Zo hE rfl ?_ ?_
   ·intro hb41
    have hs38:=Zw hs38 hb41
    refine wp_skip (Zt (wp_seq (wp_block (Zb ?_))))
    obtain ⟨x42,hi44,hs38⟩:=bix hs38
    refine ZL hE rfl rfl Tryz.underlying23 Wh (hM.rd hv0_1) hi44.1 ?_; intro a hE
    obtain ⟨cs45,hs46,hA47⟩:=Xj hv0_1 hi44.2 -- ^
    obtain ⟨u48,rfl⟩:=Q3 hs46 -- ^
    have h49:=hs46 -- ^
    refine Zy (v:=u48) hE rfl Wh rfl (hM.atk hA47 (Wu hv0_1 hi44.2)) fun a hE=>Zc hE rfl fun a hE=>Ze (wp_region_lit (Zd hE rfl fun a hE=>Zd hE rfl ?_)); intro a hE
    obtain ⟨l50,e51,hs38⟩:=bind_some hs38
    obtain ⟨e54,rfl⟩:=Z8 e51
    refine ZY hE hM Za ld rfl rfl (hM.rd h49) Tryz.underlying40 ty5 rfl (by decide) e54 fun u52 w a hM hE=>Zc hE rfl fun a hE=>Zg (Yb (Zt (wp_region_lit (Zh hE rfl rfl rfl fun a hE=>Zd hE rfl fun a hE=>Zg (Zk ?_)))))
    exact ⟨_,(ois hs38),u52,hE.sub ⟨rfl,rfl,rfl,rfl,trivial⟩,hM⟩
   ·intro hb41
    have hs38:=Zx hs38 hb41
    refine wp_exit (Zn (Zn (Yd ?_)))
    obtain rfl:=hx39 _ (ois hs38)
    refine Zk ?_
    exact ⟨u36,hE.sub ⟨rfl,trivial⟩,hM⟩
  ·skip
   rintro a w ⟨u33,hE,hM⟩
   refine Zt (Zb (Zd hE rfl fun a hE=>Zc hE rfl fun a hE=>Ze ?_))
   obtain rfl:=Option.some.inj hF32
   exact wp_ret (ZJ hE rfl (ZP hE rfl) ⟨_,rfl,u33,rfl,hM.outF (Yi YO),hM.kept⟩)
def Xm (s8 : (Vector UInt8 32) × Int) : Option (Fl ((Vector UInt8 32) × Int) (Vector UInt8 32)) :=
 if (decide (s8.2 < 32)) = true then ((ZH s8.1 s8.2).bind fun x14=>some (Fl.nx ((s8.1.setIfInBounds (s8.2).toNat (Zp (wr (17 * s8.2)))),wr (s8.2 + 1)))) else (some (Fl.ex s8.1))
def Wn : Option ((Vector UInt8 32)) :=
 (ZB (Xm) ((Vector.replicate 32 (0 : UInt8)),0)).bind fun j5=>some j5
theorem JO (w0 : World)  (r : (Vector UInt8 32)) (hF : Wn  = some r) :
  Calls Tryz.prog 130 [].toArray w0 (Rt w0 (Value.agg (enc r).toArray)):=by
 refine ce Tryz.func130 ?_
 intro a hE
 have hM:=M.start w0
 unfold Wn at hF
 refine Zb (Zz hE hM Ye fun b1 w a hM hE=>Ze (Zb (Wl (parts:=[]) (vs:=[]) (cs:=enc (Vector.replicate 32 (0 : UInt8))) hE Za ld rfl rfl Ye rfl ty5 XA fun a hE=>Zz hE hM Ye fun b3 w a hM hE=>Zl (seg:=enc (Vector.replicate 32 (0 : UInt8))) (cs':=enc (Vector.replicate 32 (0 : UInt8))) hE hM Za rfl rfl rfl Ye (Flat.len _) (zle flq) (Flat.cell _) (Zi flq) fun w a hM hE=>Ze (wp_seq (Zb (Zd hE rfl fun a hE=>Ze ?_))))))
 obtain ⟨j5,hl6,hF7⟩:=bind_some hF
 refine ZM (fun a w=>Env 14 a [(0,(ptr b1 0)),(1,(ptr b3 0))] ∧ M (Old w0) w0 w [raw b3 (enc j5),raw b1 (enc (Vector.replicate 32 (0 : UInt8)))]) ?_ ?_
 ·skip
  refine wp_block ?_
  refine ZE (fun (s8 : (Vector UInt8 32) × Int) a w=>Env 14 a [(0,(ptr b1 0)),(1,(ptr b3 0)),(4,vI s8.2)] ∧ M (Old w0) w0 w [raw b3 (enc s8.1),raw b1 (enc (Vector.replicate 32 (0 : UInt8)))]) hl6 ⟨hE.sub ⟨rfl,rfl,rfl,trivial⟩,hM⟩ ?_
  rintro s8 a w ⟨hE,hM⟩ o11 hs9 hx10
  unfold Xm at hs9
  refine Zb (Zh hE rfl rfl rfl fun a hE=>Ze (wp_seq ?_))
  refine Zo hE rfl ?_ ?_
  ·intro hb12
   have hs9:=Zw hs9 hb12
   refine wp_skip (Zt (wp_seq (wp_block (Zb (Zd hE rfl fun a hE=>Zc hE rfl fun a hE=>Ze (wp_region_lit (Zd hE rfl fun a hE=>Zd hE rfl fun a hE=>Zh hE rfl rfl rfl fun a hE=>Yg hE Za ld rfl Tryz.underlying3 Tryz.underlying5 ?_))))))); intro a hE
   obtain ⟨x14,hi13,hs9⟩:=bvx hs9
   refine ZD hE rfl rfl Tryz.underlying35 ty5 hi13.1 fun a hE=>Zl (seg:=[(vB (Zp (wr (17 * s8.2))))]) (cs':=enc (s8.1.setIfInBounds (s8.2).toNat (Zp (wr (17 * s8.2))))) hE hM Za rfl rfl rfl ty5 rfl (ZQ (v:=s8.1) (x:=Zp (wr (17 * s8.2))) hi13.1) (Flat.cell (Zp (wr (17 * s8.2)) : UInt8)) (ZF (v:=s8.1) (x:=Zp (wr (17 * s8.2))) hi13.1) fun w a hM hE=>Zg (Yb (Zt (wp_region_lit (Zh hE rfl rfl rfl fun a hE=>Zd hE rfl fun a hE=>Zg (Zk ?_)))))
   exact ⟨_,(ois hs9),hE.sub ⟨rfl,rfl,rfl,trivial⟩,hM⟩
  ·intro hb12
   have hs9:=Zx hs9 hb12
   refine wp_exit (Zn (Zn (Yd ?_)))
   obtain rfl:=hx10 _ (ois hs9)
   refine Zk ?_
   exact ⟨hE.sub ⟨rfl,rfl,trivial⟩,hM⟩
 ·skip
  rintro a w ⟨hE,hM⟩
  refine Zt (Zb (Zm hE rfl Ye rfl hM.rawAt0 (Flat.len _) ?_)); intro a hE
  have hM:=hM.pull1
  refine Zl (seg:=enc j5) (cs':=enc j5) hE hM Za rfl rfl rfl Ye (Flat.len _) (zle flq) (Flat.cell _) (Zi flq) fun w a hM hE=>Ze ?_
  obtain rfl:=Option.some.inj hF7
  have hq17 : Yw Tryz.prog _ _ (.cell 0 35) _:=ZI hE rfl Ye rfl hM.rawAt0 (Flat.len _) rfl
  exact wp_ret (ZJ hE rfl hq17 ⟨_,rfl,rfl,hM.kept⟩)
def UN (s16 : (List UInt8)) : Option (Fl (List UInt8) (List UInt8)) :=
 if ((Int.tmod (s16.length : Int) 16) != 8) = true then ((app 1 s16 ([0] : List UInt8)).bind fun l25=>some (Fl.nx (s16 ++ ([0] : List UInt8)))) else (some (Fl.ex s16))
def VU (p0 : (List UInt8)) : Option ((List UInt8)) :=
 (ZZ p0).bind fun r1=>(app 1 r1 ([128] : List UInt8)).bind fun l6=>(ZB (UN) (r1 ++ ([128] : List UInt8))).bind fun j11=>(YU (p0.length : Int) 8).bind fun r31=>(app 1 j11 r31).bind fun l34=>some (j11 ++ r31)
theorem Be (w0 : World) (p0 : (List UInt8)) (v0_1 : Value) (hv0_1 : Ro w0 p0 [v0_1]) (r : (List UInt8)) (hF : VU p0 = some r) :
  Calls Tryz.prog 132 [v0_1].toArray w0 (fun en w'=>∃ v,en = .returned v ∧ (∃ (y1 : Value),v = y1 ∧ Fr w0 w' [osl NoB (r : List UInt8) y1] ∧ Kept (Old w0) w0 w')):=by
 refine ce Tryz.func132 ?_
 intro a hE
 have hM:=M.start w0
 unfold VU at hF
 refine Zb (Zc hE rfl fun a hE=>Ze (Zb (Zd hE rfl ?_))); intro a hE
 obtain ⟨r1,e2,hF⟩:=bind_some hF
 refine Zv hE rfl cb75 (Xq _ p0 v0_1 (hM.rdo hv0_1) r1 e2) ?_
 rintro u3 w a ⟨_,rfl,hFr,hK⟩ hE
 have hM:=hM.add hK hFr
 refine ZW (xs:=[.const (vB 128)]) (l:=([128] : List UInt8)) (vs:=[vB 128]) hE hM Za ld rfl rfl Tryz.underlying40 ty5 rfl (by decide) rfl ?_; intro u4 w a hM hE
 obtain ⟨l6,e7,hF⟩:=bind_some hF
 obtain ⟨e10,rfl⟩:=Z8 e7
 have hM:=hM.pull1
 refine ZY hE hM Za ld rfl rfl (hM.sl (pre:=[_]) noB) Tryz.underlying40 ty5 rfl (by decide) e10 fun u8 w a hM hE=>Zc hE rfl fun a hE=>Ze ?_
 obtain ⟨j11,hl12,hF13⟩:=bind_some hF
 refine ZO (fun a w=>∃ (u14 : Value),Env 20 a [(0,v0_1),(3,u14)] ∧ M (Old w0) w0 w [osl NoB (j11 : List UInt8) u14]) ?_ ?_
 ·skip
  refine wp_block ?_
  have hM:=M.fst (l:=[_]) hM
  refine ZE (fun (s16 : (List UInt8)) a w=>∃ (u17 : Value),Env 20 a [(0,v0_1),(3,u17)] ∧ M (Old w0) w0 w [osl NoB (s16 : List UInt8) u17]) hl12 ⟨u8,hE.sub ⟨rfl,rfl,trivial⟩,hM⟩ ?_
  rintro s16 a w ⟨u17,hE,hM⟩ o21 hs19 hx20
  unfold UN at hs19
  refine wp_seq (Zb (Zd hE rfl fun a hE=>Yf hE rfl Tryz.underlying40 (hM.sl (pre:=[]) noB) fun a hE=>Zh hE rfl rfl (Ku _ _ (by decide)) fun a hE=>Zh hE rfl rfl rfl fun a hE=>Ze ?_))
  refine Zo hE rfl ?_ ?_
  ·intro hb22
   have hs19:=Zw hs19 hb22
   refine wp_skip (Zt (wp_block (wp_region_lit (Zd hE rfl fun a hE=>ZW (xs:=[.const (vB 0)]) (l:=([0] : List UInt8)) (vs:=[vB 0]) hE hM Za ld rfl rfl Tryz.underlying40 ty5 rfl (by decide) rfl ?_)))); intro u23 w a hM hE
   obtain ⟨l25,e26,hs19⟩:=bind_some hs19
   obtain ⟨e29,rfl⟩:=Z8 e26
   have hM:=hM.pull1
   refine ZY hE hM Za ld rfl rfl (hM.sl (pre:=[_]) noB) Tryz.underlying40 ty5 rfl (by decide) e29 fun u27 w a hM hE=>Zc hE rfl fun a hE=>Zg (Yb (Zk ?_))
   have hM:=M.fst (l:=[_]) hM
   exact ⟨_,(ois hs19),u27,hE.sub ⟨rfl,rfl,trivial⟩,hM⟩
  ·intro hb22
   have hs19:=Zx hs19 hb22
   refine wp_exit (Zn (Zn (Yd ?_)))
   obtain rfl:=hx20 _ (ois hs19)
   refine Zk ?_
   exact ⟨u17,hE.sub ⟨rfl,rfl,trivial⟩,hM⟩
 ·skip
  rintro a w ⟨u14,hE,hM⟩
  refine Zb (Zd hE rfl fun a hE=>Zd hE rfl fun a hE=>Yf hE rfl Tryz.underlying40 (hM.rd hv0_1) ?_); intro a hE
  obtain ⟨r31,e32,hF13⟩:=bind_some hF13
  refine Zv hE rfl Zct (QR _ (p0.length : Int) 8 r31 e32) ?_
  rintro u33 w a ⟨_,rfl,hFr,hK⟩ hE
  have hM:=hM.add hK hFr
  obtain ⟨l34,e35,hF13⟩:=bind_some hF13
  obtain ⟨e38,rfl⟩:=Z8 e35
  have hM:=hM.pull1
  refine ZY hE hM Za ld rfl rfl (hM.sl (pre:=[_]) noB) Tryz.underlying40 ty5 rfl (by decide) e38 fun u36 w a hM hE=>Zc hE rfl fun a hE=>Ze ?_
  obtain rfl:=Option.some.inj hF13
  have hM:=M.fst (l:=[_]) hM
  exact wp_ret (ZJ hE rfl (ZP hE rfl) ⟨_,rfl,u36,rfl,hM.outF (Yi YO),hM.kept⟩)
def Va (p0 : (List UInt8)) (s8 : (List (Vector UInt8 16)) × Int) : Option (Fl ((List (Vector UInt8 16)) × Int) (List (Vector UInt8 16))) :=
 if (decide (s8.2 < (p0.length : Int))) = true then ((slc p0 s8.2 (wr (s8.2 + 16))).bind fun l15=>(QP 16 l15).bind fun x18=>(app 16 s8.1 ([x18] : List (Vector UInt8 16))).bind fun l22=>some (Fl.nx ((s8.1 ++ ([x18] : List (Vector UInt8 16))),wr (s8.2 + 16)))) else (some (Fl.ex s8.1))
def UY (p0 : (List UInt8)) : Option ((List (Vector UInt8 16))) :=
 (ZB (Va p0) (([] : List (Vector UInt8 16)),0)).bind fun j3=>some j3
theorem Ax (w0 : World) (p0 : (List UInt8)) (v0_1 : Value) (hv0_1 : Ro w0 p0 [v0_1]) (r : (List (Vector UInt8 16))) (hF : UY p0 = some r) :
  Calls Tryz.prog 131 [v0_1].toArray w0 (fun en w'=>∃ v,en = .returned v ∧ (∃ (y1 : Value),v = y1 ∧ Fr w0 w' [osl NoB (r : List (Vector UInt8 16)) y1] ∧ Kept (Old w0) w0 w')):=by
 refine ce Tryz.func131 ?_
 intro a hE
 have hM:=M.start w0
 unfold UY at hF
 refine Zb (Zc hE rfl fun a hE=>Ze (Zb (ZW (xs:=[]) (l:=([] : List (Vector UInt8 16))) (vs:=[]) hE hM Za ld rfl rfl Tryz.underlying54 ZC rfl (by decide) rfl fun u1 w a hM hE=>Zc hE rfl fun a hE=>Ze (wp_seq (Zb (Zc hE rfl fun a hE=>Ze ?_))))))
 obtain ⟨j3,hl4,hF5⟩:=bind_some hF
 refine ZM (fun a w=>∃ (u6 : Value),Env 23 a [(3,u6)] ∧ M (Old w0) w0 w [osl NoB (j3 : List (Vector UInt8 16)) u6]) ?_ ?_
 ·skip
  refine wp_block ?_
  refine ZE (fun (s8 : (List (Vector UInt8 16)) × Int) a w=>∃ (u9 : Value),Env 23 a [(0,v0_1),(3,u9),(4,vI s8.2)] ∧ M (Old w0) w0 w [osl NoB (s8.1 : List (Vector UInt8 16)) u9]) hl4 ⟨u1,hE.sub ⟨rfl,rfl,rfl,trivial⟩,hM⟩ ?_
  rintro s8 a w ⟨u9,hE,hM⟩ o13 hs11 hx12
  unfold Va at hs11
  refine wp_seq (Zb (Zd hE rfl fun a hE=>Zd hE rfl fun a hE=>Yf hE rfl Tryz.underlying40 (hM.rd hv0_1) fun a hE=>Zh hE rfl rfl rfl fun a hE=>Ze ?_))
  refine Zo hE rfl ?_ ?_
  ·intro hb14
   have hs11:=Zw hs11 hb14
   refine wp_skip (Zt (wp_seq (wp_block (wp_region_lit (Zd hE rfl fun a hE=>Zd hE rfl fun a hE=>Zd hE rfl fun a hE=>Zd hE rfl fun a hE=>Zh hE rfl rfl rfl ?_))))); intro a hE
   obtain ⟨l15,e16,hs11⟩:=bind_some hs11
   refine Bp hE Za ld rfl rfl rfl rfl rfl Tryz.underlying40 ty5 (hM.rd hv0_1) e16 ?_; intro a hE
   have h17 : Rep.sat (Old w0) w0 l15 [(Yc v0_1 (s8.2).toNat ((wr (s8.2 + 16))).toNat 1)] []:=Xf hv0_1 e16 -- ^
   obtain ⟨x18,e19,hs11⟩:=bind_some hs11
   refine H3 hE Za ld rfl Tryz.underlying68 (hM.rd h17) (QV e19).1 (by decide) fun a hE=>Zm hE rfl ZC rfl (zG (hM.rd h17) e19 (by decide)) (Flat.len _) fun a hE=>ZW (xs:=[.tmp 19]) (l:=([x18] : List (Vector UInt8 16))) (vs:=[(Value.agg (enc x18).toArray)]) hE hM Za ld rfl rfl Tryz.underlying54 ZC rfl (by decide) rfl ?_; intro u20 w a hM hE
   obtain ⟨l22,e23,hs11⟩:=bind_some hs11
   obtain ⟨e26,rfl⟩:=Z8 e23
   have hM:=hM.pull1
   refine ZY hE hM Za ld rfl rfl (hM.sl (pre:=[_]) noB) Tryz.underlying54 ZC rfl (by decide) e26 fun u24 w a hM hE=>Zc hE rfl fun a hE=>Zg (Yb (Zt (wp_region_lit (Zd hE rfl fun a hE=>Zh hE rfl rfl rfl fun a hE=>Zc hE rfl fun a hE=>Zg (Zk ?_)))))
   have hM:=M.fst (l:=[_]) hM
   exact ⟨_,(ois hs11),u24,hE.sub ⟨rfl,rfl,rfl,trivial⟩,hM⟩
  ·intro hb14
   have hs11:=Zx hs11 hb14
   refine wp_exit (Zn (Zn (Yd ?_)))
   obtain rfl:=hx12 _ (ois hs11)
   refine Zk ?_
   exact ⟨u9,hE.sub ⟨rfl,trivial⟩,hM⟩
 ·skip
  rintro a w ⟨u6,hE,hM⟩
  refine Zt (Zb (Zd hE rfl fun a hE=>Zc hE rfl fun a hE=>Ze ?_))
  obtain rfl:=Option.some.inj hF5
  exact wp_ret (ZJ hE rfl (ZP hE rfl) ⟨_,rfl,u6,rfl,hM.outF (Yi YO),hM.kept⟩)
def WD (p1 : (Vector UInt8 16)) (s10 : (Vector UInt8 16) × Int) : Option (Fl ((Vector UInt8 16) × Int) (Vector UInt8 16)) :=
 if (decide (s10.2 < 16)) = true then ((ZH s10.1 s10.2).bind fun x17=>(ZH p1 s10.2).bind fun x20=>(ZH s10.1 s10.2).bind fun x23=>some (Fl.nx ((s10.1.setIfInBounds (s10.2).toNat (x17 ^^^ x20)),wr (s10.2 + 1)))) else (some (Fl.ex s10.1))
def YK (p0 : (Vector UInt8 16)) (p1 : (Vector UInt8 16)) : Option ((Vector UInt8 16)) :=
 (ZB (WD p1) (p0,0)).bind fun j7=>some j7
theorem W4 (w0 : World) (p0 : (Vector UInt8 16)) (p1 : (Vector UInt8 16)) (r : (Vector UInt8 16)) (hF : YK p0 p1 = some r) :
  Calls Tryz.prog 182 [(Value.agg (enc p0).toArray),(Value.agg (enc p1).toArray)].toArray w0 (Rt w0 (Value.agg (enc r).toArray)):=by
 refine ce Tryz.func182 ?_
 intro a hE
 have hM:=M.start w0
 unfold YK at hF
 refine Zb (ZK (cs:=enc p0) hE hM Za ld rfl rfl fun b1 w a hM hE=>ZK (cs:=enc p1) hE hM Za ld rfl rfl fun b3 w a hM hE=>Zz hE hM ZC fun b5 w a hM hE=>Ze (wp_seq (Zb (Zd hE rfl fun a hE=>Ze ?_))))
 obtain ⟨j7,hl8,hF9⟩:=bind_some hF
 refine ZM (fun a w=>Env 19 a [(2,(ptr b1 0)),(4,(ptr b5 0))] ∧ M (Old w0) w0 w [raw b5 (enc (Vector.replicate 16 (0 : UInt8))),raw b1 (enc j7)]) ?_ ?_
 ·skip
  refine wp_block ?_
  refine ZE (fun (s10 : (Vector UInt8 16) × Int) a w=>Env 19 a [(2,(ptr b1 0)),(3,(ptr b3 0)),(4,(ptr b5 0)),(6,vI s10.2)] ∧ M (Old w0) w0 w [raw b5 (enc (Vector.replicate 16 (0 : UInt8))),raw b3 (enc p1),raw b1 (enc s10.1)]) hl8 ⟨hE.sub ⟨rfl,rfl,rfl,rfl,trivial⟩,hM⟩ ?_
  rintro s10 a w ⟨hE,hM⟩ o13 hs11 hx12
  unfold WD at hs11
  refine Zb (Zh hE rfl rfl rfl fun a hE=>Ze (wp_seq ?_))
  refine Zo hE rfl ?_ ?_
  ·intro hb14
   have hs11:=Zw hs11 hb14
   refine wp_skip (Zt (wp_seq (wp_block (Zb (Zd hE rfl fun a hE=>Zc hE rfl fun a hE=>Ze ?_)))))
   obtain ⟨x17,hi16,hs11⟩:=bvx hs11
   obtain ⟨x20,hi19,hs11⟩:=bvx hs11
   obtain ⟨x23,hi22,hs11⟩:=bvx hs11
   refine Z9 [9,10,11,12,13,14,15,16] YF rfl rfl (by decide) rfl hE hM (qsP (fun z=>Zu z.E Za ld rfl (kr0 rfl)) (qsP (fun z=>ZG z.E Za ld rfl rfl Tryz.underlying68 ty5 hi16.1 (kr0 rfl)) (qsP (fun z=>ZN (v:=(vB x17)) z.E Za ld rfl ty5 rfl (At.vec (z.M.rawAt2) hi16.2) (kr0 rfl)) (qsP (fun z=>Zu z.E Za ld rfl (kr0 rfl)) (qsP (fun z=>ZG z.E Za ld rfl rfl Tryz.underlying68 ty5 hi19.1 (kr0 rfl)) (qsP (fun z=>ZN (v:=(vB x20)) z.E Za ld rfl ty5 rfl (At.vec (z.M.rawAt1) hi19.2) (kr0 rfl)) (qsP (v:=(vB (x17 ^^^ x20))) (fun z=>Yt z.E Za ld rfl rfl (Vu x17 x20) (kr0 rfl)) (qsP (fun z=>ZG z.E Za ld rfl rfl Tryz.underlying68 ty5 hi22.1 (kr0 rfl)) qs0)))))))) ?_
   ·intro a w u hE hM
    have hM:=hM.pull2
    refine Zl (seg:=[(vB (x17 ^^^ x20))]) (cs':=enc (s10.1.setIfInBounds (s10.2).toNat (x17 ^^^ x20))) hE hM Za rfl rfl rfl ty5 rfl (ZQ (v:=s10.1) (x:=x17 ^^^ x20) hi22.1) (Flat.cell (x17 ^^^ x20 : UInt8)) (ZF (v:=s10.1) (x:=x17 ^^^ x20) hi22.1) fun w a hM hE=>Zg (Yb (Zt (wp_region_lit (Zh hE rfl rfl rfl fun a hE=>Zd hE rfl fun a hE=>Zg (Zk ?_)))))
    have hM:=hM.pull2.pull2
    exact ⟨_,(ois hs11),hE.sub ⟨rfl,rfl,rfl,rfl,trivial⟩,hM⟩
  ·intro hb14
   have hs11:=Zx hs11 hb14
   refine wp_exit (Zn (Zn (Yd ?_)))
   obtain rfl:=hx12 _ (ois hs11)
   refine Zk ?_
   have hM:=M.fst (l:=[_,_]) hM.pull2.pull1
   exact ⟨hE.sub ⟨rfl,rfl,trivial⟩,hM⟩
 ·skip
  rintro a w ⟨hE,hM⟩
  refine Zt (Zb (Zm hE rfl ZC rfl hM.rawAt1 (Flat.len _) fun a hE=>Zl (seg:=enc j7) (cs':=enc j7) hE hM Za rfl rfl rfl ZC (Flat.len _) (zle flq) (Flat.cell _) (Zi flq) fun w a hM hE=>Ze ?_))
  obtain rfl:=Option.some.inj hF9
  have hq26 : Yw Tryz.prog _ _ (.cell 4 68) _:=ZI hE rfl ZC rfl hM.rawAt0 (Flat.len _) rfl
  exact wp_ret (ZJ hE rfl hq26 ⟨_,rfl,rfl,hM.kept⟩)
def Xd (p0 : (Ref Gengine)) (s35 : (Vector UInt8 16) × Int) : Option (Fl ((Vector UInt8 16) × Int) (Vector UInt8 16)) :=
 if (decide (s35.2 < 16)) = true then ((ZH s35.1 s35.2).bind fun x42=>(ZH s35.1 (wr (s35.2 - 1))).bind fun x45=>(ZH p0.v.box (bI x45)).bind fun x58=>(ZH s35.1 s35.2).bind fun x61=>some (Fl.nx ((s35.1.setIfInBounds (s35.2).toNat (x42 ^^^ x58)),wr (s35.2 + 1)))) else (some (Fl.ex s35.1))
end

end Go.Proofs.YtpibglnacohdkaaGreat
