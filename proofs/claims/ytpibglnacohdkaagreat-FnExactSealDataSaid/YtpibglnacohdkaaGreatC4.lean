/- The walk of what the law reaches: contracts of functions. -/
import Derived.Test.YtpibglnacohdkaaGreatC3
set_option linter.unusedVariables false
set_option linter.unusedSimpArgs false
set_option maxRecDepth 20000
set_option maxHeartbeats 400000
namespace Go.Proofs.YtpibglnacohdkaaGreat
open Go
open Flat (enc)
noncomputable section
theorem KS (w0 : World) (p0 : GVault) (v0_1 : Value) (hv0_1 : Ro w0 p0.Keys [v0_1]) (v0_2 : Value) (hv0_2 : Ro w0 p0.Records [v0_2]) (v0_3 : Value) (hv0_3 : Ro w0 p0.Events [v0_3]) (p1 : (List UInt8)) (v1_1 : Value) (hv1_1 : Ro w0 p1 [v1_1]) (p2 : (List UInt8)) (v2_1 : Value) (hv2_1 : Ro w0 p2 [v2_1]) (p3 : (Vector UInt8 16)) (r : Bool) (hF : W0 p0 p1 p2 p3 = some r) :
  Calls Tryz.prog 6 [(Value.agg (cat [[v0_1],[vI p0.Next],[v0_2],[v0_3],enc p0.Head]).toArray),v1_1,v2_1,(Value.agg (enc p3).toArray)].toArray w0 (Rt w0 (vT r)):=by
 refine ce Tryz.func6 ?_
 intro a hE
 have hM:=M.start w0
 unfold W0 at hF
 refine Zb (ZO (cs:=cat [[v0_1],[vI p0.Next],[v0_2],[v0_3],enc p0.Head]) hE hM Za ld rfl rfl fun b1 w a hM hE=>ZO (cs:=enc p3) hE hM Za ld rfl rfl fun b3 w a hM hE=>Zc hE rfl fun a hE=>Ze (wp_seq (Zb (Zd hE rfl fun a hE=>Z9 hE rfl Tryz.underlying40 (hM.rd hv1_1) fun a hE=>Zh hE rfl rfl rfl fun a hE=>Ze ?_))))
 refine Zq hE rfl ?_ ?_
 ·intro hb5
  have hF:=Zx hF hb5
  refine Zb (Zc hE rfl fun a hE=>Ze ?_)
  obtain rfl:=Option.some.inj hF
  exact wp_ret (Zs (kr1 hE rfl rfl hM.kept))
 ·intro hb5
  have hF:=Zw hF hb5
  refine wp_skip (Zt (wp_seq (Zb (Zd hE rfl fun a hE=>Z9 hE rfl Tryz.underlying40 (hM.rd hv2_1) fun a hE=>Zh hE rfl rfl rfl fun a hE=>Ze ?_))))
  refine Zq hE rfl ?_ ?_
  ·intro hb6
   have hF:=Zx hF hb6
   refine Zb (Zc hE rfl fun a hE=>Ze ?_)
   obtain rfl:=Option.some.inj hF
   exact wp_ret (Zs (kr1 hE rfl rfl hM.kept))
  ·intro hb6
   have hF:=Zw hF hb6
   refine wp_skip (Zt (Zb (Zc hE rfl fun a hE=>Ze (Zb (Zn hE rfl z6 rfl hM.rawAt1 cq fun a hE=>Zd hE rfl ?_))))); intro a hE
   obtain ⟨r7,e8,hF⟩:=bind_some hF
   refine Zv hE rfl (cbm Tryz.func23) (AW _ p0 v0_1 (hM.rdo hv0_1) v0_2 (hM.rdo hv0_2) v0_3 (hM.rdo hv0_3) 1048576 r7 e8) ?_
   rintro v w a ⟨rfl,hK⟩ hE
   have hM:=hM.keep hK
   refine Zc hE rfl fun a hE=>Ze (wp_seq (Zb (Zd hE rfl fun a hE=>Zh hE rfl rfl rfl fun a hE=>Ze ?_)))
   refine Zq hE rfl ?_ ?_
   ·intro hb9
    have hF:=Zx hF hb9
    refine Zb (Zc hE rfl fun a hE=>Ze ?_)
    obtain rfl:=Option.some.inj hF
    exact wp_ret (Zs (kr1 hE rfl rfl hM.kept))
   ·intro hb9
    have hF:=Zw hF hb9
    refine wp_skip (Zt (wp_seq ?_))
    obtain ⟨r11,e12,hF⟩:=bind_some hF
    obtain ⟨r17,e18,hF⟩:=bind_some hF
    obtain ⟨r20,e21,hF⟩:=bind_some hF
    obtain ⟨r23,e24,hF⟩:=bind_some hF
    obtain ⟨r25,e26,hF⟩:=bind_some hF
    refine YA (its:=[raw b3 (enc p3),raw b1 (cat [[v0_1],[vI p0.Next],[v0_2],[v0_3],enc p0.Head])]) (mk:=([mkO 1 (fun v=>own NoB r11 (Value.cells v).toList),mkO 3 (fun v=>osl NoB (r17 : List UInt8) v),mkO 5 (fun v=>osl NoB (r20 : List UInt8) v),mkO 8 (fun v=>own NoB r25.1 (Value.cells (Yu v 0)).toList),mkD 13 14 8 (cat [[(Value.slice none 0 0)],[vI 0],[(Value.slice none 0 0)],[(Value.slice none 0 0)],enc (Vector.replicate 32 (0 : UInt8))]) (fun v=>(Value.cells (Yu v 0)).toList)] : Mk)) [37,38,39,40,41,42,43,44,45,36,46,47,48,10,181,11] YL rfl rfl (by decide) rfl hE (fun u=>M.qE (M.qE (M.qE (M.qE (M.qE (M.q0 hM.drew u) emD) emO) emO) emO) emO) (qsP (v:=(Value.agg (cat [[v0_1],[vI p0.Next],[v0_2],[v0_3],enc p0.Head]).toArray)) ?_ (qsM (pr:=fun v=>∃ cs,v = .agg cs) ?_ (qsP (fun z=>Zu z.E Za ld rfl (kr0 rfl)) (qsM (pr:=fun v=>True) ?_ (qsP (fun z=>Zu z.E Za ld rfl (kr0 rfl)) (qsM (pr:=fun v=>True) ?_ (qsP (v:=(Value.agg (enc p3).toArray)) ?_ (qsP (fun z=>Z7 z.E Za ld rfl cb31 (To _ p3 r23 e24) (kc rfl)) (qsM (pr:=fun v=>v = (Value.tuple [(Yu v 0),vI r25.2.1,vI r25.2.2].toArray) ∧ ∃ cs,(Yu v 0) = .agg cs) ?_ (qsD (ds:=[8]) (f:=fun us=>(Value.tuple [(Yu (us.getD 0 undef) 0),vI r25.2.1,vI r25.2.2].toArray)) ?_ (qsD (ds:=[8]) (f:=fun us=>(Yu (us.getD 0 undef) 0)) ?_ (qsP (fun z=>W8 z.E Za ld rfl rfl (kr0 rfl)) (qsP (fun z=>W8 z.E Za ld rfl rfl (kr0 rfl)) (qsM (pr:=fun v=>True) ?_ (qsM (pr:=fun v=>True) ?_ (qsP (fun z=>Ko z.E Za ld rfl (kr0 rfl)) qs0)))))))))))))))) ?_
    ·intro a w ux10 D z
     have hE:=z.E
     have hM:=z.M
     exact Zn hE rfl z6 rfl hM.rawAt1 cq fun a hE=>⟨Kept.refl _ _,_,rfl,hE⟩
    ·intro a w ux10 D z
     have hE:=z.E
     have hD : D 1 = false:=z.F
     have hM0:=z.M
     have hM:=z.M
     refine Zv hE rfl cb25 (Qw _ p0 v0_1 (hM.rdo hv0_1) v0_2 (hM.rdo hv0_2) v0_3 (hM.rdo hv0_3) r11 e12) ?_
     rintro _ w a ⟨u13,u14,u15,rfl,hFr,hK⟩ hE
     have hM:=TU (x:=r11) (hM0.add hK hFr) sio sio sio
     exact ⟨_,_,rfl,hE,M.qFill (mk1:=[]) (mk2:=[_,_,_,_]) (f:=(fun v=>own NoB r11 (Value.cells v).toList)) hM rfl hD,⟨_,rfl⟩⟩
    ·intro a w ux10 D z
     have hE:=z.E
     have hD : D 3 = false:=z.F
     have hM0:=z.M
     have hM:=z.M
     refine Zv hE rfl yc (Xq _ p1 v1_1 (hM.rdo hv1_1) r17 e18) ?_
     rintro _ w a ⟨_,rfl,hFr,hK⟩ hE
     have hM:=hM0.add hK hFr
     exact ⟨_,_,rfl,hE,M.qFill (mk1:=[_]) (mk2:=[_,_,_]) (f:=(fun v=>osl NoB (r17 : List UInt8) v)) hM rfl hD,trivial⟩
    ·intro a w ux10 D z
     have hE:=z.E
     have hD : D 5 = false:=z.F
     have hM0:=z.M
     have hM:=z.M
     refine Zv hE rfl yc (Xq _ p2 v2_1 (hM.rdo hv2_1) r20 e21) ?_
     rintro _ w a ⟨_,rfl,hFr,hK⟩ hE
     have hM:=hM0.add hK hFr
     exact ⟨_,_,rfl,hE,M.qFill (mk1:=[_,_]) (mk2:=[_,_]) (f:=(fun v=>osl NoB (r20 : List UInt8) v)) hM rfl hD,trivial⟩
    ·intro a w ux10 D z
     have hE:=z.E
     have hM:=z.M
     exact Zn hE rfl kU rfl hM.rawAt0 (Flat.len _) fun a hE=>⟨Kept.refl _ _,_,rfl,hE⟩
    ·intro a w ux10 D z
     have hE:=z.E
     have hD : D 8 = false:=z.F
     have d1 : D 1 = true:=z.p 0 _ rfl rfl
     have d3 : D 3 = true:=z.p 1 _ rfl rfl
     have d5 : D 5 = true:=z.p 2 _ rfl rfl
     have hM0:=z.M
     have hM:=((z.M.sure (pre:=[_,_]) d1).sure (pre:=[_,_,_]) d3).sure (pre:=[_,_,_,_]) d5
     obtain ⟨q10_1_0_1,q10_1_0_2,q10_1_0_3,hcz,hq10_1_0_1,hq10_1_0_2,hq10_1_0_3⟩:=XD (hM.ro (pre:=[_,_]) noB)
     have qK16 : (ux10 1) = (Value.agg (cat [[q10_1_0_1],[vI r11.Next],[q10_1_0_2],[q10_1_0_3],enc r11.Head]).toArray):=Jz hcz (z.G 1 (by assumption) _ rfl).2
     refine Zv hE (kH (zF (lk rfl qK16) (zF rfl (zF rfl (zF rfl evsN))))) (cbm Tryz.func30) (Am _ r11 q10_1_0_1 hq10_1_0_1 q10_1_0_2 hq10_1_0_2 q10_1_0_3 hq10_1_0_3 r17 (ux10 3) (hM.sl (pre:=[_,_,_]) noB) r20 (ux10 5) (hM.sl (pre:=[_,_,_,_]) noB) r23 r25 e26) ?_
     rintro _ w a ⟨u27,u28,u29,rfl,hFr,hK⟩ hE
     have hM:=TU (x:=r25.1) (hM0.add hK hFr) sio sio sio
     have hsD : D 14 = false:=Tm (j:=14) (k:=2) z.c rfl rfl rfl hD
     have hM:=M.dOff (its:=_ :: [raw b3 (enc p3),raw b1 (cat [[v0_1],[vI p0.Next],[v0_2],[v0_3],enc p0.Head])]) (mk1:=([mkO 1 (fun v=>own NoB r11 (Value.cells v).toList),mkO 3 (fun v=>osl NoB (r17 : List UInt8) v),mkO 5 (fun v=>osl NoB (r20 : List UInt8) v),mkO 8 (fun v=>own NoB r25.1 (Value.cells (Yu v 0)).toList)] : Mk)) (mk2:=([] : Mk)) (i:=13) (s:=14) (k:=8) (z:=cat [[(Value.slice none 0 0)],[vI 0],[(Value.slice none 0 0)],[(Value.slice none 0 0)],enc (Vector.replicate 32 (0 : UInt8))]) (f:=(fun v=>(Value.cells (Yu v 0)).toList)) hM hsD
     exact ⟨_,_,rfl,hE,M.dOn (its:=[raw b3 (enc p3),raw b1 (cat [[v0_1],[vI p0.Next],[v0_2],[v0_3],enc p0.Head])]) (mk1:=([mkO 1 (fun v=>own NoB r11 (Value.cells v).toList),mkO 3 (fun v=>osl NoB (r17 : List UInt8) v),mkO 5 (fun v=>osl NoB (r20 : List UInt8) v),mkO 8 (fun v=>own NoB r25.1 (Value.cells (Yu v 0)).toList)] : Mk)) (mk2:=([] : Mk)) (i:=13) (s:=14) (k:=8) (z:=cat [[(Value.slice none 0 0)],[vI 0],[(Value.slice none 0 0)],[(Value.slice none 0 0)],enc (Vector.replicate 32 (0 : UInt8))]) (f:=(fun v=>(Value.cells (Yu v 0)).toList)) (M.qFill (its:=[raw b3 (enc p3),raw b1 (cat [[v0_1],[vI p0.Next],[v0_2],[v0_3],enc p0.Head])]) (mk1:=[_,_,_]) (mk2:=[_]) (f:=(fun v=>own NoB r25.1 (Value.cells (Yu v 0)).toList)) hM rfl hD) hsD (by decide),⟨rfl,⟨_,rfl⟩⟩⟩
    ·intro a w ux10 D z
     have hE:=z.E
     have d8 : D 8 = true:=z.p 0 _ rfl rfl
     have g8:=z.G 8 d8 _ rfl
     have f8 : ux10 8 = (Value.tuple [(Yu (ux10 8) 0),vI r25.2.1,vI r25.2.2].toArray):=g8.2.1
     exact Zd hE (lk rfl f8) fun a hE=>⟨Kept.refl _ _,(BS d8 zk),_,rfl,hE⟩
    ·intro a w ux10 D z
     have hE:=z.E
     have d9 : D 9 = true:=z.p 0 _ rfl rfl
     have d8 : D 8 = true:=z.c 9 _ _ rfl (List.mem_of_getElem? (i:=0) rfl) rfl d9
     exact W8 hE Za ld rfl rfl fun a hE=>⟨Kept.refl _ _,(BS d8 zk),_,rfl,hE⟩
    ·intro a w ux10 D z
     have hE:=z.E
     have hD : D 13 = false:=z.F
     have hM:=z.M
     refine Zz hE hM Ys ?_; intro b31 w a hM hE
     have hs : D 14 = false:=Tm (j:=14) (k:=0) z.c rfl rfl rfl hD
     exact ⟨_,_,rfl,hE,M.qAllocD (mk1:=[_,_,_,_]) (mk2:=[]) hM rfl hD hs (by decide),trivial⟩
    ·intro a w ux10 D z
     have hE:=z.E
     have hD : D 14 = false:=z.F
     have d13 : D 13 = true:=z.p 0 _ rfl rfl
     have d10 : D 10 = true:=z.p 1 _ rfl rfl
     have g10:=z.G 10 d10 _ rfl
     have d8 : D 8 = true:=g10.1 8 (show 8 ∈ [8] by decide)
     have hM:=z.M.sure (pre:=[_,_,_,_,_]) d8
     obtain ⟨q10_8_0_1,q10_8_0_2,q10_8_0_3,hcz,hq10_8_0_1,hq10_8_0_2,hq10_8_0_3⟩:=XD (hM.ro (pre:=[_,_,_,_,_]) noB)
     have qK30 : (Yu (ux10 8) 0) = (Value.agg (cat [[q10_8_0_1],[vI r25.1.Next],[q10_8_0_2],[q10_8_0_3],enc r25.1.Head]).toArray):=Jz hcz (z.G 8 (by assumption) _ rfl).2.2
     obtain ⟨b33,hb34,hM⟩:=M.openCellF (pre:=[_,_,_,_,_,_]) hM d13 hD
     refine Zl (seg:=cat [[q10_8_0_1],[vI r25.1.Next],[q10_8_0_2],[q10_8_0_3],enc r25.1.Head]) (cs':=cat [[q10_8_0_1],[vI r25.1.Next],[q10_8_0_2],[q10_8_0_3],enc r25.1.Head]) hE hM Za (lk rfl hb34) (lk rfl qK30) rfl Ys cq (Nat.le_of_eq ((Nat.zero_add _).trans (Eq.trans cq (Eq.symm cq)))) (ZZ (cc1 (Rep.cell hq10_8_0_1) (cc1 (Flat.cell (r25.1.Next : Int)) (cc1 (Rep.cell hq10_8_0_2) (cc1 (Rep.cell hq10_8_0_3) (cc1 (Flat.cell _) cc0)))))) (Zi (Eq.trans cq (Eq.symm cq))) ?_; intro w a hM hE
     have hM:=(M.recell hM (show _ = (Value.cells (Yu (ux10 8) 0)).toList from by rw [qK30]; rfl)).unsure (pre:=[_,_,_,_,_,_]) d8
     exact ⟨undef,_,rfl,Env.dummy hE (by decide),M.qStoreD (its:=[raw b3 (enc p3),raw b1 (cat [[v0_1],[vI p0.Next],[v0_2],[v0_3],enc p0.Head])]) (mk1:=[_,_,_,_]) (mk2:=[]) (i:=13) (s:=14) (k:=8) (z:=cat [[(Value.slice none 0 0)],[vI 0],[(Value.slice none 0 0)],[(Value.slice none 0 0)],enc (Vector.replicate 32 (0 : UInt8))]) (f:=(fun v=>(Value.cells (Yu v 0)).toList)) hM rfl d13 hb34 (by decide) (by decide),trivial⟩
    ·intro a w ux10 D hE hM hG hall
     have d1:=hall 1 (by decide)
     have d3:=hall 3 (by decide)
     have d5:=hall 5 (by decide)
     have d8:=hall 8 (by decide)
     have d13:=hall 13 (by decide)
     have d14:=hall 14 (by decide)
     have hM:=(((hM.sure (pre:=[_,_]) d1).sure (pre:=[_,_,_]) d3).sure (pre:=[_,_,_,_]) d5).sure (pre:=[_,_,_,_,_]) d8
     obtain ⟨b35,f36,hM⟩:=M.openCellT (pre:=[_,_,_,_,_,_]) hM d13 d14
     obtain ⟨q10_1_0_1,q10_1_0_2,q10_1_0_3,hcz,_,_,_⟩:=XD (hM.ro (pre:=[_,_,_]) noB)
     have qK16 : (ux10 1) = (Value.agg (cat [[q10_1_0_1],[vI r11.Next],[q10_1_0_2],[q10_1_0_3],enc r11.Head]).toArray):=Jz hcz (hG 1 d1 _ rfl).2
     have hM:=hM.pull3
     have hM:=TS (hM.recown (congrArg (fun v=>(Value.cells v).toList) qK16))
     obtain ⟨q10_8_0_1,q10_8_0_2,q10_8_0_3,hcz,_,_,_⟩:=XD (hM.ro (pre:=[_,_,_,_,_,_,_,_]) noB)
     have qK30 : (Yu (ux10 8) 0) = (Value.agg (cat [[q10_8_0_1],[vI r25.1.Next],[q10_8_0_2],[q10_8_0_3],enc r25.1.Head]).toArray):=Jz hcz (hG 8 d8 _ rfl).2.2
     have hM:=hM.pull8
     have hM:=(TS (hM.recown (congrArg (fun v=>(Value.cells v).toList) qK30))).pull6
     have hM:=M.recell (c':=cat [[q10_8_0_1],[vI r25.1.Next],[q10_8_0_2],[q10_8_0_3],enc r25.1.Head]) hM (congrArg (fun v=>(Value.cells v).toList) qK30)
     have hE:=hE.setq (t:=38) rfl qK16
     have hE:=hE.setq (t:=46) rfl qK30
     have hE:=hE.setq (t:=10) rfl f36
     refine Zc hE rfl fun a hE=>Zg (Zt (Zb (Zn hE rfl z6 rfl hM.rawAt8 cq ?_))); intro a hE
     obtain ⟨r43,e44,hF⟩:=bind_some hF
     refine Zv hE rfl cb25 (Qw _ p0 v0_1 (hM.rdo hv0_1) v0_2 (hM.rdo hv0_2) v0_3 (hM.rdo hv0_3) r43 e44) ?_
     rintro v w a ⟨u45,u46,u47,rfl,hFr,hK⟩ hE
     have hM:=hM.add hK hFr
     refine Zz hE hM Ys fun b48 w a hM hE=>Zl (seg:=cat [[u45],[vI r43.Next],[u46],[u47],enc r43.Head]) (cs':=cat [[u45],[vI r43.Next],[u46],[u47],enc r43.Head]) hE hM Za rfl rfl rfl Ys cq (Nat.le_of_eq ((Nat.zero_add _).trans (Eq.trans cq (Eq.symm cq)))) (ZZ (cc1 (Rep.cell (hM.sl (pre:=[_]) noB)) (cc1 (Flat.cell (r43.Next : Int)) (cc1 (Rep.cell (hM.sl (pre:=[_,_]) noB)) (cc1 (Rep.cell (hM.sl (pre:=[_,_,_]) noB)) (cc1 (Flat.cell _) cc0)))))) (Zi (Eq.trans cq (Eq.symm cq))) fun w a hM hE=>Ze (Zb (Zd hE rfl ?_)); intro a hE
     obtain ⟨r50,e51,hF⟩:=bind_some hF
     refine Zv hE rfl yc (Xq _ p1 v1_1 (hM.rdo hv1_1) r50 e51) ?_
     rintro u52 w a ⟨_,rfl,hFr,hK⟩ hE
     have hM:=hM.add hK hFr
     refine Zc hE rfl fun a hE=>Ze (Zb (Zd hE rfl ?_)); intro a hE
     obtain ⟨r53,e54,hF⟩:=bind_some hF
     refine Zv hE rfl yc (Xq _ p2 v2_1 (hM.rdo hv2_1) r53 e54) ?_
     rintro u55 w a ⟨_,rfl,hFr,hK⟩ hE
     have hM:=hM.add hK hFr
     refine Zc hE rfl fun a hE=>Ze (wp_seq ?_)
     obtain ⟨r57,e58,hF⟩:=bind_some hF
     obtain ⟨r59,e60,hF⟩:=bind_some hF
     refine YA (its:=[osl NoB (r53 : List UInt8) u55,osl NoB (r50 : List UInt8) u52,raw b48 (cat [[u45],[vI r43.Next],[u46],[u47],enc r43.Head]),osl NoB (r43.Keys : List (Vector UInt8 16)) u45,osl NoB (r43.Records : List GRecord) u46,osl NoB (r43.Events : List GEvent) u47,raw b35 (cat [[q10_8_0_1],[vI r25.1.Next],[q10_8_0_2],[q10_8_0_3],enc r25.1.Head]),own NoB (r25.1.Keys : (List (Vector UInt8 16))) [q10_8_0_1],own NoB (r25.1.Records : (List GRecord)) [q10_8_0_2],own NoB (r25.1.Events : (List GEvent)) [q10_8_0_3],own NoB (r11.Keys : (List (Vector UInt8 16))) [q10_1_0_1],own NoB (r11.Records : (List GRecord)) [q10_1_0_2],own NoB (r11.Events : (List GEvent)) [q10_1_0_3],raw b3 (enc p3),raw b1 (cat [[v0_1],[vI p0.Next],[v0_2],[v0_3],enc p0.Head]),osl NoB (r17 : List UInt8) (ux10 3),osl NoB (r20 : List UInt8) (ux10 5)]) (mk:=([mkO 5 (fun v=>own NoB r59.1 (Value.cells (Yu v 0)).toList),mkD 10 11 5 (cat [[(Value.slice none 0 0)],[vI 0],[(Value.slice none 0 0)],[(Value.slice none 0 0)],enc (Vector.replicate 32 (0 : UInt8))]) (fun v=>(Value.cells (Yu v 0)).toList)] : Mk)) [56,57,58,59,60,61,55,62,63,64,16,178,17] YL rfl rfl (by decide) rfl hE (fun u=>M.qE (M.qE (M.q0 hM.drew u) emD) emO) (qsP (v:=(Value.agg (cat [[u45],[vI r43.Next],[u46],[u47],enc r43.Head]).toArray)) ?_ (qsP (fun z=>Zu z.E Za ld rfl (kr0 rfl)) (qsP (fun z=>Zu z.E Za ld rfl (kr0 rfl)) (qsP (v:=(Value.agg (enc p3).toArray)) ?_ (qsP (fun z=>Z7 z.E Za ld rfl cb31 (To _ p3 r57 e58) (kc rfl)) (qsM (pr:=fun v=>v = (Value.tuple [(Yu v 0),vI r59.2.1,vI r59.2.2].toArray) ∧ ∃ cs,(Yu v 0) = .agg cs) ?_ (qsD (ds:=[5]) (f:=fun us=>(Value.tuple [(Yu (us.getD 0 undef) 0),vI r59.2.1,vI r59.2.2].toArray)) ?_ (qsD (ds:=[5]) (f:=fun us=>(Yu (us.getD 0 undef) 0)) ?_ (qsP (fun z=>W8 z.E Za ld rfl rfl (kr0 rfl)) (qsP (fun z=>W8 z.E Za ld rfl rfl (kr0 rfl)) (qsM (pr:=fun v=>True) ?_ (qsM (pr:=fun v=>True) ?_ (qsP (fun z=>Ko z.E Za ld rfl (kr0 rfl)) qs0))))))))))))) ?_
     ·intro a w ux56 D z
      have hE:=z.E
      have hM:=z.M
      exact Zn hE rfl Ys rfl hM.rawAt2 cq fun a hE=>⟨Kept.refl _ _,_,rfl,hE⟩
     ·intro a w ux56 D z
      have hE:=z.E
      have hM:=z.M
      exact Zn hE rfl kU rfl hM.rawAt13 (Flat.len _) fun a hE=>⟨Kept.refl _ _,_,rfl,hE⟩
     ·intro a w ux56 D z
      have hE:=z.E
      have hD : D 5 = false:=z.F
      have hM0:=z.M
      have hM:=z.M
      refine Zv hE rfl (cbm Tryz.func32) (Je _ r43 u45 (hM.sl (pre:=[_,_,_]) noB) u46 (hM.sl (pre:=[_,_,_,_]) noB) u47 (hM.sl (pre:=[_,_,_,_,_]) noB) r50 u52 (hM.sl (pre:=[_]) noB) r53 u55 (hM.sl (pre:=[]) noB) r57 r59 e60) ?_
      rintro _ w a ⟨u61,u62,u63,rfl,hFr,hK⟩ hE
      have hM:=TU (x:=r59.1) (hM0.add hK hFr) sio sio sio
      have hsD : D 11 = false:=Tm (j:=11) (k:=2) z.c rfl rfl rfl hD
      have hM:=M.dOff (its:=_ :: [osl NoB (r53 : List UInt8) u55,osl NoB (r50 : List UInt8) u52,raw b48 (cat [[u45],[vI r43.Next],[u46],[u47],enc r43.Head]),osl NoB (r43.Keys : List (Vector UInt8 16)) u45,osl NoB (r43.Records : List GRecord) u46,osl NoB (r43.Events : List GEvent) u47,raw b35 (cat [[q10_8_0_1],[vI r25.1.Next],[q10_8_0_2],[q10_8_0_3],enc r25.1.Head]),own NoB (r25.1.Keys : (List (Vector UInt8 16))) [q10_8_0_1],own NoB (r25.1.Records : (List GRecord)) [q10_8_0_2],own NoB (r25.1.Events : (List GEvent)) [q10_8_0_3],own NoB (r11.Keys : (List (Vector UInt8 16))) [q10_1_0_1],own NoB (r11.Records : (List GRecord)) [q10_1_0_2],own NoB (r11.Events : (List GEvent)) [q10_1_0_3],raw b3 (enc p3),raw b1 (cat [[v0_1],[vI p0.Next],[v0_2],[v0_3],enc p0.Head]),osl NoB (r17 : List UInt8) (ux10 3),osl NoB (r20 : List UInt8) (ux10 5)]) (mk1:=([mkO 5 (fun v=>own NoB r59.1 (Value.cells (Yu v 0)).toList)] : Mk)) (mk2:=([] : Mk)) (i:=10) (s:=11) (k:=5) (z:=cat [[(Value.slice none 0 0)],[vI 0],[(Value.slice none 0 0)],[(Value.slice none 0 0)],enc (Vector.replicate 32 (0 : UInt8))]) (f:=(fun v=>(Value.cells (Yu v 0)).toList)) hM hsD
      exact ⟨_,_,rfl,hE,M.dOn (its:=[osl NoB (r53 : List UInt8) u55,osl NoB (r50 : List UInt8) u52,raw b48 (cat [[u45],[vI r43.Next],[u46],[u47],enc r43.Head]),osl NoB (r43.Keys : List (Vector UInt8 16)) u45,osl NoB (r43.Records : List GRecord) u46,osl NoB (r43.Events : List GEvent) u47,raw b35 (cat [[q10_8_0_1],[vI r25.1.Next],[q10_8_0_2],[q10_8_0_3],enc r25.1.Head]),own NoB (r25.1.Keys : (List (Vector UInt8 16))) [q10_8_0_1],own NoB (r25.1.Records : (List GRecord)) [q10_8_0_2],own NoB (r25.1.Events : (List GEvent)) [q10_8_0_3],own NoB (r11.Keys : (List (Vector UInt8 16))) [q10_1_0_1],own NoB (r11.Records : (List GRecord)) [q10_1_0_2],own NoB (r11.Events : (List GEvent)) [q10_1_0_3],raw b3 (enc p3),raw b1 (cat [[v0_1],[vI p0.Next],[v0_2],[v0_3],enc p0.Head]),osl NoB (r17 : List UInt8) (ux10 3),osl NoB (r20 : List UInt8) (ux10 5)]) (mk1:=([mkO 5 (fun v=>own NoB r59.1 (Value.cells (Yu v 0)).toList)] : Mk)) (mk2:=([] : Mk)) (i:=10) (s:=11) (k:=5) (z:=cat [[(Value.slice none 0 0)],[vI 0],[(Value.slice none 0 0)],[(Value.slice none 0 0)],enc (Vector.replicate 32 (0 : UInt8))]) (f:=(fun v=>(Value.cells (Yu v 0)).toList)) (M.qFill (its:=[osl NoB (r53 : List UInt8) u55,osl NoB (r50 : List UInt8) u52,raw b48 (cat [[u45],[vI r43.Next],[u46],[u47],enc r43.Head]),osl NoB (r43.Keys : List (Vector UInt8 16)) u45,osl NoB (r43.Records : List GRecord) u46,osl NoB (r43.Events : List GEvent) u47,raw b35 (cat [[q10_8_0_1],[vI r25.1.Next],[q10_8_0_2],[q10_8_0_3],enc r25.1.Head]),own NoB (r25.1.Keys : (List (Vector UInt8 16))) [q10_8_0_1],own NoB (r25.1.Records : (List GRecord)) [q10_8_0_2],own NoB (r25.1.Events : (List GEvent)) [q10_8_0_3],own NoB (r11.Keys : (List (Vector UInt8 16))) [q10_1_0_1],own NoB (r11.Records : (List GRecord)) [q10_1_0_2],own NoB (r11.Events : (List GEvent)) [q10_1_0_3],raw b3 (enc p3),raw b1 (cat [[v0_1],[vI p0.Next],[v0_2],[v0_3],enc p0.Head]),osl NoB (r17 : List UInt8) (ux10 3),osl NoB (r20 : List UInt8) (ux10 5)]) (mk1:=[]) (mk2:=[_]) (f:=(fun v=>own NoB r59.1 (Value.cells (Yu v 0)).toList)) hM rfl hD) hsD (by decide),⟨rfl,⟨_,rfl⟩⟩⟩
     ·intro a w ux56 D z
      have hE:=z.E
      have d5 : D 5 = true:=z.p 0 _ rfl rfl
      have g5:=z.G 5 d5 _ rfl
      have f5 : ux56 5 = (Value.tuple [(Yu (ux56 5) 0),vI r59.2.1,vI r59.2.2].toArray):=g5.2.1
      exact Zd hE (lk rfl f5) fun a hE=>⟨Kept.refl _ _,(BS d5 zk),_,rfl,hE⟩
     ·intro a w ux56 D z
      have hE:=z.E
      have d6 : D 6 = true:=z.p 0 _ rfl rfl
      have d5 : D 5 = true:=z.c 6 _ _ rfl (List.mem_of_getElem? (i:=0) rfl) rfl d6
      exact W8 hE Za ld rfl rfl fun a hE=>⟨Kept.refl _ _,(BS d5 zk),_,rfl,hE⟩
     ·intro a w ux56 D z
      have hE:=z.E
      have hD : D 10 = false:=z.F
      have hM:=z.M
      refine Zz hE hM Ys ?_; intro b65 w a hM hE
      have hs : D 11 = false:=Tm (j:=11) (k:=0) z.c rfl rfl rfl hD
      exact ⟨_,_,rfl,hE,M.qAllocD (mk1:=[_]) (mk2:=[]) hM rfl hD hs (by decide),trivial⟩
     ·intro a w ux56 D z
      have hE:=z.E
      have hD : D 11 = false:=z.F
      have d10 : D 10 = true:=z.p 0 _ rfl rfl
      have d7 : D 7 = true:=z.p 1 _ rfl rfl
      have g7:=z.G 7 d7 _ rfl
      have d5 : D 5 = true:=g7.1 5 (show 5 ∈ [5] by decide)
      have hM:=z.M.sure (pre:=[_,_,_,_,_,_,_,_,_,_,_,_,_,_,_,_,_]) d5
      obtain ⟨q56_5_0_1,q56_5_0_2,q56_5_0_3,hcz,hq56_5_0_1,hq56_5_0_2,hq56_5_0_3⟩:=XD (hM.ro (pre:=[_,_,_,_,_,_,_,_,_,_,_,_,_,_,_,_,_]) noB)
      have qK64 : (Yu (ux56 5) 0) = (Value.agg (cat [[q56_5_0_1],[vI r59.1.Next],[q56_5_0_2],[q56_5_0_3],enc r59.1.Head]).toArray):=Jz hcz (z.G 5 (by assumption) _ rfl).2.2
      obtain ⟨b67,hb68,hM⟩:=M.openCellF (pre:=[_,_,_,_,_,_,_,_,_,_,_,_,_,_,_,_,_,_]) hM d10 hD
      refine Zl (seg:=cat [[q56_5_0_1],[vI r59.1.Next],[q56_5_0_2],[q56_5_0_3],enc r59.1.Head]) (cs':=cat [[q56_5_0_1],[vI r59.1.Next],[q56_5_0_2],[q56_5_0_3],enc r59.1.Head]) hE hM Za (lk rfl hb68) (lk rfl qK64) rfl Ys cq (Nat.le_of_eq ((Nat.zero_add _).trans (Eq.trans cq (Eq.symm cq)))) (ZZ (cc1 (Rep.cell hq56_5_0_1) (cc1 (Flat.cell (r59.1.Next : Int)) (cc1 (Rep.cell hq56_5_0_2) (cc1 (Rep.cell hq56_5_0_3) (cc1 (Flat.cell _) cc0)))))) (Zi (Eq.trans cq (Eq.symm cq))) ?_; intro w a hM hE
      have hM:=(M.recell hM (show _ = (Value.cells (Yu (ux56 5) 0)).toList from by rw [qK64]; rfl)).unsure (pre:=[_,_,_,_,_,_,_,_,_,_,_,_,_,_,_,_,_,_]) d5
      exact ⟨undef,_,rfl,Env.dummy hE (by decide),M.qStoreD (its:=[osl NoB (r53 : List UInt8) u55,osl NoB (r50 : List UInt8) u52,raw b48 (cat [[u45],[vI r43.Next],[u46],[u47],enc r43.Head]),osl NoB (r43.Keys : List (Vector UInt8 16)) u45,osl NoB (r43.Records : List GRecord) u46,osl NoB (r43.Events : List GEvent) u47,raw b35 (cat [[q10_8_0_1],[vI r25.1.Next],[q10_8_0_2],[q10_8_0_3],enc r25.1.Head]),own NoB (r25.1.Keys : (List (Vector UInt8 16))) [q10_8_0_1],own NoB (r25.1.Records : (List GRecord)) [q10_8_0_2],own NoB (r25.1.Events : (List GEvent)) [q10_8_0_3],own NoB (r11.Keys : (List (Vector UInt8 16))) [q10_1_0_1],own NoB (r11.Records : (List GRecord)) [q10_1_0_2],own NoB (r11.Events : (List GEvent)) [q10_1_0_3],raw b3 (enc p3),raw b1 (cat [[v0_1],[vI p0.Next],[v0_2],[v0_3],enc p0.Head]),osl NoB (r17 : List UInt8) (ux10 3),osl NoB (r20 : List UInt8) (ux10 5)]) (mk1:=[_]) (mk2:=[]) (i:=10) (s:=11) (k:=5) (z:=cat [[(Value.slice none 0 0)],[vI 0],[(Value.slice none 0 0)],[(Value.slice none 0 0)],enc (Vector.replicate 32 (0 : UInt8))]) (f:=(fun v=>(Value.cells (Yu v 0)).toList)) hM rfl d10 hb68 (by decide) (by decide),trivial⟩
     ·intro a w ux56 D hE hM hG hall
      have d5:=hall 5 (by decide)
      have d10:=hall 10 (by decide)
      have d11:=hall 11 (by decide)
      have hM:=hM.sure (pre:=[_,_,_,_,_,_,_,_,_,_,_,_,_,_,_,_,_]) d5
      obtain ⟨b69,f70,hM⟩:=M.openCellT (pre:=[_,_,_,_,_,_,_,_,_,_,_,_,_,_,_,_,_,_]) hM d10 d11
      obtain ⟨q56_5_0_1,q56_5_0_2,q56_5_0_3,hcz,_,_,_⟩:=XD (hM.ro (pre:=[_,_,_,_,_,_,_,_,_,_,_,_,_,_,_,_,_,_]) noB)
      have qK64 : (Yu (ux56 5) 0) = (Value.agg (cat [[q56_5_0_1],[vI r59.1.Next],[q56_5_0_2],[q56_5_0_3],enc r59.1.Head]).toArray):=Jz hcz (hG 5 d5 _ rfl).2.2
      have hM:=hM.pull (pre:=[_,_,_,_,_,_,_,_,_,_,_,_,_,_,_,_,_,_])
      have hM:=(TS (hM.recown (congrArg (fun v=>(Value.cells v).toList) qK64))).pull3
      have hM:=M.recell (c':=cat [[q56_5_0_1],[vI r59.1.Next],[q56_5_0_2],[q56_5_0_3],enc r59.1.Head]) hM (congrArg (fun v=>(Value.cells v).toList) qK64)
      have hE:=hE.setq (t:=62) rfl qK64
      have hE:=hE.setq (t:=16) rfl f70
      refine Zc hE rfl fun a hE=>Zg (Zt (wp_seq ?_))
      obtain ⟨j74,hl75,hF76⟩:=bind_some hF
      refine ZM (fun a w=>Env 167 a [(1,v1_1),(2,v2_1),(4,(ptr b1 0)),(7,(ptr b3 0)),(10,(ptr b35 0)),(11,vI r25.2.1),(12,vI r25.2.2),(13,(ptr b48 0)),(14,u52),(15,u55),(16,(ptr b69 0)),(17,vI r59.2.1),(18,vI r59.2.2),(78,vT j74)] ∧ M (Old w0) w0 w [raw b69 (cat [[q56_5_0_1],[vI r59.1.Next],[q56_5_0_2],[q56_5_0_3],enc r59.1.Head]),own NoB (r59.1.Keys : (List (Vector UInt8 16))) [q56_5_0_1],own NoB (r59.1.Records : (List GRecord)) [q56_5_0_2],own NoB (r59.1.Events : (List GEvent)) [q56_5_0_3],osl NoB (r53 : List UInt8) u55,osl NoB (r50 : List UInt8) u52,raw b48 (cat [[u45],[vI r43.Next],[u46],[u47],enc r43.Head]),osl NoB (r43.Keys : List (Vector UInt8 16)) u45,osl NoB (r43.Records : List GRecord) u46,osl NoB (r43.Events : List GEvent) u47,raw b35 (cat [[q10_8_0_1],[vI r25.1.Next],[q10_8_0_2],[q10_8_0_3],enc r25.1.Head]),own NoB (r25.1.Keys : (List (Vector UInt8 16))) [q10_8_0_1],own NoB (r25.1.Records : (List GRecord)) [q10_8_0_2],own NoB (r25.1.Events : (List GEvent)) [q10_8_0_3],raw b3 (enc p3),raw b1 (cat [[v0_1],[vI p0.Next],[v0_2],[v0_3],enc p0.Head])]) ?_ ?_
      ·skip
       refine wp_region_lit (Zn hE rfl Ys rfl hM.rawAt0 cq fun a hE=>Zn hE rfl Ys rfl hM.rawAt10 cq ?_); intro a hE
       obtain ⟨r77,e78,hl75⟩:=bind_some hl75
       refine Zv hE rfl cb27 (QG _ r59.1 q56_5_0_1 (hM.ro (pre:=[_]) noB) q56_5_0_2 (hM.ro (pre:=[_,_]) noB) q56_5_0_3 (hM.ro (pre:=[_,_,_]) noB) r25.1 q10_8_0_1 (hM.ro (pre:=[_,_,_,_,_,_,_,_,_,_,_]) noB) q10_8_0_2 (hM.ro (pre:=[_,_,_,_,_,_,_,_,_,_,_,_]) noB) q10_8_0_3 (hM.ro (pre:=[_,_,_,_,_,_,_,_,_,_,_,_,_]) noB) r77 e78) ?_
       rintro v w a ⟨rfl,hK⟩ hE
       have hM:=hM.keep hK
       refine Qo hE rfl fun a hE=>Zd hE rfl ?_; intro a hE
       refine Y0 (!r77) (fun hb79=>?_) (fun hb79=>?_)
       ·have hl75:=Zx hl75 hb79
        refine Zm hE rfl (lkb rfl hb79) rfl (by decide) fun a hE=>Zm hE rfl (lkb rfl hb79) rfl (by decide) fun a hE=>Zm hE rfl (lkb rfl hb79) rfl (by decide) fun a hE=>ZW hE (lkb rfl hb79) rfl fun a hE=>Zd hE rfl fun a hE=>Zm hE rfl rfl rfl (by decide) fun a hE=>Zm hE rfl rfl rfl (by decide) fun a hE=>Zm hE rfl rfl rfl (by decide) fun a hE=>ZW hE rfl rfl fun a hE=>Zg ?_
        obtain rfl:=Option.some.inj hl75
        refine Zj ?_
        have hM:=((((hM.pull (pre:=[_,_,_,_,_,_,_,_,_,_,_,_,_,_,_,_,_,_])).pull (pre:=[_,_,_,_,_,_,_,_,_,_,_,_,_,_,_,_,_,_])).pull (pre:=[_,_,_,_,_,_,_,_,_,_,_,_,_,_,_])).pull (pre:=[_,_,_,_,_,_,_,_,_,_,_,_,_,_,_])).pull (pre:=[_,_,_,_,_,_,_,_,_,_,_,_,_,_,_])
        have hM:=((((hM.pull (pre:=[_,_,_,_,_,_,_,_,_,_,_,_,_,_,_])).pull (pre:=[_,_,_,_,_,_,_,_,_,_,_,_,_,_,_])).pull (pre:=[_,_,_,_,_,_,_,_,_,_,_,_,_,_,_])).pull (pre:=[_,_,_,_,_,_,_,_,_,_,_,_,_,_,_])).pull (pre:=[_,_,_,_,_,_,_,_,_,_,_,_,_,_,_])
        have hM:=((((hM.pull (pre:=[_,_,_,_,_,_,_,_,_,_,_,_,_,_,_])).pull (pre:=[_,_,_,_,_,_,_,_,_,_,_,_,_,_,_])).pull (pre:=[_,_,_,_,_,_,_,_,_,_,_,_,_,_,_])).pull (pre:=[_,_,_,_,_,_,_,_,_,_,_,_,_,_,_])).pull (pre:=[_,_,_,_,_,_,_,_,_,_,_,_,_,_,_])
        have hM:=M.fst (l:=[_,_,_,_,_,_,_,_,_,_,_,_,_,_,_,_]) (hM.pull (pre:=[_,_,_,_,_,_,_,_,_,_,_,_,_,_,_]))
        exact ⟨hE.sub ⟨rfl,rfl,rfl,rfl,rfl,rfl,rfl,rfl,rfl,rfl,rfl,rfl,rfl,rfl,trivial⟩,hM⟩
       ·have hl75:=Zw hl75 hb79
        refine Zu hE (Zo hE rfl (lkb rfl hb79)) (by decide) rfl fun a hE=>Zu hE (Zo hE rfl (lkb rfl hb79)) (by decide) rfl fun a hE=>Yb hE (Zo hE rfl (lkb rfl hb79)) (by decide) rfl rfl rfl fun a hE=>YV hE (lkb rfl hb79) rfl fun a hE=>Zd hE rfl ?_; intro a hE
        refine Y0 (r59.2.1 != r25.2.1) (fun hb81=>?_) (fun hb81=>?_)
        ·have hl75:=Zx hl75 hb81
         refine Zm hE rfl (lkb rfl hb81) rfl (by decide) fun a hE=>Zm hE rfl (lkb rfl hb81) rfl (by decide) fun a hE=>Zm hE rfl (lkb rfl hb81) rfl (by decide) fun a hE=>ZW hE (lkb rfl hb81) rfl fun a hE=>Zg ?_
         obtain rfl:=Option.some.inj hl75
         refine Zj ?_
         have hM:=((((hM.pull (pre:=[_,_,_,_,_,_,_,_,_,_,_,_,_,_,_,_,_,_])).pull (pre:=[_,_,_,_,_,_,_,_,_,_,_,_,_,_,_,_,_,_])).pull (pre:=[_,_,_,_,_,_,_,_,_,_,_,_,_,_,_])).pull (pre:=[_,_,_,_,_,_,_,_,_,_,_,_,_,_,_])).pull (pre:=[_,_,_,_,_,_,_,_,_,_,_,_,_,_,_])
         have hM:=((((hM.pull (pre:=[_,_,_,_,_,_,_,_,_,_,_,_,_,_,_])).pull (pre:=[_,_,_,_,_,_,_,_,_,_,_,_,_,_,_])).pull (pre:=[_,_,_,_,_,_,_,_,_,_,_,_,_,_,_])).pull (pre:=[_,_,_,_,_,_,_,_,_,_,_,_,_,_,_])).pull (pre:=[_,_,_,_,_,_,_,_,_,_,_,_,_,_,_])
         have hM:=((((hM.pull (pre:=[_,_,_,_,_,_,_,_,_,_,_,_,_,_,_])).pull (pre:=[_,_,_,_,_,_,_,_,_,_,_,_,_,_,_])).pull (pre:=[_,_,_,_,_,_,_,_,_,_,_,_,_,_,_])).pull (pre:=[_,_,_,_,_,_,_,_,_,_,_,_,_,_,_])).pull (pre:=[_,_,_,_,_,_,_,_,_,_,_,_,_,_,_])
         have hM:=M.fst (l:=[_,_,_,_,_,_,_,_,_,_,_,_,_,_,_,_]) (hM.pull (pre:=[_,_,_,_,_,_,_,_,_,_,_,_,_,_,_]))
         exact ⟨hE.sub ⟨rfl,rfl,rfl,rfl,rfl,rfl,rfl,rfl,rfl,rfl,rfl,rfl,rfl,rfl,trivial⟩,hM⟩
        ·have hl75:=Zw hl75 hb81
         refine Zu hE (Zo hE rfl (lkb rfl hb81)) (by decide) rfl fun a hE=>Zu hE (Zo hE rfl (lkb rfl hb81)) (by decide) rfl fun a hE=>Yb hE (Zo hE rfl (lkb rfl hb81)) (by decide) rfl rfl rfl fun a hE=>YV hE (lkb rfl hb81) rfl fun a hE=>Zg ?_
         obtain rfl:=Option.some.inj hl75
         refine Zj ?_
         have hM:=((((hM.pull (pre:=[_,_,_,_,_,_,_,_,_,_,_,_,_,_,_,_,_,_])).pull (pre:=[_,_,_,_,_,_,_,_,_,_,_,_,_,_,_,_,_,_])).pull (pre:=[_,_,_,_,_,_,_,_,_,_,_,_,_,_,_])).pull (pre:=[_,_,_,_,_,_,_,_,_,_,_,_,_,_,_])).pull (pre:=[_,_,_,_,_,_,_,_,_,_,_,_,_,_,_])
         have hM:=((((hM.pull (pre:=[_,_,_,_,_,_,_,_,_,_,_,_,_,_,_])).pull (pre:=[_,_,_,_,_,_,_,_,_,_,_,_,_,_,_])).pull (pre:=[_,_,_,_,_,_,_,_,_,_,_,_,_,_,_])).pull (pre:=[_,_,_,_,_,_,_,_,_,_,_,_,_,_,_])).pull (pre:=[_,_,_,_,_,_,_,_,_,_,_,_,_,_,_])
         have hM:=((((hM.pull (pre:=[_,_,_,_,_,_,_,_,_,_,_,_,_,_,_])).pull (pre:=[_,_,_,_,_,_,_,_,_,_,_,_,_,_,_])).pull (pre:=[_,_,_,_,_,_,_,_,_,_,_,_,_,_,_])).pull (pre:=[_,_,_,_,_,_,_,_,_,_,_,_,_,_,_])).pull (pre:=[_,_,_,_,_,_,_,_,_,_,_,_,_,_,_])
         have hM:=M.fst (l:=[_,_,_,_,_,_,_,_,_,_,_,_,_,_,_,_]) (hM.pull (pre:=[_,_,_,_,_,_,_,_,_,_,_,_,_,_,_]))
         exact ⟨hE.sub ⟨rfl,rfl,rfl,rfl,rfl,rfl,rfl,rfl,rfl,rfl,rfl,rfl,rfl,rfl,trivial⟩,hM⟩
      ·skip
       rintro a w ⟨hE,hM⟩
       refine Zq hE rfl ?_ ?_
       ·intro hb84
        have hF76:=Zx hF76 hb84
        refine Zb (Zc hE rfl fun a hE=>Ze ?_)
        obtain rfl:=Option.some.inj hF76
        exact wp_ret (Zs (kr1 hE rfl rfl hM.kept))
       ·intro hb84
        have hF76:=Zw hF76 hb84
        refine wp_skip (Zt (wp_seq ?_))
        obtain ⟨j85,hl86,hF87⟩:=bind_some hF76
        refine ZM (fun a w=>Env 167 a [(1,v1_1),(2,v2_1),(4,(ptr b1 0)),(7,(ptr b3 0)),(10,(ptr b35 0)),(11,vI r25.2.1),(12,vI r25.2.2),(13,(ptr b48 0)),(14,u52),(15,u55),(16,(ptr b69 0)),(17,vI r59.2.1),(18,vI r59.2.2),(83,vT j85)] ∧ M (Old w0) w0 w [raw b69 (cat [[q56_5_0_1],[vI r59.1.Next],[q56_5_0_2],[q56_5_0_3],enc r59.1.Head]),own NoB (r59.1.Keys : (List (Vector UInt8 16))) [q56_5_0_1],own NoB (r59.1.Records : (List GRecord)) [q56_5_0_2],own NoB (r59.1.Events : (List GEvent)) [q56_5_0_3],osl NoB (r53 : List UInt8) u55,osl NoB (r50 : List UInt8) u52,raw b48 (cat [[u45],[vI r43.Next],[u46],[u47],enc r43.Head]),osl NoB (r43.Keys : List (Vector UInt8 16)) u45,osl NoB (r43.Records : List GRecord) u46,osl NoB (r43.Events : List GEvent) u47,raw b35 (cat [[q10_8_0_1],[vI r25.1.Next],[q10_8_0_2],[q10_8_0_3],enc r25.1.Head]),own NoB (r25.1.Keys : (List (Vector UInt8 16))) [q10_8_0_1],own NoB (r25.1.Records : (List GRecord)) [q10_8_0_2],own NoB (r25.1.Events : (List GEvent)) [q10_8_0_3],raw b3 (enc p3),raw b1 (cat [[v0_1],[vI p0.Next],[v0_2],[v0_3],enc p0.Head])]) ?_ ?_
        ·skip
         obtain ⟨r89,e90,hl86⟩:=bind_some hl86
         refine YA (its:=[raw b69 (cat [[q56_5_0_1],[vI r59.1.Next],[q56_5_0_2],[q56_5_0_3],enc r59.1.Head]),own NoB (r59.1.Keys : (List (Vector UInt8 16))) [q56_5_0_1],own NoB (r59.1.Records : (List GRecord)) [q56_5_0_2],own NoB (r59.1.Events : (List GEvent)) [q56_5_0_3],osl NoB (r53 : List UInt8) u55,osl NoB (r50 : List UInt8) u52,raw b48 (cat [[u45],[vI r43.Next],[u46],[u47],enc r43.Head]),osl NoB (r43.Keys : List (Vector UInt8 16)) u45,osl NoB (r43.Records : List GRecord) u46,osl NoB (r43.Events : List GEvent) u47,raw b35 (cat [[q10_8_0_1],[vI r25.1.Next],[q10_8_0_2],[q10_8_0_3],enc r25.1.Head]),own NoB (r25.1.Keys : (List (Vector UInt8 16))) [q10_8_0_1],own NoB (r25.1.Records : (List GRecord)) [q10_8_0_2],own NoB (r25.1.Events : (List GEvent)) [q10_8_0_3],raw b3 (enc p3),raw b1 (cat [[v0_1],[vI p0.Next],[v0_2],[v0_3],enc p0.Head])]) (mk:=([mkO 2 (fun v=>own NoB r89 (Value.cells v).toList)] : Mk)) [79,80,81] YL rfl rfl (by decide) rfl hE (fun u=>M.qE (M.q0 hM.drew u) emO) (qsP (v:=(Value.agg (cat [[u45],[vI r43.Next],[u46],[u47],enc r43.Head]).toArray)) ?_ (qsP (v:=(Value.agg (cat [[v0_1],[vI p0.Next],[v0_2],[v0_3],enc p0.Head]).toArray)) ?_ (qsM (pr:=fun v=>∃ cs,v = .agg cs) ?_ qs0))) ?_
         ·intro a w ux88 D z
          have hE:=z.E
          have hM:=z.M
          exact Zn hE rfl Ys rfl hM.rawAt6 cq fun a hE=>⟨Kept.refl _ _,_,rfl,hE⟩
         ·intro a w ux88 D z
          have hE:=z.E
          have hM:=z.M
          exact Zn hE rfl z6 rfl (hM.rawAt (pre:=[_,_,_,_,_,_,_,_,_,_,_,_,_,_,_])) cq fun a hE=>⟨Kept.refl _ _,_,rfl,hE⟩
         ·intro a w ux88 D z
          have hE:=z.E
          have hD : D 2 = false:=z.F
          have hM0:=z.M
          have hM:=z.M
          refine Zv hE rfl cb25 (Qw _ p0 v0_1 (hM.rdo hv0_1) v0_2 (hM.rdo hv0_2) v0_3 (hM.rdo hv0_3) r89 e90) ?_
          rintro _ w a ⟨u91,u92,u93,rfl,hFr,hK⟩ hE
          have hM:=TU (x:=r89) (hM0.add hK hFr) sio sio sio
          exact ⟨_,_,rfl,hE,M.qFill (mk1:=[]) (mk2:=[]) (f:=(fun v=>own NoB r89 (Value.cells v).toList)) hM rfl hD,⟨_,rfl⟩⟩
         ·intro a w ux88 D hE hM hG hall
          have d2:=hall 2 (by decide)
          have hM:=hM.sure (pre:=[_,_,_,_,_,_,_,_,_,_,_,_,_,_,_,_]) d2
          obtain ⟨q88_2_0_1,q88_2_0_2,q88_2_0_3,hcz,_,_,_⟩:=XD (hM.ro (pre:=[_,_,_,_,_,_,_,_,_,_,_,_,_,_,_,_]) noB)
          have qK94 : (ux88 2) = (Value.agg (cat [[q88_2_0_1],[vI r89.Next],[q88_2_0_2],[q88_2_0_3],enc r89.Head]).toArray):=Jz hcz (hG 2 d2 _ rfl).2
          have hM:=hM.pull (pre:=[_,_,_,_,_,_,_,_,_,_,_,_,_,_,_,_])
          have hM:=TS (hM.recown (congrArg (fun v=>(Value.cells v).toList) qK94))
          have hE:=hE.setq (t:=81) rfl qK94
          obtain ⟨r98,e99,hl86⟩:=bind_some hl86
          refine Zv hE rfl cb27 (QG _ r43 u45 (hM.sl (pre:=[_,_,_,_,_,_,_,_,_,_]) noB) u46 (hM.sl (pre:=[_,_,_,_,_,_,_,_,_,_,_]) noB) u47 (hM.sl (pre:=[_,_,_,_,_,_,_,_,_,_,_,_]) noB) r89 q88_2_0_1 (hM.ro (pre:=[]) noB) q88_2_0_2 (hM.ro (pre:=[_]) noB) q88_2_0_3 (hM.ro (pre:=[_,_]) noB) r98 e99) ?_
          rintro v w a ⟨rfl,hK⟩ hE
          have hM:=hM.keep hK
          refine Qo hE rfl fun a hE=>Zg ?_
          obtain rfl:=Option.some.inj hl86
          refine Zj ?_
          have hM:=(((hM.pull (pre:=[_,_,_,_,_,_,_,_,_,_,_,_,_,_,_,_,_,_])).pull (pre:=[_,_,_,_,_,_,_,_,_,_,_,_,_,_,_,_,_,_])).pull (pre:=[_,_,_,_,_,_,_,_,_,_,_,_,_,_,_,_,_,_])).pull (pre:=[_,_,_,_,_,_,_,_,_,_,_,_,_,_,_,_,_,_])
          have hM:=(((hM.pull (pre:=[_,_,_,_,_,_,_,_,_,_,_,_,_,_,_,_,_,_])).pull (pre:=[_,_,_,_,_,_,_,_,_,_,_,_,_,_,_,_,_,_])).pull (pre:=[_,_,_,_,_,_,_,_,_,_,_,_,_,_,_,_,_,_])).pull (pre:=[_,_,_,_,_,_,_,_,_,_,_,_,_,_,_,_,_,_])
          have hM:=(((hM.pull (pre:=[_,_,_,_,_,_,_,_,_,_,_,_,_,_,_,_,_,_])).pull (pre:=[_,_,_,_,_,_,_,_,_,_,_,_,_,_,_,_,_,_])).pull (pre:=[_,_,_,_,_,_,_,_,_,_,_,_,_,_,_,_,_,_])).pull (pre:=[_,_,_,_,_,_,_,_,_,_,_,_,_,_,_,_,_,_])
          have hM:=(((hM.pull (pre:=[_,_,_,_,_,_,_,_,_,_,_,_,_,_,_,_,_,_])).pull (pre:=[_,_,_,_,_,_,_,_,_,_,_,_,_,_,_,_,_,_])).pull (pre:=[_,_,_,_,_,_,_,_,_,_,_,_,_,_,_,_,_,_])).pull (pre:=[_,_,_,_,_,_,_,_,_,_,_,_,_,_,_,_,_,_])
          have hM:=M.fst (l:=[_,_,_,_,_,_,_,_,_,_,_,_,_,_,_,_]) hM
          exact ⟨hE.sub ⟨rfl,rfl,rfl,rfl,rfl,rfl,rfl,rfl,rfl,rfl,rfl,rfl,rfl,rfl,trivial⟩,hM⟩
        ·skip
         rintro a w ⟨hE,hM⟩
         refine Zq hE rfl ?_ ?_
         ·intro hb101
          have hF87:=Zx hF87 hb101
          refine Zb (Zc hE rfl fun a hE=>Ze ?_)
          obtain rfl:=Option.some.inj hF87
          exact wp_ret (Zs (kr1 hE rfl rfl hM.kept))
         ·intro hb101
          have hF87:=Zw hF87 hb101
          refine wp_skip (Zt (wp_seq (Zb (Zd hE rfl fun a hE=>Zd hE rfl ?_)))); intro a hE
          obtain ⟨r102,e103,hF87⟩:=bind_some hF87
          refine Zv hE rfl yc (Xq _ p1 v1_1 (hM.rdo hv1_1) r102 e103) ?_
          rintro u104 w a ⟨_,rfl,hFr,hK⟩ hE
          have hM:=hM.add hK hFr
          obtain ⟨r105,e106,hF87⟩:=bind_some hF87
          refine Zv hE rfl cb21 (Qy _ r50 u52 (hM.sl (pre:=[_,_,_,_,_,_]) noB) r102 u104 (hM.sl (pre:=[]) noB) r105 e106) ?_
          rintro v w a ⟨rfl,hK⟩ hE
          have hM:=hM.keep hK
          refine Qo hE rfl fun a hE=>Ze ?_
          refine Zq hE rfl ?_ ?_
          ·intro hb107
           have hF87:=Zx hF87 hb107
           refine Zb (Zc hE rfl fun a hE=>Ze ?_)
           obtain rfl:=Option.some.inj hF87
           exact wp_ret (Zs (kr1 hE rfl rfl hM.kept))
          ·intro hb107
           have hF87:=Zw hF87 hb107
           refine wp_skip (Zt (wp_seq (Zb (Zd hE rfl fun a hE=>Zd hE rfl ?_)))); intro a hE
           obtain ⟨r108,e109,hF87⟩:=bind_some hF87
           refine Zv hE rfl yc (Xq _ p2 v2_1 (hM.rdo hv2_1) r108 e109) ?_
           rintro u110 w a ⟨_,rfl,hFr,hK⟩ hE
           have hM:=hM.add hK hFr
           obtain ⟨r111,e112,hF87⟩:=bind_some hF87
           refine Zv hE rfl cb21 (Qy _ r53 u55 (hM.sl (pre:=[_,_,_,_,_,_]) noB) r108 u110 (hM.sl (pre:=[]) noB) r111 e112) ?_
           rintro v w a ⟨rfl,hK⟩ hE
           have hM:=hM.keep hK
           refine Qo hE rfl fun a hE=>Ze ?_
           refine Zq hE rfl ?_ ?_
           ·intro hb113
            have hF87:=Zx hF87 hb113
            refine Zb (Zc hE rfl fun a hE=>Ze ?_)
            obtain rfl:=Option.some.inj hF87
            exact wp_ret (Zs (kr1 hE rfl rfl hM.kept))
           ·intro hb113
            have hF87:=Zw hF87 hb113
            refine wp_skip (Zt (Zb (Zc hE rfl fun a hE=>Ze (Zb (Zn hE rfl Ys rfl hM.rawAt8 cq fun a hE=>Zd hE rfl ?_))))); intro a hE
            have hM:=((((((hM.pull9.toOwn noB).pull10).toOwn noB).pull11).toOwn noB).pull1).pull2
            obtain ⟨r114,e115,hF87⟩:=bind_some hF87
            refine Zv hE rfl (cbm Tryz.func28) (KK _ _ _ _ r43 u45 u46 u47 1 hM r114 e115) ?_
            rintro v w a ⟨rfl,hM⟩ hE
            refine Zc hE rfl fun a hE=>Ze (Zb (Zd hE rfl fun a hE=>Zd hE rfl ?_)); intro a hE
            have hM:=hM.pull10.toOwn noB
            obtain ⟨r116,e117,hF87⟩:=bind_some hF87
            refine Zv hE rfl cb22 (TK _ _ _ _ r50 u52 r114.2 hM r116 e117) ?_
            rintro v w a ⟨rfl,hM⟩ hE
            refine Zc hE rfl fun a hE=>Ze (Zb (Zd hE rfl fun a hE=>Zd hE rfl ?_)); intro a hE
            have hM:=hM.pull10.toOwn noB
            obtain ⟨r118,e119,hF87⟩:=bind_some hF87
            refine Zv hE rfl cb22 (TK _ _ _ _ r53 u55 r116.2 hM r118 e119) ?_
            rintro v w a ⟨rfl,hM⟩ hE
            refine Zc hE rfl fun a hE=>Ze (wp_seq ?_)
            obtain ⟨j120,hl121,hF122⟩:=bind_some hF87
            refine ZM (fun a w=>Env 167 a [(1,v1_1),(2,v2_1),(4,(ptr b1 0)),(7,(ptr b3 0)),(10,(ptr b35 0)),(11,vI r25.2.1),(12,vI r25.2.2),(16,(ptr b69 0)),(120,vT j120)] ∧ M (Old w0) w0 w [raw b69 (cat [[q56_5_0_1],[vI r59.1.Next],[q56_5_0_2],[q56_5_0_3],enc r59.1.Head]),own NoB (r59.1.Keys : (List (Vector UInt8 16))) [q56_5_0_1],own NoB (r59.1.Records : (List GRecord)) [q56_5_0_2],own NoB (r59.1.Events : (List GEvent)) [q56_5_0_3],raw b35 (cat [[q10_8_0_1],[vI r25.1.Next],[q10_8_0_2],[q10_8_0_3],enc r25.1.Head]),own NoB (r25.1.Keys : (List (Vector UInt8 16))) [q10_8_0_1],own NoB (r25.1.Records : (List GRecord)) [q10_8_0_2],own NoB (r25.1.Events : (List GEvent)) [q10_8_0_3],raw b3 (enc p3),raw b1 (cat [[v0_1],[vI p0.Next],[v0_2],[v0_3],enc p0.Head])]) ?_ ?_
            ·skip
             refine wp_region_lit (Zd hE rfl fun a hE=>Zh hE rfl rfl rfl fun a hE=>Zd hE rfl ?_); intro a hE
             refine Y0 (decide (r118.2 < 0)) (fun hb123=>?_) (fun hb123=>?_)
             ·have hl121:=Zx hl121 hb123
              refine Zm hE rfl (lkb rfl hb123) rfl (by decide) fun a hE=>Zm hE rfl (lkb rfl hb123) rfl (by decide) fun a hE=>Zm hE rfl (lkb rfl hb123) rfl (by decide) fun a hE=>Zm hE rfl (lkb rfl hb123) rfl (by decide) fun a hE=>ZW hE (lkb rfl hb123) rfl fun a hE=>Zd hE rfl fun a hE=>Zm hE rfl rfl rfl (by decide) fun a hE=>Zm hE rfl rfl rfl (by decide) fun a hE=>Zm hE rfl rfl rfl (by decide) fun a hE=>ZW hE rfl rfl fun a hE=>Zd hE rfl fun a hE=>Zm hE rfl rfl rfl (by decide) ?_; intro a hE
              refine Zm hE rfl rfl rfl (by decide) fun a hE=>Zm hE rfl rfl rfl (by decide) fun a hE=>ZW hE rfl rfl fun a hE=>Zg ?_
              obtain rfl:=Option.some.inj hl121
              refine Zj ?_
              have hM:=(((hM.pull (pre:=[_,_,_,_,_,_,_,_,_,_,_,_,_,_,_,_,_])).pull (pre:=[_,_,_,_,_,_,_,_,_,_,_,_,_,_,_,_,_])).pull (pre:=[_,_,_,_,_,_,_,_,_,_,_,_,_,_,_,_,_])).pull (pre:=[_,_,_,_,_,_,_,_,_,_,_,_,_,_,_,_,_])
              have hM:=(((hM.pull (pre:=[_,_,_,_,_,_,_,_,_,_,_,_,_,_,_,_,_])).pull (pre:=[_,_,_,_,_,_,_,_,_,_,_,_,_,_,_,_,_])).pull (pre:=[_,_,_,_,_,_,_,_,_,_,_,_,_,_,_,_])).pull (pre:=[_,_,_,_,_,_,_,_,_,_,_,_,_,_,_,_])
              have hM:=M.fst (l:=[_,_,_,_,_,_,_,_,_,_]) ((hM.pull (pre:=[_,_,_,_,_,_,_,_,_,_,_,_,_,_,_,_])).pull (pre:=[_,_,_,_,_,_,_,_,_,_,_,_,_,_,_,_]))
              exact ⟨hE.sub ⟨rfl,rfl,rfl,rfl,rfl,rfl,rfl,rfl,rfl,trivial⟩,hM⟩
             ·have hl121:=Zw hl121 hb123
              refine Yq hE (Zo hE rfl (lkb rfl hb123)) (by decide) rfl Ys rfl hM.rawAt7 cq fun a hE=>Yq hE (Zo hE rfl (lkb rfl hb123)) (by decide) rfl Ys rfl hM.rawAt12 cq ?_; intro a hE
              obtain ⟨r125,e126,hl121⟩:=bind_some hl121
              refine Z7 hE (Zo hE rfl (lkb rfl hb123)) (by decide) rfl cb27 (QG _ r59.1 q56_5_0_1 (hM.ro (pre:=[_,_,_,_,_,_,_,_]) noB) q56_5_0_2 (hM.ro (pre:=[_,_,_,_,_,_,_,_,_]) noB) q56_5_0_3 (hM.ro (pre:=[_,_,_,_,_,_,_,_,_,_]) noB) r25.1 q10_8_0_1 (hM.ro (pre:=[_,_,_,_,_,_,_,_,_,_,_,_,_]) noB) q10_8_0_2 (hM.ro (pre:=[_,_,_,_,_,_,_,_,_,_,_,_,_,_]) noB) q10_8_0_3 (hM.ro (pre:=[_,_,_,_,_,_,_,_,_,_,_,_,_,_,_]) noB) r125 e126) ?_
              rintro v w a ⟨rfl,hK⟩ hE
              have hM:=hM.keep hK
              refine Kz hE (Zo hE rfl (lkb rfl hb123)) (by decide) rfl fun a hE=>YV hE (lkb rfl hb123) rfl fun a hE=>Zd hE rfl ?_; intro a hE
              refine Y0 (!r125) (fun hb127=>?_) (fun hb127=>?_)
              ·have hl121:=Zx hl121 hb127
               refine Zm hE rfl (lkb rfl hb127) rfl (by decide) fun a hE=>Zm hE rfl (lkb rfl hb127) rfl (by decide) fun a hE=>Zm hE rfl (lkb rfl hb127) rfl (by decide) fun a hE=>ZW hE (lkb rfl hb127) rfl fun a hE=>Zd hE rfl fun a hE=>Zm hE rfl rfl rfl (by decide) fun a hE=>Zm hE rfl rfl rfl (by decide) fun a hE=>Zm hE rfl rfl rfl (by decide) fun a hE=>ZW hE rfl rfl fun a hE=>Zg ?_
               obtain rfl:=Option.some.inj hl121
               refine Zj ?_
               have hM:=(((hM.pull (pre:=[_,_,_,_,_,_,_,_,_,_,_,_,_,_,_,_,_])).pull (pre:=[_,_,_,_,_,_,_,_,_,_,_,_,_,_,_,_,_])).pull (pre:=[_,_,_,_,_,_,_,_,_,_,_,_,_,_,_,_,_])).pull (pre:=[_,_,_,_,_,_,_,_,_,_,_,_,_,_,_,_,_])
               have hM:=(((hM.pull (pre:=[_,_,_,_,_,_,_,_,_,_,_,_,_,_,_,_,_])).pull (pre:=[_,_,_,_,_,_,_,_,_,_,_,_,_,_,_,_,_])).pull (pre:=[_,_,_,_,_,_,_,_,_,_,_,_,_,_,_,_])).pull (pre:=[_,_,_,_,_,_,_,_,_,_,_,_,_,_,_,_])
               have hM:=M.fst (l:=[_,_,_,_,_,_,_,_,_,_]) ((hM.pull (pre:=[_,_,_,_,_,_,_,_,_,_,_,_,_,_,_,_])).pull (pre:=[_,_,_,_,_,_,_,_,_,_,_,_,_,_,_,_]))
               exact ⟨hE.sub ⟨rfl,rfl,rfl,rfl,rfl,rfl,rfl,rfl,rfl,trivial⟩,hM⟩
              ·have hl121:=Zw hl121 hb127
               refine Zu hE (Zo hE rfl (lkb rfl hb127)) (by decide) rfl fun a hE=>Zu hE (Zo hE rfl (lkb rfl hb127)) (by decide) rfl fun a hE=>Yb hE (Zo hE rfl (lkb rfl hb127)) (by decide) rfl rfl rfl fun a hE=>YV hE (lkb rfl hb127) rfl fun a hE=>Zd hE rfl ?_; intro a hE
               refine Y0 (r59.2.1 != r25.2.1) (fun hb129=>?_) (fun hb129=>?_)
               ·have hl121:=Zx hl121 hb129
                refine Zm hE rfl (lkb rfl hb129) rfl (by decide) fun a hE=>Zm hE rfl (lkb rfl hb129) rfl (by decide) fun a hE=>Zm hE rfl (lkb rfl hb129) rfl (by decide) fun a hE=>ZW hE (lkb rfl hb129) rfl fun a hE=>Zg ?_
                obtain rfl:=Option.some.inj hl121
                refine Zj ?_
                have hM:=(((hM.pull (pre:=[_,_,_,_,_,_,_,_,_,_,_,_,_,_,_,_,_])).pull (pre:=[_,_,_,_,_,_,_,_,_,_,_,_,_,_,_,_,_])).pull (pre:=[_,_,_,_,_,_,_,_,_,_,_,_,_,_,_,_,_])).pull (pre:=[_,_,_,_,_,_,_,_,_,_,_,_,_,_,_,_,_])
                have hM:=(((hM.pull (pre:=[_,_,_,_,_,_,_,_,_,_,_,_,_,_,_,_,_])).pull (pre:=[_,_,_,_,_,_,_,_,_,_,_,_,_,_,_,_,_])).pull (pre:=[_,_,_,_,_,_,_,_,_,_,_,_,_,_,_,_])).pull (pre:=[_,_,_,_,_,_,_,_,_,_,_,_,_,_,_,_])
                have hM:=M.fst (l:=[_,_,_,_,_,_,_,_,_,_]) ((hM.pull (pre:=[_,_,_,_,_,_,_,_,_,_,_,_,_,_,_,_])).pull (pre:=[_,_,_,_,_,_,_,_,_,_,_,_,_,_,_,_]))
                exact ⟨hE.sub ⟨rfl,rfl,rfl,rfl,rfl,rfl,rfl,rfl,rfl,trivial⟩,hM⟩
               ·have hl121:=Zw hl121 hb129
                refine Zu hE (Zo hE rfl (lkb rfl hb129)) (by decide) rfl fun a hE=>Zu hE (Zo hE rfl (lkb rfl hb129)) (by decide) rfl fun a hE=>Yb hE (Zo hE rfl (lkb rfl hb129)) (by decide) rfl rfl rfl fun a hE=>YV hE (lkb rfl hb129) rfl fun a hE=>Zg ?_
                obtain rfl:=Option.some.inj hl121
                refine Zj ?_
                have hM:=(((hM.pull (pre:=[_,_,_,_,_,_,_,_,_,_,_,_,_,_,_,_,_])).pull (pre:=[_,_,_,_,_,_,_,_,_,_,_,_,_,_,_,_,_])).pull (pre:=[_,_,_,_,_,_,_,_,_,_,_,_,_,_,_,_,_])).pull (pre:=[_,_,_,_,_,_,_,_,_,_,_,_,_,_,_,_,_])
                have hM:=(((hM.pull (pre:=[_,_,_,_,_,_,_,_,_,_,_,_,_,_,_,_,_])).pull (pre:=[_,_,_,_,_,_,_,_,_,_,_,_,_,_,_,_,_])).pull (pre:=[_,_,_,_,_,_,_,_,_,_,_,_,_,_,_,_])).pull (pre:=[_,_,_,_,_,_,_,_,_,_,_,_,_,_,_,_])
                have hM:=M.fst (l:=[_,_,_,_,_,_,_,_,_,_]) ((hM.pull (pre:=[_,_,_,_,_,_,_,_,_,_,_,_,_,_,_,_])).pull (pre:=[_,_,_,_,_,_,_,_,_,_,_,_,_,_,_,_]))
                exact ⟨hE.sub ⟨rfl,rfl,rfl,rfl,rfl,rfl,rfl,rfl,rfl,trivial⟩,hM⟩
            ·skip
             rintro a w ⟨hE,hM⟩
             refine Zq hE rfl ?_ ?_
             ·intro hb132
              have hF122:=Zx hF122 hb132
              refine Zb (Zc hE rfl fun a hE=>Ze ?_)
              obtain rfl:=Option.some.inj hF122
              exact wp_ret (Zs (kr1 hE rfl rfl hM.kept))
             ·intro hb132
              have hF122:=Zw hF122 hb132
              refine wp_skip (Zt (Zb (Zc hE rfl fun a hE=>Ze (Zb (Zn hE rfl Ys rfl hM.rawAt0 cq fun a hE=>Zd hE rfl ?_))))); intro a hE
              have hM:=hM.pull3.pull3.pull3
              obtain ⟨r133,e134,hF122⟩:=bind_some hF122
              refine Zv hE rfl (cbm Tryz.func28) (KK _ _ _ _ r59.1 q56_5_0_1 q56_5_0_2 q56_5_0_3 1 hM r133 e134) ?_
              rintro v w a ⟨rfl,hM⟩ hE
              refine Zc hE rfl fun a hE=>Ze (Zb (Zc hE rfl fun a hE=>Ze (Zb (Zn hE rfl Ys rfl hM.rawAt3 cq fun a hE=>Zd hE rfl ?_)))); intro a hE
              obtain ⟨r135,e136,hF122⟩:=bind_some hF122
              refine Zv hE rfl (cbm Tryz.func29) (KG _ (⟨r133.1.Keys,r59.1.Next,r133.1.Records,r133.1.Events,r59.1.Head⟩ : GVault) q56_5_0_1 (hM.ro (pre:=[]) noB) q56_5_0_2 (hM.ro (pre:=[_]) noB) q56_5_0_3 (hM.ro (pre:=[_,_]) noB) 1 r135 e136) ?_
              rintro v w a ⟨rfl,hK⟩ hE
              have hM:=hM.keep hK
              refine Zc hE rfl fun a hE=>Ze (wp_seq (Zb (Zd hE rfl fun a hE=>Zh hE rfl rfl rfl fun a hE=>Ze ?_)))
              refine Zq hE rfl ?_ ?_
              ·intro hb137
               have hF122:=Zx hF122 hb137
               refine Zb (Zc hE rfl fun a hE=>Ze ?_)
               obtain rfl:=Option.some.inj hF122
               exact wp_ret (Zs (kr1 hE rfl rfl hM.kept))
              ·intro hb137
               have hF122:=Zw hF122 hb137
               refine wp_skip (Zt (wp_seq (Zb (Zd hE rfl fun a hE=>Zd hE rfl fun a hE=>Zh hE rfl rfl rfl fun a hE=>Ze ?_))))
               refine Zq hE rfl ?_ ?_
               ·intro hb138
                have hF122:=Zx hF122 hb138
                refine Zb (Zc hE rfl fun a hE=>Ze ?_)
                obtain rfl:=Option.some.inj hF122
                exact wp_ret (Zs (kr1 hE rfl rfl hM.kept))
               ·intro hb138
                have hF122:=Zw hF122 hb138
                refine wp_skip (Zt (wp_seq ?_))
                obtain ⟨r140,e141,hF122⟩:=bind_some hF122
                obtain ⟨r146,e147,hF122⟩:=bind_some hF122
                obtain ⟨r149,e150,hF122⟩:=bind_some hF122
                obtain ⟨r152,e153,hF122⟩:=bind_some hF122
                obtain ⟨r154,e155,hF122⟩:=bind_some hF122
                refine YA (its:=[own NoB (r133.1.Keys : (List (Vector UInt8 16))) [q56_5_0_1],own NoB (r133.1.Records : (List GRecord)) [q56_5_0_2],own NoB (r133.1.Events : (List GEvent)) [q56_5_0_3],raw b69 (cat [[q56_5_0_1],[vI r59.1.Next],[q56_5_0_2],[q56_5_0_3],enc r59.1.Head]),raw b35 (cat [[q10_8_0_1],[vI r25.1.Next],[q10_8_0_2],[q10_8_0_3],enc r25.1.Head]),own NoB (r25.1.Keys : (List (Vector UInt8 16))) [q10_8_0_1],own NoB (r25.1.Records : (List GRecord)) [q10_8_0_2],own NoB (r25.1.Events : (List GEvent)) [q10_8_0_3],raw b3 (enc p3),raw b1 (cat [[v0_1],[vI p0.Next],[v0_2],[v0_3],enc p0.Head])]) (mk:=([mkO 1 (fun v=>own NoB r140 (Value.cells v).toList),mkO 3 (fun v=>osl NoB (r146 : List UInt8) v),mkO 5 (fun v=>osl NoB (r149 : List UInt8) v),mkO 8 (fun v=>own NoB r154.1 (Value.cells (Yu v 0)).toList),mkD 13 14 8 (cat [[(Value.slice none 0 0)],[vI 0],[(Value.slice none 0 0)],[(Value.slice none 0 0)],enc (Vector.replicate 32 (0 : UInt8))]) (fun v=>(Value.cells (Yu v 0)).toList)] : Mk)) [133,134,135,136,137,138,139,140,141,132,142,143,144,22,181,23] YL rfl rfl (by decide) rfl hE (fun u=>M.qE (M.qE (M.qE (M.qE (M.qE (M.q0 hM.drew u) emD) emO) emO) emO) emO) (qsP (v:=(Value.agg (cat [[v0_1],[vI p0.Next],[v0_2],[v0_3],enc p0.Head]).toArray)) ?_ (qsM (pr:=fun v=>∃ cs,v = .agg cs) ?_ (qsP (fun z=>Zu z.E Za ld rfl (kr0 rfl)) (qsM (pr:=fun v=>True) ?_ (qsP (fun z=>Zu z.E Za ld rfl (kr0 rfl)) (qsM (pr:=fun v=>True) ?_ (qsP (v:=(Value.agg (enc p3).toArray)) ?_ (qsP (fun z=>Z7 z.E Za ld rfl cb31 (To _ p3 r152 e153) (kc rfl)) (qsM (pr:=fun v=>v = (Value.tuple [(Yu v 0),vI r154.2.1,vI r154.2.2].toArray) ∧ ∃ cs,(Yu v 0) = .agg cs) ?_ (qsD (ds:=[8]) (f:=fun us=>(Value.tuple [(Yu (us.getD 0 undef) 0),vI r154.2.1,vI r154.2.2].toArray)) ?_ (qsD (ds:=[8]) (f:=fun us=>(Yu (us.getD 0 undef) 0)) ?_ (qsP (fun z=>W8 z.E Za ld rfl rfl (kr0 rfl)) (qsP (fun z=>W8 z.E Za ld rfl rfl (kr0 rfl)) (qsM (pr:=fun v=>True) ?_ (qsM (pr:=fun v=>True) ?_ (qsP (fun z=>Ko z.E Za ld rfl (kr0 rfl)) qs0)))))))))))))))) ?_
                ·intro a w ux139 D z
                 have hE:=z.E
                 have hM:=z.M
                 exact Zn hE rfl z6 rfl hM.rawAt9 cq fun a hE=>⟨Kept.refl _ _,_,rfl,hE⟩
                ·intro a w ux139 D z
                 have hE:=z.E
                 have hD : D 1 = false:=z.F
                 have hM0:=z.M
                 have hM:=z.M
                 refine Zv hE rfl cb25 (Qw _ p0 v0_1 (hM.rdo hv0_1) v0_2 (hM.rdo hv0_2) v0_3 (hM.rdo hv0_3) r140 e141) ?_
                 rintro _ w a ⟨u142,u143,u144,rfl,hFr,hK⟩ hE
                 have hM:=TU (x:=r140) (hM0.add hK hFr) sio sio sio
                 exact ⟨_,_,rfl,hE,M.qFill (mk1:=[]) (mk2:=[_,_,_,_]) (f:=(fun v=>own NoB r140 (Value.cells v).toList)) hM rfl hD,⟨_,rfl⟩⟩
                ·intro a w ux139 D z
                 have hE:=z.E
                 have hD : D 3 = false:=z.F
                 have hM0:=z.M
                 have hM:=z.M
                 refine Zv hE rfl yc (Xq _ p1 v1_1 (hM.rdo hv1_1) r146 e147) ?_
                 rintro _ w a ⟨_,rfl,hFr,hK⟩ hE
                 have hM:=hM0.add hK hFr
                 exact ⟨_,_,rfl,hE,M.qFill (mk1:=[_]) (mk2:=[_,_,_]) (f:=(fun v=>osl NoB (r146 : List UInt8) v)) hM rfl hD,trivial⟩
                ·intro a w ux139 D z
                 have hE:=z.E
                 have hD : D 5 = false:=z.F
                 have hM0:=z.M
                 have hM:=z.M
                 refine Zv hE rfl yc (Xq _ p2 v2_1 (hM.rdo hv2_1) r149 e150) ?_
                 rintro _ w a ⟨_,rfl,hFr,hK⟩ hE
                 have hM:=hM0.add hK hFr
                 exact ⟨_,_,rfl,hE,M.qFill (mk1:=[_,_]) (mk2:=[_,_]) (f:=(fun v=>osl NoB (r149 : List UInt8) v)) hM rfl hD,trivial⟩
                ·intro a w ux139 D z
                 have hE:=z.E
                 have hM:=z.M
                 exact Zn hE rfl kU rfl hM.rawAt8 (Flat.len _) fun a hE=>⟨Kept.refl _ _,_,rfl,hE⟩
                ·intro a w ux139 D z
                 have hE:=z.E
                 have hD : D 8 = false:=z.F
                 have d1 : D 1 = true:=z.p 0 _ rfl rfl
                 have d3 : D 3 = true:=z.p 1 _ rfl rfl
                 have d5 : D 5 = true:=z.p 2 _ rfl rfl
                 have hM0:=z.M
                 have hM:=((z.M.sure (pre:=[_,_,_,_,_,_,_,_,_,_]) d1).sure (pre:=[_,_,_,_,_,_,_,_,_,_,_]) d3).sure (pre:=[_,_,_,_,_,_,_,_,_,_,_,_]) d5
                 obtain ⟨q139_1_0_1,q139_1_0_2,q139_1_0_3,hcz,hq139_1_0_1,hq139_1_0_2,hq139_1_0_3⟩:=XD (hM.ro (pre:=[_,_,_,_,_,_,_,_,_,_]) noB)
                 have qK145 : (ux139 1) = (Value.agg (cat [[q139_1_0_1],[vI r140.Next],[q139_1_0_2],[q139_1_0_3],enc r140.Head]).toArray):=Jz hcz (z.G 1 (by assumption) _ rfl).2
                 refine Zv hE (kH (zF (lk rfl qK145) (zF rfl (zF rfl (zF rfl evsN))))) (cbm Tryz.func32) (Je _ r140 q139_1_0_1 hq139_1_0_1 q139_1_0_2 hq139_1_0_2 q139_1_0_3 hq139_1_0_3 r146 (ux139 3) (hM.sl (pre:=[_,_,_,_,_,_,_,_,_,_,_]) noB) r149 (ux139 5) (hM.sl (pre:=[_,_,_,_,_,_,_,_,_,_,_,_]) noB) r152 r154 e155) ?_
                 rintro _ w a ⟨u156,u157,u158,rfl,hFr,hK⟩ hE
                 have hM:=TU (x:=r154.1) (hM0.add hK hFr) sio sio sio
                 have hsD : D 14 = false:=Tm (j:=14) (k:=2) z.c rfl rfl rfl hD
                 have hM:=M.dOff (its:=_ :: [own NoB (r133.1.Keys : (List (Vector UInt8 16))) [q56_5_0_1],own NoB (r133.1.Records : (List GRecord)) [q56_5_0_2],own NoB (r133.1.Events : (List GEvent)) [q56_5_0_3],raw b69 (cat [[q56_5_0_1],[vI r59.1.Next],[q56_5_0_2],[q56_5_0_3],enc r59.1.Head]),raw b35 (cat [[q10_8_0_1],[vI r25.1.Next],[q10_8_0_2],[q10_8_0_3],enc r25.1.Head]),own NoB (r25.1.Keys : (List (Vector UInt8 16))) [q10_8_0_1],own NoB (r25.1.Records : (List GRecord)) [q10_8_0_2],own NoB (r25.1.Events : (List GEvent)) [q10_8_0_3],raw b3 (enc p3),raw b1 (cat [[v0_1],[vI p0.Next],[v0_2],[v0_3],enc p0.Head])]) (mk1:=([mkO 1 (fun v=>own NoB r140 (Value.cells v).toList),mkO 3 (fun v=>osl NoB (r146 : List UInt8) v),mkO 5 (fun v=>osl NoB (r149 : List UInt8) v),mkO 8 (fun v=>own NoB r154.1 (Value.cells (Yu v 0)).toList)] : Mk)) (mk2:=([] : Mk)) (i:=13) (s:=14) (k:=8) (z:=cat [[(Value.slice none 0 0)],[vI 0],[(Value.slice none 0 0)],[(Value.slice none 0 0)],enc (Vector.replicate 32 (0 : UInt8))]) (f:=(fun v=>(Value.cells (Yu v 0)).toList)) hM hsD
                 exact ⟨_,_,rfl,hE,M.dOn (its:=[own NoB (r133.1.Keys : (List (Vector UInt8 16))) [q56_5_0_1],own NoB (r133.1.Records : (List GRecord)) [q56_5_0_2],own NoB (r133.1.Events : (List GEvent)) [q56_5_0_3],raw b69 (cat [[q56_5_0_1],[vI r59.1.Next],[q56_5_0_2],[q56_5_0_3],enc r59.1.Head]),raw b35 (cat [[q10_8_0_1],[vI r25.1.Next],[q10_8_0_2],[q10_8_0_3],enc r25.1.Head]),own NoB (r25.1.Keys : (List (Vector UInt8 16))) [q10_8_0_1],own NoB (r25.1.Records : (List GRecord)) [q10_8_0_2],own NoB (r25.1.Events : (List GEvent)) [q10_8_0_3],raw b3 (enc p3),raw b1 (cat [[v0_1],[vI p0.Next],[v0_2],[v0_3],enc p0.Head])]) (mk1:=([mkO 1 (fun v=>own NoB r140 (Value.cells v).toList),mkO 3 (fun v=>osl NoB (r146 : List UInt8) v),mkO 5 (fun v=>osl NoB (r149 : List UInt8) v),mkO 8 (fun v=>own NoB r154.1 (Value.cells (Yu v 0)).toList)] : Mk)) (mk2:=([] : Mk)) (i:=13) (s:=14) (k:=8) (z:=cat [[(Value.slice none 0 0)],[vI 0],[(Value.slice none 0 0)],[(Value.slice none 0 0)],enc (Vector.replicate 32 (0 : UInt8))]) (f:=(fun v=>(Value.cells (Yu v 0)).toList)) (M.qFill (its:=[own NoB (r133.1.Keys : (List (Vector UInt8 16))) [q56_5_0_1],own NoB (r133.1.Records : (List GRecord)) [q56_5_0_2],own NoB (r133.1.Events : (List GEvent)) [q56_5_0_3],raw b69 (cat [[q56_5_0_1],[vI r59.1.Next],[q56_5_0_2],[q56_5_0_3],enc r59.1.Head]),raw b35 (cat [[q10_8_0_1],[vI r25.1.Next],[q10_8_0_2],[q10_8_0_3],enc r25.1.Head]),own NoB (r25.1.Keys : (List (Vector UInt8 16))) [q10_8_0_1],own NoB (r25.1.Records : (List GRecord)) [q10_8_0_2],own NoB (r25.1.Events : (List GEvent)) [q10_8_0_3],raw b3 (enc p3),raw b1 (cat [[v0_1],[vI p0.Next],[v0_2],[v0_3],enc p0.Head])]) (mk1:=[_,_,_]) (mk2:=[_]) (f:=(fun v=>own NoB r154.1 (Value.cells (Yu v 0)).toList)) hM rfl hD) hsD (by decide),⟨rfl,⟨_,rfl⟩⟩⟩
                ·intro a w ux139 D z
                 have hE:=z.E
                 have d8 : D 8 = true:=z.p 0 _ rfl rfl
                 have g8:=z.G 8 d8 _ rfl
                 have f8 : ux139 8 = (Value.tuple [(Yu (ux139 8) 0),vI r154.2.1,vI r154.2.2].toArray):=g8.2.1
                 exact Zd hE (lk rfl f8) fun a hE=>⟨Kept.refl _ _,(BS d8 zk),_,rfl,hE⟩
                ·intro a w ux139 D z
                 have hE:=z.E
                 have d9 : D 9 = true:=z.p 0 _ rfl rfl
                 have d8 : D 8 = true:=z.c 9 _ _ rfl (List.mem_of_getElem? (i:=0) rfl) rfl d9
                 exact W8 hE Za ld rfl rfl fun a hE=>⟨Kept.refl _ _,(BS d8 zk),_,rfl,hE⟩
                ·intro a w ux139 D z
                 have hE:=z.E
                 have hD : D 13 = false:=z.F
                 have hM:=z.M
                 refine Zz hE hM Ys ?_; intro b160 w a hM hE
                 have hs : D 14 = false:=Tm (j:=14) (k:=0) z.c rfl rfl rfl hD
                 exact ⟨_,_,rfl,hE,M.qAllocD (mk1:=[_,_,_,_]) (mk2:=[]) hM rfl hD hs (by decide),trivial⟩
                ·intro a w ux139 D z
                 have hE:=z.E
                 have hD : D 14 = false:=z.F
                 have d13 : D 13 = true:=z.p 0 _ rfl rfl
                 have d10 : D 10 = true:=z.p 1 _ rfl rfl
                 have g10:=z.G 10 d10 _ rfl
                 have d8 : D 8 = true:=g10.1 8 (show 8 ∈ [8] by decide)
                 have hM:=z.M.sure (pre:=[_,_,_,_,_,_,_,_,_,_,_,_,_]) d8
                 obtain ⟨q139_8_0_1,q139_8_0_2,q139_8_0_3,hcz,hq139_8_0_1,hq139_8_0_2,hq139_8_0_3⟩:=XD (hM.ro (pre:=[_,_,_,_,_,_,_,_,_,_,_,_,_]) noB)
                 have qK159 : (Yu (ux139 8) 0) = (Value.agg (cat [[q139_8_0_1],[vI r154.1.Next],[q139_8_0_2],[q139_8_0_3],enc r154.1.Head]).toArray):=Jz hcz (z.G 8 (by assumption) _ rfl).2.2
                 obtain ⟨b162,hb163,hM⟩:=M.openCellF (pre:=[_,_,_,_,_,_,_,_,_,_,_,_,_,_]) hM d13 hD
                 refine Zl (seg:=cat [[q139_8_0_1],[vI r154.1.Next],[q139_8_0_2],[q139_8_0_3],enc r154.1.Head]) (cs':=cat [[q139_8_0_1],[vI r154.1.Next],[q139_8_0_2],[q139_8_0_3],enc r154.1.Head]) hE hM Za (lk rfl hb163) (lk rfl qK159) rfl Ys cq (Nat.le_of_eq ((Nat.zero_add _).trans (Eq.trans cq (Eq.symm cq)))) (ZZ (cc1 (Rep.cell hq139_8_0_1) (cc1 (Flat.cell (r154.1.Next : Int)) (cc1 (Rep.cell hq139_8_0_2) (cc1 (Rep.cell hq139_8_0_3) (cc1 (Flat.cell _) cc0)))))) (Zi (Eq.trans cq (Eq.symm cq))) ?_; intro w a hM hE
                 have hM:=(M.recell hM (show _ = (Value.cells (Yu (ux139 8) 0)).toList from by rw [qK159]; rfl)).unsure (pre:=[_,_,_,_,_,_,_,_,_,_,_,_,_,_]) d8
                 exact ⟨undef,_,rfl,Env.dummy hE (by decide),M.qStoreD (its:=[own NoB (r133.1.Keys : (List (Vector UInt8 16))) [q56_5_0_1],own NoB (r133.1.Records : (List GRecord)) [q56_5_0_2],own NoB (r133.1.Events : (List GEvent)) [q56_5_0_3],raw b69 (cat [[q56_5_0_1],[vI r59.1.Next],[q56_5_0_2],[q56_5_0_3],enc r59.1.Head]),raw b35 (cat [[q10_8_0_1],[vI r25.1.Next],[q10_8_0_2],[q10_8_0_3],enc r25.1.Head]),own NoB (r25.1.Keys : (List (Vector UInt8 16))) [q10_8_0_1],own NoB (r25.1.Records : (List GRecord)) [q10_8_0_2],own NoB (r25.1.Events : (List GEvent)) [q10_8_0_3],raw b3 (enc p3),raw b1 (cat [[v0_1],[vI p0.Next],[v0_2],[v0_3],enc p0.Head])]) (mk1:=[_,_,_,_]) (mk2:=[]) (i:=13) (s:=14) (k:=8) (z:=cat [[(Value.slice none 0 0)],[vI 0],[(Value.slice none 0 0)],[(Value.slice none 0 0)],enc (Vector.replicate 32 (0 : UInt8))]) (f:=(fun v=>(Value.cells (Yu v 0)).toList)) hM rfl d13 hb163 (by decide) (by decide),trivial⟩
                ·intro a w ux139 D hE hM hG hall
                 have d1:=hall 1 (by decide)
                 have d3:=hall 3 (by decide)
                 have d5:=hall 5 (by decide)
                 have d8:=hall 8 (by decide)
                 have d13:=hall 13 (by decide)
                 have d14:=hall 14 (by decide)
                 have hM:=(((hM.sure (pre:=[_,_,_,_,_,_,_,_,_,_]) d1).sure (pre:=[_,_,_,_,_,_,_,_,_,_,_]) d3).sure (pre:=[_,_,_,_,_,_,_,_,_,_,_,_]) d5).sure (pre:=[_,_,_,_,_,_,_,_,_,_,_,_,_]) d8
                 obtain ⟨b164,f165,hM⟩:=M.openCellT (pre:=[_,_,_,_,_,_,_,_,_,_,_,_,_,_]) hM d13 d14
                 obtain ⟨q139_1_0_1,q139_1_0_2,q139_1_0_3,hcz,_,_,_⟩:=XD (hM.ro (pre:=[_,_,_,_,_,_,_,_,_,_,_]) noB)
                 have qK145 : (ux139 1) = (Value.agg (cat [[q139_1_0_1],[vI r140.Next],[q139_1_0_2],[q139_1_0_3],enc r140.Head]).toArray):=Jz hcz (hG 1 d1 _ rfl).2
                 have hM:=hM.pull11
                 have hM:=TS (hM.recown (congrArg (fun v=>(Value.cells v).toList) qK145))
                 obtain ⟨q139_8_0_1,q139_8_0_2,q139_8_0_3,hcz,_,_,_⟩:=XD (hM.ro (pre:=[_,_,_,_,_,_,_,_,_,_,_,_,_,_,_,_]) noB)
                 have qK159 : (Yu (ux139 8) 0) = (Value.agg (cat [[q139_8_0_1],[vI r154.1.Next],[q139_8_0_2],[q139_8_0_3],enc r154.1.Head]).toArray):=Jz hcz (hG 8 d8 _ rfl).2.2
                 have hM:=hM.pull (pre:=[_,_,_,_,_,_,_,_,_,_,_,_,_,_,_,_])
                 have hM:=(TS (hM.recown (congrArg (fun v=>(Value.cells v).toList) qK159))).pull6
                 have hM:=M.recell (c':=cat [[q139_8_0_1],[vI r154.1.Next],[q139_8_0_2],[q139_8_0_3],enc r154.1.Head]) hM (congrArg (fun v=>(Value.cells v).toList) qK159)
                 have hE:=hE.setq (t:=134) rfl qK145
                 have hE:=hE.setq (t:=142) rfl qK159
                 have hE:=hE.setq (t:=22) rfl f165
                 refine Zc hE rfl fun a hE=>Zg (Zt (wp_seq ?_))
                 obtain ⟨j172,hl173,hF174⟩:=bind_some hF122
                 refine ZM (fun a w=>Env 167 a [(16,(ptr b69 0)),(20,vI r133.2),(158,vT j172)] ∧ M (Old w0) w0 w [own NoB (r133.1.Keys : (List (Vector UInt8 16))) [q56_5_0_1],own NoB (r133.1.Records : (List GRecord)) [q56_5_0_2],own NoB (r133.1.Events : (List GEvent)) [q56_5_0_3],raw b69 (cat [[q56_5_0_1],[vI r59.1.Next],[q56_5_0_2],[q56_5_0_3],enc r59.1.Head])]) ?_ ?_
                 ·skip
                  refine wp_region_lit (Zn hE rfl Ys rfl hM.rawAt0 cq fun a hE=>Zn hE rfl Ys rfl hM.rawAt11 cq ?_); intro a hE
                  obtain ⟨r175,e176,hl173⟩:=bind_some hl173
                  refine Zv hE rfl cb27 (QG _ r154.1 q139_8_0_1 (hM.ro (pre:=[_]) noB) q139_8_0_2 (hM.ro (pre:=[_,_]) noB) q139_8_0_3 (hM.ro (pre:=[_,_,_]) noB) r25.1 q10_8_0_1 (hM.ro (pre:=[_,_,_,_,_,_,_,_,_,_,_,_]) noB) q10_8_0_2 (hM.ro (pre:=[_,_,_,_,_,_,_,_,_,_,_,_,_]) noB) q10_8_0_3 (hM.ro (pre:=[_,_,_,_,_,_,_,_,_,_,_,_,_,_]) noB) r175 e176) ?_
                  rintro v w a ⟨rfl,hK⟩ hE
                  have hM:=hM.keep hK
                  refine Qo hE rfl fun a hE=>Zd hE rfl ?_; intro a hE
                  refine Y0 (!r175) (fun hb177=>?_) (fun hb177=>?_)
                  ·have hl173:=Zx hl173 hb177
                   refine Zm hE rfl (lkb rfl hb177) rfl (by decide) fun a hE=>Zm hE rfl (lkb rfl hb177) rfl (by decide) fun a hE=>Zm hE rfl (lkb rfl hb177) rfl (by decide) fun a hE=>ZW hE (lkb rfl hb177) rfl fun a hE=>Zd hE rfl fun a hE=>Zm hE rfl rfl rfl (by decide) fun a hE=>Zm hE rfl rfl rfl (by decide) fun a hE=>Zm hE rfl rfl rfl (by decide) fun a hE=>ZW hE rfl rfl fun a hE=>Zg ?_
                   obtain rfl:=Option.some.inj hl173
                   refine Zj ?_
                   have hM:=M.fst (l:=[_,_,_,_]) hM.pull10.pull10.pull10.pull10
                   exact ⟨hE.sub ⟨rfl,rfl,rfl,trivial⟩,hM⟩
                  ·have hl173:=Zw hl173 hb177
                   refine Zu hE (Zo hE rfl (lkb rfl hb177)) (by decide) rfl fun a hE=>Zu hE (Zo hE rfl (lkb rfl hb177)) (by decide) rfl fun a hE=>Yb hE (Zo hE rfl (lkb rfl hb177)) (by decide) rfl rfl rfl fun a hE=>YV hE (lkb rfl hb177) rfl fun a hE=>Zd hE rfl ?_; intro a hE
                   refine Y0 (r154.2.1 != r25.2.1) (fun hb179=>?_) (fun hb179=>?_)
                   ·have hl173:=Zx hl173 hb179
                    refine Zm hE rfl (lkb rfl hb179) rfl (by decide) fun a hE=>Zm hE rfl (lkb rfl hb179) rfl (by decide) fun a hE=>Zm hE rfl (lkb rfl hb179) rfl (by decide) fun a hE=>ZW hE (lkb rfl hb179) rfl fun a hE=>Zg ?_
                    obtain rfl:=Option.some.inj hl173
                    refine Zj ?_
                    have hM:=M.fst (l:=[_,_,_,_]) hM.pull10.pull10.pull10.pull10
                    exact ⟨hE.sub ⟨rfl,rfl,rfl,trivial⟩,hM⟩
                   ·have hl173:=Zw hl173 hb179
                    refine Zu hE (Zo hE rfl (lkb rfl hb179)) (by decide) rfl fun a hE=>Zu hE (Zo hE rfl (lkb rfl hb179)) (by decide) rfl fun a hE=>Yb hE (Zo hE rfl (lkb rfl hb179)) (by decide) rfl rfl rfl fun a hE=>YV hE (lkb rfl hb179) rfl fun a hE=>Zg ?_
                    obtain rfl:=Option.some.inj hl173
                    refine Zj ?_
                    have hM:=M.fst (l:=[_,_,_,_]) hM.pull10.pull10.pull10.pull10
                    exact ⟨hE.sub ⟨rfl,rfl,rfl,trivial⟩,hM⟩
                 ·skip
                  rintro a w ⟨hE,hM⟩
                  refine Zq hE rfl ?_ ?_
                  ·intro hb182
                   have hF174:=Zx hF174 hb182
                   refine Zb (Zc hE rfl fun a hE=>Ze ?_)
                   obtain rfl:=Option.some.inj hF174
                   exact wp_ret (Zs (kr1 hE rfl rfl hM.kept))
                  ·intro hb182
                   have hF174:=Zw hF174 hb182
                   refine wp_skip (Zt (Zb (Zc hE rfl fun a hE=>Ze (Zb (Zn hE rfl Ys rfl hM.rawAt3 cq fun a hE=>Zd hE rfl ?_))))); intro a hE
                   obtain ⟨r183,e184,hF174⟩:=bind_some hF174
                   refine Zv hE rfl (cbm Tryz.func29) (KG _ (⟨r133.1.Keys,r59.1.Next,r133.1.Records,r133.1.Events,r59.1.Head⟩ : GVault) q56_5_0_1 (hM.ro (pre:=[]) noB) q56_5_0_2 (hM.ro (pre:=[_]) noB) q56_5_0_3 (hM.ro (pre:=[_,_]) noB) 1 r183 e184) ?_
                   rintro v w a ⟨rfl,hK⟩ hE
                   have hM:=hM.keep hK
                   refine Zc hE rfl fun a hE=>Ze (wp_seq (Zb (Zd hE rfl fun a hE=>Zh hE rfl rfl rfl fun a hE=>Ze ?_)))
                   refine Zq hE rfl ?_ ?_
                   ·intro hb185
                    have hF174:=Zx hF174 hb185
                    refine Zb (Zc hE rfl fun a hE=>Ze ?_)
                    obtain rfl:=Option.some.inj hF174
                    exact wp_ret (Zs (kr1 hE rfl rfl hM.kept))
                   ·intro hb185
                    have hF174:=Zw hF174 hb185
                    refine wp_skip (Zt (wp_seq (Zb (Zd hE rfl fun a hE=>Zd hE rfl fun a hE=>Zh hE rfl rfl rfl fun a hE=>Ze ?_))))
                    refine Zq hE rfl ?_ ?_
                    ·intro hb186
                     have hF174:=Zx hF174 hb186
                     refine Zb (Zc hE rfl fun a hE=>Ze ?_)
                     obtain rfl:=Option.some.inj hF174
                     exact wp_ret (Zs (kr1 hE rfl rfl hM.kept))
                    ·intro hb186
                     have hF174:=Zw hF174 hb186
                     refine wp_skip (Zt (Zb (Zc hE rfl fun a hE=>Ze ?_)))
                     obtain rfl:=Option.some.inj hF174
                     exact wp_ret (kr1 hE rfl rfl hM.kept)
end

end Go.Proofs.YtpibglnacohdkaaGreat
