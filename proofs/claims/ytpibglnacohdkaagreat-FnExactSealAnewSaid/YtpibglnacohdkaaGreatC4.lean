/- The walk of what the law reaches: contracts of functions. -/
import Derived.Test.YtpibglnacohdkaaGreatC3
set_option linter.unusedVariables false
set_option linter.unusedSimpArgs false
set_option maxRecDepth 20000
set_option maxHeartbeats 400000
namespace Go.Proofs.YtpibglnacohdkaaGreat
open Go
open Flat (enc)
noncomputable section
theorem K8 (w0 : World) (p0 : GVault) (v0_1 : Value) (hv0_1 : Ro w0 p0.Keys [v0_1]) (v0_2 : Value) (hv0_2 : Ro w0 p0.Records [v0_2]) (v0_3 : Value) (hv0_3 : Ro w0 p0.Events [v0_3]) (p1 : Int) (p2 : (Vector UInt8 16)) (r : Bool) (hF : W0 p0 p1 p2 = some r) :
  Calls Tryz.prog 7 [(Value.agg (cat [[v0_1],[vI p0.Next],[v0_2],[v0_3],enc p0.Head]).toArray),vI p1,(Value.agg (enc p2).toArray)].toArray w0 (Rt w0 (vT r)):=by
 refine ce Tryz.func7 ?_
 intro a hE
 have hM:=M.start w0
 unfold W0 at hF
 refine Zb (ZK (cs:=cat [[v0_1],[vI p0.Next],[v0_2],[v0_3],enc p0.Head]) hE hM Za ld rfl rfl fun b1 w a hM hE=>ZK (cs:=enc p2) hE hM Za ld rfl rfl fun b3 w a hM hE=>Zc hE rfl fun a hE=>Ze (Zb (Zc hE rfl fun a hE=>Ze (Zb (Zm hE rfl yt rfl hM.rawAt1 cq fun a hE=>Zd hE rfl ?_))))); intro a hE
 obtain ⟨r5,e6,hF⟩:=bind_some hF
 refine Zv hE rfl (cbm Tryz.func23) (zy _ p0 v0_1 (hM.rdo hv0_1) v0_2 (hM.rdo hv0_2) v0_3 (hM.rdo hv0_3) 1048576 r5 e6) ?_
 rintro v w a ⟨rfl,hK⟩ hE
 have hM:=hM.keep hK
 refine Zc hE rfl fun a hE=>Ze (wp_seq (Zb (Zd hE rfl fun a hE=>Zh hE rfl rfl rfl fun a hE=>Ze ?_)))
 refine Zo hE rfl ?_ ?_
 ·intro hb7
  have hF:=Zw hF hb7
  refine Zb (Zc hE rfl fun a hE=>Ze ?_)
  obtain rfl:=Option.some.inj hF
  exact wp_ret (Zs (kr1 hE rfl rfl hM.kept))
 ·intro hb7
  have hF:=Zx hF hb7
  refine wp_skip (Zt (wp_seq ?_))
  obtain ⟨r9,e10,hF⟩:=bind_some hF
  obtain ⟨r15,e16,hF⟩:=bind_some hF
  obtain ⟨r17,e18,hF⟩:=bind_some hF
  refine YC (its:=[raw b3 (enc p2),raw b1 (cat [[v0_1],[vI p0.Next],[v0_2],[v0_3],enc p0.Head])]) (mk:=([mkO 1 (fun v=>own NoB r9 (Value.cells v).toList),mkO 5 (fun v=>own NoB r17.1 (Value.cells (Yv v 0)).toList),mkD 9 10 5 (cat [[(Value.slice none 0 0)],[vI 0],[(Value.slice none 0 0)],[(Value.slice none 0 0)],enc (Vector.replicate 32 (0 : UInt8))]) (fun v=>(Value.cells (Yv v 0)).toList)] : Mk)) [24,25,26,27,28,29,23,30,31,8,119] YF rfl rfl (by decide) rfl hE (fun u=>M.qE (M.qE (M.qE (M.q0 hM.drew u) emD) emO) emO) (qsP (v:=(Value.agg (cat [[v0_1],[vI p0.Next],[v0_2],[v0_3],enc p0.Head]).toArray)) ?_ (qsM (pr:=fun v=>∃ cs,v = .agg cs) ?_ (qsP (fun z=>Zu z.E Za ld rfl (kr0 rfl)) (qsP (v:=(Value.agg (enc p2).toArray)) ?_ (qsP (fun z=>Z0 z.E Za ld rfl cb31 (TJ _ p2 r15 e16) (kc rfl)) (qsM (pr:=fun v=>v = (Value.tuple [(Yv v 0),vI r17.2].toArray) ∧ ∃ cs,(Yv v 0) = .agg cs) ?_ (qsD (ds:=[5]) (f:=fun us=>(Value.tuple [(Yv (us.getD 0 undef) 0),vI r17.2].toArray)) ?_ (qsD (ds:=[5]) (f:=fun us=>(Yv (us.getD 0 undef) 0)) ?_ (qsP (fun z=>WG z.E Za ld rfl rfl (kr0 rfl)) (qsM (pr:=fun v=>True) ?_ (qsM (pr:=fun v=>True) ?_ qs0))))))))))) ?_
  ·intro a w ux8 D z
   have hE:=z.E
   have hM:=z.M
   exact Zm hE rfl yt rfl hM.rawAt1 cq fun a hE=>⟨Kept.refl _ _,_,rfl,hE⟩
  ·intro a w ux8 D z
   have hE:=z.E
   have hD : D 1 = false:=z.F
   have hM0:=z.M
   have hM:=z.M
   refine Zv hE rfl cb25 (QJ _ p0 v0_1 (hM.rdo hv0_1) v0_2 (hM.rdo hv0_2) v0_3 (hM.rdo hv0_3) r9 e10) ?_
   rintro _ w a ⟨u11,u12,u13,rfl,hFr,hK⟩ hE
   have hM:=Qs (x:=r9) (hM0.add hK hFr) sio sio sio
   exact ⟨_,_,rfl,hE,M.qFill (mk1:=[]) (mk2:=[_,_]) (f:=(fun v=>own NoB r9 (Value.cells v).toList)) hM rfl hD,⟨_,rfl⟩⟩
  ·intro a w ux8 D z
   have hE:=z.E
   have hM:=z.M
   exact Zm hE rfl qg rfl hM.rawAt0 (Flat.len _) fun a hE=>⟨Kept.refl _ _,_,rfl,hE⟩
  ·intro a w ux8 D z
   have hE:=z.E
   have hD : D 5 = false:=z.F
   have d1 : D 1 = true:=z.p 0 _ rfl rfl
   have hM0:=z.M
   have hM:=z.M.sure (pre:=[_,_]) d1
   obtain ⟨q8_1_0_1,q8_1_0_2,q8_1_0_3,hcz,hq8_1_0_1,hq8_1_0_2,hq8_1_0_3⟩:=WB (hM.ro (pre:=[_,_]) noB)
   have qK14 : (ux8 1) = (Value.agg (cat [[q8_1_0_1],[vI r9.Next],[q8_1_0_2],[q8_1_0_3],enc r9.Head]).toArray):=H1 hcz (z.G 1 (by assumption) _ rfl).2
   refine Zv hE (qs (jM (lk rfl qK14) (jM rfl (jM rfl evsN)))) (cbm Tryz.func33) (AM _ r9 q8_1_0_1 hq8_1_0_1 q8_1_0_2 hq8_1_0_2 q8_1_0_3 hq8_1_0_3 p1 r15 r17 e18) ?_
   rintro _ w a ⟨u19,u20,u21,rfl,hFr,hK⟩ hE
   have hM:=Qs (x:=r17.1) (hM0.add hK hFr) sio sio sio
   have hsD : D 10 = false:=Q9 (j:=10) (k:=2) z.c rfl rfl rfl hD
   have hM:=M.dOff (its:=_ :: [raw b3 (enc p2),raw b1 (cat [[v0_1],[vI p0.Next],[v0_2],[v0_3],enc p0.Head])]) (mk1:=([mkO 1 (fun v=>own NoB r9 (Value.cells v).toList),mkO 5 (fun v=>own NoB r17.1 (Value.cells (Yv v 0)).toList)] : Mk)) (mk2:=([] : Mk)) (i:=9) (s:=10) (k:=5) (z:=cat [[(Value.slice none 0 0)],[vI 0],[(Value.slice none 0 0)],[(Value.slice none 0 0)],enc (Vector.replicate 32 (0 : UInt8))]) (f:=(fun v=>(Value.cells (Yv v 0)).toList)) hM hsD
   exact ⟨_,_,rfl,hE,M.dOn (its:=[raw b3 (enc p2),raw b1 (cat [[v0_1],[vI p0.Next],[v0_2],[v0_3],enc p0.Head])]) (mk1:=([mkO 1 (fun v=>own NoB r9 (Value.cells v).toList),mkO 5 (fun v=>own NoB r17.1 (Value.cells (Yv v 0)).toList)] : Mk)) (mk2:=([] : Mk)) (i:=9) (s:=10) (k:=5) (z:=cat [[(Value.slice none 0 0)],[vI 0],[(Value.slice none 0 0)],[(Value.slice none 0 0)],enc (Vector.replicate 32 (0 : UInt8))]) (f:=(fun v=>(Value.cells (Yv v 0)).toList)) (M.qFill (its:=[raw b3 (enc p2),raw b1 (cat [[v0_1],[vI p0.Next],[v0_2],[v0_3],enc p0.Head])]) (mk1:=[_]) (mk2:=[_]) (f:=(fun v=>own NoB r17.1 (Value.cells (Yv v 0)).toList)) hM rfl hD) hsD (by decide),⟨rfl,⟨_,rfl⟩⟩⟩
  ·intro a w ux8 D z
   have hE:=z.E
   have d5 : D 5 = true:=z.p 0 _ rfl rfl
   have g5:=z.G 5 d5 _ rfl
   have f5 : ux8 5 = (Value.tuple [(Yv (ux8 5) 0),vI r17.2].toArray):=g5.2.1
   exact Zd hE (lk rfl f5) fun a hE=>⟨Kept.refl _ _,(zR d5 jp),_,rfl,hE⟩
  ·intro a w ux8 D z
   have hE:=z.E
   have d6 : D 6 = true:=z.p 0 _ rfl rfl
   have d5 : D 5 = true:=z.c 6 _ _ rfl (List.mem_of_getElem? (i:=0) rfl) rfl d6
   exact WG hE Za ld rfl rfl fun a hE=>⟨Kept.refl _ _,(zR d5 jp),_,rfl,hE⟩
  ·intro a w ux8 D z
   have hE:=z.E
   have hD : D 9 = false:=z.F
   have hM:=z.M
   refine Zz hE hM Yn ?_; intro b23 w a hM hE
   have hs : D 10 = false:=Q9 (j:=10) (k:=0) z.c rfl rfl rfl hD
   exact ⟨_,_,rfl,hE,M.qAllocD (mk1:=[_,_]) (mk2:=[]) hM rfl hD hs (by decide),trivial⟩
  ·intro a w ux8 D z
   have hE:=z.E
   have hD : D 10 = false:=z.F
   have d9 : D 9 = true:=z.p 0 _ rfl rfl
   have d7 : D 7 = true:=z.p 1 _ rfl rfl
   have g7:=z.G 7 d7 _ rfl
   have d5 : D 5 = true:=g7.1 5 (show 5 ∈ [5] by decide)
   have hM:=z.M.sure (pre:=[_,_,_]) d5
   obtain ⟨q8_5_0_1,q8_5_0_2,q8_5_0_3,hcz,hq8_5_0_1,hq8_5_0_2,hq8_5_0_3⟩:=WB (hM.ro (pre:=[_,_,_]) noB)
   have qK22 : (Yv (ux8 5) 0) = (Value.agg (cat [[q8_5_0_1],[vI r17.1.Next],[q8_5_0_2],[q8_5_0_3],enc r17.1.Head]).toArray):=H1 hcz (z.G 5 (by assumption) _ rfl).2.2
   obtain ⟨b25,hb26,hM⟩:=M.openCellF (pre:=[_,_,_,_]) hM d9 hD
   refine Zl (seg:=cat [[q8_5_0_1],[vI r17.1.Next],[q8_5_0_2],[q8_5_0_3],enc r17.1.Head]) (cs':=cat [[q8_5_0_1],[vI r17.1.Next],[q8_5_0_2],[q8_5_0_3],enc r17.1.Head]) hE hM Za (lk rfl hb26) (lk rfl qK22) rfl Yn cq (Nat.le_of_eq ((Nat.zero_add _).trans (Eq.trans cq (Eq.symm cq)))) (Z1 (cc1 (Rep.cell hq8_5_0_1) (cc1 (Flat.cell (r17.1.Next : Int)) (cc1 (Rep.cell hq8_5_0_2) (cc1 (Rep.cell hq8_5_0_3) (cc1 (Flat.cell _) cc0)))))) (Zi (Eq.trans cq (Eq.symm cq))) ?_; intro w a hM hE
   have hM:=(M.recell hM (show _ = (Value.cells (Yv (ux8 5) 0)).toList from by rw [qK22]; rfl)).unsure (pre:=[_,_,_,_]) d5
   exact ⟨undef,_,rfl,Env.dummy hE (by decide),M.qStoreD (its:=[raw b3 (enc p2),raw b1 (cat [[v0_1],[vI p0.Next],[v0_2],[v0_3],enc p0.Head])]) (mk1:=[_,_]) (mk2:=[]) (i:=9) (s:=10) (k:=5) (z:=cat [[(Value.slice none 0 0)],[vI 0],[(Value.slice none 0 0)],[(Value.slice none 0 0)],enc (Vector.replicate 32 (0 : UInt8))]) (f:=(fun v=>(Value.cells (Yv v 0)).toList)) hM rfl d9 hb26 (by decide) (by decide),trivial⟩
  ·intro a w ux8 D hE hM hG hall
   have d1:=hall 1 (by decide)
   have d5:=hall 5 (by decide)
   have d9:=hall 9 (by decide)
   have d10:=hall 10 (by decide)
   have hM:=(hM.sure (pre:=[_,_]) d1).sure (pre:=[_,_,_]) d5
   obtain ⟨b27,f28,hM⟩:=M.openCellT (pre:=[_,_,_,_]) hM d9 d10
   obtain ⟨q8_1_0_1,q8_1_0_2,q8_1_0_3,hcz,_,_,_⟩:=WB (hM.ro (pre:=[_,_,_]) noB)
   have qK14 : (ux8 1) = (Value.agg (cat [[q8_1_0_1],[vI r9.Next],[q8_1_0_2],[q8_1_0_3],enc r9.Head]).toArray):=H1 hcz (hG 1 d1 _ rfl).2
   have hM:=hM.pull3
   have hM:=Qx (hM.recown (congrArg (fun v=>(Value.cells v).toList) qK14))
   obtain ⟨q8_5_0_1,q8_5_0_2,q8_5_0_3,hcz,_,_,_⟩:=WB (hM.ro (pre:=[_,_,_,_,_,_]) noB)
   have qK22 : (Yv (ux8 5) 0) = (Value.agg (cat [[q8_5_0_1],[vI r17.1.Next],[q8_5_0_2],[q8_5_0_3],enc r17.1.Head]).toArray):=H1 hcz (hG 5 d5 _ rfl).2.2
   have hM:=hM.pull6
   have hM:=(Qx (hM.recown (congrArg (fun v=>(Value.cells v).toList) qK22))).pull6
   have hM:=M.recell (c':=cat [[q8_5_0_1],[vI r17.1.Next],[q8_5_0_2],[q8_5_0_3],enc r17.1.Head]) hM (congrArg (fun v=>(Value.cells v).toList) qK22)
   have hE:=hE.setq (t:=25) rfl qK14
   have hE:=hE.setq (t:=30) rfl qK22
   have hE:=hE.setq (t:=8) rfl f28
   refine Zc hE rfl fun a hE=>Zg (Zt (Zb (Zm hE rfl yt rfl hM.rawAt8 cq ?_))); intro a hE
   obtain ⟨r35,e36,hF⟩:=bind_some hF
   refine Zv hE rfl cb25 (QJ _ p0 v0_1 (hM.rdo hv0_1) v0_2 (hM.rdo hv0_2) v0_3 (hM.rdo hv0_3) r35 e36) ?_
   rintro v w a ⟨u37,u38,u39,rfl,hFr,hK⟩ hE
   have hM:=hM.add hK hFr
   refine Zz hE hM Yn fun b40 w a hM hE=>Zl (seg:=cat [[u37],[vI r35.Next],[u38],[u39],enc r35.Head]) (cs':=cat [[u37],[vI r35.Next],[u38],[u39],enc r35.Head]) hE hM Za rfl rfl rfl Yn cq (Nat.le_of_eq ((Nat.zero_add _).trans (Eq.trans cq (Eq.symm cq)))) (Z1 (cc1 (Rep.cell (hM.sl (pre:=[_]) noB)) (cc1 (Flat.cell (r35.Next : Int)) (cc1 (Rep.cell (hM.sl (pre:=[_,_]) noB)) (cc1 (Rep.cell (hM.sl (pre:=[_,_,_]) noB)) (cc1 (Flat.cell _) cc0)))))) (Zi (Eq.trans cq (Eq.symm cq))) fun w a hM hE=>Ze (wp_seq ?_)
   obtain ⟨r43,e44,hF⟩:=bind_some hF
   obtain ⟨r45,e46,hF⟩:=bind_some hF
   refine YC (its:=[raw b40 (cat [[u37],[vI r35.Next],[u38],[u39],enc r35.Head]),osl NoB (r35.Keys : List (Vector UInt8 16)) u37,osl NoB (r35.Records : List GRecord) u38,osl NoB (r35.Events : List GEvent) u39,raw b27 (cat [[q8_5_0_1],[vI r17.1.Next],[q8_5_0_2],[q8_5_0_3],enc r17.1.Head]),own NoB (r17.1.Keys : (List (Vector UInt8 16))) [q8_5_0_1],own NoB (r17.1.Records : (List GRecord)) [q8_5_0_2],own NoB (r17.1.Events : (List GEvent)) [q8_5_0_3],own NoB (r9.Keys : (List (Vector UInt8 16))) [q8_1_0_1],own NoB (r9.Records : (List GRecord)) [q8_1_0_2],own NoB (r9.Events : (List GEvent)) [q8_1_0_3],raw b3 (enc p2),raw b1 (cat [[v0_1],[vI p0.Next],[v0_2],[v0_3],enc p0.Head])]) (mk:=([mkO 4 (fun v=>own NoB r45.1 (Value.cells (Yv v 0)).toList),mkD 8 9 4 (cat [[(Value.slice none 0 0)],[vI 0],[(Value.slice none 0 0)],[(Value.slice none 0 0)],enc (Vector.replicate 32 (0 : UInt8))]) (fun v=>(Value.cells (Yv v 0)).toList)] : Mk)) [35,36,37,38,39,34,40,41,11,118] YF rfl rfl (by decide) rfl hE (fun u=>M.qE (M.qE (M.q0 hM.drew u) emD) emO) (qsP (v:=(Value.agg (cat [[u37],[vI r35.Next],[u38],[u39],enc r35.Head]).toArray)) ?_ (qsP (fun z=>Zu z.E Za ld rfl (kr0 rfl)) (qsP (v:=(Value.agg (enc p2).toArray)) ?_ (qsP (fun z=>Z0 z.E Za ld rfl cb31 (TJ _ p2 r43 e44) (kc rfl)) (qsM (pr:=fun v=>v = (Value.tuple [(Yv v 0),vI r45.2].toArray) ∧ ∃ cs,(Yv v 0) = .agg cs) ?_ (qsD (ds:=[4]) (f:=fun us=>(Value.tuple [(Yv (us.getD 0 undef) 0),vI r45.2].toArray)) ?_ (qsD (ds:=[4]) (f:=fun us=>(Yv (us.getD 0 undef) 0)) ?_ (qsP (fun z=>WG z.E Za ld rfl rfl (kr0 rfl)) (qsM (pr:=fun v=>True) ?_ (qsM (pr:=fun v=>True) ?_ qs0)))))))))) ?_
   ·intro a w ux42 D z
    have hE:=z.E
    have hM:=z.M
    exact Zm hE rfl Yn rfl hM.rawAt0 cq fun a hE=>⟨Kept.refl _ _,_,rfl,hE⟩
   ·intro a w ux42 D z
    have hE:=z.E
    have hM:=z.M
    exact Zm hE rfl qg rfl hM.rawAt11 (Flat.len _) fun a hE=>⟨Kept.refl _ _,_,rfl,hE⟩
   ·intro a w ux42 D z
    have hE:=z.E
    have hD : D 4 = false:=z.F
    have hM0:=z.M
    have hM:=z.M
    refine Zv hE rfl (cbm Tryz.func34) (Jp _ r35 u37 (hM.sl (pre:=[_]) noB) u38 (hM.sl (pre:=[_,_]) noB) u39 (hM.sl (pre:=[_,_,_]) noB) p1 r43 r45 e46) ?_
    rintro _ w a ⟨u47,u48,u49,rfl,hFr,hK⟩ hE
    have hM:=Qs (x:=r45.1) (hM0.add hK hFr) sio sio sio
    have hsD : D 9 = false:=Q9 (j:=9) (k:=2) z.c rfl rfl rfl hD
    have hM:=M.dOff (its:=_ :: [raw b40 (cat [[u37],[vI r35.Next],[u38],[u39],enc r35.Head]),osl NoB (r35.Keys : List (Vector UInt8 16)) u37,osl NoB (r35.Records : List GRecord) u38,osl NoB (r35.Events : List GEvent) u39,raw b27 (cat [[q8_5_0_1],[vI r17.1.Next],[q8_5_0_2],[q8_5_0_3],enc r17.1.Head]),own NoB (r17.1.Keys : (List (Vector UInt8 16))) [q8_5_0_1],own NoB (r17.1.Records : (List GRecord)) [q8_5_0_2],own NoB (r17.1.Events : (List GEvent)) [q8_5_0_3],own NoB (r9.Keys : (List (Vector UInt8 16))) [q8_1_0_1],own NoB (r9.Records : (List GRecord)) [q8_1_0_2],own NoB (r9.Events : (List GEvent)) [q8_1_0_3],raw b3 (enc p2),raw b1 (cat [[v0_1],[vI p0.Next],[v0_2],[v0_3],enc p0.Head])]) (mk1:=([mkO 4 (fun v=>own NoB r45.1 (Value.cells (Yv v 0)).toList)] : Mk)) (mk2:=([] : Mk)) (i:=8) (s:=9) (k:=4) (z:=cat [[(Value.slice none 0 0)],[vI 0],[(Value.slice none 0 0)],[(Value.slice none 0 0)],enc (Vector.replicate 32 (0 : UInt8))]) (f:=(fun v=>(Value.cells (Yv v 0)).toList)) hM hsD
    exact ⟨_,_,rfl,hE,M.dOn (its:=[raw b40 (cat [[u37],[vI r35.Next],[u38],[u39],enc r35.Head]),osl NoB (r35.Keys : List (Vector UInt8 16)) u37,osl NoB (r35.Records : List GRecord) u38,osl NoB (r35.Events : List GEvent) u39,raw b27 (cat [[q8_5_0_1],[vI r17.1.Next],[q8_5_0_2],[q8_5_0_3],enc r17.1.Head]),own NoB (r17.1.Keys : (List (Vector UInt8 16))) [q8_5_0_1],own NoB (r17.1.Records : (List GRecord)) [q8_5_0_2],own NoB (r17.1.Events : (List GEvent)) [q8_5_0_3],own NoB (r9.Keys : (List (Vector UInt8 16))) [q8_1_0_1],own NoB (r9.Records : (List GRecord)) [q8_1_0_2],own NoB (r9.Events : (List GEvent)) [q8_1_0_3],raw b3 (enc p2),raw b1 (cat [[v0_1],[vI p0.Next],[v0_2],[v0_3],enc p0.Head])]) (mk1:=([mkO 4 (fun v=>own NoB r45.1 (Value.cells (Yv v 0)).toList)] : Mk)) (mk2:=([] : Mk)) (i:=8) (s:=9) (k:=4) (z:=cat [[(Value.slice none 0 0)],[vI 0],[(Value.slice none 0 0)],[(Value.slice none 0 0)],enc (Vector.replicate 32 (0 : UInt8))]) (f:=(fun v=>(Value.cells (Yv v 0)).toList)) (M.qFill (its:=[raw b40 (cat [[u37],[vI r35.Next],[u38],[u39],enc r35.Head]),osl NoB (r35.Keys : List (Vector UInt8 16)) u37,osl NoB (r35.Records : List GRecord) u38,osl NoB (r35.Events : List GEvent) u39,raw b27 (cat [[q8_5_0_1],[vI r17.1.Next],[q8_5_0_2],[q8_5_0_3],enc r17.1.Head]),own NoB (r17.1.Keys : (List (Vector UInt8 16))) [q8_5_0_1],own NoB (r17.1.Records : (List GRecord)) [q8_5_0_2],own NoB (r17.1.Events : (List GEvent)) [q8_5_0_3],own NoB (r9.Keys : (List (Vector UInt8 16))) [q8_1_0_1],own NoB (r9.Records : (List GRecord)) [q8_1_0_2],own NoB (r9.Events : (List GEvent)) [q8_1_0_3],raw b3 (enc p2),raw b1 (cat [[v0_1],[vI p0.Next],[v0_2],[v0_3],enc p0.Head])]) (mk1:=[]) (mk2:=[_]) (f:=(fun v=>own NoB r45.1 (Value.cells (Yv v 0)).toList)) hM rfl hD) hsD (by decide),⟨rfl,⟨_,rfl⟩⟩⟩
   ·intro a w ux42 D z
    have hE:=z.E
    have d4 : D 4 = true:=z.p 0 _ rfl rfl
    have g4:=z.G 4 d4 _ rfl
    have f4 : ux42 4 = (Value.tuple [(Yv (ux42 4) 0),vI r45.2].toArray):=g4.2.1
    exact Zd hE (lk rfl f4) fun a hE=>⟨Kept.refl _ _,(zR d4 jp),_,rfl,hE⟩
   ·intro a w ux42 D z
    have hE:=z.E
    have d5 : D 5 = true:=z.p 0 _ rfl rfl
    have d4 : D 4 = true:=z.c 5 _ _ rfl (List.mem_of_getElem? (i:=0) rfl) rfl d5
    exact WG hE Za ld rfl rfl fun a hE=>⟨Kept.refl _ _,(zR d4 jp),_,rfl,hE⟩
   ·intro a w ux42 D z
    have hE:=z.E
    have hD : D 8 = false:=z.F
    have hM:=z.M
    refine Zz hE hM Yn ?_; intro b51 w a hM hE
    have hs : D 9 = false:=Q9 (j:=9) (k:=0) z.c rfl rfl rfl hD
    exact ⟨_,_,rfl,hE,M.qAllocD (mk1:=[_]) (mk2:=[]) hM rfl hD hs (by decide),trivial⟩
   ·intro a w ux42 D z
    have hE:=z.E
    have hD : D 9 = false:=z.F
    have d8 : D 8 = true:=z.p 0 _ rfl rfl
    have d6 : D 6 = true:=z.p 1 _ rfl rfl
    have g6:=z.G 6 d6 _ rfl
    have d4 : D 4 = true:=g6.1 4 (show 4 ∈ [4] by decide)
    have hM:=z.M.sure (pre:=[_,_,_,_,_,_,_,_,_,_,_,_,_]) d4
    obtain ⟨q42_4_0_1,q42_4_0_2,q42_4_0_3,hcz,hq42_4_0_1,hq42_4_0_2,hq42_4_0_3⟩:=WB (hM.ro (pre:=[_,_,_,_,_,_,_,_,_,_,_,_,_]) noB)
    have qK50 : (Yv (ux42 4) 0) = (Value.agg (cat [[q42_4_0_1],[vI r45.1.Next],[q42_4_0_2],[q42_4_0_3],enc r45.1.Head]).toArray):=H1 hcz (z.G 4 (by assumption) _ rfl).2.2
    obtain ⟨b53,hb54,hM⟩:=M.openCellF (pre:=[_,_,_,_,_,_,_,_,_,_,_,_,_,_]) hM d8 hD
    refine Zl (seg:=cat [[q42_4_0_1],[vI r45.1.Next],[q42_4_0_2],[q42_4_0_3],enc r45.1.Head]) (cs':=cat [[q42_4_0_1],[vI r45.1.Next],[q42_4_0_2],[q42_4_0_3],enc r45.1.Head]) hE hM Za (lk rfl hb54) (lk rfl qK50) rfl Yn cq (Nat.le_of_eq ((Nat.zero_add _).trans (Eq.trans cq (Eq.symm cq)))) (Z1 (cc1 (Rep.cell hq42_4_0_1) (cc1 (Flat.cell (r45.1.Next : Int)) (cc1 (Rep.cell hq42_4_0_2) (cc1 (Rep.cell hq42_4_0_3) (cc1 (Flat.cell _) cc0)))))) (Zi (Eq.trans cq (Eq.symm cq))) ?_; intro w a hM hE
    have hM:=(M.recell hM (show _ = (Value.cells (Yv (ux42 4) 0)).toList from by rw [qK50]; rfl)).unsure (pre:=[_,_,_,_,_,_,_,_,_,_,_,_,_,_]) d4
    exact ⟨undef,_,rfl,Env.dummy hE (by decide),M.qStoreD (its:=[raw b40 (cat [[u37],[vI r35.Next],[u38],[u39],enc r35.Head]),osl NoB (r35.Keys : List (Vector UInt8 16)) u37,osl NoB (r35.Records : List GRecord) u38,osl NoB (r35.Events : List GEvent) u39,raw b27 (cat [[q8_5_0_1],[vI r17.1.Next],[q8_5_0_2],[q8_5_0_3],enc r17.1.Head]),own NoB (r17.1.Keys : (List (Vector UInt8 16))) [q8_5_0_1],own NoB (r17.1.Records : (List GRecord)) [q8_5_0_2],own NoB (r17.1.Events : (List GEvent)) [q8_5_0_3],own NoB (r9.Keys : (List (Vector UInt8 16))) [q8_1_0_1],own NoB (r9.Records : (List GRecord)) [q8_1_0_2],own NoB (r9.Events : (List GEvent)) [q8_1_0_3],raw b3 (enc p2),raw b1 (cat [[v0_1],[vI p0.Next],[v0_2],[v0_3],enc p0.Head])]) (mk1:=[_]) (mk2:=[]) (i:=8) (s:=9) (k:=4) (z:=cat [[(Value.slice none 0 0)],[vI 0],[(Value.slice none 0 0)],[(Value.slice none 0 0)],enc (Vector.replicate 32 (0 : UInt8))]) (f:=(fun v=>(Value.cells (Yv v 0)).toList)) hM rfl d8 hb54 (by decide) (by decide),trivial⟩
   ·intro a w ux42 D hE hM hG hall
    have d4:=hall 4 (by decide)
    have d8:=hall 8 (by decide)
    have d9:=hall 9 (by decide)
    have hM:=hM.sure (pre:=[_,_,_,_,_,_,_,_,_,_,_,_,_]) d4
    obtain ⟨b55,f56,hM⟩:=M.openCellT (pre:=[_,_,_,_,_,_,_,_,_,_,_,_,_,_]) hM d8 d9
    obtain ⟨q42_4_0_1,q42_4_0_2,q42_4_0_3,hcz,_,_,_⟩:=WB (hM.ro (pre:=[_,_,_,_,_,_,_,_,_,_,_,_,_,_]) noB)
    have qK50 : (Yv (ux42 4) 0) = (Value.agg (cat [[q42_4_0_1],[vI r45.1.Next],[q42_4_0_2],[q42_4_0_3],enc r45.1.Head]).toArray):=H1 hcz (hG 4 d4 _ rfl).2.2
    have hM:=hM.pull (pre:=[_,_,_,_,_,_,_,_,_,_,_,_,_,_])
    have hM:=(Qx (hM.recown (congrArg (fun v=>(Value.cells v).toList) qK50))).pull3
    have hM:=M.recell (c':=cat [[q42_4_0_1],[vI r45.1.Next],[q42_4_0_2],[q42_4_0_3],enc r45.1.Head]) hM (congrArg (fun v=>(Value.cells v).toList) qK50)
    have hE:=hE.setq (t:=40) rfl qK50
    have hE:=hE.setq (t:=11) rfl f56
    refine Zc hE rfl fun a hE=>Zg (Zt (wp_seq ?_))
    obtain ⟨j60,hl61,hF62⟩:=bind_some hF
    refine ZO (fun a w=>Env 109 a [(1,vI p1),(3,(ptr b1 0)),(5,(ptr b3 0)),(8,(ptr b27 0)),(9,vI r17.2),(10,(ptr b40 0)),(11,(ptr b55 0)),(12,vI r45.2),(50,vT j60)] ∧ M (Old w0) w0 w [raw b55 (cat [[q42_4_0_1],[vI r45.1.Next],[q42_4_0_2],[q42_4_0_3],enc r45.1.Head]),own NoB (r45.1.Keys : (List (Vector UInt8 16))) [q42_4_0_1],own NoB (r45.1.Records : (List GRecord)) [q42_4_0_2],own NoB (r45.1.Events : (List GEvent)) [q42_4_0_3],raw b40 (cat [[u37],[vI r35.Next],[u38],[u39],enc r35.Head]),osl NoB (r35.Keys : List (Vector UInt8 16)) u37,osl NoB (r35.Records : List GRecord) u38,osl NoB (r35.Events : List GEvent) u39,raw b27 (cat [[q8_5_0_1],[vI r17.1.Next],[q8_5_0_2],[q8_5_0_3],enc r17.1.Head]),own NoB (r17.1.Keys : (List (Vector UInt8 16))) [q8_5_0_1],own NoB (r17.1.Records : (List GRecord)) [q8_5_0_2],own NoB (r17.1.Events : (List GEvent)) [q8_5_0_3],raw b3 (enc p2),raw b1 (cat [[v0_1],[vI p0.Next],[v0_2],[v0_3],enc p0.Head])]) ?_ ?_
    ·skip
     refine wp_region_lit (Zm hE rfl Yn rfl hM.rawAt0 cq fun a hE=>Zm hE rfl Yn rfl hM.rawAt8 cq ?_); intro a hE
     obtain ⟨r63,e64,hl61⟩:=bind_some hl61
     refine Zv hE rfl cb27 (QG _ r45.1 q42_4_0_1 (hM.ro (pre:=[_]) noB) q42_4_0_2 (hM.ro (pre:=[_,_]) noB) q42_4_0_3 (hM.ro (pre:=[_,_,_]) noB) r17.1 q8_5_0_1 (hM.ro (pre:=[_,_,_,_,_,_,_,_,_]) noB) q8_5_0_2 (hM.ro (pre:=[_,_,_,_,_,_,_,_,_,_]) noB) q8_5_0_3 (hM.ro (pre:=[_,_,_,_,_,_,_,_,_,_,_]) noB) r63 e64) ?_
     rintro v w a ⟨rfl,hK⟩ hE
     have hM:=hM.keep hK
     refine QO hE rfl fun a hE=>Zd hE rfl ?_; intro a hE
     refine X1 (!r63) (fun hb65=>?_) (fun hb65=>?_)
     ·have hl61:=Zw hl61 hb65
      refine Zr hE rfl (lkb rfl hb65) rfl (by decide) fun a hE=>Zr hE rfl (lkb rfl hb65) rfl (by decide) fun a hE=>Zr hE rfl (lkb rfl hb65) rfl (by decide) fun a hE=>Yy hE (lkb rfl hb65) rfl fun a hE=>Zg ?_
      obtain rfl:=Option.some.inj hl61
      refine Zk ?_
      have hM:=M.fst (l:=[_,_,_,_,_,_,_,_,_,_,_,_,_,_]) ((((((((((((((hM.pull (pre:=[_,_,_,_,_,_,_,_,_,_,_,_,_,_,_,_])).pull (pre:=[_,_,_,_,_,_,_,_,_,_,_,_,_,_,_,_])).pull13).pull13).pull13).pull13).pull13).pull13).pull13).pull13).pull13).pull13).pull13).pull13)
      exact ⟨hE.sub ⟨rfl,rfl,rfl,rfl,rfl,rfl,rfl,rfl,rfl,trivial⟩,hM⟩
     ·have hl61:=Zx hl61 hb65
      refine Zu hE (Zq hE rfl (lkb rfl hb65)) (by decide) rfl fun a hE=>Zu hE (Zq hE rfl (lkb rfl hb65)) (by decide) rfl fun a hE=>Yt hE (Zq hE rfl (lkb rfl hb65)) (by decide) rfl rfl rfl fun a hE=>Wc hE (lkb rfl hb65) rfl fun a hE=>Zg ?_
      obtain rfl:=Option.some.inj hl61
      refine Zk ?_
      have hM:=M.fst (l:=[_,_,_,_,_,_,_,_,_,_,_,_,_,_]) ((((((((((((((hM.pull (pre:=[_,_,_,_,_,_,_,_,_,_,_,_,_,_,_,_])).pull (pre:=[_,_,_,_,_,_,_,_,_,_,_,_,_,_,_,_])).pull13).pull13).pull13).pull13).pull13).pull13).pull13).pull13).pull13).pull13).pull13).pull13)
      exact ⟨hE.sub ⟨rfl,rfl,rfl,rfl,rfl,rfl,rfl,rfl,rfl,trivial⟩,hM⟩
    ·skip
     rintro a w ⟨hE,hM⟩
     refine Zo hE rfl ?_ ?_
     ·intro hb68
      have hF62:=Zw hF62 hb68
      refine Zb (Zc hE rfl fun a hE=>Ze ?_)
      obtain rfl:=Option.some.inj hF62
      exact wp_ret (Zs (kr1 hE rfl rfl hM.kept))
     ·intro hb68
      have hF62:=Zx hF62 hb68
      refine wp_skip (Zt (wp_seq ?_))
      obtain ⟨j69,hl70,hF71⟩:=bind_some hF62
      refine ZO (fun a w=>Env 109 a [(1,vI p1),(3,(ptr b1 0)),(5,(ptr b3 0)),(8,(ptr b27 0)),(9,vI r17.2),(10,(ptr b40 0)),(11,(ptr b55 0)),(12,vI r45.2),(55,vT j69)] ∧ M (Old w0) w0 w [raw b55 (cat [[q42_4_0_1],[vI r45.1.Next],[q42_4_0_2],[q42_4_0_3],enc r45.1.Head]),own NoB (r45.1.Keys : (List (Vector UInt8 16))) [q42_4_0_1],own NoB (r45.1.Records : (List GRecord)) [q42_4_0_2],own NoB (r45.1.Events : (List GEvent)) [q42_4_0_3],raw b40 (cat [[u37],[vI r35.Next],[u38],[u39],enc r35.Head]),osl NoB (r35.Keys : List (Vector UInt8 16)) u37,osl NoB (r35.Records : List GRecord) u38,osl NoB (r35.Events : List GEvent) u39,raw b27 (cat [[q8_5_0_1],[vI r17.1.Next],[q8_5_0_2],[q8_5_0_3],enc r17.1.Head]),own NoB (r17.1.Keys : (List (Vector UInt8 16))) [q8_5_0_1],own NoB (r17.1.Records : (List GRecord)) [q8_5_0_2],own NoB (r17.1.Events : (List GEvent)) [q8_5_0_3],raw b3 (enc p2),raw b1 (cat [[v0_1],[vI p0.Next],[v0_2],[v0_3],enc p0.Head])]) ?_ ?_
      ·skip
       obtain ⟨r73,e74,hl70⟩:=bind_some hl70
       refine YC (its:=[raw b55 (cat [[q42_4_0_1],[vI r45.1.Next],[q42_4_0_2],[q42_4_0_3],enc r45.1.Head]),own NoB (r45.1.Keys : (List (Vector UInt8 16))) [q42_4_0_1],own NoB (r45.1.Records : (List GRecord)) [q42_4_0_2],own NoB (r45.1.Events : (List GEvent)) [q42_4_0_3],raw b40 (cat [[u37],[vI r35.Next],[u38],[u39],enc r35.Head]),osl NoB (r35.Keys : List (Vector UInt8 16)) u37,osl NoB (r35.Records : List GRecord) u38,osl NoB (r35.Events : List GEvent) u39,raw b27 (cat [[q8_5_0_1],[vI r17.1.Next],[q8_5_0_2],[q8_5_0_3],enc r17.1.Head]),own NoB (r17.1.Keys : (List (Vector UInt8 16))) [q8_5_0_1],own NoB (r17.1.Records : (List GRecord)) [q8_5_0_2],own NoB (r17.1.Events : (List GEvent)) [q8_5_0_3],raw b3 (enc p2),raw b1 (cat [[v0_1],[vI p0.Next],[v0_2],[v0_3],enc p0.Head])]) (mk:=([mkO 2 (fun v=>own NoB r73 (Value.cells v).toList)] : Mk)) [51,52,53] YF rfl rfl (by decide) rfl hE (fun u=>M.qE (M.q0 hM.drew u) emO) (qsP (v:=(Value.agg (cat [[u37],[vI r35.Next],[u38],[u39],enc r35.Head]).toArray)) ?_ (qsP (v:=(Value.agg (cat [[v0_1],[vI p0.Next],[v0_2],[v0_3],enc p0.Head]).toArray)) ?_ (qsM (pr:=fun v=>∃ cs,v = .agg cs) ?_ qs0))) ?_
       ·intro a w ux72 D z
        have hE:=z.E
        have hM:=z.M
        exact Zm hE rfl Yn rfl hM.rawAt4 cq fun a hE=>⟨Kept.refl _ _,_,rfl,hE⟩
       ·intro a w ux72 D z
        have hE:=z.E
        have hM:=z.M
        exact Zm hE rfl yt rfl hM.rawAt13 cq fun a hE=>⟨Kept.refl _ _,_,rfl,hE⟩
       ·intro a w ux72 D z
        have hE:=z.E
        have hD : D 2 = false:=z.F
        have hM0:=z.M
        have hM:=z.M
        refine Zv hE rfl cb25 (QJ _ p0 v0_1 (hM.rdo hv0_1) v0_2 (hM.rdo hv0_2) v0_3 (hM.rdo hv0_3) r73 e74) ?_
        rintro _ w a ⟨u75,u76,u77,rfl,hFr,hK⟩ hE
        have hM:=Qs (x:=r73) (hM0.add hK hFr) sio sio sio
        exact ⟨_,_,rfl,hE,M.qFill (mk1:=[]) (mk2:=[]) (f:=(fun v=>own NoB r73 (Value.cells v).toList)) hM rfl hD,⟨_,rfl⟩⟩
       ·intro a w ux72 D hE hM hG hall
        have d2:=hall 2 (by decide)
        have hM:=hM.sure (pre:=[_,_,_,_,_,_,_,_,_,_,_,_,_,_]) d2
        obtain ⟨q72_2_0_1,q72_2_0_2,q72_2_0_3,hcz,_,_,_⟩:=WB (hM.ro (pre:=[_,_,_,_,_,_,_,_,_,_,_,_,_,_]) noB)
        have qK78 : (ux72 2) = (Value.agg (cat [[q72_2_0_1],[vI r73.Next],[q72_2_0_2],[q72_2_0_3],enc r73.Head]).toArray):=H1 hcz (hG 2 d2 _ rfl).2
        have hM:=hM.pull (pre:=[_,_,_,_,_,_,_,_,_,_,_,_,_,_])
        have hM:=Qx (hM.recown (congrArg (fun v=>(Value.cells v).toList) qK78))
        have hE:=hE.setq (t:=53) rfl qK78
        obtain ⟨r82,e83,hl70⟩:=bind_some hl70
        refine Zv hE rfl cb27 (QG _ r35 u37 (hM.sl (pre:=[_,_,_,_,_,_,_,_]) noB) u38 (hM.sl (pre:=[_,_,_,_,_,_,_,_,_]) noB) u39 (hM.sl (pre:=[_,_,_,_,_,_,_,_,_,_]) noB) r73 q72_2_0_1 (hM.ro (pre:=[]) noB) q72_2_0_2 (hM.ro (pre:=[_]) noB) q72_2_0_3 (hM.ro (pre:=[_,_]) noB) r82 e83) ?_
        rintro v w a ⟨rfl,hK⟩ hE
        have hM:=hM.keep hK
        refine QO hE rfl fun a hE=>Zg ?_
        obtain rfl:=Option.some.inj hl70
        refine Zk ?_
        have hM:=((((hM.pull (pre:=[_,_,_,_,_,_,_,_,_,_,_,_,_,_,_,_])).pull (pre:=[_,_,_,_,_,_,_,_,_,_,_,_,_,_,_,_])).pull (pre:=[_,_,_,_,_,_,_,_,_,_,_,_,_,_,_,_])).pull (pre:=[_,_,_,_,_,_,_,_,_,_,_,_,_,_,_,_])).pull (pre:=[_,_,_,_,_,_,_,_,_,_,_,_,_,_,_,_])
        have hM:=((((hM.pull (pre:=[_,_,_,_,_,_,_,_,_,_,_,_,_,_,_,_])).pull (pre:=[_,_,_,_,_,_,_,_,_,_,_,_,_,_,_,_])).pull (pre:=[_,_,_,_,_,_,_,_,_,_,_,_,_,_,_,_])).pull (pre:=[_,_,_,_,_,_,_,_,_,_,_,_,_,_,_,_])).pull (pre:=[_,_,_,_,_,_,_,_,_,_,_,_,_,_,_,_])
        have hM:=M.fst (l:=[_,_,_,_,_,_,_,_,_,_,_,_,_,_]) ((((hM.pull (pre:=[_,_,_,_,_,_,_,_,_,_,_,_,_,_,_,_])).pull (pre:=[_,_,_,_,_,_,_,_,_,_,_,_,_,_,_,_])).pull (pre:=[_,_,_,_,_,_,_,_,_,_,_,_,_,_,_,_])).pull (pre:=[_,_,_,_,_,_,_,_,_,_,_,_,_,_,_,_]))
        exact ⟨hE.sub ⟨rfl,rfl,rfl,rfl,rfl,rfl,rfl,rfl,rfl,trivial⟩,hM⟩
      ·skip
       rintro a w ⟨hE,hM⟩
       refine Zo hE rfl ?_ ?_
       ·intro hb85
        have hF71:=Zw hF71 hb85
        refine Zb (Zc hE rfl fun a hE=>Ze ?_)
        obtain rfl:=Option.some.inj hF71
        exact wp_ret (Zs (kr1 hE rfl rfl hM.kept))
       ·intro hb85
        have hF71:=Zx hF71 hb85
        refine wp_skip (Zt (Zb (Zc hE rfl fun a hE=>Ze (Zb (Zm hE rfl Yn rfl hM.rawAt4 cq fun a hE=>Zd hE rfl ?_))))); intro a hE
        have hM:=((((((hM.pull5.toOwn noB).pull6).toOwn noB).pull7).toOwn noB).pull1).pull2
        obtain ⟨r86,e87,hF71⟩:=bind_some hF71
        refine Zv hE rfl (cbm Tryz.func28) (KP _ _ _ _ r35 u37 u38 u39 1 hM r86 e87) ?_
        rintro v w a ⟨rfl,hM⟩ hE
        refine Zc hE rfl fun a hE=>Ze (wp_seq ?_)
        obtain ⟨j88,hl89,hF90⟩:=bind_some hF71
        refine ZO (fun a w=>Env 109 a [(1,vI p1),(3,(ptr b1 0)),(5,(ptr b3 0)),(8,(ptr b27 0)),(9,vI r17.2),(11,(ptr b55 0)),(71,vT j88)] ∧ M (Old w0) w0 w [raw b55 (cat [[q42_4_0_1],[vI r45.1.Next],[q42_4_0_2],[q42_4_0_3],enc r45.1.Head]),own NoB (r45.1.Keys : (List (Vector UInt8 16))) [q42_4_0_1],own NoB (r45.1.Records : (List GRecord)) [q42_4_0_2],own NoB (r45.1.Events : (List GEvent)) [q42_4_0_3],raw b27 (cat [[q8_5_0_1],[vI r17.1.Next],[q8_5_0_2],[q8_5_0_3],enc r17.1.Head]),own NoB (r17.1.Keys : (List (Vector UInt8 16))) [q8_5_0_1],own NoB (r17.1.Records : (List GRecord)) [q8_5_0_2],own NoB (r17.1.Events : (List GEvent)) [q8_5_0_3],raw b3 (enc p2),raw b1 (cat [[v0_1],[vI p0.Next],[v0_2],[v0_3],enc p0.Head])]) ?_ ?_
        ·skip
         refine wp_region_lit (Zd hE rfl fun a hE=>Zh hE rfl rfl rfl fun a hE=>Zd hE rfl ?_); intro a hE
         refine X1 (decide (r86.2 < 0)) (fun hb91=>?_) (fun hb91=>?_)
         ·have hl89:=Zw hl89 hb91
          refine Zr hE rfl (lkb rfl hb91) rfl (by decide) fun a hE=>Zr hE rfl (lkb rfl hb91) rfl (by decide) fun a hE=>Zr hE rfl (lkb rfl hb91) rfl (by decide) fun a hE=>Zr hE rfl (lkb rfl hb91) rfl (by decide) fun a hE=>Yy hE (lkb rfl hb91) rfl fun a hE=>Zd hE rfl fun a hE=>Zr hE rfl rfl rfl (by decide) fun a hE=>Zr hE rfl rfl rfl (by decide) fun a hE=>Zr hE rfl rfl rfl (by decide) fun a hE=>Yy hE rfl rfl fun a hE=>Zg ?_
          obtain rfl:=Option.some.inj hl89
          refine Zk ?_
          have hM:=M.fst (l:=[_,_,_,_,_,_,_,_,_,_]) hM.pull13.pull13.pull13.pull13.pull13.pull13.pull12.pull12.pull12.pull12
          exact ⟨hE.sub ⟨rfl,rfl,rfl,rfl,rfl,rfl,rfl,trivial⟩,hM⟩
         ·have hl89:=Zx hl89 hb91
          refine ZX hE (Zq hE rfl (lkb rfl hb91)) (by decide) rfl Yn rfl hM.rawAt3 cq fun a hE=>ZX hE (Zq hE rfl (lkb rfl hb91)) (by decide) rfl Yn rfl hM.rawAt8 cq ?_; intro a hE
          obtain ⟨r93,e94,hl89⟩:=bind_some hl89
          refine Z0 hE (Zq hE rfl (lkb rfl hb91)) (by decide) rfl cb27 (QG _ r45.1 q42_4_0_1 (hM.ro (pre:=[_,_,_,_]) noB) q42_4_0_2 (hM.ro (pre:=[_,_,_,_,_]) noB) q42_4_0_3 (hM.ro (pre:=[_,_,_,_,_,_]) noB) r17.1 q8_5_0_1 (hM.ro (pre:=[_,_,_,_,_,_,_,_,_]) noB) q8_5_0_2 (hM.ro (pre:=[_,_,_,_,_,_,_,_,_,_]) noB) q8_5_0_3 (hM.ro (pre:=[_,_,_,_,_,_,_,_,_,_,_]) noB) r93 e94) ?_
          rintro v w a ⟨rfl,hK⟩ hE
          have hM:=hM.keep hK
          refine KA hE (Zq hE rfl (lkb rfl hb91)) (by decide) rfl fun a hE=>Wc hE (lkb rfl hb91) rfl fun a hE=>Zd hE rfl ?_; intro a hE
          refine X1 (!r93) (fun hb95=>?_) (fun hb95=>?_)
          ·have hl89:=Zw hl89 hb95
           refine Zr hE rfl (lkb rfl hb95) rfl (by decide) fun a hE=>Zr hE rfl (lkb rfl hb95) rfl (by decide) fun a hE=>Zr hE rfl (lkb rfl hb95) rfl (by decide) fun a hE=>Yy hE (lkb rfl hb95) rfl fun a hE=>Zg ?_
           obtain rfl:=Option.some.inj hl89
           refine Zk ?_
           have hM:=M.fst (l:=[_,_,_,_,_,_,_,_,_,_]) hM.pull13.pull13.pull13.pull13.pull13.pull13.pull12.pull12.pull12.pull12
           exact ⟨hE.sub ⟨rfl,rfl,rfl,rfl,rfl,rfl,rfl,trivial⟩,hM⟩
          ·have hl89:=Zx hl89 hb95
           refine Zu hE (Zq hE rfl (lkb rfl hb95)) (by decide) rfl fun a hE=>Zu hE (Zq hE rfl (lkb rfl hb95)) (by decide) rfl fun a hE=>Yt hE (Zq hE rfl (lkb rfl hb95)) (by decide) rfl rfl rfl fun a hE=>Wc hE (lkb rfl hb95) rfl fun a hE=>Zg ?_
           obtain rfl:=Option.some.inj hl89
           refine Zk ?_
           have hM:=M.fst (l:=[_,_,_,_,_,_,_,_,_,_]) hM.pull13.pull13.pull13.pull13.pull13.pull13.pull12.pull12.pull12.pull12
           exact ⟨hE.sub ⟨rfl,rfl,rfl,rfl,rfl,rfl,rfl,trivial⟩,hM⟩
        ·skip
         rintro a w ⟨hE,hM⟩
         refine Zo hE rfl ?_ ?_
         ·intro hb98
          have hF90:=Zw hF90 hb98
          refine Zb (Zc hE rfl fun a hE=>Ze ?_)
          obtain rfl:=Option.some.inj hF90
          exact wp_ret (Zs (kr1 hE rfl rfl hM.kept))
         ·intro hb98
          have hF90:=Zx hF90 hb98
          refine wp_skip (Zt (Zb (Zc hE rfl fun a hE=>Ze (Zb (Zm hE rfl Yn rfl hM.rawAt0 cq fun a hE=>Zd hE rfl ?_))))); intro a hE
          have hM:=hM.pull3.pull3.pull3
          obtain ⟨r99,e100,hF90⟩:=bind_some hF90
          refine Zv hE rfl (cbm Tryz.func28) (KP _ _ _ _ r45.1 q42_4_0_1 q42_4_0_2 q42_4_0_3 1 hM r99 e100) ?_
          rintro v w a ⟨rfl,hM⟩ hE
          refine Zc hE rfl fun a hE=>Ze (Zb (Zc hE rfl fun a hE=>Ze (Zb (Zm hE rfl Yn rfl hM.rawAt3 cq fun a hE=>Zd hE rfl ?_)))); intro a hE
          obtain ⟨r101,e102,hF90⟩:=bind_some hF90
          refine Zv hE rfl (cbm Tryz.func29) (KO _ (⟨r99.1.Keys,r45.1.Next,r99.1.Records,r99.1.Events,r45.1.Head⟩ : GVault) q42_4_0_1 (hM.ro (pre:=[]) noB) q42_4_0_2 (hM.ro (pre:=[_]) noB) q42_4_0_3 (hM.ro (pre:=[_,_]) noB) 1 r101 e102) ?_
          rintro v w a ⟨rfl,hK⟩ hE
          have hM:=hM.keep hK
          refine Zc hE rfl fun a hE=>Ze (wp_seq (Zb (Zd hE rfl fun a hE=>Zh hE rfl rfl rfl fun a hE=>Ze ?_)))
          refine Zo hE rfl ?_ ?_
          ·intro hb103
           have hF90:=Zw hF90 hb103
           refine Zb (Zc hE rfl fun a hE=>Ze ?_)
           obtain rfl:=Option.some.inj hF90
           exact wp_ret (Zs (kr1 hE rfl rfl hM.kept))
          ·intro hb103
           have hF90:=Zx hF90 hb103
           refine wp_skip (Zt (wp_seq (Zb (Zd hE rfl fun a hE=>Zd hE rfl fun a hE=>Zh hE rfl rfl rfl fun a hE=>Ze ?_))))
           refine Zo hE rfl ?_ ?_
           ·intro hb104
            have hF90:=Zw hF90 hb104
            refine Zb (Zc hE rfl fun a hE=>Ze ?_)
            obtain rfl:=Option.some.inj hF90
            exact wp_ret (Zs (kr1 hE rfl rfl hM.kept))
           ·intro hb104
            have hF90:=Zx hF90 hb104
            refine wp_skip (Zt (wp_seq ?_))
            obtain ⟨r106,e107,hF90⟩:=bind_some hF90
            obtain ⟨r112,e113,hF90⟩:=bind_some hF90
            obtain ⟨r114,e115,hF90⟩:=bind_some hF90
            refine YC (its:=[own NoB (r99.1.Keys : (List (Vector UInt8 16))) [q42_4_0_1],own NoB (r99.1.Records : (List GRecord)) [q42_4_0_2],own NoB (r99.1.Events : (List GEvent)) [q42_4_0_3],raw b55 (cat [[q42_4_0_1],[vI r45.1.Next],[q42_4_0_2],[q42_4_0_3],enc r45.1.Head]),raw b27 (cat [[q8_5_0_1],[vI r17.1.Next],[q8_5_0_2],[q8_5_0_3],enc r17.1.Head]),own NoB (r17.1.Keys : (List (Vector UInt8 16))) [q8_5_0_1],own NoB (r17.1.Records : (List GRecord)) [q8_5_0_2],own NoB (r17.1.Events : (List GEvent)) [q8_5_0_3],raw b3 (enc p2),raw b1 (cat [[v0_1],[vI p0.Next],[v0_2],[v0_3],enc p0.Head])]) (mk:=([mkO 1 (fun v=>own NoB r106 (Value.cells v).toList),mkO 5 (fun v=>own NoB r114.1 (Value.cells (Yv v 0)).toList),mkD 9 10 5 (cat [[(Value.slice none 0 0)],[vI 0],[(Value.slice none 0 0)],[(Value.slice none 0 0)],enc (Vector.replicate 32 (0 : UInt8))]) (fun v=>(Value.cells (Yv v 0)).toList)] : Mk)) [84,85,86,87,88,89,83,90,91,16,119] YF rfl rfl (by decide) rfl hE (fun u=>M.qE (M.qE (M.qE (M.q0 hM.drew u) emD) emO) emO) (qsP (v:=(Value.agg (cat [[v0_1],[vI p0.Next],[v0_2],[v0_3],enc p0.Head]).toArray)) ?_ (qsM (pr:=fun v=>∃ cs,v = .agg cs) ?_ (qsP (fun z=>Zu z.E Za ld rfl (kr0 rfl)) (qsP (v:=(Value.agg (enc p2).toArray)) ?_ (qsP (fun z=>Z0 z.E Za ld rfl cb31 (TJ _ p2 r112 e113) (kc rfl)) (qsM (pr:=fun v=>v = (Value.tuple [(Yv v 0),vI r114.2].toArray) ∧ ∃ cs,(Yv v 0) = .agg cs) ?_ (qsD (ds:=[5]) (f:=fun us=>(Value.tuple [(Yv (us.getD 0 undef) 0),vI r114.2].toArray)) ?_ (qsD (ds:=[5]) (f:=fun us=>(Yv (us.getD 0 undef) 0)) ?_ (qsP (fun z=>WG z.E Za ld rfl rfl (kr0 rfl)) (qsM (pr:=fun v=>True) ?_ (qsM (pr:=fun v=>True) ?_ qs0))))))))))) ?_
            ·intro a w ux105 D z
             have hE:=z.E
             have hM:=z.M
             exact Zm hE rfl yt rfl hM.rawAt9 cq fun a hE=>⟨Kept.refl _ _,_,rfl,hE⟩
            ·intro a w ux105 D z
             have hE:=z.E
             have hD : D 1 = false:=z.F
             have hM0:=z.M
             have hM:=z.M
             refine Zv hE rfl cb25 (QJ _ p0 v0_1 (hM.rdo hv0_1) v0_2 (hM.rdo hv0_2) v0_3 (hM.rdo hv0_3) r106 e107) ?_
             rintro _ w a ⟨u108,u109,u110,rfl,hFr,hK⟩ hE
             have hM:=Qs (x:=r106) (hM0.add hK hFr) sio sio sio
             exact ⟨_,_,rfl,hE,M.qFill (mk1:=[]) (mk2:=[_,_]) (f:=(fun v=>own NoB r106 (Value.cells v).toList)) hM rfl hD,⟨_,rfl⟩⟩
            ·intro a w ux105 D z
             have hE:=z.E
             have hM:=z.M
             exact Zm hE rfl qg rfl hM.rawAt8 (Flat.len _) fun a hE=>⟨Kept.refl _ _,_,rfl,hE⟩
            ·intro a w ux105 D z
             have hE:=z.E
             have hD : D 5 = false:=z.F
             have d1 : D 1 = true:=z.p 0 _ rfl rfl
             have hM0:=z.M
             have hM:=z.M.sure (pre:=[_,_,_,_,_,_,_,_,_,_]) d1
             obtain ⟨q105_1_0_1,q105_1_0_2,q105_1_0_3,hcz,hq105_1_0_1,hq105_1_0_2,hq105_1_0_3⟩:=WB (hM.ro (pre:=[_,_,_,_,_,_,_,_,_,_]) noB)
             have qK111 : (ux105 1) = (Value.agg (cat [[q105_1_0_1],[vI r106.Next],[q105_1_0_2],[q105_1_0_3],enc r106.Head]).toArray):=H1 hcz (z.G 1 (by assumption) _ rfl).2
             refine Zv hE (qs (jM (lk rfl qK111) (jM rfl (jM rfl evsN)))) (cbm Tryz.func34) (Jp _ r106 q105_1_0_1 hq105_1_0_1 q105_1_0_2 hq105_1_0_2 q105_1_0_3 hq105_1_0_3 p1 r112 r114 e115) ?_
             rintro _ w a ⟨u116,u117,u118,rfl,hFr,hK⟩ hE
             have hM:=Qs (x:=r114.1) (hM0.add hK hFr) sio sio sio
             have hsD : D 10 = false:=Q9 (j:=10) (k:=2) z.c rfl rfl rfl hD
             have hM:=M.dOff (its:=_ :: [own NoB (r99.1.Keys : (List (Vector UInt8 16))) [q42_4_0_1],own NoB (r99.1.Records : (List GRecord)) [q42_4_0_2],own NoB (r99.1.Events : (List GEvent)) [q42_4_0_3],raw b55 (cat [[q42_4_0_1],[vI r45.1.Next],[q42_4_0_2],[q42_4_0_3],enc r45.1.Head]),raw b27 (cat [[q8_5_0_1],[vI r17.1.Next],[q8_5_0_2],[q8_5_0_3],enc r17.1.Head]),own NoB (r17.1.Keys : (List (Vector UInt8 16))) [q8_5_0_1],own NoB (r17.1.Records : (List GRecord)) [q8_5_0_2],own NoB (r17.1.Events : (List GEvent)) [q8_5_0_3],raw b3 (enc p2),raw b1 (cat [[v0_1],[vI p0.Next],[v0_2],[v0_3],enc p0.Head])]) (mk1:=([mkO 1 (fun v=>own NoB r106 (Value.cells v).toList),mkO 5 (fun v=>own NoB r114.1 (Value.cells (Yv v 0)).toList)] : Mk)) (mk2:=([] : Mk)) (i:=9) (s:=10) (k:=5) (z:=cat [[(Value.slice none 0 0)],[vI 0],[(Value.slice none 0 0)],[(Value.slice none 0 0)],enc (Vector.replicate 32 (0 : UInt8))]) (f:=(fun v=>(Value.cells (Yv v 0)).toList)) hM hsD
             exact ⟨_,_,rfl,hE,M.dOn (its:=[own NoB (r99.1.Keys : (List (Vector UInt8 16))) [q42_4_0_1],own NoB (r99.1.Records : (List GRecord)) [q42_4_0_2],own NoB (r99.1.Events : (List GEvent)) [q42_4_0_3],raw b55 (cat [[q42_4_0_1],[vI r45.1.Next],[q42_4_0_2],[q42_4_0_3],enc r45.1.Head]),raw b27 (cat [[q8_5_0_1],[vI r17.1.Next],[q8_5_0_2],[q8_5_0_3],enc r17.1.Head]),own NoB (r17.1.Keys : (List (Vector UInt8 16))) [q8_5_0_1],own NoB (r17.1.Records : (List GRecord)) [q8_5_0_2],own NoB (r17.1.Events : (List GEvent)) [q8_5_0_3],raw b3 (enc p2),raw b1 (cat [[v0_1],[vI p0.Next],[v0_2],[v0_3],enc p0.Head])]) (mk1:=([mkO 1 (fun v=>own NoB r106 (Value.cells v).toList),mkO 5 (fun v=>own NoB r114.1 (Value.cells (Yv v 0)).toList)] : Mk)) (mk2:=([] : Mk)) (i:=9) (s:=10) (k:=5) (z:=cat [[(Value.slice none 0 0)],[vI 0],[(Value.slice none 0 0)],[(Value.slice none 0 0)],enc (Vector.replicate 32 (0 : UInt8))]) (f:=(fun v=>(Value.cells (Yv v 0)).toList)) (M.qFill (its:=[own NoB (r99.1.Keys : (List (Vector UInt8 16))) [q42_4_0_1],own NoB (r99.1.Records : (List GRecord)) [q42_4_0_2],own NoB (r99.1.Events : (List GEvent)) [q42_4_0_3],raw b55 (cat [[q42_4_0_1],[vI r45.1.Next],[q42_4_0_2],[q42_4_0_3],enc r45.1.Head]),raw b27 (cat [[q8_5_0_1],[vI r17.1.Next],[q8_5_0_2],[q8_5_0_3],enc r17.1.Head]),own NoB (r17.1.Keys : (List (Vector UInt8 16))) [q8_5_0_1],own NoB (r17.1.Records : (List GRecord)) [q8_5_0_2],own NoB (r17.1.Events : (List GEvent)) [q8_5_0_3],raw b3 (enc p2),raw b1 (cat [[v0_1],[vI p0.Next],[v0_2],[v0_3],enc p0.Head])]) (mk1:=[_]) (mk2:=[_]) (f:=(fun v=>own NoB r114.1 (Value.cells (Yv v 0)).toList)) hM rfl hD) hsD (by decide),⟨rfl,⟨_,rfl⟩⟩⟩
            ·intro a w ux105 D z
             have hE:=z.E
             have d5 : D 5 = true:=z.p 0 _ rfl rfl
             have g5:=z.G 5 d5 _ rfl
             have f5 : ux105 5 = (Value.tuple [(Yv (ux105 5) 0),vI r114.2].toArray):=g5.2.1
             exact Zd hE (lk rfl f5) fun a hE=>⟨Kept.refl _ _,(zR d5 jp),_,rfl,hE⟩
            ·intro a w ux105 D z
             have hE:=z.E
             have d6 : D 6 = true:=z.p 0 _ rfl rfl
             have d5 : D 5 = true:=z.c 6 _ _ rfl (List.mem_of_getElem? (i:=0) rfl) rfl d6
             exact WG hE Za ld rfl rfl fun a hE=>⟨Kept.refl _ _,(zR d5 jp),_,rfl,hE⟩
            ·intro a w ux105 D z
             have hE:=z.E
             have hD : D 9 = false:=z.F
             have hM:=z.M
             refine Zz hE hM Yn ?_; intro b120 w a hM hE
             have hs : D 10 = false:=Q9 (j:=10) (k:=0) z.c rfl rfl rfl hD
             exact ⟨_,_,rfl,hE,M.qAllocD (mk1:=[_,_]) (mk2:=[]) hM rfl hD hs (by decide),trivial⟩
            ·intro a w ux105 D z
             have hE:=z.E
             have hD : D 10 = false:=z.F
             have d9 : D 9 = true:=z.p 0 _ rfl rfl
             have d7 : D 7 = true:=z.p 1 _ rfl rfl
             have g7:=z.G 7 d7 _ rfl
             have d5 : D 5 = true:=g7.1 5 (show 5 ∈ [5] by decide)
             have hM:=z.M.sure (pre:=[_,_,_,_,_,_,_,_,_,_,_]) d5
             obtain ⟨q105_5_0_1,q105_5_0_2,q105_5_0_3,hcz,hq105_5_0_1,hq105_5_0_2,hq105_5_0_3⟩:=WB (hM.ro (pre:=[_,_,_,_,_,_,_,_,_,_,_]) noB)
             have qK119 : (Yv (ux105 5) 0) = (Value.agg (cat [[q105_5_0_1],[vI r114.1.Next],[q105_5_0_2],[q105_5_0_3],enc r114.1.Head]).toArray):=H1 hcz (z.G 5 (by assumption) _ rfl).2.2
             obtain ⟨b122,hb123,hM⟩:=M.openCellF (pre:=[_,_,_,_,_,_,_,_,_,_,_,_]) hM d9 hD
             refine Zl (seg:=cat [[q105_5_0_1],[vI r114.1.Next],[q105_5_0_2],[q105_5_0_3],enc r114.1.Head]) (cs':=cat [[q105_5_0_1],[vI r114.1.Next],[q105_5_0_2],[q105_5_0_3],enc r114.1.Head]) hE hM Za (lk rfl hb123) (lk rfl qK119) rfl Yn cq (Nat.le_of_eq ((Nat.zero_add _).trans (Eq.trans cq (Eq.symm cq)))) (Z1 (cc1 (Rep.cell hq105_5_0_1) (cc1 (Flat.cell (r114.1.Next : Int)) (cc1 (Rep.cell hq105_5_0_2) (cc1 (Rep.cell hq105_5_0_3) (cc1 (Flat.cell _) cc0)))))) (Zi (Eq.trans cq (Eq.symm cq))) ?_; intro w a hM hE
             have hM:=(M.recell hM (show _ = (Value.cells (Yv (ux105 5) 0)).toList from by rw [qK119]; rfl)).unsure (pre:=[_,_,_,_,_,_,_,_,_,_,_,_]) d5
             exact ⟨undef,_,rfl,Env.dummy hE (by decide),M.qStoreD (its:=[own NoB (r99.1.Keys : (List (Vector UInt8 16))) [q42_4_0_1],own NoB (r99.1.Records : (List GRecord)) [q42_4_0_2],own NoB (r99.1.Events : (List GEvent)) [q42_4_0_3],raw b55 (cat [[q42_4_0_1],[vI r45.1.Next],[q42_4_0_2],[q42_4_0_3],enc r45.1.Head]),raw b27 (cat [[q8_5_0_1],[vI r17.1.Next],[q8_5_0_2],[q8_5_0_3],enc r17.1.Head]),own NoB (r17.1.Keys : (List (Vector UInt8 16))) [q8_5_0_1],own NoB (r17.1.Records : (List GRecord)) [q8_5_0_2],own NoB (r17.1.Events : (List GEvent)) [q8_5_0_3],raw b3 (enc p2),raw b1 (cat [[v0_1],[vI p0.Next],[v0_2],[v0_3],enc p0.Head])]) (mk1:=[_,_]) (mk2:=[]) (i:=9) (s:=10) (k:=5) (z:=cat [[(Value.slice none 0 0)],[vI 0],[(Value.slice none 0 0)],[(Value.slice none 0 0)],enc (Vector.replicate 32 (0 : UInt8))]) (f:=(fun v=>(Value.cells (Yv v 0)).toList)) hM rfl d9 hb123 (by decide) (by decide),trivial⟩
            ·intro a w ux105 D hE hM hG hall
             have d1:=hall 1 (by decide)
             have d5:=hall 5 (by decide)
             have d9:=hall 9 (by decide)
             have d10:=hall 10 (by decide)
             have hM:=(hM.sure (pre:=[_,_,_,_,_,_,_,_,_,_]) d1).sure (pre:=[_,_,_,_,_,_,_,_,_,_,_]) d5
             obtain ⟨b124,f125,hM⟩:=M.openCellT (pre:=[_,_,_,_,_,_,_,_,_,_,_,_]) hM d9 d10
             obtain ⟨q105_1_0_1,q105_1_0_2,q105_1_0_3,hcz,_,_,_⟩:=WB (hM.ro (pre:=[_,_,_,_,_,_,_,_,_,_,_]) noB)
             have qK111 : (ux105 1) = (Value.agg (cat [[q105_1_0_1],[vI r106.Next],[q105_1_0_2],[q105_1_0_3],enc r106.Head]).toArray):=H1 hcz (hG 1 d1 _ rfl).2
             have hM:=hM.pull11
             have hM:=Qx (hM.recown (congrArg (fun v=>(Value.cells v).toList) qK111))
             obtain ⟨q105_5_0_1,q105_5_0_2,q105_5_0_3,hcz,_,_,_⟩:=WB (hM.ro (pre:=[_,_,_,_,_,_,_,_,_,_,_,_,_,_]) noB)
             have qK119 : (Yv (ux105 5) 0) = (Value.agg (cat [[q105_5_0_1],[vI r114.1.Next],[q105_5_0_2],[q105_5_0_3],enc r114.1.Head]).toArray):=H1 hcz (hG 5 d5 _ rfl).2.2
             have hM:=hM.pull (pre:=[_,_,_,_,_,_,_,_,_,_,_,_,_,_])
             have hM:=(Qx (hM.recown (congrArg (fun v=>(Value.cells v).toList) qK119))).pull6
             have hM:=M.recell (c':=cat [[q105_5_0_1],[vI r114.1.Next],[q105_5_0_2],[q105_5_0_3],enc r114.1.Head]) hM (congrArg (fun v=>(Value.cells v).toList) qK119)
             have hE:=hE.setq (t:=85) rfl qK111
             have hE:=hE.setq (t:=90) rfl qK119
             have hE:=hE.setq (t:=16) rfl f125
             refine Zc hE rfl fun a hE=>Zg (Zt (wp_seq ?_))
             obtain ⟨j132,hl133,hF134⟩:=bind_some hF90
             refine ZO (fun a w=>Env 109 a [(11,(ptr b55 0)),(14,vI r99.2),(100,vT j132)] ∧ M (Old w0) w0 w [own NoB (r99.1.Keys : (List (Vector UInt8 16))) [q42_4_0_1],own NoB (r99.1.Records : (List GRecord)) [q42_4_0_2],own NoB (r99.1.Events : (List GEvent)) [q42_4_0_3],raw b55 (cat [[q42_4_0_1],[vI r45.1.Next],[q42_4_0_2],[q42_4_0_3],enc r45.1.Head])]) ?_ ?_
             ·skip
              refine wp_region_lit (Zm hE rfl Yn rfl hM.rawAt0 cq fun a hE=>Zm hE rfl Yn rfl hM.rawAt11 cq ?_); intro a hE
              obtain ⟨r135,e136,hl133⟩:=bind_some hl133
              refine Zv hE rfl cb27 (QG _ r114.1 q105_5_0_1 (hM.ro (pre:=[_]) noB) q105_5_0_2 (hM.ro (pre:=[_,_]) noB) q105_5_0_3 (hM.ro (pre:=[_,_,_]) noB) r17.1 q8_5_0_1 (hM.ro (pre:=[_,_,_,_,_,_,_,_,_,_,_,_]) noB) q8_5_0_2 (hM.ro (pre:=[_,_,_,_,_,_,_,_,_,_,_,_,_]) noB) q8_5_0_3 (hM.ro (pre:=[_,_,_,_,_,_,_,_,_,_,_,_,_,_]) noB) r135 e136) ?_
              rintro v w a ⟨rfl,hK⟩ hE
              have hM:=hM.keep hK
              refine QO hE rfl fun a hE=>Zd hE rfl ?_; intro a hE
              refine X1 (!r135) (fun hb137=>?_) (fun hb137=>?_)
              ·have hl133:=Zw hl133 hb137
               refine Zr hE rfl (lkb rfl hb137) rfl (by decide) fun a hE=>Zr hE rfl (lkb rfl hb137) rfl (by decide) fun a hE=>Zr hE rfl (lkb rfl hb137) rfl (by decide) fun a hE=>Yy hE (lkb rfl hb137) rfl fun a hE=>Zg ?_
               obtain rfl:=Option.some.inj hl133
               refine Zk ?_
               have hM:=M.fst (l:=[_,_,_,_]) hM.pull10.pull10.pull10.pull10
               exact ⟨hE.sub ⟨rfl,rfl,rfl,trivial⟩,hM⟩
              ·have hl133:=Zx hl133 hb137
               refine Zu hE (Zq hE rfl (lkb rfl hb137)) (by decide) rfl fun a hE=>Zu hE (Zq hE rfl (lkb rfl hb137)) (by decide) rfl fun a hE=>Yt hE (Zq hE rfl (lkb rfl hb137)) (by decide) rfl rfl rfl fun a hE=>Wc hE (lkb rfl hb137) rfl fun a hE=>Zg ?_
               obtain rfl:=Option.some.inj hl133
               refine Zk ?_
               have hM:=M.fst (l:=[_,_,_,_]) hM.pull10.pull10.pull10.pull10
               exact ⟨hE.sub ⟨rfl,rfl,rfl,trivial⟩,hM⟩
             ·skip
              rintro a w ⟨hE,hM⟩
              refine Zo hE rfl ?_ ?_
              ·intro hb140
               have hF134:=Zw hF134 hb140
               refine Zb (Zc hE rfl fun a hE=>Ze ?_)
               obtain rfl:=Option.some.inj hF134
               exact wp_ret (Zs (kr1 hE rfl rfl hM.kept))
              ·intro hb140
               have hF134:=Zx hF134 hb140
               refine wp_skip (Zt (Zb (Zc hE rfl fun a hE=>Ze (Zb (Zm hE rfl Yn rfl hM.rawAt3 cq fun a hE=>Zd hE rfl ?_))))); intro a hE
               obtain ⟨r141,e142,hF134⟩:=bind_some hF134
               refine Zv hE rfl (cbm Tryz.func29) (KO _ (⟨r99.1.Keys,r45.1.Next,r99.1.Records,r99.1.Events,r45.1.Head⟩ : GVault) q42_4_0_1 (hM.ro (pre:=[]) noB) q42_4_0_2 (hM.ro (pre:=[_]) noB) q42_4_0_3 (hM.ro (pre:=[_,_]) noB) 1 r141 e142) ?_
               rintro v w a ⟨rfl,hK⟩ hE
               have hM:=hM.keep hK
               refine Zc hE rfl fun a hE=>Ze (wp_seq (Zb (Zd hE rfl fun a hE=>Zh hE rfl rfl rfl fun a hE=>Ze ?_)))
               refine Zo hE rfl ?_ ?_
               ·intro hb143
                have hF134:=Zw hF134 hb143
                refine Zb (Zc hE rfl fun a hE=>Ze ?_)
                obtain rfl:=Option.some.inj hF134
                exact wp_ret (Zs (kr1 hE rfl rfl hM.kept))
               ·intro hb143
                have hF134:=Zx hF134 hb143
                refine wp_skip (Zt (wp_seq (Zb (Zd hE rfl fun a hE=>Zd hE rfl fun a hE=>Zh hE rfl rfl rfl fun a hE=>Ze ?_))))
                refine Zo hE rfl ?_ ?_
                ·intro hb144
                 have hF134:=Zw hF134 hb144
                 refine Zb (Zc hE rfl fun a hE=>Ze ?_)
                 obtain rfl:=Option.some.inj hF134
                 exact wp_ret (Zs (kr1 hE rfl rfl hM.kept))
                ·intro hb144
                 have hF134:=Zx hF134 hb144
                 refine wp_skip (Zt (Zb (Zc hE rfl fun a hE=>Ze ?_)))
                 obtain rfl:=Option.some.inj hF134
                 exact wp_ret (kr1 hE rfl rfl hM.kept)
end

end Go.Proofs.YtpibglnacohdkaaGreat
