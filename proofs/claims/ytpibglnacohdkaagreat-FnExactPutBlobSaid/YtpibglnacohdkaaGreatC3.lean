/- The walk of what the law reaches: contracts of functions. -/
import Derived.Test.YtpibglnacohdkaaGreatC2
set_option linter.unusedVariables false
set_option linter.unusedSimpArgs false
set_option maxRecDepth 20000
set_option maxHeartbeats 400000
namespace Go.Proofs.YtpibglnacohdkaaGreat
open Go
open Flat (enc)
noncomputable section
theorem Q8 (w0 : World) (p0 : GBlobs) (v0_1 : Value) (hv0_1 : Ro w0 p0.Keys [v0_1]) (v0_2 : Value) (hv0_2 : Ro w0 p0.Data [v0_2]) (v0_3 : Value) (hv0_3 : Ro w0 p0.Counts [v0_3]) (p1 : (List UInt8)) (v1_1 : Value) (hv1_1 : Ro w0 p1 [v1_1]) (r : GBlobs × (Vector UInt8 32) × Int) (hF : Vq p0 p1 = some r) :
  Calls Tryz.prog 19 [(Value.agg (cat [[v0_1],[v0_2],[v0_3]]).toArray),v1_1].toArray w0 (fun en w'=>∃ v,en = .returned v ∧ (∃ (y1 : Value) (y2 : Value) (y3 : Value),v = (Value.tuple [(Value.agg (cat [[y1],[y2],[y3]]).toArray),(Value.agg (enc r.2.1).toArray),vI r.2.2].toArray) ∧ Fr w0 w' [osl NoB (r.1.Keys : List (Vector UInt8 32)) y1,osl NoB (r.1.Data : List (List UInt8)) y2,osl NoB (r.1.Counts : List Int) y3] ∧ Kept (Old w0) w0 w')):=by
 refine ce Tryz.func19 ?_
 intro a hE
 have hM:=M.start w0
 unfold Vq at hF
 refine Zb (Ya (cs:=cat [[v0_1],[v0_2],[v0_3]]) hE hM Za ld rfl rfl fun b1 w a hM hE=>Zz hE hM Yv fun b3 w a hM hE=>Zz hE hM ZL fun b5 w a hM hE=>Zc hE rfl fun a hE=>Ze (Zb ?_))
 obtain ⟨r7,e8,hF⟩:=bind_some hF
 refine Zx hE rfl (cbm Tryz.func66) (JM _  r7 e8) ?_
 rintro v w a ⟨u9,rfl,hFr,hK⟩ hE
 have hM:=hM.add hK hFr
 refine Zz hE hM J1 fun b10 w a hM hE=>Zm (seg:=cat [[u9]]) (cs':=cat [[u9]]) hE hM Za rfl rfl rfl J1 cq (Nat.le_of_eq ((Nat.zero_add _).trans (Eq.trans cq (Eq.symm cq)))) (Yq (cc1 (Rep.cell (hM.ro (pre:=[_]) noB)) cc0)) (Zh (Eq.trans cq (Eq.symm cq))) fun w a hM hE=>Ze (wp_seq (wp_block (Zb (Zr hE rfl J1 rfl hM.rawAt0 cq fun a hE=>Zr hE rfl Yv rfl hM.rawAt4 cq ?_)))); intro a hE
 obtain ⟨r12,e13,hF⟩:=bind_some hF
 refine Zx hE rfl (cbm Tryz.func67) (QT _ r7 u9 (hM.ro (pre:=[_]) noB) p0 v0_1 (hM.rdo hv0_1) v0_2 (hM.rdo hv0_2) v0_3 (hM.rdo hv0_3) r12 e13) ?_
 rintro v w a ⟨rfl,hK⟩ hE
 have hM:=hM.keep hK
 refine Qk hE rfl fun a hE=>Zc hE rfl fun a hE=>Ze ?_
 refine Zo hE rfl ?_ ?_
 ·intro hb14
  have hF:=Zt hF hb14
  refine Zb (XM (parts:=[]) (vs:=[]) (cs:=cat [[(Value.slice none 0 0)],[(Value.slice none 0 0)],[(Value.slice none 0 0)]]) hE Za ld rfl rfl Yv AH Vv fun a hE=>YB (parts:=[]) (vs:=[]) (cs:=enc (Vector.replicate 32 (0 : UInt8))) hE Za ld rfl rfl ZL rfl ty5 Yp ?_); intro a hE
  have hM:=hM.pull3
  refine Zm (seg:=cat [[(Value.slice none 0 0)],[(Value.slice none 0 0)],[(Value.slice none 0 0)]]) (cs':=cat [[(Value.slice none 0 0)],[(Value.slice none 0 0)],[(Value.slice none 0 0)]]) hE hM Za rfl rfl rfl Yv cq (Nat.le_of_eq ((Nat.zero_add _).trans (Eq.trans cq (Eq.symm cq)))) (Yq (cc1 Xp (cc1 Xp (cc1 Xp cc0)))) (Zh (Eq.trans cq (Eq.symm cq))) ?_; intro w a hM hE
  have hM:=hM.pull3
  refine Zm (seg:=enc (Vector.replicate 32 (0 : UInt8))) (cs':=enc (Vector.replicate 32 (0 : UInt8))) hE hM Za rfl rfl rfl ZL (Flat.len _) (zle flq) (Flat.cell _) (Zh flq) fun w a hM hE=>Zc hE rfl fun a hE=>Ze ?_
  have hM:=M.nilS (α:=Int) NoB noB (M.nilS (α:=(List UInt8)) NoB noB (M.nilS (α:=(Vector UInt8 32)) NoB noB hM))
  obtain rfl:=Option.some.inj hF
  have hq18 : Z6 Tryz.prog _ _ (.cell 4 31) _:=ZK hE rfl Yv rfl hM.rawAt4 cq rfl
  have hq19 : Z6 Tryz.prog _ _ (.cell 5 35) _:=ZK hE rfl ZL rfl hM.rawAt3 (Flat.len _) rfl
  have hM:=M.fst (l:=[_,_,_]) hM.pull1.pull2
  exact wp_ret (Xk (Zv (Qf hE rfl hq18 hq19 (ZU hE rfl) ⟨_,rfl,(Value.slice none 0 0),(Value.slice none 0 0),(Value.slice none 0 0),rfl,hM.outF (Yf (Yf (Yf Xi))),hM.kept⟩)))
 ·intro hb14
  have hF:=Zs hF hb14
  refine Zb (Zd hE rfl ?_); intro a hE
  obtain ⟨r20,e21,hF⟩:=bind_some hF
  refine Zx hE rfl cb68 (Tw _ p1 v1_1 (hM.rdo hv1_1) r20 e21) ?_
  rintro v w a ⟨rfl,hK⟩ hE
  have hM:=hM.keep hK
  refine Qk hE rfl fun a hE=>Zc hE rfl fun a hE=>Ze ?_
  refine Zo hE rfl ?_ ?_
  ·intro hb22
   have hF:=Zt hF hb22
   refine Zb (XM (parts:=[]) (vs:=[]) (cs:=cat [[(Value.slice none 0 0)],[(Value.slice none 0 0)],[(Value.slice none 0 0)]]) hE Za ld rfl rfl Yv AH Vv fun a hE=>YB (parts:=[]) (vs:=[]) (cs:=enc (Vector.replicate 32 (0 : UInt8))) hE Za ld rfl rfl ZL rfl ty5 Yp ?_); intro a hE
   have hM:=hM.pull3
   refine Zm (seg:=cat [[(Value.slice none 0 0)],[(Value.slice none 0 0)],[(Value.slice none 0 0)]]) (cs':=cat [[(Value.slice none 0 0)],[(Value.slice none 0 0)],[(Value.slice none 0 0)]]) hE hM Za rfl rfl rfl Yv cq (Nat.le_of_eq ((Nat.zero_add _).trans (Eq.trans cq (Eq.symm cq)))) (Yq (cc1 Xp (cc1 Xp (cc1 Xp cc0)))) (Zh (Eq.trans cq (Eq.symm cq))) ?_; intro w a hM hE
   have hM:=hM.pull3
   refine Zm (seg:=enc (Vector.replicate 32 (0 : UInt8))) (cs':=enc (Vector.replicate 32 (0 : UInt8))) hE hM Za rfl rfl rfl ZL (Flat.len _) (zle flq) (Flat.cell _) (Zh flq) fun w a hM hE=>Zc hE rfl fun a hE=>Ze ?_
   have hM:=M.nilS (α:=Int) NoB noB (M.nilS (α:=(List UInt8)) NoB noB (M.nilS (α:=(Vector UInt8 32)) NoB noB hM))
   obtain rfl:=Option.some.inj hF
   have hq26 : Z6 Tryz.prog _ _ (.cell 4 31) _:=ZK hE rfl Yv rfl hM.rawAt4 cq rfl
   have hq27 : Z6 Tryz.prog _ _ (.cell 5 35) _:=ZK hE rfl ZL rfl hM.rawAt3 (Flat.len _) rfl
   have hM:=M.fst (l:=[_,_,_]) hM.pull1.pull2
   exact wp_ret (Xk (Zv (Qf hE rfl hq26 hq27 (ZU hE rfl) ⟨_,rfl,(Value.slice none 0 0),(Value.slice none 0 0),(Value.slice none 0 0),rfl,hM.outF (Yf (Yf (Yf Xi))),hM.kept⟩)))
  ·intro hb22
   have hF:=Zs hF hb22
   refine wp_skip (Yb (Zp (wp_seq ?_)))
   obtain ⟨r33,e34,hF⟩:=bind_some hF
   obtain ⟨r35,e36,hF⟩:=bind_some hF
   refine Yz (its:=[raw b10 (cat [[u9]]),own NoB (r7.engine : (Ref Gengine)) [u9],raw b5 (enc (Vector.replicate 32 (0 : UInt8))),raw b3 (cat [[(Value.slice none 0 0)],[(Value.slice none 0 0)],[(Value.slice none 0 0)]]),raw b1 (cat [[v0_1],[v0_2],[v0_3]])]) (mk:=([mkO 6 (fun v=>own NoB r35 (Value.cells v).toList),mkO 7 (fun v=>VZ v (enc (Vector.replicate 32 (0 : UInt8)))),mkO 8 (fun v=>VZ v (cat [[(Value.slice none 0 0)],[(Value.slice none 0 0)],[(Value.slice none 0 0)]])),mkL 3 [] 1 (fun us=>[v1_1])] : Mk)) [26,27,28,29,30,31,32,8,9] Yu rfl rfl (by decide) rfl hE (fun u=>M.qE (M.qE (M.qE (M.qE (M.q0 hM.drew u) emL) emO) emO) emO) (qsP (fun z=>Zq z.E Za ld rfl (jd) (kr0 rfl)) (qsP (v:=u9) ?_ (qsP (fun z=>Zj z.E Za ld rfl (kr0 rfl)) (qsM (pr:=fun v=>True) ?_ (qsP (v:=(Value.agg (enc r33).toArray)) ?_ (qsP (v:=(Value.agg (cat [[v0_1],[v0_2],[v0_3]]).toArray)) ?_ (qsM (pr:=fun v=>∃ cs,v = .agg cs) ?_ (qsM (pr:=fun v=>True) ?_ (qsM (pr:=fun v=>True) ?_ qs0))))))))) ?_
   ·intro a w ux28 D z
    have hE:=z.E
    have hM:=z.M
    exact ZB (v:=u9) hE rfl kO rfl (At.cat (pre:=[]) hM.rawAt0 cl0) fun a hE=>⟨Kept.refl _ _,_,rfl,hE⟩
   ·intro a w ux28 D z
    have hE:=z.E
    have hD : D 3 = false:=z.F
    have hM:=z.M
    exact Kv (xs:=[.tmp 28]) (vs:=[v1_1]) hE hM Za ld rfl rfl Tryz.underlying23 YU (by decide) (HB (YC (hM.rd hv1_1)) yb) fun b29 w a hM hE=>⟨_,_,rfl,hE,M.litFill (its:=[raw b10 (cat [[u9]]),own NoB (r7.engine : (Ref Gengine)) [u9],raw b5 (enc (Vector.replicate 32 (0 : UInt8))),raw b3 (cat [[(Value.slice none 0 0)],[(Value.slice none 0 0)],[(Value.slice none 0 0)]]),raw b1 (cat [[v0_1],[v0_2],[v0_3]])]) (mk:=([mkO 6 (fun v=>own NoB r35 (Value.cells v).toList),mkO 7 (fun v=>VZ v (enc (Vector.replicate 32 (0 : UInt8)))),mkO 8 (fun v=>VZ v (cat [[(Value.slice none 0 0)],[(Value.slice none 0 0)],[(Value.slice none 0 0)]]))] : Mk)) (i:=3) (ds:=[]) (m:=1) (f:=(fun us=>[v1_1])) hM rfl hD (by decide),trivial⟩
   ·intro a w ux28 D z
    have hE:=z.E
    have d3 : D 3 = true:=z.p 1 _ rfl rfl
    have hM:=(z.M.sure (pre:=[_,_,_,_,_,_,_,_]) d3).pull
    obtain ⟨b31,f32,hM⟩:=M.litOpen hM
    refine Zx hE (kd (evsC rfl (evsC (lk rfl f32) evsN))) (cbm Tryz.func69) (Tz _ r7.engine u9 (hM.ro (pre:=[_,_]) noB) ([p1] : (List (List UInt8))) (Value.slice (some ⟨b31,0,none⟩) 1 1) (yH hM.rawAt0 (hM.rawLt (pre:=[])) ⟨(hM.rdo hv1_1),trivial⟩ rfl) r33 e34) ?_
    rintro v w a ⟨rfl,hK⟩ hE
    exact ⟨hK,_,rfl,hE⟩
   ·intro a w ux28 D z
    have hE:=z.E
    have hM:=z.M
    exact Zr hE rfl Yv rfl hM.rawAt4 cq fun a hE=>⟨Kept.refl _ _,_,rfl,hE⟩
   ·intro a w ux28 D z
    have hE:=z.E
    have hD : D 6 = false:=z.F
    have hM0:=z.M
    have hM:=z.M
    refine Zx hE rfl (cbm Tryz.func50) (KF _ p0 v0_1 (hM.rdo hv0_1) v0_2 (hM.rdo hv0_2) v0_3 (hM.rdo hv0_3) r35 e36) ?_
    rintro _ w a ⟨u37,u38,u39,rfl,hFr,hK⟩ hE
    have hM:=JC (x:=r35) (hM0.add hK hFr) sio sio sio
    exact ⟨_,_,rfl,hE,M.qFill (mk1:=[]) (mk2:=[_,_,_]) (f:=(fun v=>own NoB r35 (Value.cells v).toList)) hM rfl hD,⟨_,rfl⟩⟩
   ·intro a w ux28 D z
    have hE:=z.E
    have hD : D 7 = false:=z.F
    have hM:=z.M
    refine Zz hE hM ZL ?_; intro b41 w a hM hE
    have hM:=hM.pack1 (it:=VZ _ (enc (Vector.replicate 32 (0 : UInt8)))) (fun w w' fp ⟨b',e,k⟩ hb=>⟨b',e,YW w w' fp k hb⟩) (fun fp k=>⟨_,rfl,k⟩)
    exact ⟨_,_,rfl,hE,M.qFill (mk1:=[_]) (mk2:=[_,_]) (f:=fun v=>VZ v (enc (Vector.replicate 32 (0 : UInt8)))) hM rfl hD,trivial⟩
   ·intro a w ux28 D z
    have hE:=z.E
    have hD : D 8 = false:=z.F
    have hM:=z.M
    refine Zz hE hM Yv ?_; intro b43 w a hM hE
    have hM:=hM.pack1 (it:=VZ _ (cat [[(Value.slice none 0 0)],[(Value.slice none 0 0)],[(Value.slice none 0 0)]])) (fun w w' fp ⟨b',e,k⟩ hb=>⟨b',e,YW w w' fp k hb⟩) (fun fp k=>⟨_,rfl,k⟩)
    exact ⟨_,_,rfl,hE,M.qFill (mk1:=[_,_]) (mk2:=[_]) (f:=fun v=>VZ v (cat [[(Value.slice none 0 0)],[(Value.slice none 0 0)],[(Value.slice none 0 0)]])) hM rfl hD,trivial⟩
   ·intro a w ux28 D hE hM hG hall
    have d3:=hall 3 (by decide)
    have d6:=hall 6 (by decide)
    have d7:=hall 7 (by decide)
    have d8:=hall 8 (by decide)
    have hM:=((hM.sure (pre:=[_,_,_,_,_]) d6).sure (pre:=[_,_,_,_,_,_]) d7).pull
    obtain ⟨_,⟨b45,f46,_⟩,_⟩:=hM.head
    have hM:=((hM.pack1 YW (it:=raw b45 (enc (Vector.replicate 32 (0 : UInt8)))) (fun fp ⟨b2,e2,k2⟩=>by rw [f46] at e2; simp [ptr] at e2; subst e2; exact k2)).sure (pre:=[_,_,_,_,_,_,_]) d8).pull
    obtain ⟨_,⟨b47,f48,_⟩,_⟩:=hM.head
    have hM:=((hM.pack1 YW (it:=raw b47 (cat [[(Value.slice none 0 0)],[(Value.slice none 0 0)],[(Value.slice none 0 0)]])) (fun fp ⟨b2,e2,k2⟩=>by rw [f48] at e2; simp [ptr] at e2; subst e2; exact k2)).sure (pre:=[_,_,_,_,_,_,_,_]) d3).pull
    obtain ⟨b49,f50,hM⟩:=M.litOpen hM
    obtain ⟨q28_6_0_1,q28_6_0_2,q28_6_0_3,hcz,_,_,_⟩:=Kh (hM.ro (pre:=[_,_,_,_,_,_,_,_]) noB)
    have qK40 : (ux28 6) = (Value.agg (cat [[q28_6_0_1],[q28_6_0_2],[q28_6_0_3]]).toArray):=aggQ hcz (hG 6 d6 _ rfl).2
    have hM:=hM.pull8
    have hM:=JB (hM.recown (congrArg (fun v=>(Value.cells v).toList) qK40))
    have hE:=hE.setq (t:=29) rfl f50
    have hE:=hE.setq (t:=32) rfl qK40
    have hE:=hE.setq (t:=8) rfl f46
    have hE:=hE.setq (t:=9) rfl f48
    have hM:=hM.pull5
    refine Zm (seg:=enc r33) (cs':=enc r33) hE hM Za rfl rfl rfl ZL (Flat.len _) (zle flq) (Flat.cell _) (Zh flq) ?_; intro w a hM hE
    have hM:=hM.pull5
    refine Zm (seg:=cat [[q28_6_0_1],[q28_6_0_2],[q28_6_0_3]]) (cs':=cat [[q28_6_0_1],[q28_6_0_2],[q28_6_0_3]]) hE hM Za rfl rfl rfl Yv cq (Nat.le_of_eq ((Nat.zero_add _).trans (Eq.trans cq (Eq.symm cq)))) (Yq (cc1 (Rep.cell (hM.ro (pre:=[_,_]) noB)) (cc1 (Rep.cell (hM.ro (pre:=[_,_,_]) noB)) (cc1 (Rep.cell (hM.ro (pre:=[_,_,_,_]) noB)) cc0)))) (Zh (Eq.trans cq (Eq.symm cq))) fun w a hM hE=>Zg (Zp (Zb (Zy hE rfl (XL) fun a hE=>ZB (v:=v0_1) hE rfl To rfl (At.cat (pre:=[]) hM.rawAt10 cl0) fun a hE=>Zr hE rfl ZL rfl hM.rawAt1 (Flat.len _) ?_))); intro a hE
    obtain ⟨r54,e55,hF⟩:=bind_some hF
    refine Zx hE rfl (cbm Tryz.func70) (XA _ p0.Keys v0_1 (hM.rdo hv0_1) r33 (fun z0 z1=>ZV z0 z1) 71 [] (cbm Tryz.func71) (fun w2 hk2 z0 z1 zr zhr=>Tp w2 z0 z1 zr zhr) r54 e55) ?_
    rintro v w a ⟨rfl,hK⟩ hE
    have hM:=hM.keep hK
    refine Zd hE rfl fun a hE=>XN hE Za ld rfl rfl fun a hE=>XN hE Za ld rfl rfl fun a hE=>Zc hE rfl fun a hE=>Zc hE rfl fun a hE=>Ze ?_
    obtain ⟨j56,hl57,hF58⟩:=bind_some hF
    refine ZN (fun a w=>∃ s59 : (List (Vector UInt8 32)) × (List (List UInt8)) × (List Int),j56 = Fl.nx s59 ∧ ∃ (u60 : Value) (u62 : Value) (u64 : Value),Env 94 a [(4,(ptr b3 0)),(5,(ptr b5 0)),(8,(ptr b45 0)),(9,(ptr b47 0))] ∧ M (Old w0) w0 w [raw b47 (cat [[u60],[u62],[u64]]),raw b45 (enc r33),raw b5 (enc (Vector.replicate 32 (0 : UInt8))),raw b3 (cat [[(Value.slice none 0 0)],[(Value.slice none 0 0)],[(Value.slice none 0 0)]]),osl NoB (s59.1 : List (Vector UInt8 32)) u60,osl NoB (s59.2.1 : List (List UInt8)) u62,osl NoB (s59.2.2 : List Int) u64]) ?_ ?_
    ·skip
     refine wp_block ?_
     obtain ⟨j66,hl67,hF68⟩:=bind_some hl57
     refine ZN (fun a w=>Env 94 a [(1,v1_1),(4,(ptr b3 0)),(5,(ptr b5 0)),(8,(ptr b45 0)),(9,(ptr b47 0)),(10,vI r54.1),(11,vT r54.2),(61,vT j66)] ∧ M (Old w0) w0 w [raw b47 (cat [[q28_6_0_1],[q28_6_0_2],[q28_6_0_3]]),raw b45 (enc r33),own NoB (r35.Keys : (List (Vector UInt8 32))) [q28_6_0_1],own NoB (r35.Data : (List (List UInt8))) [q28_6_0_2],own NoB (r35.Counts : (List Int)) [q28_6_0_3],raw b5 (enc (Vector.replicate 32 (0 : UInt8))),raw b3 (cat [[(Value.slice none 0 0)],[(Value.slice none 0 0)],[(Value.slice none 0 0)]])]) ?_ ?_
     ·skip
      refine wp_region_lit (Zd hE rfl fun a hE=>Zd hE rfl ?_); intro a hE
      refine Wc r54.2 (fun hb69=>?_) (fun hb69=>?_)
      ·have hl67:=Zt hl67 hb69
       refine Zq hE (Zf hE rfl (lkb rfl hb69)) (by decide) rfl (Wb) fun a hE=>ZM (v:=v0_3) hE (Zf hE rfl (lkb rfl hb69)) (by decide) rfl U7 rfl (At.cat (pre:=[[v0_1],[v0_2]]) hM.rawAt10 ck) fun a hE=>Zj hE (Zf hE rfl (lkb rfl hb69)) (by decide) rfl ?_; intro a hE
       obtain ⟨x70,hi72,hl67⟩:=bix hl67
       refine ZZ hE (Zf hE rfl (lkb rfl hb69)) (by decide) rfl rfl Tryz.underlying24 ty2 (hM.rd hv0_3) hi72.1 fun a hE=>ZM (v:=(vI x70)) hE (Zf hE rfl (lkb rfl hb69)) (by decide) rfl ty2 rfl (Yt (hM.rd hv0_3) hi72.2) fun a hE=>Z9 hE (Zf hE rfl (lkb rfl hb69)) (by decide) rfl rfl rfl fun a hE=>Yx hE (lkb rfl hb69) rfl fun a hE=>Zd hE rfl ?_; intro a hE
       refine Wc (x70 == 1000000) (fun hb73=>?_) (fun hb73=>?_)
       ·have hl67:=Zt hl67 hb73
        refine Zl hE rfl (lkb rfl hb73) rfl (by decide) fun a hE=>Zl hE rfl (lkb rfl hb73) rfl (by decide) fun a hE=>Zl hE rfl (lkb rfl hb73) rfl (by decide) fun a hE=>Ht hE rfl rfl (by decide) fun a hE=>Ht hE rfl rfl (by decide) fun a hE=>Ht hE rfl rfl (by decide) fun a hE=>Ht hE rfl rfl (by decide) fun a hE=>Zl hE rfl (lkb rfl hb73) rfl (by decide) fun a hE=>Yx hE (lkb rfl hb73) rfl fun a hE=>Zc hE rfl fun a hE=>Zg ?_
        obtain rfl:=Option.some.inj hl67
        refine Zk ?_
        have hM:=M.fst (l:=[_,_,_,_,_,_,_]) hM.pull9.pull9.pull6.pull6.pull6.pull6.pull6
        exact ⟨hE.sub ⟨rfl,rfl,rfl,rfl,rfl,rfl,rfl,rfl,trivial⟩,hM⟩
       ·have hl67:=Zs hl67 hb73
        refine Zj hE (Zf hE rfl (lkb rfl hb73)) (by decide) rfl fun a hE=>TF hE (Zf hE rfl (lkb rfl hb73)) (by decide) rfl ?_; intro a hE
        have hb75 : (!r54.2) = false:=by rw [hb69]; rfl
        refine Zj hE (Zf hE rfl (lkb rfl hb73)) (by decide) rfl fun a hE=>Zl hE rfl (lkb rfl hb75) rfl (by decide) fun a hE=>Zl hE rfl (lkb rfl hb75) rfl (by decide) fun a hE=>Zl hE rfl (lkb rfl hb75) rfl (by decide) fun a hE=>Zl hE rfl (lkb rfl hb75) rfl (by decide) fun a hE=>UW hE (Zf hE rfl (lkb rfl hb73)) (by decide) (lkb rfl hb75) rfl fun a hE=>X9 hE (lkb rfl hb73) rfl fun a hE=>Zc hE rfl fun a hE=>Zg ?_
        obtain rfl:=Option.some.inj hl67
        refine Zk ?_
        have hM:=M.fst (l:=[_,_,_,_,_,_,_]) hM.pull9.pull9.pull6.pull6.pull6.pull6.pull6
        exact ⟨hE.sub ⟨rfl,rfl,rfl,rfl,rfl,rfl,rfl,rfl,trivial⟩,hM⟩
      ·have hl67:=Zs hl67 hb69
       refine Zl hE rfl (lkb rfl hb69) rfl (by decide) fun a hE=>Zl hE rfl (lkb rfl hb69) rfl (by decide) fun a hE=>Zl hE rfl (lkb rfl hb69) rfl (by decide) fun a hE=>Zl hE rfl (lkb rfl hb69) rfl (by decide) fun a hE=>Zl hE rfl (lkb rfl hb69) rfl (by decide) fun a hE=>Zl hE rfl (lkb rfl hb69) rfl (by decide) fun a hE=>X9 hE (lkb rfl hb69) rfl fun a hE=>Zd hE rfl fun a hE=>Zj hE (Zf hE rfl rfl) (by decide) rfl fun a hE=>TF hE (Zf hE rfl rfl) (by decide) rfl ?_; intro a hE
       have hb77 : (!r54.2) = true:=by rw [hb69]; rfl
       refine Zj hE (Zf hE rfl rfl) (by decide) rfl fun a hE=>Zq hE (Zf hE rfl (lkb rfl hb77)) (by decide) rfl (XL) fun a hE=>ZM (v:=v0_1) hE (Zf hE rfl (lkb rfl hb77)) (by decide) rfl To rfl (At.cat (pre:=[]) hM.rawAt10 cl0) fun a hE=>T3 hE (Zf hE rfl (lkb rfl hb77)) (by decide) rfl Tryz.underlying29 (hM.rd hv0_1) fun a hE=>Z9 hE (Zf hE rfl (lkb rfl hb77)) (by decide) rfl rfl rfl fun a hE=>Td hE (Zf hE rfl rfl) (by decide) (lkb rfl hb77) rfl fun a hE=>X9 hE rfl rfl fun a hE=>Zc hE rfl fun a hE=>Zg ?_
       obtain rfl:=Option.some.inj hl67
       refine Zk ?_
       have hM:=M.fst (l:=[_,_,_,_,_,_,_]) hM.pull9.pull9.pull6.pull6.pull6.pull6.pull6
       exact ⟨hE.sub ⟨rfl,rfl,rfl,rfl,rfl,rfl,rfl,rfl,trivial⟩,hM⟩
     ·skip
      rintro a w ⟨hE,hM⟩
      obtain ⟨j79,hl80,hF81⟩:=bind_some hF68
      refine ZO (fun a w=>∃ s82 : (List (Vector UInt8 32)) × (List (List UInt8)) × (List Int),j79 = Fl.nx s82 ∧ ∃ (u83 : Value) (u85 : Value) (u87 : Value),Env 94 a [(4,(ptr b3 0)),(5,(ptr b5 0)),(8,(ptr b45 0)),(9,(ptr b47 0))] ∧ M (Old w0) w0 w [raw b47 (cat [[u83],[u85],[u87]]),raw b45 (enc r33),raw b5 (enc (Vector.replicate 32 (0 : UInt8))),raw b3 (cat [[(Value.slice none 0 0)],[(Value.slice none 0 0)],[(Value.slice none 0 0)]]),osl NoB (s82.1 : List (Vector UInt8 32)) u83,osl NoB (s82.2.1 : List (List UInt8)) u85,osl NoB (s82.2.2 : List Int) u87]) ?_ ?_
      ·skip
       refine Zo hE rfl ?_ ?_
       ·intro hb89
        have hl80:=Zt hl80 hb89
        refine Zb (XM (parts:=[]) (vs:=[]) (cs:=cat [[(Value.slice none 0 0)],[(Value.slice none 0 0)],[(Value.slice none 0 0)]]) hE Za ld rfl rfl Yv AH Vv fun a hE=>YB (parts:=[]) (vs:=[]) (cs:=enc (Vector.replicate 32 (0 : UInt8))) hE Za ld rfl rfl ZL rfl ty5 Yp ?_); intro a hE
        have hM:=hM.pull6
        refine Zm (seg:=cat [[(Value.slice none 0 0)],[(Value.slice none 0 0)],[(Value.slice none 0 0)]]) (cs':=cat [[(Value.slice none 0 0)],[(Value.slice none 0 0)],[(Value.slice none 0 0)]]) hE hM Za rfl rfl rfl Yv cq (Nat.le_of_eq ((Nat.zero_add _).trans (Eq.trans cq (Eq.symm cq)))) (Yq (cc1 Xp (cc1 Xp (cc1 Xp cc0)))) (Zh (Eq.trans cq (Eq.symm cq))) ?_; intro w a hM hE
        have hM:=hM.pull6
        refine Zm (seg:=enc (Vector.replicate 32 (0 : UInt8))) (cs':=enc (Vector.replicate 32 (0 : UInt8))) hE hM Za rfl rfl rfl ZL (Flat.len _) (zle flq) (Flat.cell _) (Zh flq) fun w a hM hE=>Zc hE rfl fun a hE=>Ze ?_
        have hM:=M.nilS (α:=Int) NoB noB (M.nilS (α:=(List UInt8)) NoB noB (M.nilS (α:=(Vector UInt8 32)) NoB noB hM))
        obtain rfl:=Option.some.inj hl80
        obtain rfl:=Option.some.inj hF81
        obtain rfl:=Option.some.inj hF58
        have hq95 : Z6 Tryz.prog _ _ (.cell 4 31) _:=ZK hE rfl Yv rfl hM.rawAt4 cq rfl
        have hq96 : Z6 Tryz.prog _ _ (.cell 5 35) _:=ZK hE rfl ZL rfl hM.rawAt3 (Flat.len _) rfl
        have hM:=M.fst (l:=[_,_,_]) hM.pull1.pull2
        exact wp_ret (Zv (Xk (Zv (Qf hE rfl hq95 hq96 (ZU hE rfl) ⟨_,rfl,(Value.slice none 0 0),(Value.slice none 0 0),(Value.slice none 0 0),rfl,hM.outF (Yf (Yf (Yf Xi))),hM.kept⟩))))
       ·intro hb89
        have hl80:=Zs hl80 hb89
        refine Zb (Zd hE rfl fun a hE=>Zc hE rfl fun a hE=>Ze ?_)
        refine Zo hE rfl ?_ ?_
        ·intro hb97
         have hl80:=Zt hl80 hb97
         refine wp_region_lit (Zy hE rfl (Wb) fun a hE=>ZB (v:=q28_6_0_3) hE rfl U7 rfl (At.cat (pre:=[[q28_6_0_1],[q28_6_0_2]]) hM.rawAt0 ck) fun a hE=>Zd hE rfl ?_); intro a hE
         obtain ⟨x98,hi100,hl80⟩:=bix hl80
         refine Yd hE rfl rfl Tryz.underlying24 ty2 (hM.ro (pre:=[_,_,_,_]) noB) hi100.1 fun a hE=>ZB (v:=(vI x98)) hE rfl ty2 rfl (Yt (hM.ro (pre:=[_,_,_,_]) noB) hi100.2) fun a hE=>Zi hE rfl rfl rfl ?_; intro a hE
         obtain ⟨x101,hi103,hl80⟩:=bix hl80
         refine Yd hE rfl rfl Tryz.underlying24 ty2 (hM.ro (pre:=[_,_,_,_]) noB) hi103.1 ?_; intro a hE
         have hM:=hM.pull4.toOsl (List.getElem?_eq_some_iff.1 hi103.2).1
         refine TA (i:=(r54.1).toNat) (k0:=0) (seg:=[(vI (wr (x98 + 1)))]) (xo:=x101) (xn:=wr (x98 + 1)) hE hM Za rfl rfl rfl ty2 rfl (Flat.cell (wr (x98 + 1) : Int)) hi103.2 (QD (m:=1) rfl (by decide)) (Zh rfl) ?_; intro w a hM hE
         have hM:=hM.toOwn noB
         refine Zg ?_
         obtain rfl:=Option.some.inj hl80
         refine Zk ?_
         have hM:=hM.pull3.toOsl0.pull4.toOsl0.pull2.toOsl0.pull1.pull2.pull6.pull6.pull6.pull6
         exact ⟨(r35.Keys,r35.Data,(r35.Counts.set (r54.1).toNat (wr (x98 + 1)))),rfl,q28_6_0_1,q28_6_0_2,q28_6_0_3,hE.sub ⟨rfl,rfl,rfl,rfl,trivial⟩,hM⟩
        ·intro hb97
         have hl80:=Zs hl80 hb97
         obtain ⟨j105,hl106,hF107⟩:=bind_some hl80
         refine ZN (fun a w=>∃ (u108 : Value) (u110 : Value),Env 94 a [(1,v1_1),(4,(ptr b3 0)),(5,(ptr b5 0)),(8,(ptr b45 0)),(9,(ptr b47 0)),(10,vI r54.1)] ∧ M (Old w0) w0 w [raw b47 (cat [[u108],[q28_6_0_2],[u110]]),raw b45 (enc r33),own NoB (r35.Data : (List (List UInt8))) [q28_6_0_2],raw b5 (enc (Vector.replicate 32 (0 : UInt8))),raw b3 (cat [[(Value.slice none 0 0)],[(Value.slice none 0 0)],[(Value.slice none 0 0)]]),osl NoB (j105.1 : List (Vector UInt8 32)) u108,osl NoB (j105.2 : List Int) u110]) ?_ ?_
         ·skip
          have hM:=hM.pull2
          have hM:=(hM.packL (m:=[_]) (it:=HV NoB [_]) (zQ.mono noB) (fun fp h=>XH.reloc h (BZ Xi))).pull4
          have hM:=hM.packL (m:=[_]) (it:=HV NoB [_]) (zQ.mono noB) (fun fp h=>XH.reloc h (BZ Xi))
          obtain ⟨r117,e118,hl106⟩:=bind_some hl106
          obtain ⟨r123,e124,hl106⟩:=bind_some hl106
          refine Yz (its:=[raw b47 (cat [[q28_6_0_1],[q28_6_0_2],[q28_6_0_3]]),raw b45 (enc r33),own NoB (r35.Data : (List (List UInt8))) [q28_6_0_2],raw b5 (enc (Vector.replicate 32 (0 : UInt8))),raw b3 (cat [[(Value.slice none 0 0)],[(Value.slice none 0 0)],[(Value.slice none 0 0)]])]) (mk:=([mkU 5 (HV NoB [own NoB (r35.Keys : (List (Vector UInt8 32))) [q28_6_0_1]]) (fun v=>Go.Proofs.YtpibglnacohdkaaGreat.emp),mkU 10 (HV NoB [own NoB (r35.Counts : (List Int)) [q28_6_0_3]]) (fun v=>Go.Proofs.YtpibglnacohdkaaGreat.emp),mkN [(5,fun v=>osl NoB (r117 : List (Vector UInt8 32)) v),(4,fun v=>osn NoB (([r33] : List (Vector UInt8 32)) : List (Vector UInt8 32)) v)],mkN [(10,fun v=>osl NoB (r123 : List Int) v),(9,fun v=>osn NoB (([1] : List Int) : List Int) v)]] : Mk)) [40,41,42,43,44,45,46,47,48,49,50,51] Yu rfl rfl (by decide) rfl hE (fun u=>M.qS (M.qS (M.qE (M.qE (M.q0 hM.drew u) emN) emN) fun _=>rfl) fun _=>rfl) (qsP (fun z=>Zq z.E Za ld rfl (XL) (kr0 rfl)) (qsP (v:=q28_6_0_1) ?_ (qsP (fun z=>Zj z.E Za ld rfl (kr0 rfl)) (qsP (v:=(Value.agg (enc r33).toArray)) ?_ (qsM (pr:=fun v=>True) ?_ (qsM (pr:=fun v=>True) ?_ (qsP (fun z=>Zq z.E Za ld rfl (Wb) (kr0 rfl)) (qsP (v:=q28_6_0_3) ?_ (qsP (fun z=>Zj z.E Za ld rfl (kr0 rfl)) (qsM (pr:=fun v=>True) ?_ (qsM (pr:=fun v=>True) ?_ (qsP (fun z=>Zq z.E Za ld rfl (XL) (kr0 rfl)) qs0)))))))))))) ?_
          ·intro a w ux112 D z
           have hE:=z.E
           have hM:=z.M
           exact ZB (v:=q28_6_0_1) hE rfl To rfl (At.cat (pre:=[]) hM.rawAt0 cl0) fun a hE=>⟨Kept.refl _ _,_,rfl,hE⟩
          ·intro a w ux112 D z
           have hE:=z.E
           have hM:=z.M
           exact Zr hE rfl ZL rfl hM.rawAt1 (Flat.len _) fun a hE=>⟨Kept.refl _ _,_,rfl,hE⟩
          ·intro a w ux112 D z
           have hE:=z.E
           have hD : D 4 = false:=z.F
           have hM:=z.M
           refine Aa (xs:=[.tmp 43]) (l:=([r33] : List (Vector UInt8 32))) (vs:=[(Value.agg (enc r33).toArray)]) hE hM Za ld rfl rfl Tryz.underlying29 ZL rfl (by decide) rfl ?_; intro u115 w a hM hE
           have hq5 : D 5 = false:=Qg (j:=5) (k:=2) z.c rfl rfl rfl hD
           exact ⟨_,_,rfl,hE,M.qPut (p:=mkN [(5,fun v=>osl NoB (r117 : List (Vector UInt8 32)) v),(4,fun v=>osn NoB (([r33] : List (Vector UInt8 32)) : List (Vector UInt8 32)) v)]) (its:=[raw b47 (cat [[q28_6_0_1],[q28_6_0_2],[q28_6_0_3]]),raw b45 (enc r33),own NoB (r35.Data : (List (List UInt8))) [q28_6_0_2],raw b5 (enc (Vector.replicate 32 (0 : UInt8))),raw b3 (cat [[(Value.slice none 0 0)],[(Value.slice none 0 0)],[(Value.slice none 0 0)]])]) (mk1:=[_,_]) (mk2:=[_]) hM rfl (Qc (U6 hq5 (U6 hD TC))) (V1 (l:=[_]) (U6 hq5 TC)),trivial⟩
          ·intro a w ux112 D z
           have hE:=z.E
           have hD : D 5 = false:=z.F
           have d4 : D 4 = true:=z.p 2 _ rfl rfl
           have hM:=(((z.M.chnF (pre:=[_,_,_,_,_,_,_]) hD).chnT (pre:=[_,_,_,_,_,_,_]) d4).togA (pre:=[_,_,_,_,_]) hD).pull
           have hM:=hM.unpackL (m:=[_]) (fun fp h=>XH.mono h (fun _ h=>h.elim))
           simp only [List.cons_append,List.nil_append] at hM
           have hM:=hM.toOsl0.pull7.pull1
           refine Zx hE rfl (cbm Tryz.func72) (V8 _ _ _ _ r35.Keys q28_6_0_1 r54.1 ([r33] : List (Vector UInt8 32)) (ux112 4) hM r117 e118) ?_
           rintro u119 w a ⟨_,rfl,hM⟩ hE
           have hM:=hM.insE (pre:=[_,_,_,_,_,_])
           exact ⟨_,_,rfl,hE,M.qUnconst (p:=mkU 5 (HV NoB [own NoB (r35.Keys : (List (Vector UInt8 32))) [q28_6_0_1]]) (fun v=>Go.Proofs.YtpibglnacohdkaaGreat.emp)) (its:=[raw b47 (cat [[q28_6_0_1],[q28_6_0_2],[q28_6_0_3]]),raw b45 (enc r33),own NoB (r35.Data : (List (List UInt8))) [q28_6_0_2],raw b5 (enc (Vector.replicate 32 (0 : UInt8))),raw b3 (cat [[(Value.slice none 0 0)],[(Value.slice none 0 0)],[(Value.slice none 0 0)]])]) (mk1:=([] : Mk)) (mk2:=([mkU 10 (HV NoB [own NoB (r35.Counts : (List Int)) [q28_6_0_3]]) (fun v=>Go.Proofs.YtpibglnacohdkaaGreat.emp),mkN [(5,fun v=>osl NoB (r117 : List (Vector UInt8 32)) v),(4,fun v=>osn NoB (([r33] : List (Vector UInt8 32)) : List (Vector UInt8 32)) v)],mkN [(10,fun v=>osl NoB (r123 : List Int) v),(9,fun v=>osn NoB (([1] : List Int) : List Int) v)]] : Mk)) (M.qTogS (p:=mkN [(5,fun v=>osl NoB (r117 : List (Vector UInt8 32)) v),(4,fun v=>osn NoB (([r33] : List (Vector UInt8 32)) : List (Vector UInt8 32)) v)]) (its:=[raw b47 (cat [[q28_6_0_1],[q28_6_0_2],[q28_6_0_3]]),raw b45 (enc r33),own NoB (r35.Data : (List (List UInt8))) [q28_6_0_2],raw b5 (enc (Vector.replicate 32 (0 : UInt8))),raw b3 (cat [[(Value.slice none 0 0)],[(Value.slice none 0 0)],[(Value.slice none 0 0)]])]) (mk1:=([([],fun _ _=>Go.Proofs.YtpibglnacohdkaaGreat.emp),mkU 10 (HV NoB [own NoB (r35.Counts : (List Int)) [q28_6_0_3]]) (fun v=>Go.Proofs.YtpibglnacohdkaaGreat.emp)] : Mk)) (mk2:=([mkN [(10,fun v=>osl NoB (r123 : List Int) v),(9,fun v=>osn NoB (([1] : List Int) : List Int) v)]] : Mk)) hM rfl (V1 (l:=[]) TC)) kD,trivial⟩
          ·intro a w ux112 D z
           have hE:=z.E
           have hM:=z.M
           exact ZB (v:=q28_6_0_3) hE rfl U7 rfl (At.cat (pre:=[[q28_6_0_1],[q28_6_0_2]]) hM.rawAt0 ck) fun a hE=>⟨Kept.refl _ _,_,rfl,hE⟩
          ·intro a w ux112 D z
           have hE:=z.E
           have hD : D 9 = false:=z.F
           have hM:=z.M
           refine Aa (xs:=[.const (vI 1)]) (l:=([1] : List Int)) (vs:=[vI 1]) hE hM Za ld rfl rfl Tryz.underlying24 ty2 rfl (by decide) rfl ?_; intro u121 w a hM hE
           have hq10 : D 10 = false:=Qg (j:=10) (k:=2) z.c rfl rfl rfl hD
           exact ⟨_,_,rfl,hE,M.qPut (p:=mkN [(10,fun v=>osl NoB (r123 : List Int) v),(9,fun v=>osn NoB (([1] : List Int) : List Int) v)]) (its:=[raw b47 (cat [[q28_6_0_1],[q28_6_0_2],[q28_6_0_3]]),raw b45 (enc r33),own NoB (r35.Data : (List (List UInt8))) [q28_6_0_2],raw b5 (enc (Vector.replicate 32 (0 : UInt8))),raw b3 (cat [[(Value.slice none 0 0)],[(Value.slice none 0 0)],[(Value.slice none 0 0)]])]) (mk1:=[_,_,_]) (mk2:=[]) hM rfl (Qc (U6 hq10 (U6 hD TC))) (V1 (l:=[_]) (U6 hq10 TC)),trivial⟩
          ·intro a w ux112 D z
           have hE:=z.E
           have hD : D 10 = false:=z.F
           have d9 : D 9 = true:=z.p 2 _ rfl rfl
           have hM:=(((z.M.chnF (pre:=[_,_,_,_,_,_,_,_]) hD).chnT (pre:=[_,_,_,_,_,_,_,_]) d9).togA (pre:=[_,_,_,_,_,_]) hD).pull
           have hM:=hM.unpackL (m:=[_]) (fun fp h=>XH.mono h (fun _ h=>h.elim))
           simp only [List.cons_append,List.nil_append] at hM
           have hM:=hM.toOsl0.pull8.pull1
           refine Zx hE rfl (cbm Tryz.func73) (TP _ _ _ _ r35.Counts q28_6_0_3 r54.1 ([1] : List Int) (ux112 9) hM r123 e124) ?_
           rintro u125 w a ⟨_,rfl,hM⟩ hE
           have hM:=hM.insE (pre:=[_,_,_,_,_,_,_])
           exact ⟨_,_,rfl,hE,M.qUnconst (p:=mkU 10 (HV NoB [own NoB (r35.Counts : (List Int)) [q28_6_0_3]]) (fun v=>Go.Proofs.YtpibglnacohdkaaGreat.emp)) (its:=[raw b47 (cat [[q28_6_0_1],[q28_6_0_2],[q28_6_0_3]]),raw b45 (enc r33),own NoB (r35.Data : (List (List UInt8))) [q28_6_0_2],raw b5 (enc (Vector.replicate 32 (0 : UInt8))),raw b3 (cat [[(Value.slice none 0 0)],[(Value.slice none 0 0)],[(Value.slice none 0 0)]])]) (mk1:=([mkU 5 (HV NoB [own NoB (r35.Keys : (List (Vector UInt8 32))) [q28_6_0_1]]) (fun v=>Go.Proofs.YtpibglnacohdkaaGreat.emp)] : Mk)) (mk2:=([mkN [(5,fun v=>osl NoB (r117 : List (Vector UInt8 32)) v),(4,fun v=>osn NoB (([r33] : List (Vector UInt8 32)) : List (Vector UInt8 32)) v)],mkN [(10,fun v=>osl NoB (r123 : List Int) v),(9,fun v=>osn NoB (([1] : List Int) : List Int) v)]] : Mk)) (M.qTogS (p:=mkN [(10,fun v=>osl NoB (r123 : List Int) v),(9,fun v=>osn NoB (([1] : List Int) : List Int) v)]) (its:=[raw b47 (cat [[q28_6_0_1],[q28_6_0_2],[q28_6_0_3]]),raw b45 (enc r33),own NoB (r35.Data : (List (List UInt8))) [q28_6_0_2],raw b5 (enc (Vector.replicate 32 (0 : UInt8))),raw b3 (cat [[(Value.slice none 0 0)],[(Value.slice none 0 0)],[(Value.slice none 0 0)]])]) (mk1:=([mkU 5 (HV NoB [own NoB (r35.Keys : (List (Vector UInt8 32))) [q28_6_0_1]]) (fun v=>Go.Proofs.YtpibglnacohdkaaGreat.emp),([],fun _ _=>Go.Proofs.YtpibglnacohdkaaGreat.emp),mkN [(5,fun v=>osl NoB (r117 : List (Vector UInt8 32)) v),(4,fun v=>osn NoB (([r33] : List (Vector UInt8 32)) : List (Vector UInt8 32)) v)]] : Mk)) (mk2:=([] : Mk)) hM rfl (V1 (l:=[]) TC)) kD,trivial⟩
          ·intro a w ux112 D hE hM hG hall
           have d5:=hall 5 (by decide)
           have d10:=hall 10 (by decide)
           have hM:=(((hM.togB (pre:=[_,_,_,_,_]) d5).togB (pre:=[_,_,_,_,_,_]) d10).chnT (pre:=[_,_,_,_,_,_,_]) d5).chnT (pre:=[_,_,_,_,_,_,_,_]) d10
           refine Zm (seg:=[(ux112 5)]) hE hM Za rfl rfl (YC (hM.sl (pre:=[_,_,_,_,_,_,_]) noB)) To rfl (Us (pre:=[]) cl0 rfl) (Rep.cell (hM.sl (pre:=[_,_,_,_,_,_,_]) noB)) (XO (pre:=[]) cl0 rfl) fun w a hM hE=>Zy hE rfl (Wb) fun a hE=>Zm (seg:=[(ux112 10)]) hE hM Za rfl rfl (YC (hM.sl (pre:=[_,_,_,_,_,_,_,_]) noB)) U7 rfl (Us (pre:=[[(ux112 5)],[q28_6_0_2]]) ck rfl) (Rep.cell (hM.sl (pre:=[_,_,_,_,_,_,_,_]) noB)) (XO (pre:=[[(ux112 5)],[q28_6_0_2]]) ck rfl) fun w a hM hE=>Zg ?_
           obtain rfl:=Option.some.inj hl106
           refine Zk ?_
           have hM:=M.fst (l:=[_,_,_,_,_,_,_]) hM.pull8.pull8.pull6.pull6.pull6.pull6.pull6
           exact ⟨(ux112 5),(ux112 10),hE.sub ⟨rfl,rfl,rfl,rfl,rfl,rfl,trivial⟩,hM⟩
         ·skip
          rintro a w ⟨u108,u110,hE,hM⟩
          obtain ⟨r129,e130,hF107⟩:=bind_some hF107
          refine Yz (its:=[raw b47 (cat [[u108],[q28_6_0_2],[u110]]),raw b45 (enc r33),own NoB (r35.Data : (List (List UInt8))) [q28_6_0_2],raw b5 (enc (Vector.replicate 32 (0 : UInt8))),raw b3 (cat [[(Value.slice none 0 0)],[(Value.slice none 0 0)],[(Value.slice none 0 0)]]),osl NoB (j105.1 : List (Vector UInt8 32)) u108,osl NoB (j105.2 : List Int) u110]) (mk:=([mkN [(5,fun v=>osn NoB (([r129] : List (List UInt8)) : List (List UInt8)) v),(4,fun v=>osl NoB (r129 : List UInt8) v)]] : Mk)) [53,54,55,56,57,58] Yu rfl rfl (by decide) rfl hE (fun u=>M.qE (M.q0 hM.drew u) emN) (qsP (fun z=>Zq z.E Za ld rfl (We) (kr0 rfl)) (qsP (v:=q28_6_0_2) ?_ (qsP (fun z=>Zj z.E Za ld rfl (kr0 rfl)) (qsP (fun z=>Zj z.E Za ld rfl (kr0 rfl)) (qsM (pr:=fun v=>True) ?_ (qsM (pr:=fun v=>True) ?_ qs0)))))) ?_
          ·intro a w ux128 D z
           have hE:=z.E
           have hM:=z.M
           exact ZB (v:=q28_6_0_2) hE rfl U8 rfl (At.cat (pre:=[[u108]]) hM.rawAt0 ck) fun a hE=>⟨Kept.refl _ _,_,rfl,hE⟩
          ·intro a w ux128 D z
           have hE:=z.E
           have hD : D 4 = false:=z.F
           have hM0:=z.M
           have hM:=z.M
           refine Zx hE rfl cb75 (Ve _ p1 v1_1 (hM.rdo hv1_1) r129 e130) ?_
           rintro _ w a ⟨_,rfl,hFr,hK⟩ hE
           have hM:=hM0.add hK hFr
           have hq5 : D 5 = false:=Qg (j:=5) (k:=0) z.c rfl rfl rfl hD
           exact ⟨_,_,rfl,hE,M.qPut (p:=mkN [(5,fun v=>osn NoB (([r129] : List (List UInt8)) : List (List UInt8)) v),(4,fun v=>osl NoB (r129 : List UInt8) v)]) (its:=[raw b47 (cat [[u108],[q28_6_0_2],[u110]]),raw b45 (enc r33),own NoB (r35.Data : (List (List UInt8))) [q28_6_0_2],raw b5 (enc (Vector.replicate 32 (0 : UInt8))),raw b3 (cat [[(Value.slice none 0 0)],[(Value.slice none 0 0)],[(Value.slice none 0 0)]]),osl NoB (j105.1 : List (Vector UInt8 32)) u108,osl NoB (j105.2 : List Int) u110]) (mk1:=[]) (mk2:=[]) hM rfl (Qc (U6 hq5 (U6 hD TC))) (V1 (l:=[_]) (U6 hq5 TC)),trivial⟩
          ·intro a w ux128 D z
           have hE:=z.E
           have hD : D 5 = false:=z.F
           have d4 : D 4 = true:=z.p 0 _ rfl rfl
           have hM:=(z.M.chnF (pre:=[_,_,_,_,_,_,_]) hD).chnT (pre:=[_,_,_,_,_,_,_]) d4
           have hc134:=YC (hM.sl (pre:=[_,_,_,_,_,_,_]) noB)
           have hM:=hM.pull7
           have hM:=hM.pack1 (it:=own NoB r129 ([(ux128 4)])) (V5 noB) (fun f0 q0=>(XV.sat q0))
           exact ji (xs:=[.tmp 57]) (seg:=[(ux128 4)]) hE hM noB Za ld rfl hc134 Tryz.underlying23 YU rfl (by decide) fun u132 w a hM hE=>⟨_,_,rfl,hE,M.qTogS (p:=mkN [(5,fun v=>osn NoB (([r129] : List (List UInt8)) : List (List UInt8)) v),(4,fun v=>osl NoB (r129 : List UInt8) v)]) (its:=[raw b47 (cat [[u108],[q28_6_0_2],[u110]]),raw b45 (enc r33),own NoB (r35.Data : (List (List UInt8))) [q28_6_0_2],raw b5 (enc (Vector.replicate 32 (0 : UInt8))),raw b3 (cat [[(Value.slice none 0 0)],[(Value.slice none 0 0)],[(Value.slice none 0 0)]]),osl NoB (j105.1 : List (Vector UInt8 32)) u108,osl NoB (j105.2 : List Int) u110]) (mk1:=[]) (mk2:=[]) hM rfl (V1 (l:=[]) TC),trivial⟩
          ·intro a w ux128 D hE hM hG hall
           have d5:=hall 5 (by decide)
           have hM:=((((hM.chnT (pre:=[_,_,_,_,_,_,_]) d5).pull2).toOsl0).pull7).pull1
           have hM0:=hM
           obtain ⟨r135,e136,hF107⟩:=bind_some hF107
           refine Zx hE rfl (cbm Tryz.func74) (T8 _ _ _ _ r35.Data q28_6_0_2 r54.1 ([r129] : List (List UInt8)) (ux128 5) hM r135 e136) ?_
           rintro u137 w a ⟨_,rfl,hM⟩ hE
           refine Zy hE rfl (We) ?_; intro a hE
           have hM:=hM.pull1
           refine Zm (seg:=[u137]) hE hM Za rfl rfl (YC (hM.sl (pre:=[_]) noB)) U8 rfl (Us (pre:=[[u108]]) ck rfl) (Rep.cell (hM.sl (pre:=[_]) noB)) (XO (pre:=[[u108]]) ck rfl) fun w a hM hE=>Zg ?_
           obtain rfl:=Option.some.inj hF107
           refine Zk ?_
           have hM:=hM.pull6.pull2.pull6.pull6.pull6.pull6.pull6
           exact ⟨(j105.1,r135,j105.2),rfl,u108,u137,u110,hE.sub ⟨rfl,rfl,rfl,rfl,trivial⟩,hM⟩
      ·skip
       rintro a w ⟨s82,ht,u83,u85,u87,hE,hM⟩
       subst ht
       have hF81:=Ta hF81
       refine Yb ?_
       obtain rfl:=Option.some.inj hF81
       refine Zk ?_
       exact ⟨(s82.1,s82.2.1,s82.2.2),rfl,u83,u85,u87,hE.sub ⟨rfl,rfl,rfl,rfl,trivial⟩,hM⟩
    ·skip
     rintro a w ⟨s59,ht,u60,u62,u64,hE,hM⟩
     subst ht
     have hF58:=Ta hF58
     obtain ⟨j140,hl141,hF142⟩:=bind_some hF58
     refine ZN (fun a w=>∃ (u143 : Value) (u145 : Value) (u147 : Value),Env 94 a [(4,(ptr b3 0)),(5,(ptr b5 0)),(6,vI j140.2.2.2.2)] ∧ M (Old w0) w0 w [raw b5 (enc j140.2.2.2.1),raw b3 (cat [[u143],[u145],[u147]]),osl NoB (j140.1 : List (Vector UInt8 32)) u143,osl NoB (j140.2.1 : List (List UInt8)) u145,osl NoB (j140.2.2.1 : List Int) u147]) ?_ ?_
     ·skip
      have hM:=hM.pull3
      refine Yz (its:=[raw b47 (cat [[u60],[u62],[u64]]),raw b45 (enc r33),raw b5 (enc (Vector.replicate 32 (0 : UInt8))),osl NoB (s59.1 : List (Vector UInt8 32)) u60,osl NoB (s59.2.1 : List (List UInt8)) u62,osl NoB (s59.2.2 : List Int) u64]) (mk:=([mkT 2 (raw b3 (cat [[(Value.slice none 0 0)],[(Value.slice none 0 0)],[(Value.slice none 0 0)]])) (raw b3 (cat [[u60],[u62],[u64]]))] : Mk)) [92,93,96] Yu rfl rfl (by decide) rfl hE (fun u=>M.qT (M.q0 hM.drew u)) (qsP (v:=(Value.agg (cat [[u60],[u62],[u64]]).toArray)) ?_ (qsP (v:=(Value.agg (enc r33).toArray)) ?_ (qsM (pr:=fun v=>True) ?_ qs0))) ?_
      ·intro a w ux149 D z
       have hE:=z.E
       have hD : D 0 = false:=z.F
       have hM:=z.M.togA (pre:=[_,_,_,_,_,_]) (Qg (j:=2) (k:=0) z.c rfl rfl rfl hD)
       exact Zr hE rfl Yv rfl hM.rawAt0 cq fun a hE=>⟨Kept.refl _ _,_,rfl,hE⟩
      ·intro a w ux149 D z
       have hE:=z.E
       have hM:=z.M
       exact Zr hE rfl ZL rfl hM.rawAt1 (Flat.len _) fun a hE=>⟨Kept.refl _ _,_,rfl,hE⟩
      ·intro a w ux149 D z
       have hE:=z.E
       have hD : D 2 = false:=z.F
       have hM:=(z.M.togA (pre:=[_,_,_,_,_,_]) hD).pull6
       exact Zm (seg:=cat [[u60],[u62],[u64]]) (cs':=cat [[u60],[u62],[u64]]) hE hM Za rfl rfl rfl Yv cq (Nat.le_of_eq ((Nat.zero_add _).trans (Eq.trans cq (Eq.symm cq)))) (Yq (cc1 (Rep.cell (hM.sl (pre:=[_,_,_,_]) noB)) (cc1 (Rep.cell (hM.sl (pre:=[_,_,_,_,_]) noB)) (cc1 (Rep.cell (hM.sl (pre:=[_,_,_,_,_,_]) noB)) cc0)))) (Zh (Eq.trans cq (Eq.symm cq))) fun w a hM hE=>⟨undef,_,rfl,Env.dummy hE (by decide),M.qTog (mk1:=[]) (mk2:=[]) hM rfl,trivial⟩
      ·intro a w ux149 D hE hM hG hall
       have d2:=hall 2 (by decide)
       have hM:=(hM.togB (pre:=[_,_,_,_,_,_]) d2).pull2
       refine Zm (seg:=enc r33) (cs':=enc r33) hE hM Za rfl rfl rfl ZL (Flat.len _) (zle flq) (Flat.cell _) (Zh flq) fun w a hM hE=>Zc hE rfl fun a hE=>Zg ?_
       obtain rfl:=Option.some.inj hl141
       refine Zk ?_
       have hM:=M.fst (l:=[_,_,_,_,_]) hM.pull5.pull5.pull5.pull6.pull4
       exact ⟨u60,u62,u64,hE.sub ⟨rfl,rfl,rfl,trivial⟩,hM⟩
     ·skip
      rintro a w ⟨u143,u145,u147,hE,hM⟩
      obtain rfl:=Option.some.inj hF142
      have hq151 : Z6 Tryz.prog _ _ (.cell 4 31) _:=ZK hE rfl Yv rfl hM.rawAt1 cq rfl
      have hq152 : Z6 Tryz.prog _ _ (.cell 5 35) _:=ZK hE rfl ZL rfl hM.rawAt0 (Flat.len _) rfl
      have hM:=M.fst (l:=[_,_,_]) hM.pull4.pull4.pull4
      exact wp_ret (Qf hE rfl hq151 hq152 (ZU hE rfl) ⟨_,rfl,u143,u145,u147,rfl,hM.outF (Yf (Yf (Yf Xi))),hM.kept⟩)
def Ux (p0 : (Vector UInt8 32)) (p1 : (Vector UInt8 32)) (s9 : Int) : Option (Fl Int (Fl Unit Bool)) :=
 if (decide (s9 < 32)) = true then (((ZI p0 s9).bind fun x19=>(ZI p1 s9).bind fun x22=>some (x19 != x22) : Option (Bool)).bind fun j14=>if j14 = true then (some (Fl.ex (Fl.ex false))) else (some (Fl.nx (wr (s9 + 1))))) else (some (Fl.ex (Fl.nx ())))
def Y2 (p0 : (Vector UInt8 32)) (p1 : (Vector UInt8 32)) : Option (Bool) :=
 (ZA (Ux p0 p1) 0).bind fun j5=>j5.el (fun s8=>some true) (fun r=>some r)
theorem UV (w0 : World) (p0 : (Vector UInt8 32)) (p1 : (Vector UInt8 32)) (r : Bool) (hF : Y2 p0 p1 = some r) :
  Calls Tryz.prog 20 [(Value.agg (enc p0).toArray),(Value.agg (enc p1).toArray)].toArray w0 (Rt w0 (vT r)):=by
 refine ce Tryz.func20 ?_
 intro a hE
 have hM:=M.start w0
 unfold Y2 at hF
 refine Zb (Ya (cs:=enc p0) hE hM Za ld rfl rfl fun b1 w a hM hE=>Ya (cs:=enc p1) hE hM Za ld rfl rfl fun b3 w a hM hE=>Zc hE rfl fun a hE=>Ze (wp_seq (Zb (Zc hE rfl fun a hE=>Ze ?_))))
 obtain ⟨j5,hl6,hF7⟩:=bind_some hF
 refine ZO (fun a w=>∃ s8 : Unit,j5 = Fl.nx s8 ∧ Env 17 a [] ∧ M (Old w0) w0 w []) ?_ ?_
 ·skip
  refine wp_block ?_
  refine ZE (fun (s9 : Int) a w=>Env 17 a [(2,(ptr b1 0)),(3,(ptr b3 0)),(5,vI s9)] ∧ M (Old w0) w0 w [raw b3 (enc p1),raw b1 (enc p0)]) hl6 ⟨hE.sub ⟨rfl,rfl,rfl,trivial⟩,hM⟩ ?_
  rintro s9 a w ⟨hE,hM⟩ o12 hs10 hx11
  unfold Ux at hs10
  refine wp_seq (Zb (Zd hE rfl fun a hE=>Zi hE rfl rfl rfl fun a hE=>Ze ?_))
  refine Zo hE rfl ?_ ?_
  ·intro hb13
   have hs10:=Zt hs10 hb13
   refine wp_skip (Zp (wp_seq (wp_block ?_)))
   obtain ⟨j14,hl15,hF16⟩:=bind_some hs10
   refine ZN (fun a w=>Env 17 a [(2,(ptr b1 0)),(3,(ptr b3 0)),(5,vI s9),(16,vT j14)] ∧ M (Old w0) w0 w [raw b3 (enc p1),raw b1 (enc p0)]) ?_ ?_
   ·skip
    obtain ⟨x19,hi18,hl15⟩:=bvx hl15
    obtain ⟨x22,hi21,hl15⟩:=bvx hl15
    refine ZX [10,11,12,13,14,15,16] Yu rfl rfl (by decide) rfl hE hM (qsP (fun z=>Zj z.E Za ld rfl (kr0 rfl)) (qsP (fun z=>ZC z.E Za ld rfl rfl Tryz.underlying35 ty5 hi18.1 (kr0 rfl)) (qsP (fun z=>ZM (v:=(vB x19)) z.E Za ld rfl ty5 rfl (At.vec (z.M.rawAt1) hi18.2) (kr0 rfl)) (qsP (fun z=>Zj z.E Za ld rfl (kr0 rfl)) (qsP (fun z=>ZC z.E Za ld rfl rfl Tryz.underlying35 ty5 hi21.1 (kr0 rfl)) (qsP (fun z=>ZM (v:=(vB x22)) z.E Za ld rfl ty5 rfl (At.vec (z.M.rawAt0) hi21.2) (kr0 rfl)) (qsP (fun z=>Z9 z.E Za ld rfl rfl (JH x19 x22) (kr0 rfl)) qs0))))))) ?_
    ·intro a w u hE hM
     refine Zg ?_
     obtain rfl:=Option.some.inj hl15
     refine Zk ?_
     exact ⟨hE.sub ⟨rfl,rfl,rfl,rfl,trivial⟩,hM⟩
   ·skip
    rintro a w ⟨hE,hM⟩
    refine Zo hE rfl ?_ ?_
    ·intro hb25
     have hF16:=Zt hF16 hb25
     refine Zb (Zc hE rfl fun a hE=>Ze ?_)
     obtain rfl:=hx11 _ (ois hF16)
     obtain rfl:=Option.some.inj hF7
     exact wp_ret (Xk (Zv (Zv (Xk (Zv (Zv (kr1 hE rfl rfl hM.kept)))))))
    ·intro hb25
     have hF16:=Zs hF16 hb25
     refine wp_skip (Yb (Zp (wp_region_lit (Zd hE rfl fun a hE=>Zi hE rfl rfl rfl fun a hE=>Zc hE rfl fun a hE=>Zg (Zk ?_)))))
     exact ⟨_,(ois hF16),hE.sub ⟨rfl,rfl,rfl,trivial⟩,hM⟩
  ·intro hb13
   have hs10:=Zs hs10 hb13
   refine wp_exit (Zn (Zn (Ye ?_)))
   obtain rfl:=hx11 _ (ois hs10)
   refine Zk ?_
   have hM:=M.fst (l:=[]) hM
   exact ⟨(),rfl,hE.sub trivial,hM⟩
 ·skip
  rintro a w ⟨s8,ht,hE,hM⟩
  subst ht
  have hF7:=Ta hF7
  refine Zp (Zb (Zc hE rfl fun a hE=>Ze ?_))
  obtain rfl:=Option.some.inj hF7
  exact wp_ret (kr1 hE rfl rfl hM.kept)
def V3 (p0 : (List (Vector UInt8 32))) (p1 : (List (Vector UInt8 32))) (s6 : Int) : Option (Fl Int (Fl Unit Bool)) :=
 if (decide (s6 < (p0.length : Int))) = true then (((idx p0 s6).bind fun x15=>(idx p1 s6).bind fun x18=>(Y2 x15 x18).bind fun r21=>some (!r21) : Option (Bool)).bind fun j11=>if j11 = true then (some (Fl.ex (Fl.ex false))) else (some (Fl.nx (wr (s6 + 1))))) else (some (Fl.ex (Fl.nx ())))
def Vp (p0 : (List (Vector UInt8 32))) (p1 : (List (Vector UInt8 32))) : Option (Bool) :=
 if ((p0.length : Int) != (p1.length : Int)) = true then (some false) else ((ZA (V3 p0 p1) 0).bind fun j2=>j2.el (fun s5=>some true) (fun r=>some r))
theorem Jz (w0 : World) (p0 : (List (Vector UInt8 32))) (v0_1 : Value) (hv0_1 : Ro w0 p0 [v0_1]) (p1 : (List (Vector UInt8 32))) (v1_1 : Value) (hv1_1 : Ro w0 p1 [v1_1]) (r : Bool) (hF : Vp p0 p1 = some r) :
  Calls Tryz.prog 54 [v0_1,v1_1].toArray w0 (Rt w0 (vT r)):=by
 refine ce Tryz.func54 ?_
 intro a hE
 have hM:=M.start w0
 unfold Vp at hF
 refine Zb (Zc hE rfl fun a hE=>Ze (wp_seq (Zb (Zd hE rfl fun a hE=>Z5 hE rfl Tryz.underlying29 (hM.rd hv0_1) fun a hE=>Zd hE rfl fun a hE=>Z5 hE rfl Tryz.underlying29 (hM.rd hv1_1) fun a hE=>Zi hE rfl rfl rfl fun a hE=>Ze ?_))))
 refine Zo hE rfl ?_ ?_
 ·intro hb1
  have hF:=Zt hF hb1
  refine Zb (Zc hE rfl fun a hE=>Ze ?_)
  obtain rfl:=Option.some.inj hF
  exact wp_ret (Zv (kr1 hE rfl rfl hM.kept))
 ·intro hb1
  have hF:=Zs hF hb1
  refine wp_skip (Zp (wp_seq (Zb (Zc hE rfl fun a hE=>Ze ?_))))
  obtain ⟨j2,hl3,hF4⟩:=bind_some hF
  refine ZO (fun a w=>∃ s5 : Unit,j2 = Fl.nx s5 ∧ Env 27 a [] ∧ M (Old w0) w0 w []) ?_ ?_
  ·skip
   refine wp_block ?_
   refine ZE (fun (s6 : Int) a w=>Env 27 a [(0,v0_1),(1,v1_1),(5,vI s6)] ∧ M (Old w0) w0 w []) hl3 ⟨hE.sub ⟨rfl,rfl,rfl,trivial⟩,hM⟩ ?_
   rintro s6 a w ⟨hE,hM⟩ o9 hs7 hx8
   unfold V3 at hs7
   refine wp_seq (Zb (Zd hE rfl fun a hE=>Zd hE rfl fun a hE=>Z5 hE rfl Tryz.underlying29 (hM.rd hv0_1) fun a hE=>Zi hE rfl rfl rfl fun a hE=>Ze ?_))
   refine Zo hE rfl ?_ ?_
   ·intro hb10
    have hs7:=Zt hs7 hb10
    refine wp_skip (Zp (wp_seq (wp_block ?_)))
    obtain ⟨j11,hl12,hF13⟩:=bind_some hs7
    refine ZN (fun a w=>Env 27 a [(0,v0_1),(1,v1_1),(5,vI s6),(26,vT j11)] ∧ M (Old w0) w0 w []) ?_ ?_
    ·skip
     obtain ⟨x15,hi17,hl12⟩:=bix hl12
     obtain ⟨x18,hi20,hl12⟩:=bix hl12
     obtain ⟨r21,e22,hl12⟩:=bind_some hl12
     refine ZX [17,18,19,20,21,22,23,24,25,26] Yu rfl rfl (by decide) rfl hE hM (qsP (fun z=>Zj z.E Za ld rfl (kr0 rfl)) (qsP (fun z=>Zj z.E Za ld rfl (kr0 rfl)) (qsP (fun z=>ZZ z.E Za ld rfl rfl Tryz.underlying29 ZL (z.M.rd hv0_1) hi17.1 (kr0 rfl)) (qsP (fun z=>ZW z.E Za ld rfl ZL rfl (Yt (z.M.rd hv0_1) hi17.2) (Flat.len _) (kr0 rfl)) (qsP (fun z=>Zj z.E Za ld rfl (kr0 rfl)) (qsP (fun z=>Zj z.E Za ld rfl (kr0 rfl)) (qsP (fun z=>ZZ z.E Za ld rfl rfl Tryz.underlying29 ZL (z.M.rd hv1_1) hi20.1 (kr0 rfl)) (qsP (fun z=>ZW z.E Za ld rfl ZL rfl (Yt (z.M.rd hv1_1) hi20.2) (Flat.len _) (kr0 rfl)) (qsP (fun z=>Yk z.E Za ld rfl cb20 (UV _ x15 x18 r21 e22) (kc rfl)) (qsP (fun z=>TF z.E Za ld rfl (kr0 rfl)) qs0)))))))))) ?_
     ·intro a w u hE hM
      refine Zg ?_
      obtain rfl:=Option.some.inj hl12
      refine Zk ?_
      exact ⟨hE.sub ⟨rfl,rfl,rfl,rfl,trivial⟩,hM⟩
    ·skip
     rintro a w ⟨hE,hM⟩
     refine Zo hE rfl ?_ ?_
     ·intro hb24
      have hF13:=Zt hF13 hb24
      refine Zb (Zc hE rfl fun a hE=>Ze ?_)
      obtain rfl:=hx8 _ (ois hF13)
      obtain rfl:=Option.some.inj hF4
      exact wp_ret (Xk (Zv (Zv (Xk (Zv (Zv (kr1 hE rfl rfl hM.kept)))))))
     ·intro hb24
      have hF13:=Zs hF13 hb24
      refine wp_skip (Yb (Zp (wp_region_lit (Zd hE rfl fun a hE=>Zi hE rfl rfl rfl fun a hE=>Zc hE rfl fun a hE=>Zg (Zk ?_)))))
      exact ⟨_,(ois hF13),hE.sub ⟨rfl,rfl,rfl,trivial⟩,hM⟩
   ·intro hb10
    have hs7:=Zs hs7 hb10
    refine wp_exit (Zn (Zn (Ye ?_)))
    obtain rfl:=hx8 _ (ois hs7)
    refine Zk ?_
    exact ⟨(),rfl,hE.sub trivial,hM⟩
  ·skip
   rintro a w ⟨s5,ht,hE,hM⟩
   subst ht
   have hF4:=Ta hF4
   refine Zp (Zb (Zc hE rfl fun a hE=>Ze ?_))
   obtain rfl:=Option.some.inj hF4
   exact wp_ret (kr1 hE rfl rfl hM.kept)
def UT (p0 : (List UInt8)) (p1 : (List UInt8)) (s6 : Int) : Option (Fl Int (Fl Unit Bool)) :=
 if (decide (s6 < (p0.length : Int))) = true then (((idx p0 s6).bind fun x15=>(idx p1 s6).bind fun x18=>some (x15 != x18) : Option (Bool)).bind fun j11=>if j11 = true then (some (Fl.ex (Fl.ex false))) else (some (Fl.nx (wr (s6 + 1))))) else (some (Fl.ex (Fl.nx ())))
def WN (p0 : (List UInt8)) (p1 : (List UInt8)) : Option (Bool) :=
 if ((p0.length : Int) != (p1.length : Int)) = true then (some false) else ((ZA (UT p0 p1) 0).bind fun j2=>j2.el (fun s5=>some true) (fun r=>some r))
theorem Q7 (w0 : World) (p0 : (List UInt8)) (v0_1 : Value) (hv0_1 : Ro w0 p0 [v0_1]) (p1 : (List UInt8)) (v1_1 : Value) (hv1_1 : Ro w0 p1 [v1_1]) (r : Bool) (hF : WN p0 p1 = some r) :
  Calls Tryz.prog 21 [v0_1,v1_1].toArray w0 (Rt w0 (vT r)):=by
 refine ce Tryz.func21 ?_
 intro a hE
 have hM:=M.start w0
 unfold WN at hF
 refine Zb (Zc hE rfl fun a hE=>Ze (wp_seq (Zb (Zd hE rfl fun a hE=>Z5 hE rfl Tryz.underlying40 (hM.rd hv0_1) fun a hE=>Zd hE rfl fun a hE=>Z5 hE rfl Tryz.underlying40 (hM.rd hv1_1) fun a hE=>Zi hE rfl rfl rfl fun a hE=>Ze ?_))))
 refine Zo hE rfl ?_ ?_
 ·intro hb1
  have hF:=Zt hF hb1
  refine Zb (Zc hE rfl fun a hE=>Ze ?_)
  obtain rfl:=Option.some.inj hF
  exact wp_ret (Zv (kr1 hE rfl rfl hM.kept))
 ·intro hb1
  have hF:=Zs hF hb1
  refine wp_skip (Zp (wp_seq (Zb (Zc hE rfl fun a hE=>Ze ?_))))
  obtain ⟨j2,hl3,hF4⟩:=bind_some hF
  refine ZO (fun a w=>∃ s5 : Unit,j2 = Fl.nx s5 ∧ Env 26 a [] ∧ M (Old w0) w0 w []) ?_ ?_
  ·skip
   refine wp_block ?_
   refine ZE (fun (s6 : Int) a w=>Env 26 a [(0,v0_1),(1,v1_1),(5,vI s6)] ∧ M (Old w0) w0 w []) hl3 ⟨hE.sub ⟨rfl,rfl,rfl,trivial⟩,hM⟩ ?_
   rintro s6 a w ⟨hE,hM⟩ o9 hs7 hx8
   unfold UT at hs7
   refine wp_seq (Zb (Zd hE rfl fun a hE=>Zd hE rfl fun a hE=>Z5 hE rfl Tryz.underlying40 (hM.rd hv0_1) fun a hE=>Zi hE rfl rfl rfl fun a hE=>Ze ?_))
   refine Zo hE rfl ?_ ?_
   ·intro hb10
    have hs7:=Zt hs7 hb10
    refine wp_skip (Zp (wp_seq (wp_block ?_)))
    obtain ⟨j11,hl12,hF13⟩:=bind_some hs7
    refine ZN (fun a w=>Env 26 a [(0,v0_1),(1,v1_1),(5,vI s6),(25,vT j11)] ∧ M (Old w0) w0 w []) ?_ ?_
    ·skip
     obtain ⟨x15,hi17,hl12⟩:=bix hl12
     obtain ⟨x18,hi20,hl12⟩:=bix hl12
     refine ZX [17,18,19,20,21,22,23,24,25] Yu rfl rfl (by decide) rfl hE hM (qsP (fun z=>Zj z.E Za ld rfl (kr0 rfl)) (qsP (fun z=>Zj z.E Za ld rfl (kr0 rfl)) (qsP (fun z=>ZZ z.E Za ld rfl rfl Tryz.underlying40 ty5 (z.M.rd hv0_1) hi17.1 (kr0 rfl)) (qsP (fun z=>ZM (v:=(vB x15)) z.E Za ld rfl ty5 rfl (Yt (z.M.rd hv0_1) hi17.2) (kr0 rfl)) (qsP (fun z=>Zj z.E Za ld rfl (kr0 rfl)) (qsP (fun z=>Zj z.E Za ld rfl (kr0 rfl)) (qsP (fun z=>ZZ z.E Za ld rfl rfl Tryz.underlying40 ty5 (z.M.rd hv1_1) hi20.1 (kr0 rfl)) (qsP (fun z=>ZM (v:=(vB x18)) z.E Za ld rfl ty5 rfl (Yt (z.M.rd hv1_1) hi20.2) (kr0 rfl)) (qsP (fun z=>Z9 z.E Za ld rfl rfl (JH x15 x18) (kr0 rfl)) qs0))))))))) ?_
     ·intro a w u hE hM
      refine Zg ?_
      obtain rfl:=Option.some.inj hl12
      refine Zk ?_
      exact ⟨hE.sub ⟨rfl,rfl,rfl,rfl,trivial⟩,hM⟩
    ·skip
     rintro a w ⟨hE,hM⟩
     refine Zo hE rfl ?_ ?_
     ·intro hb22
      have hF13:=Zt hF13 hb22
      refine Zb (Zc hE rfl fun a hE=>Ze ?_)
      obtain rfl:=hx8 _ (ois hF13)
      obtain rfl:=Option.some.inj hF4
      exact wp_ret (Xk (Zv (Zv (Xk (Zv (Zv (kr1 hE rfl rfl hM.kept)))))))
     ·intro hb22
      have hF13:=Zs hF13 hb22
      refine wp_skip (Yb (Zp (wp_region_lit (Zd hE rfl fun a hE=>Zi hE rfl rfl rfl fun a hE=>Zc hE rfl fun a hE=>Zg (Zk ?_)))))
      exact ⟨_,(ois hF13),hE.sub ⟨rfl,rfl,rfl,trivial⟩,hM⟩
   ·intro hb10
    have hs7:=Zs hs7 hb10
    refine wp_exit (Zn (Zn (Ye ?_)))
    obtain rfl:=hx8 _ (ois hs7)
    refine Zk ?_
    exact ⟨(),rfl,hE.sub trivial,hM⟩
  ·skip
   rintro a w ⟨s5,ht,hE,hM⟩
   subst ht
   have hF4:=Ta hF4
   refine Zp (Zb (Zc hE rfl fun a hE=>Ze ?_))
   obtain rfl:=Option.some.inj hF4
   exact wp_ret (kr1 hE rfl rfl hM.kept)
def UG (p0 : (List (List UInt8))) (p1 : (List (List UInt8))) (s6 : Int) : Option (Fl Int (Fl Unit Bool)) :=
 if (decide (s6 < (p0.length : Int))) = true then (((idx p0 s6).bind fun x15=>(idx p1 s6).bind fun x23=>(WN x15 x23).bind fun r31=>some (!r31) : Option (Bool)).bind fun j11=>if j11 = true then (some (Fl.ex (Fl.ex false))) else (some (Fl.nx (wr (s6 + 1))))) else (some (Fl.ex (Fl.nx ())))
def VI (p0 : (List (List UInt8))) (p1 : (List (List UInt8))) : Option (Bool) :=
 if ((p0.length : Int) != (p1.length : Int)) = true then (some false) else ((ZA (UG p0 p1) 0).bind fun j2=>j2.el (fun s5=>some true) (fun r=>some r))
theorem Ho (w0 : World) (p0 : (List (List UInt8))) (v0_1 : Value) (hv0_1 : Ro w0 p0 [v0_1]) (p1 : (List (List UInt8))) (v1_1 : Value) (hv1_1 : Ro w0 p1 [v1_1]) (r : Bool) (hF : VI p0 p1 = some r) :
  Calls Tryz.prog 55 [v0_1,v1_1].toArray w0 (Rt w0 (vT r)):=by
 refine ce Tryz.func55 ?_
 intro a hE
 have hM:=M.start w0
 unfold VI at hF
 refine Zb (Zc hE rfl fun a hE=>Ze (wp_seq (Zb (Zd hE rfl fun a hE=>Z5 hE rfl Tryz.underlying23 (hM.rd hv0_1) fun a hE=>Zd hE rfl fun a hE=>Z5 hE rfl Tryz.underlying23 (hM.rd hv1_1) fun a hE=>Zi hE rfl rfl rfl fun a hE=>Ze ?_))))
 refine Zo hE rfl ?_ ?_
 ·intro hb1
  have hF:=Zt hF hb1
  refine Zb (Zc hE rfl fun a hE=>Ze ?_)
  obtain rfl:=Option.some.inj hF
  exact wp_ret (Zv (kr1 hE rfl rfl hM.kept))
 ·intro hb1
  have hF:=Zs hF hb1
  refine wp_skip (Zp (wp_seq (Zb (Zc hE rfl fun a hE=>Ze ?_))))
  obtain ⟨j2,hl3,hF4⟩:=bind_some hF
  refine ZO (fun a w=>∃ s5 : Unit,j2 = Fl.nx s5 ∧ Env 27 a [] ∧ M (Old w0) w0 w []) ?_ ?_
  ·skip
   refine wp_block ?_
   refine ZE (fun (s6 : Int) a w=>Env 27 a [(0,v0_1),(1,v1_1),(5,vI s6)] ∧ M (Old w0) w0 w []) hl3 ⟨hE.sub ⟨rfl,rfl,rfl,trivial⟩,hM⟩ ?_
   rintro s6 a w ⟨hE,hM⟩ o9 hs7 hx8
   unfold UG at hs7
   refine wp_seq (Zb (Zd hE rfl fun a hE=>Zd hE rfl fun a hE=>Z5 hE rfl Tryz.underlying23 (hM.rd hv0_1) fun a hE=>Zi hE rfl rfl rfl fun a hE=>Ze ?_))
   refine Zo hE rfl ?_ ?_
   ·intro hb10
    have hs7:=Zt hs7 hb10
    refine wp_skip (Zp (wp_seq (wp_block ?_)))
    obtain ⟨j11,hl12,hF13⟩:=bind_some hs7
    refine ZN (fun a w=>Env 27 a [(0,v0_1),(1,v1_1),(5,vI s6),(26,vT j11)] ∧ M (Old w0) w0 w []) ?_ ?_
    ·skip
     obtain ⟨x15,hi17,hl12⟩:=bix hl12
     obtain ⟨cs18,hs19,hA20⟩:=US hv0_1 hi17.2 -- ^
     obtain ⟨u21,rfl⟩:=VE hs19 -- ^
     have h22:=hs19 -- ^
     obtain ⟨x23,hi25,hl12⟩:=bix hl12
     obtain ⟨cs26,hs27,hA28⟩:=US hv1_1 hi25.2 -- ^
     obtain ⟨u29,rfl⟩:=VE hs27 -- ^
     have h30:=hs27 -- ^
     obtain ⟨r31,e32,hl12⟩:=bind_some hl12
     refine ZX [17,18,19,20,21,22,23,24,25,26] Yu rfl rfl (by decide) rfl hE hM (qsP (fun z=>Zj z.E Za ld rfl (kr0 rfl)) (qsP (fun z=>Zj z.E Za ld rfl (kr0 rfl)) (qsP (fun z=>ZZ z.E Za ld rfl rfl Tryz.underlying23 YU (z.M.rd hv0_1) hi17.1 (kr0 rfl)) (qsP (fun z=>ZM (v:=u21) z.E Za ld rfl YU rfl (z.M.atk hA20 (UY hv0_1 hi17.2)) (kr0 rfl)) (qsP (fun z=>Zj z.E Za ld rfl (kr0 rfl)) (qsP (fun z=>Zj z.E Za ld rfl (kr0 rfl)) (qsP (fun z=>ZZ z.E Za ld rfl rfl Tryz.underlying23 YU (z.M.rd hv1_1) hi25.1 (kr0 rfl)) (qsP (fun z=>ZM (v:=u29) z.E Za ld rfl YU rfl (z.M.atk hA28 (UY hv1_1 hi25.2)) (kr0 rfl)) (qsP (fun z=>Yk z.E Za ld rfl (cbm Tryz.func21) (Q7 _ x15 u21 (z.M.rdo h22) x23 u29 (z.M.rdo h30) r31 e32) (kc rfl)) (qsP (fun z=>TF z.E Za ld rfl (kr0 rfl)) qs0)))))))))) ?_
     ·intro a w u hE hM
      refine Zg ?_
      obtain rfl:=Option.some.inj hl12
      refine Zk ?_
      exact ⟨hE.sub ⟨rfl,rfl,rfl,rfl,trivial⟩,hM⟩
    ·skip
     rintro a w ⟨hE,hM⟩
     refine Zo hE rfl ?_ ?_
     ·intro hb34
      have hF13:=Zt hF13 hb34
      refine Zb (Zc hE rfl fun a hE=>Ze ?_)
      obtain rfl:=hx8 _ (ois hF13)
      obtain rfl:=Option.some.inj hF4
      exact wp_ret (Xk (Zv (Zv (Xk (Zv (Zv (kr1 hE rfl rfl hM.kept)))))))
     ·intro hb34
      have hF13:=Zs hF13 hb34
      refine wp_skip (Yb (Zp (wp_region_lit (Zd hE rfl fun a hE=>Zi hE rfl rfl rfl fun a hE=>Zc hE rfl fun a hE=>Zg (Zk ?_)))))
      exact ⟨_,(ois hF13),hE.sub ⟨rfl,rfl,rfl,trivial⟩,hM⟩
   ·intro hb10
    have hs7:=Zs hs7 hb10
    refine wp_exit (Zn (Zn (Ye ?_)))
    obtain rfl:=hx8 _ (ois hs7)
    refine Zk ?_
    exact ⟨(),rfl,hE.sub trivial,hM⟩
  ·skip
   rintro a w ⟨s5,ht,hE,hM⟩
   subst ht
   have hF4:=Ta hF4
   refine Zp (Zb (Zc hE rfl fun a hE=>Ze ?_))
   obtain rfl:=Option.some.inj hF4
   exact wp_ret (kr1 hE rfl rfl hM.kept)
def UC (p0 : (List Int)) (p1 : (List Int)) (s6 : Int) : Option (Fl Int (Fl Unit Bool)) :=
 if (decide (s6 < (p0.length : Int))) = true then (((idx p0 s6).bind fun x15=>(idx p1 s6).bind fun x18=>some (x15 != x18) : Option (Bool)).bind fun j11=>if j11 = true then (some (Fl.ex (Fl.ex false))) else (some (Fl.nx (wr (s6 + 1))))) else (some (Fl.ex (Fl.nx ())))
def VL (p0 : (List Int)) (p1 : (List Int)) : Option (Bool) :=
 if ((p0.length : Int) != (p1.length : Int)) = true then (some false) else ((ZA (UC p0 p1) 0).bind fun j2=>j2.el (fun s5=>some true) (fun r=>some r))
theorem J8 (w0 : World) (p0 : (List Int)) (v0_1 : Value) (hv0_1 : Ro w0 p0 [v0_1]) (p1 : (List Int)) (v1_1 : Value) (hv1_1 : Ro w0 p1 [v1_1]) (r : Bool) (hF : VL p0 p1 = some r) :
  Calls Tryz.prog 56 [v0_1,v1_1].toArray w0 (Rt w0 (vT r)):=by
 refine ce Tryz.func56 ?_
 intro a hE
 have hM:=M.start w0
 unfold VL at hF
 refine Zb (Zc hE rfl fun a hE=>Ze (wp_seq (Zb (Zd hE rfl fun a hE=>Z5 hE rfl Tryz.underlying24 (hM.rd hv0_1) fun a hE=>Zd hE rfl fun a hE=>Z5 hE rfl Tryz.underlying24 (hM.rd hv1_1) fun a hE=>Zi hE rfl rfl rfl fun a hE=>Ze ?_))))
 refine Zo hE rfl ?_ ?_
 ·intro hb1
  have hF:=Zt hF hb1
  refine Zb (Zc hE rfl fun a hE=>Ze ?_)
  obtain rfl:=Option.some.inj hF
  exact wp_ret (Zv (kr1 hE rfl rfl hM.kept))
 ·intro hb1
  have hF:=Zs hF hb1
  refine wp_skip (Zp (wp_seq (Zb (Zc hE rfl fun a hE=>Ze ?_))))
  obtain ⟨j2,hl3,hF4⟩:=bind_some hF
  refine ZO (fun a w=>∃ s5 : Unit,j2 = Fl.nx s5 ∧ Env 26 a [] ∧ M (Old w0) w0 w []) ?_ ?_
  ·skip
   refine wp_block ?_
   refine ZE (fun (s6 : Int) a w=>Env 26 a [(0,v0_1),(1,v1_1),(5,vI s6)] ∧ M (Old w0) w0 w []) hl3 ⟨hE.sub ⟨rfl,rfl,rfl,trivial⟩,hM⟩ ?_
   rintro s6 a w ⟨hE,hM⟩ o9 hs7 hx8
   unfold UC at hs7
   refine wp_seq (Zb (Zd hE rfl fun a hE=>Zd hE rfl fun a hE=>Z5 hE rfl Tryz.underlying24 (hM.rd hv0_1) fun a hE=>Zi hE rfl rfl rfl fun a hE=>Ze ?_))
   refine Zo hE rfl ?_ ?_
   ·intro hb10
    have hs7:=Zt hs7 hb10
    refine wp_skip (Zp (wp_seq (wp_block ?_)))
    obtain ⟨j11,hl12,hF13⟩:=bind_some hs7
    refine ZN (fun a w=>Env 26 a [(0,v0_1),(1,v1_1),(5,vI s6),(25,vT j11)] ∧ M (Old w0) w0 w []) ?_ ?_
    ·skip
     obtain ⟨x15,hi17,hl12⟩:=bix hl12
     obtain ⟨x18,hi20,hl12⟩:=bix hl12
     refine ZX [17,18,19,20,21,22,23,24,25] Yu rfl rfl (by decide) rfl hE hM (qsP (fun z=>Zj z.E Za ld rfl (kr0 rfl)) (qsP (fun z=>Zj z.E Za ld rfl (kr0 rfl)) (qsP (fun z=>ZZ z.E Za ld rfl rfl Tryz.underlying24 ty2 (z.M.rd hv0_1) hi17.1 (kr0 rfl)) (qsP (fun z=>ZM (v:=(vI x15)) z.E Za ld rfl ty2 rfl (Yt (z.M.rd hv0_1) hi17.2) (kr0 rfl)) (qsP (fun z=>Zj z.E Za ld rfl (kr0 rfl)) (qsP (fun z=>Zj z.E Za ld rfl (kr0 rfl)) (qsP (fun z=>ZZ z.E Za ld rfl rfl Tryz.underlying24 ty2 (z.M.rd hv1_1) hi20.1 (kr0 rfl)) (qsP (fun z=>ZM (v:=(vI x18)) z.E Za ld rfl ty2 rfl (Yt (z.M.rd hv1_1) hi20.2) (kr0 rfl)) (qsP (fun z=>Z9 z.E Za ld rfl rfl rfl (kr0 rfl)) qs0))))))))) ?_
     ·intro a w u hE hM
      refine Zg ?_
      obtain rfl:=Option.some.inj hl12
      refine Zk ?_
      exact ⟨hE.sub ⟨rfl,rfl,rfl,rfl,trivial⟩,hM⟩
    ·skip
     rintro a w ⟨hE,hM⟩
     refine Zo hE rfl ?_ ?_
     ·intro hb22
      have hF13:=Zt hF13 hb22
      refine Zb (Zc hE rfl fun a hE=>Ze ?_)
      obtain rfl:=hx8 _ (ois hF13)
      obtain rfl:=Option.some.inj hF4
      exact wp_ret (Xk (Zv (Zv (Xk (Zv (Zv (kr1 hE rfl rfl hM.kept)))))))
     ·intro hb22
      have hF13:=Zs hF13 hb22
      refine wp_skip (Yb (Zp (wp_region_lit (Zd hE rfl fun a hE=>Zi hE rfl rfl rfl fun a hE=>Zc hE rfl fun a hE=>Zg (Zk ?_)))))
      exact ⟨_,(ois hF13),hE.sub ⟨rfl,rfl,rfl,trivial⟩,hM⟩
   ·intro hb10
    have hs7:=Zs hs7 hb10
    refine wp_exit (Zn (Zn (Ye ?_)))
    obtain rfl:=hx8 _ (ois hs7)
    refine Zk ?_
    exact ⟨(),rfl,hE.sub trivial,hM⟩
  ·skip
   rintro a w ⟨s5,ht,hE,hM⟩
   subst ht
   have hF4:=Ta hF4
   refine Zp (Zb (Zc hE rfl fun a hE=>Ze ?_))
   obtain rfl:=Option.some.inj hF4
   exact wp_ret (kr1 hE rfl rfl hM.kept)
def XU (p0 : GBlobs) (p1 : GBlobs) : Option (Bool) :=
 (Vp p0.Keys p1.Keys).bind fun r5=>if (!r5) = true then (some false) else ((VI p0.Data p1.Data).bind fun r8=>if (!r8) = true then (some false) else ((VL p0.Counts p1.Counts).bind fun r11=>if (!r11) = true then (some false) else (some true)))
theorem Tl (w0 : World) (p0 : GBlobs) (v0_1 : Value) (hv0_1 : Ro w0 p0.Keys [v0_1]) (v0_2 : Value) (hv0_2 : Ro w0 p0.Data [v0_2]) (v0_3 : Value) (hv0_3 : Ro w0 p0.Counts [v0_3]) (p1 : GBlobs) (v1_1 : Value) (hv1_1 : Ro w0 p1.Keys [v1_1]) (v1_2 : Value) (hv1_2 : Ro w0 p1.Data [v1_2]) (v1_3 : Value) (hv1_3 : Ro w0 p1.Counts [v1_3]) (r : Bool) (hF : XU p0 p1 = some r) :
  Calls Tryz.prog 14 [(Value.agg (cat [[v0_1],[v0_2],[v0_3]]).toArray),(Value.agg (cat [[v1_1],[v1_2],[v1_3]]).toArray)].toArray w0 (Rt w0 (vT r)):=by
 refine ce Tryz.func14 ?_
 intro a hE
 have hM:=M.start w0
 unfold XU at hF
 refine Zb (Ya (cs:=cat [[v0_1],[v0_2],[v0_3]]) hE hM Za ld rfl rfl fun b1 w a hM hE=>Ya (cs:=cat [[v1_1],[v1_2],[v1_3]]) hE hM Za ld rfl rfl fun b3 w a hM hE=>Zc hE rfl fun a hE=>Ze (wp_seq (Zb (Zy hE rfl (XL) fun a hE=>ZB (v:=v0_1) hE rfl To rfl (At.cat (pre:=[]) hM.rawAt1 cl0) fun a hE=>Zy hE rfl (XL) fun a hE=>ZB (v:=v1_1) hE rfl To rfl (At.cat (pre:=[]) hM.rawAt0 cl0) ?_)))); intro a hE
 obtain ⟨r5,e6,hF⟩:=bind_some hF
 refine Zx hE rfl (cbm Tryz.func54) (Jz _ p0.Keys v0_1 (hM.rdo hv0_1) p1.Keys v1_1 (hM.rdo hv1_1) r5 e6) ?_
 rintro v w a ⟨rfl,hK⟩ hE
 have hM:=hM.keep hK
 refine Qk hE rfl fun a hE=>Ze ?_
 refine Zo hE rfl ?_ ?_
 ·intro hb7
  have hF:=Zt hF hb7
  refine Zb (Zc hE rfl fun a hE=>Ze ?_)
  obtain rfl:=Option.some.inj hF
  exact wp_ret (Zv (kr1 hE rfl rfl hM.kept))
 ·intro hb7
  have hF:=Zs hF hb7
  refine wp_skip (Zp (wp_seq (Zb (Zy hE rfl (We) fun a hE=>ZB (v:=v0_2) hE rfl U8 rfl (At.cat (pre:=[[v0_1]]) hM.rawAt1 ck) fun a hE=>Zy hE rfl (We) fun a hE=>ZB (v:=v1_2) hE rfl U8 rfl (At.cat (pre:=[[v1_1]]) hM.rawAt0 ck) ?_)))); intro a hE
  obtain ⟨r8,e9,hF⟩:=bind_some hF
  refine Zx hE rfl (cbm Tryz.func55) (Ho _ p0.Data v0_2 (hM.rdo hv0_2) p1.Data v1_2 (hM.rdo hv1_2) r8 e9) ?_
  rintro v w a ⟨rfl,hK⟩ hE
  have hM:=hM.keep hK
  refine Qk hE rfl fun a hE=>Ze ?_
  refine Zo hE rfl ?_ ?_
  ·intro hb10
   have hF:=Zt hF hb10
   refine Zb (Zc hE rfl fun a hE=>Ze ?_)
   obtain rfl:=Option.some.inj hF
   exact wp_ret (Zv (kr1 hE rfl rfl hM.kept))
  ·intro hb10
   have hF:=Zs hF hb10
   refine wp_skip (Zp (wp_seq (Zb (Zy hE rfl (Wb) fun a hE=>ZB (v:=v0_3) hE rfl U7 rfl (At.cat (pre:=[[v0_1],[v0_2]]) hM.rawAt1 ck) fun a hE=>Zy hE rfl (Wb) fun a hE=>ZB (v:=v1_3) hE rfl U7 rfl (At.cat (pre:=[[v1_1],[v1_2]]) hM.rawAt0 ck) ?_)))); intro a hE
   obtain ⟨r11,e12,hF⟩:=bind_some hF
   refine Zx hE rfl (cbm Tryz.func56) (J8 _ p0.Counts v0_3 (hM.rdo hv0_3) p1.Counts v1_3 (hM.rdo hv1_3) r11 e12) ?_
   rintro v w a ⟨rfl,hK⟩ hE
   have hM:=hM.keep hK
   refine Qk hE rfl fun a hE=>Ze ?_
   refine Zo hE rfl ?_ ?_
   ·intro hb13
    have hF:=Zt hF hb13
    refine Zb (Zc hE rfl fun a hE=>Ze ?_)
    obtain rfl:=Option.some.inj hF
    exact wp_ret (Zv (kr1 hE rfl rfl hM.kept))
   ·intro hb13
    have hF:=Zs hF hb13
    refine wp_skip (Zp (Zb (Zc hE rfl fun a hE=>Ze ?_)))
    obtain rfl:=Option.some.inj hF
    exact wp_ret (kr1 hE rfl rfl hM.kept)
def Xu (s4 : (List (Vector UInt8 32)) × Int × Int) (s12 : (List (Vector UInt8 32)) × Int × Int) : Option (Fl ((List (Vector UInt8 32)) × Int × Int) ((List (Vector UInt8 32)) × Int)) :=
 if (decide (s12.2.2 < 32)) = true then ((idx s12.1 s4.2.2).bind fun x17=>(ZI x17 s12.2.2).bind fun x21=>some (Fl.nx ((s12.1.set (s4.2.2).toNat (x17.setIfInBounds (s12.2.2).toNat (ZG s12.2.1))),wr (s12.2.1 + 1),wr (s12.2.2 + 1)))) else (some (Fl.ex (s12.1,s12.2.1)))
def YA (s4 : (List (Vector UInt8 32)) × Int × Int) : Option (Fl ((List (Vector UInt8 32)) × Int × Int) ((List (Vector UInt8 32)) × Int)) :=
 if (decide (s4.2.2 < (s4.1.length : Int))) = true then ((ZA (Xu s4) (s4.1,s4.2.1,0)).bind fun j9=>some (Fl.nx (j9.1,j9.2,wr (s4.2.2 + 1)))) else (some (Fl.ex (s4.1,s4.2.1)))
def Y8 (p0 : (List (Vector UInt8 32))) (p1 : Int) : Option ((List (Vector UInt8 32)) × Int) :=
 (ZA (YA) (p0,p1,0)).bind fun j1=>some (j1.1,j1.2)
theorem KG (St : Nat → Prop) (W w0 : World) (its : List Item) (p0 : (List (Vector UInt8 32))) (v0_1 : Value) (p1 : Int) (hM : M St W w0 (own NoB (p0 : (List (Vector UInt8 32))) [v0_1] :: its)) (r : (List (Vector UInt8 32)) × Int) (hF : Y8 p0 p1 = some r) :
  Calls Tryz.prog 57 [v0_1,vI p1].toArray w0 (fun en w'=>∃ v,en = .returned v ∧ (v = (vI r.2) ∧ M St W w' (own NoB (r.1 : (List (Vector UInt8 32))) [v0_1] :: its))):=by
 refine ce Tryz.func57 ?_
 intro a hE
 unfold Y8 at hF
 refine Zb (Zc hE rfl fun a hE=>Ze (wp_seq (Zb (Zc hE rfl fun a hE=>Ze ?_))))
 obtain ⟨j1,hl2,hF3⟩:=bind_some hF
 refine ZO (fun a w=>Env 27 a [(0,v0_1),(1,vI j1.2)] ∧ M St W w (own NoB (j1.1 : (List (Vector UInt8 32))) [v0_1] :: its)) ?_ ?_
 ·skip
  refine wp_block ?_
  refine ZE (fun (s4 : (List (Vector UInt8 32)) × Int × Int) a w=>Env 27 a [(0,v0_1),(1,vI s4.2.1),(5,vI s4.2.2)] ∧ M St W w (own NoB (s4.1 : (List (Vector UInt8 32))) [v0_1] :: its)) hl2 ⟨hE.sub ⟨rfl,rfl,rfl,trivial⟩,hM⟩ ?_
  rintro s4 a w ⟨hE,hM⟩ o7 hs5 hx6
  unfold YA at hs5
  refine wp_seq (Zb (Zd hE rfl fun a hE=>Zd hE rfl fun a hE=>Z5 hE rfl Tryz.underlying29 (hM.ro (pre:=[]) noB) fun a hE=>Zi hE rfl rfl rfl fun a hE=>Ze ?_))
  refine Zo hE rfl ?_ ?_
  ·intro hb8
   have hs5:=Zt hs5 hb8
   refine wp_skip (Zp (wp_seq (wp_block (Zb (Zc hE rfl fun a hE=>Ze ?_)))))
   obtain ⟨j9,hl10,hF11⟩:=bind_some hs5
   refine ZO (fun a w=>Env 27 a [(0,v0_1),(1,vI j9.2),(5,vI s4.2.2)] ∧ M St W w (own NoB (j9.1 : (List (Vector UInt8 32))) [v0_1] :: its)) ?_ ?_
   ·skip
    refine wp_block ?_
    refine ZE (fun (s12 : (List (Vector UInt8 32)) × Int × Int) a w=>Env 27 a [(0,v0_1),(1,vI s12.2.1),(5,vI s4.2.2),(6,vI s12.2.2)] ∧ M St W w (own NoB (s12.1 : (List (Vector UInt8 32))) [v0_1] :: its)) hl10 ⟨hE.sub ⟨rfl,rfl,rfl,rfl,trivial⟩,hM⟩ ?_
    rintro s12 a w ⟨hE,hM⟩ o15 hs13 hx14
    unfold Xu at hs13
    refine wp_seq (Zb (Zd hE rfl fun a hE=>Zi hE rfl rfl rfl fun a hE=>Ze ?_))
    refine Zo hE rfl ?_ ?_
    ·intro hb16
     have hs13:=Zt hs13 hb16
     refine wp_skip (Zp (wp_seq (wp_block (Zb (Zd hE rfl fun a hE=>Zd hE rfl fun a hE=>Zd hE rfl fun a hE=>Zd hE rfl fun a hE=>Xo hE Za ld rfl Tryz.underlying3 Tryz.underlying5 ?_))))); intro a hE
     obtain ⟨x17,hi19,hs13⟩:=bix hs13
     refine Yd hE rfl rfl Tryz.underlying29 ZL (hM.ro (pre:=[]) noB) hi19.1 ?_; intro a hE
     obtain ⟨x21,hi20,hs13⟩:=bvx hs13
     refine ZF hE rfl rfl Tryz.underlying35 ty5 hi20.1 ?_; intro a hE
     have hM:=hM.toOsl (List.getElem?_eq_some_iff.1 hi19.2).1
     refine TA (i:=(s4.2.2).toNat) (k0:=0 + (s12.2.2).toNat * 1) (seg:=[(vB (ZG s12.2.1))]) (xo:=x17) (xn:=(x17.setIfInBounds (s12.2.2).toNat (ZG s12.2.1))) hE hM Za (k9 rfl (by show _ = _ + _ * 32 + _; omega)) rfl rfl ty5 rfl (Flat.cell (ZG s12.2.1 : UInt8)) hi19.2 (kB (x:=ZG s12.2.1) hi20.1) (ZD (v:=x17) (x:=ZG s12.2.1) hi20.1) ?_; intro w a hM hE
     have hM:=hM.toOwn noB
     refine Ze (wp_region_lit (Zd hE rfl fun a hE=>Zi hE rfl rfl rfl fun a hE=>Zc hE rfl fun a hE=>Zg (Yb (Zp (wp_region_lit (Zd hE rfl fun a hE=>Zi hE rfl rfl rfl fun a hE=>Zc hE rfl fun a hE=>Zg (Zk ?_)))))))
     exact ⟨_,(ois hs13),hE.sub ⟨rfl,rfl,rfl,rfl,trivial⟩,hM⟩
    ·intro hb16
     have hs13:=Zs hs13 hb16
     refine wp_exit (Zn (Zn (Ye ?_)))
     obtain rfl:=hx14 _ (ois hs13)
     refine Zk ?_
     exact ⟨hE.sub ⟨rfl,rfl,rfl,trivial⟩,hM⟩
   ·skip
    rintro a w ⟨hE,hM⟩
    refine Yb (Zp (wp_region_lit (Zd hE rfl fun a hE=>Zi hE rfl rfl rfl fun a hE=>Zc hE rfl fun a hE=>Zg (Zk ?_))))
    exact ⟨_,(ois hF11),hE.sub ⟨rfl,rfl,rfl,trivial⟩,hM⟩
  ·intro hb8
   have hs5:=Zs hs5 hb8
   refine wp_exit (Zn (Zn (Ye ?_)))
   obtain rfl:=hx6 _ (ois hs5)
   refine Zk ?_
   exact ⟨hE.sub ⟨rfl,rfl,trivial⟩,hM⟩
 ·skip
  rintro a w ⟨hE,hM⟩
  refine Zp (Zb (Zd hE rfl fun a hE=>Zc hE rfl fun a hE=>Ze ?_))
  obtain rfl:=Option.some.inj hF3
  exact wp_ret (ZP hE (by rfl) (ZU hE rfl) ⟨_,rfl,rfl,hM⟩)
def YV (s4 : (List UInt8) × Int × Int) : Option (Fl ((List UInt8) × Int × Int) ((List UInt8) × Int)) :=
 if (decide (s4.2.2 < (s4.1.length : Int))) = true then ((idx s4.1 s4.2.2).bind fun x9=>some (Fl.nx ((s4.1.set (s4.2.2).toNat (ZG s4.2.1)),wr (s4.2.1 + 1),wr (s4.2.2 + 1)))) else (some (Fl.ex (s4.1,s4.2.1)))
def Xc (p0 : (List UInt8)) (p1 : Int) : Option ((List UInt8) × Int) :=
 (ZA (YV) (p0,p1,0)).bind fun j1=>some (j1.1,j1.2)
theorem Qq (St : Nat → Prop) (W w0 : World) (its : List Item) (p0 : (List UInt8)) (v0_1 : Value) (p1 : Int) (hM : M St W w0 (own NoB (p0 : (List UInt8)) [v0_1] :: its)) (r : (List UInt8) × Int) (hF : Xc p0 p1 = some r) :
  Calls Tryz.prog 22 [v0_1,vI p1].toArray w0 (fun en w'=>∃ v,en = .returned v ∧ (v = (vI r.2) ∧ M St W w' (own NoB (r.1 : (List UInt8)) [v0_1] :: its))):=by
 refine ce Tryz.func22 ?_
 intro a hE
 unfold Xc at hF
 refine Zb (Zc hE rfl fun a hE=>Ze (wp_seq (Zb (Zc hE rfl fun a hE=>Ze ?_))))
 obtain ⟨j1,hl2,hF3⟩:=bind_some hF
 refine ZO (fun a w=>Env 20 a [(0,v0_1),(1,vI j1.2)] ∧ M St W w (own NoB (j1.1 : (List UInt8)) [v0_1] :: its)) ?_ ?_
 ·skip
  refine wp_block ?_
  refine ZE (fun (s4 : (List UInt8) × Int × Int) a w=>Env 20 a [(0,v0_1),(1,vI s4.2.1),(5,vI s4.2.2)] ∧ M St W w (own NoB (s4.1 : (List UInt8)) [v0_1] :: its)) hl2 ⟨hE.sub ⟨rfl,rfl,rfl,trivial⟩,hM⟩ ?_
  rintro s4 a w ⟨hE,hM⟩ o7 hs5 hx6
  unfold YV at hs5
  refine wp_seq (Zb (Zd hE rfl fun a hE=>Zd hE rfl fun a hE=>Z5 hE rfl Tryz.underlying40 (hM.ro (pre:=[]) noB) fun a hE=>Zi hE rfl rfl rfl fun a hE=>Ze ?_))
  refine Zo hE rfl ?_ ?_
  ·intro hb8
   have hs5:=Zt hs5 hb8
   refine wp_skip (Zp (wp_seq (wp_block (Zb (Zd hE rfl fun a hE=>Zd hE rfl fun a hE=>Zd hE rfl fun a hE=>Xo hE Za ld rfl Tryz.underlying3 Tryz.underlying5 ?_))))); intro a hE
   obtain ⟨x9,hi11,hs5⟩:=bix hs5
   refine Yd hE rfl rfl Tryz.underlying40 ty5 (hM.ro (pre:=[]) noB) hi11.1 ?_; intro a hE
   have hM:=hM.toOsl (List.getElem?_eq_some_iff.1 hi11.2).1
   refine TA (i:=(s4.2.2).toNat) (k0:=0) (seg:=[(vB (ZG s4.2.1))]) (xo:=x9) (xn:=ZG s4.2.1) hE hM Za rfl rfl rfl ty5 rfl (Flat.cell (ZG s4.2.1 : UInt8)) hi11.2 (QD (m:=1) rfl (by decide)) (Zh rfl) ?_; intro w a hM hE
   have hM:=hM.toOwn noB
   refine Ze (wp_region_lit (Zd hE rfl fun a hE=>Zi hE rfl rfl rfl fun a hE=>Zc hE rfl fun a hE=>Zg (Yb (Zp (wp_region_lit (Zd hE rfl fun a hE=>Zi hE rfl rfl rfl fun a hE=>Zc hE rfl fun a hE=>Zg (Zk ?_)))))))
   exact ⟨_,(ois hs5),hE.sub ⟨rfl,rfl,rfl,trivial⟩,hM⟩
  ·intro hb8
   have hs5:=Zs hs5 hb8
   refine wp_exit (Zn (Zn (Ye ?_)))
   obtain rfl:=hx6 _ (ois hs5)
   refine Zk ?_
   exact ⟨hE.sub ⟨rfl,rfl,trivial⟩,hM⟩
 ·skip
  rintro a w ⟨hE,hM⟩
  refine Zp (Zb (Zd hE rfl fun a hE=>Zc hE rfl fun a hE=>Ze ?_))
  obtain rfl:=Option.some.inj hF3
  exact wp_ret (ZP hE (by rfl) (ZU hE rfl) ⟨_,rfl,rfl,hM⟩)
def YF (s4 : (List (List UInt8)) × Int × Int) : Option (Fl ((List (List UInt8)) × Int × Int) ((List (List UInt8)) × Int)) :=
 if (decide (s4.2.2 < (s4.1.length : Int))) = true then ((idx s4.1 s4.2.2).bind fun x9=>(Xc x9 s4.2.1).bind fun r16=>some (Fl.nx ((s4.1.set (s4.2.2).toNat r16.1),r16.2,wr (s4.2.2 + 1)))) else (some (Fl.ex (s4.1,s4.2.1)))
def Xq (p0 : (List (List UInt8))) (p1 : Int) : Option ((List (List UInt8)) × Int) :=
 (ZA (YF) (p0,p1,0)).bind fun j1=>some (j1.1,j1.2)
theorem Ja (St : Nat → Prop) (W w0 : World) (its : List Item) (p0 : (List (List UInt8))) (v0_1 : Value) (p1 : Int) (hM : M St W w0 (own NoB (p0 : (List (List UInt8))) [v0_1] :: its)) (r : (List (List UInt8)) × Int) (hF : Xq p0 p1 = some r) :
  Calls Tryz.prog 58 [v0_1,vI p1].toArray w0 (fun en w'=>∃ v,en = .returned v ∧ (v = (vI r.2) ∧ M St W w' (own NoB (r.1 : (List (List UInt8))) [v0_1] :: its))):=by
 refine ce Tryz.func58 ?_
 intro a hE
 unfold Xq at hF
 refine Zb (Zc hE rfl fun a hE=>Ze (wp_seq (Zb (Zc hE rfl fun a hE=>Ze ?_))))
 obtain ⟨j1,hl2,hF3⟩:=bind_some hF
 refine ZO (fun a w=>Env 19 a [(0,v0_1),(1,vI j1.2)] ∧ M St W w (own NoB (j1.1 : (List (List UInt8))) [v0_1] :: its)) ?_ ?_
 ·skip
  refine wp_block ?_
  refine ZE (fun (s4 : (List (List UInt8)) × Int × Int) a w=>Env 19 a [(0,v0_1),(1,vI s4.2.1),(5,vI s4.2.2)] ∧ M St W w (own NoB (s4.1 : (List (List UInt8))) [v0_1] :: its)) hl2 ⟨hE.sub ⟨rfl,rfl,rfl,trivial⟩,hM⟩ ?_
  rintro s4 a w ⟨hE,hM⟩ o7 hs5 hx6
  unfold YF at hs5
  refine wp_seq (Zb (Zd hE rfl fun a hE=>Zd hE rfl fun a hE=>Z5 hE rfl Tryz.underlying23 (hM.ro (pre:=[]) noB) fun a hE=>Zi hE rfl rfl rfl fun a hE=>Ze ?_))
  refine Zo hE rfl ?_ ?_
  ·intro hb8
   have hs5:=Zt hs5 hb8
   refine wp_skip (Zp (wp_seq (wp_block (wp_region_lit (Zd hE rfl fun a hE=>Zd hE rfl ?_))))); intro a hE
   obtain ⟨x9,hi11,hs5⟩:=bix hs5
   refine Yd hE rfl rfl Tryz.underlying23 YU (hM.ro (pre:=[]) noB) hi11.1 ?_; intro a hE
   have hM:=(hM.toOsl (List.getElem?_eq_some_iff.1 hi11.2).1).open1 noB hi11.2
   obtain ⟨cs12,hM,hA13⟩:=hM
   obtain ⟨_,hx,_⟩:=hM.head
   obtain ⟨u14,rfl⟩:=VE hx
   refine ZB (v:=u14) hE rfl YU rfl hA13 fun a hE=>Zd hE rfl ?_; intro a hE
   obtain ⟨r16,e17,hs5⟩:=bind_some hs5
   refine Zx hE rfl (cbm Tryz.func22) (Qq _ _ _ _ x9 u14 s4.2.1 hM r16 e17) ?_
   rintro v w a ⟨rfl,hM⟩ hE
   have hM:=(hM.pull1.pull1.close1 noB).toOwn noB
   refine Zc hE rfl fun a hE=>Zg (Yb (Zp (wp_region_lit (Zd hE rfl fun a hE=>Zi hE rfl rfl rfl fun a hE=>Zc hE rfl fun a hE=>Zg (Zk ?_)))))
   exact ⟨_,(ois hs5),hE.sub ⟨rfl,rfl,rfl,trivial⟩,hM⟩
  ·intro hb8
   have hs5:=Zs hs5 hb8
   refine wp_exit (Zn (Zn (Ye ?_)))
   obtain rfl:=hx6 _ (ois hs5)
   refine Zk ?_
   exact ⟨hE.sub ⟨rfl,rfl,trivial⟩,hM⟩
 ·skip
  rintro a w ⟨hE,hM⟩
  refine Zp (Zb (Zd hE rfl fun a hE=>Zc hE rfl fun a hE=>Ze ?_))
  obtain rfl:=Option.some.inj hF3
  exact wp_ret (ZP hE (by rfl) (ZU hE rfl) ⟨_,rfl,rfl,hM⟩)
def YJ (s4 : (List Int) × Int × Int) : Option (Fl ((List Int) × Int × Int) ((List Int) × Int)) :=
 if (decide (s4.2.2 < (s4.1.length : Int))) = true then ((idx s4.1 s4.2.2).bind fun x9=>some (Fl.nx ((s4.1.set (s4.2.2).toNat s4.2.1),wr (s4.2.1 + 1),wr (s4.2.2 + 1)))) else (some (Fl.ex (s4.1,s4.2.1)))
def Xm (p0 : (List Int)) (p1 : Int) : Option ((List Int) × Int) :=
 (ZA (YJ) (p0,p1,0)).bind fun j1=>some (j1.1,j1.2)
theorem K9 (St : Nat → Prop) (W w0 : World) (its : List Item) (p0 : (List Int)) (v0_1 : Value) (p1 : Int) (hM : M St W w0 (own NoB (p0 : (List Int)) [v0_1] :: its)) (r : (List Int) × Int) (hF : Xm p0 p1 = some r) :
  Calls Tryz.prog 59 [v0_1,vI p1].toArray w0 (fun en w'=>∃ v,en = .returned v ∧ (v = (vI r.2) ∧ M St W w' (own NoB (r.1 : (List Int)) [v0_1] :: its))):=by
 refine ce Tryz.func59 ?_
 intro a hE
 unfold Xm at hF
 refine Zb (Zc hE rfl fun a hE=>Ze (wp_seq (Zb (Zc hE rfl fun a hE=>Ze ?_))))
 obtain ⟨j1,hl2,hF3⟩:=bind_some hF
 refine ZO (fun a w=>Env 19 a [(0,v0_1),(1,vI j1.2)] ∧ M St W w (own NoB (j1.1 : (List Int)) [v0_1] :: its)) ?_ ?_
 ·skip
  refine wp_block ?_
  refine ZE (fun (s4 : (List Int) × Int × Int) a w=>Env 19 a [(0,v0_1),(1,vI s4.2.1),(5,vI s4.2.2)] ∧ M St W w (own NoB (s4.1 : (List Int)) [v0_1] :: its)) hl2 ⟨hE.sub ⟨rfl,rfl,rfl,trivial⟩,hM⟩ ?_
  rintro s4 a w ⟨hE,hM⟩ o7 hs5 hx6
  unfold YJ at hs5
  refine wp_seq (Zb (Zd hE rfl fun a hE=>Zd hE rfl fun a hE=>Z5 hE rfl Tryz.underlying24 (hM.ro (pre:=[]) noB) fun a hE=>Zi hE rfl rfl rfl fun a hE=>Ze ?_))
  refine Zo hE rfl ?_ ?_
  ·intro hb8
   have hs5:=Zt hs5 hb8
   refine wp_skip (Zp (wp_seq (wp_block (Zb (Zd hE rfl fun a hE=>Zd hE rfl fun a hE=>Zd hE rfl ?_))))); intro a hE
   obtain ⟨x9,hi11,hs5⟩:=bix hs5
   refine Yd hE rfl rfl Tryz.underlying24 ty2 (hM.ro (pre:=[]) noB) hi11.1 ?_; intro a hE
   have hM:=hM.toOsl (List.getElem?_eq_some_iff.1 hi11.2).1
   refine TA (i:=(s4.2.2).toNat) (k0:=0) (seg:=[vI s4.2.1]) (xo:=x9) (xn:=s4.2.1) hE hM Za rfl rfl rfl ty2 rfl (Flat.cell (s4.2.1 : Int)) hi11.2 (QD (m:=1) rfl (by decide)) (Zh rfl) ?_; intro w a hM hE
   have hM:=hM.toOwn noB
   refine Ze (wp_region_lit (Zd hE rfl fun a hE=>Zi hE rfl rfl rfl fun a hE=>Zc hE rfl fun a hE=>Zg (Yb (Zp (wp_region_lit (Zd hE rfl fun a hE=>Zi hE rfl rfl rfl fun a hE=>Zc hE rfl fun a hE=>Zg (Zk ?_)))))))
   exact ⟨_,(ois hs5),hE.sub ⟨rfl,rfl,rfl,trivial⟩,hM⟩
  ·intro hb8
   have hs5:=Zs hs5 hb8
   refine wp_exit (Zn (Zn (Ye ?_)))
   obtain rfl:=hx6 _ (ois hs5)
   refine Zk ?_
   exact ⟨hE.sub ⟨rfl,rfl,trivial⟩,hM⟩
 ·skip
  rintro a w ⟨hE,hM⟩
  refine Zp (Zb (Zd hE rfl fun a hE=>Zc hE rfl fun a hE=>Ze ?_))
  obtain rfl:=Option.some.inj hF3
  exact wp_ret (ZP hE (by rfl) (ZU hE rfl) ⟨_,rfl,rfl,hM⟩)
def Xd (p0 : GBlobs) (p1 : Int) : Option (GBlobs × Int) :=
 (Y8 p0.Keys p1).bind fun r3=>(Xq p0.Data r3.2).bind fun r5=>(Xm p0.Counts r5.2).bind fun r7=>some ((⟨r3.1,r5.1,r7.1⟩ : GBlobs),r7.2)
theorem Qw (St : Nat → Prop) (W w0 : World) (its : List Item) (p0 : GBlobs) (v0_1 : Value) (v0_2 : Value) (v0_3 : Value) (p1 : Int) (hM : M St W w0 (own NoB (p0.Keys : (List (Vector UInt8 32))) [v0_1] :: own NoB (p0.Data : (List (List UInt8))) [v0_2] :: own NoB (p0.Counts : (List Int)) [v0_3] :: its)) (r : GBlobs × Int) (hF : Xd p0 p1 = some r) :
  Calls Tryz.prog 15 [(Value.agg (cat [[v0_1],[v0_2],[v0_3]]).toArray),vI p1].toArray w0 (fun en w'=>∃ v,en = .returned v ∧ (v = (vI r.2) ∧ M St W w' (own NoB (r.1.Keys : (List (Vector UInt8 32))) [v0_1] :: own NoB (r.1.Data : (List (List UInt8))) [v0_2] :: own NoB (r.1.Counts : (List Int)) [v0_3] :: its))):=by
 refine ce Tryz.func15 ?_
 intro a hE
 unfold Xd at hF
 refine Zb (Ya (cs:=cat [[v0_1],[v0_2],[v0_3]]) hE hM Za ld rfl rfl fun b1 w a hM hE=>Zc hE rfl fun a hE=>Ze (Zb (Zy hE rfl (XL) fun a hE=>ZB (v:=v0_1) hE rfl To rfl (At.cat (pre:=[]) hM.rawAt0 cl0) fun a hE=>Zd hE rfl ?_))); intro a hE
 have hM:=hM.pull1
 obtain ⟨r3,e4,hF⟩:=bind_some hF
 refine Zx hE rfl (cbm Tryz.func57) (KG _ _ _ _ p0.Keys v0_1 p1 hM r3 e4) ?_
 rintro v w a ⟨rfl,hM⟩ hE
 refine Zc hE rfl fun a hE=>Ze (Zb (Zy hE rfl (We) fun a hE=>ZB (v:=v0_2) hE rfl U8 rfl (At.cat (pre:=[[v0_1]]) hM.rawAt1 ck) fun a hE=>Zd hE rfl ?_)); intro a hE
 have hM:=hM.pull2
 obtain ⟨r5,e6,hF⟩:=bind_some hF
 refine Zx hE rfl (cbm Tryz.func58) (Ja _ _ _ _ p0.Data v0_2 r3.2 hM r5 e6) ?_
 rintro v w a ⟨rfl,hM⟩ hE
 refine Zc hE rfl fun a hE=>Ze (Zb (Zy hE rfl (Wb) fun a hE=>ZB (v:=v0_3) hE rfl U7 rfl (At.cat (pre:=[[v0_1],[v0_2]]) hM.rawAt2 ck) fun a hE=>Zd hE rfl ?_)); intro a hE
 have hM:=hM.pull3
 obtain ⟨r7,e8,hF⟩:=bind_some hF
 refine Zx hE rfl (cbm Tryz.func59) (K9 _ _ _ _ p0.Counts v0_3 r5.2 hM r7 e8) ?_
 rintro v w a ⟨rfl,hM⟩ hE
 refine Zc hE rfl fun a hE=>Ze (Zb (Zd hE rfl fun a hE=>Zc hE rfl fun a hE=>Ze ?_))
 obtain rfl:=Option.some.inj hF
 have hM:=(hM.pull1.pull2.pull3).drop
 exact wp_ret (ZP hE (by rfl) (ZU hE rfl) ⟨_,rfl,rfl,hM⟩)
def Vi (p0 : (List (Vector UInt8 32))) (s5 : Int × Int) (s14 : Int × Int) : Option (Fl (Int × Int) (Fl Int Int)) :=
 if (decide (s14.2 < 32)) = true then ((idx p0 s5.2).bind fun x19=>(ZI x19 s14.2).bind fun x23=>if (x23 != (ZG s14.1)) = true then (some (Fl.ex (Fl.ex (-1)))) else (some (Fl.nx (wr (s14.1 + 1),wr (s14.2 + 1))))) else (some (Fl.ex (Fl.nx s14.1)))
def Wh (p0 : (List (Vector UInt8 32))) (s5 : Int × Int) : Option (Fl (Int × Int) (Fl Int Int)) :=
 if (decide (s5.2 < (p0.length : Int))) = true then ((ZA (Vi p0 s5) (s5.1,0)).bind fun j10=>j10.el (fun s13=>some (Fl.nx (s13,wr (s5.2 + 1)))) (fun r=>some (Fl.ex (Fl.ex r)))) else (some (Fl.ex (Fl.nx s5.1)))
def WG (p0 : (List (Vector UInt8 32))) (p1 : Int) : Option (Int) :=
 (ZA (Wh p0) (p1,0)).bind fun j1=>j1.el (fun s4=>some s4) (fun r=>some r)
theorem KA (w0 : World) (p0 : (List (Vector UInt8 32))) (v0_1 : Value) (hv0_1 : Ro w0 p0 [v0_1]) (p1 : Int) (r : Int) (hF : WG p0 p1 = some r) :
  Calls Tryz.prog 60 [v0_1,vI p1].toArray w0 (Rt w0 (vI r)):=by
 refine ce Tryz.func60 ?_
 intro a hE
 have hM:=M.start w0
 unfold WG at hF
 refine Zb (Zc hE rfl fun a hE=>Ze (wp_seq (Zb (Zc hE rfl fun a hE=>Ze ?_))))
 obtain ⟨j1,hl2,hF3⟩:=bind_some hF
 refine ZO (fun a w=>∃ s4 : Int,j1 = Fl.nx s4 ∧ Env 29 a [(1,vI s4)] ∧ M (Old w0) w0 w []) ?_ ?_
 ·skip
  refine wp_block ?_
  refine ZE (fun (s5 : Int × Int) a w=>Env 29 a [(0,v0_1),(1,vI s5.1),(5,vI s5.2)] ∧ M (Old w0) w0 w []) hl2 ⟨hE.sub ⟨rfl,rfl,rfl,trivial⟩,hM⟩ ?_
  rintro s5 a w ⟨hE,hM⟩ o8 hs6 hx7
  unfold Wh at hs6
  refine wp_seq (Zb (Zd hE rfl fun a hE=>Zd hE rfl fun a hE=>Z5 hE rfl Tryz.underlying29 (hM.rd hv0_1) fun a hE=>Zi hE rfl rfl rfl fun a hE=>Ze ?_))
  refine Zo hE rfl ?_ ?_
  ·intro hb9
   have hs6:=Zt hs6 hb9
   refine wp_skip (Zp (wp_seq (wp_block (Zb (Zc hE rfl fun a hE=>Ze ?_)))))
   obtain ⟨j10,hl11,hF12⟩:=bind_some hs6
   refine ZO (fun a w=>∃ s13 : Int,j10 = Fl.nx s13 ∧ Env 29 a [(0,v0_1),(1,vI s13),(5,vI s5.2)] ∧ M (Old w0) w0 w []) ?_ ?_
   ·skip
    refine wp_block ?_
    refine ZE (fun (s14 : Int × Int) a w=>Env 29 a [(0,v0_1),(1,vI s14.1),(5,vI s5.2),(6,vI s14.2)] ∧ M (Old w0) w0 w []) hl11 ⟨hE.sub ⟨rfl,rfl,rfl,rfl,trivial⟩,hM⟩ ?_
    rintro s14 a w ⟨hE,hM⟩ o17 hs15 hx16
    unfold Vi at hs15
    refine wp_seq (Zb (Zd hE rfl fun a hE=>Zi hE rfl rfl rfl fun a hE=>Ze ?_))
    refine Zo hE rfl ?_ ?_
    ·intro hb18
     have hs15:=Zt hs15 hb18
     refine wp_skip (Zp (wp_seq (wp_block (wp_seq (Zb (Zd hE rfl fun a hE=>Zd hE rfl fun a hE=>Zd hE rfl ?_)))))); intro a hE
     obtain ⟨x19,hi21,hs15⟩:=bix hs15
     refine Yd hE rfl rfl Tryz.underlying29 ZL (hM.rd hv0_1) hi21.1 ?_; intro a hE
     obtain ⟨x23,hi22,hs15⟩:=bvx hs15
     refine ZF hE rfl rfl Tryz.underlying35 ty5 hi22.1 fun a hE=>ZB (v:=(vB x23)) hE rfl ty5 rfl (At.vec (Yt (hM.rd hv0_1) hi21.2) hi22.2) fun a hE=>Zd hE rfl fun a hE=>Xo hE Za ld rfl Tryz.underlying3 Tryz.underlying5 fun a hE=>Zi hE rfl rfl (JH x23 (ZG s14.1)) fun a hE=>Ze ?_
     refine Zo hE rfl ?_ ?_
     ·intro hb25
      have hs15:=Zt hs15 hb25
      refine Zb (Zc hE rfl fun a hE=>Ze ?_)
      obtain rfl:=hx16 _ (ois hs15)
      obtain rfl:=hx7 _ (ois hF12)
      obtain rfl:=Option.some.inj hF3
      exact wp_ret (Zv (Xk (Zv (Zv (Xk (Zv (Xk (Zv (Zv (Xk (Zv (Zv (kr1 hE rfl rfl hM.kept)))))))))))))
     ·intro hb25
      have hs15:=Zs hs15 hb25
      refine wp_skip (Zp (wp_region_lit (Zd hE rfl fun a hE=>Zi hE rfl rfl rfl fun a hE=>Zc hE rfl fun a hE=>Zg (Yb (Zp (wp_region_lit (Zd hE rfl fun a hE=>Zi hE rfl rfl rfl fun a hE=>Zc hE rfl fun a hE=>Zg (Zk ?_))))))))
      exact ⟨_,(ois hs15),hE.sub ⟨rfl,rfl,rfl,rfl,trivial⟩,hM⟩
    ·intro hb18
     have hs15:=Zs hs15 hb18
     refine wp_exit (Zn (Zn (Ye ?_)))
     obtain rfl:=hx16 _ (ois hs15)
     refine Zk ?_
     exact ⟨s14.1,rfl,hE.sub ⟨rfl,rfl,rfl,trivial⟩,hM⟩
   ·skip
    rintro a w ⟨s13,ht,hE,hM⟩
    subst ht
    have hF12:=Ta hF12
    refine Yb (Zp (wp_region_lit (Zd hE rfl fun a hE=>Zi hE rfl rfl rfl fun a hE=>Zc hE rfl fun a hE=>Zg (Zk ?_))))
    exact ⟨_,(ois hF12),hE.sub ⟨rfl,rfl,rfl,trivial⟩,hM⟩
  ·intro hb9
   have hs6:=Zs hs6 hb9
   refine wp_exit (Zn (Zn (Ye ?_)))
   obtain rfl:=hx7 _ (ois hs6)
   refine Zk ?_
   exact ⟨s5.1,rfl,hE.sub ⟨rfl,trivial⟩,hM⟩
 ·skip
  rintro a w ⟨s4,ht,hE,hM⟩
  subst ht
  have hF3:=Ta hF3
  refine Zp (Zb (Zd hE rfl fun a hE=>Zc hE rfl fun a hE=>Ze ?_))
  obtain rfl:=Option.some.inj hF3
  exact wp_ret (kr1 hE rfl rfl hM.kept)
def Va (p0 : (List UInt8)) (s5 : Int × Int) : Option (Fl (Int × Int) (Fl Int Int)) :=
 if (decide (s5.2 < (p0.length : Int))) = true then ((idx p0 s5.2).bind fun x10=>if (x10 != (ZG s5.1)) = true then (some (Fl.ex (Fl.ex (-1)))) else (some (Fl.nx (wr (s5.1 + 1),wr (s5.2 + 1))))) else (some (Fl.ex (Fl.nx s5.1)))
def Vo (p0 : (List UInt8)) (p1 : Int) : Option (Int) :=
 (ZA (Va p0) (p1,0)).bind fun j1=>j1.el (fun s4=>some s4) (fun r=>some r)
theorem Jt (w0 : World) (p0 : (List UInt8)) (v0_1 : Value) (hv0_1 : Ro w0 p0 [v0_1]) (p1 : Int) (r : Int) (hF : Vo p0 p1 = some r) :
  Calls Tryz.prog 123 [v0_1,vI p1].toArray w0 (Rt w0 (vI r)):=by
 refine ce Tryz.func123 ?_
 intro a hE
 have hM:=M.start w0
 unfold Vo at hF
 refine Zb (Zc hE rfl fun a hE=>Ze (wp_seq (Zb (Zc hE rfl fun a hE=>Ze ?_))))
 obtain ⟨j1,hl2,hF3⟩:=bind_some hF
 refine ZO (fun a w=>∃ s4 : Int,j1 = Fl.nx s4 ∧ Env 22 a [(1,vI s4)] ∧ M (Old w0) w0 w []) ?_ ?_
 ·skip
  refine wp_block ?_
  refine ZE (fun (s5 : Int × Int) a w=>Env 22 a [(0,v0_1),(1,vI s5.1),(5,vI s5.2)] ∧ M (Old w0) w0 w []) hl2 ⟨hE.sub ⟨rfl,rfl,rfl,trivial⟩,hM⟩ ?_
  rintro s5 a w ⟨hE,hM⟩ o8 hs6 hx7
  unfold Va at hs6
  refine wp_seq (Zb (Zd hE rfl fun a hE=>Zd hE rfl fun a hE=>Z5 hE rfl Tryz.underlying40 (hM.rd hv0_1) fun a hE=>Zi hE rfl rfl rfl fun a hE=>Ze ?_))
  refine Zo hE rfl ?_ ?_
  ·intro hb9
   have hs6:=Zt hs6 hb9
   refine wp_skip (Zp (wp_seq (wp_block (wp_seq (Zb (Zd hE rfl fun a hE=>Zd hE rfl ?_)))))); intro a hE
   obtain ⟨x10,hi12,hs6⟩:=bix hs6
   refine Yd hE rfl rfl Tryz.underlying40 ty5 (hM.rd hv0_1) hi12.1 fun a hE=>ZB (v:=(vB x10)) hE rfl ty5 rfl (Yt (hM.rd hv0_1) hi12.2) fun a hE=>Zd hE rfl fun a hE=>Xo hE Za ld rfl Tryz.underlying3 Tryz.underlying5 fun a hE=>Zi hE rfl rfl (JH x10 (ZG s5.1)) fun a hE=>Ze ?_
   refine Zo hE rfl ?_ ?_
   ·intro hb13
    have hs6:=Zt hs6 hb13
    refine Zb (Zc hE rfl fun a hE=>Ze ?_)
    obtain rfl:=hx7 _ (ois hs6)
    obtain rfl:=Option.some.inj hF3
    exact wp_ret (Zv (Xk (Zv (Zv (Xk (Zv (Zv (kr1 hE rfl rfl hM.kept))))))))
   ·intro hb13
    have hs6:=Zs hs6 hb13
    refine wp_skip (Zp (wp_region_lit (Zd hE rfl fun a hE=>Zi hE rfl rfl rfl fun a hE=>Zc hE rfl fun a hE=>Zg (Yb (Zp (wp_region_lit (Zd hE rfl fun a hE=>Zi hE rfl rfl rfl fun a hE=>Zc hE rfl fun a hE=>Zg (Zk ?_))))))))
    exact ⟨_,(ois hs6),hE.sub ⟨rfl,rfl,rfl,trivial⟩,hM⟩
  ·intro hb9
   have hs6:=Zs hs6 hb9
   refine wp_exit (Zn (Zn (Ye ?_)))
   obtain rfl:=hx7 _ (ois hs6)
   refine Zk ?_
   exact ⟨s5.1,rfl,hE.sub ⟨rfl,trivial⟩,hM⟩
 ·skip
  rintro a w ⟨s4,ht,hE,hM⟩
  subst ht
  have hF3:=Ta hF3
  refine Zp (Zb (Zd hE rfl fun a hE=>Zc hE rfl fun a hE=>Ze ?_))
  obtain rfl:=Option.some.inj hF3
  exact wp_ret (kr1 hE rfl rfl hM.kept)
def WR (p0 : (List (List UInt8))) (s5 : Int × Int) : Option (Fl (Int × Int) (Fl Int Int)) :=
 if (decide (s5.2 < (p0.length : Int))) = true then ((idx p0 s5.2).bind fun x10=>(Vo x10 s5.1).bind fun r18=>if (decide (r18 < 0)) = true then (some (Fl.ex (Fl.ex (-1)))) else (some (Fl.nx (r18,wr (s5.2 + 1))))) else (some (Fl.ex (Fl.nx s5.1)))
def W3 (p0 : (List (List UInt8))) (p1 : Int) : Option (Int) :=
 (ZA (WR p0) (p1,0)).bind fun j1=>j1.el (fun s4=>some s4) (fun r=>some r)
theorem Jc (w0 : World) (p0 : (List (List UInt8))) (v0_1 : Value) (hv0_1 : Ro w0 p0 [v0_1]) (p1 : Int) (r : Int) (hF : W3 p0 p1 = some r) :
  Calls Tryz.prog 61 [v0_1,vI p1].toArray w0 (Rt w0 (vI r)):=by
 refine ce Tryz.func61 ?_
 intro a hE
 have hM:=M.start w0
 unfold W3 at hF
 refine Zb (Zc hE rfl fun a hE=>Ze (wp_seq (Zb (Zc hE rfl fun a hE=>Ze ?_))))
 obtain ⟨j1,hl2,hF3⟩:=bind_some hF
 refine ZO (fun a w=>∃ s4 : Int,j1 = Fl.nx s4 ∧ Env 21 a [(1,vI s4)] ∧ M (Old w0) w0 w []) ?_ ?_
 ·skip
  refine wp_block ?_
  refine ZE (fun (s5 : Int × Int) a w=>Env 21 a [(0,v0_1),(1,vI s5.1),(5,vI s5.2)] ∧ M (Old w0) w0 w []) hl2 ⟨hE.sub ⟨rfl,rfl,rfl,trivial⟩,hM⟩ ?_
  rintro s5 a w ⟨hE,hM⟩ o8 hs6 hx7
  unfold WR at hs6
  refine wp_seq (Zb (Zd hE rfl fun a hE=>Zd hE rfl fun a hE=>Z5 hE rfl Tryz.underlying23 (hM.rd hv0_1) fun a hE=>Zi hE rfl rfl rfl fun a hE=>Ze ?_))
  refine Zo hE rfl ?_ ?_
  ·intro hb9
   have hs6:=Zt hs6 hb9
   refine wp_skip (Zp (wp_seq (wp_block (Zb (Zd hE rfl fun a hE=>Zd hE rfl ?_))))); intro a hE
   obtain ⟨x10,hi12,hs6⟩:=bix hs6
   refine Yd hE rfl rfl Tryz.underlying23 YU (hM.rd hv0_1) hi12.1 ?_; intro a hE
   obtain ⟨cs13,hs14,hA15⟩:=US hv0_1 hi12.2 -- ^
   obtain ⟨u16,rfl⟩:=VE hs14 -- ^
   have h17:=hs14 -- ^
   refine ZB (v:=u16) hE rfl YU rfl (hM.atk hA15 (UY hv0_1 hi12.2)) fun a hE=>Zd hE rfl ?_; intro a hE
   obtain ⟨r18,e19,hs6⟩:=bind_some hs6
   refine Zx hE rfl (cbm Tryz.func123) (Jt _ x10 u16 (hM.rdo h17) s5.1 r18 e19) ?_
   rintro v w a ⟨rfl,hK⟩ hE
   have hM:=hM.keep hK
   refine Zc hE rfl fun a hE=>Ze (Zb (Zd hE rfl fun a hE=>Zi hE rfl rfl rfl fun a hE=>Ze ?_))
   refine Zo hE rfl ?_ ?_
   ·intro hb20
    have hs6:=Zt hs6 hb20
    refine Zb (Zc hE rfl fun a hE=>Ze ?_)
    obtain rfl:=hx7 _ (ois hs6)
    obtain rfl:=Option.some.inj hF3
    exact wp_ret (Xk (Zv (Zv (Xk (Zv (Zv (kr1 hE rfl rfl hM.kept)))))))
   ·intro hb20
    have hs6:=Zs hs6 hb20
    refine wp_skip (Yb (Zp (wp_region_lit (Zd hE rfl fun a hE=>Zi hE rfl rfl rfl fun a hE=>Zc hE rfl fun a hE=>Zg (Zk ?_)))))
    exact ⟨_,(ois hs6),hE.sub ⟨rfl,rfl,rfl,trivial⟩,hM⟩
  ·intro hb9
   have hs6:=Zs hs6 hb9
   refine wp_exit (Zn (Zn (Ye ?_)))
   obtain rfl:=hx7 _ (ois hs6)
   refine Zk ?_
   exact ⟨s5.1,rfl,hE.sub ⟨rfl,trivial⟩,hM⟩
 ·skip
  rintro a w ⟨s4,ht,hE,hM⟩
  subst ht
  have hF3:=Ta hF3
  refine Zp (Zb (Zd hE rfl fun a hE=>Zc hE rfl fun a hE=>Ze ?_))
  obtain rfl:=Option.some.inj hF3
  exact wp_ret (kr1 hE rfl rfl hM.kept)
def WH (p0 : (List Int)) (s5 : Int × Int) : Option (Fl (Int × Int) (Fl Int Int)) :=
 if (decide (s5.2 < (p0.length : Int))) = true then ((idx p0 s5.2).bind fun x10=>if (x10 != s5.1) = true then (some (Fl.ex (Fl.ex (-1)))) else (some (Fl.nx (wr (s5.1 + 1),wr (s5.2 + 1))))) else (some (Fl.ex (Fl.nx s5.1)))
def W2 (p0 : (List Int)) (p1 : Int) : Option (Int) :=
 (ZA (WH p0) (p1,0)).bind fun j1=>j1.el (fun s4=>some s4) (fun r=>some r)
theorem KT (w0 : World) (p0 : (List Int)) (v0_1 : Value) (hv0_1 : Ro w0 p0 [v0_1]) (p1 : Int) (r : Int) (hF : W2 p0 p1 = some r) :
  Calls Tryz.prog 62 [v0_1,vI p1].toArray w0 (Rt w0 (vI r)):=by
 refine ce Tryz.func62 ?_
 intro a hE
 have hM:=M.start w0
 unfold W2 at hF
 refine Zb (Zc hE rfl fun a hE=>Ze (wp_seq (Zb (Zc hE rfl fun a hE=>Ze ?_))))
 obtain ⟨j1,hl2,hF3⟩:=bind_some hF
 refine ZO (fun a w=>∃ s4 : Int,j1 = Fl.nx s4 ∧ Env 21 a [(1,vI s4)] ∧ M (Old w0) w0 w []) ?_ ?_
 ·skip
  refine wp_block ?_
  refine ZE (fun (s5 : Int × Int) a w=>Env 21 a [(0,v0_1),(1,vI s5.1),(5,vI s5.2)] ∧ M (Old w0) w0 w []) hl2 ⟨hE.sub ⟨rfl,rfl,rfl,trivial⟩,hM⟩ ?_
  rintro s5 a w ⟨hE,hM⟩ o8 hs6 hx7
  unfold WH at hs6
  refine wp_seq (Zb (Zd hE rfl fun a hE=>Zd hE rfl fun a hE=>Z5 hE rfl Tryz.underlying24 (hM.rd hv0_1) fun a hE=>Zi hE rfl rfl rfl fun a hE=>Ze ?_))
  refine Zo hE rfl ?_ ?_
  ·intro hb9
   have hs6:=Zt hs6 hb9
   refine wp_skip (Zp (wp_seq (wp_block (wp_seq (Zb (Zd hE rfl fun a hE=>Zd hE rfl ?_)))))); intro a hE
   obtain ⟨x10,hi12,hs6⟩:=bix hs6
   refine Yd hE rfl rfl Tryz.underlying24 ty2 (hM.rd hv0_1) hi12.1 fun a hE=>ZB (v:=(vI x10)) hE rfl ty2 rfl (Yt (hM.rd hv0_1) hi12.2) fun a hE=>Zd hE rfl fun a hE=>Zi hE rfl rfl rfl fun a hE=>Ze ?_
   refine Zo hE rfl ?_ ?_
   ·intro hb13
    have hs6:=Zt hs6 hb13
    refine Zb (Zc hE rfl fun a hE=>Ze ?_)
    obtain rfl:=hx7 _ (ois hs6)
    obtain rfl:=Option.some.inj hF3
    exact wp_ret (Zv (Xk (Zv (Zv (Xk (Zv (Zv (kr1 hE rfl rfl hM.kept))))))))
   ·intro hb13
    have hs6:=Zs hs6 hb13
    refine wp_skip (Zp (wp_region_lit (Zd hE rfl fun a hE=>Zi hE rfl rfl rfl fun a hE=>Zc hE rfl fun a hE=>Zg (Yb (Zp (wp_region_lit (Zd hE rfl fun a hE=>Zi hE rfl rfl rfl fun a hE=>Zc hE rfl fun a hE=>Zg (Zk ?_))))))))
    exact ⟨_,(ois hs6),hE.sub ⟨rfl,rfl,rfl,trivial⟩,hM⟩
  ·intro hb9
   have hs6:=Zs hs6 hb9
   refine wp_exit (Zn (Zn (Ye ?_)))
   obtain rfl:=hx7 _ (ois hs6)
   refine Zk ?_
   exact ⟨s5.1,rfl,hE.sub ⟨rfl,trivial⟩,hM⟩
 ·skip
  rintro a w ⟨s4,ht,hE,hM⟩
  subst ht
  have hF3:=Ta hF3
  refine Zp (Zb (Zd hE rfl fun a hE=>Zc hE rfl fun a hE=>Ze ?_))
  obtain rfl:=Option.some.inj hF3
  exact wp_ret (kr1 hE rfl rfl hM.kept)
def Wy (p0 : GBlobs) (p1 : Int) : Option (Int) :=
 (WG p0.Keys p1).bind fun r3=>if (decide (r3 < 0)) = true then (some (-1)) else ((W3 p0.Data r3).bind fun r6=>if (decide (r6 < 0)) = true then (some (-1)) else ((W2 p0.Counts r6).bind fun r9=>if (decide (r9 < 0)) = true then (some (-1)) else (some r9)))
theorem Qj (w0 : World) (p0 : GBlobs) (v0_1 : Value) (hv0_1 : Ro w0 p0.Keys [v0_1]) (v0_2 : Value) (hv0_2 : Ro w0 p0.Data [v0_2]) (v0_3 : Value) (hv0_3 : Ro w0 p0.Counts [v0_3]) (p1 : Int) (r : Int) (hF : Wy p0 p1 = some r) :
  Calls Tryz.prog 16 [(Value.agg (cat [[v0_1],[v0_2],[v0_3]]).toArray),vI p1].toArray w0 (Rt w0 (vI r)):=by
 refine ce Tryz.func16 ?_
 intro a hE
 have hM:=M.start w0
 unfold Wy at hF
 refine Zb (Ya (cs:=cat [[v0_1],[v0_2],[v0_3]]) hE hM Za ld rfl rfl fun b1 w a hM hE=>Zc hE rfl fun a hE=>Ze (Zb (Zy hE rfl (XL) fun a hE=>ZB (v:=v0_1) hE rfl To rfl (At.cat (pre:=[]) hM.rawAt0 cl0) fun a hE=>Zd hE rfl ?_))); intro a hE
 obtain ⟨r3,e4,hF⟩:=bind_some hF
 refine Zx hE rfl (cbm Tryz.func60) (KA _ p0.Keys v0_1 (hM.rdo hv0_1) p1 r3 e4) ?_
 rintro v w a ⟨rfl,hK⟩ hE
 have hM:=hM.keep hK
 refine Zc hE rfl fun a hE=>Ze (wp_seq (Zb (Zd hE rfl fun a hE=>Zi hE rfl rfl rfl fun a hE=>Ze ?_)))
 refine Zo hE rfl ?_ ?_
 ·intro hb5
  have hF:=Zt hF hb5
  refine Zb (Zc hE rfl fun a hE=>Ze ?_)
  obtain rfl:=Option.some.inj hF
  exact wp_ret (Zv (kr1 hE rfl rfl hM.kept))
 ·intro hb5
  have hF:=Zs hF hb5
  refine wp_skip (Zp (Zb (Zy hE rfl (We) fun a hE=>ZB (v:=v0_2) hE rfl U8 rfl (At.cat (pre:=[[v0_1]]) hM.rawAt0 ck) fun a hE=>Zd hE rfl ?_))); intro a hE
  obtain ⟨r6,e7,hF⟩:=bind_some hF
  refine Zx hE rfl (cbm Tryz.func61) (Jc _ p0.Data v0_2 (hM.rdo hv0_2) r3 r6 e7) ?_
  rintro v w a ⟨rfl,hK⟩ hE
  have hM:=hM.keep hK
  refine Zc hE rfl fun a hE=>Ze (wp_seq (Zb (Zd hE rfl fun a hE=>Zi hE rfl rfl rfl fun a hE=>Ze ?_)))
  refine Zo hE rfl ?_ ?_
  ·intro hb8
   have hF:=Zt hF hb8
   refine Zb (Zc hE rfl fun a hE=>Ze ?_)
   obtain rfl:=Option.some.inj hF
   exact wp_ret (Zv (kr1 hE rfl rfl hM.kept))
  ·intro hb8
   have hF:=Zs hF hb8
   refine wp_skip (Zp (Zb (Zy hE rfl (Wb) fun a hE=>ZB (v:=v0_3) hE rfl U7 rfl (At.cat (pre:=[[v0_1],[v0_2]]) hM.rawAt0 ck) fun a hE=>Zd hE rfl ?_))); intro a hE
   obtain ⟨r9,e10,hF⟩:=bind_some hF
   refine Zx hE rfl (cbm Tryz.func62) (KT _ p0.Counts v0_3 (hM.rdo hv0_3) r6 r9 e10) ?_
   rintro v w a ⟨rfl,hK⟩ hE
   have hM:=hM.keep hK
   refine Zc hE rfl fun a hE=>Ze (wp_seq (Zb (Zd hE rfl fun a hE=>Zi hE rfl rfl rfl fun a hE=>Ze ?_)))
   refine Zo hE rfl ?_ ?_
   ·intro hb11
    have hF:=Zt hF hb11
    refine Zb (Zc hE rfl fun a hE=>Ze ?_)
    obtain rfl:=Option.some.inj hF
    exact wp_ret (Zv (kr1 hE rfl rfl hM.kept))
   ·intro hb11
    have hF:=Zs hF hb11
    refine wp_skip (Zp (Zb (Zd hE rfl fun a hE=>Zc hE rfl fun a hE=>Ze ?_)))
    obtain rfl:=Option.some.inj hF
    exact wp_ret (kr1 hE rfl rfl hM.kept)
def WU (p0 : GBlobs) (p1 : (List UInt8)) : Option (Bool) :=
 if (decide ((p1.length : Int) > 1048576)) = true then (some true) else ((Ti p0 1048576).bind fun r4=>if (decide (r4 < 0)) = true then (some true) else ((X0 p0).bind fun r7=>(YZ p1).bind fun r12=>(Un r7 r12).bind fun r15=>(X0 p0).bind fun r24=>(YZ p1).bind fun r31=>(Vq r24 r31).bind fun r34=>((XU r34.1 r15.1).bind fun r46=>if (!r46) = true then (some true) else ((Y2 r34.2.1 r15.2.1).bind fun r50=>if (!r50) = true then (some true) else (some (r34.2.2 != r15.2.2))) : Option (Bool)).bind fun j43=>if j43 = true then (some false) else (((X0 p0).bind fun r60=>(XU r24 r60).bind fun r69=>some (!r69) : Option (Bool)).bind fun j56=>if j56 = true then (some false) else ((YZ p1).bind fun r73=>(WN r31 r73).bind fun r76=>if (!r76) = true then (some false) else ((Xd r24 1).bind fun r79=>(Xc r31 r79.2).bind fun r81=>(if (decide (r81.2 < 0)) = true then (some true) else ((XU r34.1 r15.1).bind fun r88=>if (!r88) = true then (some true) else ((Y2 r34.2.1 r15.2.1).bind fun r92=>if (!r92) = true then (some true) else (some (r34.2.2 != r15.2.2)))) : Option (Bool)).bind fun j83=>if j83 = true then (some false) else ((Xd r34.1 1).bind fun r98=>(Wy r98.1 1).bind fun r100=>if (decide (r100 < 0)) = true then (some false) else (if (r100 != r98.2) = true then (some false) else ((X0 p0).bind fun r104=>(YZ p1).bind fun r109=>(Vq r104 r109).bind fun r112=>((XU r112.1 r15.1).bind fun r124=>if (!r124) = true then (some true) else ((Y2 r112.2.1 r15.2.1).bind fun r128=>if (!r128) = true then (some true) else (some (r112.2.2 != r15.2.2))) : Option (Bool)).bind fun j121=>if j121 = true then (some false) else ((Wy r98.1 1).bind fun r134=>if (decide (r134 < 0)) = true then (some false) else (if (r134 != r98.2) = true then (some false) else (some true)))))))))))
theorem QO (w0 : World) (p0 : GBlobs) (v0_1 : Value) (hv0_1 : Ro w0 p0.Keys [v0_1]) (v0_2 : Value) (hv0_2 : Ro w0 p0.Data [v0_2]) (v0_3 : Value) (hv0_3 : Ro w0 p0.Counts [v0_3]) (p1 : (List UInt8)) (v1_1 : Value) (hv1_1 : Ro w0 p1 [v1_1]) (r : Bool) (hF : WU p0 p1 = some r) :
  Calls Tryz.prog 4 [(Value.agg (cat [[v0_1],[v0_2],[v0_3]]).toArray),v1_1].toArray w0 (Rt w0 (vT r)):=by
 refine ce Tryz.func4 ?_
 intro a hE
 have hM:=M.start w0
 unfold WU at hF
 refine Zb (Ya (cs:=cat [[v0_1],[v0_2],[v0_3]]) hE hM Za ld rfl rfl fun b1 w a hM hE=>Zc hE rfl fun a hE=>Ze (wp_seq (Zb (Zd hE rfl fun a hE=>Z5 hE rfl Tryz.underlying40 (hM.rd hv1_1) fun a hE=>Zi hE rfl rfl rfl fun a hE=>Ze ?_))))
 refine Zo hE rfl ?_ ?_
 ·intro hb3
  have hF:=Zt hF hb3
  refine Zb (Zc hE rfl fun a hE=>Ze ?_)
  obtain rfl:=Option.some.inj hF
  exact wp_ret (Zv (kr1 hE rfl rfl hM.kept))
 ·intro hb3
  have hF:=Zs hF hb3
  refine wp_skip (Zp (Zb (Zc hE rfl fun a hE=>Ze (Zb (Zr hE rfl A7 rfl hM.rawAt0 cq fun a hE=>Zd hE rfl ?_))))); intro a hE
  obtain ⟨r4,e5,hF⟩:=bind_some hF
  refine Zx hE rfl (cbm Tryz.func9) (HZ _ p0 v0_1 (hM.rdo hv0_1) v0_2 (hM.rdo hv0_2) v0_3 (hM.rdo hv0_3) 1048576 r4 e5) ?_
  rintro v w a ⟨rfl,hK⟩ hE
  have hM:=hM.keep hK
  refine Zc hE rfl fun a hE=>Ze (wp_seq (Zb (Zd hE rfl fun a hE=>Zi hE rfl rfl rfl fun a hE=>Ze ?_)))
  refine Zo hE rfl ?_ ?_
  ·intro hb6
   have hF:=Zt hF hb6
   refine Zb (Zc hE rfl fun a hE=>Ze ?_)
   obtain rfl:=Option.some.inj hF
   exact wp_ret (Zv (kr1 hE rfl rfl hM.kept))
  ·intro hb6
   have hF:=Zs hF hb6
   refine wp_skip (Zp (Zb (Zr hE rfl A7 rfl hM.rawAt0 cq ?_))); intro a hE
   obtain ⟨r7,e8,hF⟩:=bind_some hF
   refine Zx hE rfl cb11 (Te _ p0 v0_1 (hM.rdo hv0_1) v0_2 (hM.rdo hv0_2) v0_3 (hM.rdo hv0_3) r7 e8) ?_
   rintro v w a ⟨u9,u10,u11,rfl,hFr,hK⟩ hE
   have hM:=hM.add hK hFr
   refine Zd hE rfl ?_; intro a hE
   obtain ⟨r12,e13,hF⟩:=bind_some hF
   refine Zx hE rfl cb18 (Uh _ p1 v1_1 (hM.rdo hv1_1) r12 e13) ?_
   rintro u14 w a ⟨_,rfl,hFr,hK⟩ hE
   have hM:=hM.add hK hFr
   obtain ⟨r15,e16,hF⟩:=bind_some hF
   refine Zx hE rfl (cbm Tryz.func17) (H2 _ r7 u9 (hM.sl (pre:=[_]) noB) u10 (hM.sl (pre:=[_,_]) noB) u11 (hM.sl (pre:=[_,_,_]) noB) r12 u14 (hM.sl (pre:=[]) noB) r15 e16) ?_
   rintro v w a ⟨u17,u18,u19,rfl,hFr,hK⟩ hE
   have hM:=hM.add hK hFr
   refine Zd hE rfl fun a hE=>XN hE Za ld rfl rfl fun a hE=>XN hE Za ld rfl rfl fun a hE=>XN hE Za ld rfl rfl fun a hE=>Zz hE hM Yv fun b20 w a hM hE=>Zz hE hM ZL ?_; intro b22 w a hM hE
   have hM:=hM.pull1
   refine Zm (seg:=cat [[u17],[u18],[u19]]) (cs':=cat [[u17],[u18],[u19]]) hE hM Za rfl rfl rfl Yv cq (Nat.le_of_eq ((Nat.zero_add _).trans (Eq.trans cq (Eq.symm cq)))) (Yq (cc1 (Rep.cell (hM.sl (pre:=[_,_]) noB)) (cc1 (Rep.cell (hM.sl (pre:=[_,_,_]) noB)) (cc1 (Rep.cell (hM.sl (pre:=[_,_,_,_]) noB)) cc0)))) (Zh (Eq.trans cq (Eq.symm cq))) ?_; intro w a hM hE
   have hM:=hM.pull1
   refine Zm (seg:=enc r15.2.1) (cs':=enc r15.2.1) hE hM Za rfl rfl rfl ZL (Flat.len _) (zle flq) (Flat.cell _) (Zh flq) fun w a hM hE=>Zc hE rfl fun a hE=>Ze (Zb (Zr hE rfl A7 rfl hM.rawAt9 cq ?_)); intro a hE
   obtain ⟨r24,e25,hF⟩:=bind_some hF
   refine Zx hE rfl cb11 (Te _ p0 v0_1 (hM.rdo hv0_1) v0_2 (hM.rdo hv0_2) v0_3 (hM.rdo hv0_3) r24 e25) ?_
   rintro v w a ⟨u26,u27,u28,rfl,hFr,hK⟩ hE
   have hM:=hM.add hK hFr
   refine Zz hE hM Yv fun b29 w a hM hE=>Zm (seg:=cat [[u26],[u27],[u28]]) (cs':=cat [[u26],[u27],[u28]]) hE hM Za rfl rfl rfl Yv cq (Nat.le_of_eq ((Nat.zero_add _).trans (Eq.trans cq (Eq.symm cq)))) (Yq (cc1 (Rep.cell (hM.sl (pre:=[_]) noB)) (cc1 (Rep.cell (hM.sl (pre:=[_,_]) noB)) (cc1 (Rep.cell (hM.sl (pre:=[_,_,_]) noB)) cc0)))) (Zh (Eq.trans cq (Eq.symm cq))) fun w a hM hE=>Ze (Zb (Zd hE rfl ?_)); intro a hE
   obtain ⟨r31,e32,hF⟩:=bind_some hF
   refine Zx hE rfl cb18 (Uh _ p1 v1_1 (hM.rdo hv1_1) r31 e32) ?_
   rintro u33 w a ⟨_,rfl,hFr,hK⟩ hE
   have hM:=hM.add hK hFr
   refine Zc hE rfl fun a hE=>Ze (Zb (Zr hE rfl Yv rfl hM.rawAt1 cq fun a hE=>Zd hE rfl ?_)); intro a hE
   obtain ⟨r34,e35,hF⟩:=bind_some hF
   refine Zx hE rfl (cbm Tryz.func19) (Q8 _ r24 u26 (hM.sl (pre:=[_,_]) noB) u27 (hM.sl (pre:=[_,_,_]) noB) u28 (hM.sl (pre:=[_,_,_,_]) noB) r31 u33 (hM.sl (pre:=[]) noB) r34 e35) ?_
   rintro v w a ⟨u36,u37,u38,rfl,hFr,hK⟩ hE
   have hM:=hM.add hK hFr
   refine Zd hE rfl fun a hE=>XN hE Za ld rfl rfl fun a hE=>XN hE Za ld rfl rfl fun a hE=>XN hE Za ld rfl rfl fun a hE=>Zz hE hM Yv fun b39 w a hM hE=>Zz hE hM ZL ?_; intro b41 w a hM hE
   have hM:=hM.pull1
   refine Zm (seg:=cat [[u36],[u37],[u38]]) (cs':=cat [[u36],[u37],[u38]]) hE hM Za rfl rfl rfl Yv cq (Nat.le_of_eq ((Nat.zero_add _).trans (Eq.trans cq (Eq.symm cq)))) (Yq (cc1 (Rep.cell (hM.sl (pre:=[_,_]) noB)) (cc1 (Rep.cell (hM.sl (pre:=[_,_,_]) noB)) (cc1 (Rep.cell (hM.sl (pre:=[_,_,_,_]) noB)) cc0)))) (Zh (Eq.trans cq (Eq.symm cq))) ?_; intro w a hM hE
   have hM:=hM.pull1
   refine Zm (seg:=enc r34.2.1) (cs':=enc r34.2.1) hE hM Za rfl rfl rfl ZL (Flat.len _) (zle flq) (Flat.cell _) (Zh flq) fun w a hM hE=>Zc hE rfl fun a hE=>Ze (wp_seq ?_)
   obtain ⟨j43,hl44,hF45⟩:=bind_some hF
   refine ZN (fun a w=>Env 141 a [(1,v1_1),(2,(ptr b1 0)),(6,(ptr b20 0)),(7,(ptr b22 0)),(8,vI r15.2.2),(9,(ptr b29 0)),(10,u33),(11,(ptr b39 0)),(12,(ptr b41 0)),(13,vI r34.2.2),(62,vT j43)] ∧ M (Old w0) w0 w [raw b41 (enc r34.2.1),raw b39 (cat [[u36],[u37],[u38]]),osl NoB (r34.1.Keys : List (Vector UInt8 32)) u36,osl NoB (r34.1.Data : List (List UInt8)) u37,osl NoB (r34.1.Counts : List Int) u38,osl NoB (r31 : List UInt8) u33,raw b29 (cat [[u26],[u27],[u28]]),osl NoB (r24.Keys : List (Vector UInt8 32)) u26,osl NoB (r24.Data : List (List UInt8)) u27,osl NoB (r24.Counts : List Int) u28,raw b22 (enc r15.2.1),raw b20 (cat [[u17],[u18],[u19]]),osl NoB (r15.1.Keys : List (Vector UInt8 32)) u17,osl NoB (r15.1.Data : List (List UInt8)) u18,osl NoB (r15.1.Counts : List Int) u19,raw b1 (cat [[v0_1],[v0_2],[v0_3]])]) ?_ ?_
   ·skip
    refine wp_region_lit (Zr hE rfl Yv rfl hM.rawAt1 cq fun a hE=>Zr hE rfl Yv rfl hM.rawAt11 cq ?_); intro a hE
    obtain ⟨r46,e47,hl44⟩:=bind_some hl44
    refine Zx hE rfl cb14 (Tl _ r34.1 u36 (hM.sl (pre:=[_,_]) noB) u37 (hM.sl (pre:=[_,_,_]) noB) u38 (hM.sl (pre:=[_,_,_,_]) noB) r15.1 u17 (hM.sl (pre:=[_,_,_,_,_,_,_,_,_,_,_,_]) noB) u18 (hM.sl (pre:=[_,_,_,_,_,_,_,_,_,_,_,_,_]) noB) u19 (hM.sl (pre:=[_,_,_,_,_,_,_,_,_,_,_,_,_,_]) noB) r46 e47) ?_
    rintro v w a ⟨rfl,hK⟩ hE
    have hM:=hM.keep hK
    refine Qk hE rfl fun a hE=>Zd hE rfl ?_; intro a hE
    refine Wc (!r46) (fun hb48=>?_) (fun hb48=>?_)
    ·have hl44:=Zt hl44 hb48
     refine Zl hE rfl (lkb rfl hb48) rfl (by decide) fun a hE=>Zl hE rfl (lkb rfl hb48) rfl (by decide) fun a hE=>Zl hE rfl (lkb rfl hb48) rfl (by decide) fun a hE=>Zl hE rfl (lkb rfl hb48) rfl (by decide) fun a hE=>Yx hE (lkb rfl hb48) rfl fun a hE=>Zd hE rfl fun a hE=>Zl hE rfl rfl rfl (by decide) fun a hE=>Zl hE rfl rfl rfl (by decide) fun a hE=>Zl hE rfl rfl rfl (by decide) fun a hE=>Yx hE rfl rfl fun a hE=>Zg ?_
     obtain rfl:=Option.some.inj hl44
     refine Zk ?_
     have hM:=((((hM.pull (pre:=[_,_,_,_,_,_,_,_,_,_,_,_,_,_,_,_,_,_,_])).pull (pre:=[_,_,_,_,_,_,_,_,_,_,_,_,_,_,_])).pull (pre:=[_,_,_,_,_,_,_,_,_,_,_,_,_,_,_])).pull (pre:=[_,_,_,_,_,_,_,_,_,_,_,_,_,_,_])).pull (pre:=[_,_,_,_,_,_,_,_,_,_,_,_,_,_,_])
     have hM:=((((hM.pull (pre:=[_,_,_,_,_,_,_,_,_,_,_,_,_,_,_])).pull (pre:=[_,_,_,_,_,_,_,_,_,_,_,_,_,_,_])).pull (pre:=[_,_,_,_,_,_,_,_,_,_,_,_,_,_,_])).pull (pre:=[_,_,_,_,_,_,_,_,_,_,_,_,_,_,_])).pull (pre:=[_,_,_,_,_,_,_,_,_,_,_,_,_,_,_])
     have hM:=((((hM.pull (pre:=[_,_,_,_,_,_,_,_,_,_,_,_,_,_,_])).pull (pre:=[_,_,_,_,_,_,_,_,_,_,_,_,_,_,_])).pull (pre:=[_,_,_,_,_,_,_,_,_,_,_,_,_,_,_])).pull (pre:=[_,_,_,_,_,_,_,_,_,_,_,_,_,_,_])).pull (pre:=[_,_,_,_,_,_,_,_,_,_,_,_,_,_,_])
     have hM:=M.fst (l:=[_,_,_,_,_,_,_,_,_,_,_,_,_,_,_,_]) (hM.pull (pre:=[_,_,_,_,_,_,_,_,_,_,_,_,_,_,_]))
     exact ⟨hE.sub ⟨rfl,rfl,rfl,rfl,rfl,rfl,rfl,rfl,rfl,rfl,rfl,trivial⟩,hM⟩
    ·have hl44:=Zs hl44 hb48
     refine ZW hE (Zf hE rfl (lkb rfl hb48)) (by decide) rfl ZL rfl hM.rawAt0 (Flat.len _) fun a hE=>ZW hE (Zf hE rfl (lkb rfl hb48)) (by decide) rfl ZL rfl hM.rawAt10 (Flat.len _) ?_; intro a hE
     obtain ⟨r50,e51,hl44⟩:=bind_some hl44
     refine Yk hE (Zf hE rfl (lkb rfl hb48)) (by decide) rfl cb20 (UV _ r34.2.1 r15.2.1 r50 e51) ?_
     rintro v w a ⟨rfl,hK⟩ hE
     have hM:=hM.keep hK
     refine TF hE (Zf hE rfl (lkb rfl hb48)) (by decide) rfl fun a hE=>X9 hE (lkb rfl hb48) rfl fun a hE=>Zd hE rfl ?_; intro a hE
     refine Wc (!r50) (fun hb52=>?_) (fun hb52=>?_)
     ·have hl44:=Zt hl44 hb52
      refine Zl hE rfl (lkb rfl hb52) rfl (by decide) fun a hE=>Zl hE rfl (lkb rfl hb52) rfl (by decide) fun a hE=>Zl hE rfl (lkb rfl hb52) rfl (by decide) fun a hE=>Yx hE (lkb rfl hb52) rfl fun a hE=>Zg ?_
      obtain rfl:=Option.some.inj hl44
      refine Zk ?_
      have hM:=((((hM.pull (pre:=[_,_,_,_,_,_,_,_,_,_,_,_,_,_,_,_,_,_,_])).pull (pre:=[_,_,_,_,_,_,_,_,_,_,_,_,_,_,_])).pull (pre:=[_,_,_,_,_,_,_,_,_,_,_,_,_,_,_])).pull (pre:=[_,_,_,_,_,_,_,_,_,_,_,_,_,_,_])).pull (pre:=[_,_,_,_,_,_,_,_,_,_,_,_,_,_,_])
      have hM:=((((hM.pull (pre:=[_,_,_,_,_,_,_,_,_,_,_,_,_,_,_])).pull (pre:=[_,_,_,_,_,_,_,_,_,_,_,_,_,_,_])).pull (pre:=[_,_,_,_,_,_,_,_,_,_,_,_,_,_,_])).pull (pre:=[_,_,_,_,_,_,_,_,_,_,_,_,_,_,_])).pull (pre:=[_,_,_,_,_,_,_,_,_,_,_,_,_,_,_])
      have hM:=((((hM.pull (pre:=[_,_,_,_,_,_,_,_,_,_,_,_,_,_,_])).pull (pre:=[_,_,_,_,_,_,_,_,_,_,_,_,_,_,_])).pull (pre:=[_,_,_,_,_,_,_,_,_,_,_,_,_,_,_])).pull (pre:=[_,_,_,_,_,_,_,_,_,_,_,_,_,_,_])).pull (pre:=[_,_,_,_,_,_,_,_,_,_,_,_,_,_,_])
      have hM:=M.fst (l:=[_,_,_,_,_,_,_,_,_,_,_,_,_,_,_,_]) (hM.pull (pre:=[_,_,_,_,_,_,_,_,_,_,_,_,_,_,_]))
      exact ⟨hE.sub ⟨rfl,rfl,rfl,rfl,rfl,rfl,rfl,rfl,rfl,rfl,rfl,trivial⟩,hM⟩
     ·have hl44:=Zs hl44 hb52
      refine Zj hE (Zf hE rfl (lkb rfl hb52)) (by decide) rfl fun a hE=>Zj hE (Zf hE rfl (lkb rfl hb52)) (by decide) rfl fun a hE=>Z9 hE (Zf hE rfl (lkb rfl hb52)) (by decide) rfl rfl rfl fun a hE=>X9 hE (lkb rfl hb52) rfl fun a hE=>Zg ?_
      obtain rfl:=Option.some.inj hl44
      refine Zk ?_
      have hM:=((((hM.pull (pre:=[_,_,_,_,_,_,_,_,_,_,_,_,_,_,_,_,_,_,_])).pull (pre:=[_,_,_,_,_,_,_,_,_,_,_,_,_,_,_])).pull (pre:=[_,_,_,_,_,_,_,_,_,_,_,_,_,_,_])).pull (pre:=[_,_,_,_,_,_,_,_,_,_,_,_,_,_,_])).pull (pre:=[_,_,_,_,_,_,_,_,_,_,_,_,_,_,_])
      have hM:=((((hM.pull (pre:=[_,_,_,_,_,_,_,_,_,_,_,_,_,_,_])).pull (pre:=[_,_,_,_,_,_,_,_,_,_,_,_,_,_,_])).pull (pre:=[_,_,_,_,_,_,_,_,_,_,_,_,_,_,_])).pull (pre:=[_,_,_,_,_,_,_,_,_,_,_,_,_,_,_])).pull (pre:=[_,_,_,_,_,_,_,_,_,_,_,_,_,_,_])
      have hM:=((((hM.pull (pre:=[_,_,_,_,_,_,_,_,_,_,_,_,_,_,_])).pull (pre:=[_,_,_,_,_,_,_,_,_,_,_,_,_,_,_])).pull (pre:=[_,_,_,_,_,_,_,_,_,_,_,_,_,_,_])).pull (pre:=[_,_,_,_,_,_,_,_,_,_,_,_,_,_,_])).pull (pre:=[_,_,_,_,_,_,_,_,_,_,_,_,_,_,_])
      have hM:=M.fst (l:=[_,_,_,_,_,_,_,_,_,_,_,_,_,_,_,_]) (hM.pull (pre:=[_,_,_,_,_,_,_,_,_,_,_,_,_,_,_]))
      exact ⟨hE.sub ⟨rfl,rfl,rfl,rfl,rfl,rfl,rfl,rfl,rfl,rfl,rfl,trivial⟩,hM⟩
   ·skip
    rintro a w ⟨hE,hM⟩
    refine Zo hE rfl ?_ ?_
    ·intro hb55
     have hF45:=Zt hF45 hb55
     refine Zb (Zc hE rfl fun a hE=>Ze ?_)
     obtain rfl:=Option.some.inj hF45
     exact wp_ret (Zv (kr1 hE rfl rfl hM.kept))
    ·intro hb55
     have hF45:=Zs hF45 hb55
     refine wp_skip (Zp (wp_seq ?_))
     obtain ⟨j56,hl57,hF58⟩:=bind_some hF45
     refine ZN (fun a w=>Env 141 a [(1,v1_1),(2,(ptr b1 0)),(6,(ptr b20 0)),(7,(ptr b22 0)),(8,vI r15.2.2),(9,(ptr b29 0)),(10,u33),(11,(ptr b39 0)),(12,(ptr b41 0)),(13,vI r34.2.2),(67,vT j56)] ∧ M (Old w0) w0 w [raw b41 (enc r34.2.1),raw b39 (cat [[u36],[u37],[u38]]),osl NoB (r34.1.Keys : List (Vector UInt8 32)) u36,osl NoB (r34.1.Data : List (List UInt8)) u37,osl NoB (r34.1.Counts : List Int) u38,osl NoB (r31 : List UInt8) u33,raw b29 (cat [[u26],[u27],[u28]]),osl NoB (r24.Keys : List (Vector UInt8 32)) u26,osl NoB (r24.Data : List (List UInt8)) u27,osl NoB (r24.Counts : List Int) u28,raw b22 (enc r15.2.1),raw b20 (cat [[u17],[u18],[u19]]),osl NoB (r15.1.Keys : List (Vector UInt8 32)) u17,osl NoB (r15.1.Data : List (List UInt8)) u18,osl NoB (r15.1.Counts : List Int) u19,raw b1 (cat [[v0_1],[v0_2],[v0_3]])]) ?_ ?_
     ·skip
      obtain ⟨r60,e61,hl57⟩:=bind_some hl57
      refine Yz (its:=[raw b41 (enc r34.2.1),raw b39 (cat [[u36],[u37],[u38]]),osl NoB (r34.1.Keys : List (Vector UInt8 32)) u36,osl NoB (r34.1.Data : List (List UInt8)) u37,osl NoB (r34.1.Counts : List Int) u38,osl NoB (r31 : List UInt8) u33,raw b29 (cat [[u26],[u27],[u28]]),osl NoB (r24.Keys : List (Vector UInt8 32)) u26,osl NoB (r24.Data : List (List UInt8)) u27,osl NoB (r24.Counts : List Int) u28,raw b22 (enc r15.2.1),raw b20 (cat [[u17],[u18],[u19]]),osl NoB (r15.1.Keys : List (Vector UInt8 32)) u17,osl NoB (r15.1.Data : List (List UInt8)) u18,osl NoB (r15.1.Counts : List Int) u19,raw b1 (cat [[v0_1],[v0_2],[v0_3]])]) (mk:=([mkO 2 (fun v=>own NoB r60 (Value.cells v).toList)] : Mk)) [63,64,65] Yu rfl rfl (by decide) rfl hE (fun u=>M.qE (M.q0 hM.drew u) emO) (qsP (v:=(Value.agg (cat [[u26],[u27],[u28]]).toArray)) ?_ (qsP (v:=(Value.agg (cat [[v0_1],[v0_2],[v0_3]]).toArray)) ?_ (qsM (pr:=fun v=>∃ cs,v = .agg cs) ?_ qs0))) ?_
      ·intro a w ux59 D z
       have hE:=z.E
       have hM:=z.M
       exact Zr hE rfl Yv rfl hM.rawAt6 cq fun a hE=>⟨Kept.refl _ _,_,rfl,hE⟩
      ·intro a w ux59 D z
       have hE:=z.E
       have hM:=z.M
       exact Zr hE rfl A7 rfl (hM.rawAt (pre:=[_,_,_,_,_,_,_,_,_,_,_,_,_,_,_])) cq fun a hE=>⟨Kept.refl _ _,_,rfl,hE⟩
      ·intro a w ux59 D z
       have hE:=z.E
       have hD : D 2 = false:=z.F
       have hM0:=z.M
       have hM:=z.M
       refine Zx hE rfl cb11 (Te _ p0 v0_1 (hM.rdo hv0_1) v0_2 (hM.rdo hv0_2) v0_3 (hM.rdo hv0_3) r60 e61) ?_
       rintro _ w a ⟨u62,u63,u64,rfl,hFr,hK⟩ hE
       have hM:=JC (x:=r60) (hM0.add hK hFr) sio sio sio
       exact ⟨_,_,rfl,hE,M.qFill (mk1:=[]) (mk2:=[]) (f:=(fun v=>own NoB r60 (Value.cells v).toList)) hM rfl hD,⟨_,rfl⟩⟩
      ·intro a w ux59 D hE hM hG hall
       have d2:=hall 2 (by decide)
       have hM:=hM.sure (pre:=[_,_,_,_,_,_,_,_,_,_,_,_,_,_,_,_]) d2
       obtain ⟨q59_2_0_1,q59_2_0_2,q59_2_0_3,hcz,_,_,_⟩:=Kh (hM.ro (pre:=[_,_,_,_,_,_,_,_,_,_,_,_,_,_,_,_]) noB)
       have qK65 : (ux59 2) = (Value.agg (cat [[q59_2_0_1],[q59_2_0_2],[q59_2_0_3]]).toArray):=aggQ hcz (hG 2 d2 _ rfl).2
       have hM:=hM.pull (pre:=[_,_,_,_,_,_,_,_,_,_,_,_,_,_,_,_])
       have hM:=JB (hM.recown (congrArg (fun v=>(Value.cells v).toList) qK65))
       have hE:=hE.setq (t:=65) rfl qK65
       obtain ⟨r69,e70,hl57⟩:=bind_some hl57
       refine Zx hE rfl cb14 (Tl _ r24 u26 (hM.sl (pre:=[_,_,_,_,_,_,_,_,_,_]) noB) u27 (hM.sl (pre:=[_,_,_,_,_,_,_,_,_,_,_]) noB) u28 (hM.sl (pre:=[_,_,_,_,_,_,_,_,_,_,_,_]) noB) r60 q59_2_0_1 (hM.ro (pre:=[]) noB) q59_2_0_2 (hM.ro (pre:=[_]) noB) q59_2_0_3 (hM.ro (pre:=[_,_]) noB) r69 e70) ?_
       rintro v w a ⟨rfl,hK⟩ hE
       have hM:=hM.keep hK
       refine Qk hE rfl fun a hE=>Zg ?_
       obtain rfl:=Option.some.inj hl57
       refine Zk ?_
       have hM:=(((hM.pull (pre:=[_,_,_,_,_,_,_,_,_,_,_,_,_,_,_,_,_,_])).pull (pre:=[_,_,_,_,_,_,_,_,_,_,_,_,_,_,_,_,_,_])).pull (pre:=[_,_,_,_,_,_,_,_,_,_,_,_,_,_,_,_,_,_])).pull (pre:=[_,_,_,_,_,_,_,_,_,_,_,_,_,_,_,_,_,_])
       have hM:=(((hM.pull (pre:=[_,_,_,_,_,_,_,_,_,_,_,_,_,_,_,_,_,_])).pull (pre:=[_,_,_,_,_,_,_,_,_,_,_,_,_,_,_,_,_,_])).pull (pre:=[_,_,_,_,_,_,_,_,_,_,_,_,_,_,_,_,_,_])).pull (pre:=[_,_,_,_,_,_,_,_,_,_,_,_,_,_,_,_,_,_])
       have hM:=(((hM.pull (pre:=[_,_,_,_,_,_,_,_,_,_,_,_,_,_,_,_,_,_])).pull (pre:=[_,_,_,_,_,_,_,_,_,_,_,_,_,_,_,_,_,_])).pull (pre:=[_,_,_,_,_,_,_,_,_,_,_,_,_,_,_,_,_,_])).pull (pre:=[_,_,_,_,_,_,_,_,_,_,_,_,_,_,_,_,_,_])
       have hM:=(((hM.pull (pre:=[_,_,_,_,_,_,_,_,_,_,_,_,_,_,_,_,_,_])).pull (pre:=[_,_,_,_,_,_,_,_,_,_,_,_,_,_,_,_,_,_])).pull (pre:=[_,_,_,_,_,_,_,_,_,_,_,_,_,_,_,_,_,_])).pull (pre:=[_,_,_,_,_,_,_,_,_,_,_,_,_,_,_,_,_,_])
       have hM:=M.fst (l:=[_,_,_,_,_,_,_,_,_,_,_,_,_,_,_,_]) hM
       exact ⟨hE.sub ⟨rfl,rfl,rfl,rfl,rfl,rfl,rfl,rfl,rfl,rfl,rfl,trivial⟩,hM⟩
     ·skip
      rintro a w ⟨hE,hM⟩
      refine Zo hE rfl ?_ ?_
      ·intro hb72
       have hF58:=Zt hF58 hb72
       refine Zb (Zc hE rfl fun a hE=>Ze ?_)
       obtain rfl:=Option.some.inj hF58
       exact wp_ret (Zv (kr1 hE rfl rfl hM.kept))
      ·intro hb72
       have hF58:=Zs hF58 hb72
       refine wp_skip (Zp (wp_seq (Zb (Zd hE rfl fun a hE=>Zd hE rfl ?_)))); intro a hE
       obtain ⟨r73,e74,hF58⟩:=bind_some hF58
       refine Zx hE rfl cb18 (Uh _ p1 v1_1 (hM.rdo hv1_1) r73 e74) ?_
       rintro u75 w a ⟨_,rfl,hFr,hK⟩ hE
       have hM:=hM.add hK hFr
       obtain ⟨r76,e77,hF58⟩:=bind_some hF58
       refine Zx hE rfl (cbm Tryz.func21) (Q7 _ r31 u33 (hM.sl (pre:=[_,_,_,_,_,_]) noB) r73 u75 (hM.sl (pre:=[]) noB) r76 e77) ?_
       rintro v w a ⟨rfl,hK⟩ hE
       have hM:=hM.keep hK
       refine Qk hE rfl fun a hE=>Ze ?_
       refine Zo hE rfl ?_ ?_
       ·intro hb78
        have hF58:=Zt hF58 hb78
        refine Zb (Zc hE rfl fun a hE=>Ze ?_)
        obtain rfl:=Option.some.inj hF58
        exact wp_ret (Zv (kr1 hE rfl rfl hM.kept))
       ·intro hb78
        have hF58:=Zs hF58 hb78
        refine wp_skip (Zp (Zb (Zc hE rfl fun a hE=>Ze (Zb (Zr hE rfl Yv rfl hM.rawAt7 cq fun a hE=>Zd hE rfl ?_))))); intro a hE
        have hM:=((((((hM.pull8.toOwn noB).pull9).toOwn noB).pull10).toOwn noB).pull1).pull2
        obtain ⟨r79,e80,hF58⟩:=bind_some hF58
        refine Zx hE rfl (cbm Tryz.func15) (Qw _ _ _ _ r24 u26 u27 u28 1 hM r79 e80) ?_
        rintro v w a ⟨rfl,hM⟩ hE
        refine Zc hE rfl fun a hE=>Ze (Zb (Zd hE rfl fun a hE=>Zd hE rfl ?_)); intro a hE
        have hM:=hM.pull9.toOwn noB
        obtain ⟨r81,e82,hF58⟩:=bind_some hF58
        refine Zx hE rfl (cbm Tryz.func22) (Qq _ _ _ _ r31 u33 r79.2 hM r81 e82) ?_
        rintro v w a ⟨rfl,hM⟩ hE
        refine Zc hE rfl fun a hE=>Ze (wp_seq ?_)
        obtain ⟨j83,hl84,hF85⟩:=bind_some hF58
        refine ZN (fun a w=>Env 141 a [(1,v1_1),(2,(ptr b1 0)),(6,(ptr b20 0)),(7,(ptr b22 0)),(8,vI r15.2.2),(11,(ptr b39 0)),(97,vT j83)] ∧ M (Old w0) w0 w [raw b39 (cat [[u36],[u37],[u38]]),osl NoB (r34.1.Keys : List (Vector UInt8 32)) u36,osl NoB (r34.1.Data : List (List UInt8)) u37,osl NoB (r34.1.Counts : List Int) u38,raw b22 (enc r15.2.1),raw b20 (cat [[u17],[u18],[u19]]),osl NoB (r15.1.Keys : List (Vector UInt8 32)) u17,osl NoB (r15.1.Data : List (List UInt8)) u18,osl NoB (r15.1.Counts : List Int) u19,raw b1 (cat [[v0_1],[v0_2],[v0_3]])]) ?_ ?_
        ·skip
         refine wp_region_lit (Zd hE rfl fun a hE=>Zi hE rfl rfl rfl fun a hE=>Zd hE rfl ?_); intro a hE
         refine Wc (decide (r81.2 < 0)) (fun hb86=>?_) (fun hb86=>?_)
         ·have hl84:=Zt hl84 hb86
          refine Zl hE rfl (lkb rfl hb86) rfl (by decide) fun a hE=>Zl hE rfl (lkb rfl hb86) rfl (by decide) fun a hE=>Zl hE rfl (lkb rfl hb86) rfl (by decide) fun a hE=>Zl hE rfl (lkb rfl hb86) rfl (by decide) fun a hE=>Yx hE (lkb rfl hb86) rfl fun a hE=>Zd hE rfl fun a hE=>Zl hE rfl rfl rfl (by decide) fun a hE=>Zl hE rfl rfl rfl (by decide) fun a hE=>Zl hE rfl rfl rfl (by decide) fun a hE=>Zl hE rfl rfl rfl (by decide) fun a hE=>Yx hE rfl rfl fun a hE=>Zd hE rfl ?_; intro a hE
          refine Zl hE rfl rfl rfl (by decide) fun a hE=>Zl hE rfl rfl rfl (by decide) fun a hE=>Zl hE rfl rfl rfl (by decide) fun a hE=>Yx hE rfl rfl fun a hE=>Zg ?_
          obtain rfl:=Option.some.inj hl84
          refine Zk ?_
          have hM:=((((hM.pull (pre:=[_,_,_,_,_,_,_,_,_,_,_,_,_,_,_,_])).pull (pre:=[_,_,_,_,_,_,_,_,_,_,_,_,_,_,_,_])).pull (pre:=[_,_,_,_,_,_,_,_,_,_,_,_,_,_,_,_])).pull (pre:=[_,_,_,_,_,_,_,_,_,_,_,_,_,_,_,_])).pull (pre:=[_,_,_,_,_,_,_,_,_,_,_,_,_,_,_,_])
          have hM:=((((hM.pull (pre:=[_,_,_,_,_,_,_,_,_,_,_,_,_,_,_,_])).pull (pre:=[_,_,_,_,_,_,_,_,_,_,_,_,_,_,_])).pull (pre:=[_,_,_,_,_,_,_,_,_,_,_,_,_,_,_])).pull (pre:=[_,_,_,_,_,_,_,_,_,_,_,_,_,_,_])).pull (pre:=[_,_,_,_,_,_,_,_,_,_,_,_,_,_,_])
          have hM:=M.fst (l:=[_,_,_,_,_,_,_,_,_,_]) hM
          exact ⟨hE.sub ⟨rfl,rfl,rfl,rfl,rfl,rfl,rfl,trivial⟩,hM⟩
         ·have hl84:=Zs hl84 hb86
          refine ZW hE (Zf hE rfl (lkb rfl hb86)) (by decide) rfl Yv rfl hM.rawAt6 cq fun a hE=>ZW hE (Zf hE rfl (lkb rfl hb86)) (by decide) rfl Yv rfl hM.rawAt12 cq ?_; intro a hE
          obtain ⟨r88,e89,hl84⟩:=bind_some hl84
          refine Yk hE (Zf hE rfl (lkb rfl hb86)) (by decide) rfl cb14 (Tl _ r34.1 u36 (hM.sl (pre:=[_,_,_,_,_,_,_]) noB) u37 (hM.sl (pre:=[_,_,_,_,_,_,_,_]) noB) u38 (hM.sl (pre:=[_,_,_,_,_,_,_,_,_]) noB) r15.1 u17 (hM.sl (pre:=[_,_,_,_,_,_,_,_,_,_,_,_,_]) noB) u18 (hM.sl (pre:=[_,_,_,_,_,_,_,_,_,_,_,_,_,_]) noB) u19 (hM.sl (pre:=[_,_,_,_,_,_,_,_,_,_,_,_,_,_,_]) noB) r88 e89) ?_
          rintro v w a ⟨rfl,hK⟩ hE
          have hM:=hM.keep hK
          refine TF hE (Zf hE rfl (lkb rfl hb86)) (by decide) rfl fun a hE=>X9 hE (lkb rfl hb86) rfl fun a hE=>Zd hE rfl ?_; intro a hE
          refine Wc (!r88) (fun hb90=>?_) (fun hb90=>?_)
          ·have hl84:=Zt hl84 hb90
           refine Zl hE rfl (lkb rfl hb90) rfl (by decide) fun a hE=>Zl hE rfl (lkb rfl hb90) rfl (by decide) fun a hE=>Zl hE rfl (lkb rfl hb90) rfl (by decide) fun a hE=>Zl hE rfl (lkb rfl hb90) rfl (by decide) fun a hE=>Yx hE (lkb rfl hb90) rfl fun a hE=>Zd hE rfl fun a hE=>Zl hE rfl rfl rfl (by decide) fun a hE=>Zl hE rfl rfl rfl (by decide) fun a hE=>Zl hE rfl rfl rfl (by decide) fun a hE=>Yx hE rfl rfl fun a hE=>Zg ?_
           obtain rfl:=Option.some.inj hl84
           refine Zk ?_
           have hM:=((((hM.pull (pre:=[_,_,_,_,_,_,_,_,_,_,_,_,_,_,_,_])).pull (pre:=[_,_,_,_,_,_,_,_,_,_,_,_,_,_,_,_])).pull (pre:=[_,_,_,_,_,_,_,_,_,_,_,_,_,_,_,_])).pull (pre:=[_,_,_,_,_,_,_,_,_,_,_,_,_,_,_,_])).pull (pre:=[_,_,_,_,_,_,_,_,_,_,_,_,_,_,_,_])
           have hM:=((((hM.pull (pre:=[_,_,_,_,_,_,_,_,_,_,_,_,_,_,_,_])).pull (pre:=[_,_,_,_,_,_,_,_,_,_,_,_,_,_,_])).pull (pre:=[_,_,_,_,_,_,_,_,_,_,_,_,_,_,_])).pull (pre:=[_,_,_,_,_,_,_,_,_,_,_,_,_,_,_])).pull (pre:=[_,_,_,_,_,_,_,_,_,_,_,_,_,_,_])
           have hM:=M.fst (l:=[_,_,_,_,_,_,_,_,_,_]) hM
           exact ⟨hE.sub ⟨rfl,rfl,rfl,rfl,rfl,rfl,rfl,trivial⟩,hM⟩
          ·have hl84:=Zs hl84 hb90
           refine ZW hE (Zf hE rfl (lkb rfl hb90)) (by decide) rfl ZL rfl hM.rawAt5 (Flat.len _) fun a hE=>ZW hE (Zf hE rfl (lkb rfl hb90)) (by decide) rfl ZL rfl hM.rawAt11 (Flat.len _) ?_; intro a hE
           obtain ⟨r92,e93,hl84⟩:=bind_some hl84
           refine Yk hE (Zf hE rfl (lkb rfl hb90)) (by decide) rfl cb20 (UV _ r34.2.1 r15.2.1 r92 e93) ?_
           rintro v w a ⟨rfl,hK⟩ hE
           have hM:=hM.keep hK
           refine TF hE (Zf hE rfl (lkb rfl hb90)) (by decide) rfl fun a hE=>X9 hE (lkb rfl hb90) rfl fun a hE=>Zd hE rfl ?_; intro a hE
           refine Wc (!r92) (fun hb94=>?_) (fun hb94=>?_)
           ·have hl84:=Zt hl84 hb94
            refine Zl hE rfl (lkb rfl hb94) rfl (by decide) fun a hE=>Zl hE rfl (lkb rfl hb94) rfl (by decide) fun a hE=>Zl hE rfl (lkb rfl hb94) rfl (by decide) fun a hE=>Yx hE (lkb rfl hb94) rfl fun a hE=>Zg ?_
            obtain rfl:=Option.some.inj hl84
            refine Zk ?_
            have hM:=((((hM.pull (pre:=[_,_,_,_,_,_,_,_,_,_,_,_,_,_,_,_])).pull (pre:=[_,_,_,_,_,_,_,_,_,_,_,_,_,_,_,_])).pull (pre:=[_,_,_,_,_,_,_,_,_,_,_,_,_,_,_,_])).pull (pre:=[_,_,_,_,_,_,_,_,_,_,_,_,_,_,_,_])).pull (pre:=[_,_,_,_,_,_,_,_,_,_,_,_,_,_,_,_])
            have hM:=((((hM.pull (pre:=[_,_,_,_,_,_,_,_,_,_,_,_,_,_,_,_])).pull (pre:=[_,_,_,_,_,_,_,_,_,_,_,_,_,_,_])).pull (pre:=[_,_,_,_,_,_,_,_,_,_,_,_,_,_,_])).pull (pre:=[_,_,_,_,_,_,_,_,_,_,_,_,_,_,_])).pull (pre:=[_,_,_,_,_,_,_,_,_,_,_,_,_,_,_])
            have hM:=M.fst (l:=[_,_,_,_,_,_,_,_,_,_]) hM
            exact ⟨hE.sub ⟨rfl,rfl,rfl,rfl,rfl,rfl,rfl,trivial⟩,hM⟩
           ·have hl84:=Zs hl84 hb94
            refine Zj hE (Zf hE rfl (lkb rfl hb94)) (by decide) rfl fun a hE=>Zj hE (Zf hE rfl (lkb rfl hb94)) (by decide) rfl fun a hE=>Z9 hE (Zf hE rfl (lkb rfl hb94)) (by decide) rfl rfl rfl fun a hE=>X9 hE (lkb rfl hb94) rfl fun a hE=>Zg ?_
            obtain rfl:=Option.some.inj hl84
            refine Zk ?_
            have hM:=((((hM.pull (pre:=[_,_,_,_,_,_,_,_,_,_,_,_,_,_,_,_])).pull (pre:=[_,_,_,_,_,_,_,_,_,_,_,_,_,_,_,_])).pull (pre:=[_,_,_,_,_,_,_,_,_,_,_,_,_,_,_,_])).pull (pre:=[_,_,_,_,_,_,_,_,_,_,_,_,_,_,_,_])).pull (pre:=[_,_,_,_,_,_,_,_,_,_,_,_,_,_,_,_])
            have hM:=((((hM.pull (pre:=[_,_,_,_,_,_,_,_,_,_,_,_,_,_,_,_])).pull (pre:=[_,_,_,_,_,_,_,_,_,_,_,_,_,_,_])).pull (pre:=[_,_,_,_,_,_,_,_,_,_,_,_,_,_,_])).pull (pre:=[_,_,_,_,_,_,_,_,_,_,_,_,_,_,_])).pull (pre:=[_,_,_,_,_,_,_,_,_,_,_,_,_,_,_])
            have hM:=M.fst (l:=[_,_,_,_,_,_,_,_,_,_]) hM
            exact ⟨hE.sub ⟨rfl,rfl,rfl,rfl,rfl,rfl,rfl,trivial⟩,hM⟩
        ·skip
         rintro a w ⟨hE,hM⟩
         refine Zo hE rfl ?_ ?_
         ·intro hb97
          have hF85:=Zt hF85 hb97
          refine Zb (Zc hE rfl fun a hE=>Ze ?_)
          obtain rfl:=Option.some.inj hF85
          exact wp_ret (Zv (kr1 hE rfl rfl hM.kept))
         ·intro hb97
          have hF85:=Zs hF85 hb97
          refine wp_skip (Zp (Zb (Zc hE rfl fun a hE=>Ze (Zb (Zr hE rfl Yv rfl hM.rawAt0 cq fun a hE=>Zd hE rfl ?_))))); intro a hE
          have hM:=((((((hM.pull1.toOwn noB).pull2).toOwn noB).pull3).toOwn noB).pull1).pull2
          obtain ⟨r98,e99,hF85⟩:=bind_some hF85
          refine Zx hE rfl (cbm Tryz.func15) (Qw _ _ _ _ r34.1 u36 u37 u38 1 hM r98 e99) ?_
          rintro v w a ⟨rfl,hM⟩ hE
          refine Zc hE rfl fun a hE=>Ze (Zb (Zc hE rfl fun a hE=>Ze (Zb (Zr hE rfl Yv rfl hM.rawAt3 cq fun a hE=>Zd hE rfl ?_)))); intro a hE
          obtain ⟨r100,e101,hF85⟩:=bind_some hF85
          refine Zx hE rfl (cbm Tryz.func16) (Qj _ r98.1 u36 (hM.ro (pre:=[]) noB) u37 (hM.ro (pre:=[_]) noB) u38 (hM.ro (pre:=[_,_]) noB) 1 r100 e101) ?_
          rintro v w a ⟨rfl,hK⟩ hE
          have hM:=hM.keep hK
          refine Zc hE rfl fun a hE=>Ze (wp_seq (Zb (Zd hE rfl fun a hE=>Zi hE rfl rfl rfl fun a hE=>Ze ?_)))
          refine Zo hE rfl ?_ ?_
          ·intro hb102
           have hF85:=Zt hF85 hb102
           refine Zb (Zc hE rfl fun a hE=>Ze ?_)
           obtain rfl:=Option.some.inj hF85
           exact wp_ret (Zv (kr1 hE rfl rfl hM.kept))
          ·intro hb102
           have hF85:=Zs hF85 hb102
           refine wp_skip (Zp (wp_seq (Zb (Zd hE rfl fun a hE=>Zd hE rfl fun a hE=>Zi hE rfl rfl rfl fun a hE=>Ze ?_))))
           refine Zo hE rfl ?_ ?_
           ·intro hb103
            have hF85:=Zt hF85 hb103
            refine Zb (Zc hE rfl fun a hE=>Ze ?_)
            obtain rfl:=Option.some.inj hF85
            exact wp_ret (Zv (kr1 hE rfl rfl hM.kept))
           ·intro hb103
            have hF85:=Zs hF85 hb103
            refine wp_skip (Zp (Zb (Zr hE rfl A7 rfl hM.rawAt9 cq ?_))); intro a hE
            obtain ⟨r104,e105,hF85⟩:=bind_some hF85
            refine Zx hE rfl cb11 (Te _ p0 v0_1 (hM.rdo hv0_1) v0_2 (hM.rdo hv0_2) v0_3 (hM.rdo hv0_3) r104 e105) ?_
            rintro v w a ⟨u106,u107,u108,rfl,hFr,hK⟩ hE
            have hM:=hM.add hK hFr
            refine Zd hE rfl ?_; intro a hE
            obtain ⟨r109,e110,hF85⟩:=bind_some hF85
            refine Zx hE rfl cb18 (Uh _ p1 v1_1 (hM.rdo hv1_1) r109 e110) ?_
            rintro u111 w a ⟨_,rfl,hFr,hK⟩ hE
            have hM:=hM.add hK hFr
            obtain ⟨r112,e113,hF85⟩:=bind_some hF85
            refine Zx hE rfl (cbm Tryz.func19) (Q8 _ r104 u106 (hM.sl (pre:=[_]) noB) u107 (hM.sl (pre:=[_,_]) noB) u108 (hM.sl (pre:=[_,_,_]) noB) r109 u111 (hM.sl (pre:=[]) noB) r112 e113) ?_
            rintro v w a ⟨u114,u115,u116,rfl,hFr,hK⟩ hE
            have hM:=hM.add hK hFr
            refine Zd hE rfl fun a hE=>XN hE Za ld rfl rfl fun a hE=>XN hE Za ld rfl rfl fun a hE=>XN hE Za ld rfl rfl fun a hE=>Zz hE hM Yv fun b117 w a hM hE=>Zz hE hM ZL ?_; intro b119 w a hM hE
            have hM:=hM.pull1
            refine Zm (seg:=cat [[u114],[u115],[u116]]) (cs':=cat [[u114],[u115],[u116]]) hE hM Za rfl rfl rfl Yv cq (Nat.le_of_eq ((Nat.zero_add _).trans (Eq.trans cq (Eq.symm cq)))) (Yq (cc1 (Rep.cell (hM.sl (pre:=[_,_]) noB)) (cc1 (Rep.cell (hM.sl (pre:=[_,_,_]) noB)) (cc1 (Rep.cell (hM.sl (pre:=[_,_,_,_]) noB)) cc0)))) (Zh (Eq.trans cq (Eq.symm cq))) ?_; intro w a hM hE
            have hM:=hM.pull1
            refine Zm (seg:=enc r112.2.1) (cs':=enc r112.2.1) hE hM Za rfl rfl rfl ZL (Flat.len _) (zle flq) (Flat.cell _) (Zh flq) fun w a hM hE=>Zc hE rfl fun a hE=>Ze (wp_seq ?_)
            obtain ⟨j121,hl122,hF123⟩:=bind_some hF85
            refine ZN (fun a w=>Env 141 a [(11,(ptr b39 0)),(15,vI r98.2),(132,vT j121)] ∧ M (Old w0) w0 w [own NoB (r98.1.Keys : (List (Vector UInt8 32))) [u36],own NoB (r98.1.Data : (List (List UInt8))) [u37],own NoB (r98.1.Counts : (List Int)) [u38],raw b39 (cat [[u36],[u37],[u38]])]) ?_ ?_
            ·skip
             refine wp_region_lit (Zr hE rfl Yv rfl hM.rawAt1 cq fun a hE=>Zr hE rfl Yv rfl (hM.rawAt (pre:=[_,_,_,_,_,_,_,_,_,_,_,_,_,_])) cq ?_); intro a hE
             obtain ⟨r124,e125,hl122⟩:=bind_some hl122
             refine Zx hE rfl cb14 (Tl _ r112.1 u114 (hM.sl (pre:=[_,_]) noB) u115 (hM.sl (pre:=[_,_,_]) noB) u116 (hM.sl (pre:=[_,_,_,_]) noB) r15.1 u17 (hM.sl (pre:=[_,_,_,_,_,_,_,_,_,_,_,_,_,_,_]) noB) u18 (hM.sl (pre:=[_,_,_,_,_,_,_,_,_,_,_,_,_,_,_,_]) noB) u19 (hM.sl (pre:=[_,_,_,_,_,_,_,_,_,_,_,_,_,_,_,_,_]) noB) r124 e125) ?_
             rintro v w a ⟨rfl,hK⟩ hE
             have hM:=hM.keep hK
             refine Qk hE rfl fun a hE=>Zd hE rfl ?_; intro a hE
             refine Wc (!r124) (fun hb126=>?_) (fun hb126=>?_)
             ·have hl122:=Zt hl122 hb126
              refine Zl hE rfl (lkb rfl hb126) rfl (by decide) fun a hE=>Zl hE rfl (lkb rfl hb126) rfl (by decide) fun a hE=>Zl hE rfl (lkb rfl hb126) rfl (by decide) fun a hE=>Zl hE rfl (lkb rfl hb126) rfl (by decide) fun a hE=>Yx hE (lkb rfl hb126) rfl fun a hE=>Zd hE rfl fun a hE=>Zl hE rfl rfl rfl (by decide) fun a hE=>Zl hE rfl rfl rfl (by decide) fun a hE=>Zl hE rfl rfl rfl (by decide) fun a hE=>Yx hE rfl rfl fun a hE=>Zg ?_
              obtain rfl:=Option.some.inj hl122
              refine Zk ?_
              have hM:=M.fst (l:=[_,_,_,_]) hM.pull12.pull12.pull12.pull12
              exact ⟨hE.sub ⟨rfl,rfl,rfl,trivial⟩,hM⟩
             ·have hl122:=Zs hl122 hb126
              refine ZW hE (Zf hE rfl (lkb rfl hb126)) (by decide) rfl ZL rfl hM.rawAt0 (Flat.len _) fun a hE=>ZW hE (Zf hE rfl (lkb rfl hb126)) (by decide) rfl ZL rfl hM.rawAt13 (Flat.len _) ?_; intro a hE
              obtain ⟨r128,e129,hl122⟩:=bind_some hl122
              refine Yk hE (Zf hE rfl (lkb rfl hb126)) (by decide) rfl cb20 (UV _ r112.2.1 r15.2.1 r128 e129) ?_
              rintro v w a ⟨rfl,hK⟩ hE
              have hM:=hM.keep hK
              refine TF hE (Zf hE rfl (lkb rfl hb126)) (by decide) rfl fun a hE=>X9 hE (lkb rfl hb126) rfl fun a hE=>Zd hE rfl ?_; intro a hE
              refine Wc (!r128) (fun hb130=>?_) (fun hb130=>?_)
              ·have hl122:=Zt hl122 hb130
               refine Zl hE rfl (lkb rfl hb130) rfl (by decide) fun a hE=>Zl hE rfl (lkb rfl hb130) rfl (by decide) fun a hE=>Zl hE rfl (lkb rfl hb130) rfl (by decide) fun a hE=>Yx hE (lkb rfl hb130) rfl fun a hE=>Zg ?_
               obtain rfl:=Option.some.inj hl122
               refine Zk ?_
               have hM:=M.fst (l:=[_,_,_,_]) hM.pull12.pull12.pull12.pull12
               exact ⟨hE.sub ⟨rfl,rfl,rfl,trivial⟩,hM⟩
              ·have hl122:=Zs hl122 hb130
               refine Zj hE (Zf hE rfl (lkb rfl hb130)) (by decide) rfl fun a hE=>Zj hE (Zf hE rfl (lkb rfl hb130)) (by decide) rfl fun a hE=>Z9 hE (Zf hE rfl (lkb rfl hb130)) (by decide) rfl rfl rfl fun a hE=>X9 hE (lkb rfl hb130) rfl fun a hE=>Zg ?_
               obtain rfl:=Option.some.inj hl122
               refine Zk ?_
               have hM:=M.fst (l:=[_,_,_,_]) hM.pull12.pull12.pull12.pull12
               exact ⟨hE.sub ⟨rfl,rfl,rfl,trivial⟩,hM⟩
            ·skip
             rintro a w ⟨hE,hM⟩
             refine Zo hE rfl ?_ ?_
             ·intro hb133
              have hF123:=Zt hF123 hb133
              refine Zb (Zc hE rfl fun a hE=>Ze ?_)
              obtain rfl:=Option.some.inj hF123
              exact wp_ret (Zv (kr1 hE rfl rfl hM.kept))
             ·intro hb133
              have hF123:=Zs hF123 hb133
              refine wp_skip (Zp (Zb (Zc hE rfl fun a hE=>Ze (Zb (Zr hE rfl Yv rfl hM.rawAt3 cq fun a hE=>Zd hE rfl ?_))))); intro a hE
              obtain ⟨r134,e135,hF123⟩:=bind_some hF123
              refine Zx hE rfl (cbm Tryz.func16) (Qj _ r98.1 u36 (hM.ro (pre:=[]) noB) u37 (hM.ro (pre:=[_]) noB) u38 (hM.ro (pre:=[_,_]) noB) 1 r134 e135) ?_
              rintro v w a ⟨rfl,hK⟩ hE
              have hM:=hM.keep hK
              refine Zc hE rfl fun a hE=>Ze (wp_seq (Zb (Zd hE rfl fun a hE=>Zi hE rfl rfl rfl fun a hE=>Ze ?_)))
              refine Zo hE rfl ?_ ?_
              ·intro hb136
               have hF123:=Zt hF123 hb136
               refine Zb (Zc hE rfl fun a hE=>Ze ?_)
               obtain rfl:=Option.some.inj hF123
               exact wp_ret (Zv (kr1 hE rfl rfl hM.kept))
              ·intro hb136
               have hF123:=Zs hF123 hb136
               refine wp_skip (Zp (wp_seq (Zb (Zd hE rfl fun a hE=>Zd hE rfl fun a hE=>Zi hE rfl rfl rfl fun a hE=>Ze ?_))))
               refine Zo hE rfl ?_ ?_
               ·intro hb137
                have hF123:=Zt hF123 hb137
                refine Zb (Zc hE rfl fun a hE=>Ze ?_)
                obtain rfl:=Option.some.inj hF123
                exact wp_ret (Zv (kr1 hE rfl rfl hM.kept))
               ·intro hb137
                have hF123:=Zs hF123 hb137
                refine wp_skip (Zp (Zb (Zc hE rfl fun a hE=>Ze ?_)))
                obtain rfl:=Option.some.inj hF123
                exact wp_ret (kr1 hE rfl rfl hM.kept)
end

end Go.Proofs.YtpibglnacohdkaaGreat
