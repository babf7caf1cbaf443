/- The walk of what the law reaches: contracts of functions. -/
import Derived.Test.YtpibglnacohdkaaGreatC1
set_option linter.unusedVariables false
set_option linter.unusedSimpArgs false
set_option maxRecDepth 20000
set_option maxHeartbeats 400000
namespace Go.Proofs.YtpibglnacohdkaaGreat
open Go
open Flat (enc)
noncomputable section
theorem HQ (w0 : World) (p0 : (Vector UInt8 16)) (p1 : UInt8) (r : (Vector UInt8 16)) (hF : Vt p0 p1 = some r) :
  Calls Tryz.prog 158 [(Value.agg (enc p0).toArray),vB p1].toArray w0 (Rt w0 (Value.agg (enc r).toArray)):=by
 refine ce Tryz.func158 ?_
 intro a hE
 have hM:=M.start w0
 unfold Vt at hF
 refine Zb (ZT (cs:=enc p0) hE hM Za ld rfl rfl fun b1 w a hM hE=>Zz hE hM ZF fun b3 w a hM hE=>Ze (wp_seq (Zb (Zc hE rfl fun a hE=>Ze ?_))))
 obtain ⟨j5,hl6,hF7⟩:=bind_some hF
 refine ZJ (fun a w=>Env 18 a [(2,(ptr b1 0)),(4,(ptr b3 0))] ∧ M (Old w0) w0 w [raw b3 (enc (Vector.replicate 16 (0 : UInt8))),raw b1 (enc j5)]) ?_ ?_
 ·skip
  refine wp_block ?_
  refine ZC (fun (s8 : (Vector UInt8 16) × Int) a w=>Env 18 a [(1,vB p1),(2,(ptr b1 0)),(4,(ptr b3 0)),(5,vI s8.2)] ∧ M (Old w0) w0 w [raw b3 (enc (Vector.replicate 16 (0 : UInt8))),raw b1 (enc s8.1)]) hl6 ⟨hE.sub ⟨rfl,rfl,rfl,rfl,trivial⟩,hM⟩ ?_
  rintro s8 a w ⟨hE,hM⟩ o11 hs9 hx10
  unfold Uf at hs9
  refine wp_seq (Zb (Zd hE rfl fun a hE=>Zi hE rfl rfl rfl fun a hE=>Ze ?_))
  refine Zo hE rfl ?_ ?_
  ·intro hb12
   have hs9:=Zs hs9 hb12
   refine wp_skip (Zu (wp_seq (wp_block (wp_region_lit (Zd hE rfl fun a hE=>Zd hE rfl ?_))))); intro a hE
   obtain ⟨x14,hi13,hs9⟩:=bvx hs9
   refine ZD hE rfl rfl Tryz.underlying68 ty5 hi13.1 fun a hE=>Zw (v:=(vB x14)) hE rfl ty5 rfl (At.vec hM.rawAt1 hi13.2) fun a hE=>Zd hE rfl fun a hE=>Zi hE rfl rfl (Vw x14 p1) ?_; intro a hE
   obtain ⟨x17,hi16,hs9⟩:=bvx hs9
   refine ZD hE rfl rfl Tryz.underlying68 ty5 hi16.1 ?_; intro a hE
   have hM:=hM.pull1
   refine Zn (seg:=[(vB (x14 ^^^ p1))]) (cs':=enc (s8.1.setIfInBounds (s8.2).toNat (x14 ^^^ p1))) hE hM Za rfl rfl rfl ty5 rfl (ZM (v:=s8.1) (x:=x14 ^^^ p1) hi16.1) (Flat.cell (x14 ^^^ p1 : UInt8)) (ZE (v:=s8.1) (x:=x14 ^^^ p1) hi16.1) fun w a hM hE=>Zf (Z4 (Zu (wp_region_lit (Zd hE rfl fun a hE=>Zi hE rfl rfl rfl fun a hE=>Zc hE rfl fun a hE=>Zf (Zh ?_)))))
   have hM:=hM.pull1
   exact ⟨_,(ois hs9),hE.sub ⟨rfl,rfl,rfl,rfl,trivial⟩,hM⟩
  ·intro hb12
   have hs9:=Zt hs9 hb12
   refine wp_exit (Zl (Zl (Z5 ?_)))
   obtain rfl:=hx10 _ (ois hs9)
   refine Zh ?_
   exact ⟨hE.sub ⟨rfl,rfl,trivial⟩,hM⟩
 ·skip
  rintro a w ⟨hE,hM⟩
  refine Zu (Zb (Zr hE rfl ZF rfl hM.rawAt1 (Flat.len _) fun a hE=>Zn (seg:=enc j5) (cs':=enc j5) hE hM Za rfl rfl rfl ZF (Flat.len _) (zle flq) (Flat.cell _) (Zk flq) fun w a hM hE=>Ze ?_))
  obtain rfl:=Option.some.inj hF7
  have hq20 : Yt Tryz.prog _ _ (.cell 4 68) _:=ZQ hE rfl ZF rfl hM.rawAt0 (Flat.len _) rfl
  exact wp_ret (ZN hE rfl hq20 ⟨_,rfl,rfl,hM.kept⟩)
def UV (p0 : (Vector UInt8 16)) (p1 : UInt8) (s10 : (List UInt8) × Int) : Option (Fl ((List UInt8) × Int) (List UInt8)) :=
 if (decide (s10.2 < 16)) = true then ((ZH p0 s10.2).bind fun x18=>(app 1 s10.1 ([x18 ^^^ p1] : List UInt8)).bind fun l22=>some (Fl.nx ((s10.1 ++ ([x18 ^^^ p1] : List UInt8)),wr (s10.2 + 1)))) else (some (Fl.ex s10.1))
def Ws (p0 : (Vector UInt8 16)) (p1 : UInt8) : Option ((List UInt8)) :=
 (ZB (UV p0 p1) (([] : List UInt8),0)).bind fun j5=>some j5
theorem Ko (w0 : World) (p0 : (Vector UInt8 16)) (p1 : UInt8) (r : (List UInt8)) (hF : Ws p0 p1 = some r) :
  Calls Tryz.prog 191 [(Value.agg (enc p0).toArray),vB p1].toArray w0 (fun en w'=>∃ v,en = .returned v ∧ (∃ (y1 : Value),v = y1 ∧ Fr w0 w' [osl NoB (r : List UInt8) y1] ∧ Kept (Old w0) w0 w')):=by
 refine ce Tryz.func191 ?_
 intro a hE
 have hM:=M.start w0
 unfold Ws at hF
 refine Zb (ZT (cs:=enc p0) hE hM Za ld rfl rfl fun b1 w a hM hE=>Zc hE rfl fun a hE=>Ze (Zb (ZP (xs:=[]) (l:=([] : List UInt8)) (vs:=[]) hE hM Za ld rfl rfl Tryz.underlying40 ty5 rfl (by decide) rfl fun u3 w a hM hE=>Zc hE rfl fun a hE=>Ze (wp_seq (Zb (Zc hE rfl fun a hE=>Ze ?_))))))
 obtain ⟨j5,hl6,hF7⟩:=bind_some hF
 refine ZJ (fun a w=>∃ (u8 : Value),Env 21 a [(5,u8)] ∧ M (Old w0) w0 w [osl NoB (j5 : List UInt8) u8]) ?_ ?_
 ·skip
  refine wp_block ?_
  have hM:=hM.pull1
  refine ZC (fun (s10 : (List UInt8) × Int) a w=>∃ (u11 : Value),Env 21 a [(1,vB p1),(2,(ptr b1 0)),(5,u11),(6,vI s10.2)] ∧ M (Old w0) w0 w [raw b1 (enc p0),osl NoB (s10.1 : List UInt8) u11]) hl6 ⟨u3,hE.sub ⟨rfl,rfl,rfl,rfl,trivial⟩,hM⟩ ?_
  rintro s10 a w ⟨u11,hE,hM⟩ o15 hs13 hx14
  unfold UV at hs13
  refine wp_seq (Zb (Zd hE rfl fun a hE=>Zi hE rfl rfl rfl fun a hE=>Ze ?_))
  refine Zo hE rfl ?_ ?_
  ·intro hb16
   have hs13:=Zs hs13 hb16
   refine wp_skip (Zu (wp_seq (wp_block (wp_region_lit (Zd hE rfl fun a hE=>Zd hE rfl ?_))))); intro a hE
   obtain ⟨x18,hi17,hs13⟩:=bvx hs13
   refine ZD hE rfl rfl Tryz.underlying68 ty5 hi17.1 fun a hE=>Zw (v:=(vB x18)) hE rfl ty5 rfl (At.vec hM.rawAt0 hi17.2) fun a hE=>Zd hE rfl fun a hE=>Zi hE rfl rfl (Vw x18 p1) fun a hE=>ZP (xs:=[.tmp 17]) (l:=([x18 ^^^ p1] : List UInt8)) (vs:=[(vB (x18 ^^^ p1))]) hE hM Za ld rfl rfl Tryz.underlying40 ty5 rfl (by decide) rfl ?_; intro u20 w a hM hE
   obtain ⟨l22,e23,hs13⟩:=bind_some hs13
   obtain ⟨e26,rfl⟩:=ZS e23
   have hM:=hM.pull2
   refine Z0 hE hM Za ld rfl rfl (hM.sl (pre:=[_]) noB) Tryz.underlying40 ty5 rfl (by decide) e26 fun u24 w a hM hE=>Zc hE rfl fun a hE=>Zf (Z4 (Zu (wp_region_lit (Zd hE rfl fun a hE=>Zi hE rfl rfl rfl fun a hE=>Zc hE rfl fun a hE=>Zf (Zh ?_)))))
   have hM:=M.fst (l:=[_,_]) hM.pull2
   exact ⟨_,(ois hs13),u24,hE.sub ⟨rfl,rfl,rfl,rfl,trivial⟩,hM⟩
  ·intro hb16
   have hs13:=Zt hs13 hb16
   refine wp_exit (Zl (Zl (Z5 ?_)))
   obtain rfl:=hx14 _ (ois hs13)
   refine Zh ?_
   have hM:=M.fst (l:=[_]) hM.pull1
   exact ⟨u11,hE.sub ⟨rfl,trivial⟩,hM⟩
 ·skip
  rintro a w ⟨u8,hE,hM⟩
  refine Zu (Zb (Zd hE rfl fun a hE=>Zc hE rfl fun a hE=>Ze ?_))
  obtain rfl:=Option.some.inj hF7
  exact wp_ret (ZN hE rfl (ZY hE rfl) ⟨_,rfl,u8,rfl,hM.outF (Wm XZ),hM.kept⟩)
def UM (p0 : GCipher) (p1 : (Vector UInt8 16)) (p2 : (List UInt8)) : Option ((Vector UInt8 32)) :=
 (Ws p1 90).bind fun r8=>(app 1 r8 p2).bind fun l11=>(Wk p0 (r8 ++ p2)).bind fun r16=>((Ws p1 165).bind fun r26=>(Wa r16).bind fun r29=>(app 1 r26 r29).bind fun l32=>(Wk p0 (r26 ++ r29)).bind fun r37=>some r37 : Option ((Vector UInt8 32))).bind fun j22=>some j22
theorem zK (w0 : World) (p0 : GCipher) (p1 : (Vector UInt8 16)) (p2 : (List UInt8)) (v2_1 : Value) (hv2_1 : Ro w0 p2 [v2_1]) (r : (Vector UInt8 32)) (hF : UM p0 p1 p2 = some r) :
  Calls Tryz.prog 157 [(Value.agg (enc p0).toArray),(Value.agg (enc p1).toArray),v2_1].toArray w0 (Rt w0 (Value.agg (enc r).toArray)):=by
 refine ce Tryz.func157 ?_
 intro a hE
 have hM:=M.start w0
 unfold UM at hF
 refine Zb (ZT (cs:=cat [[vI p0.Field],enc p0.Box,enc p0.Mix,enc p0.Places,[vI p0.Rounds]]) hE hM Za ld rfl rfl fun b1 w a hM hE=>ZT (cs:=enc p1) hE hM Za ld rfl rfl fun b3 w a hM hE=>Zz hE hM ZR fun b5 w a hM hE=>Ze (wp_seq ?_))
 obtain ⟨r8,e9,hF⟩:=bind_some hF
 obtain ⟨l11,e12,hF⟩:=bind_some hF
 obtain ⟨r16,e17,hF⟩:=bind_some hF
 refine Xs (its:=[raw b5 (enc (Vector.replicate 32 (0 : UInt8))),raw b3 (enc p1),raw b1 (cat [[vI p0.Field],enc p0.Box,enc p0.Mix,enc p0.Places,[vI p0.Rounds]])]) (mk:=([mkN [(4,fun v=>osl NoB ((r8 ++ p2) : List UInt8) v),(2,fun v=>osl NoB (r8 : List UInt8) v)],mkO 6 (fun v=>TX v (enc (Vector.replicate 32 (0 : UInt8))))] : Mk)) [8,9,10,11,12,13,7] Yy rfl rfl (by decide) rfl hE (fun u=>M.qE (M.qE (M.q0 hM.drew u) emO) emN) (qsP (v:=(Value.agg (enc p0).toArray)) ?_ (qsP (v:=(Value.agg (enc p1).toArray)) ?_ (qsM (pr:=fun v=>True) ?_ (qsP (fun z=>Zp z.E Za ld rfl (kr0 rfl)) (qsM (pr:=fun v=>True) ?_ (qsP (v:=(Value.agg (enc r16).toArray)) ?_ (qsM (pr:=fun v=>True) ?_ qs0))))))) ?_
 ·intro a w ux7 D z
  have hE:=z.E
  have hM:=z.M
  exact Zr hE rfl VA rfl hM.rawAt2 cq fun a hE=>⟨Kept.refl _ _,_,rfl,hE⟩
 ·intro a w ux7 D z
  have hE:=z.E
  have hM:=z.M
  exact Zr hE rfl ZF rfl hM.rawAt1 (Flat.len _) fun a hE=>⟨Kept.refl _ _,_,rfl,hE⟩
 ·intro a w ux7 D z
  have hE:=z.E
  have hD : D 2 = false:=z.F
  have hM0:=z.M
  have hM:=z.M
  refine Zx hE rfl (cbm Tryz.func191) (Ko _ p1 90 r8 e9) ?_
  rintro _ w a ⟨_,rfl,hFr,hK⟩ hE
  have hM:=hM0.add hK hFr
  have hq4 : D 4 = false:=JN (j:=4) (k:=0) z.c rfl rfl rfl hD
  exact ⟨_,_,rfl,hE,M.qPut (p:=mkN [(4,fun v=>osl NoB ((r8 ++ p2) : List UInt8) v),(2,fun v=>osl NoB (r8 : List UInt8) v)]) (its:=[raw b5 (enc (Vector.replicate 32 (0 : UInt8))),raw b3 (enc p1),raw b1 (cat [[vI p0.Field],enc p0.Box,enc p0.Mix,enc p0.Places,[vI p0.Rounds]])]) (mk1:=[]) (mk2:=[_]) hM rfl (qJ (offC hq4 (offC hD offN))) (y9 (l:=[_]) (offC hq4 offN)),trivial⟩
 ·intro a w ux7 D z
  have hE:=z.E
  have hD : D 4 = false:=z.F
  have d2 : D 2 = true:=z.p 0 _ rfl rfl
  have hM:=(z.M.chnF (pre:=[_,_,_]) hD).chnT (pre:=[_,_,_]) d2
  obtain ⟨e15,rfl⟩:=ZS e12
  have hM:=hM.pull3
  exact Z0 hE hM Za ld rfl rfl (hM.rd hv2_1) Tryz.underlying40 ty5 rfl (by decide) e15 fun u13 w a hM hE=>⟨_,_,rfl,hE,M.qTogS (p:=mkN [(4,fun v=>osl NoB ((r8 ++ p2) : List UInt8) v),(2,fun v=>osl NoB (r8 : List UInt8) v)]) (its:=[raw b5 (enc (Vector.replicate 32 (0 : UInt8))),raw b3 (enc p1),raw b1 (cat [[vI p0.Field],enc p0.Box,enc p0.Mix,enc p0.Places,[vI p0.Rounds]])]) (mk1:=[]) (mk2:=[_]) hM rfl (y9 (l:=[]) offN),trivial⟩
 ·intro a w ux7 D z
  have hE:=z.E
  have d4 : D 4 = true:=z.p 1 _ rfl rfl
  have hM:=z.M.chnT (pre:=[_,_,_]) d4
  refine Zx hE rfl qj (QL _ p0 (r8 ++ p2) (ux7 4) (hM.sl (pre:=[_,_,_]) noB) r16 e17) ?_
  rintro v w a ⟨rfl,hK⟩ hE
  exact ⟨hK,_,rfl,hE⟩
 ·intro a w ux7 D z
  have hE:=z.E
  have hD : D 6 = false:=z.F
  have hM:=z.M
  refine Zz hE hM ZR ?_; intro b18 w a hM hE
  have hM:=hM.pack1 (it:=TX _ (enc (Vector.replicate 32 (0 : UInt8)))) (fun w w' fp ⟨b',e,k⟩ hb=>⟨b',e,Xf w w' fp k hb⟩) (fun fp k=>⟨_,rfl,k⟩)
  exact ⟨_,_,rfl,hE,M.qFill (mk1:=[_]) (mk2:=[]) (f:=fun v=>TX v (enc (Vector.replicate 32 (0 : UInt8)))) hM rfl hD,trivial⟩
 ·intro a w ux7 D hE hM hG hall
  have d4:=hall 4 (by decide)
  have d6:=hall 6 (by decide)
  have hM:=((hM.chnT (pre:=[_,_,_]) d4).sure (pre:=[_,_,_,_]) d6).pull
  obtain ⟨_,⟨b20,f21,_⟩,_⟩:=hM.head
  have hM:=hM.pack1 Xf (it:=raw b20 (enc (Vector.replicate 32 (0 : UInt8)))) (fun fp ⟨b2,e2,k2⟩=>by rw [f21] at e2; simp [ptr] at e2; subst e2; exact k2)
  have hE:=hE.setq (t:=7) rfl f21
  refine Zn (seg:=enc r16) (cs':=enc r16) hE hM Za rfl rfl rfl ZR (Flat.len _) (zle flq) (Flat.cell _) (Zk flq) fun w a hM hE=>Zf (Zu ?_)
  obtain ⟨j22,hl23,hF24⟩:=bind_some hF
  refine ZI (fun a w=>Env 21 a [(6,(ptr b5 0))] ∧ M (Old w0) w0 w [raw b5 (enc j22)]) ?_ ?_
  ·skip
   obtain ⟨r26,e27,hl23⟩:=bind_some hl23
   obtain ⟨r29,e30,hl23⟩:=bind_some hl23
   obtain ⟨l32,e33,hl23⟩:=bind_some hl23
   refine Xs (its:=[raw b20 (enc r16),raw b5 (enc (Vector.replicate 32 (0 : UInt8))),raw b3 (enc p1),raw b1 (cat [[vI p0.Field],enc p0.Box,enc p0.Mix,enc p0.Places,[vI p0.Rounds]]),osl NoB ((r8 ++ p2) : List UInt8) (ux7 4)]) (mk:=([mkN [(5,fun v=>osl NoB ((r26 ++ r29) : List UInt8) v),(2,fun v=>osl NoB (r26 : List UInt8) v)],mkO 4 (fun v=>osl NoB (r29 : List UInt8) v)] : Mk)) [14,15,16,17,18,19] Yy rfl rfl (by decide) rfl hE (fun u=>M.qE (M.qE (M.q0 hM.drew u) emO) emN) (qsP (v:=(Value.agg (enc p0).toArray)) ?_ (qsP (v:=(Value.agg (enc p1).toArray)) ?_ (qsM (pr:=fun v=>True) ?_ (qsP (v:=(Value.agg (enc r16).toArray)) ?_ (qsM (pr:=fun v=>True) ?_ (qsM (pr:=fun v=>True) ?_ qs0)))))) ?_
   ·intro a w ux25 D z
    have hE:=z.E
    have hM:=z.M
    exact Zr hE rfl VA rfl hM.rawAt3 cq fun a hE=>⟨Kept.refl _ _,_,rfl,hE⟩
   ·intro a w ux25 D z
    have hE:=z.E
    have hM:=z.M
    exact Zr hE rfl ZF rfl hM.rawAt2 (Flat.len _) fun a hE=>⟨Kept.refl _ _,_,rfl,hE⟩
   ·intro a w ux25 D z
    have hE:=z.E
    have hD : D 2 = false:=z.F
    have hM0:=z.M
    have hM:=z.M
    refine Zx hE rfl (cbm Tryz.func191) (Ko _ p1 165 r26 e27) ?_
    rintro _ w a ⟨_,rfl,hFr,hK⟩ hE
    have hM:=hM0.add hK hFr
    have hq5 : D 5 = false:=JN (j:=5) (k:=0) z.c rfl rfl rfl hD
    exact ⟨_,_,rfl,hE,M.qPut (p:=mkN [(5,fun v=>osl NoB ((r26 ++ r29) : List UInt8) v),(2,fun v=>osl NoB (r26 : List UInt8) v)]) (its:=[raw b20 (enc r16),raw b5 (enc (Vector.replicate 32 (0 : UInt8))),raw b3 (enc p1),raw b1 (cat [[vI p0.Field],enc p0.Box,enc p0.Mix,enc p0.Places,[vI p0.Rounds]]),osl NoB ((r8 ++ p2) : List UInt8) (ux7 4)]) (mk1:=[]) (mk2:=[_]) hM rfl (qJ (offC hq5 (offC hD offN))) (y9 (l:=[_]) (offC hq5 offN)),trivial⟩
   ·intro a w ux25 D z
    have hE:=z.E
    have hM:=z.M
    exact Zr hE rfl ZR rfl hM.rawAt0 (Flat.len _) fun a hE=>⟨Kept.refl _ _,_,rfl,hE⟩
   ·intro a w ux25 D z
    have hE:=z.E
    have hD : D 4 = false:=z.F
    have hM0:=z.M
    have hM:=z.M
    refine Zx hE rfl Zb6 (Qz _ r16 r29 e30) ?_
    rintro _ w a ⟨_,rfl,hFr,hK⟩ hE
    have hM:=hM0.add hK hFr
    exact ⟨_,_,rfl,hE,M.qFill (mk1:=[_]) (mk2:=[]) (f:=(fun v=>osl NoB (r29 : List UInt8) v)) hM rfl hD,trivial⟩
   ·intro a w ux25 D z
    have hE:=z.E
    have hD : D 5 = false:=z.F
    have d2 : D 2 = true:=z.p 0 _ rfl rfl
    have d4 : D 4 = true:=z.p 1 _ rfl rfl
    have hM:=((z.M.chnF (pre:=[_,_,_,_,_]) hD).chnT (pre:=[_,_,_,_,_]) d2).sure (pre:=[_,_,_,_,_,_]) d4
    obtain ⟨e36,rfl⟩:=ZS e33
    have hM:=hM.pull5
    refine Z0 hE hM Za ld rfl rfl (hM.sl (pre:=[_,_,_,_,_,_]) noB) Tryz.underlying40 ty5 rfl (by decide) e36 ?_; intro u34 w a hM hE
    have hM:=hM.unsure (pre:=[_,_,_,_,_,_]) d4
    exact ⟨_,_,rfl,hE,M.qTogS (p:=mkN [(5,fun v=>osl NoB ((r26 ++ r29) : List UInt8) v),(2,fun v=>osl NoB (r26 : List UInt8) v)]) (its:=[raw b20 (enc r16),raw b5 (enc (Vector.replicate 32 (0 : UInt8))),raw b3 (enc p1),raw b1 (cat [[vI p0.Field],enc p0.Box,enc p0.Mix,enc p0.Places,[vI p0.Rounds]]),osl NoB ((r8 ++ p2) : List UInt8) (ux7 4)]) (mk1:=[]) (mk2:=[_]) hM rfl (y9 (l:=[]) offN),trivial⟩
   ·intro a w ux25 D hE hM hG hall
    have d4:=hall 4 (by decide)
    have d5:=hall 5 (by decide)
    have hM:=(hM.chnT (pre:=[_,_,_,_,_]) d5).sure (pre:=[_,_,_,_,_,_]) d4
    obtain ⟨r37,e38,hl23⟩:=bind_some hl23
    refine Zx hE rfl qj (QL _ p0 (r26 ++ r29) (ux25 5) (hM.sl (pre:=[_,_,_,_,_]) noB) r37 e38) ?_
    rintro v w a ⟨rfl,hK⟩ hE
    have hM:=(hM.keep hK).pull1
    refine Zn (seg:=enc r37) (cs':=enc r37) hE hM Za rfl rfl rfl ZR (Flat.len _) (zle flq) (Flat.cell _) (Zk flq) fun w a hM hE=>Zf ?_
    obtain rfl:=Option.some.inj hl23
    refine Zh ?_
    have hM:=M.fst (l:=[_]) hM
    exact ⟨hE.sub ⟨rfl,trivial⟩,hM⟩
  ·skip
   rintro a w ⟨hE,hM⟩
   obtain rfl:=Option.some.inj hF24
   have hq40 : Yt Tryz.prog _ _ (.cell 6 35) _:=ZQ hE rfl ZR rfl hM.rawAt0 (Flat.len _) rfl
   exact wp_ret (ZN hE rfl hq40 ⟨_,rfl,rfl,hM.kept⟩)
def TC (p0 : GVault) (p1 : GRecord) : Option ((Vector UInt8 32)) :=
 ((V0 p1.Number).bind fun r13=>(app 1 r13 ([Zv p1.Version] : List UInt8)).bind fun l18=>some (r13 ++ ([Zv p1.Version] : List UInt8)) : Option ((List UInt8))).bind fun j7=>(VQ ([p1.Nonce] : List (Vector UInt8 16))).bind fun r26=>(app 1 j7 r26).bind fun l29=>(app 1 (j7 ++ r26) ([Zv (p1.Label.length : Int)] : List UInt8)).bind fun l36=>(app 1 ((j7 ++ r26) ++ ([Zv (p1.Label.length : Int)] : List UInt8)) p1.Label).bind fun l41=>(app 1 (((j7 ++ r26) ++ ([Zv (p1.Label.length : Int)] : List UInt8)) ++ p1.Label) p1.Body).bind fun l46=>((Xz).bind fun r55=>(idx p0.Keys p1.Version).bind fun x57=>(Vt x57 129).bind fun r60=>(UM r55 r60 ((((j7 ++ r26) ++ ([Zv (p1.Label.length : Int)] : List UInt8)) ++ p1.Label) ++ p1.Body)).bind fun r62=>some r62 : Option ((Vector UInt8 32))).bind fun j51=>some j51
theorem zR (w0 : World) (p0 : GVault) (v0_1 : Value) (hv0_1 : Ro w0 p0.Keys [v0_1]) (v0_2 : Value) (hv0_2 : Ro w0 p0.Records [v0_2]) (v0_3 : Value) (hv0_3 : Ro w0 p0.Events [v0_3]) (p1 : GRecord) (v1_1 : Value) (hv1_1 : Ro w0 p1.Label [v1_1]) (v1_2 : Value) (hv1_2 : Ro w0 p1.Body [v1_2]) (r : (Vector UInt8 32)) (hF : TC p0 p1 = some r) :
  Calls Tryz.prog 102 [(Value.agg (cat [[v0_1],[vI p0.Next],[v0_2],[v0_3],enc p0.Head]).toArray),(Value.agg (cat [[vI p1.Number],[vI p1.Version],enc p1.Nonce,[v1_1],[v1_2],enc p1.Tag]).toArray)].toArray w0 (Rt w0 (Value.agg (enc r).toArray)):=by
 refine ce Tryz.func102 ?_
 intro a hE
 have hM:=M.start w0
 unfold TC at hF
 refine Zb (ZT (cs:=cat [[v0_1],[vI p0.Next],[v0_2],[v0_3],enc p0.Head]) hE hM Za ld rfl rfl fun b1 w a hM hE=>ZT (cs:=cat [[vI p1.Number],[vI p1.Version],enc p1.Nonce,[v1_1],[v1_2],enc p1.Tag]) hE hM Za ld rfl rfl fun b3 w a hM hE=>Zz hE hM ZR fun b5 w a hM hE=>Ze ?_)
 obtain ⟨j7,hl8,hF9⟩:=bind_some hF
 refine ZI (fun a w=>∃ (u10 : Value),Env 45 a [(2,(ptr b1 0)),(3,(ptr b3 0)),(4,(ptr b5 0)),(5,u10)] ∧ M (Old w0) w0 w [raw b5 (enc (Vector.replicate 32 (0 : UInt8))),raw b3 (cat [[vI p1.Number],[vI p1.Version],enc p1.Nonce,[v1_1],[v1_2],enc p1.Tag]),raw b1 (cat [[v0_1],[vI p0.Next],[v0_2],[v0_3],enc p0.Head]),osl NoB (j7 : List UInt8) u10]) ?_ ?_
 ·skip
  obtain ⟨r13,e14,hl8⟩:=bind_some hl8
  refine Xs (its:=[raw b5 (enc (Vector.replicate 32 (0 : UInt8))),raw b3 (cat [[vI p1.Number],[vI p1.Version],enc p1.Nonce,[v1_1],[v1_2],enc p1.Tag]),raw b1 (cat [[v0_1],[vI p0.Next],[v0_2],[v0_3],enc p0.Head])]) (mk:=([mkO 2 (fun v=>osl NoB (r13 : List UInt8) v),mkO 6 (fun v=>osl NoB (([Zv p1.Version] : List UInt8) : List UInt8) v)] : Mk)) [6,7,8,9,10,11,12] Yy rfl rfl (by decide) rfl hE (fun u=>M.qE (M.qE (M.q0 hM.drew u) emO) emO) (qsP (fun z=>Zq z.E Za ld rfl (XX) (kr0 rfl)) (qsP (v:=(vI p1.Number)) ?_ (qsM (pr:=fun v=>True) ?_ (qsP (fun z=>Zq z.E Za ld rfl (TR) (kr0 rfl)) (qsP (v:=(vI p1.Version)) ?_ (qsP (fun z=>Yj z.E Za ld rfl Tryz.underlying2 Tryz.underlying5 (kr0 rfl)) (qsM (pr:=fun v=>True) ?_ qs0))))))) ?_
  ·intro a w ux12 D z
   have hE:=z.E
   have hM:=z.M
   exact Zw (v:=(vI p1.Number)) hE rfl ty2 rfl (At.cat (pre:=[]) hM.rawAt1 cl0) fun a hE=>⟨Kept.refl _ _,_,rfl,hE⟩
  ·intro a w ux12 D z
   have hE:=z.E
   have hD : D 2 = false:=z.F
   have hM0:=z.M
   have hM:=z.M
   refine Zx hE rfl (cbm Tryz.func155) (K5 _ p1.Number r13 e14) ?_
   rintro _ w a ⟨_,rfl,hFr,hK⟩ hE
   have hM:=hM0.add hK hFr
   exact ⟨_,_,rfl,hE,M.qFill (mk1:=[]) (mk2:=[_]) (f:=(fun v=>osl NoB (r13 : List UInt8) v)) hM rfl hD,trivial⟩
  ·intro a w ux12 D z
   have hE:=z.E
   have hM:=z.M
   exact Zw (v:=(vI p1.Version)) hE rfl ty2 rfl (At.cat (pre:=[[vI p1.Number]]) hM.rawAt1 ck) fun a hE=>⟨Kept.refl _ _,_,rfl,hE⟩
  ·intro a w ux12 D z
   have hE:=z.E
   have hD : D 6 = false:=z.F
   have hM:=z.M
   exact ZP (xs:=[.tmp 11]) (l:=([Zv p1.Version] : List UInt8)) (vs:=[(vB (Zv p1.Version))]) hE hM Za ld rfl rfl Tryz.underlying40 ty5 rfl (by decide) rfl fun u16 w a hM hE=>⟨_,_,rfl,hE,M.qFill (mk1:=[_]) (mk2:=[]) (f:=(fun v=>osl NoB (([Zv p1.Version] : List UInt8) : List UInt8) v)) hM rfl hD,trivial⟩
  ·intro a w ux12 D hE hM hG hall
   have d2:=hall 2 (by decide)
   have d6:=hall 6 (by decide)
   have hM:=(hM.sure (pre:=[_,_,_]) d2).sure (pre:=[_,_,_,_]) d6
   obtain ⟨l18,e19,hl8⟩:=bind_some hl8
   obtain ⟨e22,rfl⟩:=ZS e19
   have hM:=hM.pull3
   refine Z0 hE hM Za ld rfl rfl (hM.sl (pre:=[_,_,_,_]) noB) Tryz.underlying40 ty5 rfl (by decide) e22 fun u20 w a hM hE=>Zc hE rfl fun a hE=>Zf ?_
   obtain rfl:=Option.some.inj hl8
   refine Zh ?_
   have hM:=M.fst (l:=[_,_,_,_]) hM.pull3.pull3.pull3
   exact ⟨u20,hE.sub ⟨rfl,rfl,rfl,rfl,trivial⟩,hM⟩
 ·skip
  rintro a w ⟨u10,hE,hM⟩
  refine Zb (Zd hE rfl fun a hE=>Zg hE rfl (Jk) fun a hE=>Zr hE rfl ZF rfl (At.cat (pre:=[[vI p1.Number],[vI p1.Version]]) hM.rawAt1 ck) (Flat.len _) fun a hE=>ZP (xs:=[.tmp 16]) (l:=([p1.Nonce] : List (Vector UInt8 16))) (vs:=[(Value.agg (enc p1.Nonce).toArray)]) hE hM Za ld rfl rfl Tryz.underlying54 ZF rfl (by decide) rfl ?_); intro u24 w a hM hE
  obtain ⟨r26,e27,hF9⟩:=bind_some hF9
  refine Zx hE rfl (cbm Tryz.func156) (AP _ ([p1.Nonce] : List (Vector UInt8 16)) u24 (hM.sl (pre:=[]) noB) r26 e27) ?_
  rintro u28 w a ⟨_,rfl,hFr,hK⟩ hE
  have hM:=hM.add hK hFr
  obtain ⟨l29,e30,hF9⟩:=bind_some hF9
  obtain ⟨e33,rfl⟩:=ZS e30
  have hM:=hM.pull5
  refine Z0 hE hM Za ld rfl rfl (hM.sl (pre:=[_]) noB) Tryz.underlying40 ty5 rfl (by decide) e33 fun u31 w a hM hE=>Zc hE rfl fun a hE=>Ze (Zb (Zd hE rfl fun a hE=>Zg hE rfl (Qc) fun a hE=>Zw (v:=v1_1) hE rfl UP rfl (At.cat (pre:=[[vI p1.Number],[vI p1.Version],enc p1.Nonce]) hM.rawAt4 ck) fun a hE=>Z2 hE rfl Tryz.underlying40 (hM.rd hv1_1) fun a hE=>Yj hE Za ld rfl Tryz.underlying3 Tryz.underlying5 fun a hE=>ZP (xs:=[.tmp 24]) (l:=([Zv (p1.Label.length : Int)] : List UInt8)) (vs:=[(vB (Zv (p1.Label.length : Int)))]) hE hM Za ld rfl rfl Tryz.underlying40 ty5 rfl (by decide) rfl ?_)); intro u34 w a hM hE
  obtain ⟨l36,e37,hF9⟩:=bind_some hF9
  obtain ⟨e40,rfl⟩:=ZS e37
  have hM:=hM.pull1
  refine Z0 hE hM Za ld rfl rfl (hM.sl (pre:=[_]) noB) Tryz.underlying40 ty5 rfl (by decide) e40 fun u38 w a hM hE=>Zc hE rfl fun a hE=>Ze (Zb (Zd hE rfl fun a hE=>Zg hE rfl (Qc) fun a hE=>Zw (v:=v1_1) hE rfl UP rfl (At.cat (pre:=[[vI p1.Number],[vI p1.Version],enc p1.Nonce]) hM.rawAt5 ck) ?_)); intro a hE
  obtain ⟨l41,e42,hF9⟩:=bind_some hF9
  obtain ⟨e45,rfl⟩:=ZS e42
  refine Z0 hE hM Za ld rfl rfl (hM.rd hv1_1) Tryz.underlying40 ty5 rfl (by decide) e45 fun u43 w a hM hE=>Zc hE rfl fun a hE=>Ze (Zb (Zd hE rfl fun a hE=>Zg hE rfl (Kc) fun a hE=>Zw (v:=v1_2) hE rfl UP rfl (At.cat (pre:=[[vI p1.Number],[vI p1.Version],enc p1.Nonce,[v1_1]]) hM.rawAt5 ck) ?_)); intro a hE
  obtain ⟨l46,e47,hF9⟩:=bind_some hF9
  obtain ⟨e50,rfl⟩:=ZS e47
  refine Z0 hE hM Za ld rfl rfl (hM.rd hv1_2) Tryz.underlying40 ty5 rfl (by decide) e50 fun u48 w a hM hE=>Zc hE rfl fun a hE=>Ze ?_
  obtain ⟨j51,hl52,hF53⟩:=bind_some hF9
  refine ZI (fun a w=>Env 45 a [(4,(ptr b5 0))] ∧ M (Old w0) w0 w [raw b5 (enc j51)]) ?_ ?_
  ·skip
   obtain ⟨r55,e56,hl52⟩:=bind_some hl52
   obtain ⟨x57,hi59,hl52⟩:=bix hl52
   obtain ⟨r60,e61,hl52⟩:=bind_some hl52
   obtain ⟨r62,e63,hl52⟩:=bind_some hl52
   refine ZX [35,36,37,38,39,40,41,42,43,44] Yy rfl rfl (by decide) rfl hE hM (qsP (fun z=>ZV z.E Za ld rfl Zc0 (Qm _  r55 e56) (kc rfl)) (qsP (fun z=>Zq z.E Za ld rfl (Qj) (kr0 rfl)) (qsP (fun z=>ZK (v:=v0_1) z.E Za ld rfl HV rfl (At.cat (pre:=[]) (z.M.rawAt6) cl0) (kr0 rfl)) (qsP (fun z=>Zq z.E Za ld rfl (TR) (kr0 rfl)) (qsP (fun z=>ZK (v:=(vI p1.Version)) z.E Za ld rfl ty2 rfl (At.cat (pre:=[[vI p1.Number]]) (z.M.rawAt5) ck) (kr0 rfl)) (qsP (fun z=>Yl z.E Za ld rfl rfl Tryz.underlying54 ZF (z.M.rd hv0_1) hi59.1 (kr0 rfl)) (qsP (fun z=>Z1 z.E Za ld rfl ZF rfl (Yp (z.M.rd hv0_1) hi59.2) (Flat.len _) (kr0 rfl)) (qsP (fun z=>ZV z.E Za ld rfl (cbm Tryz.func158) (HQ _ x57 129 r60 e61) (kc rfl)) (qsP (fun z=>Zp z.E Za ld rfl (kr0 rfl)) (qsP (fun z=>ZV z.E Za ld rfl (cbm Tryz.func157) (zK _ r55 r60 ((((j7 ++ r26) ++ ([Zv (p1.Label.length : Int)] : List UInt8)) ++ p1.Label) ++ p1.Body) u48 (z.M.sl (pre:=[]) noB) r62 e63) (kc rfl)) qs0)))))))))) ?_
   ·intro a w u hE hM
    have hM:=hM.pull4
    refine Zn (seg:=enc r62) (cs':=enc r62) hE hM Za rfl rfl rfl ZR (Flat.len _) (zle flq) (Flat.cell _) (Zk flq) fun w a hM hE=>Zf ?_
    obtain rfl:=Option.some.inj hl52
    refine Zh ?_
    have hM:=M.fst (l:=[_]) hM
    exact ⟨hE.sub ⟨rfl,trivial⟩,hM⟩
  ·skip
   rintro a w ⟨hE,hM⟩
   obtain rfl:=Option.some.inj hF53
   have hq65 : Yt Tryz.prog _ _ (.cell 4 35) _:=ZQ hE rfl ZR rfl hM.rawAt0 (Flat.len _) rfl
   exact wp_ret (ZN hE rfl hq65 ⟨_,rfl,rfl,hM.kept⟩)
def VS (p0 : GVault) (r34 : (List Int)) (s42 : (List (List Int)) × Int) : Option (Fl ((List (List Int)) × Int) (List (List Int))) :=
 if (decide (s42.2 < (r34.length : Int))) = true then (((idx r34 s42.2).bind fun x55=>(T6 p0.Events x55).bind fun r58=>((idx r34 s42.2).bind fun x70=>(Uo p0 x70).bind fun r73=>some r73 : Option (Int)).bind fun j66=>(if (r58.2 != (decide (j66 ≥ 0))) = true then (some true) else (if r58.2 = true then ((idx p0.Records j66).bind fun x83=>some (!decide (x83.Tag = r58.1))) else (some false)) : Option (Bool)).bind fun j76=>(if j76 = true then ((idx r34 s42.2).bind fun x101=>(app 24 s42.1 ([([2,x101] : List Int)] : List (List Int))).bind fun l109=>some (s42.1 ++ ([([2,x101] : List Int)] : List (List Int)))) else (some s42.1) : Option ((List (List Int)))).bind fun j95=>some j95 : Option ((List (List Int)))).bind fun j49=>some (Fl.nx (j49,wr (s42.2 + 1)))) else (some (Fl.ex s42.1))
def Wu (p0 : GVault) (s123 : Int × (List (List Int))) : Option (Fl (Int × (List (List Int))) (List (List Int))) :=
 if (decide (s123.1 < (p0.Records.length : Int))) = true then ((((idx p0.Records s123.1).bind fun x139=>(TC p0 x139).bind fun r149=>(idx p0.Records s123.1).bind fun x151=>some (!decide (r149 = x151.Tag)) : Option (Bool)).bind fun j135=>(if j135 = true then ((idx p0.Records s123.1).bind fun x168=>(app 24 s123.2 ([([3,x168.Number] : List Int)] : List (List Int))).bind fun l183=>some (s123.2 ++ ([([3,x168.Number] : List Int)] : List (List Int)))) else (some s123.2) : Option ((List (List Int)))).bind fun j162=>some j162 : Option ((List (List Int)))).bind fun j130=>some (Fl.nx (wr (s123.1 + 1),j130))) else (some (Fl.ex s123.2))
def Up (p0 : GVault) : Option ((List (List Int)) × Int) :=
 (Qd p0).bind fun r3=>if (!r3) = true then (some ([],1)) else ((((Te p0.Events).bind fun r18=>some (!decide (r18 = p0.Head)) : Option (Bool)).bind fun j14=>if j14 = true then ((app 24 ([] : List (List Int)) ([([1] : List Int)] : List (List Int))).bind fun l27=>some (([] : List (List Int)) ++ ([([1] : List Int)] : List (List Int)))) else (some ([] : List (List Int))) : Option ((List (List Int)))).bind fun j9=>(Ve p0).bind fun r34=>(ZB (VS p0 r34) (j9,0)).bind fun j37=>(ZB (Wu p0) (0,j37)).bind fun j118=>some (j118,0))
theorem BQ (w0 : World) (p0 : GVault) (v0_1 : Value) (hv0_1 : Ro w0 p0.Keys [v0_1]) (v0_2 : Value) (hv0_2 : Ro w0 p0.Records [v0_2]) (v0_3 : Value) (hv0_3 : Ro w0 p0.Events [v0_3]) (r : (List (List Int)) × Int) (hF : Up p0 = some r) :
  Calls Tryz.prog 35 [(Value.agg (cat [[v0_1],[vI p0.Next],[v0_2],[v0_3],enc p0.Head]).toArray)].toArray w0 (fun en w'=>∃ v,en = .returned v ∧ (∃ (y1 : Value),v = (Value.tuple [y1,vI r.2].toArray) ∧ Fr w0 w' [osl NoB (r.1 : List (List Int)) y1] ∧ Kept (Old w0) w0 w')):=by
 refine ce Tryz.func35 ?_
 intro a hE
 have hM:=M.start w0
 unfold Up at hF
 refine Zb (ZT (cs:=cat [[v0_1],[vI p0.Next],[v0_2],[v0_3],enc p0.Head]) hE hM Za ld rfl rfl fun b1 w a hM hE=>Zc hE rfl fun a hE=>Zc hE rfl fun a hE=>Ze (wp_seq (Zb (Zr hE rfl Ke rfl hM.rawAt0 cq ?_)))); intro a hE
 obtain ⟨r3,e4,hF⟩:=bind_some hF
 refine Zx hE rfl (cbm Tryz.func79) (y8 _ p0 v0_1 (hM.rdo hv0_1) v0_2 (hM.rdo hv0_2) v0_3 (hM.rdo hv0_3) r3 e4) ?_
 rintro v w a ⟨rfl,hK⟩ hE
 have hM:=hM.keep hK
 refine Qa hE rfl fun a hE=>Ze ?_
 refine Zo hE rfl ?_ ?_
 ·intro hb5
  have hF:=Zs hF hb5
  refine Zb (Zc hE rfl fun a hE=>Zc hE rfl fun a hE=>Ze ?_)
  have hM:=M.nilS (α:=(List Int)) NoB noB hM
  obtain rfl:=Option.some.inj hF
  have hM:=M.fst (l:=[_]) hM
  exact wp_ret (ZA (Ja hE rfl (ZY hE rfl) (ZY hE rfl) ⟨_,rfl,(Value.slice none 0 0),rfl,hM.outF (Wm XZ),hM.kept⟩))
 ·intro hb5
  have hF:=Zt hF hb5
  refine wp_skip (Zu (Zb (Am (xs:=[]) (S:=NoB) (l:=([] : List (List Int))) (vs:=[]) hE hM.emp noB Za ld rfl rfl rfl Tryz.underlying73 Q5 rfl (by decide) (fun _ h=>⟨rfl,h⟩) (fun _ h=>by cases h) fun u7 w a hM hE=>Zc hE rfl fun a hE=>Ze ?_)))
  obtain ⟨j9,hl10,hF11⟩:=bind_some hF
  refine ZI (fun a w=>∃ (u12 : Value),Env 106 a [(1,(ptr b1 0)),(4,u12)] ∧ M (Old w0) w0 w [raw b1 (cat [[v0_1],[vI p0.Next],[v0_2],[v0_3],enc p0.Head]),osl NoB (j9 : List (List Int)) u12]) ?_ ?_
  ·skip
   obtain ⟨j14,hl15,hF16⟩:=bind_some hl10
   refine ZI (fun a w=>Env 106 a [(1,(ptr b1 0)),(4,u7),(20,vT j14)] ∧ M (Old w0) w0 w [osl NoB (([] : List (List Int)) : List (List Int)) u7,raw b1 (cat [[v0_1],[vI p0.Next],[v0_2],[v0_3],enc p0.Head])]) ?_ ?_
   ·skip
    obtain ⟨r18,e19,hl15⟩:=bind_some hl15
    refine ZX [15,16,17,18,19,20] Yy rfl rfl (by decide) rfl hE hM (qsP (fun z=>Zq z.E Za ld rfl (TZ) (kr0 rfl)) (qsP (fun z=>ZK (v:=v0_3) z.E Za ld rfl Jv rfl (At.cat (pre:=[[v0_1],[vI p0.Next],[v0_2]]) (z.M.rawAt1) ck) (kr0 rfl)) (qsP (fun z=>ZV z.E Za ld rfl (cbm Tryz.func110) (A9 _ p0.Events v0_3 (z.M.rdo hv0_3) r18 e19) (kc rfl)) (qsP (fun z=>Zq z.E Za ld rfl (zk) (kr0 rfl)) (qsP (fun z=>Z1 z.E Za ld rfl ZR rfl (At.cat (pre:=[[v0_1],[vI p0.Next],[v0_2],[v0_3]]) (z.M.rawAt1) ck) (Flat.len _) (kr0 rfl)) (qsP (fun z=>yb z.E Za ld rfl rfl (Kr Tryz.underlying35 ty5 rfl false rfl (by decide) (QQ Tryz.underlying5)) (by decide) (by kernel_rfl) (kr0 rfl)) qs0)))))) ?_
    ·intro a w u hE hM
     refine Zf ?_
     obtain rfl:=Option.some.inj hl15
     refine Zh ?_
     exact ⟨hE.sub ⟨rfl,rfl,rfl,trivial⟩,hM⟩
   ·skip
    rintro a w ⟨hE,hM⟩
    refine Zo hE rfl ?_ ?_
    ·intro hb21
     have hF16:=Zs hF16 hb21
     refine wp_region_lit (Zd hE rfl fun a hE=>ZP (xs:=[.const (vI 1)]) (l:=([1] : List Int)) (vs:=[vI 1]) hE hM Za ld rfl rfl Tryz.underlying24 ty2 rfl (by decide) rfl ?_); intro u22 w a hM hE
     have hc26:=Ym (hM.sl (pre:=[]) noB)
     have hM:=hM.pack1 (it:=own NoB ([1] : List Int) ([u22])) (YR noB) (fun f0 q0=>(Xq.sat q0))
     refine Kk (xs:=[.tmp 22]) (seg:=[u22]) hE hM noB Za ld rfl hc26 Tryz.underlying73 Q5 rfl (by decide) ?_; intro u24 w a hM hE
     obtain ⟨l27,e28,hF16⟩:=bind_some hF16
     obtain ⟨e31,rfl⟩:=ZS e28
     have hM:=hM.pull1
     refine QU hE hM noB Za ld rfl rfl Tryz.underlying73 Q5 rfl (by decide) e31 fun u29 w a hM hE=>Zc hE rfl fun a hE=>Zf ?_
     obtain rfl:=Option.some.inj hF16
     refine Zh ?_
     have hM:=hM.pull1
     exact ⟨u29,hE.sub ⟨rfl,rfl,trivial⟩,hM⟩
    ·intro hb21
     have hF16:=Zt hF16 hb21
     refine wp_skip ?_
     obtain rfl:=Option.some.inj hF16
     refine Zh ?_
     have hM:=hM.pull1
     exact ⟨u7,hE.sub ⟨rfl,rfl,trivial⟩,hM⟩
  ·skip
   rintro a w ⟨u12,hE,hM⟩
   refine Zb (Zr hE rfl Ke rfl hM.rawAt0 cq ?_); intro a hE
   obtain ⟨r34,e35,hF11⟩:=bind_some hF11
   refine Zx hE rfl (cbm Tryz.func111) (Hm _ p0 v0_1 (hM.rdo hv0_1) v0_2 (hM.rdo hv0_2) v0_3 (hM.rdo hv0_3) r34 e35) ?_
   rintro u36 w a ⟨_,rfl,hFr,hK⟩ hE
   have hM:=hM.add hK hFr
   refine Zc hE rfl fun a hE=>Ze (wp_seq (Zb (Zc hE rfl fun a hE=>Ze ?_)))
   obtain ⟨j37,hl38,hF39⟩:=bind_some hF11
   refine ZJ (fun a w=>∃ (u40 : Value),Env 106 a [(1,(ptr b1 0)),(4,u40)] ∧ M (Old w0) w0 w [raw b1 (cat [[v0_1],[vI p0.Next],[v0_2],[v0_3],enc p0.Head]),osl NoB (j37 : List (List Int)) u40]) ?_ ?_
   ·skip
    refine wp_block ?_
    refine ZC (fun (s42 : (List (List Int)) × Int) a w=>∃ (u43 : Value),Env 106 a [(1,(ptr b1 0)),(4,u43),(5,u36),(6,vI s42.2)] ∧ M (Old w0) w0 w [osl NoB (r34 : List Int) u36,raw b1 (cat [[v0_1],[vI p0.Next],[v0_2],[v0_3],enc p0.Head]),osl NoB (s42.1 : List (List Int)) u43]) hl38 ⟨u12,hE.sub ⟨rfl,rfl,rfl,rfl,trivial⟩,hM⟩ ?_
    rintro s42 a w ⟨u43,hE,hM⟩ o47 hs45 hx46
    unfold VS at hs45
    refine wp_seq (Zb (Zd hE rfl fun a hE=>Zd hE rfl fun a hE=>Z2 hE rfl Tryz.underlying24 (hM.sl (pre:=[]) noB) fun a hE=>Zi hE rfl rfl rfl fun a hE=>Ze ?_))
    refine Zo hE rfl ?_ ?_
    ·intro hb48
     have hs45:=Zs hs45 hb48
     refine wp_skip (Zu ?_)
     obtain ⟨j49,hl50,hF51⟩:=bind_some hs45
     refine ZI (fun a w=>∃ (u52 : Value),Env 106 a [(1,(ptr b1 0)),(4,u52),(5,u36),(6,vI s42.2)] ∧ M (Old w0) w0 w [osl NoB (r34 : List Int) u36,raw b1 (cat [[v0_1],[vI p0.Next],[v0_2],[v0_3],enc p0.Head]),osl NoB (j49 : List (List Int)) u52]) ?_ ?_
     ·skip
      refine wp_block (wp_seq ?_)
      obtain ⟨x55,hi57,hl50⟩:=bix hl50
      obtain ⟨r58,e59,hl50⟩:=bind_some hl50
      refine Xs (its:=[osl NoB (r34 : List Int) u36,raw b1 (cat [[v0_1],[vI p0.Next],[v0_2],[v0_3],enc p0.Head]),osl NoB (s42.1 : List (List Int)) u43]) (mk:=([mkC 10 11 (enc (Vector.replicate 32 (0 : UInt8))) (enc r58.1)] : Mk)) [34,35,36,37,38,39,40,33,41,42,7,117] Yy rfl rfl (by decide) rfl hE (fun u=>M.qE (M.q0 hM.drew u) emC) (qsP (fun z=>Zq z.E Za ld rfl (TZ) (kr0 rfl)) (qsP (v:=v0_3) ?_ (qsP (fun z=>Zp z.E Za ld rfl (kr0 rfl)) (qsP (fun z=>Zp z.E Za ld rfl (kr0 rfl)) (qsP (v:=(ptr (sb u36) (so u36 + (s42.2).toNat * 1))) ?_ (qsP (v:=(vI x55)) ?_ (qsP (v:=(Value.tuple [(Value.agg (enc r58.1).toArray),vT r58.2].toArray)) ?_ (qsP (fun z=>Zp z.E Za ld rfl (kr0 rfl)) (qsP (fun z=>Yw z.E Za ld rfl rfl (kr0 rfl)) (qsP (fun z=>Yw z.E Za ld rfl rfl (kr0 rfl)) (qsM (pr:=fun v=>True) ?_ (qsM (pr:=fun v=>True) ?_ qs0)))))))))))) ?_
      ·intro a w ux54 D z
       have hE:=z.E
       have hM:=z.M
       exact Zw (v:=v0_3) hE rfl Jv rfl (At.cat (pre:=[[v0_1],[vI p0.Next],[v0_2]]) hM.rawAt1 ck) fun a hE=>⟨Kept.refl _ _,_,rfl,hE⟩
      ·intro a w ux54 D z
       have hE:=z.E
       have hM:=z.M
       exact ZL hE rfl rfl Tryz.underlying24 ty2 (hM.sl (pre:=[]) noB) hi57.1 fun a hE=>⟨Kept.refl _ _,_,rfl,hE⟩
      ·intro a w ux54 D z
       have hE:=z.E
       have hM:=z.M
       exact Zw (v:=(vI x55)) hE rfl ty2 rfl (Yp (hM.sl (pre:=[]) noB) hi57.2) fun a hE=>⟨Kept.refl _ _,_,rfl,hE⟩
      ·intro a w ux54 D z
       have hE:=z.E
       have hM:=z.M
       refine Zx hE rfl (cbm Tryz.func112) (yI _ p0.Events v0_3 (hM.rdo hv0_3) x55 r58 e59) ?_
       rintro v w a ⟨rfl,hK⟩ hE
       exact ⟨hK,_,rfl,hE⟩
      ·intro a w ux54 D z
       have hE:=z.E
       have hD : D 10 = false:=z.F
       have hM:=z.M
       refine Zz hE hM ZR ?_; intro b60 w a hM hE
       have hs : D 11 = false:=JN (j:=11) (k:=0) z.c rfl rfl rfl hD
       exact ⟨_,_,rfl,hE,M.qAlloc (mk1:=[]) (mk2:=[]) hM rfl hD hs (by decide),trivial⟩
      ·intro a w ux54 D z
       have hE:=z.E
       have hD : D 11 = false:=z.F
       have d10 : D 10 = true:=z.p 0 _ rfl rfl
       have hM:=z.M
       obtain ⟨b62,hb63,hM⟩:=M.openCellF (pre:=[_,_,_]) hM d10 hD
       exact Zn (seg:=enc r58.1) (cs':=enc r58.1) hE hM Za (lk rfl hb63) rfl rfl ZR (Flat.len _) (zle flq) (Flat.cell _) (Zk flq) fun w a hM hE=>⟨undef,_,rfl,Env.dummy hE (by decide),M.qStore (i:=10) (mk1:=[]) (mk2:=[]) hM rfl d10 hb63 (by decide),trivial⟩
      ·intro a w ux54 D hE hM hG hall
       have d10:=hall 10 (by decide)
       have d11:=hall 11 (by decide)
       obtain ⟨b64,f65,hM⟩:=M.openCellT (pre:=[_,_,_]) hM d10 d11
       have hE:=hE.setq (t:=7) rfl f65
       refine Zc hE rfl fun a hE=>Zf (Zu ?_)
       obtain ⟨j66,hl67,hF68⟩:=bind_some hl50
       refine ZI (fun a w=>Env 106 a [(1,(ptr b1 0)),(4,u43),(5,u36),(6,vI s42.2),(7,(ptr b64 0)),(8,vT r58.2),(9,vI j66)] ∧ M (Old w0) w0 w [raw b64 (enc r58.1),osl NoB (r34 : List Int) u36,raw b1 (cat [[v0_1],[vI p0.Next],[v0_2],[v0_3],enc p0.Head]),osl NoB (s42.1 : List (List Int)) u43]) ?_ ?_
       ·skip
        obtain ⟨x70,hi72,hl67⟩:=bix hl67
        obtain ⟨r73,e74,hl67⟩:=bind_some hl67
        refine ZX [43,44,45,46,47,48,9] Yy rfl rfl (by decide) rfl hE hM (qsP (fun z=>Z1 z.E Za ld rfl Ke rfl (z.M.rawAt2) cq (kr0 rfl)) (qsP (fun z=>Zp z.E Za ld rfl (kr0 rfl)) (qsP (fun z=>Zp z.E Za ld rfl (kr0 rfl)) (qsP (fun z=>Yl z.E Za ld rfl rfl Tryz.underlying24 ty2 (z.M.sl (pre:=[_]) noB) hi72.1 (kr0 rfl)) (qsP (fun z=>ZK (v:=(vI x70)) z.E Za ld rfl ty2 rfl (Yp (z.M.sl (pre:=[_]) noB) hi72.2) (kr0 rfl)) (qsP (fun z=>ZV z.E Za ld rfl (cbm Tryz.func80) (BL _ p0 v0_1 (z.M.rdo hv0_1) v0_2 (z.M.rdo hv0_2) v0_3 (z.M.rdo hv0_3) x70 r73 e74) (kc rfl)) (qsP (fun z=>AQ z.E Za ld rfl (kr0 rfl)) qs0))))))) ?_
        ·intro a w u hE hM
         refine Zf ?_
         obtain rfl:=Option.some.inj hl67
         refine Zh ?_
         exact ⟨hE.sub ⟨rfl,rfl,rfl,rfl,rfl,rfl,rfl,trivial⟩,hM⟩
       ·skip
        rintro a w ⟨hE,hM⟩
        obtain ⟨j76,hl77,hF78⟩:=bind_some hF68
        refine ZI (fun a w=>Env 106 a [(1,(ptr b1 0)),(4,u43),(5,u36),(6,vI s42.2),(65,vT j76)] ∧ M (Old w0) w0 w [osl NoB (r34 : List Int) u36,raw b1 (cat [[v0_1],[vI p0.Next],[v0_2],[v0_3],enc p0.Head]),osl NoB (s42.1 : List (List Int)) u43]) ?_ ?_
        ·skip
         refine YK (r58.2 != (decide (j66 ≥ 0))) (fun hb80=>?_) (fun hb80=>?_)
         ·have hl77:=Zs hl77 hb80
          refine ZX [49,50,51,52,53,54,55,56,57,58,59,60,61,62,63,64,65] Yy rfl rfl (by decide) rfl hE hM (qsP (fun z=>Zp z.E Za ld rfl (kr0 rfl)) (qsP (fun z=>Zp z.E Za ld rfl (kr0 rfl)) (qsP (fun z=>Ye z.E Za ld rfl rfl rfl (kr0 rfl)) (qsP (fun z=>Zbk z.E Za ld rfl rfl Tryz.underlying4 (kr0 rfl)) (qsP (fun z=>Zp z.E Za ld rfl (kr0 rfl)) (qsP (fun z=>Zm z.E rfl (lkb rfl hb80) rfl (by decide) (kr0 rfl)) (qsP (fun z=>Zm z.E rfl (lkb rfl hb80) rfl (by decide) (kr0 rfl)) (qsP (fun z=>X6 z.E rfl rfl (by decide) (kr0 rfl)) (qsP (fun z=>X6 z.E rfl rfl (by decide) (kr0 rfl)) (qsP (fun z=>X6 z.E rfl rfl (by decide) (kr0 rfl)) (qsP (fun z=>X6 z.E rfl rfl (by decide) (kr0 rfl)) (qsP (fun z=>X6 z.E rfl rfl (by decide) (kr0 rfl)) (qsP (fun z=>X6 z.E rfl rfl (by decide) (kr0 rfl)) (qsP (fun z=>X6 z.E rfl rfl (by decide) (kr0 rfl)) (qsP (fun z=>X6 z.E rfl rfl (by decide) (kr0 rfl)) (qsP (fun z=>Zm z.E rfl (lkb rfl hb80) rfl (by decide) (kr0 rfl)) (qsP (fun z=>Qr z.E Za ld (lkb rfl hb80) rfl (kr0 rfl)) qs0))))))))))))))))) ?_
          ·intro a w u hE hM
           refine Zf ?_
           obtain rfl:=Option.some.inj hl77
           refine Zh ?_
           have hM:=M.fst (l:=[_,_,_]) hM.pull3.pull3.pull3
           exact ⟨hE.sub ⟨rfl,rfl,rfl,rfl,rfl,trivial⟩,hM⟩
         ·have hl77:=Zt hl77 hb80
          refine YK r58.2 (fun hb82=>?_) (fun hb82=>?_)
          ·have hl77:=Zs hl77 hb82
           obtain ⟨x83,hi85,hl77⟩:=bix hl77
           obtain ⟨cs86,hs87,hA88⟩:=X3 hv0_2 hi85.2 -- ^
           obtain ⟨u89,u91,rfl,h90,h92⟩:=Y1 hs87 -- ^
           refine ZX [49,50,51,52,53,54,55,56,57,58,59,60,61,62,63,64,65] Yy rfl rfl (by decide) rfl hE hM (qsP (fun z=>Zp z.E Za ld rfl (kr0 rfl)) (qsP (fun z=>Zp z.E Za ld rfl (kr0 rfl)) (qsP (fun z=>Ye z.E Za ld rfl rfl rfl (kr0 rfl)) (qsP (fun z=>Zbk z.E Za ld rfl rfl Tryz.underlying4 (kr0 rfl)) (qsP (fun z=>Zp z.E Za ld rfl (kr0 rfl)) (qsP (fun z=>Zp z.E (Zj z.E rfl (lkb rfl hb80)) (by decide) rfl (kr0 rfl)) (qsP (fun z=>Zp z.E (Zj z.E rfl (lkb rfl hb80)) (by decide) rfl (kr0 rfl)) (qsP (fun z=>Zq z.E (Zj z.E rfl (lkb rfl hb82)) (by decide) rfl (Vy) (kr0 rfl)) (qsP (fun z=>ZK (v:=v0_2) z.E (Zj z.E rfl (lkb rfl hb82)) (by decide) rfl Q4 rfl (At.cat (pre:=[[v0_1],[vI p0.Next]]) (z.M.rawAt2) ck) (kr0 rfl)) (qsP (fun z=>Zp z.E (Zj z.E rfl (lkb rfl hb82)) (by decide) rfl (kr0 rfl)) (qsP (fun z=>Yl z.E (Zj z.E rfl (lkb rfl hb82)) (by decide) rfl rfl Tryz.underlying55 YA (z.M.rd hv0_2) hi85.1 (kr0 rfl)) (qsP (fun z=>Zq z.E (Zj z.E rfl (lkb rfl hb82)) (by decide) rfl (Q9) (kr0 rfl)) (qsP (fun z=>Z1 z.E (Zj z.E rfl (lkb rfl hb82)) (by decide) rfl ZR rfl (At.cat (pre:=[[vI x83.Number],[vI x83.Version],enc x83.Nonce,[u89],[u91]]) (z.M.atk hA88 (VR hv0_2 hi85.2)) ck) (Flat.len _) (kr0 rfl)) (qsP (fun z=>Z1 z.E (Zj z.E rfl (lkb rfl hb82)) (by decide) rfl ZR rfl (z.M.rawAt0) (Flat.len _) (kr0 rfl)) (qsP (fun z=>yb z.E (Zj z.E rfl (lkb rfl hb82)) (by decide) rfl rfl (Kr Tryz.underlying35 ty5 rfl false rfl (by decide) (QQ Tryz.underlying5)) (by decide) (by kernel_rfl) (kr0 rfl)) (qsP (fun z=>Qr z.E (Zj z.E rfl (lkb rfl hb80)) (by decide) (lkb rfl hb82) rfl (kr0 rfl)) (qsP (fun z=>TQ z.E Za ld (lkb rfl hb80) rfl (kr0 rfl)) qs0))))))))))))))))) ?_
           ·intro a w u hE hM
            refine Zf ?_
            obtain rfl:=Option.some.inj hl77
            refine Zh ?_
            have hM:=M.fst (l:=[_,_,_]) hM.pull3.pull3.pull3
            exact ⟨hE.sub ⟨rfl,rfl,rfl,rfl,rfl,trivial⟩,hM⟩
          ·have hl77:=Zt hl77 hb82
           refine ZX [49,50,51,52,53,54,55,56,57,58,59,60,61,62,63,64,65] Yy rfl rfl (by decide) rfl hE hM (qsP (fun z=>Zp z.E Za ld rfl (kr0 rfl)) (qsP (fun z=>Zp z.E Za ld rfl (kr0 rfl)) (qsP (fun z=>Ye z.E Za ld rfl rfl rfl (kr0 rfl)) (qsP (fun z=>Zbk z.E Za ld rfl rfl Tryz.underlying4 (kr0 rfl)) (qsP (fun z=>Zp z.E Za ld rfl (kr0 rfl)) (qsP (fun z=>Zp z.E (Zj z.E rfl (lkb rfl hb80)) (by decide) rfl (kr0 rfl)) (qsP (fun z=>Zp z.E (Zj z.E rfl (lkb rfl hb80)) (by decide) rfl (kr0 rfl)) (qsP (fun z=>Zm z.E rfl (lkb rfl hb82) rfl (by decide) (kr0 rfl)) (qsP (fun z=>Zm z.E rfl (lkb rfl hb82) rfl (by decide) (kr0 rfl)) (qsP (fun z=>Zm z.E rfl (lkb rfl hb82) rfl (by decide) (kr0 rfl)) (qsP (fun z=>Zm z.E rfl (lkb rfl hb82) rfl (by decide) (kr0 rfl)) (qsP (fun z=>Zm z.E rfl (lkb rfl hb82) rfl (by decide) (kr0 rfl)) (qsP (fun z=>Zm z.E rfl (lkb rfl hb82) rfl (by decide) (kr0 rfl)) (qsP (fun z=>Zm z.E rfl (lkb rfl hb82) rfl (by decide) (kr0 rfl)) (qsP (fun z=>Zm z.E rfl (lkb rfl hb82) rfl (by decide) (kr0 rfl)) (qsP (fun z=>TQ z.E (Zj z.E rfl (lkb rfl hb80)) (by decide) (lkb rfl hb82) rfl (kr0 rfl)) (qsP (fun z=>TQ z.E Za ld (lkb rfl hb80) rfl (kr0 rfl)) qs0))))))))))))))))) ?_
           ·intro a w u hE hM
            refine Zf ?_
            obtain rfl:=Option.some.inj hl77
            refine Zh ?_
            have hM:=M.fst (l:=[_,_,_]) hM.pull3.pull3.pull3
            exact ⟨hE.sub ⟨rfl,rfl,rfl,rfl,rfl,trivial⟩,hM⟩
        ·skip
         rintro a w ⟨hE,hM⟩
         obtain ⟨j95,hl96,hF97⟩:=bind_some hF78
         refine ZJ (fun a w=>∃ (u98 : Value),Env 106 a [(1,(ptr b1 0)),(4,u98),(5,u36),(6,vI s42.2)] ∧ M (Old w0) w0 w [osl NoB (r34 : List Int) u36,raw b1 (cat [[v0_1],[vI p0.Next],[v0_2],[v0_3],enc p0.Head]),osl NoB (j95 : List (List Int)) u98]) ?_ ?_
         ·skip
          refine Zo hE rfl ?_ ?_
          ·intro hb100
           have hl96:=Zs hl96 hb100
           refine wp_region_lit (Zd hE rfl fun a hE=>Zd hE rfl fun a hE=>Zd hE rfl ?_); intro a hE
           obtain ⟨x101,hi103,hl96⟩:=bix hl96
           refine ZL hE rfl rfl Tryz.underlying24 ty2 (hM.sl (pre:=[]) noB) hi103.1 fun a hE=>Zw (v:=(vI x101)) hE rfl ty2 rfl (Yp (hM.sl (pre:=[]) noB) hi103.2) fun a hE=>ZP (xs:=[.const (vI 2),.tmp 70]) (l:=([2,x101] : List Int)) (vs:=[vI 2,vI x101]) hE hM Za ld rfl rfl Tryz.underlying24 ty2 rfl (by decide) rfl ?_; intro u104 w a hM hE
           have hc108:=Ym (hM.sl (pre:=[]) noB)
           have hM:=hM.pack1 (it:=own NoB ([2,x101] : List Int) ([u104])) (YR noB) (fun f0 q0=>(Xq.sat q0))
           refine Kk (xs:=[.tmp 71]) (seg:=[u104]) hE hM noB Za ld rfl hc108 Tryz.underlying73 Q5 rfl (by decide) ?_; intro u106 w a hM hE
           obtain ⟨l109,e110,hl96⟩:=bind_some hl96
           obtain ⟨e113,rfl⟩:=ZS e110
           have hM:=hM.pull3
           refine QU hE hM noB Za ld rfl rfl Tryz.underlying73 Q5 rfl (by decide) e113 fun u111 w a hM hE=>Zc hE rfl fun a hE=>Zf ?_
           obtain rfl:=Option.some.inj hl96
           refine Zh ?_
           have hM:=hM.pull2.pull2
           exact ⟨u111,hE.sub ⟨rfl,rfl,rfl,rfl,trivial⟩,hM⟩
          ·intro hb100
           have hl96:=Zt hl96 hb100
           refine wp_skip ?_
           obtain rfl:=Option.some.inj hl96
           refine Zh ?_
           exact ⟨u43,hE.sub ⟨rfl,rfl,rfl,rfl,trivial⟩,hM⟩
         ·skip
          rintro a w ⟨u98,hE,hM⟩
          refine Z4 ?_
          obtain rfl:=Option.some.inj hF97
          refine Zh ?_
          exact ⟨u98,hE.sub ⟨rfl,rfl,rfl,rfl,trivial⟩,hM⟩
     ·skip
      rintro a w ⟨u52,hE,hM⟩
      refine wp_region_lit (Zd hE rfl fun a hE=>Zi hE rfl rfl rfl fun a hE=>Zc hE rfl fun a hE=>Zf (Zh ?_))
      exact ⟨_,(ois hF51),u52,hE.sub ⟨rfl,rfl,rfl,rfl,trivial⟩,hM⟩
    ·intro hb48
     have hs45:=Zt hs45 hb48
     refine wp_exit (Zl (Zl (Z5 ?_)))
     obtain rfl:=hx46 _ (ois hs45)
     refine Zh ?_
     have hM:=M.fst (l:=[_,_]) hM.pull2.pull2
     exact ⟨u43,hE.sub ⟨rfl,rfl,trivial⟩,hM⟩
   ·skip
    rintro a w ⟨u40,hE,hM⟩
    refine Zu (wp_seq (Zb (Zc hE rfl fun a hE=>Ze ?_)))
    obtain ⟨j118,hl119,hF120⟩:=bind_some hF39
    refine ZJ (fun a w=>∃ (u121 : Value),Env 106 a [(4,u121)] ∧ M (Old w0) w0 w [osl NoB (j118 : List (List Int)) u121]) ?_ ?_
    ·skip
     refine wp_block ?_
     refine ZC (fun (s123 : Int × (List (List Int))) a w=>∃ (u124 : Value),Env 106 a [(1,(ptr b1 0)),(4,u124),(10,vI s123.1)] ∧ M (Old w0) w0 w [raw b1 (cat [[v0_1],[vI p0.Next],[v0_2],[v0_3],enc p0.Head]),osl NoB (s123.2 : List (List Int)) u124]) hl119 ⟨u40,hE.sub ⟨rfl,rfl,rfl,trivial⟩,hM⟩ ?_
     rintro s123 a w ⟨u124,hE,hM⟩ o128 hs126 hx127
     unfold Wu at hs126
     refine wp_seq (Zb (Zd hE rfl fun a hE=>Zg hE rfl (Vy) fun a hE=>Zw (v:=v0_2) hE rfl Q4 rfl (At.cat (pre:=[[v0_1],[vI p0.Next]]) hM.rawAt0 ck) fun a hE=>Z2 hE rfl Tryz.underlying55 (hM.rd hv0_2) fun a hE=>Zi hE rfl rfl rfl fun a hE=>Ze ?_))
     refine Zo hE rfl ?_ ?_
     ·intro hb129
      have hs126:=Zs hs126 hb129
      refine wp_skip (Zu ?_)
      obtain ⟨j130,hl131,hF132⟩:=bind_some hs126
      refine ZI (fun a w=>∃ (u133 : Value),Env 106 a [(1,(ptr b1 0)),(4,u133),(10,vI s123.1)] ∧ M (Old w0) w0 w [raw b1 (cat [[v0_1],[vI p0.Next],[v0_2],[v0_3],enc p0.Head]),osl NoB (j130 : List (List Int)) u133]) ?_ ?_
      ·skip
       refine wp_block ?_
       obtain ⟨j135,hl136,hF137⟩:=bind_some hl131
       refine ZI (fun a w=>Env 106 a [(1,(ptr b1 0)),(4,u124),(10,vI s123.1),(94,vT j135)] ∧ M (Old w0) w0 w [raw b1 (cat [[v0_1],[vI p0.Next],[v0_2],[v0_3],enc p0.Head]),osl NoB (s123.2 : List (List Int)) u124]) ?_ ?_
       ·skip
        obtain ⟨x139,hi141,hl136⟩:=bix hl136
        obtain ⟨cs142,hs143,hA144⟩:=X3 hv0_2 hi141.2 -- ^
        obtain ⟨u145,u147,rfl,h146,h148⟩:=Y1 hs143 -- ^
        obtain ⟨r149,e150,hl136⟩:=bind_some hl136
        obtain ⟨x151,hi153,hl136⟩:=bix hl136
        obtain ⟨cs154,hs155,hA156⟩:=X3 hv0_2 hi153.2 -- ^
        obtain ⟨u157,u159,rfl,h158,h160⟩:=Y1 hs155 -- ^
        refine ZX [81,82,83,84,85,86,87,88,89,90,91,92,93,94] Yy rfl rfl (by decide) rfl hE hM (qsP (fun z=>Z1 z.E Za ld rfl Ke rfl (z.M.rawAt0) cq (kr0 rfl)) (qsP (fun z=>Zq z.E Za ld rfl (Vy) (kr0 rfl)) (qsP (fun z=>ZK (v:=v0_2) z.E Za ld rfl Q4 rfl (At.cat (pre:=[[v0_1],[vI p0.Next]]) (z.M.rawAt0) ck) (kr0 rfl)) (qsP (fun z=>Zp z.E Za ld rfl (kr0 rfl)) (qsP (fun z=>Yl z.E Za ld rfl rfl Tryz.underlying55 YA (z.M.rd hv0_2) hi141.1 (kr0 rfl)) (qsP (fun z=>Z1 z.E Za ld rfl YA rfl (z.M.atk hA144 (VR hv0_2 hi141.2)) cq (kr0 rfl)) (qsP (fun z=>ZV z.E Za ld rfl (cbm Tryz.func102) (zR _ p0 v0_1 (z.M.rdo hv0_1) v0_2 (z.M.rdo hv0_2) v0_3 (z.M.rdo hv0_3) x139 u145 (z.M.rdo h146) u147 (z.M.rdo h148) r149 e150) (kc rfl)) (qsP (fun z=>Zq z.E Za ld rfl (Vy) (kr0 rfl)) (qsP (fun z=>ZK (v:=v0_2) z.E Za ld rfl Q4 rfl (At.cat (pre:=[[v0_1],[vI p0.Next]]) (z.M.rawAt0) ck) (kr0 rfl)) (qsP (fun z=>Zp z.E Za ld rfl (kr0 rfl)) (qsP (fun z=>Yl z.E Za ld rfl rfl Tryz.underlying55 YA (z.M.rd hv0_2) hi153.1 (kr0 rfl)) (qsP (fun z=>Zq z.E Za ld rfl (Q9) (kr0 rfl)) (qsP (fun z=>Z1 z.E Za ld rfl ZR rfl (At.cat (pre:=[[vI x151.Number],[vI x151.Version],enc x151.Nonce,[u157],[u159]]) (z.M.atk hA156 (VR hv0_2 hi153.2)) ck) (Flat.len _) (kr0 rfl)) (qsP (fun z=>yb z.E Za ld rfl rfl (Kr Tryz.underlying35 ty5 rfl false rfl (by decide) (QQ Tryz.underlying5)) (by decide) (by kernel_rfl) (kr0 rfl)) qs0)))))))))))))) ?_
        ·intro a w u hE hM
         refine Zf ?_
         obtain rfl:=Option.some.inj hl136
         refine Zh ?_
         exact ⟨hE.sub ⟨rfl,rfl,rfl,rfl,trivial⟩,hM⟩
       ·skip
        rintro a w ⟨hE,hM⟩
        obtain ⟨j162,hl163,hF164⟩:=bind_some hF137
        refine ZJ (fun a w=>∃ (u165 : Value),Env 106 a [(1,(ptr b1 0)),(4,u165),(10,vI s123.1)] ∧ M (Old w0) w0 w [raw b1 (cat [[v0_1],[vI p0.Next],[v0_2],[v0_3],enc p0.Head]),osl NoB (j162 : List (List Int)) u165]) ?_ ?_
        ·skip
         refine Zo hE rfl ?_ ?_
         ·intro hb167
          have hl163:=Zs hl163 hb167
          refine wp_region_lit (Zd hE rfl fun a hE=>Zg hE rfl (Vy) fun a hE=>Zw (v:=v0_2) hE rfl Q4 rfl (At.cat (pre:=[[v0_1],[vI p0.Next]]) hM.rawAt0 ck) fun a hE=>Zd hE rfl ?_); intro a hE
          obtain ⟨x168,hi170,hl163⟩:=bix hl163
          refine ZL hE rfl rfl Tryz.underlying55 YA (hM.rd hv0_2) hi170.1 fun a hE=>Zg hE rfl (XX) ?_; intro a hE
          obtain ⟨cs171,hs172,hA173⟩:=X3 hv0_2 hi170.2 -- ^
          obtain ⟨u174,u176,rfl,h175,h177⟩:=Y1 hs172 -- ^
          refine Zw (v:=(vI x168.Number)) hE rfl ty2 rfl (At.cat (pre:=[]) (hM.atk hA173 (VR hv0_2 hi170.2)) cl0) fun a hE=>ZP (xs:=[.const (vI 3),.tmp 101]) (l:=([3,x168.Number] : List Int)) (vs:=[vI 3,vI x168.Number]) hE hM Za ld rfl rfl Tryz.underlying24 ty2 rfl (by decide) rfl ?_; intro u178 w a hM hE
          have hc182:=Ym (hM.sl (pre:=[]) noB)
          have hM:=hM.pack1 (it:=own NoB ([3,x168.Number] : List Int) ([u178])) (YR noB) (fun f0 q0=>(Xq.sat q0))
          refine Kk (xs:=[.tmp 102]) (seg:=[u178]) hE hM noB Za ld rfl hc182 Tryz.underlying73 Q5 rfl (by decide) ?_; intro u180 w a hM hE
          obtain ⟨l183,e184,hl163⟩:=bind_some hl163
          obtain ⟨e187,rfl⟩:=ZS e184
          have hM:=hM.pull2
          refine QU hE hM noB Za ld rfl rfl Tryz.underlying73 Q5 rfl (by decide) e187 fun u185 w a hM hE=>Zc hE rfl fun a hE=>Zf ?_
          obtain rfl:=Option.some.inj hl163
          refine Zh ?_
          have hM:=hM.pull1
          exact ⟨u185,hE.sub ⟨rfl,rfl,rfl,trivial⟩,hM⟩
         ·intro hb167
          have hl163:=Zt hl163 hb167
          refine wp_skip ?_
          obtain rfl:=Option.some.inj hl163
          refine Zh ?_
          exact ⟨u124,hE.sub ⟨rfl,rfl,rfl,trivial⟩,hM⟩
        ·skip
         rintro a w ⟨u165,hE,hM⟩
         refine Z4 ?_
         obtain rfl:=Option.some.inj hF164
         refine Zh ?_
         exact ⟨u165,hE.sub ⟨rfl,rfl,rfl,trivial⟩,hM⟩
      ·skip
       rintro a w ⟨u133,hE,hM⟩
       refine wp_region_lit (Zd hE rfl fun a hE=>Zi hE rfl rfl rfl fun a hE=>Zc hE rfl fun a hE=>Zf (Zh ?_))
       exact ⟨_,(ois hF132),u133,hE.sub ⟨rfl,rfl,rfl,trivial⟩,hM⟩
     ·intro hb129
      have hs126:=Zt hs126 hb129
      refine wp_exit (Zl (Zl (Z5 ?_)))
      obtain rfl:=hx127 _ (ois hs126)
      refine Zh ?_
      have hM:=M.fst (l:=[_]) hM.pull1
      exact ⟨u124,hE.sub ⟨rfl,trivial⟩,hM⟩
    ·skip
     rintro a w ⟨u121,hE,hM⟩
     refine Zu (Zb (Zd hE rfl fun a hE=>Zc hE rfl fun a hE=>Zc hE rfl fun a hE=>Ze ?_))
     obtain rfl:=Option.some.inj hF120
     exact wp_ret (Ja hE rfl (ZY hE rfl) (ZY hE rfl) ⟨_,rfl,u121,rfl,hM.outF (Wm XZ),hM.kept⟩)
def Yx (p0 : (List (Vector UInt8 16))) : Option (Int) :=
 some (p0.length : Int)
theorem XI (w0 : World) (p0 : (List (Vector UInt8 16))) (v0_1 : Value) (hv0_1 : Ro w0 p0 [v0_1]) (r : Int) (hF : Yx p0 = some r) :
  Calls Tryz.prog 106 [v0_1].toArray w0 (Rt w0 (vI r)):=by
 refine ce Tryz.func106 ?_
 intro a hE
 have hM:=M.start w0
 unfold Yx at hF
 refine Zb (Zc hE rfl fun a hE=>Ze (Zb (Zd hE rfl fun a hE=>Z2 hE rfl Tryz.underlying54 (hM.rd hv0_1) fun a hE=>Zc hE rfl fun a hE=>Ze ?_)))
 obtain rfl:=Option.some.inj hF
 exact wp_ret (kr1 hE rfl rfl hM.kept)
def YX (p0 : Int) (p1 : Int) (p2 : Int) : Option (Bool) :=
 (if (decide (p1 ≤ p0)) = true then (some (decide (p0 ≤ p2))) else (some false) : Option (Bool)).bind fun j1=>some j1
theorem YV (w0 : World) (p0 : Int) (p1 : Int) (p2 : Int) (r : Bool) (hF : YX p0 p1 p2 = some r) :
  Calls Tryz.prog 129 [vI p0,vI p1,vI p2].toArray w0 (Rt w0 (vT r)):=by
 refine ce Tryz.func129 ?_
 intro a hE
 have hM:=M.start w0
 unfold YX at hF
 refine Zb (Zc hE rfl fun a hE=>Ze ?_)
 obtain ⟨j1,hl2,hF3⟩:=bind_some hF
 refine ZI (fun a w=>Env 15 a [(6,vT j1)] ∧ M (Old w0) w0 w []) ?_ ?_
 ·skip
  refine wp_region_lit (Zd hE rfl fun a hE=>Zd hE rfl fun a hE=>Zi hE rfl rfl rfl fun a hE=>Zd hE rfl ?_); intro a hE
  refine YK (decide (p1 ≤ p0)) (fun hb4=>?_) (fun hb4=>?_)
  ·have hl2:=Zs hl2 hb4
   refine Zp hE (Zj hE rfl (lkb rfl hb4)) (by decide) rfl fun a hE=>Zp hE (Zj hE rfl (lkb rfl hb4)) (by decide) rfl fun a hE=>Ye hE (Zj hE rfl (lkb rfl hb4)) (by decide) rfl rfl rfl fun a hE=>Z8 hE (lkb rfl hb4) rfl fun a hE=>Zc hE rfl fun a hE=>Zf ?_
   obtain rfl:=Option.some.inj hl2
   refine Zh ?_
   exact ⟨hE.sub ⟨rfl,trivial⟩,hM⟩
  ·have hl2:=Zt hl2 hb4
   refine Zm hE rfl (lkb rfl hb4) rfl (by decide) fun a hE=>Zm hE rfl (lkb rfl hb4) rfl (by decide) fun a hE=>Zm hE rfl (lkb rfl hb4) rfl (by decide) fun a hE=>YB hE (lkb rfl hb4) rfl fun a hE=>Zc hE rfl fun a hE=>Zf ?_
   obtain rfl:=Option.some.inj hl2
   refine Zh ?_
   exact ⟨hE.sub ⟨rfl,trivial⟩,hM⟩
 ·skip
  rintro a w ⟨hE,hM⟩
  obtain rfl:=Option.some.inj hF3
  exact wp_ret (kr1 hE rfl rfl hM.kept)
def Yu (p0 : (List GEvent)) (p1 : GEvent → Option (Bool)) (s5 : Int) : Option (Fl Int (Fl Unit Int)) :=
 if (decide (s5 < (p0.length : Int))) = true then ((idx p0 s5).bind fun x10=>((p1 x10)).bind fun r13=>if r13 = true then (some (Fl.ex (Fl.ex s5))) else (some (Fl.nx (wr (s5 + 1))))) else (some (Fl.ex (Fl.nx ())))
def Yf (p0 : (List GEvent)) (p1 : GEvent → Option (Bool)) : Option (Int) :=
 (ZB (Yu p0 p1) 0).bind fun j1=>j1.el (fun s4=>some (-1)) (fun r=>some r)
theorem UO (w0 : World) (p0 : (List GEvent)) (v0_1 : Value) (hv0_1 : Ro w0 p0 [v0_1]) (p1 : GEvent → Option (Bool)) (k1 : Nat) (q1 : List Value) (hcb1 : Callable Tryz.prog k1) (hg1 : ∀ (w2 : World),Kept (Old w0) w0 w2 → ∀ (z0 : GEvent) (zr : Bool),p1 z0 = some zr → Calls Tryz.prog k1 ([(Value.agg (enc z0).toArray)] ++ q1).toArray w2 (fun en w3=>∃ v,en = .returned v ∧ (v = (vT zr) ∧ Kept (Old w2) w2 w3))) (r : Int) (hF : Yf p0 p1 = some r) :
  Calls Tryz.prog 192 [v0_1,(Value.func (.func k1) #[] q1.toArray)].toArray w0 (Rt w0 (vI r)):=by
 refine ce Tryz.func192 ?_
 intro a hE
 have hM:=M.start w0
 unfold Yf at hF
 refine Zb (Zc hE rfl fun a hE=>Ze (wp_seq (Zb (Zd hE rfl fun a hE=>Z2 hE rfl Tryz.underlying56 (hM.rd hv0_1) fun a hE=>Zd hE rfl fun a hE=>Ze ?_))))
 obtain ⟨j1,hl2,hF3⟩:=bind_some hF
 refine ZJ (fun a w=>∃ s4 : Unit,j1 = Fl.nx s4 ∧ Env 19 a [] ∧ M (Old w0) w0 w []) ?_ ?_
 ·skip
  refine wp_block ?_
  refine ZC (fun (s5 : Int) a w=>Env 19 a [(0,v0_1),(1,(Value.func (.func k1) #[] q1.toArray)),(7,(vI (p0.length : Int))),(8,vI s5)] ∧ M (Old w0) w0 w []) hl2 ⟨hE.sub ⟨rfl,rfl,rfl,rfl,trivial⟩,hM⟩ ?_
  rintro s5 a w ⟨hE,hM⟩ o8 hs6 hx7
  unfold Yu at hs6
  refine Zb (Zi hE rfl rfl rfl fun a hE=>Ze (wp_seq ?_))
  refine Zo hE rfl ?_ ?_
  ·intro hb9
   have hs6:=Zs hs6 hb9
   refine wp_skip (Zu (wp_seq (wp_block (Zb (Zd hE rfl fun a hE=>Zc hE rfl fun a hE=>Ze (Zb (Zd hE rfl fun a hE=>Zd hE rfl fun a hE=>Zd hE rfl ?_))))))); intro a hE
   obtain ⟨x10,hi12,hs6⟩:=bix hs6
   refine ZL hE rfl rfl Tryz.underlying56 Xd (hM.rd hv0_1) hi12.1 fun a hE=>Zr hE rfl Xd rfl (Yp (hM.rd hv0_1) hi12.2) cq ?_; intro a hE
   obtain ⟨r13,e14,hs6⟩:=bind_some hs6
   refine Zcx (vs:=[(Value.agg (enc x10).toArray)]) hE Za ld rfl rfl hcb1 (hg1 _ hM.kept x10 r13 e14) ?_
   rintro v w a ⟨rfl,hK⟩ hE
   have hM:=hM.keep hK
   refine Ze ?_
   refine Zo hE rfl ?_ ?_
   ·intro hb15
    have hs6:=Zs hs6 hb15
    refine Zb (Zd hE rfl fun a hE=>Zc hE rfl fun a hE=>Ze ?_)
    obtain rfl:=hx7 _ (ois hs6)
    obtain rfl:=Option.some.inj hF3
    exact wp_ret (XH (ZA (ZA (XH (ZA (ZA (kr1 hE rfl rfl hM.kept)))))))
   ·intro hb15
    have hs6:=Zt hs6 hb15
    refine wp_skip (Z4 (Zu (wp_region_lit (Zi hE rfl rfl rfl fun a hE=>Zd hE rfl fun a hE=>Zf (Zh ?_)))))
    exact ⟨_,(ois hs6),hE.sub ⟨rfl,rfl,rfl,rfl,trivial⟩,hM⟩
  ·intro hb9
   have hs6:=Zt hs6 hb9
   refine wp_exit (Zl (Zl (Z5 ?_)))
   obtain rfl:=hx7 _ (ois hs6)
   refine Zh ?_
   exact ⟨(),rfl,hE.sub trivial,hM⟩
 ·skip
  rintro a w ⟨s4,ht,hE,hM⟩
  subst ht
  have hF3:=Qu hF3
  refine Zu (Zb (Zc hE rfl fun a hE=>Ze ?_))
  obtain rfl:=Option.some.inj hF3
  exact wp_ret (kr1 hE rfl rfl hM.kept)
def ZU (p0 : (List GEvent)) (p1 : GEvent → Option (Bool)) : Option (Bool) :=
 (Yf p0 p1).bind fun r1=>some (decide (r1 ≥ 0))
theorem V9 (w0 : World) (p0 : (List GEvent)) (v0_1 : Value) (hv0_1 : Ro w0 p0 [v0_1]) (p1 : GEvent → Option (Bool)) (k1 : Nat) (q1 : List Value) (hcb1 : Callable Tryz.prog k1) (hg1 : ∀ (w2 : World),Kept (Old w0) w0 w2 → ∀ (z0 : GEvent) (zr : Bool),p1 z0 = some zr → Calls Tryz.prog k1 ([(Value.agg (enc z0).toArray)] ++ q1).toArray w2 (fun en w3=>∃ v,en = .returned v ∧ (v = (vT zr) ∧ Kept (Old w2) w2 w3))) (r : Bool) (hF : ZU p0 p1 = some r) :
  Calls Tryz.prog 159 [v0_1,(Value.func (.func k1) #[] q1.toArray)].toArray w0 (Rt w0 (vT r)):=by
 refine ce Tryz.func159 ?_
 intro a hE
 have hM:=M.start w0
 unfold ZU at hF
 refine Zb (Zc hE rfl fun a hE=>Ze (Zb (Zd hE rfl fun a hE=>Zd hE rfl ?_))); intro a hE
 obtain ⟨r1,e2,hF⟩:=bind_some hF
 refine Zx hE rfl (cbm Tryz.func192) (UO _ p0 v0_1 (hM.rdo hv0_1) p1 k1 q1 hcb1 (fun w2 hk2=>hg1 w2 (hM.kept.trans hk2)) r1 e2) ?_
 rintro v w a ⟨rfl,hK⟩ hE
 have hM:=hM.keep hK
 refine Zi hE rfl rfl rfl fun a hE=>Zc hE rfl fun a hE=>Ze ?_
 obtain rfl:=Option.some.inj hF
 exact wp_ret (kr1 hE rfl rfl hM.kept)
def TO (p0 : Int) : Option (Bool) :=
 (YX p0 0 1000000).bind fun r1=>some r1
theorem B7 (w0 : World) (p0 : Int) (r : Bool) (hF : TO p0 = some r) :
  Calls Tryz.prog 193 [vI p0].toArray w0 (Rt w0 (vT r)):=by
 refine ce Tryz.func193 ?_
 intro a hE
 have hM:=M.start w0
 unfold TO at hF
 refine Zb (Zc hE rfl fun a hE=>Ze (Zb (Zd hE rfl ?_))); intro a hE
 obtain ⟨r1,e2,hF⟩:=bind_some hF
 refine Zx hE rfl JE (YV _ p0 0 1000000 r1 e2) ?_
 rintro v w a ⟨rfl,hK⟩ hE
 have hM:=hM.keep hK
 refine Zc hE rfl fun a hE=>Ze ?_
 obtain rfl:=Option.some.inj hF
 exact wp_ret (kr1 hE rfl rfl hM.kept)
def Tf (p0 : GEvent) : Option (Bool) :=
 ((YX p0.Kind 1 4).bind fun r6=>if r6 = true then ((TO p0.Number).bind fun r9=>some r9) else (some false) : Option (Bool)).bind fun j3=>some j3
theorem zg (w0 : World) (p0 : GEvent) (r : Bool) (hF : Tf p0 = some r) :
  Calls Tryz.prog 161 [(Value.agg (enc p0).toArray)].toArray w0 (Rt w0 (vT r)):=by
 refine ce Tryz.func161 ?_
 intro a hE
 have hM:=M.start w0
 unfold Tf at hF
 refine Zb (ZT (cs:=cat [[vI p0.Kind],[vI p0.Number],enc p0.Tag]) hE hM Za ld rfl rfl fun b1 w a hM hE=>Zc hE rfl fun a hE=>Ze ?_)
 obtain ⟨j3,hl4,hF5⟩:=bind_some hF
 refine ZI (fun a w=>Env 11 a [(2,vT j3)] ∧ M (Old w0) w0 w []) ?_ ?_
 ·skip
  refine wp_region_lit (Zg hE rfl (UW) fun a hE=>Zw (v:=(vI p0.Kind)) hE rfl ty2 rfl (At.cat (pre:=[]) hM.rawAt0 cl0) ?_); intro a hE
  obtain ⟨r6,e7,hl4⟩:=bind_some hl4
  refine Zx hE rfl JE (YV _ p0.Kind 1 4 r6 e7) ?_
  rintro v w a ⟨rfl,hK⟩ hE
  have hM:=hM.keep hK
  refine Zd hE rfl ?_; intro a hE
  refine YK r6 (fun hb8=>?_) (fun hb8=>?_)
  ·have hl4:=Zs hl4 hb8
   refine Zq hE (Zj hE rfl (lkb rfl hb8)) (by decide) rfl (Tk) fun a hE=>ZK (v:=(vI p0.Number)) hE (Zj hE rfl (lkb rfl hb8)) (by decide) rfl ty2 rfl (At.cat (pre:=[[vI p0.Kind]]) hM.rawAt0 ck) ?_; intro a hE
   obtain ⟨r9,e10,hl4⟩:=bind_some hl4
   refine ZV hE (Zj hE rfl (lkb rfl hb8)) (by decide) rfl (cbm Tryz.func193) (B7 _ p0.Number r9 e10) ?_
   rintro v w a ⟨rfl,hK⟩ hE
   have hM:=hM.keep hK
   refine Z8 hE (lkb rfl hb8) rfl fun a hE=>Zc hE rfl fun a hE=>Zf ?_
   obtain rfl:=Option.some.inj hl4
   refine Zh ?_
   have hM:=M.fst (l:=[]) hM
   exact ⟨hE.sub ⟨rfl,trivial⟩,hM⟩
  ·have hl4:=Zt hl4 hb8
   refine Zm hE rfl (lkb rfl hb8) rfl (by decide) fun a hE=>Zm hE rfl (lkb rfl hb8) rfl (by decide) fun a hE=>Zm hE rfl (lkb rfl hb8) rfl (by decide) fun a hE=>YB hE (lkb rfl hb8) rfl fun a hE=>Zc hE rfl fun a hE=>Zf ?_
   obtain rfl:=Option.some.inj hl4
   refine Zh ?_
   have hM:=M.fst (l:=[]) hM
   exact ⟨hE.sub ⟨rfl,trivial⟩,hM⟩
 ·skip
  rintro a w ⟨hE,hM⟩
  obtain rfl:=Option.some.inj hF5
  exact wp_ret (kr1 hE rfl rfl hM.kept)
def VL (p0 : GEvent) : Option (Bool) :=
 (Tf p0).bind fun r3=>some (!r3)
theorem Bv (w0 : World) (p0 : GEvent) (r : Bool) (hF : VL p0 = some r) :
  Calls Tryz.prog 160 [(Value.agg (enc p0).toArray)].toArray w0 (Rt w0 (vT r)):=by
 refine ce Tryz.func160 ?_
 intro a hE
 have hM:=M.start w0
 unfold VL at hF
 refine Zb (ZT (cs:=cat [[vI p0.Kind],[vI p0.Number],enc p0.Tag]) hE hM Za ld rfl rfl fun b1 w a hM hE=>Zc hE rfl fun a hE=>Ze (Zb (Zr hE rfl Xd rfl hM.rawAt0 cq ?_))); intro a hE
 obtain ⟨r3,e4,hF⟩:=bind_some hF
 refine Zx hE rfl (cbm Tryz.func161) (zg _ p0 r3 e4) ?_
 rintro v w a ⟨rfl,hK⟩ hE
 have hM:=hM.keep hK
 refine Qa hE rfl fun a hE=>Zc hE rfl fun a hE=>Ze ?_
 obtain rfl:=Option.some.inj hF
 exact wp_ret (kr1 hE rfl rfl hM.kept)
def Va (p0 : GVault) (s24 : Int) : Option (Fl Int (Fl Unit Bool)) :=
 if (decide (s24 < (p0.Records.length : Int))) = true then ((idx p0.Records s24).bind fun x29=>((YX x29.Number 1 (wr (p0.Next - 1))).bind fun r45=>if (!r45) = true then (some true) else (if (decide (s24 > 0)) = true then ((idx p0.Records (wr (s24 - 1))).bind fun x50=>some (decide (x50.Number ≥ x29.Number))) else (some false)) : Option (Bool)).bind fun j41=>if j41 = true then (some (Fl.ex (Fl.ex false))) else (((Yx p0.Keys).bind fun r68=>(YX x29.Version 0 (wr (r68 - 1))).bind fun r70=>if (!r70) = true then (some true) else (if (decide ((x29.Label.length : Int) > 32)) = true then (some true) else (some (decide ((x29.Body.length : Int) > 200)))) : Option (Bool)).bind fun j64=>if j64 = true then (some (Fl.ex (Fl.ex false))) else (some (Fl.nx (wr (s24 + 1)))))) else (some (Fl.ex (Fl.nx ())))
def U1 (p0 : GVault) : Option (Bool) :=
 ((Yx p0.Keys).bind fun r6=>(YX r6 1 8).bind fun r8=>if (!r8) = true then (some true) else ((YX p0.Next 1 1000000).bind fun r12=>if (!r12) = true then (some true) else (if (decide ((p0.Records.length : Int) > 12)) = true then (some true) else (some (decide ((p0.Events.length : Int) > 60))))) : Option (Bool)).bind fun j3=>if j3 = true then (some false) else ((ZB (Va p0) 0).bind fun j20=>j20.el (fun s23=>(ZU p0.Events (fun z0=>VL z0)).bind fun r80=>some (!r80)) (fun r=>some r))
theorem za (w0 : World) (p0 : GVault) (v0_1 : Value) (hv0_1 : Ro w0 p0.Keys [v0_1]) (v0_2 : Value) (hv0_2 : Ro w0 p0.Records [v0_2]) (v0_3 : Value) (hv0_3 : Ro w0 p0.Events [v0_3]) (r : Bool) (hF : U1 p0 = some r) :
  Calls Tryz.prog 103 [(Value.agg (cat [[v0_1],[vI p0.Next],[v0_2],[v0_3],enc p0.Head]).toArray)].toArray w0 (Rt w0 (vT r)):=by
 refine ce Tryz.func103 ?_
 intro a hE
 have hM:=M.start w0
 unfold U1 at hF
 refine Zb (ZT (cs:=cat [[v0_1],[vI p0.Next],[v0_2],[v0_3],enc p0.Head]) hE hM Za ld rfl rfl fun b1 w a hM hE=>Zc hE rfl fun a hE=>Ze (wp_seq ?_))
 obtain ⟨j3,hl4,hF5⟩:=bind_some hF
 refine ZI (fun a w=>Env 84 a [(1,(ptr b1 0)),(27,vT j3)] ∧ M (Old w0) w0 w [raw b1 (cat [[v0_1],[vI p0.Next],[v0_2],[v0_3],enc p0.Head])]) ?_ ?_
 ·skip
  refine wp_region_lit (Zg hE rfl (Qj) fun a hE=>Zw (v:=v0_1) hE rfl HV rfl (At.cat (pre:=[]) hM.rawAt0 cl0) ?_); intro a hE
  obtain ⟨r6,e7,hl4⟩:=bind_some hl4
  refine Zx hE rfl qh (XI _ p0.Keys v0_1 (hM.rdo hv0_1) r6 e7) ?_
  rintro v w a ⟨rfl,hK⟩ hE
  have hM:=hM.keep hK
  obtain ⟨r8,e9,hl4⟩:=bind_some hl4
  refine Zx hE rfl JE (YV _ r6 1 8 r8 e9) ?_
  rintro v w a ⟨rfl,hK⟩ hE
  have hM:=hM.keep hK
  refine Qa hE rfl fun a hE=>Zd hE rfl ?_; intro a hE
  refine YK (!r8) (fun hb10=>?_) (fun hb10=>?_)
  ·have hl4:=Zs hl4 hb10
   refine Zm hE rfl (lkb rfl hb10) rfl (by decide) fun a hE=>Zm hE rfl (lkb rfl hb10) rfl (by decide) fun a hE=>Zm hE rfl (lkb rfl hb10) rfl (by decide) fun a hE=>Zm hE rfl (lkb rfl hb10) rfl (by decide) fun a hE=>Z8 hE (lkb rfl hb10) rfl fun a hE=>Zd hE rfl fun a hE=>Zm hE rfl rfl rfl (by decide) fun a hE=>Zm hE rfl rfl rfl (by decide) fun a hE=>Zm hE rfl rfl rfl (by decide) fun a hE=>Zm hE rfl rfl rfl (by decide) fun a hE=>Z8 hE rfl rfl fun a hE=>Zd hE rfl ?_; intro a hE
   refine Zm hE rfl rfl rfl (by decide) fun a hE=>Zm hE rfl rfl rfl (by decide) fun a hE=>Zm hE rfl rfl rfl (by decide) fun a hE=>Zm hE rfl rfl rfl (by decide) fun a hE=>Z8 hE rfl rfl fun a hE=>Zf ?_
   obtain rfl:=Option.some.inj hl4
   refine Zh ?_
   exact ⟨hE.sub ⟨rfl,rfl,trivial⟩,hM⟩
  ·have hl4:=Zt hl4 hb10
   refine Zq hE (Zj hE rfl (lkb rfl hb10)) (by decide) rfl (KB) fun a hE=>ZK (v:=(vI p0.Next)) hE (Zj hE rfl (lkb rfl hb10)) (by decide) rfl ty2 rfl (At.cat (pre:=[[v0_1]]) hM.rawAt0 ck) ?_; intro a hE
   obtain ⟨r12,e13,hl4⟩:=bind_some hl4
   refine ZV hE (Zj hE rfl (lkb rfl hb10)) (by decide) rfl JE (YV _ p0.Next 1 1000000 r12 e13) ?_
   rintro v w a ⟨rfl,hK⟩ hE
   have hM:=hM.keep hK
   refine QE hE (Zj hE rfl (lkb rfl hb10)) (by decide) rfl fun a hE=>YB hE (lkb rfl hb10) rfl fun a hE=>Zd hE rfl ?_; intro a hE
   refine YK (!r12) (fun hb14=>?_) (fun hb14=>?_)
   ·have hl4:=Zs hl4 hb14
    refine Zm hE rfl (lkb rfl hb14) rfl (by decide) fun a hE=>Zm hE rfl (lkb rfl hb14) rfl (by decide) fun a hE=>Zm hE rfl (lkb rfl hb14) rfl (by decide) fun a hE=>Zm hE rfl (lkb rfl hb14) rfl (by decide) fun a hE=>Z8 hE (lkb rfl hb14) rfl fun a hE=>Zd hE rfl fun a hE=>Zm hE rfl rfl rfl (by decide) fun a hE=>Zm hE rfl rfl rfl (by decide) fun a hE=>Zm hE rfl rfl rfl (by decide) fun a hE=>Zm hE rfl rfl rfl (by decide) fun a hE=>Z8 hE rfl rfl fun a hE=>Zf ?_
    obtain rfl:=Option.some.inj hl4
    refine Zh ?_
    exact ⟨hE.sub ⟨rfl,rfl,trivial⟩,hM⟩
   ·have hl4:=Zt hl4 hb14
    refine Zq hE (Zj hE rfl (lkb rfl hb14)) (by decide) rfl (Vy) fun a hE=>ZK (v:=v0_2) hE (Zj hE rfl (lkb rfl hb14)) (by decide) rfl Q4 rfl (At.cat (pre:=[[v0_1],[vI p0.Next]]) hM.rawAt0 ck) fun a hE=>Kj hE (Zj hE rfl (lkb rfl hb14)) (by decide) rfl Tryz.underlying55 (hM.rd hv0_2) fun a hE=>Ye hE (Zj hE rfl (lkb rfl hb14)) (by decide) rfl rfl rfl fun a hE=>YB hE (lkb rfl hb14) rfl fun a hE=>Zd hE rfl ?_; intro a hE
    refine YK (decide ((p0.Records.length : Int) > 12)) (fun hb16=>?_) (fun hb16=>?_)
    ·have hl4:=Zs hl4 hb16
     refine Zm hE rfl (lkb rfl hb16) rfl (by decide) fun a hE=>Zm hE rfl (lkb rfl hb16) rfl (by decide) fun a hE=>Zm hE rfl (lkb rfl hb16) rfl (by decide) fun a hE=>Zm hE rfl (lkb rfl hb16) rfl (by decide) fun a hE=>Z8 hE (lkb rfl hb16) rfl fun a hE=>Zf ?_
     obtain rfl:=Option.some.inj hl4
     refine Zh ?_
     exact ⟨hE.sub ⟨rfl,rfl,trivial⟩,hM⟩
    ·have hl4:=Zt hl4 hb16
     refine Zq hE (Zj hE rfl (lkb rfl hb16)) (by decide) rfl (TZ) fun a hE=>ZK (v:=v0_3) hE (Zj hE rfl (lkb rfl hb16)) (by decide) rfl Jv rfl (At.cat (pre:=[[v0_1],[vI p0.Next],[v0_2]]) hM.rawAt0 ck) fun a hE=>Kj hE (Zj hE rfl (lkb rfl hb16)) (by decide) rfl Tryz.underlying56 (hM.rd hv0_3) fun a hE=>Ye hE (Zj hE rfl (lkb rfl hb16)) (by decide) rfl rfl rfl fun a hE=>YB hE (lkb rfl hb16) rfl fun a hE=>Zf ?_
     obtain rfl:=Option.some.inj hl4
     refine Zh ?_
     exact ⟨hE.sub ⟨rfl,rfl,trivial⟩,hM⟩
 ·skip
  rintro a w ⟨hE,hM⟩
  refine Zo hE rfl ?_ ?_
  ·intro hb19
   have hF5:=Zs hF5 hb19
   refine Zb (Zc hE rfl fun a hE=>Ze ?_)
   obtain rfl:=Option.some.inj hF5
   exact wp_ret (ZA (kr1 hE rfl rfl hM.kept))
  ·intro hb19
   have hF5:=Zt hF5 hb19
   refine wp_skip (Zu (wp_seq (Zb (Zg hE rfl (Vy) fun a hE=>Zw (v:=v0_2) hE rfl Q4 rfl (At.cat (pre:=[[v0_1],[vI p0.Next]]) hM.rawAt0 ck) fun a hE=>Z2 hE rfl Tryz.underlying55 (hM.rd hv0_2) fun a hE=>Zd hE rfl fun a hE=>Ze ?_))))
   obtain ⟨j20,hl21,hF22⟩:=bind_some hF5
   refine ZJ (fun a w=>∃ s23 : Unit,j20 = Fl.nx s23 ∧ Env 84 a [(1,(ptr b1 0))] ∧ M (Old w0) w0 w [raw b1 (cat [[v0_1],[vI p0.Next],[v0_2],[v0_3],enc p0.Head])]) ?_ ?_
   ·skip
    refine wp_block ?_
    refine ZC (fun (s24 : Int) a w=>Env 84 a [(1,(ptr b1 0)),(29,v0_2),(30,(vI (p0.Records.length : Int))),(31,vI s24)] ∧ M (Old w0) w0 w [raw b1 (cat [[v0_1],[vI p0.Next],[v0_2],[v0_3],enc p0.Head])]) hl21 ⟨hE.sub ⟨rfl,rfl,rfl,rfl,trivial⟩,hM⟩ ?_
    rintro s24 a w ⟨hE,hM⟩ o27 hs25 hx26
    unfold Va at hs25
    refine Zb (Zi hE rfl rfl rfl fun a hE=>Ze (wp_seq ?_))
    refine Zo hE rfl ?_ ?_
    ·intro hb28
     have hs25:=Zs hs25 hb28
     refine wp_skip (Zu (wp_seq (wp_block (Zb (Zd hE rfl ?_))))); intro a hE
     obtain ⟨x29,hi31,hs25⟩:=bix hs25
     refine ZL hE rfl rfl Tryz.underlying55 YA (hM.rd hv0_2) hi31.1 ?_; intro a hE
     obtain ⟨cs32,hs33,hA34⟩:=X3 hv0_2 hi31.2 -- ^
     obtain ⟨u35,u37,rfl,h36,h38⟩:=Y1 hs33 -- ^
     refine Zr hE rfl YA rfl (hM.atk hA34 (VR hv0_2 hi31.2)) cq fun a hE=>Zz hE hM YA fun b39 w a hM hE=>Zc hE rfl fun a hE=>Zn (seg:=cat [[vI x29.Number],[vI x29.Version],enc x29.Nonce,[u35],[u37],enc x29.Tag]) (cs':=cat [[vI x29.Number],[vI x29.Version],enc x29.Nonce,[u35],[u37],enc x29.Tag]) hE hM Za rfl rfl rfl YA cq (Nat.le_of_eq ((Nat.zero_add _).trans (Eq.trans cq (Eq.symm cq)))) (Xv (cc1 (Flat.cell (x29.Number : Int)) (cc1 (Flat.cell (x29.Version : Int)) (cc1 (Flat.cell _) (cc1 (Rep.cell (hM.rd h36)) (cc1 (Rep.cell (hM.rd h38)) (cc1 (Flat.cell _) cc0))))))) (Zk (Eq.trans cq (Eq.symm cq))) fun w a hM hE=>Ze (wp_seq ?_)
     obtain ⟨j41,hl42,hF43⟩:=bind_some hs25
     refine ZI (fun a w=>Env 84 a [(1,(ptr b1 0)),(4,(ptr b39 0)),(29,v0_2),(30,(vI (p0.Records.length : Int))),(31,vI s24),(58,vT j41)] ∧ M (Old w0) w0 w [raw b39 (cat [[vI x29.Number],[vI x29.Version],enc x29.Nonce,[u35],[u37],enc x29.Tag]),raw b1 (cat [[v0_1],[vI p0.Next],[v0_2],[v0_3],enc p0.Head])]) ?_ ?_
     ·skip
      obtain ⟨r45,e46,hl42⟩:=bind_some hl42
      refine YK (!r45) (fun hb47=>?_) (fun hb47=>?_)
      ·have hl42:=Zs hl42 hb47
       refine ZX [36,37,38,39,40,41,42,43,44,45,46,47,48,49,50,51,52,53,54,55,56,57,58] Yy rfl rfl (by decide) rfl hE hM (qsP (fun z=>Zq z.E Za ld rfl (XX) (kr0 rfl)) (qsP (fun z=>ZK (v:=(vI x29.Number)) z.E Za ld rfl ty2 rfl (At.cat (pre:=[]) (z.M.rawAt0) cl0) (kr0 rfl)) (qsP (fun z=>Zq z.E Za ld rfl (KB) (kr0 rfl)) (qsP (fun z=>ZK (v:=(vI p0.Next)) z.E Za ld rfl ty2 rfl (At.cat (pre:=[[v0_1]]) (z.M.rawAt1) ck) (kr0 rfl)) (qsP (v:=(vI (wr (p0.Next - 1)))) (fun z=>Ye z.E Za ld rfl rfl rfl (kr0 rfl)) (qsP (fun z=>ZV z.E Za ld rfl JE (YV _ x29.Number 1 (wr (p0.Next - 1)) r45 e46) (kc rfl)) (qsP (fun z=>QE z.E Za ld rfl (kr0 rfl)) (qsP (fun z=>Zp z.E Za ld rfl (kr0 rfl)) (qsP (fun z=>Zm z.E rfl (lkb rfl hb47) rfl (by decide) (kr0 rfl)) (qsP (fun z=>Zm z.E rfl (lkb rfl hb47) rfl (by decide) (kr0 rfl)) (qsP (fun z=>Zm z.E rfl (lkb rfl hb47) rfl (by decide) (kr0 rfl)) (qsP (fun z=>X6 z.E rfl rfl (by decide) (kr0 rfl)) (qsP (fun z=>X6 z.E rfl rfl (by decide) (kr0 rfl)) (qsP (fun z=>X6 z.E rfl rfl (by decide) (kr0 rfl)) (qsP (fun z=>X6 z.E rfl rfl (by decide) (kr0 rfl)) (qsP (fun z=>X6 z.E rfl rfl (by decide) (kr0 rfl)) (qsP (fun z=>X6 z.E rfl rfl (by decide) (kr0 rfl)) (qsP (fun z=>X6 z.E rfl rfl (by decide) (kr0 rfl)) (qsP (fun z=>X6 z.E rfl rfl (by decide) (kr0 rfl)) (qsP (fun z=>X6 z.E rfl rfl (by decide) (kr0 rfl)) (qsP (fun z=>X6 z.E rfl rfl (by decide) (kr0 rfl)) (qsP (fun z=>Zm z.E rfl (lkb rfl hb47) rfl (by decide) (kr0 rfl)) (qsP (fun z=>Qr z.E Za ld (lkb rfl hb47) rfl (kr0 rfl)) qs0))))))))))))))))))))))) ?_
       ·intro a w u hE hM
        refine Zf ?_
        obtain rfl:=Option.some.inj hl42
        refine Zh ?_
        exact ⟨hE.sub ⟨rfl,rfl,rfl,rfl,rfl,rfl,trivial⟩,hM⟩
      ·have hl42:=Zt hl42 hb47
       refine YK (decide (s24 > 0)) (fun hb49=>?_) (fun hb49=>?_)
       ·have hl42:=Zs hl42 hb49
        obtain ⟨x50,hi52,hl42⟩:=bix hl42
        obtain ⟨cs53,hs54,hA55⟩:=X3 hv0_2 hi52.2 -- ^
        obtain ⟨u56,u58,rfl,h57,h59⟩:=Y1 hs54 -- ^
        refine ZX [36,37,38,39,40,41,42,43,44,45,46,47,48,49,50,51,52,53,54,55,56,57,58] Yy rfl rfl (by decide) rfl hE hM (qsP (fun z=>Zq z.E Za ld rfl (XX) (kr0 rfl)) (qsP (fun z=>ZK (v:=(vI x29.Number)) z.E Za ld rfl ty2 rfl (At.cat (pre:=[]) (z.M.rawAt0) cl0) (kr0 rfl)) (qsP (fun z=>Zq z.E Za ld rfl (KB) (kr0 rfl)) (qsP (fun z=>ZK (v:=(vI p0.Next)) z.E Za ld rfl ty2 rfl (At.cat (pre:=[[v0_1]]) (z.M.rawAt1) ck) (kr0 rfl)) (qsP (v:=(vI (wr (p0.Next - 1)))) (fun z=>Ye z.E Za ld rfl rfl rfl (kr0 rfl)) (qsP (fun z=>ZV z.E Za ld rfl JE (YV _ x29.Number 1 (wr (p0.Next - 1)) r45 e46) (kc rfl)) (qsP (fun z=>QE z.E Za ld rfl (kr0 rfl)) (qsP (fun z=>Zp z.E Za ld rfl (kr0 rfl)) (qsP (fun z=>Zp z.E (Zj z.E rfl (lkb rfl hb47)) (by decide) rfl (kr0 rfl)) (qsP (fun z=>Ye z.E (Zj z.E rfl (lkb rfl hb47)) (by decide) rfl rfl rfl (kr0 rfl)) (qsP (fun z=>Zp z.E (Zj z.E rfl (lkb rfl hb47)) (by decide) rfl (kr0 rfl)) (qsP (fun z=>Zq z.E (Zj z.E rfl (lkb rfl hb49)) (by decide) rfl (Vy) (kr0 rfl)) (qsP (fun z=>ZK (v:=v0_2) z.E (Zj z.E rfl (lkb rfl hb49)) (by decide) rfl Q4 rfl (At.cat (pre:=[[v0_1],[vI p0.Next]]) (z.M.rawAt1) ck) (kr0 rfl)) (qsP (fun z=>Zp z.E (Zj z.E rfl (lkb rfl hb49)) (by decide) rfl (kr0 rfl)) (qsP (v:=(vI (wr (s24 - 1)))) (fun z=>Ye z.E (Zj z.E rfl (lkb rfl hb49)) (by decide) rfl rfl rfl (kr0 rfl)) (qsP (fun z=>Yl z.E (Zj z.E rfl (lkb rfl hb49)) (by decide) rfl rfl Tryz.underlying55 YA (z.M.rd hv0_2) hi52.1 (kr0 rfl)) (qsP (fun z=>Zq z.E (Zj z.E rfl (lkb rfl hb49)) (by decide) rfl (XX) (kr0 rfl)) (qsP (fun z=>ZK (v:=(vI x50.Number)) z.E (Zj z.E rfl (lkb rfl hb49)) (by decide) rfl ty2 rfl (At.cat (pre:=[]) (z.M.atk hA55 (VR hv0_2 hi52.2)) cl0) (kr0 rfl)) (qsP (fun z=>Zq z.E (Zj z.E rfl (lkb rfl hb49)) (by decide) rfl (XX) (kr0 rfl)) (qsP (fun z=>ZK (v:=(vI x29.Number)) z.E (Zj z.E rfl (lkb rfl hb49)) (by decide) rfl ty2 rfl (At.cat (pre:=[]) (z.M.rawAt0) cl0) (kr0 rfl)) (qsP (fun z=>Ye z.E (Zj z.E rfl (lkb rfl hb49)) (by decide) rfl rfl rfl (kr0 rfl)) (qsP (fun z=>Qr z.E (Zj z.E rfl (lkb rfl hb47)) (by decide) (lkb rfl hb49) rfl (kr0 rfl)) (qsP (fun z=>TQ z.E Za ld (lkb rfl hb47) rfl (kr0 rfl)) qs0))))))))))))))))))))))) ?_
        ·intro a w u hE hM
         refine Zf ?_
         obtain rfl:=Option.some.inj hl42
         refine Zh ?_
         exact ⟨hE.sub ⟨rfl,rfl,rfl,rfl,rfl,rfl,trivial⟩,hM⟩
       ·have hl42:=Zt hl42 hb49
        refine ZX [36,37,38,39,40,41,42,43,44,45,46,47,48,49,50,51,52,53,54,55,56,57,58] Yy rfl rfl (by decide) rfl hE hM (qsP (fun z=>Zq z.E Za ld rfl (XX) (kr0 rfl)) (qsP (fun z=>ZK (v:=(vI x29.Number)) z.E Za ld rfl ty2 rfl (At.cat (pre:=[]) (z.M.rawAt0) cl0) (kr0 rfl)) (qsP (fun z=>Zq z.E Za ld rfl (KB) (kr0 rfl)) (qsP (fun z=>ZK (v:=(vI p0.Next)) z.E Za ld rfl ty2 rfl (At.cat (pre:=[[v0_1]]) (z.M.rawAt1) ck) (kr0 rfl)) (qsP (v:=(vI (wr (p0.Next - 1)))) (fun z=>Ye z.E Za ld rfl rfl rfl (kr0 rfl)) (qsP (fun z=>ZV z.E Za ld rfl JE (YV _ x29.Number 1 (wr (p0.Next - 1)) r45 e46) (kc rfl)) (qsP (fun z=>QE z.E Za ld rfl (kr0 rfl)) (qsP (fun z=>Zp z.E Za ld rfl (kr0 rfl)) (qsP (fun z=>Zp z.E (Zj z.E rfl (lkb rfl hb47)) (by decide) rfl (kr0 rfl)) (qsP (fun z=>Ye z.E (Zj z.E rfl (lkb rfl hb47)) (by decide) rfl rfl rfl (kr0 rfl)) (qsP (fun z=>Zp z.E (Zj z.E rfl (lkb rfl hb47)) (by decide) rfl (kr0 rfl)) (qsP (fun z=>Zm z.E rfl (lkb rfl hb49) rfl (by decide) (kr0 rfl)) (qsP (fun z=>Zm z.E rfl (lkb rfl hb49) rfl (by decide) (kr0 rfl)) (qsP (fun z=>Zm z.E rfl (lkb rfl hb49) rfl (by decide) (kr0 rfl)) (qsP (fun z=>Zm z.E rfl (lkb rfl hb49) rfl (by decide) (kr0 rfl)) (qsP (fun z=>Zm z.E rfl (lkb rfl hb49) rfl (by decide) (kr0 rfl)) (qsP (fun z=>Zm z.E rfl (lkb rfl hb49) rfl (by decide) (kr0 rfl)) (qsP (fun z=>Zm z.E rfl (lkb rfl hb49) rfl (by decide) (kr0 rfl)) (qsP (fun z=>Zm z.E rfl (lkb rfl hb49) rfl (by decide) (kr0 rfl)) (qsP (fun z=>Zm z.E rfl (lkb rfl hb49) rfl (by decide) (kr0 rfl)) (qsP (fun z=>Zm z.E rfl (lkb rfl hb49) rfl (by decide) (kr0 rfl)) (qsP (fun z=>TQ z.E (Zj z.E rfl (lkb rfl hb47)) (by decide) (lkb rfl hb49) rfl (kr0 rfl)) (qsP (fun z=>TQ z.E Za ld (lkb rfl hb47) rfl (kr0 rfl)) qs0))))))))))))))))))))))) ?_
        ·intro a w u hE hM
         refine Zf ?_
         obtain rfl:=Option.some.inj hl42
         refine Zh ?_
         exact ⟨hE.sub ⟨rfl,rfl,rfl,rfl,rfl,rfl,trivial⟩,hM⟩
     ·skip
      rintro a w ⟨hE,hM⟩
      refine Zo hE rfl ?_ ?_
      ·intro hb62
       have hF43:=Zs hF43 hb62
       refine Zb (Zc hE rfl fun a hE=>Ze ?_)
       obtain rfl:=hx26 _ (ois hF43)
       obtain rfl:=Option.some.inj hF22
       exact wp_ret (ZA (XH (ZA (ZA (XH (ZA (ZA (kr1 hE rfl rfl hM.kept))))))))
      ·intro hb62
       have hF43:=Zt hF43 hb62
       refine wp_skip (Zu ?_)
       obtain ⟨j64,hl65,hF66⟩:=bind_some hF43
       refine ZI (fun a w=>Env 84 a [(1,(ptr b1 0)),(29,v0_2),(30,(vI (p0.Records.length : Int))),(31,vI s24),(78,vT j64)] ∧ M (Old w0) w0 w [raw b1 (cat [[v0_1],[vI p0.Next],[v0_2],[v0_3],enc p0.Head])]) ?_ ?_
       ·skip
        obtain ⟨r68,e69,hl65⟩:=bind_some hl65
        obtain ⟨r70,e71,hl65⟩:=bind_some hl65
        refine YK (!r70) (fun hb72=>?_) (fun hb72=>?_)
        ·have hl65:=Zs hl65 hb72
         refine ZX [59,60,61,62,63,64,65,66,67,68,69,70,71,72,73,74,75,76,77,78] Yy rfl rfl (by decide) rfl hE hM (qsP (fun z=>Zq z.E Za ld rfl (TR) (kr0 rfl)) (qsP (fun z=>ZK (v:=(vI x29.Version)) z.E Za ld rfl ty2 rfl (At.cat (pre:=[[vI x29.Number]]) (z.M.rawAt0) ck) (kr0 rfl)) (qsP (fun z=>Zq z.E Za ld rfl (Qj) (kr0 rfl)) (qsP (fun z=>ZK (v:=v0_1) z.E Za ld rfl HV rfl (At.cat (pre:=[]) (z.M.rawAt1) cl0) (kr0 rfl)) (qsP (fun z=>ZV z.E Za ld rfl qh (XI _ p0.Keys v0_1 (z.M.rdo hv0_1) r68 e69) (kc rfl)) (qsP (v:=(vI (wr (r68 - 1)))) (fun z=>Ye z.E Za ld rfl rfl rfl (kr0 rfl)) (qsP (fun z=>ZV z.E Za ld rfl JE (YV _ x29.Version 0 (wr (r68 - 1)) r70 e71) (kc rfl)) (qsP (fun z=>QE z.E Za ld rfl (kr0 rfl)) (qsP (fun z=>Zp z.E Za ld rfl (kr0 rfl)) (qsP (fun z=>Zm z.E rfl (lkb rfl hb72) rfl (by decide) (kr0 rfl)) (qsP (fun z=>Zm z.E rfl (lkb rfl hb72) rfl (by decide) (kr0 rfl)) (qsP (fun z=>Zm z.E rfl (lkb rfl hb72) rfl (by decide) (kr0 rfl)) (qsP (fun z=>Zm z.E rfl (lkb rfl hb72) rfl (by decide) (kr0 rfl)) (qsP (fun z=>Qr z.E Za ld (lkb rfl hb72) rfl (kr0 rfl)) (qsP (fun z=>Zp z.E Za ld rfl (kr0 rfl)) (qsP (fun z=>Zm z.E rfl rfl rfl (by decide) (kr0 rfl)) (qsP (fun z=>Zm z.E rfl rfl rfl (by decide) (kr0 rfl)) (qsP (fun z=>Zm z.E rfl rfl rfl (by decide) (kr0 rfl)) (qsP (fun z=>Zm z.E rfl rfl rfl (by decide) (kr0 rfl)) (qsP (fun z=>Qr z.E Za ld rfl rfl (kr0 rfl)) qs0)))))))))))))))))))) ?_
         ·intro a w u hE hM
          refine Zf ?_
          obtain rfl:=Option.some.inj hl65
          refine Zh ?_
          have hM:=M.fst (l:=[_]) hM.pull1
          exact ⟨hE.sub ⟨rfl,rfl,rfl,rfl,rfl,trivial⟩,hM⟩
        ·have hl65:=Zt hl65 hb72
         refine YK (decide ((x29.Label.length : Int) > 32)) (fun hb74=>?_) (fun hb74=>?_)
         ·have hl65:=Zs hl65 hb74
          refine ZX [59,60,61,62,63,64,65,66,67,68,69,70,71,72,73,74,75,76,77,78] Yy rfl rfl (by decide) rfl hE hM (qsP (fun z=>Zq z.E Za ld rfl (TR) (kr0 rfl)) (qsP (fun z=>ZK (v:=(vI x29.Version)) z.E Za ld rfl ty2 rfl (At.cat (pre:=[[vI x29.Number]]) (z.M.rawAt0) ck) (kr0 rfl)) (qsP (fun z=>Zq z.E Za ld rfl (Qj) (kr0 rfl)) (qsP (fun z=>ZK (v:=v0_1) z.E Za ld rfl HV rfl (At.cat (pre:=[]) (z.M.rawAt1) cl0) (kr0 rfl)) (qsP (fun z=>ZV z.E Za ld rfl qh (XI _ p0.Keys v0_1 (z.M.rdo hv0_1) r68 e69) (kc rfl)) (qsP (v:=(vI (wr (r68 - 1)))) (fun z=>Ye z.E Za ld rfl rfl rfl (kr0 rfl)) (qsP (fun z=>ZV z.E Za ld rfl JE (YV _ x29.Version 0 (wr (r68 - 1)) r70 e71) (kc rfl)) (qsP (fun z=>QE z.E Za ld rfl (kr0 rfl)) (qsP (fun z=>Zp z.E Za ld rfl (kr0 rfl)) (qsP (fun z=>Zq z.E (Zj z.E rfl (lkb rfl hb72)) (by decide) rfl (Qc) (kr0 rfl)) (qsP (fun z=>ZK (v:=u35) z.E (Zj z.E rfl (lkb rfl hb72)) (by decide) rfl UP rfl (At.cat (pre:=[[vI x29.Number],[vI x29.Version],enc x29.Nonce]) (z.M.rawAt0) ck) (kr0 rfl)) (qsP (fun z=>Kj z.E (Zj z.E rfl (lkb rfl hb72)) (by decide) rfl Tryz.underlying40 (z.M.rd h36) (kr0 rfl)) (qsP (fun z=>Ye z.E (Zj z.E rfl (lkb rfl hb72)) (by decide) rfl rfl rfl (kr0 rfl)) (qsP (fun z=>TQ z.E Za ld (lkb rfl hb72) rfl (kr0 rfl)) (qsP (fun z=>Zp z.E Za ld rfl (kr0 rfl)) (qsP (fun z=>Zm z.E rfl (lkb rfl hb74) rfl (by decide) (kr0 rfl)) (qsP (fun z=>Zm z.E rfl (lkb rfl hb74) rfl (by decide) (kr0 rfl)) (qsP (fun z=>Zm z.E rfl (lkb rfl hb74) rfl (by decide) (kr0 rfl)) (qsP (fun z=>Zm z.E rfl (lkb rfl hb74) rfl (by decide) (kr0 rfl)) (qsP (fun z=>Qr z.E Za ld (lkb rfl hb74) rfl (kr0 rfl)) qs0)))))))))))))))))))) ?_
          ·intro a w u hE hM
           refine Zf ?_
           obtain rfl:=Option.some.inj hl65
           refine Zh ?_
           have hM:=M.fst (l:=[_]) hM.pull1
           exact ⟨hE.sub ⟨rfl,rfl,rfl,rfl,rfl,trivial⟩,hM⟩
         ·have hl65:=Zt hl65 hb74
          refine ZX [59,60,61,62,63,64,65,66,67,68,69,70,71,72,73,74,75,76,77,78] Yy rfl rfl (by decide) rfl hE hM (qsP (fun z=>Zq z.E Za ld rfl (TR) (kr0 rfl)) (qsP (fun z=>ZK (v:=(vI x29.Version)) z.E Za ld rfl ty2 rfl (At.cat (pre:=[[vI x29.Number]]) (z.M.rawAt0) ck) (kr0 rfl)) (qsP (fun z=>Zq z.E Za ld rfl (Qj) (kr0 rfl)) (qsP (fun z=>ZK (v:=v0_1) z.E Za ld rfl HV rfl (At.cat (pre:=[]) (z.M.rawAt1) cl0) (kr0 rfl)) (qsP (fun z=>ZV z.E Za ld rfl qh (XI _ p0.Keys v0_1 (z.M.rdo hv0_1) r68 e69) (kc rfl)) (qsP (v:=(vI (wr (r68 - 1)))) (fun z=>Ye z.E Za ld rfl rfl rfl (kr0 rfl)) (qsP (fun z=>ZV z.E Za ld rfl JE (YV _ x29.Version 0 (wr (r68 - 1)) r70 e71) (kc rfl)) (qsP (fun z=>QE z.E Za ld rfl (kr0 rfl)) (qsP (fun z=>Zp z.E Za ld rfl (kr0 rfl)) (qsP (fun z=>Zq z.E (Zj z.E rfl (lkb rfl hb72)) (by decide) rfl (Qc) (kr0 rfl)) (qsP (fun z=>ZK (v:=u35) z.E (Zj z.E rfl (lkb rfl hb72)) (by decide) rfl UP rfl (At.cat (pre:=[[vI x29.Number],[vI x29.Version],enc x29.Nonce]) (z.M.rawAt0) ck) (kr0 rfl)) (qsP (fun z=>Kj z.E (Zj z.E rfl (lkb rfl hb72)) (by decide) rfl Tryz.underlying40 (z.M.rd h36) (kr0 rfl)) (qsP (fun z=>Ye z.E (Zj z.E rfl (lkb rfl hb72)) (by decide) rfl rfl rfl (kr0 rfl)) (qsP (fun z=>TQ z.E Za ld (lkb rfl hb72) rfl (kr0 rfl)) (qsP (fun z=>Zp z.E Za ld rfl (kr0 rfl)) (qsP (fun z=>Zq z.E (Zj z.E rfl (lkb rfl hb74)) (by decide) rfl (Kc) (kr0 rfl)) (qsP (fun z=>ZK (v:=u37) z.E (Zj z.E rfl (lkb rfl hb74)) (by decide) rfl UP rfl (At.cat (pre:=[[vI x29.Number],[vI x29.Version],enc x29.Nonce,[u35]]) (z.M.rawAt0) ck) (kr0 rfl)) (qsP (fun z=>Kj z.E (Zj z.E rfl (lkb rfl hb74)) (by decide) rfl Tryz.underlying40 (z.M.rd h38) (kr0 rfl)) (qsP (fun z=>Ye z.E (Zj z.E rfl (lkb rfl hb74)) (by decide) rfl rfl rfl (kr0 rfl)) (qsP (fun z=>TQ z.E Za ld (lkb rfl hb74) rfl (kr0 rfl)) qs0)))))))))))))))))))) ?_
          ·intro a w u hE hM
           refine Zf ?_
           obtain rfl:=Option.some.inj hl65
           refine Zh ?_
           have hM:=M.fst (l:=[_]) hM.pull1
           exact ⟨hE.sub ⟨rfl,rfl,rfl,rfl,rfl,trivial⟩,hM⟩
       ·skip
        rintro a w ⟨hE,hM⟩
        refine Zo hE rfl ?_ ?_
        ·intro hb77
         have hF66:=Zs hF66 hb77
         refine Zb (Zc hE rfl fun a hE=>Ze ?_)
         obtain rfl:=hx26 _ (ois hF66)
         obtain rfl:=Option.some.inj hF22
         exact wp_ret (XH (ZA (ZA (XH (ZA (ZA (kr1 hE rfl rfl hM.kept)))))))
        ·intro hb77
         have hF66:=Zt hF66 hb77
         refine wp_skip (Z4 (Zu (wp_region_lit (Zi hE rfl rfl rfl fun a hE=>Zd hE rfl fun a hE=>Zf (Zh ?_)))))
         exact ⟨_,(ois hF66),hE.sub ⟨rfl,rfl,rfl,rfl,trivial⟩,hM⟩
    ·intro hb28
     have hs25:=Zt hs25 hb28
     refine wp_exit (Zl (Zl (Z5 ?_)))
     obtain rfl:=hx26 _ (ois hs25)
     refine Zh ?_
     exact ⟨(),rfl,hE.sub ⟨rfl,trivial⟩,hM⟩
   ·skip
    rintro a w ⟨s23,ht,hE,hM⟩
    subst ht
    have hF22:=Qu hF22
    refine Zu (Zb (Zg hE rfl (TZ) fun a hE=>Zw (v:=v0_3) hE rfl Jv rfl (At.cat (pre:=[[v0_1],[vI p0.Next],[v0_2]]) hM.rawAt0 ck) ?_)); intro a hE
    obtain ⟨r80,e81,hF22⟩:=bind_some hF22
    refine Zx hE rfl (cbm Tryz.func159) (V9 _ p0.Events v0_3 (hM.rdo hv0_3) (fun z0=>VL z0) 160 [] (cbm Tryz.func160) (fun w2 hk2 z0 zr zhr=>Bv w2 z0 zr zhr) r80 e81) ?_
    rintro v w a ⟨rfl,hK⟩ hE
    have hM:=hM.keep hK
    refine Qa hE rfl fun a hE=>Zc hE rfl fun a hE=>Ze ?_
    obtain rfl:=Option.some.inj hF22
    exact wp_ret (kr1 hE rfl rfl hM.kept)
def Tj (p1 : Int) (p2 : Int) (s4 : Int × Int) : Option (Fl (Int × Int) Int) :=
 if (decide (s4.2 ≥ p2)) = true then (((XP s4.2).bind fun _=>(if ((QM (TB s4.1 s4.2) 1) == 1) = true then ((XP (wr (s4.2 - p2))).bind fun _=>some (Bn s4.1 (zU p1 (wr (s4.2 - p2))))) else (some s4.1) : Option (Int)).bind fun j13=>some j13 : Option (Int)).bind fun j9=>some (Fl.nx (j9,wr (s4.2 - 1)))) else (some (Fl.ex s4.1))
def T0 (p0 : Int) (p1 : Int) (p2 : Int) : Option (Int) :=
 (ZB (Tj p1 p2) (p0,15)).bind fun j1=>some j1
theorem ju (w0 : World) (p0 : Int) (p1 : Int) (p2 : Int) (r : Int) (hF : T0 p0 p1 p2 = some r) :
  Calls Tryz.prog 240 [vI p0,vI p1,vI p2].toArray w0 (Rt w0 (vI r)):=by
 refine ce Tryz.func240 ?_
 intro a hE
 have hM:=M.start w0
 unfold T0 at hF
 refine Zb (Zc hE rfl fun a hE=>Ze (wp_seq (Zb (Zc hE rfl fun a hE=>Ze ?_))))
 obtain ⟨j1,hl2,hF3⟩:=bind_some hF
 refine ZJ (fun a w=>Env 26 a [(0,vI j1)] ∧ M (Old w0) w0 w []) ?_ ?_
 ·skip
  refine wp_block ?_
  refine ZC (fun (s4 : Int × Int) a w=>Env 26 a [(0,vI s4.1),(1,vI p1),(2,vI p2),(7,vI s4.2)] ∧ M (Old w0) w0 w []) hl2 ⟨hE.sub ⟨rfl,rfl,rfl,rfl,trivial⟩,hM⟩ ?_
  rintro s4 a w ⟨hE,hM⟩ o7 hs5 hx6
  unfold Tj at hs5
  refine wp_seq (Zb (Zd hE rfl fun a hE=>Zd hE rfl fun a hE=>Zi hE rfl rfl rfl fun a hE=>Ze ?_))
  refine Zo hE rfl ?_ ?_
  ·intro hb8
   have hs5:=Zs hs5 hb8
   refine wp_skip (Zu ?_)
   obtain ⟨j9,hl10,hF11⟩:=bind_some hs5
   refine ZI (fun a w=>Env 26 a [(0,vI j9),(1,vI p1),(2,vI p2),(7,vI s4.2)] ∧ M (Old w0) w0 w []) ?_ ?_
   ·skip
    refine wp_block (Zb (Zd hE rfl fun a hE=>Zd hE rfl ?_)); intro a hE
    obtain ⟨_,e12,hl10⟩:=bind_some hl10
    have e12:=Vg e12
    refine Bw hE Za ld rfl rfl (JY _ _ e12) fun a hE=>Zi hE rfl rfl rfl fun a hE=>Zi hE rfl rfl rfl fun a hE=>Ze ?_
    obtain ⟨j13,hl14,hF15⟩:=bind_some hl10
    refine ZJ (fun a w=>Env 26 a [(0,vI j13),(1,vI p1),(2,vI p2),(7,vI s4.2)] ∧ M (Old w0) w0 w []) ?_ ?_
    ·skip
     refine Zo hE rfl ?_ ?_
     ·intro hb16
      have hl14:=Zs hl14 hb16
      refine wp_region_lit (Zd hE rfl fun a hE=>Zd hE rfl fun a hE=>Zd hE rfl fun a hE=>Zd hE rfl fun a hE=>Zi hE rfl rfl rfl ?_); intro a hE
      obtain ⟨_,e17,hl14⟩:=bind_some hl14
      have e17:=Vg e17
      refine Bw hE Za ld rfl rfl (kL _ _ e17) fun a hE=>Zi hE rfl rfl rfl fun a hE=>Zc hE rfl fun a hE=>Zf ?_
      obtain rfl:=Option.some.inj hl14
      refine Zh ?_
      exact ⟨hE.sub ⟨rfl,rfl,rfl,rfl,trivial⟩,hM⟩
     ·intro hb16
      have hl14:=Zt hl14 hb16
      refine wp_skip ?_
      obtain rfl:=Option.some.inj hl14
      refine Zh ?_
      exact ⟨hE.sub ⟨rfl,rfl,rfl,rfl,trivial⟩,hM⟩
    ·skip
     rintro a w ⟨hE,hM⟩
     refine Z4 ?_
     obtain rfl:=Option.some.inj hF15
     refine Zh ?_
     exact ⟨hE.sub ⟨rfl,rfl,rfl,rfl,trivial⟩,hM⟩
   ·skip
    rintro a w ⟨hE,hM⟩
    refine wp_region_lit (Zd hE rfl fun a hE=>Zi hE rfl rfl rfl fun a hE=>Zc hE rfl fun a hE=>Zf (Zh ?_))
    exact ⟨_,(ois hF11),hE.sub ⟨rfl,rfl,rfl,rfl,trivial⟩,hM⟩
  ·intro hb8
   have hs5:=Zt hs5 hb8
   refine wp_exit (Zl (Zl (Z5 ?_)))
   obtain rfl:=hx6 _ (ois hs5)
   refine Zh ?_
   exact ⟨hE.sub ⟨rfl,trivial⟩,hM⟩
 ·skip
  rintro a w ⟨hE,hM⟩
  refine Zu (Zb (Zd hE rfl fun a hE=>Zc hE rfl fun a hE=>Ze ?_))
  obtain rfl:=Option.some.inj hF3
  exact wp_ret (kr1 hE rfl rfl hM.kept)
def Xk (p1 : UInt8) (p2 : UInt8) (s4 : Int × Int) : Option (Fl (Int × Int) Int) :=
 if (decide (s4.2 < 8)) = true then (((XP s4.2).bind fun _=>(if (((AT p2 s4.2) &&& 1) == 1) = true then ((XP s4.2).bind fun _=>some (Bn s4.1 (zU (bI p1) s4.2))) else (some s4.1) : Option (Int)).bind fun j13=>some j13 : Option (Int)).bind fun j9=>some (Fl.nx (j9,wr (s4.2 + 1)))) else (some (Fl.ex s4.1))
def Yb (p0 : Int) (p1 : UInt8) (p2 : UInt8) : Option (UInt8) :=
 (ZB (Xk p1 p2) (0,0)).bind fun j1=>(T0 j1 p0 8).bind fun r22=>some (Zv r22)
theorem YI (w0 : World) (p0 : Int) (p1 : UInt8) (p2 : UInt8) (r : UInt8) (hF : Yb p0 p1 p2 = some r) :
  Calls Tryz.prog 233 [vI p0,vB p1,vB p2].toArray w0 (Rt w0 (vB r)):=by
 refine ce Tryz.func233 ?_
 intro a hE
 have hM:=M.start w0
 unfold Yb at hF
 refine Zb (Zc hE rfl fun a hE=>Ze (Zb (Zc hE rfl fun a hE=>Ze (wp_seq (Zb (Zd hE rfl fun a hE=>Ze ?_))))))
 obtain ⟨j1,hl2,hF3⟩:=bind_some hF
 refine ZJ (fun a w=>Env 28 a [(0,vI p0),(7,vI j1)] ∧ M (Old w0) w0 w []) ?_ ?_
 ·skip
  refine wp_block ?_
  refine ZC (fun (s4 : Int × Int) a w=>Env 28 a [(0,vI p0),(1,vB p1),(2,vB p2),(7,vI s4.1),(9,vI s4.2)] ∧ M (Old w0) w0 w []) hl2 ⟨hE.sub ⟨rfl,rfl,rfl,rfl,rfl,trivial⟩,hM⟩ ?_
  rintro s4 a w ⟨hE,hM⟩ o7 hs5 hx6
  unfold Xk at hs5
  refine Zb (Zi hE rfl rfl rfl fun a hE=>Ze (wp_seq ?_))
  refine Zo hE rfl ?_ ?_
  ·intro hb8
   have hs5:=Zs hs5 hb8
   refine wp_skip (Zu ?_)
   obtain ⟨j9,hl10,hF11⟩:=bind_some hs5
   refine ZI (fun a w=>Env 28 a [(0,vI p0),(1,vB p1),(2,vB p2),(7,vI j9),(9,vI s4.2)] ∧ M (Old w0) w0 w []) ?_ ?_
   ·skip
    refine wp_block (Zb (Zd hE rfl fun a hE=>Zc hE rfl fun a hE=>Ze (Zb (Zd hE rfl fun a hE=>Zd hE rfl ?_)))); intro a hE
    obtain ⟨_,e12,hl10⟩:=bind_some hl10
    have e12:=Vg e12
    refine Bw hE Za ld rfl rfl (Zcf _ _ e12) fun a hE=>Zi hE rfl rfl (bB_and (AT p2 s4.2) 1) fun a hE=>Zi hE rfl rfl (Zc3 ((AT p2 s4.2) &&& 1) 1) fun a hE=>Ze ?_
    obtain ⟨j13,hl14,hF15⟩:=bind_some hl10
    refine ZJ (fun a w=>Env 28 a [(0,vI p0),(1,vB p1),(2,vB p2),(7,vI j13),(9,vI s4.2)] ∧ M (Old w0) w0 w []) ?_ ?_
    ·skip
     refine Zo hE rfl ?_ ?_
     ·intro hb16
      have hl14:=Zs hl14 hb16
      refine wp_region_lit (Zd hE rfl fun a hE=>Zd hE rfl fun a hE=>Ag hE Za ld rfl Tryz.underlying5 Tryz.underlying2 fun a hE=>Zd hE rfl ?_); intro a hE
      obtain ⟨_,e17,hl14⟩:=bind_some hl14
      have e17:=Vg e17
      refine Bw hE Za ld rfl rfl (kL _ _ e17) fun a hE=>Zi hE rfl rfl rfl fun a hE=>Zc hE rfl fun a hE=>Zf ?_
      obtain rfl:=Option.some.inj hl14
      refine Zh ?_
      exact ⟨hE.sub ⟨rfl,rfl,rfl,rfl,rfl,trivial⟩,hM⟩
     ·intro hb16
      have hl14:=Zt hl14 hb16
      refine wp_skip ?_
      obtain rfl:=Option.some.inj hl14
      refine Zh ?_
      exact ⟨hE.sub ⟨rfl,rfl,rfl,rfl,rfl,trivial⟩,hM⟩
    ·skip
     rintro a w ⟨hE,hM⟩
     refine Z4 ?_
     obtain rfl:=Option.some.inj hF15
     refine Zh ?_
     exact ⟨hE.sub ⟨rfl,rfl,rfl,rfl,rfl,trivial⟩,hM⟩
   ·skip
    rintro a w ⟨hE,hM⟩
    refine wp_region_lit (Zi hE rfl rfl rfl fun a hE=>Zd hE rfl fun a hE=>Zf (Zh ?_))
    exact ⟨_,(ois hF11),hE.sub ⟨rfl,rfl,rfl,rfl,rfl,trivial⟩,hM⟩
  ·intro hb8
   have hs5:=Zt hs5 hb8
   refine wp_exit (Zl (Zl (Z5 ?_)))
   obtain rfl:=hx6 _ (ois hs5)
   refine Zh ?_
   exact ⟨hE.sub ⟨rfl,rfl,trivial⟩,hM⟩
 ·skip
  rintro a w ⟨hE,hM⟩
  refine Zu (Zb (Zd hE rfl fun a hE=>Zd hE rfl ?_)); intro a hE
  obtain ⟨r22,e23,hF3⟩:=bind_some hF3
  refine Zx hE rfl (cbm Tryz.func240) (ju _ j1 p0 8 r22 e23) ?_
  rintro v w a ⟨rfl,hK⟩ hE
  have hM:=hM.keep hK
  refine Yj hE Za ld rfl Tryz.underlying2 Tryz.underlying5 fun a hE=>Zc hE rfl fun a hE=>Ze ?_
  obtain rfl:=Option.some.inj hF3
  exact wp_ret (kr1 hE rfl rfl hM.kept)
def VE (p0 : Int) (s4 : UInt8 × Int × UInt8) : Option (Fl (UInt8 × Int × UInt8) UInt8) :=
 if (decide (s4.2.1 > 0)) = true then (((if ((Int.tmod s4.2.1 2) == 1) = true then ((Yb p0 s4.2.2 s4.1).bind fun r16=>some r16) else (some s4.2.2) : Option (UInt8)).bind fun j12=>(Yb p0 s4.1 s4.1).bind fun r20=>some (r20,j12) : Option (UInt8 × UInt8)).bind fun j9=>some (Fl.nx (j9.1,wr (Int.tdiv s4.2.1 2),j9.2))) else (some (Fl.ex s4.2.2))
def XE (p0 : Int) (p1 : UInt8) (p2 : Int) : Option (UInt8) :=
 (ZB (VE p0) (p1,p2,1)).bind fun j1=>some j1
theorem JS (w0 : World) (p0 : Int) (p1 : UInt8) (p2 : Int) (r : UInt8) (hF : XE p0 p1 p2 = some r) :
  Calls Tryz.prog 234 [vI p0,vB p1,vI p2].toArray w0 (Rt w0 (vB r)):=by
 refine ce Tryz.func234 ?_
 intro a hE
 have hM:=M.start w0
 unfold XE at hF
 refine Zb (Zc hE rfl fun a hE=>Ze (Zb (Zc hE rfl fun a hE=>Ze ?_)))
 obtain ⟨j1,hl2,hF3⟩:=bind_some hF
 refine ZI (fun a w=>Env 24 a [(7,vB j1)] ∧ M (Old w0) w0 w []) ?_ ?_
 ·skip
  refine wp_block ?_
  refine ZC (fun (s4 : UInt8 × Int × UInt8) a w=>Env 24 a [(0,vI p0),(1,vB s4.1),(2,vI s4.2.1),(7,vB s4.2.2)] ∧ M (Old w0) w0 w []) hl2 ⟨hE.sub ⟨rfl,rfl,rfl,rfl,trivial⟩,hM⟩ ?_
  rintro s4 a w ⟨hE,hM⟩ o7 hs5 hx6
  unfold VE at hs5
  refine wp_seq (Zb (Zd hE rfl fun a hE=>Zi hE rfl rfl rfl fun a hE=>Ze ?_))
  refine Zo hE rfl ?_ ?_
  ·intro hb8
   have hs5:=Zs hs5 hb8
   refine wp_skip (Zu ?_)
   obtain ⟨j9,hl10,hF11⟩:=bind_some hs5
   refine ZI (fun a w=>Env 24 a [(0,vI p0),(1,vB j9.1),(2,vI s4.2.1),(7,vB j9.2)] ∧ M (Old w0) w0 w []) ?_ ?_
   ·skip
    refine wp_block ?_
    obtain ⟨j12,hl13,hF14⟩:=bind_some hl10
    refine ZI (fun a w=>Env 24 a [(0,vI p0),(1,vB s4.1),(2,vI s4.2.1),(7,vB j12)] ∧ M (Old w0) w0 w []) ?_ ?_
    ·skip
     refine Zb (Zd hE rfl fun a hE=>Zi hE rfl rfl (Kf _ _ (by decide)) fun a hE=>Zi hE rfl rfl rfl fun a hE=>Ze ?_)
     refine Zo hE rfl ?_ ?_
     ·intro hb15
      have hl13:=Zs hl13 hb15
      refine wp_region_lit (Zd hE rfl fun a hE=>Zd hE rfl fun a hE=>Zd hE rfl ?_); intro a hE
      obtain ⟨r16,e17,hl13⟩:=bind_some hl13
      refine Zx hE rfl BG (YI _ p0 s4.2.2 s4.1 r16 e17) ?_
      rintro v w a ⟨rfl,hK⟩ hE
      have hM:=hM.keep hK
      refine Zc hE rfl fun a hE=>Zf ?_
      obtain rfl:=Option.some.inj hl13
      refine Zh ?_
      exact ⟨hE.sub ⟨rfl,rfl,rfl,rfl,trivial⟩,hM⟩
     ·intro hb15
      have hl13:=Zt hl13 hb15
      refine wp_skip ?_
      obtain rfl:=Option.some.inj hl13
      refine Zh ?_
      exact ⟨hE.sub ⟨rfl,rfl,rfl,rfl,trivial⟩,hM⟩
    ·skip
     rintro a w ⟨hE,hM⟩
     refine wp_region_lit (Zd hE rfl fun a hE=>Zd hE rfl fun a hE=>Zd hE rfl ?_); intro a hE
     obtain ⟨r20,e21,hF14⟩:=bind_some hF14
     refine Zx hE rfl BG (YI _ p0 s4.1 s4.1 r20 e21) ?_
     rintro v w a ⟨rfl,hK⟩ hE
     have hM:=hM.keep hK
     refine Zc hE rfl fun a hE=>Zf (Z4 ?_)
     obtain rfl:=Option.some.inj hF14
     refine Zh ?_
     exact ⟨hE.sub ⟨rfl,rfl,rfl,rfl,trivial⟩,hM⟩
   ·skip
    rintro a w ⟨hE,hM⟩
    refine wp_region_lit (Zd hE rfl fun a hE=>Zi hE rfl rfl (yF _ _ (by decide)) fun a hE=>Zc hE rfl fun a hE=>Zf (Zh ?_))
    exact ⟨_,(ois hF11),hE.sub ⟨rfl,rfl,rfl,rfl,trivial⟩,hM⟩
  ·intro hb8
   have hs5:=Zt hs5 hb8
   refine wp_exit (Zl (Zl (Z5 ?_)))
   obtain rfl:=hx6 _ (ois hs5)
   refine Zh ?_
   exact ⟨hE.sub ⟨rfl,trivial⟩,hM⟩
 ·skip
  rintro a w ⟨hE,hM⟩
  refine Zb (Zd hE rfl fun a hE=>Zc hE rfl fun a hE=>Ze ?_)
  obtain rfl:=Option.some.inj hF3
  exact wp_ret (kr1 hE rfl rfl hM.kept)
def Yh (p0 : Int) (p1 : UInt8) : Option (UInt8) :=
 (XE p0 p1 254).bind fun r1=>some r1
theorem U9 (w0 : World) (p0 : Int) (p1 : UInt8) (r : UInt8) (hF : Yh p0 p1 = some r) :
  Calls Tryz.prog 215 [vI p0,vB p1].toArray w0 (Rt w0 (vB r)):=by
 refine ce Tryz.func215 ?_
 intro a hE
 have hM:=M.start w0
 unfold Yh at hF
 refine Zb (Zc hE rfl fun a hE=>Ze (Zb (Zd hE rfl fun a hE=>Zd hE rfl ?_))); intro a hE
 obtain ⟨r1,e2,hF⟩:=bind_some hF
 refine Zx hE rfl (cbm Tryz.func234) (JS _ p0 p1 254 r1 e2) ?_
 rintro v w a ⟨rfl,hK⟩ hE
 have hM:=hM.keep hK
 refine Zc hE rfl fun a hE=>Ze ?_
 obtain rfl:=Option.some.inj hF
 exact wp_ret (kr1 hE rfl rfl hM.kept)
def Yg (p0 : UInt8) (p1 : Int) : Option (UInt8) :=
 (XP (wru (BitVec.ofInt 64 (IntKind.u64.wrap p1) &&& BitVec.ofInt 64 7).toNat)).bind fun _=>(XP (IntKind.u64.wrap (8 - (wru (BitVec.ofInt 64 (IntKind.u64.wrap p1) &&& BitVec.ofInt 64 7).toNat)))).bind fun _=>some ((shlB p0 (wru (BitVec.ofInt 64 (IntKind.u64.wrap p1) &&& BitVec.ofInt 64 7).toNat)) ||| (AT p0 (IntKind.u64.wrap (8 - (wru (BitVec.ofInt 64 (IntKind.u64.wrap p1) &&& BitVec.ofInt 64 7).toNat)))))
theorem T1 (w0 : World) (p0 : UInt8) (p1 : Int) (r : UInt8) (hF : Yg p0 p1 = some r) :
  Calls Tryz.prog 216 [vB p0,vI p1].toArray w0 (Rt w0 (vB r)):=by
 refine ce Tryz.func216 ?_
 intro a hE
 have hM:=M.start w0
 unfold Yg at hF
 refine Zb (Zc hE rfl fun a hE=>Ze (Zb (Zd hE rfl fun a hE=>AI hE Za ld rfl Tryz.underlying3 Tryz.underlying171 fun a hE=>Zi hE rfl rfl rfl fun a hE=>Zc hE rfl fun a hE=>Ze (Zb (Zd hE rfl fun a hE=>Zd hE rfl ?_))))); intro a hE
 obtain ⟨_,e1,hF⟩:=bind_some hF
 have e1:=Vg e1
 refine Bw hE Za ld rfl rfl (bB_shl _ _ e1) fun a hE=>Zd hE rfl fun a hE=>Zd hE rfl fun a hE=>Zi hE rfl rfl rfl ?_; intro a hE
 obtain ⟨_,e2,hF⟩:=bind_some hF
 have e2:=Vg e2
 refine Bw hE Za ld rfl rfl (Zcf _ _ e2) fun a hE=>Zi hE rfl rfl (bB_or (shlB p0 (wru (BitVec.ofInt 64 (IntKind.u64.wrap p1) &&& BitVec.ofInt 64 7).toNat)) (AT p0 (IntKind.u64.wrap (8 - (wru (BitVec.ofInt 64 (IntKind.u64.wrap p1) &&& BitVec.ofInt 64 7).toNat))))) fun a hE=>Zc hE rfl fun a hE=>Ze ?_
 obtain rfl:=Option.some.inj hF
 exact wp_ret (kr1 hE rfl rfl hM.kept)
def Wf (s8 : (Vector UInt8 256) × Int) : Option (Fl ((Vector UInt8 256) × Int) (Vector UInt8 256)) :=
 if (decide (s8.2 < 256)) = true then ((Yh 285 (Zv s8.2)).bind fun r13=>(Yg r13 1).bind fun r15=>(Yg r13 4).bind fun r17=>(ZH s8.1 s8.2).bind fun x20=>some (Fl.nx ((s8.1.setIfInBounds (s8.2).toNat (((r13 ^^^ r15) ^^^ r17) ^^^ 90)),wr (s8.2 + 1)))) else (some (Fl.ex s8.1))
def VH (s26 : (Vector (Vector UInt8 4) 4) × Int) (s34 : (Vector (Vector UInt8 4) 4) × Int) : Option (Fl ((Vector (Vector UInt8 4) 4) × Int) (Vector (Vector UInt8 4) 4)) :=
 if (decide (s34.2 < 4)) = true then ((Yh 285 (Zv (Bn s26.2 (wr (4 + s34.2))))).bind fun r40=>(ZH s34.1 s26.2).bind fun x43=>(ZH x43 s34.2).bind fun x46=>some (Fl.nx ((s34.1.setIfInBounds (s26.2).toNat (x43.setIfInBounds (s34.2).toNat r40)),wr (s34.2 + 1)))) else (some (Fl.ex s34.1))
def VD (s26 : (Vector (Vector UInt8 4) 4) × Int) : Option (Fl ((Vector (Vector UInt8 4) 4) × Int) (Vector (Vector UInt8 4) 4)) :=
 if (decide (s26.2 < 4)) = true then ((ZB (VH s26) (s26.1,0)).bind fun j31=>some (Fl.nx (j31,wr (s26.2 + 1)))) else (some (Fl.ex s26.1))
def VF (s53 : (Vector UInt8 16) × Int) : Option (Fl ((Vector UInt8 16) × Int) (Vector UInt8 16)) :=
 if (decide (s53.2 < 16)) = true then ((ZH s53.1 s53.2).bind fun x59=>some (Fl.nx ((s53.1.setIfInBounds (s53.2).toNat (Zv (Int.tmod (wr ((wr (13 * s53.2)) + 4)) 16))),wr (s53.2 + 1)))) else (some (Fl.ex s53.1))
def WF (p0 : Int) : Option (GCipher) :=
 (ZB (Wf) ((Vector.replicate 256 (0 : UInt8)),0)).bind fun j5=>(ZB (VD) ((Vector.replicate 4 (Vector.replicate 4 (0 : UInt8))),0)).bind fun j23=>(ZB (VF) ((Vector.replicate 16 (0 : UInt8)),0)).bind fun j50=>some (⟨285,j5,j23,j50,p0⟩ : GCipher)
theorem JU (w0 : World) (p0 : Int) (r : GCipher) (hF : WF p0 = some r) :
  Calls Tryz.prog 180 [vI p0].toArray w0 (Rt w0 (Value.agg (enc r).toArray)):=by
 refine ce Tryz.func180 ?_
 intro a hE
 have hM:=M.start w0
 unfold WF at hF
 refine Zb (Zz hE hM VA fun b1 w a hM hE=>Ze (Zb (Zd hE rfl fun a hE=>J7 (parts:=[(0,.const (vI 285)),(4,.tmp 9)]) (vs:=[(0,vI 285),(4,vI p0)]) (cs:=cat [[vI 285],enc (Vector.replicate 256 (0 : UInt8)),enc (Vector.replicate 4 (Vector.replicate 4 (0 : UInt8))),enc (Vector.replicate 16 (0 : UInt8)),[vI p0]]) hE Za ld rfl rfl VA pl163 (VP (pre:=[]) (seg:=[vI 0]) (seg':=[vI 285]) (post:=[enc (Vector.replicate 256 (0 : UInt8)),enc (Vector.replicate 4 (Vector.replicate 4 (0 : UInt8))),enc (Vector.replicate 16 (0 : UInt8)),[vI 0]]) rfl cl0 rfl rfl rfl (VP (pre:=[[vI 285],enc (Vector.replicate 256 (0 : UInt8)),enc (Vector.replicate 4 (Vector.replicate 4 (0 : UInt8))),enc (Vector.replicate 16 (0 : UInt8))]) (seg:=[vI 0]) (seg':=[vI p0]) (post:=[]) rfl ck rfl rfl rfl A8)) fun a hE=>Zz hE hM VA fun b3 w a hM hE=>Zn (seg:=cat [[vI 285],enc (Vector.replicate 256 (0 : UInt8)),enc (Vector.replicate 4 (Vector.replicate 4 (0 : UInt8))),enc (Vector.replicate 16 (0 : UInt8)),[vI p0]]) (cs':=cat [[vI 285],enc (Vector.replicate 256 (0 : UInt8)),enc (Vector.replicate 4 (Vector.replicate 4 (0 : UInt8))),enc (Vector.replicate 16 (0 : UInt8)),[vI p0]]) hE hM Za rfl rfl rfl VA cq (Nat.le_of_eq ((Nat.zero_add _).trans (Eq.trans cq (Eq.symm cq)))) (Xv (cc1 (Flat.cell (285 : Int)) (cc1 (Flat.cell _) (cc1 (Flat.cell _) (cc1 (Flat.cell _) (cc1 (Flat.cell (p0 : Int)) cc0)))))) (Zk (Eq.trans cq (Eq.symm cq))) fun w a hM hE=>Ze (wp_seq (Zb (Zd hE rfl fun a hE=>Ze ?_))))))
 obtain ⟨j5,hl6,hF7⟩:=bind_some hF
 refine ZJ (fun a w=>Env 61 a [(2,(ptr b1 0)),(3,(ptr b3 0))] ∧ M (Old w0) w0 w [raw b3 (cat [[vI 285],enc j5,enc (Vector.replicate 4 (Vector.replicate 4 (0 : UInt8))),enc (Vector.replicate 16 (0 : UInt8)),[vI p0]]),raw b1 (cat [[vI 0],enc (Vector.replicate 256 (0 : UInt8)),enc (Vector.replicate 4 (Vector.replicate 4 (0 : UInt8))),enc (Vector.replicate 16 (0 : UInt8)),[vI 0]])]) ?_ ?_
 ·skip
  refine wp_block ?_
  refine ZC (fun (s8 : (Vector UInt8 256) × Int) a w=>Env 61 a [(2,(ptr b1 0)),(3,(ptr b3 0)),(11,vI s8.2)] ∧ M (Old w0) w0 w [raw b3 (cat [[vI 285],enc s8.1,enc (Vector.replicate 4 (Vector.replicate 4 (0 : UInt8))),enc (Vector.replicate 16 (0 : UInt8)),[vI p0]]),raw b1 (cat [[vI 0],enc (Vector.replicate 256 (0 : UInt8)),enc (Vector.replicate 4 (Vector.replicate 4 (0 : UInt8))),enc (Vector.replicate 16 (0 : UInt8)),[vI 0]])]) hl6 ⟨hE.sub ⟨rfl,rfl,rfl,trivial⟩,hM⟩ ?_
  rintro s8 a w ⟨hE,hM⟩ o11 hs9 hx10
  unfold Wf at hs9
  refine Zb (Zi hE rfl rfl rfl fun a hE=>Ze (wp_seq ?_))
  refine Zo hE rfl ?_ ?_
  ·intro hb12
   have hs9:=Zs hs9 hb12
   refine wp_skip (Zu (wp_seq (wp_block (Zb (Zd hE rfl fun a hE=>Zc hE rfl fun a hE=>Ze (Zb (Zd hE rfl fun a hE=>Yj hE Za ld rfl Tryz.underlying3 Tryz.underlying5 ?_))))))); intro a hE
   obtain ⟨r13,e14,hs9⟩:=bind_some hs9
   refine Zx hE rfl Zbv (U9 _ 285 (Zv s8.2) r13 e14) ?_
   rintro v w a ⟨rfl,hK⟩ hE
   have hM:=hM.keep hK
   refine Zc hE rfl fun a hE=>Ze (wp_region_lit (Zd hE rfl fun a hE=>Zd hE rfl fun a hE=>Zd hE rfl ?_)); intro a hE
   obtain ⟨r15,e16,hs9⟩:=bind_some hs9
   refine Zx hE rfl (cbm Tryz.func216) (T1 _ r13 1 r15 e16) ?_
   rintro v w a ⟨rfl,hK⟩ hE
   have hM:=hM.keep hK
   refine Zi hE rfl rfl (Vw r13 r15) fun a hE=>Zd hE rfl ?_; intro a hE
   obtain ⟨r17,e18,hs9⟩:=bind_some hs9
   refine Zx hE rfl (cbm Tryz.func216) (T1 _ r13 4 r17 e18) ?_
   rintro v w a ⟨rfl,hK⟩ hE
   have hM:=hM.keep hK
   refine Zi hE rfl rfl (Vw (r13 ^^^ r15) r17) fun a hE=>Zi hE rfl rfl (Vw ((r13 ^^^ r15) ^^^ r17) 90) fun a hE=>Zg hE rfl (Jr) ?_; intro a hE
   obtain ⟨x20,hi19,hs9⟩:=bvx hs9
   refine ZD hE rfl rfl Tryz.underlying157 ty5 hi19.1 fun a hE=>Zn (seg:=[(vB (((r13 ^^^ r15) ^^^ r17) ^^^ 90))]) (cs':=cat [[vI 285],enc (s8.1.setIfInBounds (s8.2).toNat (((r13 ^^^ r15) ^^^ r17) ^^^ 90)),enc (Vector.replicate 4 (Vector.replicate 4 (0 : UInt8))),enc (Vector.replicate 16 (0 : UInt8)),[vI p0]]) hE hM Za rfl rfl rfl ty5 rfl (K0 (o':=0 + (s8.2).toNat * 1) (pre:=[[vI 285]]) (seg:=enc s8.1) (post:=[enc (Vector.replicate 4 (Vector.replicate 4 (0 : UInt8))),enc (Vector.replicate 16 (0 : UInt8)),[vI p0]]) ck (ZM (v:=s8.1) (x:=((r13 ^^^ r15) ^^^ r17) ^^^ 90) hi19.1) (by first | omega | (simp only [Flat.n] <;> omega))) (Flat.cell (((r13 ^^^ r15) ^^^ r17) ^^^ 90 : UInt8)) (Uc (o':=0 + (s8.2).toNat * 1) (pre:=[[vI 285]]) (seg:=enc s8.1) (post:=[enc (Vector.replicate 4 (Vector.replicate 4 (0 : UInt8))),enc (Vector.replicate 16 (0 : UInt8)),[vI p0]]) ck (ZM (v:=s8.1) (x:=((r13 ^^^ r15) ^^^ r17) ^^^ 90) hi19.1) (ZE (v:=s8.1) (x:=((r13 ^^^ r15) ^^^ r17) ^^^ 90) hi19.1) (by first | omega | (simp only [Flat.n] <;> omega))) fun w a hM hE=>Zf (Z4 (Zu (wp_region_lit (Zi hE rfl rfl rfl fun a hE=>Zd hE rfl fun a hE=>Zf (Zh ?_)))))
   exact ⟨_,(ois hs9),hE.sub ⟨rfl,rfl,rfl,trivial⟩,hM⟩
  ·intro hb12
   have hs9:=Zt hs9 hb12
   refine wp_exit (Zl (Zl (Z5 ?_)))
   obtain rfl:=hx10 _ (ois hs9)
   refine Zh ?_
   exact ⟨hE.sub ⟨rfl,rfl,trivial⟩,hM⟩
 ·skip
  rintro a w ⟨hE,hM⟩
  refine Zu (wp_seq (Zb (Zd hE rfl fun a hE=>Ze ?_)))
  obtain ⟨j23,hl24,hF25⟩:=bind_some hF7
  refine ZJ (fun a w=>Env 61 a [(2,(ptr b1 0)),(3,(ptr b3 0))] ∧ M (Old w0) w0 w [raw b3 (cat [[vI 285],enc j5,enc j23,enc (Vector.replicate 16 (0 : UInt8)),[vI p0]]),raw b1 (cat [[vI 0],enc (Vector.replicate 256 (0 : UInt8)),enc (Vector.replicate 4 (Vector.replicate 4 (0 : UInt8))),enc (Vector.replicate 16 (0 : UInt8)),[vI 0]])]) ?_ ?_
  ·skip
   refine wp_block ?_
   refine ZC (fun (s26 : (Vector (Vector UInt8 4) 4) × Int) a w=>Env 61 a [(2,(ptr b1 0)),(3,(ptr b3 0)),(29,vI s26.2)] ∧ M (Old w0) w0 w [raw b3 (cat [[vI 285],enc j5,enc s26.1,enc (Vector.replicate 16 (0 : UInt8)),[vI p0]]),raw b1 (cat [[vI 0],enc (Vector.replicate 256 (0 : UInt8)),enc (Vector.replicate 4 (Vector.replicate 4 (0 : UInt8))),enc (Vector.replicate 16 (0 : UInt8)),[vI 0]])]) hl24 ⟨hE.sub ⟨rfl,rfl,rfl,trivial⟩,hM⟩ ?_
   rintro s26 a w ⟨hE,hM⟩ o29 hs27 hx28
   unfold VD at hs27
   refine Zb (Zi hE rfl rfl rfl fun a hE=>Ze (wp_seq ?_))
   refine Zo hE rfl ?_ ?_
   ·intro hb30
    have hs27:=Zs hs27 hb30
    refine wp_skip (Zu (wp_seq (wp_block (Zb (Zd hE rfl fun a hE=>Zc hE rfl fun a hE=>Ze (Zb (Zd hE rfl fun a hE=>Ze ?_)))))))
    obtain ⟨j31,hl32,hF33⟩:=bind_some hs27
    refine ZJ (fun a w=>Env 61 a [(2,(ptr b1 0)),(3,(ptr b3 0)),(29,vI s26.2)] ∧ M (Old w0) w0 w [raw b3 (cat [[vI 285],enc j5,enc j31,enc (Vector.replicate 16 (0 : UInt8)),[vI p0]]),raw b1 (cat [[vI 0],enc (Vector.replicate 256 (0 : UInt8)),enc (Vector.replicate 4 (Vector.replicate 4 (0 : UInt8))),enc (Vector.replicate 16 (0 : UInt8)),[vI 0]])]) ?_ ?_
    ·skip
     refine wp_block ?_
     refine ZC (fun (s34 : (Vector (Vector UInt8 4) 4) × Int) a w=>Env 61 a [(2,(ptr b1 0)),(3,(ptr b3 0)),(6,vI s26.2),(29,vI s26.2),(32,vI s34.2)] ∧ M (Old w0) w0 w [raw b3 (cat [[vI 285],enc j5,enc s34.1,enc (Vector.replicate 16 (0 : UInt8)),[vI p0]]),raw b1 (cat [[vI 0],enc (Vector.replicate 256 (0 : UInt8)),enc (Vector.replicate 4 (Vector.replicate 4 (0 : UInt8))),enc (Vector.replicate 16 (0 : UInt8)),[vI 0]])]) hl32 ⟨hE.sub ⟨rfl,rfl,rfl,rfl,rfl,trivial⟩,hM⟩ ?_
     rintro s34 a w ⟨hE,hM⟩ o37 hs35 hx36
     unfold VH at hs35
     refine Zb (Zi hE rfl rfl rfl fun a hE=>Ze (wp_seq ?_))
     refine Zo hE rfl ?_ ?_
     ·intro hb38
      have hs35:=Zs hs35 hb38
      refine wp_skip (Zu (wp_seq (wp_block (Zb (Zd hE rfl fun a hE=>Zc hE rfl fun a hE=>Ze ?_)))))
      obtain ⟨r40,e41,hs35⟩:=bind_some hs35
      obtain ⟨x43,hi42,hs35⟩:=bvx hs35
      obtain ⟨x46,hi45,hs35⟩:=bvx hs35
      refine ZX [35,36,37,38,39,40,41,42,43,44,45] Yy rfl rfl (by decide) rfl hE hM (qsP (fun z=>Zp z.E Za ld rfl (kr0 rfl)) (qsP (fun z=>Zp z.E Za ld rfl (kr0 rfl)) (qsP (fun z=>Zp z.E Za ld rfl (kr0 rfl)) (qsP (fun z=>Zp z.E Za ld rfl (kr0 rfl)) (qsP (v:=(vI (wr (4 + s34.2)))) (fun z=>Ye z.E Za ld rfl rfl rfl (kr0 rfl)) (qsP (v:=(vI (Bn s26.2 (wr (4 + s34.2))))) (fun z=>Ye z.E Za ld rfl rfl rfl (kr0 rfl)) (qsP (fun z=>Yj z.E Za ld rfl Tryz.underlying3 Tryz.underlying5 (kr0 rfl)) (qsP (fun z=>ZV z.E Za ld rfl Zbv (U9 _ 285 (Zv (Bn s26.2 (wr (4 + s34.2)))) r40 e41) (kc rfl)) (qsP (fun z=>Zq z.E Za ld rfl (Hg) (kr0 rfl)) (qsP (fun z=>ZG z.E Za ld rfl rfl Tryz.underlying160 Xp hi42.1 (kr0 rfl)) (qsP (fun z=>ZG z.E Za ld rfl rfl Tryz.underlying158 ty5 hi45.1 (kr0 rfl)) qs0))))))))))) ?_
      ·intro a w u hE hM
       refine Zn (seg:=[vB r40]) (cs':=cat [[vI 285],enc j5,enc (s34.1.setIfInBounds (s26.2).toNat (x43.setIfInBounds (s34.2).toNat r40)),enc (Vector.replicate 16 (0 : UInt8)),[vI p0]]) hE hM Za rfl rfl rfl ty5 rfl (K0 (o':=(s26.2).toNat * 4 + (0 + (s34.2).toNat * 1)) (pre:=[[vI 285],enc j5]) (seg:=enc s34.1) (post:=[enc (Vector.replicate 16 (0 : UInt8)),[vI p0]]) ck (Ur (o':=0 + (s34.2).toNat * 1) hi42 (ZM (v:=x43) (x:=r40) hi45.1) (by first | omega | (simp only [Flat.n] <;> omega))) (by first | omega | (simp only [Flat.n] <;> omega))) (Flat.cell (r40 : UInt8)) (Uc (o':=(s26.2).toNat * 4 + (0 + (s34.2).toNat * 1)) (pre:=[[vI 285],enc j5]) (seg:=enc s34.1) (post:=[enc (Vector.replicate 16 (0 : UInt8)),[vI p0]]) ck (Ur (o':=0 + (s34.2).toNat * 1) hi42 (ZM (v:=x43) (x:=r40) hi45.1) (by first | omega | (simp only [Flat.n] <;> omega))) (Vo (o':=0 + (s34.2).toNat * 1) hi42 (ZM (v:=x43) (x:=r40) hi45.1) (ZE (v:=x43) (x:=r40) hi45.1) (by first | omega | (simp only [Flat.n] <;> omega))) (by first | omega | (simp only [Flat.n] <;> omega))) fun w a hM hE=>Zf (Z4 (Zu (wp_region_lit (Zi hE rfl rfl rfl fun a hE=>Zd hE rfl fun a hE=>Zf (Zh ?_)))))
       exact ⟨_,(ois hs35),hE.sub ⟨rfl,rfl,rfl,rfl,rfl,trivial⟩,hM⟩
     ·intro hb38
      have hs35:=Zt hs35 hb38
      refine wp_exit (Zl (Zl (Z5 ?_)))
      obtain rfl:=hx36 _ (ois hs35)
      refine Zh ?_
      exact ⟨hE.sub ⟨rfl,rfl,rfl,trivial⟩,hM⟩
    ·skip
     rintro a w ⟨hE,hM⟩
     refine Z4 (Zu (wp_region_lit (Zi hE rfl rfl rfl fun a hE=>Zd hE rfl fun a hE=>Zf (Zh ?_))))
     exact ⟨_,(ois hF33),hE.sub ⟨rfl,rfl,rfl,trivial⟩,hM⟩
   ·intro hb30
    have hs27:=Zt hs27 hb30
    refine wp_exit (Zl (Zl (Z5 ?_)))
    obtain rfl:=hx28 _ (ois hs27)
    refine Zh ?_
    exact ⟨hE.sub ⟨rfl,rfl,trivial⟩,hM⟩
  ·skip
   rintro a w ⟨hE,hM⟩
   refine Zu (wp_seq (Zb (Zd hE rfl fun a hE=>Ze ?_)))
   obtain ⟨j50,hl51,hF52⟩:=bind_some hF25
   refine ZJ (fun a w=>Env 61 a [(2,(ptr b1 0)),(3,(ptr b3 0))] ∧ M (Old w0) w0 w [raw b3 (cat [[vI 285],enc j5,enc j23,enc j50,[vI p0]]),raw b1 (cat [[vI 0],enc (Vector.replicate 256 (0 : UInt8)),enc (Vector.replicate 4 (Vector.replicate 4 (0 : UInt8))),enc (Vector.replicate 16 (0 : UInt8)),[vI 0]])]) ?_ ?_
   ·skip
    refine wp_block ?_
    refine ZC (fun (s53 : (Vector UInt8 16) × Int) a w=>Env 61 a [(2,(ptr b1 0)),(3,(ptr b3 0)),(48,vI s53.2)] ∧ M (Old w0) w0 w [raw b3 (cat [[vI 285],enc j5,enc j23,enc s53.1,[vI p0]]),raw b1 (cat [[vI 0],enc (Vector.replicate 256 (0 : UInt8)),enc (Vector.replicate 4 (Vector.replicate 4 (0 : UInt8))),enc (Vector.replicate 16 (0 : UInt8)),[vI 0]])]) hl51 ⟨hE.sub ⟨rfl,rfl,rfl,trivial⟩,hM⟩ ?_
    rintro s53 a w ⟨hE,hM⟩ o56 hs54 hx55
    unfold VF at hs54
    refine Zb (Zi hE rfl rfl rfl fun a hE=>Ze (wp_seq ?_))
    refine Zo hE rfl ?_ ?_
    ·intro hb57
     have hs54:=Zs hs54 hb57
     refine wp_skip (Zu (wp_seq (wp_block (Zb (Zd hE rfl fun a hE=>Zc hE rfl fun a hE=>Ze (wp_region_lit (Zd hE rfl fun a hE=>Zd hE rfl fun a hE=>Zi hE rfl rfl rfl fun a hE=>Zi hE rfl rfl rfl fun a hE=>Zi hE rfl rfl (Kf _ _ (by decide)) fun a hE=>Yj hE Za ld rfl Tryz.underlying3 Tryz.underlying5 fun a hE=>Zg hE rfl (Hl) ?_))))))); intro a hE
     obtain ⟨x59,hi58,hs54⟩:=bvx hs54
     refine ZD hE rfl rfl Tryz.underlying161 ty5 hi58.1 fun a hE=>Zn (seg:=[(vB (Zv (Int.tmod (wr ((wr (13 * s53.2)) + 4)) 16)))]) (cs':=cat [[vI 285],enc j5,enc j23,enc (s53.1.setIfInBounds (s53.2).toNat (Zv (Int.tmod (wr ((wr (13 * s53.2)) + 4)) 16))),[vI p0]]) hE hM Za rfl rfl rfl ty5 rfl (K0 (o':=0 + (s53.2).toNat * 1) (pre:=[[vI 285],enc j5,enc j23]) (seg:=enc s53.1) (post:=[[vI p0]]) ck (ZM (v:=s53.1) (x:=Zv (Int.tmod (wr ((wr (13 * s53.2)) + 4)) 16)) hi58.1) (by first | omega | (simp only [Flat.n] <;> omega))) (Flat.cell (Zv (Int.tmod (wr ((wr (13 * s53.2)) + 4)) 16) : UInt8)) (Uc (o':=0 + (s53.2).toNat * 1) (pre:=[[vI 285],enc j5,enc j23]) (seg:=enc s53.1) (post:=[[vI p0]]) ck (ZM (v:=s53.1) (x:=Zv (Int.tmod (wr ((wr (13 * s53.2)) + 4)) 16)) hi58.1) (ZE (v:=s53.1) (x:=Zv (Int.tmod (wr ((wr (13 * s53.2)) + 4)) 16)) hi58.1) (by first | omega | (simp only [Flat.n] <;> omega))) fun w a hM hE=>Zf (Z4 (Zu (wp_region_lit (Zi hE rfl rfl rfl fun a hE=>Zd hE rfl fun a hE=>Zf (Zh ?_)))))
     exact ⟨_,(ois hs54),hE.sub ⟨rfl,rfl,rfl,trivial⟩,hM⟩
    ·intro hb57
     have hs54:=Zt hs54 hb57
     refine wp_exit (Zl (Zl (Z5 ?_)))
     obtain rfl:=hx55 _ (ois hs54)
     refine Zh ?_
     exact ⟨hE.sub ⟨rfl,rfl,trivial⟩,hM⟩
   ·skip
    rintro a w ⟨hE,hM⟩
    refine Zu (Zb (Zr hE rfl VA rfl hM.rawAt0 cq ?_)); intro a hE
    have hM:=hM.pull1
    refine Zn (seg:=cat [[(vI ((⟨285,j5,j23,j50,p0⟩ : GCipher).Field))],enc ((⟨285,j5,j23,j50,p0⟩ : GCipher).Box),enc ((⟨285,j5,j23,j50,p0⟩ : GCipher).Mix),enc ((⟨285,j5,j23,j50,p0⟩ : GCipher).Places),[(vI ((⟨285,j5,j23,j50,p0⟩ : GCipher).Rounds))]]) (cs':=cat [[(vI ((⟨285,j5,j23,j50,p0⟩ : GCipher).Field))],enc ((⟨285,j5,j23,j50,p0⟩ : GCipher).Box),enc ((⟨285,j5,j23,j50,p0⟩ : GCipher).Mix),enc ((⟨285,j5,j23,j50,p0⟩ : GCipher).Places),[(vI ((⟨285,j5,j23,j50,p0⟩ : GCipher).Rounds))]]) hE hM Za rfl rfl rfl VA cq (Nat.le_of_eq ((Nat.zero_add _).trans (Eq.trans cq (Eq.symm cq)))) (Xv (cc1 (Flat.cell ((⟨285,j5,j23,j50,p0⟩ : GCipher).Field : Int)) (cc1 (Flat.cell _) (cc1 (Flat.cell _) (cc1 (Flat.cell _) (cc1 (Flat.cell ((⟨285,j5,j23,j50,p0⟩ : GCipher).Rounds : Int)) cc0)))))) (Zk (Eq.trans cq (Eq.symm cq))) fun w a hM hE=>Ze ?_
    obtain rfl:=Option.some.inj hF52
    have hq62 : Yt Tryz.prog _ _ (.cell 2 163) _:=ZQ hE rfl VA rfl hM.rawAt0 cq rfl
    exact wp_ret (ZN hE rfl hq62 ⟨_,rfl,rfl,hM.kept⟩)
def TW (s8 : (Vector (Vector UInt8 4) 4) × Int) : Option (Fl ((Vector (Vector UInt8 4) 4) × Int) (Vector (Vector UInt8 4) 4)) :=
 if (decide (s8.2 < 4)) = true then ((ZH s8.1 s8.2).bind fun x14=>(ZH x14 s8.2).bind fun x17=>some (Fl.nx ((s8.1.setIfInBounds (s8.2).toNat (x14.setIfInBounds (s8.2).toNat 1)),wr (s8.2 + 1)))) else (some (Fl.ex s8.1))
def Vp : Option ((Vector (Vector UInt8 4) 4)) :=
 (ZB (TW) ((Vector.replicate 4 (Vector.replicate 4 (0 : UInt8))),0)).bind fun j5=>some j5
theorem HM (w0 : World)  (r : (Vector (Vector UInt8 4) 4)) (hF : Vp  = some r) :
  Calls Tryz.prog 232 [].toArray w0 (Rt w0 (Value.agg (enc r).toArray)):=by
 refine ce Tryz.func232 ?_
 intro a hE
 have hM:=M.start w0
 unfold Vp at hF
 refine Zb (Zz hE hM U6 fun b1 w a hM hE=>Ze (Zb (Xu (parts:=[]) (vs:=[]) (cs:=enc (Vector.replicate 4 (Vector.replicate 4 (0 : UInt8)))) hE Za ld rfl rfl U6 rfl Xp YU fun a hE=>Zz hE hM U6 fun b3 w a hM hE=>Zn (seg:=enc (Vector.replicate 4 (Vector.replicate 4 (0 : UInt8)))) (cs':=enc (Vector.replicate 4 (Vector.replicate 4 (0 : UInt8)))) hE hM Za rfl rfl rfl U6 (Flat.len _) (zle flq) (Flat.cell _) (Zk flq) fun w a hM hE=>Ze (wp_seq (Zb (Zd hE rfl fun a hE=>Ze ?_))))))
 obtain ⟨j5,hl6,hF7⟩:=bind_some hF
 refine ZJ (fun a w=>Env 13 a [(0,(ptr b1 0)),(1,(ptr b3 0))] ∧ M (Old w0) w0 w [raw b3 (enc j5),raw b1 (enc (Vector.replicate 4 (Vector.replicate 4 (0 : UInt8))))]) ?_ ?_
 ·skip
  refine wp_block ?_
  refine ZC (fun (s8 : (Vector (Vector UInt8 4) 4) × Int) a w=>Env 13 a [(0,(ptr b1 0)),(1,(ptr b3 0)),(4,vI s8.2)] ∧ M (Old w0) w0 w [raw b3 (enc s8.1),raw b1 (enc (Vector.replicate 4 (Vector.replicate 4 (0 : UInt8))))]) hl6 ⟨hE.sub ⟨rfl,rfl,rfl,trivial⟩,hM⟩ ?_
  rintro s8 a w ⟨hE,hM⟩ o11 hs9 hx10
  unfold TW at hs9
  refine Zb (Zi hE rfl rfl rfl fun a hE=>Ze (wp_seq ?_))
  refine Zo hE rfl ?_ ?_
  ·intro hb12
   have hs9:=Zs hs9 hb12
   refine wp_skip (Zu (wp_seq (wp_block (Zb (Zd hE rfl fun a hE=>Zc hE rfl fun a hE=>Ze (wp_region_lit (Zd hE rfl fun a hE=>Zd hE rfl ?_))))))); intro a hE
   obtain ⟨x14,hi13,hs9⟩:=bvx hs9
   refine ZD hE rfl rfl Tryz.underlying160 Xp hi13.1 ?_; intro a hE
   obtain ⟨x17,hi16,hs9⟩:=bvx hs9
   refine ZD hE rfl rfl Tryz.underlying158 ty5 hi16.1 fun a hE=>Zn (seg:=[vB 1]) (cs':=enc (s8.1.setIfInBounds (s8.2).toNat (x14.setIfInBounds (s8.2).toNat 1))) hE hM Za rfl rfl rfl ty5 rfl (Ur (o':=0 + (s8.2).toNat * 1) hi13 (ZM (v:=x14) (x:=1) hi16.1) (by first | omega | (simp only [Flat.n] <;> omega))) (Flat.cell (1 : UInt8)) (Vo (o':=0 + (s8.2).toNat * 1) hi13 (ZM (v:=x14) (x:=1) hi16.1) (ZE (v:=x14) (x:=1) hi16.1) (by first | omega | (simp only [Flat.n] <;> omega))) fun w a hM hE=>Zf (Z4 (Zu (wp_region_lit (Zi hE rfl rfl rfl fun a hE=>Zd hE rfl fun a hE=>Zf (Zh ?_)))))
   exact ⟨_,(ois hs9),hE.sub ⟨rfl,rfl,rfl,trivial⟩,hM⟩
  ·intro hb12
   have hs9:=Zt hs9 hb12
   refine wp_exit (Zl (Zl (Z5 ?_)))
   obtain rfl:=hx10 _ (ois hs9)
   refine Zh ?_
   exact ⟨hE.sub ⟨rfl,rfl,trivial⟩,hM⟩
 ·skip
  rintro a w ⟨hE,hM⟩
  refine Zu (Zb (Zr hE rfl U6 rfl hM.rawAt0 (Flat.len _) ?_)); intro a hE
  have hM:=hM.pull1
  refine Zn (seg:=enc j5) (cs':=enc j5) hE hM Za rfl rfl rfl U6 (Flat.len _) (zle flq) (Flat.cell _) (Zk flq) fun w a hM hE=>Ze ?_
  obtain rfl:=Option.some.inj hF7
  have hq20 : Yt Tryz.prog _ _ (.cell 0 160) _:=ZQ hE rfl U6 rfl hM.rawAt0 (Flat.len _) rfl
  exact wp_ret (ZN hE rfl hq20 ⟨_,rfl,rfl,hM.kept⟩)
def U2 (s13 : (Vector (Vector UInt8 4) 4) × (Vector (Vector UInt8 4) 4) × Int × UInt8) (s21 : Int) : Option (Fl Int Int) :=
 (if (decide (s21 < 4)) = true then ((ZH s13.1 s21).bind fun x30=>(ZH x30 s13.2.2.1).bind fun x33=>some (x33 == 0)) else (some false) : Option (Bool)).bind fun j25=>if j25 = true then (some (Fl.nx (wr (s21 + 1)))) else (some (Fl.ex s21))
def XK (p0 : Int) (s13 : (Vector (Vector UInt8 4) 4) × (Vector (Vector UInt8 4) 4) × Int × UInt8) (r90 : UInt8) (s95 : (Vector (Vector UInt8 4) 4) × (Vector (Vector UInt8 4) 4) × Int) : Option (Fl ((Vector (Vector UInt8 4) 4) × (Vector (Vector UInt8 4) 4) × Int) ((Vector (Vector UInt8 4) 4) × (Vector (Vector UInt8 4) 4))) :=
 if (decide (s95.2.2 < 4)) = true then ((ZH s95.1 s13.2.2.1).bind fun x102=>(ZH x102 s95.2.2).bind fun x105=>(Yb p0 x105 r90).bind fun r107=>(ZH s95.2.1 s13.2.2.1).bind fun x110=>(ZH x110 s95.2.2).bind fun x113=>(Yb p0 x113 r90).bind fun r115=>(ZH s95.1 s13.2.2.1).bind fun x118=>(ZH x118 s95.2.2).bind fun x121=>(ZH s95.2.1 s13.2.2.1).bind fun x124=>(ZH x124 s95.2.2).bind fun x127=>some (Fl.nx ((s95.1.setIfInBounds (s13.2.2.1).toNat (x118.setIfInBounds (s95.2.2).toNat r107)),(s95.2.1.setIfInBounds (s13.2.2.1).toNat (x124.setIfInBounds (s95.2.2).toNat r115)),wr (s95.2.2 + 1)))) else (some (Fl.ex (s95.1,s95.2.1)))
def XR (p0 : Int) (s13 : (Vector (Vector UInt8 4) 4) × (Vector (Vector UInt8 4) 4) × Int × UInt8) (s133 : (Vector (Vector UInt8 4) 4) × (Vector (Vector UInt8 4) 4) × Int) (x145 : UInt8) (s160 : (Vector (Vector UInt8 4) 4) × (Vector (Vector UInt8 4) 4) × Int) : Option (Fl ((Vector (Vector UInt8 4) 4) × (Vector (Vector UInt8 4) 4) × Int) ((Vector (Vector UInt8 4) 4) × (Vector (Vector UInt8 4) 4))) :=
 if (decide (s160.2.2 < 4)) = true then (((ZH s160.1 s133.2.2).bind fun x170=>(ZH x170 s160.2.2).bind fun x173=>(ZH s160.1 s13.2.2.1).bind fun x176=>(ZH x176 s160.2.2).bind fun x179=>(Yb p0 x145 x179).bind fun r181=>(ZH s160.1 s133.2.2).bind fun x184=>(ZH x184 s160.2.2).bind fun x187=>some (s160.1.setIfInBounds (s133.2.2).toNat (x184.setIfInBounds (s160.2.2).toNat (x173 ^^^ r181))) : Option ((Vector (Vector UInt8 4) 4))).bind fun j165=>(ZH s160.2.1 s133.2.2).bind fun x192=>(ZH x192 s160.2.2).bind fun x195=>(ZH s160.2.1 s13.2.2.1).bind fun x198=>(ZH x198 s160.2.2).bind fun x201=>(Yb p0 x145 x201).bind fun r203=>(ZH s160.2.1 s133.2.2).bind fun x206=>(ZH x206 s160.2.2).bind fun x209=>some (Fl.nx (j165,(s160.2.1.setIfInBounds (s133.2.2).toNat (x206.setIfInBounds (s160.2.2).toNat (x195 ^^^ r203))),wr (s160.2.2 + 1)))) else (some (Fl.ex (s160.1,s160.2.1)))
def XL (p0 : Int) (s13 : (Vector (Vector UInt8 4) 4) × (Vector (Vector UInt8 4) 4) × Int × UInt8) (s133 : (Vector (Vector UInt8 4) 4) × (Vector (Vector UInt8 4) 4) × Int) : Option (Fl ((Vector (Vector UInt8 4) 4) × (Vector (Vector UInt8 4) 4) × Int) ((Vector (Vector UInt8 4) 4) × (Vector (Vector UInt8 4) 4))) :=
 if (decide (s133.2.2 < 4)) = true then (((ZH s133.1 s133.2.2).bind fun x142=>(ZH x142 s13.2.2.1).bind fun x145=>(if (s133.2.2 != s13.2.2.1) = true then (some (x145 != 0)) else (some false) : Option (Bool)).bind fun j147=>(if j147 = true then ((ZB (XR p0 s13 s133 x145) (s133.1,s133.2.1,0)).bind fun j157=>some (j157.1,j157.2)) else (some (s133.1,s133.2.1)) : Option ((Vector (Vector UInt8 4) 4) × (Vector (Vector UInt8 4) 4))).bind fun j153=>some (j153.1,j153.2) : Option ((Vector (Vector UInt8 4) 4) × (Vector (Vector UInt8 4) 4))).bind fun j138=>some (Fl.nx (j138.1,j138.2,wr (s133.2.2 + 1)))) else (some (Fl.ex (s133.1,s133.2.1)))
def YJ (p0 : Int) (s13 : (Vector (Vector UInt8 4) 4) × (Vector (Vector UInt8 4) 4) × Int × UInt8) : Option (Fl ((Vector (Vector UInt8 4) 4) × (Vector (Vector UInt8 4) 4) × Int × UInt8) (Fl ((Vector (Vector UInt8 4) 4) × UInt8) (UInt8 × (Vector (Vector UInt8 4) 4)))) :=
 if (decide (s13.2.2.1 < 4)) = true then ((ZB (U2 s13) s13.2.2.1).bind fun j18=>if (j18 == 4) = true then (some (Fl.ex (Fl.ex (0,(Vector.replicate 4 (Vector.replicate 4 (0 : UInt8))))))) else (((ZH s13.1 s13.2.2.1).bind fun x47=>(ZH s13.1 j18).bind fun x50=>(ZH s13.1 j18).bind fun x53=>(ZH (s13.1.setIfInBounds (j18).toNat x47) s13.2.2.1).bind fun x56=>some ((s13.1.setIfInBounds (j18).toNat x47).setIfInBounds (s13.2.2.1).toNat x50) : Option ((Vector (Vector UInt8 4) 4))).bind fun j42=>((ZH s13.2.1 s13.2.2.1).bind fun x64=>(ZH s13.2.1 j18).bind fun x67=>(ZH s13.2.1 j18).bind fun x70=>(ZH (s13.2.1.setIfInBounds (j18).toNat x64) s13.2.2.1).bind fun x73=>some ((s13.2.1.setIfInBounds (j18).toNat x64).setIfInBounds (s13.2.2.1).toNat x67) : Option ((Vector (Vector UInt8 4) 4))).bind fun j59=>(ZH j42 s13.2.2.1).bind fun x77=>(ZH x77 s13.2.2.1).bind fun x80=>(Yb p0 s13.2.2.2 x80).bind fun r82=>(ZH j42 s13.2.2.1).bind fun x85=>(ZH x85 s13.2.2.1).bind fun x88=>(Yh p0 x88).bind fun r90=>(ZB (XK p0 s13 r90) (j42,j59,0)).bind fun j92=>(ZB (XL p0 s13) (j92.1,j92.2,0)).bind fun j130=>some (Fl.nx (j130.1,j130.2,wr (s13.2.2.1 + 1),r82)))) else (some (Fl.ex (Fl.nx (s13.2.1,s13.2.2.2))))
def Xo (p0 : Int) (p1 : (Vector (Vector UInt8 4) 4)) : Option (UInt8 × (Vector (Vector UInt8 4) 4)) :=
 (Vp).bind fun r5=>(ZB (YJ p0) (p1,r5,0,1)).bind fun j9=>j9.el (fun s12=>(some (s12.1,s12.2) : Option ((Vector (Vector UInt8 4) 4) × UInt8)).bind fun j217=>some (j217.2,j217.1)) (fun r=>some r)
theorem Js (w0 : World) (p0 : Int) (p1 : (Vector (Vector UInt8 4) 4)) (r : UInt8 × (Vector (Vector UInt8 4) 4)) (hF : Xo p0 p1 = some r) :
  Calls Tryz.prog 211 [vI p0,(Value.agg (enc p1).toArray)].toArray w0 (Rt w0 (Value.tuple [vB r.1,(Value.agg (enc r.2).toArray)].toArray)):=by
 refine ce Tryz.func211 ?_
 intro a hE
 have hM:=M.start w0
 unfold Xo at hF
 refine Zb (ZT (cs:=enc p1) hE hM Za ld rfl rfl fun b1 w a hM hE=>Zc hE rfl fun a hE=>Zz hE hM U6 fun b3 w a hM hE=>Ze (Zb ?_))
 obtain ⟨r5,e6,hF⟩:=bind_some hF
 refine Zx hE rfl (cbm Tryz.func232) (HM _  r5 e6) ?_
 rintro v w a ⟨rfl,hK⟩ hE
 have hM:=hM.keep hK
 refine Zz hE hM U6 fun b7 w a hM hE=>Zn (seg:=enc r5) (cs':=enc r5) hE hM Za rfl rfl rfl U6 (Flat.len _) (zle flq) (Flat.cell _) (Zk flq) fun w a hM hE=>Zc hE rfl fun a hE=>Ze (wp_seq (Zb (Zd hE rfl fun a hE=>Ze ?_)))
 obtain ⟨j9,hl10,hF11⟩:=bind_some hF
 refine ZJ (fun a w=>∃ s12 : (Vector (Vector UInt8 4) 4) × UInt8,j9 = Fl.nx s12 ∧ Env 153 a [(5,(ptr b3 0)),(6,(ptr b7 0)),(7,vB s12.2)] ∧ M (Old w0) w0 w [raw b7 (enc s12.1),raw b3 (enc (Vector.replicate 4 (Vector.replicate 4 (0 : UInt8))))]) ?_ ?_
 ·skip
  refine wp_block ?_
  refine ZC (fun (s13 : (Vector (Vector UInt8 4) 4) × (Vector (Vector UInt8 4) 4) × Int × UInt8) a w=>Env 153 a [(0,vI p0),(3,(ptr b1 0)),(5,(ptr b3 0)),(6,(ptr b7 0)),(7,vB s13.2.2.2),(16,vI s13.2.2.1)] ∧ M (Old w0) w0 w [raw b7 (enc s13.2.1),raw b3 (enc (Vector.replicate 4 (Vector.replicate 4 (0 : UInt8)))),raw b1 (enc s13.1)]) hl10 ⟨hE.sub ⟨rfl,rfl,rfl,rfl,rfl,rfl,trivial⟩,hM⟩ ?_
  rintro s13 a w ⟨hE,hM⟩ o16 hs14 hx15
  unfold YJ at hs14
  refine Zb (Zi hE rfl rfl rfl fun a hE=>Ze (wp_seq ?_))
  refine Zo hE rfl ?_ ?_
  ·intro hb17
   have hs14:=Zs hs14 hb17
   refine wp_skip (Zu (wp_seq (wp_block (Zb (Zd hE rfl fun a hE=>Zc hE rfl fun a hE=>Ze (Zb (Zd hE rfl fun a hE=>Zc hE rfl fun a hE=>Ze ?_)))))))
   obtain ⟨j18,hl19,hF20⟩:=bind_some hs14
   refine ZI (fun a w=>Env 153 a [(0,vI p0),(3,(ptr b1 0)),(5,(ptr b3 0)),(6,(ptr b7 0)),(7,vB s13.2.2.2),(8,vI s13.2.2.1),(9,vI j18),(16,vI s13.2.2.1)] ∧ M (Old w0) w0 w [raw b7 (enc s13.2.1),raw b3 (enc (Vector.replicate 4 (Vector.replicate 4 (0 : UInt8)))),raw b1 (enc s13.1)]) ?_ ?_
   ·skip
    refine wp_block ?_
    refine ZC (fun (s21 : Int) a w=>Env 153 a [(0,vI p0),(3,(ptr b1 0)),(5,(ptr b3 0)),(6,(ptr b7 0)),(7,vB s13.2.2.2),(8,vI s13.2.2.1),(9,vI s21),(16,vI s13.2.2.1)] ∧ M (Old w0) w0 w [raw b7 (enc s13.2.1),raw b3 (enc (Vector.replicate 4 (Vector.replicate 4 (0 : UInt8)))),raw b1 (enc s13.1)]) hl19 ⟨hE.sub ⟨rfl,rfl,rfl,rfl,rfl,rfl,rfl,rfl,trivial⟩,hM⟩ ?_
    rintro s21 a w ⟨hE,hM⟩ o24 hs22 hx23
    unfold U2 at hs22
    refine wp_seq ?_
    obtain ⟨j25,hl26,hF27⟩:=bind_some hs22
    refine ZI (fun a w=>Env 153 a [(0,vI p0),(3,(ptr b1 0)),(5,(ptr b3 0)),(6,(ptr b7 0)),(7,vB s13.2.2.2),(8,vI s13.2.2.1),(9,vI s21),(16,vI s13.2.2.1),(29,vT j25)] ∧ M (Old w0) w0 w [raw b7 (enc s13.2.1),raw b3 (enc (Vector.replicate 4 (Vector.replicate 4 (0 : UInt8)))),raw b1 (enc s13.1)]) ?_ ?_
    ·skip
     refine wp_region_lit (Zd hE rfl fun a hE=>Zi hE rfl rfl rfl fun a hE=>Zd hE rfl ?_); intro a hE
     refine YK (decide (s21 < 4)) (fun hb28=>?_) (fun hb28=>?_)
     ·have hl26:=Zs hl26 hb28
      refine Zp hE (Zj hE rfl (lkb rfl hb28)) (by decide) rfl fun a hE=>Zp hE (Zj hE rfl (lkb rfl hb28)) (by decide) rfl ?_; intro a hE
      obtain ⟨x30,hi29,hl26⟩:=bvx hl26
      refine ZG hE (Zj hE rfl (lkb rfl hb28)) (by decide) rfl rfl Tryz.underlying160 Xp hi29.1 ?_; intro a hE
      obtain ⟨x33,hi32,hl26⟩:=bvx hl26
      refine ZG hE (Zj hE rfl (lkb rfl hb28)) (by decide) rfl rfl Tryz.underlying158 ty5 hi32.1 fun a hE=>ZK (v:=(vB x33)) hE (Zj hE rfl (lkb rfl hb28)) (by decide) rfl ty5 rfl (At.vec (At.vec hM.rawAt2 hi29.2) hi32.2) fun a hE=>Ye hE (Zj hE rfl (lkb rfl hb28)) (by decide) rfl rfl (Zc3 x33 0) fun a hE=>Z8 hE (lkb rfl hb28) rfl fun a hE=>Zf ?_
      obtain rfl:=Option.some.inj hl26
      refine Zh ?_
      exact ⟨hE.sub ⟨rfl,rfl,rfl,rfl,rfl,rfl,rfl,rfl,rfl,trivial⟩,hM⟩
     ·have hl26:=Zt hl26 hb28
      refine Zm hE rfl (lkb rfl hb28) rfl (by decide) fun a hE=>Zm hE rfl (lkb rfl hb28) rfl (by decide) fun a hE=>Zm hE rfl (lkb rfl hb28) rfl (by decide) fun a hE=>Zm hE rfl (lkb rfl hb28) rfl (by decide) fun a hE=>Zm hE rfl (lkb rfl hb28) rfl (by decide) fun a hE=>Zm hE rfl (lkb rfl hb28) rfl (by decide) fun a hE=>YB hE (lkb rfl hb28) rfl fun a hE=>Zf ?_
      obtain rfl:=Option.some.inj hl26
      refine Zh ?_
      exact ⟨hE.sub ⟨rfl,rfl,rfl,rfl,rfl,rfl,rfl,rfl,rfl,trivial⟩,hM⟩
    ·skip
     rintro a w ⟨hE,hM⟩
     refine Zo hE rfl ?_ ?_
     ·intro hb37
      have hF27:=Zs hF27 hb37
      refine wp_skip (Zu (wp_block (wp_region_lit (Zd hE rfl fun a hE=>Zi hE rfl rfl rfl fun a hE=>Zc hE rfl fun a hE=>Zf (Z4 (Zh ?_))))))
      exact ⟨_,(ois hF27),hE.sub ⟨rfl,rfl,rfl,rfl,rfl,rfl,rfl,rfl,trivial⟩,hM⟩
     ·intro hb37
      have hF27:=Zt hF27 hb37
      refine wp_exit (Zl (Zl (Z5 ?_)))
      obtain rfl:=hx23 _ (ois hF27)
      refine Zh ?_
      exact ⟨hE.sub ⟨rfl,rfl,rfl,rfl,rfl,rfl,rfl,rfl,trivial⟩,hM⟩
   ·skip
    rintro a w ⟨hE,hM⟩
    refine wp_seq (Zb (Zd hE rfl fun a hE=>Zi hE rfl rfl rfl fun a hE=>Ze ?_))
    refine Zo hE rfl ?_ ?_
    ·intro hb39
     have hF20:=Zs hF20 hb39
     refine Zb (Xu (parts:=[]) (vs:=[]) (cs:=enc (Vector.replicate 4 (Vector.replicate 4 (0 : UInt8)))) hE Za ld rfl rfl U6 rfl Xp YU fun a hE=>Zc hE rfl ?_); intro a hE
     have hM:=hM.pull1
     refine Zn (seg:=enc (Vector.replicate 4 (Vector.replicate 4 (0 : UInt8)))) (cs':=enc (Vector.replicate 4 (Vector.replicate 4 (0 : UInt8)))) hE hM Za rfl rfl rfl U6 (Flat.len _) (zle flq) (Flat.cell _) (Zk flq) fun w a hM hE=>Ze ?_
     obtain rfl:=hx15 _ (ois hF20)
     obtain rfl:=Option.some.inj hF11
     have hq41 : Yt Tryz.prog _ _ (.cell 5 160) _:=ZQ hE rfl U6 rfl hM.rawAt0 (Flat.len _) rfl
     exact wp_ret (ZA (XH (ZA (ZA (XH (ZA (ZA (Ja hE rfl (ZY hE rfl) hq41 ⟨_,rfl,rfl,hM.kept⟩))))))))
    ·intro hb39
     have hF20:=Zt hF20 hb39
     refine wp_skip (Zu ?_)
     obtain ⟨j42,hl43,hF44⟩:=bind_some hF20
     refine ZI (fun a w=>Env 153 a [(0,vI p0),(3,(ptr b1 0)),(5,(ptr b3 0)),(6,(ptr b7 0)),(7,vB s13.2.2.2),(8,vI s13.2.2.1),(9,vI j18),(16,vI s13.2.2.1)] ∧ M (Old w0) w0 w [raw b7 (enc s13.2.1),raw b3 (enc (Vector.replicate 4 (Vector.replicate 4 (0 : UInt8)))),raw b1 (enc j42)]) ?_ ?_
     ·skip
      have hM:=hM.pull2
      obtain ⟨x47,hi46,hl43⟩:=bvx hl43
      obtain ⟨x50,hi49,hl43⟩:=bvx hl43
      obtain ⟨x53,hi52,hl43⟩:=bvx hl43
      refine Xs (its:=[raw b7 (enc s13.2.1),raw b3 (enc (Vector.replicate 4 (Vector.replicate 4 (0 : UInt8))))]) (mk:=([mkT 9 (raw b1 (enc s13.1)) (raw b1 (enc (s13.1.setIfInBounds (j18).toNat x47)))] : Mk)) [35,36,37,38,39,40,41,42,43,162] Yy rfl rfl (by decide) rfl hE (fun u=>M.qT (M.q0 hM.drew u)) (qsP (fun z=>Zp z.E Za ld rfl (kr0 rfl)) (qsP (fun z=>Zp z.E Za ld rfl (kr0 rfl)) (qsP (fun z=>Zp z.E Za ld rfl (kr0 rfl)) (qsP (fun z=>ZG z.E Za ld rfl rfl Tryz.underlying160 Xp hi46.1 (kr0 rfl)) (qsP (v:=(Value.agg (enc x47).toArray)) ?_ (qsP (fun z=>Zp z.E Za ld rfl (kr0 rfl)) (qsP (fun z=>ZG z.E Za ld rfl rfl Tryz.underlying160 Xp hi49.1 (kr0 rfl)) (qsP (v:=(Value.agg (enc x50).toArray)) ?_ (qsP (fun z=>ZG z.E Za ld rfl rfl Tryz.underlying160 Xp hi52.1 (kr0 rfl)) (qsM (pr:=fun v=>True) ?_ qs0)))))))))) ?_
      ·intro a w ux45 D z
       have hE:=z.E
       have hD : D 4 = false:=z.F
       have hM:=z.M.togA (pre:=[_,_]) (JN (j:=9) (k:=1) z.c rfl rfl rfl hD)
       exact Zr hE rfl Xp rfl (At.vec hM.rawAt2 hi46.2) (Flat.len _) fun a hE=>⟨Kept.refl _ _,_,rfl,hE⟩
      ·intro a w ux45 D z
       have hE:=z.E
       have hD : D 7 = false:=z.F
       have hM:=z.M.togA (pre:=[_,_]) (JN (j:=9) (k:=9) z.c rfl rfl rfl hD)
       exact Zr hE rfl Xp rfl (At.vec hM.rawAt2 hi49.2) (Flat.len _) fun a hE=>⟨Kept.refl _ _,_,rfl,hE⟩
      ·intro a w ux45 D z
       have hE:=z.E
       have hD : D 9 = false:=z.F
       have hM:=(z.M.togA (pre:=[_,_]) hD).pull2
       exact Zn (seg:=enc x47) (cs':=enc (s13.1.setIfInBounds (j18).toNat x47)) hE hM Za rfl rfl rfl Xp (Flat.len _) (ZM (v:=s13.1) (x:=x47) hi52.1) (Flat.cell _) (ZE (v:=s13.1) (x:=x47) hi52.1) fun w a hM hE=>⟨undef,_,rfl,Env.dummy hE (by decide),M.qTog (mk1:=[]) (mk2:=[]) hM rfl,trivial⟩
      ·intro a w ux45 D hE hM hG hall
       have d9:=hall 9 (by decide)
       have hM:=hM.togB (pre:=[_,_]) d9
       obtain ⟨x56,hi55,hl43⟩:=bvx hl43
       refine ZD hE rfl rfl Tryz.underlying160 Xp hi55.1 ?_; intro a hE
       have hM:=hM.pull2
       refine Zn (seg:=enc x50) (cs':=enc ((s13.1.setIfInBounds (j18).toNat x47).setIfInBounds (s13.2.2.1).toNat x50)) hE hM Za rfl rfl rfl Xp (Flat.len _) (ZM (v:=(s13.1.setIfInBounds (j18).toNat x47)) (x:=x50) hi55.1) (Flat.cell _) (ZE (v:=(s13.1.setIfInBounds (j18).toNat x47)) (x:=x50) hi55.1) fun w a hM hE=>Zf ?_
       obtain rfl:=Option.some.inj hl43
       refine Zh ?_
       have hM:=hM.pull2.pull2
       exact ⟨hE.sub ⟨rfl,rfl,rfl,rfl,rfl,rfl,rfl,rfl,trivial⟩,hM⟩
     ·skip
      rintro a w ⟨hE,hM⟩
      obtain ⟨j59,hl60,hF61⟩:=bind_some hF44
      refine ZI (fun a w=>Env 153 a [(0,vI p0),(3,(ptr b1 0)),(5,(ptr b3 0)),(6,(ptr b7 0)),(7,vB s13.2.2.2),(8,vI s13.2.2.1),(16,vI s13.2.2.1)] ∧ M (Old w0) w0 w [raw b7 (enc j59),raw b3 (enc (Vector.replicate 4 (Vector.replicate 4 (0 : UInt8)))),raw b1 (enc j42)]) ?_ ?_
      ·skip
       obtain ⟨x64,hi63,hl60⟩:=bvx hl60
       obtain ⟨x67,hi66,hl60⟩:=bvx hl60
       obtain ⟨x70,hi69,hl60⟩:=bvx hl60
       refine Xs (its:=[raw b3 (enc (Vector.replicate 4 (Vector.replicate 4 (0 : UInt8)))),raw b1 (enc j42)]) (mk:=([mkT 9 (raw b7 (enc s13.2.1)) (raw b7 (enc (s13.2.1.setIfInBounds (j18).toNat x64)))] : Mk)) [45,46,47,48,49,50,51,52,53,162] Yy rfl rfl (by decide) rfl hE (fun u=>M.qT (M.q0 hM.drew u)) (qsP (fun z=>Zp z.E Za ld rfl (kr0 rfl)) (qsP (fun z=>Zp z.E Za ld rfl (kr0 rfl)) (qsP (fun z=>Zp z.E Za ld rfl (kr0 rfl)) (qsP (fun z=>ZG z.E Za ld rfl rfl Tryz.underlying160 Xp hi63.1 (kr0 rfl)) (qsP (v:=(Value.agg (enc x64).toArray)) ?_ (qsP (fun z=>Zp z.E Za ld rfl (kr0 rfl)) (qsP (fun z=>ZG z.E Za ld rfl rfl Tryz.underlying160 Xp hi66.1 (kr0 rfl)) (qsP (v:=(Value.agg (enc x67).toArray)) ?_ (qsP (fun z=>ZG z.E Za ld rfl rfl Tryz.underlying160 Xp hi69.1 (kr0 rfl)) (qsM (pr:=fun v=>True) ?_ qs0)))))))))) ?_
       ·intro a w ux62 D z
        have hE:=z.E
        have hD : D 4 = false:=z.F
        have hM:=z.M.togA (pre:=[_,_]) (JN (j:=9) (k:=1) z.c rfl rfl rfl hD)
        exact Zr hE rfl Xp rfl (At.vec hM.rawAt2 hi63.2) (Flat.len _) fun a hE=>⟨Kept.refl _ _,_,rfl,hE⟩
       ·intro a w ux62 D z
        have hE:=z.E
        have hD : D 7 = false:=z.F
        have hM:=z.M.togA (pre:=[_,_]) (JN (j:=9) (k:=9) z.c rfl rfl rfl hD)
        exact Zr hE rfl Xp rfl (At.vec hM.rawAt2 hi66.2) (Flat.len _) fun a hE=>⟨Kept.refl _ _,_,rfl,hE⟩
       ·intro a w ux62 D z
        have hE:=z.E
        have hD : D 9 = false:=z.F
        have hM:=(z.M.togA (pre:=[_,_]) hD).pull2
        exact Zn (seg:=enc x64) (cs':=enc (s13.2.1.setIfInBounds (j18).toNat x64)) hE hM Za rfl rfl rfl Xp (Flat.len _) (ZM (v:=s13.2.1) (x:=x64) hi69.1) (Flat.cell _) (ZE (v:=s13.2.1) (x:=x64) hi69.1) fun w a hM hE=>⟨undef,_,rfl,Env.dummy hE (by decide),M.qTog (mk1:=[]) (mk2:=[]) hM rfl,trivial⟩
       ·intro a w ux62 D hE hM hG hall
        have d9:=hall 9 (by decide)
        have hM:=hM.togB (pre:=[_,_]) d9
        obtain ⟨x73,hi72,hl60⟩:=bvx hl60
        refine ZD hE rfl rfl Tryz.underlying160 Xp hi72.1 ?_; intro a hE
        have hM:=hM.pull2
        refine Zn (seg:=enc x67) (cs':=enc ((s13.2.1.setIfInBounds (j18).toNat x64).setIfInBounds (s13.2.2.1).toNat x67)) hE hM Za rfl rfl rfl Xp (Flat.len _) (ZM (v:=(s13.2.1.setIfInBounds (j18).toNat x64)) (x:=x67) hi72.1) (Flat.cell _) (ZE (v:=(s13.2.1.setIfInBounds (j18).toNat x64)) (x:=x67) hi72.1) fun w a hM hE=>Zf ?_
        obtain rfl:=Option.some.inj hl60
        refine Zh ?_
        exact ⟨hE.sub ⟨rfl,rfl,rfl,rfl,rfl,rfl,rfl,trivial⟩,hM⟩
      ·skip
       rintro a w ⟨hE,hM⟩
       refine Zb (Zd hE rfl fun a hE=>Zd hE rfl fun a hE=>Zd hE rfl fun a hE=>Zd hE rfl ?_); intro a hE
       obtain ⟨x77,hi76,hF61⟩:=bvx hF61
       refine ZD hE rfl rfl Tryz.underlying160 Xp hi76.1 ?_; intro a hE
       obtain ⟨x80,hi79,hF61⟩:=bvx hF61
       refine ZD hE rfl rfl Tryz.underlying158 ty5 hi79.1 fun a hE=>Zw (v:=(vB x80)) hE rfl ty5 rfl (At.vec (At.vec hM.rawAt2 hi76.2) hi79.2) ?_; intro a hE
       obtain ⟨r82,e83,hF61⟩:=bind_some hF61
       refine Zx hE rfl BG (YI _ p0 s13.2.2.2 x80 r82 e83) ?_
       rintro v w a ⟨rfl,hK⟩ hE
       have hM:=hM.keep hK
       refine Zc hE rfl fun a hE=>Ze (Zb (Zd hE rfl fun a hE=>Zd hE rfl fun a hE=>Zd hE rfl ?_)); intro a hE
       obtain ⟨x85,hi84,hF61⟩:=bvx hF61
       refine ZD hE rfl rfl Tryz.underlying160 Xp hi84.1 ?_; intro a hE
       obtain ⟨x88,hi87,hF61⟩:=bvx hF61
       refine ZD hE rfl rfl Tryz.underlying158 ty5 hi87.1 fun a hE=>Zw (v:=(vB x88)) hE rfl ty5 rfl (At.vec (At.vec hM.rawAt2 hi84.2) hi87.2) ?_; intro a hE
       obtain ⟨r90,e91,hF61⟩:=bind_some hF61
       refine Zx hE rfl Zbv (U9 _ p0 x88 r90 e91) ?_
       rintro v w a ⟨rfl,hK⟩ hE
       have hM:=hM.keep hK
       refine Zc hE rfl fun a hE=>Ze (wp_seq (Zb (Zd hE rfl fun a hE=>Ze ?_)))
       obtain ⟨j92,hl93,hF94⟩:=bind_some hF61
       refine ZJ (fun a w=>Env 153 a [(0,vI p0),(3,(ptr b1 0)),(5,(ptr b3 0)),(6,(ptr b7 0)),(7,vB r82),(8,vI s13.2.2.1),(16,vI s13.2.2.1)] ∧ M (Old w0) w0 w [raw b7 (enc j92.2),raw b3 (enc (Vector.replicate 4 (Vector.replicate 4 (0 : UInt8)))),raw b1 (enc j92.1)]) ?_ ?_
       ·skip
        refine wp_block ?_
        refine ZC (fun (s95 : (Vector (Vector UInt8 4) 4) × (Vector (Vector UInt8 4) 4) × Int) a w=>Env 153 a [(0,vI p0),(3,(ptr b1 0)),(5,(ptr b3 0)),(6,(ptr b7 0)),(7,vB r82),(8,vI s13.2.2.1),(10,vB r90),(16,vI s13.2.2.1),(70,vI s95.2.2)] ∧ M (Old w0) w0 w [raw b7 (enc s95.2.1),raw b3 (enc (Vector.replicate 4 (Vector.replicate 4 (0 : UInt8)))),raw b1 (enc s95.1)]) hl93 ⟨hE.sub ⟨rfl,rfl,rfl,rfl,rfl,rfl,rfl,rfl,rfl,trivial⟩,hM⟩ ?_
        rintro s95 a w ⟨hE,hM⟩ o98 hs96 hx97
        unfold XK at hs96
        refine Zb (Zi hE rfl rfl rfl fun a hE=>Ze (wp_seq ?_))
        refine Zo hE rfl ?_ ?_
        ·intro hb99
         have hs96:=Zs hs96 hb99
         refine wp_skip (Zu (wp_seq (wp_block (Zb (Zd hE rfl fun a hE=>Zc hE rfl fun a hE=>Ze ?_)))))
         have hM:=hM.pull2
         obtain ⟨x102,hi101,hs96⟩:=bvx hs96
         obtain ⟨x105,hi104,hs96⟩:=bvx hs96
         obtain ⟨r107,e108,hs96⟩:=bind_some hs96
         obtain ⟨x110,hi109,hs96⟩:=bvx hs96
         obtain ⟨x113,hi112,hs96⟩:=bvx hs96
         obtain ⟨r115,e116,hs96⟩:=bind_some hs96
         obtain ⟨x118,hi117,hs96⟩:=bvx hs96
         obtain ⟨x121,hi120,hs96⟩:=bvx hs96
         obtain ⟨x124,hi123,hs96⟩:=bvx hs96
         refine Xs (its:=[raw b7 (enc s95.2.1),raw b3 (enc (Vector.replicate 4 (Vector.replicate 4 (0 : UInt8))))]) (mk:=([mkT 22 (raw b1 (enc s95.1)) (raw b1 (enc (s95.1.setIfInBounds (s13.2.2.1).toNat (x118.setIfInBounds (s95.2.2).toNat r107))))] : Mk)) [73,74,75,76,77,78,79,80,81,82,83,84,85,86,87,88,89,90,91,92,93,94,175,95] Yy rfl rfl (by decide) rfl hE (fun u=>M.qT (M.q0 hM.drew u)) (qsP (fun z=>Zp z.E Za ld rfl (kr0 rfl)) (qsP (fun z=>Zp z.E Za ld rfl (kr0 rfl)) (qsP (fun z=>Zp z.E Za ld rfl (kr0 rfl)) (qsP (fun z=>Zp z.E Za ld rfl (kr0 rfl)) (qsP (fun z=>Zp z.E Za ld rfl (kr0 rfl)) (qsP (fun z=>Zp z.E Za ld rfl (kr0 rfl)) (qsP (fun z=>Zp z.E Za ld rfl (kr0 rfl)) (qsP (fun z=>ZG z.E Za ld rfl rfl Tryz.underlying160 Xp hi101.1 (kr0 rfl)) (qsP (fun z=>ZG z.E Za ld rfl rfl Tryz.underlying158 ty5 hi104.1 (kr0 rfl)) (qsP (v:=(vB x105)) ?_ (qsP (fun z=>Zp z.E Za ld rfl (kr0 rfl)) (qsP (fun z=>ZV z.E Za ld rfl BG (YI _ p0 x105 r90 r107 e108) (kc rfl)) (qsP (fun z=>Zp z.E Za ld rfl (kr0 rfl)) (qsP (fun z=>Zp z.E Za ld rfl (kr0 rfl)) (qsP (fun z=>Zp z.E Za ld rfl (kr0 rfl)) (qsP (fun z=>ZG z.E Za ld rfl rfl Tryz.underlying160 Xp hi109.1 (kr0 rfl)) (qsP (fun z=>ZG z.E Za ld rfl rfl Tryz.underlying158 ty5 hi112.1 (kr0 rfl)) (qsP (v:=(vB x113)) ?_ (qsP (fun z=>Zp z.E Za ld rfl (kr0 rfl)) (qsP (fun z=>ZV z.E Za ld rfl BG (YI _ p0 x113 r90 r115 e116) (kc rfl)) (qsP (fun z=>ZG z.E Za ld rfl rfl Tryz.underlying160 Xp hi117.1 (kr0 rfl)) (qsP (fun z=>ZG z.E Za ld rfl rfl Tryz.underlying158 ty5 hi120.1 (kr0 rfl)) (qsM (pr:=fun v=>True) ?_ (qsP (fun z=>ZG z.E Za ld rfl rfl Tryz.underlying160 Xp hi123.1 (kr0 rfl)) qs0)))))))))))))))))))))))) ?_
         ·intro a w ux100 D z
          have hE:=z.E
          have hD : D 9 = false:=z.F
          have hM:=z.M.togA (pre:=[_,_]) (JN (j:=22) (k:=12) z.c rfl rfl rfl hD)
          exact Zw (v:=(vB x105)) hE rfl ty5 rfl (At.vec (At.vec hM.rawAt2 hi101.2) hi104.2) fun a hE=>⟨Kept.refl _ _,_,rfl,hE⟩
         ·intro a w ux100 D z
          have hE:=z.E
          have hM:=z.M
          exact Zw (v:=(vB x113)) hE rfl ty5 rfl (At.vec (At.vec hM.rawAt0 hi109.2) hi112.2) fun a hE=>⟨Kept.refl _ _,_,rfl,hE⟩
         ·intro a w ux100 D z
          have hE:=z.E
          have hD : D 22 = false:=z.F
          have hM:=(z.M.togA (pre:=[_,_]) hD).pull2
          exact Zn (seg:=[vB r107]) (cs':=enc (s95.1.setIfInBounds (s13.2.2.1).toNat (x118.setIfInBounds (s95.2.2).toNat r107))) hE hM Za rfl rfl rfl ty5 rfl (Ur (o':=0 + (s95.2.2).toNat * 1) hi117 (ZM (v:=x118) (x:=r107) hi120.1) (by first | omega | (simp only [Flat.n] <;> omega))) (Flat.cell (r107 : UInt8)) (Vo (o':=0 + (s95.2.2).toNat * 1) hi117 (ZM (v:=x118) (x:=r107) hi120.1) (ZE (v:=x118) (x:=r107) hi120.1) (by first | omega | (simp only [Flat.n] <;> omega))) fun w a hM hE=>⟨undef,_,rfl,Env.dummy hE (by decide),M.qTog (mk1:=[]) (mk2:=[]) hM rfl,trivial⟩
         ·intro a w ux100 D hE hM hG hall
          have d22:=hall 22 (by decide)
          have hM:=hM.togB (pre:=[_,_]) d22
          obtain ⟨x127,hi126,hs96⟩:=bvx hs96
          refine ZD hE rfl rfl Tryz.underlying158 ty5 hi126.1 fun a hE=>Zn (seg:=[vB r115]) (cs':=enc (s95.2.1.setIfInBounds (s13.2.2.1).toNat (x124.setIfInBounds (s95.2.2).toNat r115))) hE hM Za rfl rfl rfl ty5 rfl (Ur (o':=0 + (s95.2.2).toNat * 1) hi123 (ZM (v:=x124) (x:=r115) hi126.1) (by first | omega | (simp only [Flat.n] <;> omega))) (Flat.cell (r115 : UInt8)) (Vo (o':=0 + (s95.2.2).toNat * 1) hi123 (ZM (v:=x124) (x:=r115) hi126.1) (ZE (v:=x124) (x:=r115) hi126.1) (by first | omega | (simp only [Flat.n] <;> omega))) fun w a hM hE=>Zf (Z4 (Zu (wp_region_lit (Zi hE rfl rfl rfl fun a hE=>Zd hE rfl fun a hE=>Zf (Zh ?_)))))
          exact ⟨_,(ois hs96),hE.sub ⟨rfl,rfl,rfl,rfl,rfl,rfl,rfl,rfl,rfl,trivial⟩,hM⟩
        ·intro hb99
         have hs96:=Zt hs96 hb99
         refine wp_exit (Zl (Zl (Z5 ?_)))
         obtain rfl:=hx97 _ (ois hs96)
         refine Zh ?_
         exact ⟨hE.sub ⟨rfl,rfl,rfl,rfl,rfl,rfl,rfl,trivial⟩,hM⟩
       ·skip
        rintro a w ⟨hE,hM⟩
        refine Zu (Zb (Zd hE rfl fun a hE=>Ze ?_))
        obtain ⟨j130,hl131,hF132⟩:=bind_some hF94
        refine ZJ (fun a w=>Env 153 a [(0,vI p0),(3,(ptr b1 0)),(5,(ptr b3 0)),(6,(ptr b7 0)),(7,vB r82),(16,vI s13.2.2.1)] ∧ M (Old w0) w0 w [raw b7 (enc j130.2),raw b3 (enc (Vector.replicate 4 (Vector.replicate 4 (0 : UInt8)))),raw b1 (enc j130.1)]) ?_ ?_
        ·skip
         refine wp_block ?_
         refine ZC (fun (s133 : (Vector (Vector UInt8 4) 4) × (Vector (Vector UInt8 4) 4) × Int) a w=>Env 153 a [(0,vI p0),(3,(ptr b1 0)),(5,(ptr b3 0)),(6,(ptr b7 0)),(7,vB r82),(8,vI s13.2.2.1),(16,vI s13.2.2.1),(98,vI s133.2.2)] ∧ M (Old w0) w0 w [raw b7 (enc s133.2.1),raw b3 (enc (Vector.replicate 4 (Vector.replicate 4 (0 : UInt8)))),raw b1 (enc s133.1)]) hl131 ⟨hE.sub ⟨rfl,rfl,rfl,rfl,rfl,rfl,rfl,rfl,trivial⟩,hM⟩ ?_
         rintro s133 a w ⟨hE,hM⟩ o136 hs134 hx135
         unfold XL at hs134
         refine Zb (Zi hE rfl rfl rfl fun a hE=>Ze (wp_seq ?_))
         refine Zo hE rfl ?_ ?_
         ·intro hb137
          have hs134:=Zs hs134 hb137
          refine wp_skip (Zu ?_)
          obtain ⟨j138,hl139,hF140⟩:=bind_some hs134
          refine ZI (fun a w=>Env 153 a [(0,vI p0),(3,(ptr b1 0)),(5,(ptr b3 0)),(6,(ptr b7 0)),(7,vB r82),(8,vI s13.2.2.1),(16,vI s13.2.2.1),(98,vI s133.2.2)] ∧ M (Old w0) w0 w [raw b7 (enc j138.2),raw b3 (enc (Vector.replicate 4 (Vector.replicate 4 (0 : UInt8)))),raw b1 (enc j138.1)]) ?_ ?_
          ·skip
           refine wp_block (Zb (Zd hE rfl fun a hE=>Zc hE rfl fun a hE=>Ze (Zb (Zd hE rfl fun a hE=>Zd hE rfl ?_)))); intro a hE
           obtain ⟨x142,hi141,hl139⟩:=bvx hl139
           refine ZD hE rfl rfl Tryz.underlying160 Xp hi141.1 ?_; intro a hE
           obtain ⟨x145,hi144,hl139⟩:=bvx hl139
           refine ZD hE rfl rfl Tryz.underlying158 ty5 hi144.1 fun a hE=>Zw (v:=(vB x145)) hE rfl ty5 rfl (At.vec (At.vec hM.rawAt2 hi141.2) hi144.2) fun a hE=>Zc hE rfl fun a hE=>Ze ?_
           obtain ⟨j147,hl148,hF149⟩:=bind_some hl139
           refine ZI (fun a w=>Env 153 a [(0,vI p0),(3,(ptr b1 0)),(5,(ptr b3 0)),(6,(ptr b7 0)),(7,vB r82),(8,vI s13.2.2.1),(12,vI s133.2.2),(13,vB x145),(16,vI s13.2.2.1),(98,vI s133.2.2),(112,vT j147)] ∧ M (Old w0) w0 w [raw b7 (enc s133.2.1),raw b3 (enc (Vector.replicate 4 (Vector.replicate 4 (0 : UInt8)))),raw b1 (enc s133.1)]) ?_ ?_
           ·skip
            refine wp_region_lit (Zd hE rfl fun a hE=>Zd hE rfl fun a hE=>Zi hE rfl rfl rfl fun a hE=>Zd hE rfl ?_); intro a hE
            refine YK (s133.2.2 != s13.2.2.1) (fun hb150=>?_) (fun hb150=>?_)
            ·have hl148:=Zs hl148 hb150
             refine Zp hE (Zj hE rfl (lkb rfl hb150)) (by decide) rfl fun a hE=>Ye hE (Zj hE rfl (lkb rfl hb150)) (by decide) rfl rfl (yO x145 0) fun a hE=>Z8 hE (lkb rfl hb150) rfl fun a hE=>Zf ?_
             obtain rfl:=Option.some.inj hl148
             refine Zh ?_
             exact ⟨hE.sub ⟨rfl,rfl,rfl,rfl,rfl,rfl,rfl,rfl,rfl,rfl,rfl,trivial⟩,hM⟩
            ·have hl148:=Zt hl148 hb150
             refine Zm hE rfl (lkb rfl hb150) rfl (by decide) fun a hE=>Zm hE rfl (lkb rfl hb150) rfl (by decide) fun a hE=>YB hE (lkb rfl hb150) rfl fun a hE=>Zf ?_
             obtain rfl:=Option.some.inj hl148
             refine Zh ?_
             exact ⟨hE.sub ⟨rfl,rfl,rfl,rfl,rfl,rfl,rfl,rfl,rfl,rfl,rfl,trivial⟩,hM⟩
           ·skip
            rintro a w ⟨hE,hM⟩
            obtain ⟨j153,hl154,hF155⟩:=bind_some hF149
            refine ZJ (fun a w=>Env 153 a [(0,vI p0),(3,(ptr b1 0)),(5,(ptr b3 0)),(6,(ptr b7 0)),(7,vB r82),(8,vI s13.2.2.1),(16,vI s13.2.2.1),(98,vI s133.2.2)] ∧ M (Old w0) w0 w [raw b7 (enc j153.2),raw b3 (enc (Vector.replicate 4 (Vector.replicate 4 (0 : UInt8)))),raw b1 (enc j153.1)]) ?_ ?_
            ·skip
             refine Zo hE rfl ?_ ?_
             ·intro hb156
              have hl154:=Zs hl154 hb156
              refine Zb (Zd hE rfl fun a hE=>Ze ?_)
              obtain ⟨j157,hl158,hF159⟩:=bind_some hl154
              refine ZJ (fun a w=>Env 153 a [(0,vI p0),(3,(ptr b1 0)),(5,(ptr b3 0)),(6,(ptr b7 0)),(7,vB r82),(8,vI s13.2.2.1),(16,vI s13.2.2.1),(98,vI s133.2.2)] ∧ M (Old w0) w0 w [raw b7 (enc j157.2),raw b3 (enc (Vector.replicate 4 (Vector.replicate 4 (0 : UInt8)))),raw b1 (enc j157.1)]) ?_ ?_
              ·skip
               refine wp_block ?_
               refine ZC (fun (s160 : (Vector (Vector UInt8 4) 4) × (Vector (Vector UInt8 4) 4) × Int) a w=>Env 153 a [(0,vI p0),(3,(ptr b1 0)),(5,(ptr b3 0)),(6,(ptr b7 0)),(7,vB r82),(8,vI s13.2.2.1),(12,vI s133.2.2),(13,vB x145),(16,vI s13.2.2.1),(98,vI s133.2.2),(113,vI s160.2.2)] ∧ M (Old w0) w0 w [raw b7 (enc s160.2.1),raw b3 (enc (Vector.replicate 4 (Vector.replicate 4 (0 : UInt8)))),raw b1 (enc s160.1)]) hl158 ⟨hE.sub ⟨rfl,rfl,rfl,rfl,rfl,rfl,rfl,rfl,rfl,rfl,rfl,trivial⟩,hM⟩ ?_
               rintro s160 a w ⟨hE,hM⟩ o163 hs161 hx162
               unfold XR at hs161
               refine Zb (Zi hE rfl rfl rfl fun a hE=>Ze (wp_seq ?_))
               refine Zo hE rfl ?_ ?_
               ·intro hb164
                have hs161:=Zs hs161 hb164
                refine wp_skip (Zu (wp_seq (wp_block (Zb (Zd hE rfl fun a hE=>Zc hE rfl fun a hE=>Ze ?_)))))
                obtain ⟨j165,hl166,hF167⟩:=bind_some hs161
                refine ZI (fun a w=>Env 153 a [(0,vI p0),(3,(ptr b1 0)),(5,(ptr b3 0)),(6,(ptr b7 0)),(7,vB r82),(8,vI s13.2.2.1),(12,vI s133.2.2),(13,vB x145),(14,vI s160.2.2),(16,vI s13.2.2.1),(98,vI s133.2.2),(113,vI s160.2.2)] ∧ M (Old w0) w0 w [raw b7 (enc s160.2.1),raw b3 (enc (Vector.replicate 4 (Vector.replicate 4 (0 : UInt8)))),raw b1 (enc j165)]) ?_ ?_
                ·skip
                 obtain ⟨x170,hi169,hl166⟩:=bvx hl166
                 obtain ⟨x173,hi172,hl166⟩:=bvx hl166
                 obtain ⟨x176,hi175,hl166⟩:=bvx hl166
                 obtain ⟨x179,hi178,hl166⟩:=bvx hl166
                 obtain ⟨r181,e182,hl166⟩:=bind_some hl166
                 obtain ⟨x184,hi183,hl166⟩:=bvx hl166
                 obtain ⟨x187,hi186,hl166⟩:=bvx hl166
                 refine ZX [116,117,118,119,120,121,122,123,124,125,126,127,128,129,130,131] Yy rfl rfl (by decide) rfl hE hM (qsP (fun z=>Zp z.E Za ld rfl (kr0 rfl)) (qsP (fun z=>Zp z.E Za ld rfl (kr0 rfl)) (qsP (fun z=>ZG z.E Za ld rfl rfl Tryz.underlying160 Xp hi169.1 (kr0 rfl)) (qsP (fun z=>ZG z.E Za ld rfl rfl Tryz.underlying158 ty5 hi172.1 (kr0 rfl)) (qsP (fun z=>ZK (v:=(vB x173)) z.E Za ld rfl ty5 rfl (At.vec (At.vec (z.M.rawAt2) hi169.2) hi172.2) (kr0 rfl)) (qsP (fun z=>Zp z.E Za ld rfl (kr0 rfl)) (qsP (fun z=>Zp z.E Za ld rfl (kr0 rfl)) (qsP (fun z=>Zp z.E Za ld rfl (kr0 rfl)) (qsP (fun z=>Zp z.E Za ld rfl (kr0 rfl)) (qsP (fun z=>ZG z.E Za ld rfl rfl Tryz.underlying160 Xp hi175.1 (kr0 rfl)) (qsP (fun z=>ZG z.E Za ld rfl rfl Tryz.underlying158 ty5 hi178.1 (kr0 rfl)) (qsP (fun z=>ZK (v:=(vB x179)) z.E Za ld rfl ty5 rfl (At.vec (At.vec (z.M.rawAt2) hi175.2) hi178.2) (kr0 rfl)) (qsP (fun z=>ZV z.E Za ld rfl BG (YI _ p0 x145 x179 r181 e182) (kc rfl)) (qsP (v:=(vB (x173 ^^^ r181))) (fun z=>Ye z.E Za ld rfl rfl (Vw x173 r181) (kr0 rfl)) (qsP (fun z=>ZG z.E Za ld rfl rfl Tryz.underlying160 Xp hi183.1 (kr0 rfl)) (qsP (fun z=>ZG z.E Za ld rfl rfl Tryz.underlying158 ty5 hi186.1 (kr0 rfl)) qs0)))))))))))))))) ?_
                 ·intro a w u hE hM
                  have hM:=hM.pull2
                  refine Zn (seg:=[(vB (x173 ^^^ r181))]) (cs':=enc (s160.1.setIfInBounds (s133.2.2).toNat (x184.setIfInBounds (s160.2.2).toNat (x173 ^^^ r181)))) hE hM Za rfl rfl rfl ty5 rfl (Ur (o':=0 + (s160.2.2).toNat * 1) hi183 (ZM (v:=x184) (x:=x173 ^^^ r181) hi186.1) (by first | omega | (simp only [Flat.n] <;> omega))) (Flat.cell (x173 ^^^ r181 : UInt8)) (Vo (o':=0 + (s160.2.2).toNat * 1) hi183 (ZM (v:=x184) (x:=x173 ^^^ r181) hi186.1) (ZE (v:=x184) (x:=x173 ^^^ r181) hi186.1) (by first | omega | (simp only [Flat.n] <;> omega))) fun w a hM hE=>Zf ?_
                  obtain rfl:=Option.some.inj hl166
                  refine Zh ?_
                  have hM:=hM.pull2.pull2
                  exact ⟨hE.sub ⟨rfl,rfl,rfl,rfl,rfl,rfl,rfl,rfl,rfl,rfl,rfl,rfl,trivial⟩,hM⟩
                ·skip
                 rintro a w ⟨hE,hM⟩
                 obtain ⟨x192,hi191,hF167⟩:=bvx hF167
                 obtain ⟨x195,hi194,hF167⟩:=bvx hF167
                 obtain ⟨x198,hi197,hF167⟩:=bvx hF167
                 obtain ⟨x201,hi200,hF167⟩:=bvx hF167
                 obtain ⟨r203,e204,hF167⟩:=bind_some hF167
                 obtain ⟨x206,hi205,hF167⟩:=bvx hF167
                 obtain ⟨x209,hi208,hF167⟩:=bvx hF167
                 refine ZX [132,133,134,135,136,137,138,139,140,141,142,143,144,145,146,147] Yy rfl rfl (by decide) rfl hE hM (qsP (fun z=>Zp z.E Za ld rfl (kr0 rfl)) (qsP (fun z=>Zp z.E Za ld rfl (kr0 rfl)) (qsP (fun z=>ZG z.E Za ld rfl rfl Tryz.underlying160 Xp hi191.1 (kr0 rfl)) (qsP (fun z=>ZG z.E Za ld rfl rfl Tryz.underlying158 ty5 hi194.1 (kr0 rfl)) (qsP (fun z=>ZK (v:=(vB x195)) z.E Za ld rfl ty5 rfl (At.vec (At.vec (z.M.rawAt0) hi191.2) hi194.2) (kr0 rfl)) (qsP (fun z=>Zp z.E Za ld rfl (kr0 rfl)) (qsP (fun z=>Zp z.E Za ld rfl (kr0 rfl)) (qsP (fun z=>Zp z.E Za ld rfl (kr0 rfl)) (qsP (fun z=>Zp z.E Za ld rfl (kr0 rfl)) (qsP (fun z=>ZG z.E Za ld rfl rfl Tryz.underlying160 Xp hi197.1 (kr0 rfl)) (qsP (fun z=>ZG z.E Za ld rfl rfl Tryz.underlying158 ty5 hi200.1 (kr0 rfl)) (qsP (fun z=>ZK (v:=(vB x201)) z.E Za ld rfl ty5 rfl (At.vec (At.vec (z.M.rawAt0) hi197.2) hi200.2) (kr0 rfl)) (qsP (fun z=>ZV z.E Za ld rfl BG (YI _ p0 x145 x201 r203 e204) (kc rfl)) (qsP (v:=(vB (x195 ^^^ r203))) (fun z=>Ye z.E Za ld rfl rfl (Vw x195 r203) (kr0 rfl)) (qsP (fun z=>ZG z.E Za ld rfl rfl Tryz.underlying160 Xp hi205.1 (kr0 rfl)) (qsP (fun z=>ZG z.E Za ld rfl rfl Tryz.underlying158 ty5 hi208.1 (kr0 rfl)) qs0)))))))))))))))) ?_
                 ·intro a w u hE hM
                  refine Zn (seg:=[(vB (x195 ^^^ r203))]) (cs':=enc (s160.2.1.setIfInBounds (s133.2.2).toNat (x206.setIfInBounds (s160.2.2).toNat (x195 ^^^ r203)))) hE hM Za rfl rfl rfl ty5 rfl (Ur (o':=0 + (s160.2.2).toNat * 1) hi205 (ZM (v:=x206) (x:=x195 ^^^ r203) hi208.1) (by first | omega | (simp only [Flat.n] <;> omega))) (Flat.cell (x195 ^^^ r203 : UInt8)) (Vo (o':=0 + (s160.2.2).toNat * 1) hi205 (ZM (v:=x206) (x:=x195 ^^^ r203) hi208.1) (ZE (v:=x206) (x:=x195 ^^^ r203) hi208.1) (by first | omega | (simp only [Flat.n] <;> omega))) fun w a hM hE=>Zf (Z4 (Zu (wp_region_lit (Zi hE rfl rfl rfl fun a hE=>Zd hE rfl fun a hE=>Zf (Zh ?_)))))
                  exact ⟨_,(ois hF167),hE.sub ⟨rfl,rfl,rfl,rfl,rfl,rfl,rfl,rfl,rfl,rfl,rfl,trivial⟩,hM⟩
               ·intro hb164
                have hs161:=Zt hs161 hb164
                refine wp_exit (Zl (Zl (Z5 ?_)))
                obtain rfl:=hx162 _ (ois hs161)
                refine Zh ?_
                exact ⟨hE.sub ⟨rfl,rfl,rfl,rfl,rfl,rfl,rfl,rfl,trivial⟩,hM⟩
              ·skip
               rintro a w ⟨hE,hM⟩
               obtain rfl:=Option.some.inj hF159
               refine Zh ?_
               exact ⟨hE.sub ⟨rfl,rfl,rfl,rfl,rfl,rfl,rfl,rfl,trivial⟩,hM⟩
             ·intro hb156
              have hl154:=Zt hl154 hb156
              refine wp_skip ?_
              obtain rfl:=Option.some.inj hl154
              refine Zh ?_
              exact ⟨hE.sub ⟨rfl,rfl,rfl,rfl,rfl,rfl,rfl,rfl,trivial⟩,hM⟩
            ·skip
             rintro a w ⟨hE,hM⟩
             refine Z4 ?_
             obtain rfl:=Option.some.inj hF155
             refine Zh ?_
             exact ⟨hE.sub ⟨rfl,rfl,rfl,rfl,rfl,rfl,rfl,rfl,trivial⟩,hM⟩
          ·skip
           rintro a w ⟨hE,hM⟩
           refine wp_region_lit (Zi hE rfl rfl rfl fun a hE=>Zd hE rfl fun a hE=>Zf (Zh ?_))
           exact ⟨_,(ois hF140),hE.sub ⟨rfl,rfl,rfl,rfl,rfl,rfl,rfl,rfl,trivial⟩,hM⟩
         ·intro hb137
          have hs134:=Zt hs134 hb137
          refine wp_exit (Zl (Zl (Z5 ?_)))
          obtain rfl:=hx135 _ (ois hs134)
          refine Zh ?_
          exact ⟨hE.sub ⟨rfl,rfl,rfl,rfl,rfl,rfl,trivial⟩,hM⟩
        ·skip
         rintro a w ⟨hE,hM⟩
         refine Z4 (Zu (wp_region_lit (Zi hE rfl rfl rfl fun a hE=>Zd hE rfl fun a hE=>Zf (Zh ?_))))
         exact ⟨_,(ois hF132),hE.sub ⟨rfl,rfl,rfl,rfl,rfl,rfl,trivial⟩,hM⟩
  ·intro hb17
   have hs14:=Zt hs14 hb17
   refine wp_exit (Zl (Zl (Z5 ?_)))
   obtain rfl:=hx15 _ (ois hs14)
   refine Zh ?_
   have hM:=M.fst (l:=[_,_]) hM.pull1.pull1
   exact ⟨(s13.2.1,s13.2.2.2),rfl,hE.sub ⟨rfl,rfl,rfl,trivial⟩,hM⟩
 ·skip
  rintro a w ⟨s12,ht,hE,hM⟩
  subst ht
  have hF11:=Qu hF11
  refine Zu ?_
  obtain ⟨j217,hl218,hF219⟩:=bind_some hF11
  refine ZI (fun a w=>Env 153 a [(4,vB j217.2),(5,(ptr b3 0))] ∧ M (Old w0) w0 w [raw b3 (enc j217.1)]) ?_ ?_
  ·skip
   refine ZX [151,152,4] Yy rfl rfl (by decide) rfl hE hM (qsP (fun z=>Zp z.E Za ld rfl (kr0 rfl)) (qsP (fun z=>Z1 z.E Za ld rfl U6 rfl (z.M.rawAt0) (Flat.len _) (kr0 rfl)) (qsP (fun z=>AQ z.E Za ld rfl (kr0 rfl)) qs0))) ?_
   ·intro a w u hE hM
    have hM:=hM.pull1
    refine Zn (seg:=enc s12.1) (cs':=enc s12.1) hE hM Za rfl rfl rfl U6 (Flat.len _) (zle flq) (Flat.cell _) (Zk flq) fun w a hM hE=>Zf ?_
    obtain rfl:=Option.some.inj hl218
    refine Zh ?_
    have hM:=M.fst (l:=[_]) hM
    exact ⟨hE.sub ⟨rfl,rfl,trivial⟩,hM⟩
  ·skip
   rintro a w ⟨hE,hM⟩
   obtain rfl:=Option.some.inj hF219
   have hq222 : Yt Tryz.prog _ _ (.cell 5 160) _:=ZQ hE rfl U6 rfl hM.rawAt0 (Flat.len _) rfl
   exact wp_ret (Ja hE rfl (ZY hE rfl) hq222 ⟨_,rfl,rfl,hM.kept⟩)
def Xj (p0 : (Vector UInt8 256)) (s10 : (Vector UInt8 256) × Int) : Option (Fl ((Vector UInt8 256) × Int) (Vector UInt8 256)) :=
 if (decide (s10.2 < 256)) = true then ((ZH p0 s10.2).bind fun x15=>(ZH s10.1 (bI x15)).bind fun x19=>some (Fl.nx ((s10.1.setIfInBounds ((bI x15)).toNat (Zv s10.2)),wr (s10.2 + 1)))) else (some (Fl.ex s10.1))
def WK (p0 : (Vector UInt8 256)) : Option ((Vector UInt8 256)) :=
 (ZB (Xj p0) ((Vector.replicate 256 (0 : UInt8)),0)).bind fun j7=>some j7
theorem JK (w0 : World) (p0 : (Vector UInt8 256)) (r : (Vector UInt8 256)) (hF : WK p0 = some r) :
  Calls Tryz.prog 212 [(Value.agg (enc p0).toArray)].toArray w0 (Rt w0 (Value.agg (enc r).toArray)):=by
 refine ce Tryz.func212 ?_
 intro a hE
 have hM:=M.start w0
 unfold WK at hF
 refine Zb (ZT (cs:=enc p0) hE hM Za ld rfl rfl fun b1 w a hM hE=>Zz hE hM Xt fun b3 w a hM hE=>Ze (Zb (Xu (parts:=[]) (vs:=[]) (cs:=enc (Vector.replicate 256 (0 : UInt8))) hE Za ld rfl rfl Xt rfl ty5 YU fun a hE=>Zz hE hM Xt fun b5 w a hM hE=>Zn (seg:=enc (Vector.replicate 256 (0 : UInt8))) (cs':=enc (Vector.replicate 256 (0 : UInt8))) hE hM Za rfl rfl rfl Xt (Flat.len _) (zle flq) (Flat.cell _) (Zk flq) fun w a hM hE=>Ze (wp_seq (Zb (Zr hE rfl Xt rfl hM.rawAt2 (Flat.len _) fun a hE=>Zd hE rfl fun a hE=>Ze ?_))))))
 obtain ⟨j7,hl8,hF9⟩:=bind_some hF
 refine ZJ (fun a w=>Env 18 a [(2,(ptr b3 0)),(3,(ptr b5 0))] ∧ M (Old w0) w0 w [raw b5 (enc j7),raw b3 (enc (Vector.replicate 256 (0 : UInt8)))]) ?_ ?_
 ·skip
  refine wp_block ?_
  have hM:=M.fst (l:=[_,_]) hM.pull1.pull1
  refine ZC (fun (s10 : (Vector UInt8 256) × Int) a w=>Env 18 a [(2,(ptr b3 0)),(3,(ptr b5 0)),(7,(Value.agg (enc p0).toArray)),(8,vI s10.2)] ∧ M (Old w0) w0 w [raw b5 (enc s10.1),raw b3 (enc (Vector.replicate 256 (0 : UInt8)))]) hl8 ⟨hE.sub ⟨rfl,rfl,rfl,rfl,trivial⟩,hM⟩ ?_
  rintro s10 a w ⟨hE,hM⟩ o13 hs11 hx12
  unfold Xj at hs11
  refine Zb (Zi hE rfl rfl rfl fun a hE=>Ze (wp_seq ?_))
  refine Zo hE rfl ?_ ?_
  ·intro hb14
   have hs11:=Zs hs11 hb14
   refine wp_skip (Zu (wp_seq (wp_block (Zb (Zd hE rfl ?_))))); intro a hE
   obtain ⟨x15,hi17,hs11⟩:=bvx hs11
   refine KS hE Za ld rfl rfl Tryz.underlying157 ty5 rfl rfl hi17 rfl fun a hE=>Zc hE rfl fun a hE=>Zc hE rfl fun a hE=>Ze (wp_region_lit (Zd hE rfl fun a hE=>Zd hE rfl fun a hE=>Yj hE Za ld rfl Tryz.underlying3 Tryz.underlying5 ?_)); intro a hE
   obtain ⟨x19,hi18,hs11⟩:=bvx hs11
   refine ZD hE rfl rfl Tryz.underlying157 ty5 hi18.1 fun a hE=>Zn (seg:=[(vB (Zv s10.2))]) (cs':=enc (s10.1.setIfInBounds ((bI x15)).toNat (Zv s10.2))) hE hM Za rfl rfl rfl ty5 rfl (ZM (v:=s10.1) (x:=Zv s10.2) hi18.1) (Flat.cell (Zv s10.2 : UInt8)) (ZE (v:=s10.1) (x:=Zv s10.2) hi18.1) fun w a hM hE=>Zf (Z4 (Zu (wp_region_lit (Zi hE rfl rfl rfl fun a hE=>Zd hE rfl fun a hE=>Zf (Zh ?_)))))
   exact ⟨_,(ois hs11),hE.sub ⟨rfl,rfl,rfl,rfl,trivial⟩,hM⟩
  ·intro hb14
   have hs11:=Zt hs11 hb14
   refine wp_exit (Zl (Zl (Z5 ?_)))
   obtain rfl:=hx12 _ (ois hs11)
   refine Zh ?_
   exact ⟨hE.sub ⟨rfl,rfl,trivial⟩,hM⟩
 ·skip
  rintro a w ⟨hE,hM⟩
  refine Zu (Zb (Zr hE rfl Xt rfl hM.rawAt0 (Flat.len _) ?_)); intro a hE
  have hM:=hM.pull1
  refine Zn (seg:=enc j7) (cs':=enc j7) hE hM Za rfl rfl rfl Xt (Flat.len _) (zle flq) (Flat.cell _) (Zk flq) fun w a hM hE=>Ze ?_
  obtain rfl:=Option.some.inj hF9
  have hq22 : Yt Tryz.prog _ _ (.cell 2 157) _:=ZQ hE rfl Xt rfl hM.rawAt0 (Flat.len _) rfl
  exact wp_ret (ZN hE rfl hq22 ⟨_,rfl,rfl,hM.kept⟩)
def YM (p0 : (Vector UInt8 16)) (s10 : (Vector UInt8 16) × Int) : Option (Fl ((Vector UInt8 16) × Int) (Vector UInt8 16)) :=
 if (decide (s10.2 < 16)) = true then ((ZH p0 s10.2).bind fun x15=>(ZH s10.1 (bI x15)).bind fun x19=>some (Fl.nx ((s10.1.setIfInBounds ((bI x15)).toNat (Zv s10.2)),wr (s10.2 + 1)))) else (some (Fl.ex s10.1))
def Xy (p0 : (Vector UInt8 16)) : Option ((Vector UInt8 16)) :=
 (ZB (YM p0) ((Vector.replicate 16 (0 : UInt8)),0)).bind fun j7=>some j7
theorem KL (w0 : World) (p0 : (Vector UInt8 16)) (r : (Vector UInt8 16)) (hF : Xy p0 = some r) :
  Calls Tryz.prog 213 [(Value.agg (enc p0).toArray)].toArray w0 (Rt w0 (Value.agg (enc r).toArray)):=by
 refine ce Tryz.func213 ?_
 intro a hE
 have hM:=M.start w0
 unfold Xy at hF
 refine Zb (ZT (cs:=enc p0) hE hM Za ld rfl rfl fun b1 w a hM hE=>Zz hE hM QG fun b3 w a hM hE=>Ze (Zb (Xu (parts:=[]) (vs:=[]) (cs:=enc (Vector.replicate 16 (0 : UInt8))) hE Za ld rfl rfl QG rfl ty5 YU fun a hE=>Zz hE hM QG fun b5 w a hM hE=>Zn (seg:=enc (Vector.replicate 16 (0 : UInt8))) (cs':=enc (Vector.replicate 16 (0 : UInt8))) hE hM Za rfl rfl rfl QG (Flat.len _) (zle flq) (Flat.cell _) (Zk flq) fun w a hM hE=>Ze (wp_seq (Zb (Zr hE rfl QG rfl hM.rawAt2 (Flat.len _) fun a hE=>Zd hE rfl fun a hE=>Ze ?_))))))
 obtain ⟨j7,hl8,hF9⟩:=bind_some hF
 refine ZJ (fun a w=>Env 18 a [(2,(ptr b3 0)),(3,(ptr b5 0))] ∧ M (Old w0) w0 w [raw b5 (enc j7),raw b3 (enc (Vector.replicate 16 (0 : UInt8)))]) ?_ ?_
 ·skip
  refine wp_block ?_
  have hM:=M.fst (l:=[_,_]) hM.pull1.pull1
  refine ZC (fun (s10 : (Vector UInt8 16) × Int) a w=>Env 18 a [(2,(ptr b3 0)),(3,(ptr b5 0)),(7,(Value.agg (enc p0).toArray)),(8,vI s10.2)] ∧ M (Old w0) w0 w [raw b5 (enc s10.1),raw b3 (enc (Vector.replicate 16 (0 : UInt8)))]) hl8 ⟨hE.sub ⟨rfl,rfl,rfl,rfl,trivial⟩,hM⟩ ?_
  rintro s10 a w ⟨hE,hM⟩ o13 hs11 hx12
  unfold YM at hs11
  refine Zb (Zi hE rfl rfl rfl fun a hE=>Ze (wp_seq ?_))
  refine Zo hE rfl ?_ ?_
  ·intro hb14
   have hs11:=Zs hs11 hb14
   refine wp_skip (Zu (wp_seq (wp_block (Zb (Zd hE rfl ?_))))); intro a hE
   obtain ⟨x15,hi17,hs11⟩:=bvx hs11
   refine KS hE Za ld rfl rfl Tryz.underlying161 ty5 rfl rfl hi17 rfl fun a hE=>Zc hE rfl fun a hE=>Zc hE rfl fun a hE=>Ze (wp_region_lit (Zd hE rfl fun a hE=>Zd hE rfl fun a hE=>Yj hE Za ld rfl Tryz.underlying3 Tryz.underlying5 ?_)); intro a hE
   obtain ⟨x19,hi18,hs11⟩:=bvx hs11
   refine ZD hE rfl rfl Tryz.underlying161 ty5 hi18.1 fun a hE=>Zn (seg:=[(vB (Zv s10.2))]) (cs':=enc (s10.1.setIfInBounds ((bI x15)).toNat (Zv s10.2))) hE hM Za rfl rfl rfl ty5 rfl (ZM (v:=s10.1) (x:=Zv s10.2) hi18.1) (Flat.cell (Zv s10.2 : UInt8)) (ZE (v:=s10.1) (x:=Zv s10.2) hi18.1) fun w a hM hE=>Zf (Z4 (Zu (wp_region_lit (Zi hE rfl rfl rfl fun a hE=>Zd hE rfl fun a hE=>Zf (Zh ?_)))))
   exact ⟨_,(ois hs11),hE.sub ⟨rfl,rfl,rfl,rfl,trivial⟩,hM⟩
  ·intro hb14
   have hs11:=Zt hs11 hb14
   refine wp_exit (Zl (Zl (Z5 ?_)))
   obtain rfl:=hx12 _ (ois hs11)
   refine Zh ?_
   exact ⟨hE.sub ⟨rfl,rfl,trivial⟩,hM⟩
 ·skip
  rintro a w ⟨hE,hM⟩
  refine Zu (Zb (Zr hE rfl QG rfl hM.rawAt0 (Flat.len _) ?_)); intro a hE
  have hM:=hM.pull1
  refine Zn (seg:=enc j7) (cs':=enc j7) hE hM Za rfl rfl rfl QG (Flat.len _) (zle flq) (Flat.cell _) (Zk flq) fun w a hM hE=>Ze ?_
  obtain rfl:=Option.some.inj hF9
  have hq22 : Yt Tryz.prog _ _ (.cell 2 161) _:=ZQ hE rfl QG rfl hM.rawAt0 (Flat.len _) rfl
  exact wp_ret (ZN hE rfl hq22 ⟨_,rfl,rfl,hM.kept⟩)
def WB (s8 : (Vector (Vector (Vector UInt8 256) 4) 4) × Int) (s19 : (Vector (Vector (Vector UInt8 256) 4) 4) × Int) (s30 : (Vector (Vector (Vector UInt8 256) 4) 4) × Int) (r35 : UInt8) (s40 : (Vector (Vector (Vector UInt8 256) 4) 4) × Int) : Option (Fl ((Vector (Vector (Vector UInt8 256) 4) 4) × Int) (Vector (Vector (Vector UInt8 256) 4) 4)) :=
 if (decide (s40.2 < s30.2)) = true then ((ZH s40.1 s8.2).bind fun x47=>(ZH x47 s19.2).bind fun x50=>(ZH x50 s40.2).bind fun x53=>(ZH s40.1 s8.2).bind fun x56=>(ZH x56 s19.2).bind fun x59=>(ZH x59 (orI s30.2 s40.2)).bind fun x62=>some (Fl.nx ((s40.1.setIfInBounds (s8.2).toNat (x56.setIfInBounds (s19.2).toNat (x59.setIfInBounds ((orI s30.2 s40.2)).toNat (r35 ^^^ x53)))),wr (s40.2 + 1)))) else (some (Fl.ex s40.1))
def Wy (p0 : Int) (s8 : (Vector (Vector (Vector UInt8 256) 4) 4) × Int) (s19 : (Vector (Vector (Vector UInt8 256) 4) 4) × Int) (x24 : UInt8) (s30 : (Vector (Vector (Vector UInt8 256) 4) 4) × Int) : Option (Fl ((Vector (Vector (Vector UInt8 256) 4) 4) × Int) (Vector (Vector (Vector UInt8 256) 4) 4)) :=
 if (decide (s30.2 < 256)) = true then ((Yb p0 x24 (Zv s30.2)).bind fun r35=>(ZB (WB s8 s19 s30 r35) (s30.1,0)).bind fun j37=>some (Fl.nx (j37,wr (s30.2 * 2)))) else (some (Fl.ex s30.1))
def Wv (p0 : Int) (s8 : (Vector (Vector (Vector UInt8 256) 4) 4) × Int) (x14 : (Vector UInt8 4)) (s19 : (Vector (Vector (Vector UInt8 256) 4) 4) × Int) : Option (Fl ((Vector (Vector (Vector UInt8 256) 4) 4) × Int) (Vector (Vector (Vector UInt8 256) 4) 4)) :=
 if (decide (s19.2 < 4)) = true then ((ZH x14 s19.2).bind fun x24=>(ZB (Wy p0 s8 s19 x24) (s19.1,1)).bind fun j27=>some (Fl.nx (j27,wr (s19.2 + 1)))) else (some (Fl.ex s19.1))
def WC (p0 : Int) (p1 : (Vector (Vector UInt8 4) 4)) (s8 : (Vector (Vector (Vector UInt8 256) 4) 4) × Int) : Option (Fl ((Vector (Vector (Vector UInt8 256) 4) 4) × Int) (Vector (Vector (Vector UInt8 256) 4) 4)) :=
 if (decide (s8.2 < 4)) = true then ((ZH p1 s8.2).bind fun x14=>(ZB (Wv p0 s8 x14) (s8.1,0)).bind fun j16=>some (Fl.nx (j16,wr (s8.2 + 1)))) else (some (Fl.ex s8.1))
def WZ (p0 : Int) (p1 : (Vector (Vector UInt8 4) 4)) : Option ((Ref (Vector (Vector (Vector UInt8 256) 4) 4))) :=
 (ZB (WC p0 p1) ((Vector.replicate 4 (Vector.replicate 4 (Vector.replicate 256 (0 : UInt8)))),0)).bind fun j5=>some (⟨j5⟩ : (Ref (Vector (Vector (Vector UInt8 256) 4) 4)))
theorem KJ (w0 : World) (p0 : Int) (p1 : (Vector (Vector UInt8 4) 4)) (r : (Ref (Vector (Vector (Vector UInt8 256) 4) 4))) (hF : WZ p0 p1 = some r) :
  Calls Tryz.prog 214 [vI p0,(Value.agg (enc p1).toArray)].toArray w0 (fun en w'=>∃ v,en = .returned v ∧ (∃ (y1 : Value),v = y1 ∧ Fr w0 w' [own NoB (r : (Ref (Vector (Vector (Vector UInt8 256) 4) 4))) [y1]] ∧ Kept (Old w0) w0 w')):=by
 refine ce Tryz.func214 ?_
 intro a hE
 have hM:=M.start w0
 unfold WZ at hF
 refine Zb (ZT (cs:=enc p1) hE hM Za ld rfl rfl fun b1 w a hM hE=>Zc hE rfl fun a hE=>Ze (Zb (Xu (parts:=[]) (vs:=[]) (cs:=enc (Vector.replicate 4 (Vector.replicate 4 (Vector.replicate 256 (0 : UInt8))))) hE Za ld rfl rfl ty265 rfl AN YU fun a hE=>ZT (cs:=enc (Vector.replicate 4 (Vector.replicate 4 (Vector.replicate 256 (0 : UInt8))))) hE hM Za ld rfl rfl fun b3 w a hM hE=>Zc hE rfl fun a hE=>Ze (wp_seq (Zb (Zd hE rfl fun a hE=>Ze ?_))))))
 obtain ⟨j5,hl6,hF7⟩:=bind_some hF
 refine ZJ (fun a w=>Env 62 a [(5,(ptr b3 0))] ∧ M (Old w0) w0 w [raw b3 (enc j5)]) ?_ ?_
 ·skip
  refine wp_block ?_
  refine ZC (fun (s8 : (Vector (Vector (Vector UInt8 256) 4) 4) × Int) a w=>Env 62 a [(0,vI p0),(3,(ptr b1 0)),(5,(ptr b3 0)),(14,vI s8.2)] ∧ M (Old w0) w0 w [raw b3 (enc s8.1),raw b1 (enc p1)]) hl6 ⟨hE.sub ⟨rfl,rfl,rfl,rfl,trivial⟩,hM⟩ ?_
  rintro s8 a w ⟨hE,hM⟩ o11 hs9 hx10
  unfold WC at hs9
  refine Zb (Zi hE rfl rfl rfl fun a hE=>Ze (wp_seq ?_))
  refine Zo hE rfl ?_ ?_
  ·intro hb12
   have hs9:=Zs hs9 hb12
   refine wp_skip (Zu (wp_seq (wp_block (Zb (Zd hE rfl fun a hE=>Zc hE rfl fun a hE=>Ze (Zb (Zd hE rfl ?_))))))); intro a hE
   obtain ⟨x14,hi13,hs9⟩:=bvx hs9
   refine ZD hE rfl rfl Tryz.underlying160 Xp hi13.1 fun a hE=>Zr hE rfl Xp rfl (At.vec hM.rawAt1 hi13.2) (Flat.len _) fun a hE=>Zd hE rfl fun a hE=>Ze ?_
   obtain ⟨j16,hl17,hF18⟩:=bind_some hs9
   refine ZJ (fun a w=>Env 62 a [(0,vI p0),(3,(ptr b1 0)),(5,(ptr b3 0)),(14,vI s8.2)] ∧ M (Old w0) w0 w [raw b3 (enc j16),raw b1 (enc p1)]) ?_ ?_
   ·skip
    refine wp_block ?_
    refine ZC (fun (s19 : (Vector (Vector (Vector UInt8 256) 4) 4) × Int) a w=>Env 62 a [(0,vI p0),(3,(ptr b1 0)),(5,(ptr b3 0)),(6,vI s8.2),(14,vI s8.2),(19,(Value.agg (enc x14).toArray)),(20,vI s19.2)] ∧ M (Old w0) w0 w [raw b3 (enc s19.1),raw b1 (enc p1)]) hl17 ⟨hE.sub ⟨rfl,rfl,rfl,rfl,rfl,rfl,rfl,trivial⟩,hM⟩ ?_
    rintro s19 a w ⟨hE,hM⟩ o22 hs20 hx21
    unfold Wv at hs20
    refine Zb (Zi hE rfl rfl rfl fun a hE=>Ze (wp_seq ?_))
    refine Zo hE rfl ?_ ?_
    ·intro hb23
     have hs20:=Zs hs20 hb23
     refine wp_skip (Zu (wp_seq (wp_block (Zb (Zd hE rfl ?_))))); intro a hE
     obtain ⟨x24,hi26,hs20⟩:=bvx hs20
     refine KS hE Za ld rfl rfl Tryz.underlying158 ty5 rfl rfl hi26 rfl fun a hE=>Zc hE rfl fun a hE=>Zc hE rfl fun a hE=>Ze (Zb (Zc hE rfl fun a hE=>Ze ?_))
     obtain ⟨j27,hl28,hF29⟩:=bind_some hs20
     refine ZJ (fun a w=>Env 62 a [(0,vI p0),(3,(ptr b1 0)),(5,(ptr b3 0)),(6,vI s8.2),(14,vI s8.2),(19,(Value.agg (enc x14).toArray)),(20,vI s19.2)] ∧ M (Old w0) w0 w [raw b3 (enc j27),raw b1 (enc p1)]) ?_ ?_
     ·skip
      refine wp_block ?_
      refine ZC (fun (s30 : (Vector (Vector (Vector UInt8 256) 4) 4) × Int) a w=>Env 62 a [(0,vI p0),(3,(ptr b1 0)),(5,(ptr b3 0)),(6,vI s8.2),(7,vI s19.2),(8,vB x24),(9,vI s30.2),(14,vI s8.2),(19,(Value.agg (enc x14).toArray)),(20,vI s19.2)] ∧ M (Old w0) w0 w [raw b3 (enc s30.1),raw b1 (enc p1)]) hl28 ⟨hE.sub ⟨rfl,rfl,rfl,rfl,rfl,rfl,rfl,rfl,rfl,rfl,trivial⟩,hM⟩ ?_
      rintro s30 a w ⟨hE,hM⟩ o33 hs31 hx32
      unfold Wy at hs31
      refine wp_seq (Zb (Zd hE rfl fun a hE=>Zi hE rfl rfl rfl fun a hE=>Ze ?_))
      refine Zo hE rfl ?_ ?_
      ·intro hb34
       have hs31:=Zs hs31 hb34
       refine wp_skip (Zu (wp_seq (wp_block (Zb (Zd hE rfl fun a hE=>Zd hE rfl fun a hE=>Zd hE rfl fun a hE=>Yj hE Za ld rfl Tryz.underlying3 Tryz.underlying5 ?_))))); intro a hE
       obtain ⟨r35,e36,hs31⟩:=bind_some hs31
       refine Zx hE rfl BG (YI _ p0 x24 (Zv s30.2) r35 e36) ?_
       rintro v w a ⟨rfl,hK⟩ hE
       have hM:=hM.keep hK
       refine Zc hE rfl fun a hE=>Ze (Zb (Zd hE rfl fun a hE=>Zd hE rfl fun a hE=>Ze ?_))
       obtain ⟨j37,hl38,hF39⟩:=bind_some hs31
       refine ZJ (fun a w=>Env 62 a [(0,vI p0),(3,(ptr b1 0)),(5,(ptr b3 0)),(6,vI s8.2),(7,vI s19.2),(8,vB x24),(9,vI s30.2),(14,vI s8.2),(19,(Value.agg (enc x14).toArray)),(20,vI s19.2)] ∧ M (Old w0) w0 w [raw b3 (enc j37),raw b1 (enc p1)]) ?_ ?_
       ·skip
        refine wp_block ?_
        refine ZC (fun (s40 : (Vector (Vector (Vector UInt8 256) 4) 4) × Int) a w=>Env 62 a [(0,vI p0),(3,(ptr b1 0)),(5,(ptr b3 0)),(6,vI s8.2),(7,vI s19.2),(8,vB x24),(9,vI s30.2),(10,vB r35),(14,vI s8.2),(19,(Value.agg (enc x14).toArray)),(20,vI s19.2),(33,vI s30.2),(34,vI s40.2)] ∧ M (Old w0) w0 w [raw b3 (enc s40.1),raw b1 (enc p1)]) hl38 ⟨hE.sub ⟨rfl,rfl,rfl,rfl,rfl,rfl,rfl,rfl,rfl,rfl,rfl,rfl,rfl,trivial⟩,hM⟩ ?_
        rintro s40 a w ⟨hE,hM⟩ o43 hs41 hx42
        unfold WB at hs41
        refine Zb (Zi hE rfl rfl rfl fun a hE=>Ze (wp_seq ?_))
        refine Zo hE rfl ?_ ?_
        ·intro hb44
         have hs41:=Zs hs41 hb44
         refine wp_skip (Zu (wp_seq (wp_block (Zb (Zd hE rfl fun a hE=>Zc hE rfl fun a hE=>Ze ?_)))))
         obtain ⟨x47,hi46,hs41⟩:=bvx hs41
         obtain ⟨x50,hi49,hs41⟩:=bvx hs41
         obtain ⟨x53,hi52,hs41⟩:=bvx hs41
         obtain ⟨x56,hi55,hs41⟩:=bvx hs41
         obtain ⟨x59,hi58,hs41⟩:=bvx hs41
         obtain ⟨x62,hi61,hs41⟩:=bvx hs41
         refine ZX [37,38,39,40,41,42,43,44,45,46,47,48,49,50,51,52,53,54,55,56,57] Yy rfl rfl (by decide) rfl hE hM (qsP (fun z=>Zp z.E Za ld rfl (kr0 rfl)) (qsP (fun z=>Zp z.E Za ld rfl (kr0 rfl)) (qsP (fun z=>Zp z.E Za ld rfl (kr0 rfl)) (qsP (fun z=>Zp z.E Za ld rfl (kr0 rfl)) (qsP (fun z=>Zp z.E Za ld rfl (kr0 rfl)) (qsP (v:=(vI (orI s30.2 s40.2))) (fun z=>Ye z.E Za ld rfl rfl rfl (kr0 rfl)) (qsP (fun z=>Zp z.E Za ld rfl (kr0 rfl)) (qsP (fun z=>Zp z.E Za ld rfl (kr0 rfl)) (qsP (fun z=>Zp z.E Za ld rfl (kr0 rfl)) (qsP (fun z=>Zp z.E Za ld rfl (kr0 rfl)) (qsP (fun z=>Zp z.E Za ld rfl (kr0 rfl)) (qsP (fun z=>Wd z.E Za ld rfl (kr0 rfl)) (qsP (fun z=>ZG z.E Za ld rfl rfl Tryz.underlying265 AN hi46.1 (kr0 rfl)) (qsP (fun z=>ZG z.E Za ld rfl rfl Tryz.underlying263 yu hi49.1 (kr0 rfl)) (qsP (fun z=>ZG z.E Za ld rfl rfl Tryz.underlying156 ty5 hi52.1 (kr0 rfl)) (qsP (fun z=>ZK (v:=(vB x53)) z.E Za ld rfl ty5 rfl (At.vec (At.vec (At.vec (z.M.rawAt0) hi46.2) hi49.2) hi52.2) (kr0 rfl)) (qsP (v:=(vB (r35 ^^^ x53))) (fun z=>Ye z.E Za ld rfl rfl (Vw r35 x53) (kr0 rfl)) (qsP (fun z=>Wd z.E Za ld rfl (kr0 rfl)) (qsP (fun z=>ZG z.E Za ld rfl rfl Tryz.underlying265 AN hi55.1 (kr0 rfl)) (qsP (fun z=>ZG z.E Za ld rfl rfl Tryz.underlying263 yu hi58.1 (kr0 rfl)) (qsP (fun z=>ZG z.E Za ld rfl rfl Tryz.underlying156 ty5 hi61.1 (kr0 rfl)) qs0))))))))))))))))))))) ?_
         ·intro a w u hE hM
          refine Zn (seg:=[(vB (r35 ^^^ x53))]) (cs':=enc (s40.1.setIfInBounds (s8.2).toNat (x56.setIfInBounds (s19.2).toNat (x59.setIfInBounds ((orI s30.2 s40.2)).toNat (r35 ^^^ x53))))) hE hM Za rfl rfl rfl ty5 rfl (Ur (o':=(s19.2).toNat * 256 + (0 + ((orI s30.2 s40.2)).toNat * 1)) hi55 (Ur (o':=0 + ((orI s30.2 s40.2)).toNat * 1) hi58 (ZM (v:=x59) (x:=r35 ^^^ x53) hi61.1) (by first | omega | (simp only [Flat.n] <;> omega))) (by first | omega | (simp only [Flat.n] <;> omega))) (Flat.cell (r35 ^^^ x53 : UInt8)) (Vo (o':=(s19.2).toNat * 256 + (0 + ((orI s30.2 s40.2)).toNat * 1)) hi55 (Ur (o':=0 + ((orI s30.2 s40.2)).toNat * 1) hi58 (ZM (v:=x59) (x:=r35 ^^^ x53) hi61.1) (by first | omega | (simp only [Flat.n] <;> omega))) (Vo (o':=0 + ((orI s30.2 s40.2)).toNat * 1) hi58 (ZM (v:=x59) (x:=r35 ^^^ x53) hi61.1) (ZE (v:=x59) (x:=r35 ^^^ x53) hi61.1) (by first | omega | (simp only [Flat.n] <;> omega))) (by first | omega | (simp only [Flat.n] <;> omega))) fun w a hM hE=>Zf (Z4 (Zu (wp_region_lit (Zi hE rfl rfl rfl fun a hE=>Zd hE rfl fun a hE=>Zf (Zh ?_)))))
          exact ⟨_,(ois hs41),hE.sub ⟨rfl,rfl,rfl,rfl,rfl,rfl,rfl,rfl,rfl,rfl,rfl,rfl,rfl,trivial⟩,hM⟩
        ·intro hb44
         have hs41:=Zt hs41 hb44
         refine wp_exit (Zl (Zl (Z5 ?_)))
         obtain rfl:=hx42 _ (ois hs41)
         refine Zh ?_
         exact ⟨hE.sub ⟨rfl,rfl,rfl,rfl,rfl,rfl,rfl,rfl,rfl,rfl,trivial⟩,hM⟩
       ·skip
        rintro a w ⟨hE,hM⟩
        refine Z4 (Zu (wp_region_lit (Zd hE rfl fun a hE=>Zi hE rfl rfl rfl fun a hE=>Zc hE rfl fun a hE=>Zf (Zh ?_))))
        exact ⟨_,(ois hF39),hE.sub ⟨rfl,rfl,rfl,rfl,rfl,rfl,rfl,rfl,rfl,rfl,trivial⟩,hM⟩
      ·intro hb34
       have hs31:=Zt hs31 hb34
       refine wp_exit (Zl (Zl (Z5 ?_)))
       obtain rfl:=hx32 _ (ois hs31)
       refine Zh ?_
       exact ⟨hE.sub ⟨rfl,rfl,rfl,rfl,rfl,rfl,rfl,trivial⟩,hM⟩
     ·skip
      rintro a w ⟨hE,hM⟩
      refine Z4 (Zu (wp_region_lit (Zi hE rfl rfl rfl fun a hE=>Zd hE rfl fun a hE=>Zf (Zh ?_))))
      exact ⟨_,(ois hF29),hE.sub ⟨rfl,rfl,rfl,rfl,rfl,rfl,rfl,trivial⟩,hM⟩
    ·intro hb23
     have hs20:=Zt hs20 hb23
     refine wp_exit (Zl (Zl (Z5 ?_)))
     obtain rfl:=hx21 _ (ois hs20)
     refine Zh ?_
     exact ⟨hE.sub ⟨rfl,rfl,rfl,rfl,trivial⟩,hM⟩
   ·skip
    rintro a w ⟨hE,hM⟩
    refine Z4 (Zu (wp_region_lit (Zi hE rfl rfl rfl fun a hE=>Zd hE rfl fun a hE=>Zf (Zh ?_))))
    exact ⟨_,(ois hF18),hE.sub ⟨rfl,rfl,rfl,rfl,trivial⟩,hM⟩
  ·intro hb12
   have hs9:=Zt hs9 hb12
   refine wp_exit (Zl (Zl (Z5 ?_)))
   obtain rfl:=hx10 _ (ois hs9)
   refine Zh ?_
   have hM:=M.fst (l:=[_]) hM
   exact ⟨hE.sub ⟨rfl,trivial⟩,hM⟩
 ·skip
  rintro a w ⟨hE,hM⟩
  refine Zu (Zb (Zd hE rfl fun a hE=>Zc hE rfl fun a hE=>Ze ?_))
  have hM:=M.toRefF (x:=j5) hM
  obtain rfl:=Option.some.inj hF7
  exact wp_ret (ZN hE rfl (ZY hE rfl) ⟨_,rfl,(ptr b3 0),rfl,hM.outF (qo XZ),hM.kept⟩)
def VX (p0 : GCipher) : Option ((Ref Gengine)) :=
 (Xo p0.Field p0.Mix).bind fun r3=>(WK p0.Box).bind fun r8=>(Xy p0.Places).bind fun r10=>(WZ p0.Field p0.Mix).bind fun r12=>(WZ p0.Field r3.2).bind fun r15=>some (⟨(⟨p0.Box,r8,p0.Places,r10,r12,r15,p0.Rounds⟩ : Gengine)⟩ : (Ref Gengine))
theorem Bc (w0 : World) (p0 : GCipher) (r : (Ref Gengine)) (hF : VX p0 = some r) :
  Calls Tryz.prog 179 [(Value.agg (enc p0).toArray)].toArray w0 (fun en w'=>∃ v,en = .returned v ∧ (∃ (y1 : Value),v = y1 ∧ Fr w0 w' [own NoB (r : (Ref Gengine)) [y1]] ∧ Kept (Old w0) w0 w')):=by
 refine ce Tryz.func179 ?_
 intro a hE
 have hM:=M.start w0
 unfold VX at hF
 refine Zb (ZT (cs:=cat [[vI p0.Field],enc p0.Box,enc p0.Mix,enc p0.Places,[vI p0.Rounds]]) hE hM Za ld rfl rfl fun b1 w a hM hE=>Zc hE rfl fun a hE=>Ze (Zb (Zg hE rfl (Aj) fun a hE=>Zw (v:=(vI p0.Field)) hE rfl ty2 rfl (At.cat (pre:=[]) hM.rawAt0 cl0) fun a hE=>Zg hE rfl (Hg) fun a hE=>Zr hE rfl U6 rfl (At.cat (pre:=[[vI p0.Field],enc p0.Box]) hM.rawAt0 ck) (Flat.len _) ?_))); intro a hE
 obtain ⟨r3,e4,hF⟩:=bind_some hF
 refine Zx hE rfl (cbm Tryz.func211) (Js _ p0.Field p0.Mix r3 e4) ?_
 rintro v w a ⟨rfl,hK⟩ hE
 have hM:=hM.keep hK
 refine Zd hE rfl fun a hE=>Yw hE Za ld rfl rfl fun a hE=>Yw hE Za ld rfl rfl fun a hE=>Zz hE hM U6 fun b5 w a hM hE=>Zc hE rfl fun a hE=>Zn (seg:=enc r3.2) (cs':=enc r3.2) hE hM Za rfl rfl rfl U6 (Flat.len _) (zle flq) (Flat.cell _) (Zk flq) fun w a hM hE=>Ze (wp_seq ?_)
 obtain ⟨r8,e9,hF⟩:=bind_some hF
 obtain ⟨r10,e11,hF⟩:=bind_some hF
 obtain ⟨r12,e13,hF⟩:=bind_some hF
 obtain ⟨r15,e16,hF⟩:=bind_some hF
 refine Xs (its:=[raw b5 (enc r3.2),raw b1 (cat [[vI p0.Field],enc p0.Box,enc p0.Mix,enc p0.Places,[vI p0.Rounds]])]) (mk:=([mkO 14 (fun v=>own NoB (r12 : (Ref (Vector (Vector (Vector UInt8 256) 4) 4))) [v]),mkO 18 (fun v=>own NoB (r15 : (Ref (Vector (Vector (Vector UInt8 256) 4) 4))) [v])] : Mk)) [13,14,15,16,17,18,19,20,21,22,23,24,25,26,27,28,29,30,31,32,33] Yy rfl rfl (by decide) rfl hE (fun u=>M.qE (M.qE (M.q0 hM.drew u) emO) emO) (qsP (fun z=>Zq z.E Za ld rfl (Jr) (kr0 rfl)) (qsP (v:=(Value.agg (enc p0.Box).toArray)) ?_ (qsP (fun z=>Zq z.E Za ld rfl (Jr) (kr0 rfl)) (qsP (v:=(Value.agg (enc p0.Box).toArray)) ?_ (qsP (fun z=>ZV z.E Za ld rfl (cbm Tryz.func212) (JK _ p0.Box r8 e9) (kc rfl)) (qsP (fun z=>Zq z.E Za ld rfl (Hl) (kr0 rfl)) (qsP (v:=(Value.agg (enc p0.Places).toArray)) ?_ (qsP (fun z=>Zq z.E Za ld rfl (Hl) (kr0 rfl)) (qsP (v:=(Value.agg (enc p0.Places).toArray)) ?_ (qsP (fun z=>ZV z.E Za ld rfl (cbm Tryz.func213) (KL _ p0.Places r10 e11) (kc rfl)) (qsP (fun z=>Zq z.E Za ld rfl (Aj) (kr0 rfl)) (qsP (v:=(vI p0.Field)) ?_ (qsP (fun z=>Zq z.E Za ld rfl (Hg) (kr0 rfl)) (qsP (v:=(Value.agg (enc p0.Mix).toArray)) ?_ (qsM (pr:=fun v=>True) ?_ (qsP (fun z=>Zq z.E Za ld rfl (Aj) (kr0 rfl)) (qsP (v:=(vI p0.Field)) ?_ (qsP (v:=(Value.agg (enc r3.2).toArray)) ?_ (qsM (pr:=fun v=>True) ?_ (qsP (fun z=>Zq z.E Za ld rfl (y7) (kr0 rfl)) (qsP (v:=(vI p0.Rounds)) ?_ qs0))))))))))))))))))))) ?_
 ·intro a w ux7 D z
  have hE:=z.E
  have hM:=z.M
  exact Zr hE rfl Xt rfl (At.cat (pre:=[[vI p0.Field]]) hM.rawAt1 ck) (Flat.len _) fun a hE=>⟨Kept.refl _ _,_,rfl,hE⟩
 ·intro a w ux7 D z
  have hE:=z.E
  have hM:=z.M
  exact Zr hE rfl Xt rfl (At.cat (pre:=[[vI p0.Field]]) hM.rawAt1 ck) (Flat.len _) fun a hE=>⟨Kept.refl _ _,_,rfl,hE⟩
 ·intro a w ux7 D z
  have hE:=z.E
  have hM:=z.M
  exact Zr hE rfl QG rfl (At.cat (pre:=[[vI p0.Field],enc p0.Box,enc p0.Mix]) hM.rawAt1 ck) (Flat.len _) fun a hE=>⟨Kept.refl _ _,_,rfl,hE⟩
 ·intro a w ux7 D z
  have hE:=z.E
  have hM:=z.M
  exact Zr hE rfl QG rfl (At.cat (pre:=[[vI p0.Field],enc p0.Box,enc p0.Mix]) hM.rawAt1 ck) (Flat.len _) fun a hE=>⟨Kept.refl _ _,_,rfl,hE⟩
 ·intro a w ux7 D z
  have hE:=z.E
  have hM:=z.M
  exact Zw (v:=(vI p0.Field)) hE rfl ty2 rfl (At.cat (pre:=[]) hM.rawAt1 cl0) fun a hE=>⟨Kept.refl _ _,_,rfl,hE⟩
 ·intro a w ux7 D z
  have hE:=z.E
  have hM:=z.M
  exact Zr hE rfl U6 rfl (At.cat (pre:=[[vI p0.Field],enc p0.Box]) hM.rawAt1 ck) (Flat.len _) fun a hE=>⟨Kept.refl _ _,_,rfl,hE⟩
 ·intro a w ux7 D z
  have hE:=z.E
  have hD : D 14 = false:=z.F
  have hM0:=z.M
  have hM:=z.M
  refine Zx hE rfl (cbm Tryz.func214) (KJ _ p0.Field p0.Mix r12 e13) ?_
  rintro _ w a ⟨_,rfl,hFr,hK⟩ hE
  have hM:=hM0.add hK hFr
  exact ⟨_,_,rfl,hE,M.qFill (mk1:=[]) (mk2:=[_]) (f:=(fun v=>own NoB (r12 : (Ref (Vector (Vector (Vector UInt8 256) 4) 4))) [v])) hM rfl hD,trivial⟩
 ·intro a w ux7 D z
  have hE:=z.E
  have hM:=z.M
  exact Zw (v:=(vI p0.Field)) hE rfl ty2 rfl (At.cat (pre:=[]) hM.rawAt1 cl0) fun a hE=>⟨Kept.refl _ _,_,rfl,hE⟩
 ·intro a w ux7 D z
  have hE:=z.E
  have hM:=z.M
  exact Zr hE rfl U6 rfl hM.rawAt0 (Flat.len _) fun a hE=>⟨Kept.refl _ _,_,rfl,hE⟩
 ·intro a w ux7 D z
  have hE:=z.E
  have hD : D 18 = false:=z.F
  have hM0:=z.M
  have hM:=z.M
  refine Zx hE rfl (cbm Tryz.func214) (KJ _ p0.Field r3.2 r15 e16) ?_
  rintro _ w a ⟨_,rfl,hFr,hK⟩ hE
  have hM:=hM0.add hK hFr
  exact ⟨_,_,rfl,hE,M.qFill (mk1:=[_]) (mk2:=[]) (f:=(fun v=>own NoB (r15 : (Ref (Vector (Vector (Vector UInt8 256) 4) 4))) [v])) hM rfl hD,trivial⟩
 ·intro a w ux7 D z
  have hE:=z.E
  have hM:=z.M
  exact Zw (v:=(vI p0.Rounds)) hE rfl ty2 rfl (At.cat (pre:=[[vI p0.Field],enc p0.Box,enc p0.Mix,enc p0.Places]) hM.rawAt1 ck) fun a hE=>⟨Kept.refl _ _,_,rfl,hE⟩
 ·intro a w ux7 D hE hM hG hall
  have d14:=hall 14 (by decide)
  have d18:=hall 18 (by decide)
  have hM:=(hM.sure (pre:=[_,_]) d14).sure (pre:=[_,_,_]) d18
  refine J7 (parts:=[(0,.tmp 14),(1,.tmp 17),(2,.tmp 19),(3,.tmp 22),(4,.tmp 27),(5,.tmp 31),(6,.tmp 33)]) (vs:=[(0,(Value.agg (enc p0.Box).toArray)),(1,(Value.agg (enc r8).toArray)),(2,(Value.agg (enc p0.Places).toArray)),(3,(Value.agg (enc r10).toArray)),(4,(ux7 14)),(5,(ux7 18)),(6,vI p0.Rounds)]) (cs:=cat [enc p0.Box,enc r8,enc p0.Places,enc r10,[(ux7 14)],[(ux7 18)],[vI p0.Rounds]]) hE Za ld rfl rfl BA pl244 (VP (pre:=[]) (seg:=enc (Vector.replicate 256 (0 : UInt8))) (seg':=enc p0.Box) (post:=[enc (Vector.replicate 256 (0 : UInt8)),enc (Vector.replicate 16 (0 : UInt8)),enc (Vector.replicate 16 (0 : UInt8)),[(Value.pointer none)],[(Value.pointer none)],[vI 0]]) rfl cl0 (Flat.len _) (Flat.len _) rfl (VP (pre:=[enc p0.Box]) (seg:=enc (Vector.replicate 256 (0 : UInt8))) (seg':=enc r8) (post:=[enc (Vector.replicate 16 (0 : UInt8)),enc (Vector.replicate 16 (0 : UInt8)),[(Value.pointer none)],[(Value.pointer none)],[vI 0]]) rfl ck (Flat.len _) (Flat.len _) rfl (VP (pre:=[enc p0.Box,enc r8]) (seg:=enc (Vector.replicate 16 (0 : UInt8))) (seg':=enc p0.Places) (post:=[enc (Vector.replicate 16 (0 : UInt8)),[(Value.pointer none)],[(Value.pointer none)],[vI 0]]) rfl ck (Flat.len _) (Flat.len _) rfl (VP (pre:=[enc p0.Box,enc r8,enc p0.Places]) (seg:=enc (Vector.replicate 16 (0 : UInt8))) (seg':=enc r10) (post:=[[(Value.pointer none)],[(Value.pointer none)],[vI 0]]) rfl ck (Flat.len _) (Flat.len _) rfl (VP (pre:=[enc p0.Box,enc r8,enc p0.Places,enc r10]) (seg:=[(Value.pointer none)]) (seg':=[(ux7 14)]) (post:=[[(Value.pointer none)],[vI 0]]) rfl ck rfl rfl (zV (hM.ro (pre:=[_,_]) noB)) (VP (pre:=[enc p0.Box,enc r8,enc p0.Places,enc r10,[(ux7 14)]]) (seg:=[(Value.pointer none)]) (seg':=[(ux7 18)]) (post:=[[vI 0]]) rfl ck rfl rfl (zV (hM.ro (pre:=[_,_,_]) noB)) (VP (pre:=[enc p0.Box,enc r8,enc p0.Places,enc r10,[(ux7 14)],[(ux7 18)]]) (seg:=[vI 0]) (seg':=[vI p0.Rounds]) (post:=[]) rfl ck rfl rfl rfl A8))))))) fun a hE=>ZT (cs:=cat [enc p0.Box,enc r8,enc p0.Places,enc r10,[(ux7 14)],[(ux7 18)],[vI p0.Rounds]]) hE hM Za ld rfl rfl fun b18 w a hM hE=>Zc hE rfl fun a hE=>Zf (Zu ?_)
  have hM:=hM.pull4.pull4
  have hM:=(((hM.pack2 (it:=own NoB (⟨p0.Box,r8,p0.Places,r10,r12,r15,p0.Rounds⟩ : Gengine) (cat [enc p0.Box,enc r8,enc p0.Places,enc r10,[(ux7 14)],[(ux7 18)],[vI p0.Rounds]])) (YR noB) (fun f0 f1 q0 q1=>(ky q0 q1 (by simp)))).pull1).pull1).pull1
  have hM:=M.toRef hM noB
  obtain rfl:=Option.some.inj hF
  have hM:=M.fst (l:=[_]) hM
  exact wp_ret (ZN hE rfl (ZY hE rfl) ⟨_,rfl,(ptr b18 0),rfl,hM.outF (qo XZ),hM.kept⟩)
def T8 (p0 : Int) : Option ((Ref Gengine)) :=
 (WF p0).bind fun r1=>(VX r1).bind fun r3=>some r3
theorem yU (w0 : World) (p0 : Int) (r : (Ref Gengine)) (hF : T8 p0 = some r) :
  Calls Tryz.prog 127 [vI p0].toArray w0 (fun en w'=>∃ v,en = .returned v ∧ (∃ (y1 : Value),v = y1 ∧ Fr w0 w' [own NoB (r : (Ref Gengine)) [y1]] ∧ Kept (Old w0) w0 w')):=by
 refine ce Tryz.func127 ?_
 intro a hE
 have hM:=M.start w0
 unfold T8 at hF
 refine Zb (Zc hE rfl fun a hE=>Ze (Zb (Zd hE rfl ?_))); intro a hE
 obtain ⟨r1,e2,hF⟩:=bind_some hF
 refine Zx hE rfl (cbm Tryz.func180) (JU _ p0 r1 e2) ?_
 rintro v w a ⟨rfl,hK⟩ hE
 have hM:=hM.keep hK
 obtain ⟨r3,e4,hF⟩:=bind_some hF
 refine Zx hE rfl (cbm Tryz.func179) (Bc _ r1 r3 e4) ?_
 rintro u5 w a ⟨_,rfl,hFr,hK⟩ hE
 have hM:=hM.add hK hFr
 refine Zc hE rfl fun a hE=>Ze ?_
 obtain rfl:=Option.some.inj hF
 exact wp_ret (ZN hE rfl (ZY hE rfl) ⟨_,rfl,u5,rfl,hM.outF (qo XZ),hM.kept⟩)
def WS : Option ((Ref Gengine)) :=
 (T8 4).bind fun r1=>some r1
theorem Ha (w0 : World)  (r : (Ref Gengine)) (hF : WS  = some r) :
  Calls Tryz.prog 89 [].toArray w0 (fun en w'=>∃ v,en = .returned v ∧ (∃ (y1 : Value),v = y1 ∧ Fr w0 w' [own NoB (r : (Ref Gengine)) [y1]] ∧ Kept (Old w0) w0 w')):=by
 refine ce Tryz.func89 ?_
 intro a hE
 have hM:=M.start w0
 unfold WS at hF
 refine Zb (Zc hE rfl fun a hE=>Ze (Zb ?_))
 obtain ⟨r1,e2,hF⟩:=bind_some hF
 refine Zx hE rfl (cbm Tryz.func127) (yU _ 4 r1 e2) ?_
 rintro u3 w a ⟨_,rfl,hFr,hK⟩ hE
 have hM:=hM.add hK hFr
 refine Zc hE rfl fun a hE=>Ze ?_
 obtain rfl:=Option.some.inj hF
 exact wp_ret (ZN hE rfl (ZY hE rfl) ⟨_,rfl,u3,rfl,hM.outF (qo XZ),hM.kept⟩)
def YT (s8 : (Vector UInt8 32) × Int) : Option (Fl ((Vector UInt8 32) × Int) (Vector UInt8 32)) :=
 if (decide (s8.2 < 32)) = true then ((ZH s8.1 s8.2).bind fun x14=>some (Fl.nx ((s8.1.setIfInBounds (s8.2).toNat (Zv (wr (17 * s8.2)))),wr (s8.2 + 1)))) else (some (Fl.ex s8.1))
def XS : Option ((Vector UInt8 32)) :=
 (ZB (YT) ((Vector.replicate 32 (0 : UInt8)),0)).bind fun j5=>some j5
theorem Jb (w0 : World)  (r : (Vector UInt8 32)) (hF : XS  = some r) :
  Calls Tryz.prog 130 [].toArray w0 (Rt w0 (Value.agg (enc r).toArray)):=by
 refine ce Tryz.func130 ?_
 intro a hE
 have hM:=M.start w0
 unfold XS at hF
 refine Zb (Zz hE hM ZR fun b1 w a hM hE=>Ze (Zb (Xu (parts:=[]) (vs:=[]) (cs:=enc (Vector.replicate 32 (0 : UInt8))) hE Za ld rfl rfl ZR rfl ty5 YU fun a hE=>Zz hE hM ZR fun b3 w a hM hE=>Zn (seg:=enc (Vector.replicate 32 (0 : UInt8))) (cs':=enc (Vector.replicate 32 (0 : UInt8))) hE hM Za rfl rfl rfl ZR (Flat.len _) (zle flq) (Flat.cell _) (Zk flq) fun w a hM hE=>Ze (wp_seq (Zb (Zd hE rfl fun a hE=>Ze ?_))))))
 obtain ⟨j5,hl6,hF7⟩:=bind_some hF
 refine ZJ (fun a w=>Env 14 a [(0,(ptr b1 0)),(1,(ptr b3 0))] ∧ M (Old w0) w0 w [raw b3 (enc j5),raw b1 (enc (Vector.replicate 32 (0 : UInt8)))]) ?_ ?_
 ·skip
  refine wp_block ?_
  refine ZC (fun (s8 : (Vector UInt8 32) × Int) a w=>Env 14 a [(0,(ptr b1 0)),(1,(ptr b3 0)),(4,vI s8.2)] ∧ M (Old w0) w0 w [raw b3 (enc s8.1),raw b1 (enc (Vector.replicate 32 (0 : UInt8)))]) hl6 ⟨hE.sub ⟨rfl,rfl,rfl,trivial⟩,hM⟩ ?_
  rintro s8 a w ⟨hE,hM⟩ o11 hs9 hx10
  unfold YT at hs9
  refine Zb (Zi hE rfl rfl rfl fun a hE=>Ze (wp_seq ?_))
  refine Zo hE rfl ?_ ?_
  ·intro hb12
   have hs9:=Zs hs9 hb12
   refine wp_skip (Zu (wp_seq (wp_block (Zb (Zd hE rfl fun a hE=>Zc hE rfl fun a hE=>Ze (wp_region_lit (Zd hE rfl fun a hE=>Zd hE rfl fun a hE=>Zi hE rfl rfl rfl fun a hE=>Yj hE Za ld rfl Tryz.underlying3 Tryz.underlying5 ?_))))))); intro a hE
   obtain ⟨x14,hi13,hs9⟩:=bvx hs9
   refine ZD hE rfl rfl Tryz.underlying35 ty5 hi13.1 fun a hE=>Zn (seg:=[(vB (Zv (wr (17 * s8.2))))]) (cs':=enc (s8.1.setIfInBounds (s8.2).toNat (Zv (wr (17 * s8.2))))) hE hM Za rfl rfl rfl ty5 rfl (ZM (v:=s8.1) (x:=Zv (wr (17 * s8.2))) hi13.1) (Flat.cell (Zv (wr (17 * s8.2)) : UInt8)) (ZE (v:=s8.1) (x:=Zv (wr (17 * s8.2))) hi13.1) fun w a hM hE=>Zf (Z4 (Zu (wp_region_lit (Zi hE rfl rfl rfl fun a hE=>Zd hE rfl fun a hE=>Zf (Zh ?_)))))
   exact ⟨_,(ois hs9),hE.sub ⟨rfl,rfl,rfl,trivial⟩,hM⟩
  ·intro hb12
   have hs9:=Zt hs9 hb12
   refine wp_exit (Zl (Zl (Z5 ?_)))
   obtain rfl:=hx10 _ (ois hs9)
   refine Zh ?_
   exact ⟨hE.sub ⟨rfl,rfl,trivial⟩,hM⟩
 ·skip
  rintro a w ⟨hE,hM⟩
  refine Zu (Zb (Zr hE rfl ZR rfl hM.rawAt0 (Flat.len _) ?_)); intro a hE
  have hM:=hM.pull1
  refine Zn (seg:=enc j5) (cs':=enc j5) hE hM Za rfl rfl rfl ZR (Flat.len _) (zle flq) (Flat.cell _) (Zk flq) fun w a hM hE=>Ze ?_
  obtain rfl:=Option.some.inj hF7
  have hq17 : Yt Tryz.prog _ _ (.cell 0 35) _:=ZQ hE rfl ZR rfl hM.rawAt0 (Flat.len _) rfl
  exact wp_ret (ZN hE rfl hq17 ⟨_,rfl,rfl,hM.kept⟩)
def Yz (p1 : Int) : Option ((List UInt8)) :=
 (if (decide (p1 < 0)) = true then (none) else (some ()) : Option (Unit)).bind fun j1=>(if (decide ((wr (p1 - (wr (0 - 0)))) > 0)) = true then ((mkS 1 (0 : UInt8) (wr (p1 - (wr (0 - 0))))).bind fun l14=>(slc l14 (0 : Int) (0 : Int)).bind fun l16=>some l16) else (some ([])) : Option ((List UInt8))).bind fun j6=>some j6
theorem QP (w0 : World) (p1 : Int) (r : (List UInt8)) (hF : Yz p1 = some r) :
  Calls Tryz.prog 181 [(Value.slice none 0 0),vI p1].toArray w0 (fun en w'=>∃ v,en = .returned v ∧ (∃ (y1 : Value),v = y1 ∧ Fr w0 w' [osl NoB (r : List UInt8) y1] ∧ Kept (Old w0) w0 w')):=by
 refine ce Tryz.func181 ?_
 intro a hE
 have hM:=M.start w0
 unfold Yz at hF
 refine Zb (Zc hE rfl fun a hE=>Ze ?_)
 obtain ⟨j1,hl2,hF3⟩:=bind_some hF
 refine ZI (fun a w=>Env 27 a [(0,(Value.slice none 0 0)),(1,vI p1)] ∧ M (Old w0) w0 w []) ?_ ?_
 ·skip
  refine Zb (Zd hE rfl fun a hE=>Zi hE rfl rfl rfl fun a hE=>Ze ?_)
  refine Zo hE rfl ?_ ?_
  ·intro hb4
   have hl2:=Zs hl2 hb4
   cases hl2
  ·intro hb4
   have hl2:=Zt hl2 hb4
   refine wp_skip ?_
   obtain rfl:=Option.some.inj hl2
   refine Zh ?_
   exact ⟨hE.sub ⟨rfl,rfl,trivial⟩,hM⟩
 ·skip
  rintro a w ⟨hE,hM⟩
  obtain ⟨j6,hl7,hF8⟩:=bind_some hF3
  refine ZI (fun a w=>∃ (u9 : Value),Env 27 a [(0,u9)] ∧ M (Old w0) w0 w [osl NoB (j6 : List UInt8) u9]) ?_ ?_
  ·skip
   refine Zb (Zd hE rfl fun a hE=>Zd hE rfl fun a hE=>jN hE Za ld rfl Tryz.underlying40 fun a hE=>Zd hE rfl fun a hE=>jx hE Za ld rfl Tryz.underlying40 fun a hE=>Zi hE rfl rfl rfl fun a hE=>Zi hE rfl rfl rfl fun a hE=>Zc hE rfl fun a hE=>Ze (Zb (Zd hE rfl fun a hE=>Zi hE rfl rfl rfl fun a hE=>Ze ?_)))
   refine Zo hE rfl ?_ ?_
   ·intro hb11
    have hl7:=Zs hl7 hb11
    refine wp_region_lit (Zd hE rfl fun a hE=>Zd hE rfl fun a hE=>jN hE Za ld rfl Tryz.underlying40 fun a hE=>kM hE Za ld rfl rfl Tryz.underlying40 ty5 fun a hE=>Zd hE rfl ?_); intro a hE
    obtain ⟨l14,e15,hl7⟩:=bind_some hl7
    refine Zao hE hM Za ld rfl rfl Tryz.underlying40 Tryz.underlying3 ty5 rfl (by decide) (by decide) (fun _=>TD.2 ⟨rfl,rfl⟩) e15 fun u12 w a hM hE=>Zd hE rfl fun a hE=>jx hE Za ld rfl Tryz.underlying40 ?_; intro a hE
    obtain ⟨l16,e17,hl7⟩:=bind_some hl7
    refine Hv hE Za ld rfl rfl rfl rfl rfl Tryz.underlying40 ty5 (hM.sl (pre:=[]) noB) e17 ?_; intro a hE
    have hM:=hM.cut noB e17
    refine Zc hE rfl fun a hE=>Zf ?_
    obtain rfl:=Option.some.inj hl7
    refine Zh ?_
    exact ⟨(Ya u12 ((0 : Int)).toNat ((0 : Int)).toNat 1),hE.sub ⟨rfl,trivial⟩,hM⟩
   ·intro hb11
    have hl7:=Zt hl7 hb11
    refine wp_skip ?_
    obtain rfl:=Option.some.inj hl7
    refine Zh ?_
    have hM:=M.nilS (α:=UInt8) NoB noB hM
    exact ⟨(Value.slice none 0 0),hE.sub ⟨rfl,trivial⟩,hM⟩
  ·skip
   rintro a w ⟨u9,hE,hM⟩
   refine Zb (Zd hE rfl fun a hE=>Zc hE rfl fun a hE=>Ze ?_)
   obtain rfl:=Option.some.inj hF8
   exact wp_ret (ZN hE rfl (ZY hE rfl) ⟨_,rfl,u9,rfl,hM.outF (Wm XZ),hM.kept⟩)
def Xe (p0 : (List (List UInt8))) (s4 : Int × Int) : Option (Fl (Int × Int) Int) :=
 if (decide (s4.1 < (p0.length : Int))) = true then (((idx p0 s4.1).bind fun x12=>(if (decide ((wr (s4.2 + (x12.length : Int))) < 0)) = true then (none) else (some ()) : Option (Unit)).bind fun j20=>some (wr (s4.2 + (x12.length : Int))) : Option (Int)).bind fun j9=>some (Fl.nx (wr (s4.1 + 1),j9))) else (some (Fl.ex s4.2))
def Xg (p0 : (List (List UInt8))) (s35 : Int × (List UInt8)) : Option (Fl (Int × (List UInt8)) (List UInt8)) :=
 if (decide (s35.1 < (p0.length : Int))) = true then ((idx p0 s35.1).bind fun x42=>(app 1 s35.2 x42).bind fun l50=>some (Fl.nx (wr (s35.1 + 1),(s35.2 ++ x42)))) else (some (Fl.ex s35.2))
def Z3 (p0 : (List (List UInt8))) : Option ((List UInt8)) :=
 (ZB (Xe p0) (0,0)).bind fun j1=>(Yz j1).bind fun r27=>(ZB (Xg p0) (0,r27)).bind fun j30=>some j30
theorem WY (w0 : World) (p0 : (List (List UInt8))) (v0_1 : Value) (hv0_1 : Ro w0 p0 [v0_1]) (r : (List UInt8)) (hF : Z3 p0 = some r) :
  Calls Tryz.prog 133 [v0_1].toArray w0 (fun en w'=>∃ v,en = .returned v ∧ (∃ (y1 : Value),v = y1 ∧ Fr w0 w' [osl NoB (r : List UInt8) y1] ∧ Kept (Old w0) w0 w')):=by
 refine ce Tryz.func133 ?_
 intro a hE
 have hM:=M.start w0
 unfold Z3 at hF
 refine Zb (Zc hE rfl fun a hE=>Ze (Zb (Zc hE rfl fun a hE=>Ze (wp_seq (Zb (Zd hE rfl fun a hE=>Z2 hE rfl Tryz.underlying23 (hM.rd hv0_1) fun a hE=>Zd hE rfl fun a hE=>Ze ?_))))))
 obtain ⟨j1,hl2,hF3⟩:=bind_some hF
 refine ZJ (fun a w=>Env 36 a [(0,v0_1),(3,vI j1)] ∧ M (Old w0) w0 w []) ?_ ?_
 ·skip
  refine wp_block ?_
  refine ZC (fun (s4 : Int × Int) a w=>Env 36 a [(0,v0_1),(3,vI s4.2),(9,v0_1),(10,(vI (p0.length : Int))),(11,vI s4.1)] ∧ M (Old w0) w0 w []) hl2 ⟨hE.sub ⟨rfl,rfl,rfl,rfl,rfl,trivial⟩,hM⟩ ?_
  rintro s4 a w ⟨hE,hM⟩ o7 hs5 hx6
  unfold Xe at hs5
  refine Zb (Zi hE rfl rfl rfl fun a hE=>Ze (wp_seq ?_))
  refine Zo hE rfl ?_ ?_
  ·intro hb8
   have hs5:=Zs hs5 hb8
   refine wp_skip (Zu ?_)
   obtain ⟨j9,hl10,hF11⟩:=bind_some hs5
   refine ZI (fun a w=>Env 36 a [(0,v0_1),(3,vI j9),(9,v0_1),(10,(vI (p0.length : Int))),(11,vI s4.1)] ∧ M (Old w0) w0 w []) ?_ ?_
   ·skip
    refine wp_block (Zb ?_)
    obtain ⟨x12,hi14,hl10⟩:=bix hl10
    refine ZL hE rfl rfl Tryz.underlying23 UP (hM.rd hv0_1) hi14.1 ?_; intro a hE
    obtain ⟨cs15,hs16,hA17⟩:=X3 hv0_1 hi14.2 -- ^
    obtain ⟨u18,rfl⟩:=TA hs16 -- ^
    have h19:=hs16 -- ^
    refine Zw (v:=u18) hE rfl UP rfl (hM.atk hA17 (VR hv0_1 hi14.2)) fun a hE=>Zc hE rfl fun a hE=>Ze (Zb (Zd hE rfl fun a hE=>Zd hE rfl fun a hE=>Z2 hE rfl Tryz.underlying40 (hM.rd h19) fun a hE=>Zi hE rfl rfl rfl fun a hE=>Zc hE rfl fun a hE=>Ze (Zb (Zd hE rfl fun a hE=>Zi hE rfl rfl rfl fun a hE=>Ze ?_))))
    obtain ⟨j20,hl21,hF22⟩:=bind_some hl10
    refine ZJ (fun a w=>Env 36 a [(0,v0_1),(3,(vI (wr (s4.2 + (x12.length : Int))))),(9,v0_1),(10,(vI (p0.length : Int))),(11,vI s4.1)] ∧ M (Old w0) w0 w []) ?_ ?_
    ·skip
     refine Zo hE rfl ?_ ?_
     ·intro hb23
      have hl21:=Zs hl21 hb23
      cases hl21
     ·intro hb23
      have hl21:=Zt hl21 hb23
      refine wp_skip ?_
      obtain rfl:=Option.some.inj hl21
      refine Zh ?_
      exact ⟨hE.sub ⟨rfl,rfl,rfl,rfl,rfl,trivial⟩,hM⟩
    ·skip
     rintro a w ⟨hE,hM⟩
     refine Z4 ?_
     obtain rfl:=Option.some.inj hF22
     refine Zh ?_
     exact ⟨hE.sub ⟨rfl,rfl,rfl,rfl,rfl,trivial⟩,hM⟩
   ·skip
    rintro a w ⟨hE,hM⟩
    refine wp_region_lit (Zi hE rfl rfl rfl fun a hE=>Zd hE rfl fun a hE=>Zf (Zh ?_))
    exact ⟨_,(ois hF11),hE.sub ⟨rfl,rfl,rfl,rfl,rfl,trivial⟩,hM⟩
  ·intro hb8
   have hs5:=Zt hs5 hb8
   refine wp_exit (Zl (Zl (Z5 ?_)))
   obtain rfl:=hx6 _ (ois hs5)
   refine Zh ?_
   exact ⟨hE.sub ⟨rfl,rfl,trivial⟩,hM⟩
 ·skip
  rintro a w ⟨hE,hM⟩
  refine Zu (Zb (Zd hE rfl ?_)); intro a hE
  obtain ⟨r27,e28,hF3⟩:=bind_some hF3
  refine Zx hE rfl (cbm Tryz.func181) (QP _ j1 r27 e28) ?_
  rintro u29 w a ⟨_,rfl,hFr,hK⟩ hE
  have hM:=hM.add hK hFr
  refine Zc hE rfl fun a hE=>Ze (wp_seq (Zb (Zd hE rfl fun a hE=>Z2 hE rfl Tryz.underlying23 (hM.rd hv0_1) fun a hE=>Zd hE rfl fun a hE=>Ze ?_)))
  obtain ⟨j30,hl31,hF32⟩:=bind_some hF3
  refine ZJ (fun a w=>∃ (u33 : Value),Env 36 a [(6,u33)] ∧ M (Old w0) w0 w [osl NoB (j30 : List UInt8) u33]) ?_ ?_
  ·skip
   refine wp_block ?_
   refine ZC (fun (s35 : Int × (List UInt8)) a w=>∃ (u36 : Value),Env 36 a [(6,u36),(25,v0_1),(26,(vI (p0.length : Int))),(27,vI s35.1)] ∧ M (Old w0) w0 w [osl NoB (s35.2 : List UInt8) u36]) hl31 ⟨u29,hE.sub ⟨rfl,rfl,rfl,rfl,trivial⟩,hM⟩ ?_
   rintro s35 a w ⟨u36,hE,hM⟩ o40 hs38 hx39
   unfold Xg at hs38
   refine Zb (Zi hE rfl rfl rfl fun a hE=>Ze (wp_seq ?_))
   refine Zo hE rfl ?_ ?_
   ·intro hb41
    have hs38:=Zs hs38 hb41
    refine wp_skip (Zu (wp_seq (wp_block (Zb ?_))))
    obtain ⟨x42,hi44,hs38⟩:=bix hs38
    refine ZL hE rfl rfl Tryz.underlying23 UP (hM.rd hv0_1) hi44.1 ?_; intro a hE
    obtain ⟨cs45,hs46,hA47⟩:=X3 hv0_1 hi44.2 -- ^
    obtain ⟨u48,rfl⟩:=TA hs46 -- ^
    have h49:=hs46 -- ^
    refine Zw (v:=u48) hE rfl UP rfl (hM.atk hA47 (VR hv0_1 hi44.2)) fun a hE=>Zc hE rfl fun a hE=>Ze (wp_region_lit (Zd hE rfl fun a hE=>Zd hE rfl ?_)); intro a hE
    obtain ⟨l50,e51,hs38⟩:=bind_some hs38
    obtain ⟨e54,rfl⟩:=ZS e51
    refine Z0 hE hM Za ld rfl rfl (hM.rd h49) Tryz.underlying40 ty5 rfl (by decide) e54 fun u52 w a hM hE=>Zc hE rfl fun a hE=>Zf (Z4 (Zu (wp_region_lit (Zi hE rfl rfl rfl fun a hE=>Zd hE rfl fun a hE=>Zf (Zh ?_)))))
    exact ⟨_,(ois hs38),u52,hE.sub ⟨rfl,rfl,rfl,rfl,trivial⟩,hM⟩
   ·intro hb41
    have hs38:=Zt hs38 hb41
    refine wp_exit (Zl (Zl (Z5 ?_)))
    obtain rfl:=hx39 _ (ois hs38)
    refine Zh ?_
    exact ⟨u36,hE.sub ⟨rfl,trivial⟩,hM⟩
  ·skip
   rintro a w ⟨u33,hE,hM⟩
   refine Zu (Zb (Zd hE rfl fun a hE=>Zc hE rfl fun a hE=>Ze ?_))
   obtain rfl:=Option.some.inj hF32
   exact wp_ret (ZN hE rfl (ZY hE rfl) ⟨_,rfl,u33,rfl,hM.outF (Wm XZ),hM.kept⟩)
def YW (p0 : (List UInt8)) : Option ((List UInt8)) :=
 (app 1 ([] : List UInt8) p0).bind fun l7=>some (([] : List UInt8) ++ p0)
theorem Kg (w0 : World) (p0 : (List UInt8)) (v0_1 : Value) (hv0_1 : Ro w0 p0 [v0_1]) (r : (List UInt8)) (hF : YW p0 = some r) :
  Calls Tryz.prog 75 [v0_1].toArray w0 (fun en w'=>∃ v,en = .returned v ∧ (∃ (y1 : Value),v = y1 ∧ Fr w0 w' [osl NoB (r : List UInt8) y1] ∧ Kept (Old w0) w0 w')):=by
 refine ce Tryz.func75 ?_
 intro a hE
 have hM:=M.start w0
 unfold YW at hF
 refine Zb (Zc hE rfl fun a hE=>Ze (wp_seq (Zb (Zd hE rfl fun a hE=>Zdo hE Za ld rfl rfl Tryz.underlying40 (hM.rd hv0_1) fun bn1 a hn2 hE=>Ze ?_))))
 refine Zo hE rfl ?_ ?_
 ·intro hb3
  have h0:=hn2 hb3
  have hF : some ([]) = some r:=by rw [h0] at hF; simpa [app] using hF
  refine Zb (Zc hE rfl fun a hE=>Ze ?_)
  have hM:=M.nilS (α:=UInt8) NoB noB hM
  obtain rfl:=Option.some.inj hF
  exact wp_ret (ZA (ZN hE rfl (ZY hE rfl) ⟨_,rfl,(Value.slice none 0 0),rfl,hM.outF (Wm XZ),hM.kept⟩))
 ·intro hb3
  refine wp_skip (Zu (Zb (ZP (xs:=[]) (l:=([] : List UInt8)) (vs:=[]) hE hM Za ld rfl rfl Tryz.underlying40 ty5 rfl (by decide) rfl fun u5 w a hM hE=>Zd hE rfl ?_))); intro a hE
  obtain ⟨l7,e8,hF⟩:=bind_some hF
  have e11:=(ZS e8).1
  refine Z0 hE hM Za ld rfl rfl (hM.rd hv0_1) Tryz.underlying40 ty5 rfl (by decide) e11 fun u9 w a hM hE=>Zc hE rfl fun a hE=>Ze ?_
  obtain rfl:=Option.some.inj hF
  exact wp_ret (ZN hE rfl (ZY hE rfl) ⟨_,rfl,u9,rfl,hM.outF (Wm XZ),hM.kept⟩)
def Vj (p0 : Int) (s8 : (List UInt8) × Int) : Option (Fl ((List UInt8) × Int) (List UInt8)) :=
 if (decide (s8.2 ≥ 0)) = true then ((XP (wr (8 * s8.2))).bind fun _=>(app 1 s8.1 ([Zv (TB p0 (wr (8 * s8.2)))] : List UInt8)).bind fun l18=>some (Fl.nx ((s8.1 ++ ([Zv (TB p0 (wr (8 * s8.2)))] : List UInt8)),wr (s8.2 - 1)))) else (some (Fl.ex s8.1))
def Yv (p0 : Int) (p1 : Int) : Option ((List UInt8)) :=
 (ZB (Vj p0) (([] : List UInt8),wr (p1 - 1))).bind fun j3=>some j3
theorem Qh (w0 : World) (p0 : Int) (p1 : Int) (r : (List UInt8)) (hF : Yv p0 p1 = some r) :
  Calls Tryz.prog 166 [vI p0,vI p1].toArray w0 (fun en w'=>∃ v,en = .returned v ∧ (∃ (y1 : Value),v = y1 ∧ Fr w0 w' [osl NoB (r : List UInt8) y1] ∧ Kept (Old w0) w0 w')):=by
 refine ce Tryz.func166 ?_
 intro a hE
 have hM:=M.start w0
 unfold Yv at hF
 refine Zb (Zc hE rfl fun a hE=>Ze (Zb (ZP (xs:=[]) (l:=([] : List UInt8)) (vs:=[]) hE hM Za ld rfl rfl Tryz.underlying40 ty5 rfl (by decide) rfl fun u1 w a hM hE=>Zc hE rfl fun a hE=>Ze (wp_seq (Zb (Zd hE rfl fun a hE=>Zi hE rfl rfl rfl fun a hE=>Zc hE rfl fun a hE=>Ze ?_))))))
 obtain ⟨j3,hl4,hF5⟩:=bind_some hF
 refine ZJ (fun a w=>∃ (u6 : Value),Env 23 a [(5,u6)] ∧ M (Old w0) w0 w [osl NoB (j3 : List UInt8) u6]) ?_ ?_
 ·skip
  refine wp_block ?_
  refine ZC (fun (s8 : (List UInt8) × Int) a w=>∃ (u9 : Value),Env 23 a [(0,vI p0),(5,u9),(6,vI s8.2)] ∧ M (Old w0) w0 w [osl NoB (s8.1 : List UInt8) u9]) hl4 ⟨u1,hE.sub ⟨rfl,rfl,rfl,trivial⟩,hM⟩ ?_
  rintro s8 a w ⟨u9,hE,hM⟩ o13 hs11 hx12
  unfold Vj at hs11
  refine wp_seq (Zb (Zd hE rfl fun a hE=>Zi hE rfl rfl rfl fun a hE=>Ze ?_))
  refine Zo hE rfl ?_ ?_
  ·intro hb14
   have hs11:=Zs hs11 hb14
   refine wp_skip (Zu (wp_seq (wp_block (wp_region_lit (Zd hE rfl fun a hE=>Zd hE rfl fun a hE=>Zd hE rfl fun a hE=>Zi hE rfl rfl rfl ?_))))); intro a hE
   obtain ⟨_,e15,hs11⟩:=bind_some hs11
   have e15:=Vg e15
   refine Bw hE Za ld rfl rfl (JY _ _ e15) fun a hE=>Yj hE Za ld rfl Tryz.underlying2 Tryz.underlying5 fun a hE=>ZP (xs:=[.tmp 19]) (l:=([Zv (TB p0 (wr (8 * s8.2)))] : List UInt8)) (vs:=[(vB (Zv (TB p0 (wr (8 * s8.2)))))]) hE hM Za ld rfl rfl Tryz.underlying40 ty5 rfl (by decide) rfl ?_; intro u16 w a hM hE
   obtain ⟨l18,e19,hs11⟩:=bind_some hs11
   obtain ⟨e22,rfl⟩:=ZS e19
   have hM:=hM.pull1
   refine Z0 hE hM Za ld rfl rfl (hM.sl (pre:=[_]) noB) Tryz.underlying40 ty5 rfl (by decide) e22 fun u20 w a hM hE=>Zc hE rfl fun a hE=>Zf (Z4 (Zu (wp_region_lit (Zd hE rfl fun a hE=>Zi hE rfl rfl rfl fun a hE=>Zc hE rfl fun a hE=>Zf (Zh ?_)))))
   have hM:=M.fst (l:=[_]) hM
   exact ⟨_,(ois hs11),u20,hE.sub ⟨rfl,rfl,rfl,trivial⟩,hM⟩
  ·intro hb14
   have hs11:=Zt hs11 hb14
   refine wp_exit (Zl (Zl (Z5 ?_)))
   obtain rfl:=hx12 _ (ois hs11)
   refine Zh ?_
   exact ⟨u9,hE.sub ⟨rfl,trivial⟩,hM⟩
 ·skip
  rintro a w ⟨u6,hE,hM⟩
  refine Zu (Zb (Zd hE rfl fun a hE=>Zc hE rfl fun a hE=>Ze ?_))
  obtain rfl:=Option.some.inj hF5
  exact wp_ret (ZN hE rfl (ZY hE rfl) ⟨_,rfl,u6,rfl,hM.outF (Wm XZ),hM.kept⟩)
def Ud (s16 : (List UInt8)) : Option (Fl (List UInt8) (List UInt8)) :=
 if ((Int.tmod (s16.length : Int) 16) != 8) = true then ((app 1 s16 ([0] : List UInt8)).bind fun l25=>some (Fl.nx (s16 ++ ([0] : List UInt8)))) else (some (Fl.ex s16))
def Vq (p0 : (List UInt8)) : Option ((List UInt8)) :=
 (YW p0).bind fun r1=>(app 1 r1 ([128] : List UInt8)).bind fun l6=>(ZB (Ud) (r1 ++ ([128] : List UInt8))).bind fun j11=>(Yv (p0.length : Int) 8).bind fun r31=>(app 1 j11 r31).bind fun l34=>some (j11 ++ r31)
theorem HR (w0 : World) (p0 : (List UInt8)) (v0_1 : Value) (hv0_1 : Ro w0 p0 [v0_1]) (r : (List UInt8)) (hF : Vq p0 = some r) :
  Calls Tryz.prog 132 [v0_1].toArray w0 (fun en w'=>∃ v,en = .returned v ∧ (∃ (y1 : Value),v = y1 ∧ Fr w0 w' [osl NoB (r : List UInt8) y1] ∧ Kept (Old w0) w0 w')):=by
 refine ce Tryz.func132 ?_
 intro a hE
 have hM:=M.start w0
 unfold Vq at hF
 refine Zb (Zc hE rfl fun a hE=>Ze (Zb (Zd hE rfl ?_))); intro a hE
 obtain ⟨r1,e2,hF⟩:=bind_some hF
 refine Zx hE rfl (cbm Tryz.func75) (Kg _ p0 v0_1 (hM.rdo hv0_1) r1 e2) ?_
 rintro u3 w a ⟨_,rfl,hFr,hK⟩ hE
 have hM:=hM.add hK hFr
 refine ZP (xs:=[.const (vB 128)]) (l:=([128] : List UInt8)) (vs:=[vB 128]) hE hM Za ld rfl rfl Tryz.underlying40 ty5 rfl (by decide) rfl ?_; intro u4 w a hM hE
 obtain ⟨l6,e7,hF⟩:=bind_some hF
 obtain ⟨e10,rfl⟩:=ZS e7
 have hM:=hM.pull1
 refine Z0 hE hM Za ld rfl rfl (hM.sl (pre:=[_]) noB) Tryz.underlying40 ty5 rfl (by decide) e10 fun u8 w a hM hE=>Zc hE rfl fun a hE=>Ze ?_
 obtain ⟨j11,hl12,hF13⟩:=bind_some hF
 refine ZI (fun a w=>∃ (u14 : Value),Env 20 a [(0,v0_1),(3,u14)] ∧ M (Old w0) w0 w [osl NoB (j11 : List UInt8) u14]) ?_ ?_
 ·skip
  refine wp_block ?_
  have hM:=M.fst (l:=[_]) hM
  refine ZC (fun (s16 : (List UInt8)) a w=>∃ (u17 : Value),Env 20 a [(0,v0_1),(3,u17)] ∧ M (Old w0) w0 w [osl NoB (s16 : List UInt8) u17]) hl12 ⟨u8,hE.sub ⟨rfl,rfl,trivial⟩,hM⟩ ?_
  rintro s16 a w ⟨u17,hE,hM⟩ o21 hs19 hx20
  unfold Ud at hs19
  refine wp_seq (Zb (Zd hE rfl fun a hE=>Z2 hE rfl Tryz.underlying40 (hM.sl (pre:=[]) noB) fun a hE=>Zi hE rfl rfl (Kf _ _ (by decide)) fun a hE=>Zi hE rfl rfl rfl fun a hE=>Ze ?_))
  refine Zo hE rfl ?_ ?_
  ·intro hb22
   have hs19:=Zs hs19 hb22
   refine wp_skip (Zu (wp_block (wp_region_lit (Zd hE rfl fun a hE=>ZP (xs:=[.const (vB 0)]) (l:=([0] : List UInt8)) (vs:=[vB 0]) hE hM Za ld rfl rfl Tryz.underlying40 ty5 rfl (by decide) rfl ?_)))); intro u23 w a hM hE
   obtain ⟨l25,e26,hs19⟩:=bind_some hs19
   obtain ⟨e29,rfl⟩:=ZS e26
   have hM:=hM.pull1
   refine Z0 hE hM Za ld rfl rfl (hM.sl (pre:=[_]) noB) Tryz.underlying40 ty5 rfl (by decide) e29 fun u27 w a hM hE=>Zc hE rfl fun a hE=>Zf (Z4 (Zh ?_))
   have hM:=M.fst (l:=[_]) hM
   exact ⟨_,(ois hs19),u27,hE.sub ⟨rfl,rfl,trivial⟩,hM⟩
  ·intro hb22
   have hs19:=Zt hs19 hb22
   refine wp_exit (Zl (Zl (Z5 ?_)))
   obtain rfl:=hx20 _ (ois hs19)
   refine Zh ?_
   exact ⟨u17,hE.sub ⟨rfl,rfl,trivial⟩,hM⟩
 ·skip
  rintro a w ⟨u14,hE,hM⟩
  refine Zb (Zd hE rfl fun a hE=>Zd hE rfl fun a hE=>Z2 hE rfl Tryz.underlying40 (hM.rd hv0_1) ?_); intro a hE
  obtain ⟨r31,e32,hF13⟩:=bind_some hF13
  refine Zx hE rfl Zba (Qh _ (p0.length : Int) 8 r31 e32) ?_
  rintro u33 w a ⟨_,rfl,hFr,hK⟩ hE
  have hM:=hM.add hK hFr
  obtain ⟨l34,e35,hF13⟩:=bind_some hF13
  obtain ⟨e38,rfl⟩:=ZS e35
  have hM:=hM.pull1
  refine Z0 hE hM Za ld rfl rfl (hM.sl (pre:=[_]) noB) Tryz.underlying40 ty5 rfl (by decide) e38 fun u36 w a hM hE=>Zc hE rfl fun a hE=>Ze ?_
  obtain rfl:=Option.some.inj hF13
  have hM:=M.fst (l:=[_]) hM
  exact wp_ret (ZN hE rfl (ZY hE rfl) ⟨_,rfl,u36,rfl,hM.outF (Wm XZ),hM.kept⟩)
def WD (p0 : (List UInt8)) (s8 : (List (Vector UInt8 16)) × Int) : Option (Fl ((List (Vector UInt8 16)) × Int) (List (Vector UInt8 16))) :=
 if (decide (s8.2 < (p0.length : Int))) = true then ((slc p0 s8.2 (wr (s8.2 + 16))).bind fun l15=>(Qf 16 l15).bind fun x18=>(app 16 s8.1 ([x18] : List (Vector UInt8 16))).bind fun l22=>some (Fl.nx ((s8.1 ++ ([x18] : List (Vector UInt8 16))),wr (s8.2 + 16)))) else (some (Fl.ex s8.1))
def UE (p0 : (List UInt8)) : Option ((List (Vector UInt8 16))) :=
 (ZB (WD p0) (([] : List (Vector UInt8 16)),0)).bind fun j3=>some j3
theorem B4 (w0 : World) (p0 : (List UInt8)) (v0_1 : Value) (hv0_1 : Ro w0 p0 [v0_1]) (r : (List (Vector UInt8 16))) (hF : UE p0 = some r) :
  Calls Tryz.prog 131 [v0_1].toArray w0 (fun en w'=>∃ v,en = .returned v ∧ (∃ (y1 : Value),v = y1 ∧ Fr w0 w' [osl NoB (r : List (Vector UInt8 16)) y1] ∧ Kept (Old w0) w0 w')):=by
 refine ce Tryz.func131 ?_
 intro a hE
 have hM:=M.start w0
 unfold UE at hF
 refine Zb (Zc hE rfl fun a hE=>Ze (Zb (ZP (xs:=[]) (l:=([] : List (Vector UInt8 16))) (vs:=[]) hE hM Za ld rfl rfl Tryz.underlying54 ZF rfl (by decide) rfl fun u1 w a hM hE=>Zc hE rfl fun a hE=>Ze (wp_seq (Zb (Zc hE rfl fun a hE=>Ze ?_))))))
 obtain ⟨j3,hl4,hF5⟩:=bind_some hF
 refine ZJ (fun a w=>∃ (u6 : Value),Env 23 a [(3,u6)] ∧ M (Old w0) w0 w [osl NoB (j3 : List (Vector UInt8 16)) u6]) ?_ ?_
 ·skip
  refine wp_block ?_
  refine ZC (fun (s8 : (List (Vector UInt8 16)) × Int) a w=>∃ (u9 : Value),Env 23 a [(0,v0_1),(3,u9),(4,vI s8.2)] ∧ M (Old w0) w0 w [osl NoB (s8.1 : List (Vector UInt8 16)) u9]) hl4 ⟨u1,hE.sub ⟨rfl,rfl,rfl,trivial⟩,hM⟩ ?_
  rintro s8 a w ⟨u9,hE,hM⟩ o13 hs11 hx12
  unfold WD at hs11
  refine wp_seq (Zb (Zd hE rfl fun a hE=>Zd hE rfl fun a hE=>Z2 hE rfl Tryz.underlying40 (hM.rd hv0_1) fun a hE=>Zi hE rfl rfl rfl fun a hE=>Ze ?_))
  refine Zo hE rfl ?_ ?_
  ·intro hb14
   have hs11:=Zs hs11 hb14
   refine wp_skip (Zu (wp_seq (wp_block (wp_region_lit (Zd hE rfl fun a hE=>Zd hE rfl fun a hE=>Zd hE rfl fun a hE=>Zd hE rfl fun a hE=>Zi hE rfl rfl rfl ?_))))); intro a hE
   obtain ⟨l15,e16,hs11⟩:=bind_some hs11
   refine Hv hE Za ld rfl rfl rfl rfl rfl Tryz.underlying40 ty5 (hM.rd hv0_1) e16 ?_; intro a hE
   have h17 : Rep.sat (Old w0) w0 l15 [(Ya v0_1 (s8.2).toNat ((wr (s8.2 + 16))).toNat 1)] []:=Xb hv0_1 e16 -- ^
   obtain ⟨x18,e19,hs11⟩:=bind_some hs11
   refine HB hE Za ld rfl Tryz.underlying68 (hM.rd h17) (Ql e19).1 (by decide) fun a hE=>Zr hE rfl ZF rfl (zf (hM.rd h17) e19 (by decide)) (Flat.len _) fun a hE=>ZP (xs:=[.tmp 19]) (l:=([x18] : List (Vector UInt8 16))) (vs:=[(Value.agg (enc x18).toArray)]) hE hM Za ld rfl rfl Tryz.underlying54 ZF rfl (by decide) rfl ?_; intro u20 w a hM hE
   obtain ⟨l22,e23,hs11⟩:=bind_some hs11
   obtain ⟨e26,rfl⟩:=ZS e23
   have hM:=hM.pull1
   refine Z0 hE hM Za ld rfl rfl (hM.sl (pre:=[_]) noB) Tryz.underlying54 ZF rfl (by decide) e26 fun u24 w a hM hE=>Zc hE rfl fun a hE=>Zf (Z4 (Zu (wp_region_lit (Zd hE rfl fun a hE=>Zi hE rfl rfl rfl fun a hE=>Zc hE rfl fun a hE=>Zf (Zh ?_)))))
   have hM:=M.fst (l:=[_]) hM
   exact ⟨_,(ois hs11),u24,hE.sub ⟨rfl,rfl,rfl,trivial⟩,hM⟩
  ·intro hb14
   have hs11:=Zt hs11 hb14
   refine wp_exit (Zl (Zl (Z5 ?_)))
   obtain rfl:=hx12 _ (ois hs11)
   refine Zh ?_
   exact ⟨u9,hE.sub ⟨rfl,trivial⟩,hM⟩
 ·skip
  rintro a w ⟨u6,hE,hM⟩
  refine Zu (Zb (Zd hE rfl fun a hE=>Zc hE rfl fun a hE=>Ze ?_))
  obtain rfl:=Option.some.inj hF5
  exact wp_ret (ZN hE rfl (ZY hE rfl) ⟨_,rfl,u6,rfl,hM.outF (Wm XZ),hM.kept⟩)
def X1 (p1 : (Vector UInt8 16)) (s10 : (Vector UInt8 16) × Int) : Option (Fl ((Vector UInt8 16) × Int) (Vector UInt8 16)) :=
 if (decide (s10.2 < 16)) = true then ((ZH s10.1 s10.2).bind fun x17=>(ZH p1 s10.2).bind fun x20=>(ZH s10.1 s10.2).bind fun x23=>some (Fl.nx ((s10.1.setIfInBounds (s10.2).toNat (x17 ^^^ x20)),wr (s10.2 + 1)))) else (some (Fl.ex s10.1))
def Yo (p0 : (Vector UInt8 16)) (p1 : (Vector UInt8 16)) : Option ((Vector UInt8 16)) :=
 (ZB (X1 p1) (p0,0)).bind fun j7=>some j7
theorem WA (w0 : World) (p0 : (Vector UInt8 16)) (p1 : (Vector UInt8 16)) (r : (Vector UInt8 16)) (hF : Yo p0 p1 = some r) :
  Calls Tryz.prog 182 [(Value.agg (enc p0).toArray),(Value.agg (enc p1).toArray)].toArray w0 (Rt w0 (Value.agg (enc r).toArray)):=by
 refine ce Tryz.func182 ?_
 intro a hE
 have hM:=M.start w0
 unfold Yo at hF
 refine Zb (ZT (cs:=enc p0) hE hM Za ld rfl rfl fun b1 w a hM hE=>ZT (cs:=enc p1) hE hM Za ld rfl rfl fun b3 w a hM hE=>Zz hE hM ZF fun b5 w a hM hE=>Ze (wp_seq (Zb (Zd hE rfl fun a hE=>Ze ?_))))
 obtain ⟨j7,hl8,hF9⟩:=bind_some hF
 refine ZJ (fun a w=>Env 19 a [(2,(ptr b1 0)),(4,(ptr b5 0))] ∧ M (Old w0) w0 w [raw b5 (enc (Vector.replicate 16 (0 : UInt8))),raw b1 (enc j7)]) ?_ ?_
 ·skip
  refine wp_block ?_
  refine ZC (fun (s10 : (Vector UInt8 16) × Int) a w=>Env 19 a [(2,(ptr b1 0)),(3,(ptr b3 0)),(4,(ptr b5 0)),(6,vI s10.2)] ∧ M (Old w0) w0 w [raw b5 (enc (Vector.replicate 16 (0 : UInt8))),raw b3 (enc p1),raw b1 (enc s10.1)]) hl8 ⟨hE.sub ⟨rfl,rfl,rfl,rfl,trivial⟩,hM⟩ ?_
  rintro s10 a w ⟨hE,hM⟩ o13 hs11 hx12
  unfold X1 at hs11
  refine Zb (Zi hE rfl rfl rfl fun a hE=>Ze (wp_seq ?_))
  refine Zo hE rfl ?_ ?_
  ·intro hb14
   have hs11:=Zs hs11 hb14
   refine wp_skip (Zu (wp_seq (wp_block (Zb (Zd hE rfl fun a hE=>Zc hE rfl fun a hE=>Ze ?_)))))
   obtain ⟨x17,hi16,hs11⟩:=bvx hs11
   obtain ⟨x20,hi19,hs11⟩:=bvx hs11
   obtain ⟨x23,hi22,hs11⟩:=bvx hs11
   refine ZX [9,10,11,12,13,14,15,16] Yy rfl rfl (by decide) rfl hE hM (qsP (fun z=>Zp z.E Za ld rfl (kr0 rfl)) (qsP (fun z=>ZG z.E Za ld rfl rfl Tryz.underlying68 ty5 hi16.1 (kr0 rfl)) (qsP (fun z=>ZK (v:=(vB x17)) z.E Za ld rfl ty5 rfl (At.vec (z.M.rawAt2) hi16.2) (kr0 rfl)) (qsP (fun z=>Zp z.E Za ld rfl (kr0 rfl)) (qsP (fun z=>ZG z.E Za ld rfl rfl Tryz.underlying68 ty5 hi19.1 (kr0 rfl)) (qsP (fun z=>ZK (v:=(vB x20)) z.E Za ld rfl ty5 rfl (At.vec (z.M.rawAt1) hi19.2) (kr0 rfl)) (qsP (v:=(vB (x17 ^^^ x20))) (fun z=>Ye z.E Za ld rfl rfl (Vw x17 x20) (kr0 rfl)) (qsP (fun z=>ZG z.E Za ld rfl rfl Tryz.underlying68 ty5 hi22.1 (kr0 rfl)) qs0)))))))) ?_
   ·intro a w u hE hM
    have hM:=hM.pull2
    refine Zn (seg:=[(vB (x17 ^^^ x20))]) (cs':=enc (s10.1.setIfInBounds (s10.2).toNat (x17 ^^^ x20))) hE hM Za rfl rfl rfl ty5 rfl (ZM (v:=s10.1) (x:=x17 ^^^ x20) hi22.1) (Flat.cell (x17 ^^^ x20 : UInt8)) (ZE (v:=s10.1) (x:=x17 ^^^ x20) hi22.1) fun w a hM hE=>Zf (Z4 (Zu (wp_region_lit (Zi hE rfl rfl rfl fun a hE=>Zd hE rfl fun a hE=>Zf (Zh ?_)))))
    have hM:=hM.pull2.pull2
    exact ⟨_,(ois hs11),hE.sub ⟨rfl,rfl,rfl,rfl,trivial⟩,hM⟩
  ·intro hb14
   have hs11:=Zt hs11 hb14
   refine wp_exit (Zl (Zl (Z5 ?_)))
   obtain rfl:=hx12 _ (ois hs11)
   refine Zh ?_
   have hM:=M.fst (l:=[_,_]) hM.pull2.pull1
   exact ⟨hE.sub ⟨rfl,rfl,trivial⟩,hM⟩
 ·skip
  rintro a w ⟨hE,hM⟩
  refine Zu (Zb (Zr hE rfl ZF rfl hM.rawAt1 (Flat.len _) fun a hE=>Zn (seg:=enc j7) (cs':=enc j7) hE hM Za rfl rfl rfl ZF (Flat.len _) (zle flq) (Flat.cell _) (Zk flq) fun w a hM hE=>Ze ?_))
  obtain rfl:=Option.some.inj hF9
  have hq26 : Yt Tryz.prog _ _ (.cell 4 68) _:=ZQ hE rfl ZF rfl hM.rawAt0 (Flat.len _) rfl
  exact wp_ret (ZN hE rfl hq26 ⟨_,rfl,rfl,hM.kept⟩)
def YN (p0 : (Ref Gengine)) (s35 : (Vector UInt8 16) × Int) : Option (Fl ((Vector UInt8 16) × Int) (Vector UInt8 16)) :=
 if (decide (s35.2 < 16)) = true then ((ZH s35.1 s35.2).bind fun x42=>(ZH s35.1 (wr (s35.2 - 1))).bind fun x45=>(ZH p0.v.box (bI x45)).bind fun x58=>(ZH s35.1 s35.2).bind fun x61=>some (Fl.nx ((s35.1.setIfInBounds (s35.2).toNat (x42 ^^^ x58)),wr (s35.2 + 1)))) else (some (Fl.ex s35.1))
def Xx (p0 : (Ref Gengine)) (p1 : (Vector UInt8 16)) (p2 : Int) : Option ((Vector UInt8 16)) :=
 ((ZH p1 (0 : Int)).bind fun x10=>(ZH p1 (15 : Int)).bind fun x13=>(ZH p0.v.box (bI (x13 ^^^ (Zv p2)))).bind fun x26=>(ZH p1 (0 : Int)).bind fun x29=>some (p1.setIfInBounds ((0 : Int)).toNat (x10 ^^^ x26)) : Option ((Vector UInt8 16))).bind fun j5=>(ZB (YN p0) (j5,1)).bind fun j32=>some j32
theorem KM (w0 : World) (p0 : (Ref Gengine)) (v0_1 : Value) (hv0_1 : Ro w0 p0 [v0_1]) (p1 : (Vector UInt8 16)) (p2 : Int) (r : (Vector UInt8 16)) (hF : Xx p0 p1 p2 = some r) :
  Calls Tryz.prog 237 [v0_1,(Value.agg (enc p1).toArray),vI p2].toArray w0 (Rt w0 (Value.agg (enc r).toArray)):=by
 refine ce Tryz.func237 ?_
 intro a hE
 have hM:=M.start w0
 unfold Xx at hF
 refine Zb (ZT (cs:=enc p1) hE hM Za ld rfl rfl fun b1 w a hM hE=>Zz hE hM ZF fun b3 w a hM hE=>Ze ?_)
 obtain ⟨j5,hl6,hF7⟩:=bind_some hF
 refine ZI (fun a w=>Env 41 a [(0,v0_1),(4,(ptr b1 0)),(6,(ptr b3 0))] ∧ M (Old w0) w0 w [raw b3 (enc (Vector.replicate 16 (0 : UInt8))),raw b1 (enc j5)]) ?_ ?_
 ·skip
  obtain ⟨x10,hi9,hl6⟩:=bvx hl6
  obtain ⟨x13,hi12,hl6⟩:=bvx hl6
  obtain ⟨pb15,ds16,hv17,hx18,hA19,hB20⟩:=TK hv0_1 -- ^
  obtain ⟨u21,u23,rfl,h22,h24⟩:=Qi hx18 -- ^
  obtain ⟨x26,hi25,hl6⟩:=bvx hl6
  obtain ⟨x29,hi28,hl6⟩:=bvx hl6
  refine ZX [8,9,10,11,12,13,14,15,16,17,18,19,20,21] Yy rfl rfl (by decide) rfl hE hM (qsP (fun z=>ZG z.E Za ld rfl rfl Tryz.underlying68 ty5 hi9.1 (kr0 rfl)) (qsP (fun z=>ZK (v:=(vB x10)) z.E Za ld rfl ty5 rfl (At.vec (z.M.rawAt1) hi9.2) (kr0 rfl)) (qsP (fun z=>Zp z.E Za ld rfl (kr0 rfl)) (qsP (fun z=>ZG z.E Za ld rfl rfl Tryz.underlying68 ty5 hi12.1 (kr0 rfl)) (qsP (fun z=>ZK (v:=(vB x13)) z.E Za ld rfl ty5 rfl (At.vec (z.M.rawAt1) hi12.2) (kr0 rfl)) (qsP (fun z=>Zp z.E Za ld rfl (kr0 rfl)) (qsP (fun z=>Yj z.E Za ld rfl Tryz.underlying2 Tryz.underlying5 (kr0 rfl)) (qsP (v:=(vB (x13 ^^^ (Zv p2)))) (fun z=>Ye z.E Za ld rfl rfl (Vw x13 (Zv p2)) (kr0 rfl)) (qsP (fun z=>Wd z.E Za ld (lk rfl hv17) (kr0 rfl)) (qsP (fun z=>Zq z.E Za ld rfl (yB) (kr0 rfl)) (qsP (fun z=>ZG z.E Za ld rfl rfl Tryz.underlying157 ty5 hi25.1 (kr0 rfl)) (qsP (fun z=>ZK (v:=(vB x26)) z.E Za ld rfl ty5 rfl (At.vec (At.cat (pre:=[]) (z.M.atk hA19 hB20) cl0) hi25.2) (kr0 rfl)) (qsP (v:=(vB (x10 ^^^ x26))) (fun z=>Ye z.E Za ld rfl rfl (Vw x10 x26) (kr0 rfl)) (qsP (fun z=>ZG z.E Za ld rfl rfl Tryz.underlying68 ty5 hi28.1 (kr0 rfl)) qs0)))))))))))))) ?_
  ·intro a w u hE hM
   have hM:=hM.pull1
   refine Zn (seg:=[(vB (x10 ^^^ x26))]) (cs':=enc (p1.setIfInBounds ((0 : Int)).toNat (x10 ^^^ x26))) hE hM Za rfl rfl rfl ty5 rfl (ZM (v:=p1) (x:=x10 ^^^ x26) hi28.1) (Flat.cell (x10 ^^^ x26 : UInt8)) (ZE (v:=p1) (x:=x10 ^^^ x26) hi28.1) fun w a hM hE=>Zf ?_
   obtain rfl:=Option.some.inj hl6
   refine Zh ?_
   have hM:=hM.pull1
   exact ⟨hE.sub ⟨rfl,rfl,rfl,trivial⟩,hM⟩
 ·skip
  rintro a w ⟨hE,hM⟩
  refine wp_seq (Zb (Zc hE rfl fun a hE=>Ze ?_))
  obtain ⟨j32,hl33,hF34⟩:=bind_some hF7
  refine ZJ (fun a w=>Env 41 a [(4,(ptr b1 0)),(6,(ptr b3 0))] ∧ M (Old w0) w0 w [raw b3 (enc (Vector.replicate 16 (0 : UInt8))),raw b1 (enc j32)]) ?_ ?_
  ·skip
   refine wp_block ?_
   refine ZC (fun (s35 : (Vector UInt8 16) × Int) a w=>Env 41 a [(0,v0_1),(4,(ptr b1 0)),(6,(ptr b3 0)),(7,vI s35.2)] ∧ M (Old w0) w0 w [raw b3 (enc (Vector.replicate 16 (0 : UInt8))),raw b1 (enc s35.1)]) hl33 ⟨hE.sub ⟨rfl,rfl,rfl,rfl,trivial⟩,hM⟩ ?_
   rintro s35 a w ⟨hE,hM⟩ o38 hs36 hx37
   unfold YN at hs36
   refine wp_seq (Zb (Zd hE rfl fun a hE=>Zi hE rfl rfl rfl fun a hE=>Ze ?_))
   refine Zo hE rfl ?_ ?_
   ·intro hb39
    have hs36:=Zs hs36 hb39
    refine wp_skip (Zu (wp_seq (wp_block ?_)))
    obtain ⟨x42,hi41,hs36⟩:=bvx hs36
    obtain ⟨x45,hi44,hs36⟩:=bvx hs36
    obtain ⟨pb47,ds48,hv49,hx50,hA51,hB52⟩:=TK hv0_1 -- ^
    obtain ⟨u53,u55,rfl,h54,h56⟩:=Qi hx50 -- ^
    obtain ⟨x58,hi57,hs36⟩:=bvx hs36
    obtain ⟨x61,hi60,hs36⟩:=bvx hs36
    refine ZX [26,27,28,29,30,31,32,33,34,35,36,37,38,39] Yy rfl rfl (by decide) rfl hE hM (qsP (fun z=>Zp z.E Za ld rfl (kr0 rfl)) (qsP (fun z=>ZG z.E Za ld rfl rfl Tryz.underlying68 ty5 hi41.1 (kr0 rfl)) (qsP (fun z=>ZK (v:=(vB x42)) z.E Za ld rfl ty5 rfl (At.vec (z.M.rawAt1) hi41.2) (kr0 rfl)) (qsP (fun z=>Zp z.E Za ld rfl (kr0 rfl)) (qsP (fun z=>Zp z.E Za ld rfl (kr0 rfl)) (qsP (v:=(vI (wr (s35.2 - 1)))) (fun z=>Ye z.E Za ld rfl rfl rfl (kr0 rfl)) (qsP (fun z=>ZG z.E Za ld rfl rfl Tryz.underlying68 ty5 hi44.1 (kr0 rfl)) (qsP (fun z=>ZK (v:=(vB x45)) z.E Za ld rfl ty5 rfl (At.vec (z.M.rawAt1) hi44.2) (kr0 rfl)) (qsP (fun z=>Wd z.E Za ld (lk rfl hv49) (kr0 rfl)) (qsP (fun z=>Zq z.E Za ld rfl (yB) (kr0 rfl)) (qsP (fun z=>ZG z.E Za ld rfl rfl Tryz.underlying157 ty5 hi57.1 (kr0 rfl)) (qsP (fun z=>ZK (v:=(vB x58)) z.E Za ld rfl ty5 rfl (At.vec (At.cat (pre:=[]) (z.M.atk hA51 hB52) cl0) hi57.2) (kr0 rfl)) (qsP (v:=(vB (x42 ^^^ x58))) (fun z=>Ye z.E Za ld rfl rfl (Vw x42 x58) (kr0 rfl)) (qsP (fun z=>ZG z.E Za ld rfl rfl Tryz.underlying68 ty5 hi60.1 (kr0 rfl)) qs0)))))))))))))) ?_
    ·intro a w u hE hM
     have hM:=hM.pull1
     refine Zn (seg:=[(vB (x42 ^^^ x58))]) (cs':=enc (s35.1.setIfInBounds (s35.2).toNat (x42 ^^^ x58))) hE hM Za rfl rfl rfl ty5 rfl (ZM (v:=s35.1) (x:=x42 ^^^ x58) hi60.1) (Flat.cell (x42 ^^^ x58 : UInt8)) (ZE (v:=s35.1) (x:=x42 ^^^ x58) hi60.1) fun w a hM hE=>Zf (Z4 (Zu (wp_region_lit (Zd hE rfl fun a hE=>Zi hE rfl rfl rfl fun a hE=>Zc hE rfl fun a hE=>Zf (Zh ?_)))))
     have hM:=hM.pull1
     exact ⟨_,(ois hs36),hE.sub ⟨rfl,rfl,rfl,rfl,trivial⟩,hM⟩
   ·intro hb39
    have hs36:=Zt hs36 hb39
    refine wp_exit (Zl (Zl (Z5 ?_)))
    obtain rfl:=hx37 _ (ois hs36)
    refine Zh ?_
    exact ⟨hE.sub ⟨rfl,rfl,trivial⟩,hM⟩
  ·skip
   rintro a w ⟨hE,hM⟩
   refine Zu (Zb (Zr hE rfl ZF rfl hM.rawAt1 (Flat.len _) fun a hE=>Zn (seg:=enc j32) (cs':=enc j32) hE hM Za rfl rfl rfl ZF (Flat.len _) (zle flq) (Flat.cell _) (Zk flq) fun w a hM hE=>Ze ?_))
   obtain rfl:=Option.some.inj hF34
   have hq64 : Yt Tryz.prog _ _ (.cell 6 68) _:=ZQ hE rfl ZF rfl hM.rawAt0 (Flat.len _) rfl
   exact wp_ret (ZN hE rfl hq64 ⟨_,rfl,rfl,hM.kept⟩)
def Xi (p0 : (Ref Gengine)) (p2 : Int) (s10 : (Vector UInt8 16) × (List (Vector UInt8 16)) × Int) : Option (Fl ((Vector UInt8 16) × (List (Vector UInt8 16)) × Int) (List (Vector UInt8 16))) :=
 if (decide (s10.2.2 ≤ p2)) = true then ((Xx p0 s10.1 s10.2.2).bind fun r17=>(app 16 s10.2.1 ([r17] : List (Vector UInt8 16))).bind fun l21=>some (Fl.nx (r17,(s10.2.1 ++ ([r17] : List (Vector UInt8 16))),wr (s10.2.2 + 1)))) else (some (Fl.ex s10.2.1))
def WP (p0 : (Ref Gengine)) (p1 : (Vector UInt8 16)) (p2 : Int) : Option ((List (Vector UInt8 16))) :=
 (ZB (Xi p0 p2) (p1,([p1] : List (Vector UInt8 16)),1)).bind fun j5=>some j5
theorem JT (w0 : World) (p0 : (Ref Gengine)) (v0_1 : Value) (hv0_1 : Ro w0 p0 [v0_1]) (p1 : (Vector UInt8 16)) (p2 : Int) (r : (List (Vector UInt8 16))) (hF : WP p0 p1 p2 = some r) :
  Calls Tryz.prog 218 [v0_1,(Value.agg (enc p1).toArray),vI p2].toArray w0 (fun en w'=>∃ v,en = .returned v ∧ (∃ (y1 : Value),v = y1 ∧ Fr w0 w' [osl NoB (r : List (Vector UInt8 16)) y1] ∧ Kept (Old w0) w0 w')):=by
 refine ce Tryz.func218 ?_
 intro a hE
 have hM:=M.start w0
 unfold WP at hF
 refine Zb (ZT (cs:=enc p1) hE hM Za ld rfl rfl fun b1 w a hM hE=>Zc hE rfl fun a hE=>Ze (Zb (Zr hE rfl ZF rfl hM.rawAt0 (Flat.len _) fun a hE=>ZP (xs:=[.tmp 9]) (l:=([p1] : List (Vector UInt8 16))) (vs:=[(Value.agg (enc p1).toArray)]) hE hM Za ld rfl rfl Tryz.underlying54 ZF rfl (by decide) rfl fun u3 w a hM hE=>Zc hE rfl fun a hE=>Ze (wp_seq (Zb (Zc hE rfl fun a hE=>Ze ?_))))))
 obtain ⟨j5,hl6,hF7⟩:=bind_some hF
 refine ZJ (fun a w=>∃ (u8 : Value),Env 25 a [(7,u8)] ∧ M (Old w0) w0 w [osl NoB (j5 : List (Vector UInt8 16)) u8]) ?_ ?_
 ·skip
  refine wp_block ?_
  have hM:=hM.pull1
  refine ZC (fun (s10 : (Vector UInt8 16) × (List (Vector UInt8 16)) × Int) a w=>∃ (u11 : Value),Env 25 a [(0,v0_1),(2,vI p2),(4,(ptr b1 0)),(7,u11),(8,vI s10.2.2)] ∧ M (Old w0) w0 w [raw b1 (enc s10.1),osl NoB (s10.2.1 : List (Vector UInt8 16)) u11]) hl6 ⟨u3,hE.sub ⟨rfl,rfl,rfl,rfl,rfl,trivial⟩,hM⟩ ?_
  rintro s10 a w ⟨u11,hE,hM⟩ o15 hs13 hx14
  unfold Xi at hs13
  refine wp_seq (Zb (Zd hE rfl fun a hE=>Zd hE rfl fun a hE=>Zi hE rfl rfl rfl fun a hE=>Ze ?_))
  refine Zo hE rfl ?_ ?_
  ·intro hb16
   have hs13:=Zs hs13 hb16
   refine wp_skip (Zu (wp_seq (wp_block (Zb (Zd hE rfl fun a hE=>Zr hE rfl ZF rfl hM.rawAt0 (Flat.len _) fun a hE=>Zd hE rfl ?_))))); intro a hE
   obtain ⟨r17,e18,hs13⟩:=bind_some hs13
   refine Zx hE rfl (cbm Tryz.func237) (KM _ p0 v0_1 (hM.rdo hv0_1) s10.1 s10.2.2 r17 e18) ?_
   rintro v w a ⟨rfl,hK⟩ hE
   have hM:=hM.keep hK
   refine Zn (seg:=enc r17) (cs':=enc r17) hE hM Za rfl rfl rfl ZF (Flat.len _) (zle flq) (Flat.cell _) (Zk flq) fun w a hM hE=>Ze (wp_region_lit (Zd hE rfl fun a hE=>Zr hE rfl ZF rfl hM.rawAt0 (Flat.len _) fun a hE=>ZP (xs:=[.tmp 21]) (l:=([r17] : List (Vector UInt8 16))) (vs:=[(Value.agg (enc r17).toArray)]) hE hM Za ld rfl rfl Tryz.underlying54 ZF rfl (by decide) rfl ?_)); intro u19 w a hM hE
   obtain ⟨l21,e22,hs13⟩:=bind_some hs13
   obtain ⟨e25,rfl⟩:=ZS e22
   have hM:=hM.pull2
   refine Z0 hE hM Za ld rfl rfl (hM.sl (pre:=[_]) noB) Tryz.underlying54 ZF rfl (by decide) e25 fun u23 w a hM hE=>Zc hE rfl fun a hE=>Zf (Z4 (Zu (wp_region_lit (Zd hE rfl fun a hE=>Zi hE rfl rfl rfl fun a hE=>Zc hE rfl fun a hE=>Zf (Zh ?_)))))
   have hM:=M.fst (l:=[_,_]) hM.pull2
   exact ⟨_,(ois hs13),u23,hE.sub ⟨rfl,rfl,rfl,rfl,rfl,trivial⟩,hM⟩
  ·intro hb16
   have hs13:=Zt hs13 hb16
   refine wp_exit (Zl (Zl (Z5 ?_)))
   obtain rfl:=hx14 _ (ois hs13)
   refine Zh ?_
   have hM:=M.fst (l:=[_]) hM.pull1
   exact ⟨u11,hE.sub ⟨rfl,trivial⟩,hM⟩
 ·skip
  rintro a w ⟨u8,hE,hM⟩
  refine Zu (Zb (Zd hE rfl fun a hE=>Zc hE rfl fun a hE=>Ze ?_))
  obtain rfl:=Option.some.inj hF7
  exact wp_ret (ZN hE rfl (ZY hE rfl) ⟨_,rfl,u8,rfl,hM.outF (Wm XZ),hM.kept⟩)
def Xn (p0 : (Vector UInt8 16)) (p1 : (Vector UInt8 16)) (s12 : (Vector UInt8 16) × Int) : Option (Fl ((Vector UInt8 16) × Int) (Vector UInt8 16)) :=
 if (decide (s12.2 < 16)) = true then ((ZH p0 s12.2).bind fun x17=>(ZH p1 (bI x17)).bind fun x21=>(ZH s12.1 s12.2).bind fun x24=>some (Fl.nx ((s12.1.setIfInBounds (s12.2).toNat x21),wr (s12.2 + 1)))) else (some (Fl.ex s12.1))
def WH (p0 : (Vector UInt8 16)) (p1 : (Vector UInt8 16)) : Option ((Vector UInt8 16)) :=
 (ZB (Xn p0 p1) ((Vector.replicate 16 (0 : UInt8)),0)).bind fun j9=>some j9
theorem JW (w0 : World) (p0 : (Vector UInt8 16)) (p1 : (Vector UInt8 16)) (r : (Vector UInt8 16)) (hF : WH p0 p1 = some r) :
  Calls Tryz.prog 235 [(Value.agg (enc p0).toArray),(Value.agg (enc p1).toArray)].toArray w0 (Rt w0 (Value.agg (enc r).toArray)):=by
 refine ce Tryz.func235 ?_
 intro a hE
 have hM:=M.start w0
 unfold WH at hF
 refine Zb (ZT (cs:=enc p0) hE hM Za ld rfl rfl fun b1 w a hM hE=>ZT (cs:=enc p1) hE hM Za ld rfl rfl fun b3 w a hM hE=>Zz hE hM ZF fun b5 w a hM hE=>Ze (Zb (Xu (parts:=[]) (vs:=[]) (cs:=enc (Vector.replicate 16 (0 : UInt8))) hE Za ld rfl rfl ZF rfl ty5 YU fun a hE=>Zz hE hM ZF fun b7 w a hM hE=>Zn (seg:=enc (Vector.replicate 16 (0 : UInt8))) (cs':=enc (Vector.replicate 16 (0 : UInt8))) hE hM Za rfl rfl rfl ZF (Flat.len _) (zle flq) (Flat.cell _) (Zk flq) fun w a hM hE=>Ze (wp_seq (Zb (Zr hE rfl QG rfl hM.rawAt3 (Flat.len _) fun a hE=>Zd hE rfl fun a hE=>Ze ?_))))))
 obtain ⟨j9,hl10,hF11⟩:=bind_some hF
 refine ZJ (fun a w=>Env 21 a [(4,(ptr b5 0)),(5,(ptr b7 0))] ∧ M (Old w0) w0 w [raw b7 (enc j9),raw b5 (enc (Vector.replicate 16 (0 : UInt8)))]) ?_ ?_
 ·skip
  refine wp_block ?_
  have hM:=M.fst (l:=[_,_,_]) hM.pull2.pull2.pull2
  refine ZC (fun (s12 : (Vector UInt8 16) × Int) a w=>Env 21 a [(3,(ptr b3 0)),(4,(ptr b5 0)),(5,(ptr b7 0)),(9,(Value.agg (enc p0).toArray)),(10,vI s12.2)] ∧ M (Old w0) w0 w [raw b7 (enc s12.1),raw b5 (enc (Vector.replicate 16 (0 : UInt8))),raw b3 (enc p1)]) hl10 ⟨hE.sub ⟨rfl,rfl,rfl,rfl,rfl,trivial⟩,hM⟩ ?_
  rintro s12 a w ⟨hE,hM⟩ o15 hs13 hx14
  unfold Xn at hs13
  refine Zb (Zi hE rfl rfl rfl fun a hE=>Ze (wp_seq ?_))
  refine Zo hE rfl ?_ ?_
  ·intro hb16
   have hs13:=Zs hs13 hb16
   refine wp_skip (Zu (wp_seq (wp_block (Zb (Zd hE rfl ?_))))); intro a hE
   obtain ⟨x17,hi19,hs13⟩:=bvx hs13
   refine KS hE Za ld rfl rfl Tryz.underlying161 ty5 rfl rfl hi19 rfl fun a hE=>Zc hE rfl fun a hE=>Zc hE rfl fun a hE=>Ze (wp_region_lit (Zd hE rfl fun a hE=>Zd hE rfl ?_)); intro a hE
   obtain ⟨x21,hi20,hs13⟩:=bvx hs13
   refine ZD hE rfl rfl Tryz.underlying68 ty5 hi20.1 fun a hE=>Zw (v:=(vB x21)) hE rfl ty5 rfl (At.vec hM.rawAt2 hi20.2) ?_; intro a hE
   obtain ⟨x24,hi23,hs13⟩:=bvx hs13
   refine ZD hE rfl rfl Tryz.underlying68 ty5 hi23.1 fun a hE=>Zn (seg:=[vB x21]) (cs':=enc (s12.1.setIfInBounds (s12.2).toNat x21)) hE hM Za rfl rfl rfl ty5 rfl (ZM (v:=s12.1) (x:=x21) hi23.1) (Flat.cell (x21 : UInt8)) (ZE (v:=s12.1) (x:=x21) hi23.1) fun w a hM hE=>Zf (Z4 (Zu (wp_region_lit (Zi hE rfl rfl rfl fun a hE=>Zd hE rfl fun a hE=>Zf (Zh ?_)))))
   exact ⟨_,(ois hs13),hE.sub ⟨rfl,rfl,rfl,rfl,rfl,trivial⟩,hM⟩
  ·intro hb16
   have hs13:=Zt hs13 hb16
   refine wp_exit (Zl (Zl (Z5 ?_)))
   obtain rfl:=hx14 _ (ois hs13)
   refine Zh ?_
   have hM:=M.fst (l:=[_,_]) hM.pull1.pull1
   exact ⟨hE.sub ⟨rfl,rfl,trivial⟩,hM⟩
 ·skip
  rintro a w ⟨hE,hM⟩
  refine Zu (Zb (Zr hE rfl ZF rfl hM.rawAt0 (Flat.len _) ?_)); intro a hE
  have hM:=hM.pull1
  refine Zn (seg:=enc j9) (cs':=enc j9) hE hM Za rfl rfl rfl ZF (Flat.len _) (zle flq) (Flat.cell _) (Zk flq) fun w a hM hE=>Ze ?_
  obtain rfl:=Option.some.inj hF11
  have hq27 : Yt Tryz.prog _ _ (.cell 4 68) _:=ZQ hE rfl ZF rfl hM.rawAt0 (Flat.len _) rfl
  exact wp_ret (ZN hE rfl hq27 ⟨_,rfl,rfl,hM.kept⟩)
def X0 (p0 : (Ref (Vector (Vector (Vector UInt8 256) 4) 4))) (s4 : (Vector UInt8 16) × Int) (j9 : UInt8 × UInt8 × UInt8 × UInt8) (s29 : (Vector UInt8 16) × Int) : Option (Fl ((Vector UInt8 16) × Int) (Vector UInt8 16)) :=
 if (decide (s29.2 < 4)) = true then ((ZH p0.v s29.2).bind fun x42=>(ZH x42 (0 : Int)).bind fun x45=>(ZH x45 (bI j9.1)).bind fun x48=>(ZH p0.v s29.2).bind fun x57=>(ZH x57 (1 : Int)).bind fun x60=>(ZH x60 (bI j9.2.1)).bind fun x63=>(ZH p0.v s29.2).bind fun x72=>(ZH x72 (2 : Int)).bind fun x75=>(ZH x75 (bI j9.2.2.1)).bind fun x78=>(ZH p0.v s29.2).bind fun x87=>(ZH x87 (3 : Int)).bind fun x90=>(ZH x90 (bI j9.2.2.2)).bind fun x93=>(ZH s29.1 (wr (s4.2 + s29.2))).bind fun x95=>some (Fl.nx ((s29.1.setIfInBounds ((wr (s4.2 + s29.2))).toNat (((x48 ^^^ x63) ^^^ x78) ^^^ x93)),wr (s29.2 + 1)))) else (some (Fl.ex s29.1))
def X5 (p0 : (Ref (Vector (Vector (Vector UInt8 256) 4) 4))) (s4 : (Vector UInt8 16) × Int) : Option (Fl ((Vector UInt8 16) × Int) (Vector UInt8 16)) :=
 if (decide (s4.2 < (s4.1.toList.length : Int))) = true then (((ZH s4.1 s4.2).bind fun x13=>(ZH s4.1 (wr (s4.2 + 1))).bind fun x16=>(ZH s4.1 (wr (s4.2 + 2))).bind fun x19=>(ZH s4.1 (wr (s4.2 + 3))).bind fun x22=>some (x13,x16,x19,x22) : Option (UInt8 × UInt8 × UInt8 × UInt8)).bind fun j9=>(ZB (X0 p0 s4 j9) (s4.1,0)).bind fun j26=>some (Fl.nx (j26,wr (s4.2 + 4)))) else (some (Fl.ex s4.1))
def VN (p0 : (Ref (Vector (Vector (Vector UInt8 256) 4) 4))) (p1 : (Vector UInt8 16)) : Option ((Vector UInt8 16)) :=
 (ZB (X5 p0) (p1,0)).bind fun j1=>some j1
theorem Br (St : Nat → Prop) (W w0 : World) (its : List Item) (p0 : (Ref (Vector (Vector (Vector UInt8 256) 4) 4))) (v0_1 : Value) (hv0_1 : Rep.sat St W p0 [v0_1] []) (pb1 : Nat) (p1 : (Vector UInt8 16)) (hM : M St W w0 (raw pb1 (enc p1) :: its)) (r : (Vector UInt8 16)) (hF : VN p0 p1 = some r) :
  Calls Tryz.prog 236 [v0_1,(Value.slice (some ⟨pb1,0,none⟩) 16 16)].toArray w0 (fun en w'=>∃ v,en = .returned v ∧ (v = (Value.tuple [].toArray) ∧ M St W w' (raw pb1 (enc r) :: its))):=by
 refine ce Tryz.func236 ?_
 intro a hE
 unfold VN at hF
 refine Zb (Zc hE rfl fun a hE=>Ze ?_)
 obtain ⟨j1,hl2,hF3⟩:=bind_some hF
 refine ZJ (fun a w=>Env 79 a [(1,(Value.slice (some ⟨pb1,0,none⟩) 16 16))] ∧ M St W w (raw pb1 (enc j1) :: its)) ?_ ?_
 ·skip
  refine wp_block ?_
  refine ZC (fun (s4 : (Vector UInt8 16) × Int) a w=>Env 79 a [(0,v0_1),(1,(Value.slice (some ⟨pb1,0,none⟩) 16 16)),(4,vI s4.2)] ∧ M St W w (raw pb1 (enc s4.1) :: its)) hl2 ⟨hE.sub ⟨rfl,rfl,rfl,trivial⟩,hM⟩ ?_
  rintro s4 a w ⟨hE,hM⟩ o7 hs5 hx6
  unfold X5 at hs5
  refine wp_seq (Zb (Zd hE rfl fun a hE=>Zd hE rfl fun a hE=>Z2 hE rfl Tryz.underlying40 (Zcw hM.rawAt0) fun a hE=>Zi hE rfl rfl rfl fun a hE=>Ze ?_))
  refine Zo hE rfl ?_ ?_
  ·intro hb8
   have hs5:=Zs hs5 hb8
   refine wp_skip (Zu (wp_seq (wp_block ?_)))
   obtain ⟨j9,hl10,hF11⟩:=bind_some hs5
   refine ZI (fun a w=>Env 79 a [(0,v0_1),(1,(Value.slice (some ⟨pb1,0,none⟩) 16 16)),(4,vI s4.2),(5,vB j9.1),(6,vB j9.2.1),(7,vB j9.2.2.1),(8,vB j9.2.2.2)] ∧ M St W w (raw pb1 (enc s4.1) :: its)) ?_ ?_
   ·skip
    obtain ⟨x13,hi15,hl10⟩:=bvx hl10
    obtain ⟨x16,hi18,hl10⟩:=bvx hl10
    obtain ⟨x19,hi21,hl10⟩:=bvx hl10
    obtain ⟨x22,hi24,hl10⟩:=bvx hl10
    refine Zcq (n:=79) (hd:=[_,_,_,_,_,_,_,_,_,_,_,_,_,_,_,_,_,_,_,_,_,_,_]) (tl:=[]) Yy rfl rfl [16,17,18,19,20,21,22,23,24,25,26,27,28,29,30,31,32,33,34,5,6,7,8] (by decide) (fun w=>M St W w (raw pb1 (enc s4.1) :: its)) (fun j=>([fun v _=>v = (Value.slice (some ⟨pb1,0,none⟩) 16 16),fun v _=>v = (vI s4.2),fun v _=>v = (ptr pb1 (0 + (s4.2).toNat * 1)),fun v _=>v = (vB x13),fun v _=>v = (Value.slice (some ⟨pb1,0,none⟩) 16 16),fun v _=>v = (vI s4.2),fun v _=>v = (vI (wr (s4.2 + 1))),fun v _=>v = (ptr pb1 (0 + ((wr (s4.2 + 1))).toNat * 1)),fun v _=>v = (vB x16),fun v _=>v = (Value.slice (some ⟨pb1,0,none⟩) 16 16),fun v _=>v = (vI s4.2),fun v _=>v = (vI (wr (s4.2 + 2))),fun v _=>v = (ptr pb1 (0 + ((wr (s4.2 + 2))).toNat * 1)),fun v _=>v = (vB x19),fun v _=>v = (Value.slice (some ⟨pb1,0,none⟩) 16 16),fun v _=>v = (vI s4.2),fun v _=>v = (vI (wr (s4.2 + 3))),fun v _=>v = (ptr pb1 (0 + ((wr (s4.2 + 3))).toNat * 1)),fun v _=>v = (vB x22),fun v _=>v = (vB x13),fun v _=>v = (vB x16),fun v _=>v = (vB x19),fun v _=>v = (vB x22)] : List (Value → World → Prop)).getD j (fun _ _=>True)) (fun _ _ h hk=>h.keep hk) (gup gu23) hE hM.drew (st23 ?_ ?_ ?_ ?_ ?_ ?_ ?_ ?_ ?_ ?_ ?_ ?_ ?_ ?_ ?_ ?_ ?_ ?_ ?_ ?_ ?_ ?_ ?_) ?_
    ·exact qm
    ·exact qm
    ·intro a w ux12 hE hM hp
     have f0 : ux12 0 = (Value.slice (some ⟨pb1,0,none⟩) 16 16):=hp 0 _ rfl rfl
     have f1 : ux12 1 = (vI s4.2):=hp 1 _ rfl rfl
     exact Qx hE Za ld (lk rfl f0) (lk rfl f1) Tryz.underlying40 ty5 hi15.1 fun a hE=>kq rfl hE rfl
    ·intro a w ux12 hE hM hp
     have f2 : ux12 2 = (ptr pb1 (0 + (s4.2).toNat * 1)):=hp 0 _ rfl rfl
     exact Zw (v:=(vB x13)) hE (lk rfl f2) ty5 rfl (At.vec hM.rawAt0 hi15.2) fun a hE=>kq rfl hE rfl
    ·exact qm
    ·exact qm
    ·intro a w ux12 hE hM hp
     have f5 : ux12 5 = (vI s4.2):=hp 0 _ rfl rfl
     exact Zi hE (lk rfl f5) rfl rfl fun a hE=>kq rfl hE rfl
    ·intro a w ux12 hE hM hp
     have f4 : ux12 4 = (Value.slice (some ⟨pb1,0,none⟩) 16 16):=hp 0 _ rfl rfl
     have f6 : ux12 6 = (vI (wr (s4.2 + 1))):=hp 1 _ rfl rfl
     exact Qx hE Za ld (lk rfl f4) (lk rfl f6) Tryz.underlying40 ty5 hi18.1 fun a hE=>kq rfl hE rfl
    ·intro a w ux12 hE hM hp
     have f7 : ux12 7 = (ptr pb1 (0 + ((wr (s4.2 + 1))).toNat * 1)):=hp 0 _ rfl rfl
     exact Zw (v:=(vB x16)) hE (lk rfl f7) ty5 rfl (At.vec hM.rawAt0 hi18.2) fun a hE=>kq rfl hE rfl
    ·exact qm
    ·exact qm
    ·intro a w ux12 hE hM hp
     have f10 : ux12 10 = (vI s4.2):=hp 0 _ rfl rfl
     exact Zi hE (lk rfl f10) rfl rfl fun a hE=>kq rfl hE rfl
    ·intro a w ux12 hE hM hp
     have f9 : ux12 9 = (Value.slice (some ⟨pb1,0,none⟩) 16 16):=hp 0 _ rfl rfl
     have f11 : ux12 11 = (vI (wr (s4.2 + 2))):=hp 1 _ rfl rfl
     exact Qx hE Za ld (lk rfl f9) (lk rfl f11) Tryz.underlying40 ty5 hi21.1 fun a hE=>kq rfl hE rfl
    ·intro a w ux12 hE hM hp
     have f12 : ux12 12 = (ptr pb1 (0 + ((wr (s4.2 + 2))).toNat * 1)):=hp 0 _ rfl rfl
     exact Zw (v:=(vB x19)) hE (lk rfl f12) ty5 rfl (At.vec hM.rawAt0 hi21.2) fun a hE=>kq rfl hE rfl
    ·exact qm
    ·exact qm
    ·intro a w ux12 hE hM hp
     have f15 : ux12 15 = (vI s4.2):=hp 0 _ rfl rfl
     exact Zi hE (lk rfl f15) rfl rfl fun a hE=>kq rfl hE rfl
    ·intro a w ux12 hE hM hp
     have f14 : ux12 14 = (Value.slice (some ⟨pb1,0,none⟩) 16 16):=hp 0 _ rfl rfl
     have f16 : ux12 16 = (vI (wr (s4.2 + 3))):=hp 1 _ rfl rfl
     exact Qx hE Za ld (lk rfl f14) (lk rfl f16) Tryz.underlying40 ty5 hi24.1 fun a hE=>kq rfl hE rfl
    ·intro a w ux12 hE hM hp
     have f17 : ux12 17 = (ptr pb1 (0 + ((wr (s4.2 + 3))).toNat * 1)):=hp 0 _ rfl rfl
     exact Zw (v:=(vB x22)) hE (lk rfl f17) ty5 rfl (At.vec hM.rawAt0 hi24.2) fun a hE=>kq rfl hE rfl
    ·intro a w ux12 hE hM hp
     have f3 : ux12 3 = (vB x13):=hp 0 _ rfl rfl
     exact Zc hE (lk rfl f3) fun a hE=>kq rfl hE rfl
    ·intro a w ux12 hE hM hp
     have f8 : ux12 8 = (vB x16):=hp 0 _ rfl rfl
     exact Zc hE (lk rfl f8) fun a hE=>kq rfl hE rfl
    ·intro a w ux12 hE hM hp
     have f13 : ux12 13 = (vB x19):=hp 0 _ rfl rfl
     exact Zc hE (lk rfl f13) fun a hE=>kq rfl hE rfl
    ·intro a w ux12 hE hM hp
     have f18 : ux12 18 = (vB x22):=hp 0 _ rfl rfl
     exact Zc hE (lk rfl f18) fun a hE=>kq rfl hE rfl
    ·intro a w ux12 hE hM hg
     have hE:=hE.sub (e':=[(5,vB x13),(6,vB x16),(7,vB x19),(8,vB x22),(0,v0_1),(1,(Value.slice (some ⟨pb1,0,none⟩) 16 16)),(4,vI s4.2),(10,vI s4.2),(11,(Value.slice (some ⟨pb1,0,none⟩) 16 16)),(12,(vI (s4.1.toList.length : Int))),(13,(vT (decide (s4.2 < (s4.1.toList.length : Int)))))]) ⟨lk rfl (hg 19 (by decide)),lk rfl (hg 20 (by decide)),lk rfl (hg 21 (by decide)),lk rfl (hg 22 (by decide)),rfl,rfl,rfl,rfl,rfl,rfl,rfl,trivial⟩
     refine Zf ?_
     obtain rfl:=Option.some.inj hl10
     refine Zh ?_
     exact ⟨hE.sub ⟨rfl,rfl,rfl,rfl,rfl,rfl,rfl,trivial⟩,hM⟩
   ·skip
    rintro a w ⟨hE,hM⟩
    refine Zb (Zd hE rfl fun a hE=>Ze ?_)
    obtain ⟨j26,hl27,hF28⟩:=bind_some hF11
    refine ZJ (fun a w=>Env 79 a [(0,v0_1),(1,(Value.slice (some ⟨pb1,0,none⟩) 16 16)),(4,vI s4.2)] ∧ M St W w (raw pb1 (enc j26) :: its)) ?_ ?_
    ·skip
     refine wp_block ?_
     refine ZC (fun (s29 : (Vector UInt8 16) × Int) a w=>Env 79 a [(0,v0_1),(1,(Value.slice (some ⟨pb1,0,none⟩) 16 16)),(4,vI s4.2),(5,vB j9.1),(6,vB j9.2.1),(7,vB j9.2.2.1),(8,vB j9.2.2.2),(35,vI s29.2)] ∧ M St W w (raw pb1 (enc s29.1) :: its)) hl27 ⟨hE.sub ⟨rfl,rfl,rfl,rfl,rfl,rfl,rfl,rfl,trivial⟩,hM⟩ ?_
     rintro s29 a w ⟨hE,hM⟩ o32 hs30 hx31
     unfold X0 at hs30
     refine Zb (Zi hE rfl rfl rfl fun a hE=>Ze (wp_seq ?_))
     refine Zo hE rfl ?_ ?_
     ·intro hb33
      have hs30:=Zs hs30 hb33
      refine wp_skip (Zu (wp_seq (wp_block (Zb (Zd hE rfl fun a hE=>Zc hE rfl fun a hE=>Ze ?_)))))
      obtain ⟨pb35,ds36,hv37,hx38,hA39,hB40⟩:=TK hv0_1 -- ^
      obtain ⟨rfl,_⟩:=TD.1 hx38 -- ^
      obtain ⟨x42,hi41,hs30⟩:=bvx hs30
      obtain ⟨x45,hi44,hs30⟩:=bvx hs30
      obtain ⟨x48,hi47,hs30⟩:=bvx hs30
      obtain ⟨pb50,ds51,hv52,hx53,hA54,hB55⟩:=TK hv0_1 -- ^
      obtain ⟨rfl,_⟩:=TD.1 hx53 -- ^
      obtain ⟨x57,hi56,hs30⟩:=bvx hs30
      obtain ⟨x60,hi59,hs30⟩:=bvx hs30
      obtain ⟨x63,hi62,hs30⟩:=bvx hs30
      obtain ⟨pb65,ds66,hv67,hx68,hA69,hB70⟩:=TK hv0_1 -- ^
      obtain ⟨rfl,_⟩:=TD.1 hx68 -- ^
      obtain ⟨x72,hi71,hs30⟩:=bvx hs30
      obtain ⟨x75,hi74,hs30⟩:=bvx hs30
      obtain ⟨x78,hi77,hs30⟩:=bvx hs30
      obtain ⟨pb80,ds81,hv82,hx83,hA84,hB85⟩:=TK hv0_1 -- ^
      obtain ⟨rfl,_⟩:=TD.1 hx83 -- ^
      obtain ⟨x87,hi86,hs30⟩:=bvx hs30
      obtain ⟨x90,hi89,hs30⟩:=bvx hs30
      obtain ⟨x93,hi92,hs30⟩:=bvx hs30
      obtain ⟨x95,hi97,hs30⟩:=bvx hs30
      refine Zcq (n:=79) (hd:=[_,_,_,_,_,_,_,_,_,_,_,_,_,_,_,_,_,_,_,_,_,_,_,_,_,_,_,_,_,_,_,_,_,_,_,_,_,_,_,_]) (tl:=[_]) Yy rfl rfl [38,39,40,41,42,43,44,45,46,47,48,49,50,51,52,53,54,55,56,57,58,59,60,61,62,63,64,65,66,67,68,69,70,71,72,73,74,75,76,77] (by decide) (fun w=>M St W w (raw pb1 (enc s29.1) :: its)) (fun j=>([fun v _=>v = (Value.slice (some ⟨pb1,0,none⟩) 16 16),fun v _=>v = (vI s4.2),fun v _=>v = (vI s29.2),fun v _=>v = (vI (wr (s4.2 + s29.2))),fun v _=>v = v0_1,fun v _=>v = (vI s29.2),fun v _=>v = (vB j9.1),fun v _=>v = (ptr pb35 0),fun v _=>v = (ptr pb35 (0 + (s29.2).toNat * 1024)),fun v _=>v = (ptr pb35 (0 + (s29.2).toNat * 1024 + ((0 : Int)).toNat * 256)),fun v _=>v = (ptr pb35 (0 + (s29.2).toNat * 1024 + ((0 : Int)).toNat * 256 + ((bI j9.1)).toNat * 1)),fun v _=>v = (vB x48),fun v _=>v = v0_1,fun v _=>v = (vI s29.2),fun v _=>v = (vB j9.2.1),fun v _=>v = (ptr pb50 0),fun v _=>v = (ptr pb50 (0 + (s29.2).toNat * 1024)),fun v _=>v = (ptr pb50 (0 + (s29.2).toNat * 1024 + ((1 : Int)).toNat * 256)),fun v _=>v = (ptr pb50 (0 + (s29.2).toNat * 1024 + ((1 : Int)).toNat * 256 + ((bI j9.2.1)).toNat * 1)),fun v _=>v = (vB x63),fun v _=>v = (vB (x48 ^^^ x63)),fun v _=>v = v0_1,fun v _=>v = (vI s29.2),fun v _=>v = (vB j9.2.2.1),fun v _=>v = (ptr pb65 0),fun v _=>v = (ptr pb65 (0 + (s29.2).toNat * 1024)),fun v _=>v = (ptr pb65 (0 + (s29.2).toNat * 1024 + ((2 : Int)).toNat * 256)),fun v _=>v = (ptr pb65 (0 + (s29.2).toNat * 1024 + ((2 : Int)).toNat * 256 + ((bI j9.2.2.1)).toNat * 1)),fun v _=>v = (vB x78),fun v _=>v = (vB ((x48 ^^^ x63) ^^^ x78)),fun v _=>v = v0_1,fun v _=>v = (vI s29.2),fun v _=>v = (vB j9.2.2.2),fun v _=>v = (ptr pb80 0),fun v _=>v = (ptr pb80 (0 + (s29.2).toNat * 1024)),fun v _=>v = (ptr pb80 (0 + (s29.2).toNat * 1024 + ((3 : Int)).toNat * 256)),fun v _=>v = (ptr pb80 (0 + (s29.2).toNat * 1024 + ((3 : Int)).toNat * 256 + ((bI j9.2.2.2)).toNat * 1)),fun v _=>v = (vB x93),fun v _=>v = (vB (((x48 ^^^ x63) ^^^ x78) ^^^ x93)),fun v _=>v = (ptr pb1 (0 + ((wr (s4.2 + s29.2))).toNat * 1))] : List (Value → World → Prop)).getD j (fun _ _=>True)) (fun _ _ h hk=>h.keep hk) (gup (Y3 (Y3 (Y3 (Y3 (Y3 (Y3 (Y3 (Y3 (Y3 (Y3 (Y3 (Y3 (Y3 (Y3 (Y3 (Y3 (Y3 (Y3 (Y3 (Y3 (Y3 (Y3 (Y3 (Y3 (Y3 (Y3 (Y3 (Y3 (Y3 (Y3 (Y3 (Y3 (Y3 (Y3 (Y3 (Y3 (Y3 (Y3 (Y3 (Y3 gupN))))))))))))))))))))))))))))))))))))))))) hE hM.drew (jf (Zy ?_ (Zy ?_ (Zy ?_ (Zy ?_ (Zy ?_ (Zy ?_ (Zy ?_ (Zy ?_ (Zy ?_ (Zy ?_ (Zy ?_ (Zy ?_ (Zy ?_ (Zy ?_ (Zy ?_ (Zy ?_ (Zy ?_ (Zy ?_ (Zy ?_ (Zy ?_ (Zy ?_ (Zy ?_ (Zy ?_ (Zy ?_ (Zy ?_ (Zy ?_ (Zy ?_ (Zy ?_ (Zy ?_ (Zy ?_ (Zy ?_ (Zy ?_ (Zy ?_ (Zy ?_ (Zy ?_ (Zy ?_ (Zy ?_ (Zy ?_ (Zy ?_ (Zy ?_ yA))))))))))))))))))))))))))))))))))))))))) ?_
      ·exact qm
      ·exact qm
      ·exact qm
      ·intro a w ux34 hE hM hp
       have f1 : ux34 1 = (vI s4.2):=hp 0 _ rfl rfl
       have f2 : ux34 2 = (vI s29.2):=hp 1 _ rfl rfl
       exact Zi hE (lk rfl f1) (lk rfl f2) rfl fun a hE=>kq rfl hE rfl
      ·exact qm
      ·exact qm
      ·exact qm
      ·intro a w ux34 hE hM hp
       have f4 : ux34 4 = v0_1:=hp 0 _ rfl rfl
       exact Wd hE Za ld (lk (lk rfl f4) hv37) fun a hE=>kq rfl hE rfl
      ·intro a w ux34 hE hM hp
       have f5 : ux34 5 = (vI s29.2):=hp 1 _ rfl rfl
       have f7 : ux34 7 = (ptr pb35 0):=hp 0 _ rfl rfl
       exact ZD hE (lk rfl f7) (lk rfl f5) Tryz.underlying265 AN hi41.1 fun a hE=>kq rfl hE rfl
      ·intro a w ux34 hE hM hp
       have f8 : ux34 8 = (ptr pb35 (0 + (s29.2).toNat * 1024)):=hp 0 _ rfl rfl
       exact ZD hE (lk rfl f8) rfl Tryz.underlying263 yu hi44.1 fun a hE=>kq rfl hE rfl
      ·intro a w ux34 hE hM hp
       have f6 : ux34 6 = (vB j9.1):=hp 1 _ rfl rfl
       have f9 : ux34 9 = (ptr pb35 (0 + (s29.2).toNat * 1024 + ((0 : Int)).toNat * 256)):=hp 0 _ rfl rfl
       exact ZD hE (lk rfl f9) (lk rfl f6) Tryz.underlying156 ty5 hi47.1 fun a hE=>kq rfl hE rfl
      ·intro a w ux34 hE hM hp
       have f10 : ux34 10 = (ptr pb35 (0 + (s29.2).toNat * 1024 + ((0 : Int)).toNat * 256 + ((bI j9.1)).toNat * 1)):=hp 0 _ rfl rfl
       exact Zw (v:=(vB x48)) hE (lk rfl f10) ty5 rfl (At.vec (At.vec (At.vec (hM.atk hA39 hB40) hi41.2) hi44.2) hi47.2) fun a hE=>kq rfl hE rfl
      ·exact qm
      ·exact qm
      ·exact qm
      ·intro a w ux34 hE hM hp
       have f12 : ux34 12 = v0_1:=hp 0 _ rfl rfl
       exact Wd hE Za ld (lk (lk rfl f12) hv52) fun a hE=>kq rfl hE rfl
      ·intro a w ux34 hE hM hp
       have f13 : ux34 13 = (vI s29.2):=hp 1 _ rfl rfl
       have f15 : ux34 15 = (ptr pb50 0):=hp 0 _ rfl rfl
       exact ZD hE (lk rfl f15) (lk rfl f13) Tryz.underlying265 AN hi56.1 fun a hE=>kq rfl hE rfl
      ·intro a w ux34 hE hM hp
       have f16 : ux34 16 = (ptr pb50 (0 + (s29.2).toNat * 1024)):=hp 0 _ rfl rfl
       exact ZD hE (lk rfl f16) rfl Tryz.underlying263 yu hi59.1 fun a hE=>kq rfl hE rfl
      ·intro a w ux34 hE hM hp
       have f14 : ux34 14 = (vB j9.2.1):=hp 1 _ rfl rfl
       have f17 : ux34 17 = (ptr pb50 (0 + (s29.2).toNat * 1024 + ((1 : Int)).toNat * 256)):=hp 0 _ rfl rfl
       exact ZD hE (lk rfl f17) (lk rfl f14) Tryz.underlying156 ty5 hi62.1 fun a hE=>kq rfl hE rfl
      ·intro a w ux34 hE hM hp
       have f18 : ux34 18 = (ptr pb50 (0 + (s29.2).toNat * 1024 + ((1 : Int)).toNat * 256 + ((bI j9.2.1)).toNat * 1)):=hp 0 _ rfl rfl
       exact Zw (v:=(vB x63)) hE (lk rfl f18) ty5 rfl (At.vec (At.vec (At.vec (hM.atk hA54 hB55) hi56.2) hi59.2) hi62.2) fun a hE=>kq rfl hE rfl
      ·intro a w ux34 hE hM hp
       have f11 : ux34 11 = (vB x48):=hp 0 _ rfl rfl
       have f19 : ux34 19 = (vB x63):=hp 1 _ rfl rfl
       exact Zi hE (lk rfl f11) (lk rfl f19) (Vw x48 x63) fun a hE=>kq rfl hE rfl
      ·exact qm
      ·exact qm
      ·exact qm
      ·intro a w ux34 hE hM hp
       have f21 : ux34 21 = v0_1:=hp 0 _ rfl rfl
       exact Wd hE Za ld (lk (lk rfl f21) hv67) fun a hE=>kq rfl hE rfl
      ·intro a w ux34 hE hM hp
       have f22 : ux34 22 = (vI s29.2):=hp 1 _ rfl rfl
       have f24 : ux34 24 = (ptr pb65 0):=hp 0 _ rfl rfl
       exact ZD hE (lk rfl f24) (lk rfl f22) Tryz.underlying265 AN hi71.1 fun a hE=>kq rfl hE rfl
      ·intro a w ux34 hE hM hp
       have f25 : ux34 25 = (ptr pb65 (0 + (s29.2).toNat * 1024)):=hp 0 _ rfl rfl
       exact ZD hE (lk rfl f25) rfl Tryz.underlying263 yu hi74.1 fun a hE=>kq rfl hE rfl
      ·intro a w ux34 hE hM hp
       have f23 : ux34 23 = (vB j9.2.2.1):=hp 1 _ rfl rfl
       have f26 : ux34 26 = (ptr pb65 (0 + (s29.2).toNat * 1024 + ((2 : Int)).toNat * 256)):=hp 0 _ rfl rfl
       exact ZD hE (lk rfl f26) (lk rfl f23) Tryz.underlying156 ty5 hi77.1 fun a hE=>kq rfl hE rfl
      ·intro a w ux34 hE hM hp
       have f27 : ux34 27 = (ptr pb65 (0 + (s29.2).toNat * 1024 + ((2 : Int)).toNat * 256 + ((bI j9.2.2.1)).toNat * 1)):=hp 0 _ rfl rfl
       exact Zw (v:=(vB x78)) hE (lk rfl f27) ty5 rfl (At.vec (At.vec (At.vec (hM.atk hA69 hB70) hi71.2) hi74.2) hi77.2) fun a hE=>kq rfl hE rfl
      ·intro a w ux34 hE hM hp
       have f20 : ux34 20 = (vB (x48 ^^^ x63)):=hp 0 _ rfl rfl
       have f28 : ux34 28 = (vB x78):=hp 1 _ rfl rfl
       exact Zi hE (lk rfl f20) (lk rfl f28) (Vw (x48 ^^^ x63) x78) fun a hE=>kq rfl hE rfl
      ·exact qm
      ·exact qm
      ·exact qm
      ·intro a w ux34 hE hM hp
       have f30 : ux34 30 = v0_1:=hp 0 _ rfl rfl
       exact Wd hE Za ld (lk (lk rfl f30) hv82) fun a hE=>kq rfl hE rfl
      ·intro a w ux34 hE hM hp
       have f31 : ux34 31 = (vI s29.2):=hp 1 _ rfl rfl
       have f33 : ux34 33 = (ptr pb80 0):=hp 0 _ rfl rfl
       exact ZD hE (lk rfl f33) (lk rfl f31) Tryz.underlying265 AN hi86.1 fun a hE=>kq rfl hE rfl
      ·intro a w ux34 hE hM hp
       have f34 : ux34 34 = (ptr pb80 (0 + (s29.2).toNat * 1024)):=hp 0 _ rfl rfl
       exact ZD hE (lk rfl f34) rfl Tryz.underlying263 yu hi89.1 fun a hE=>kq rfl hE rfl
      ·intro a w ux34 hE hM hp
       have f32 : ux34 32 = (vB j9.2.2.2):=hp 1 _ rfl rfl
       have f35 : ux34 35 = (ptr pb80 (0 + (s29.2).toNat * 1024 + ((3 : Int)).toNat * 256)):=hp 0 _ rfl rfl
       exact ZD hE (lk rfl f35) (lk rfl f32) Tryz.underlying156 ty5 hi92.1 fun a hE=>kq rfl hE rfl
      ·intro a w ux34 hE hM hp
       have f36 : ux34 36 = (ptr pb80 (0 + (s29.2).toNat * 1024 + ((3 : Int)).toNat * 256 + ((bI j9.2.2.2)).toNat * 1)):=hp 0 _ rfl rfl
       exact Zw (v:=(vB x93)) hE (lk rfl f36) ty5 rfl (At.vec (At.vec (At.vec (hM.atk hA84 hB85) hi86.2) hi89.2) hi92.2) fun a hE=>kq rfl hE rfl
      ·intro a w ux34 hE hM hp
       have f29 : ux34 29 = (vB ((x48 ^^^ x63) ^^^ x78)):=hp 0 _ rfl rfl
       have f37 : ux34 37 = (vB x93):=hp 1 _ rfl rfl
       exact Zi hE (lk rfl f29) (lk rfl f37) (Vw ((x48 ^^^ x63) ^^^ x78) x93) fun a hE=>kq rfl hE rfl
      ·intro a w ux34 hE hM hp
       have f0 : ux34 0 = (Value.slice (some ⟨pb1,0,none⟩) 16 16):=hp 0 _ rfl rfl
       have f3 : ux34 3 = (vI (wr (s4.2 + s29.2))):=hp 1 _ rfl rfl
       exact Qx hE Za ld (lk rfl f0) (lk rfl f3) Tryz.underlying40 ty5 hi97.1 fun a hE=>kq rfl hE rfl
      ·intro a w ux34 hE hM hg
       have hE:=hE.sub (e':=[(76,(vB (((x48 ^^^ x63) ^^^ x78) ^^^ x93))),(77,(ptr pb1 (0 + ((wr (s4.2 + s29.2))).toNat * 1))),(0,v0_1),(1,(Value.slice (some ⟨pb1,0,none⟩) 16 16)),(4,vI s4.2),(5,vB j9.1),(6,vB j9.2.1),(7,vB j9.2.2.1),(8,vB j9.2.2.2),(9,vI s29.2),(35,vI s29.2),(36,(vT (decide (s29.2 < 4)))),(37,vI s29.2)]) ⟨lk rfl (hg 38 (by decide)),lk rfl (hg 39 (by decide)),rfl,rfl,rfl,rfl,rfl,rfl,rfl,rfl,rfl,rfl,rfl,trivial⟩
       refine Zn (seg:=[(vB (((x48 ^^^ x63) ^^^ x78) ^^^ x93))]) (cs':=enc (s29.1.setIfInBounds ((wr (s4.2 + s29.2))).toNat (((x48 ^^^ x63) ^^^ x78) ^^^ x93))) hE hM Za rfl rfl rfl ty5 rfl (ZM (v:=s29.1) (x:=((x48 ^^^ x63) ^^^ x78) ^^^ x93) hi97.1) (Flat.cell (((x48 ^^^ x63) ^^^ x78) ^^^ x93 : UInt8)) (ZE (v:=s29.1) (x:=((x48 ^^^ x63) ^^^ x78) ^^^ x93) hi97.1) fun w a hM hE=>Zf (Z4 (Zu (wp_region_lit (Zi hE rfl rfl rfl fun a hE=>Zd hE rfl fun a hE=>Zf (Zh ?_)))))
       exact ⟨_,(ois hs30),hE.sub ⟨rfl,rfl,rfl,rfl,rfl,rfl,rfl,rfl,trivial⟩,hM⟩
     ·intro hb33
      have hs30:=Zt hs30 hb33
      refine wp_exit (Zl (Zl (Z5 ?_)))
      obtain rfl:=hx31 _ (ois hs30)
      refine Zh ?_
      exact ⟨hE.sub ⟨rfl,rfl,rfl,trivial⟩,hM⟩
    ·skip
     rintro a w ⟨hE,hM⟩
     refine Z4 (Zu (wp_region_lit (Zd hE rfl fun a hE=>Zi hE rfl rfl rfl fun a hE=>Zc hE rfl fun a hE=>Zf (Zh ?_))))
     exact ⟨_,(ois hF28),hE.sub ⟨rfl,rfl,rfl,trivial⟩,hM⟩
  ·intro hb8
   have hs5:=Zt hs5 hb8
   refine wp_exit (Zl (Zl (Z5 ?_)))
   obtain rfl:=hx6 _ (ois hs5)
   refine Zh ?_
   exact ⟨hE.sub ⟨rfl,trivial⟩,hM⟩
 ·skip
  rintro a w ⟨hE,hM⟩
  obtain rfl:=Option.some.inj hF3
  exact Zdr hE (by rfl) ⟨_,rfl,rfl,hM⟩
def Yi (p0 : (Ref Gengine)) (s18 : (Vector UInt8 16) × Int) (s29 : (Vector UInt8 16) × Int) : Option (Fl ((Vector UInt8 16) × Int) (Vector UInt8 16)) :=
 if (decide (s29.2 < 16)) = true then ((ZH s18.1 s29.2).bind fun x34=>(ZH p0.v.box (bI x34)).bind fun x48=>(ZH s29.1 s29.2).bind fun x51=>some (Fl.nx ((s29.1.setIfInBounds (s29.2).toNat x48),wr (s29.2 + 1)))) else (some (Fl.ex s29.1))
def Yk (p0 : (Ref Gengine)) (p1 : (List (Vector UInt8 16))) (s18 : (Vector UInt8 16) × Int) : Option (Fl ((Vector UInt8 16) × Int) (Vector UInt8 16)) :=
 if (decide (s18.2 < (p1.length : Int))) = true then (((ZB (Yi p0 s18) (s18.1,0)).bind fun j26=>((WH p0.v.places j26).bind fun r68=>some r68 : Option ((Vector UInt8 16))).bind fun j54=>(if (decide (s18.2 < (wr ((p1.length : Int) - 1)))) = true then ((slc j54.toList (0 : Int) (16 : Int)).bind fun l86=>(VN p0.v.mixer j54).bind fun r89=>some r89) else (some j54) : Option ((Vector UInt8 16))).bind fun j71=>(idx p1 s18.2).bind fun x94=>(Yo j71 x94).bind fun r97=>some r97 : Option ((Vector UInt8 16))).bind fun j23=>some (Fl.nx (j23,wr (s18.2 + 1)))) else (some (Fl.ex s18.1))
def YH (p0 : (Ref Gengine)) (p1 : (List (Vector UInt8 16))) (p2 : (Vector UInt8 16)) : Option ((Vector UInt8 16)) :=
 ((idx p1 (0 : Int)).bind fun x9=>(Yo p2 x9).bind fun r12=>some r12 : Option ((Vector UInt8 16))).bind fun j5=>(ZB (Yk p0 p1) (j5,1)).bind fun j15=>some j15
theorem Q2 (w0 : World) (p0 : (Ref Gengine)) (v0_1 : Value) (hv0_1 : Ro w0 p0 [v0_1]) (p1 : (List (Vector UInt8 16))) (v1_1 : Value) (hv1_1 : Ro w0 p1 [v1_1]) (p2 : (Vector UInt8 16)) (r : (Vector UInt8 16)) (hF : YH p0 p1 p2 = some r) :
  Calls Tryz.prog 217 [v0_1,v1_1,(Value.agg (enc p2).toArray)].toArray w0 (Rt w0 (Value.agg (enc r).toArray)):=by
 refine ce Tryz.func217 ?_
 intro a hE
 have hM:=M.start w0
 unfold YH at hF
 refine Zb (ZT (cs:=enc p2) hE hM Za ld rfl rfl fun b1 w a hM hE=>Zz hE hM ZF fun b3 w a hM hE=>Ze ?_)
 obtain ⟨j5,hl6,hF7⟩:=bind_some hF
 refine ZI (fun a w=>Env 59 a [(0,v0_1),(1,v1_1),(5,(ptr b1 0)),(6,(ptr b3 0))] ∧ M (Old w0) w0 w [raw b3 (enc (Vector.replicate 16 (0 : UInt8))),raw b1 (enc j5)]) ?_ ?_
 ·skip
  obtain ⟨x9,hi11,hl6⟩:=bix hl6
  obtain ⟨r12,e13,hl6⟩:=bind_some hl6
  refine ZX [10,11,12,13,14] Yy rfl rfl (by decide) rfl hE hM (qsP (fun z=>Z1 z.E Za ld rfl ZF rfl (z.M.rawAt1) (Flat.len _) (kr0 rfl)) (qsP (fun z=>Zp z.E Za ld rfl (kr0 rfl)) (qsP (fun z=>Yl z.E Za ld rfl rfl Tryz.underlying54 ZF (z.M.rd hv1_1) hi11.1 (kr0 rfl)) (qsP (fun z=>Z1 z.E Za ld rfl ZF rfl (Yp (z.M.rd hv1_1) hi11.2) (Flat.len _) (kr0 rfl)) (qsP (fun z=>ZV z.E Za ld rfl z6 (WA _ p2 x9 r12 e13) (kc rfl)) qs0))))) ?_
  ·intro a w u hE hM
   have hM:=hM.pull1
   refine Zn (seg:=enc r12) (cs':=enc r12) hE hM Za rfl rfl rfl ZF (Flat.len _) (zle flq) (Flat.cell _) (Zk flq) fun w a hM hE=>Zf ?_
   obtain rfl:=Option.some.inj hl6
   refine Zh ?_
   have hM:=hM.pull1
   exact ⟨hE.sub ⟨rfl,rfl,rfl,rfl,trivial⟩,hM⟩
 ·skip
  rintro a w ⟨hE,hM⟩
  refine wp_seq (Zb (Zc hE rfl fun a hE=>Ze ?_))
  obtain ⟨j15,hl16,hF17⟩:=bind_some hF7
  refine ZJ (fun a w=>Env 59 a [(5,(ptr b1 0)),(6,(ptr b3 0))] ∧ M (Old w0) w0 w [raw b3 (enc (Vector.replicate 16 (0 : UInt8))),raw b1 (enc j15)]) ?_ ?_
  ·skip
   refine wp_block ?_
   refine ZC (fun (s18 : (Vector UInt8 16) × Int) a w=>Env 59 a [(0,v0_1),(1,v1_1),(5,(ptr b1 0)),(6,(ptr b3 0)),(7,vI s18.2)] ∧ M (Old w0) w0 w [raw b3 (enc (Vector.replicate 16 (0 : UInt8))),raw b1 (enc s18.1)]) hl16 ⟨hE.sub ⟨rfl,rfl,rfl,rfl,rfl,trivial⟩,hM⟩ ?_
   rintro s18 a w ⟨hE,hM⟩ o21 hs19 hx20
   unfold Yk at hs19
   refine wp_seq (Zb (Zd hE rfl fun a hE=>Zd hE rfl fun a hE=>Z2 hE rfl Tryz.underlying54 (hM.rd hv1_1) fun a hE=>Zi hE rfl rfl rfl fun a hE=>Ze ?_))
   refine Zo hE rfl ?_ ?_
   ·intro hb22
    have hs19:=Zs hs19 hb22
    refine wp_skip (Zu ?_)
    obtain ⟨j23,hl24,hF25⟩:=bind_some hs19
    refine ZI (fun a w=>Env 59 a [(0,v0_1),(1,v1_1),(5,(ptr b1 0)),(6,(ptr b3 0)),(7,vI s18.2)] ∧ M (Old w0) w0 w [raw b3 (enc (Vector.replicate 16 (0 : UInt8))),raw b1 (enc j23)]) ?_ ?_
    ·skip
     refine wp_block (wp_seq (Zb (Zr hE rfl ZF rfl hM.rawAt1 (Flat.len _) fun a hE=>Zd hE rfl fun a hE=>Ze ?_)))
     obtain ⟨j26,hl27,hF28⟩:=bind_some hl24
     refine ZJ (fun a w=>Env 59 a [(0,v0_1),(1,v1_1),(5,(ptr b1 0)),(6,(ptr b3 0)),(7,vI s18.2)] ∧ M (Old w0) w0 w [raw b3 (enc (Vector.replicate 16 (0 : UInt8))),raw b1 (enc j26)]) ?_ ?_
     ·skip
      refine wp_block ?_
      refine ZC (fun (s29 : (Vector UInt8 16) × Int) a w=>Env 59 a [(0,v0_1),(1,v1_1),(5,(ptr b1 0)),(6,(ptr b3 0)),(7,vI s18.2),(21,(Value.agg (enc s18.1).toArray)),(22,vI s29.2)] ∧ M (Old w0) w0 w [raw b3 (enc (Vector.replicate 16 (0 : UInt8))),raw b1 (enc s29.1)]) hl27 ⟨hE.sub ⟨rfl,rfl,rfl,rfl,rfl,rfl,rfl,trivial⟩,hM⟩ ?_
      rintro s29 a w ⟨hE,hM⟩ o32 hs30 hx31
      unfold Yi at hs30
      refine Zb (Zi hE rfl rfl rfl fun a hE=>Ze (wp_seq ?_))
      refine Zo hE rfl ?_ ?_
      ·intro hb33
       have hs30:=Zs hs30 hb33
       refine wp_skip (Zu (wp_seq (wp_block (Zb (Zd hE rfl ?_))))); intro a hE
       obtain ⟨x34,hi36,hs30⟩:=bvx hs30
       refine KS hE Za ld rfl rfl Tryz.underlying68 ty5 rfl rfl hi36 rfl fun a hE=>Zc hE rfl fun a hE=>Zc hE rfl fun a hE=>Ze (wp_region_lit (Zd hE rfl fun a hE=>Zd hE rfl fun a hE=>Zd hE rfl ?_)); intro a hE
       obtain ⟨pb37,ds38,hv39,hx40,hA41,hB42⟩:=TK hv0_1 -- ^
       obtain ⟨u43,u45,rfl,h44,h46⟩:=Qi hx40 -- ^
       refine Wd hE Za ld (lk rfl hv39) fun a hE=>Zg hE rfl (yB) ?_; intro a hE
       obtain ⟨x48,hi47,hs30⟩:=bvx hs30
       refine ZD hE rfl rfl Tryz.underlying157 ty5 hi47.1 fun a hE=>Zw (v:=(vB x48)) hE rfl ty5 rfl (At.vec (At.cat (pre:=[]) (hM.atk hA41 hB42) cl0) hi47.2) ?_; intro a hE
       obtain ⟨x51,hi50,hs30⟩:=bvx hs30
       refine ZD hE rfl rfl Tryz.underlying68 ty5 hi50.1 ?_; intro a hE
       have hM:=hM.pull1
       refine Zn (seg:=[vB x48]) (cs':=enc (s29.1.setIfInBounds (s29.2).toNat x48)) hE hM Za rfl rfl rfl ty5 rfl (ZM (v:=s29.1) (x:=x48) hi50.1) (Flat.cell (x48 : UInt8)) (ZE (v:=s29.1) (x:=x48) hi50.1) fun w a hM hE=>Zf (Z4 (Zu (wp_region_lit (Zi hE rfl rfl rfl fun a hE=>Zd hE rfl fun a hE=>Zf (Zh ?_)))))
       have hM:=hM.pull1
       exact ⟨_,(ois hs30),hE.sub ⟨rfl,rfl,rfl,rfl,rfl,rfl,rfl,trivial⟩,hM⟩
      ·intro hb33
       have hs30:=Zt hs30 hb33
       refine wp_exit (Zl (Zl (Z5 ?_)))
       obtain rfl:=hx31 _ (ois hs30)
       refine Zh ?_
       exact ⟨hE.sub ⟨rfl,rfl,rfl,rfl,rfl,trivial⟩,hM⟩
     ·skip
      rintro a w ⟨hE,hM⟩
      refine Zu ?_
      obtain ⟨j54,hl55,hF56⟩:=bind_some hF28
      refine ZI (fun a w=>Env 59 a [(0,v0_1),(1,v1_1),(5,(ptr b1 0)),(6,(ptr b3 0)),(7,vI s18.2)] ∧ M (Old w0) w0 w [raw b3 (enc (Vector.replicate 16 (0 : UInt8))),raw b1 (enc j54)]) ?_ ?_
      ·skip
       obtain ⟨pb58,ds59,hv60,hx61,hA62,hB63⟩:=TK hv0_1 -- ^
       obtain ⟨u64,u66,rfl,h65,h67⟩:=Qi hx61 -- ^
       obtain ⟨r68,e69,hl55⟩:=bind_some hl55
       refine ZX [35,36,37,38,39,40] Yy rfl rfl (by decide) rfl hE hM (qsP (fun z=>Zp z.E Za ld rfl (kr0 rfl)) (qsP (fun z=>Wd z.E Za ld (lk rfl hv60) (kr0 rfl)) (qsP (fun z=>Zq z.E Za ld rfl (Zd7) (kr0 rfl)) (qsP (fun z=>Z1 z.E Za ld rfl QG rfl (At.cat (pre:=[enc p0.v.box,enc p0.v.backBox]) (z.M.atk hA62 hB63) ck) (Flat.len _) (kr0 rfl)) (qsP (fun z=>Z1 z.E Za ld rfl ZF rfl (z.M.rawAt1) (Flat.len _) (kr0 rfl)) (qsP (fun z=>ZV z.E Za ld rfl (cbm Tryz.func235) (JW _ p0.v.places j26 r68 e69) (kc rfl)) qs0)))))) ?_
       ·intro a w u hE hM
        have hM:=hM.pull1
        refine Zn (seg:=enc r68) (cs':=enc r68) hE hM Za rfl rfl rfl ZF (Flat.len _) (zle flq) (Flat.cell _) (Zk flq) fun w a hM hE=>Zf ?_
        obtain rfl:=Option.some.inj hl55
        refine Zh ?_
        have hM:=hM.pull1
        exact ⟨hE.sub ⟨rfl,rfl,rfl,rfl,rfl,trivial⟩,hM⟩
      ·skip
       rintro a w ⟨hE,hM⟩
       obtain ⟨j71,hl72,hF73⟩:=bind_some hF56
       refine ZI (fun a w=>Env 59 a [(0,v0_1),(1,v1_1),(5,(ptr b1 0)),(6,(ptr b3 0)),(7,vI s18.2)] ∧ M (Old w0) w0 w [raw b3 (enc (Vector.replicate 16 (0 : UInt8))),raw b1 (enc j71)]) ?_ ?_
       ·skip
        refine Zb (Zd hE rfl fun a hE=>Zd hE rfl fun a hE=>Z2 hE rfl Tryz.underlying54 (hM.rd hv1_1) fun a hE=>Zi hE rfl rfl rfl fun a hE=>Zi hE rfl rfl rfl fun a hE=>Ze ?_)
        refine Zo hE rfl ?_ ?_
        ·intro hb74
         have hl72:=Zs hl72 hb74
         obtain ⟨pb76,ds77,hv78,hx79,hA80,hB81⟩:=TK hv0_1 -- ^
         obtain ⟨u82,u84,rfl,h83,h85⟩:=Qi hx79 -- ^
         obtain ⟨l86,e87,hl72⟩:=bind_some hl72
         have hb88:=Qt e87 -- ^
         refine ZX [46,47,48,49,50] Yy rfl rfl (by decide) rfl hE hM (qsP (fun z=>Zp z.E Za ld rfl (kr0 rfl)) (qsP (fun z=>Wd z.E Za ld (lk rfl hv78) (kr0 rfl)) (qsP (fun z=>Zq z.E Za ld rfl (Zd8) (kr0 rfl)) (qsP (fun z=>ZK (v:=u82) z.E Za ld rfl Zbr rfl (At.cat (pre:=[enc p0.v.box,enc p0.v.backBox,enc p0.v.places,enc p0.v.backPlaces]) (z.M.atk hA80 hB81) ck) (kr0 rfl)) (qsP (fun z=>Vz (N:=16) z.E Za ld rfl rfl rfl rfl rfl Tryz.underlying68 ty5 hb88 (kr0 rfl)) qs0))))) ?_
         ·intro a w u hE hM
          have hM:=hM.pull1
          obtain ⟨r89,e90,hl72⟩:=bind_some hl72
          refine Zx hE rfl (cbm Tryz.func236) (Br _ _ _ _ p0.v.mixer u82 h83 b1 j54 hM r89 e90) ?_
          rintro v w a ⟨rfl,hM⟩ hE
          refine Zf ?_
          obtain rfl:=Option.some.inj hl72
          refine Zh ?_
          have hM:=hM.pull1
          exact ⟨hE.sub ⟨rfl,rfl,rfl,rfl,rfl,trivial⟩,hM⟩
        ·intro hb74
         have hl72:=Zt hl72 hb74
         refine wp_skip ?_
         obtain rfl:=Option.some.inj hl72
         refine Zh ?_
         exact ⟨hE.sub ⟨rfl,rfl,rfl,rfl,rfl,trivial⟩,hM⟩
       ·skip
        rintro a w ⟨hE,hM⟩
        obtain ⟨x94,hi96,hF73⟩:=bix hF73
        obtain ⟨r97,e98,hF73⟩:=bind_some hF73
        refine ZX [52,53,54,55,56,57] Yy rfl rfl (by decide) rfl hE hM (qsP (fun z=>Z1 z.E Za ld rfl ZF rfl (z.M.rawAt1) (Flat.len _) (kr0 rfl)) (qsP (fun z=>Zp z.E Za ld rfl (kr0 rfl)) (qsP (fun z=>Zp z.E Za ld rfl (kr0 rfl)) (qsP (fun z=>Yl z.E Za ld rfl rfl Tryz.underlying54 ZF (z.M.rd hv1_1) hi96.1 (kr0 rfl)) (qsP (fun z=>Z1 z.E Za ld rfl ZF rfl (Yp (z.M.rd hv1_1) hi96.2) (Flat.len _) (kr0 rfl)) (qsP (fun z=>ZV z.E Za ld rfl z6 (WA _ j71 x94 r97 e98) (kc rfl)) qs0)))))) ?_
        ·intro a w u hE hM
         have hM:=hM.pull1
         refine Zn (seg:=enc r97) (cs':=enc r97) hE hM Za rfl rfl rfl ZF (Flat.len _) (zle flq) (Flat.cell _) (Zk flq) fun w a hM hE=>Zf (Z4 ?_)
         obtain rfl:=Option.some.inj hF73
         refine Zh ?_
         have hM:=hM.pull1
         exact ⟨hE.sub ⟨rfl,rfl,rfl,rfl,rfl,trivial⟩,hM⟩
    ·skip
     rintro a w ⟨hE,hM⟩
     refine wp_region_lit (Zd hE rfl fun a hE=>Zi hE rfl rfl rfl fun a hE=>Zc hE rfl fun a hE=>Zf (Zh ?_))
     exact ⟨_,(ois hF25),hE.sub ⟨rfl,rfl,rfl,rfl,rfl,trivial⟩,hM⟩
   ·intro hb22
    have hs19:=Zt hs19 hb22
    refine wp_exit (Zl (Zl (Z5 ?_)))
    obtain rfl:=hx20 _ (ois hs19)
    refine Zh ?_
    exact ⟨hE.sub ⟨rfl,rfl,trivial⟩,hM⟩
  ·skip
   rintro a w ⟨hE,hM⟩
   refine Zu (Zb (Zr hE rfl ZF rfl hM.rawAt1 (Flat.len _) fun a hE=>Zn (seg:=enc j15) (cs':=enc j15) hE hM Za rfl rfl rfl ZF (Flat.len _) (zle flq) (Flat.cell _) (Zk flq) fun w a hM hE=>Ze ?_))
   obtain rfl:=Option.some.inj hF17
   have hq101 : Yt Tryz.prog _ _ (.cell 6 68) _:=ZQ hE rfl ZF rfl hM.rawAt0 (Flat.len _) rfl
   exact wp_ret (ZN hE rfl hq101 ⟨_,rfl,rfl,hM.kept⟩)
def Ys (p0 : (Ref Gengine)) (p1 : (Vector UInt8 16)) (p2 : (Vector UInt8 16)) : Option ((Vector UInt8 16)) :=
 ((WP p0 p1 p0.v.rounds).bind fun r21=>(YH p0 r21 p2).bind fun r24=>some r24 : Option ((Vector UInt8 16))).bind fun j7=>some j7
theorem Qe (w0 : World) (p0 : (Ref Gengine)) (v0_1 : Value) (hv0_1 : Ro w0 p0 [v0_1]) (p1 : (Vector UInt8 16)) (p2 : (Vector UInt8 16)) (r : (Vector UInt8 16)) (hF : Ys p0 p1 p2 = some r) :
  Calls Tryz.prog 183 [v0_1,(Value.agg (enc p1).toArray),(Value.agg (enc p2).toArray)].toArray w0 (Rt w0 (Value.agg (enc r).toArray)):=by
 refine ce Tryz.func183 ?_
 intro a hE
 have hM:=M.start w0
 unfold Ys at hF
 refine Zb (ZT (cs:=enc p1) hE hM Za ld rfl rfl fun b1 w a hM hE=>ZT (cs:=enc p2) hE hM Za ld rfl rfl fun b3 w a hM hE=>Zz hE hM ZF fun b5 w a hM hE=>Ze ?_)
 obtain ⟨j7,hl8,hF9⟩:=bind_some hF
 refine ZI (fun a w=>Env 17 a [(6,(ptr b5 0))] ∧ M (Old w0) w0 w [raw b5 (enc j7)]) ?_ ?_
 ·skip
  obtain ⟨pb11,ds12,hv13,hx14,hA15,hB16⟩:=TK hv0_1 -- ^
  obtain ⟨u17,u19,rfl,h18,h20⟩:=Qi hx14 -- ^
  obtain ⟨r21,e22,hl8⟩:=bind_some hl8
  refine Xs (its:=[raw b5 (enc (Vector.replicate 16 (0 : UInt8))),raw b3 (enc p2),raw b1 (enc p1)]) (mk:=([mkO 7 (fun v=>osl NoB (r21 : List (Vector UInt8 16)) v)] : Mk)) [7,8,9,10,11,12,13,14,15] Yy rfl rfl (by decide) rfl hE (fun u=>M.qE (M.q0 hM.drew u) emO) (qsP (fun z=>Zp z.E Za ld rfl (kr0 rfl)) (qsP (fun z=>Zp z.E Za ld rfl (kr0 rfl)) (qsP (v:=(Value.agg (enc p1).toArray)) ?_ (qsP (fun z=>Zp z.E Za ld rfl (kr0 rfl)) (qsP (fun z=>Wd z.E Za ld (lk rfl hv13) (kr0 rfl)) (qsP (fun z=>Zq z.E Za ld rfl (Zc8) (kr0 rfl)) (qsP (v:=(vI p0.v.rounds)) ?_ (qsM (pr:=fun v=>True) ?_ (qsP (v:=(Value.agg (enc p2).toArray)) ?_ qs0))))))))) ?_
  ·intro a w ux10 D z
   have hE:=z.E
   have hM:=z.M
   exact Zr hE rfl ZF rfl hM.rawAt2 (Flat.len _) fun a hE=>⟨Kept.refl _ _,_,rfl,hE⟩
  ·intro a w ux10 D z
   have hE:=z.E
   have hM:=z.M
   exact Zw (v:=(vI p0.v.rounds)) hE rfl ty2 rfl (At.cat (pre:=[enc p0.v.box,enc p0.v.backBox,enc p0.v.places,enc p0.v.backPlaces,[u17],[u19]]) (hM.atk hA15 hB16) ck) fun a hE=>⟨Kept.refl _ _,_,rfl,hE⟩
  ·intro a w ux10 D z
   have hE:=z.E
   have hD : D 7 = false:=z.F
   have hM0:=z.M
   have hM:=z.M
   refine Zx hE rfl (cbm Tryz.func218) (JT _ p0 v0_1 (hM.rdo hv0_1) p1 p0.v.rounds r21 e22) ?_
   rintro _ w a ⟨_,rfl,hFr,hK⟩ hE
   have hM:=hM0.add hK hFr
   exact ⟨_,_,rfl,hE,M.qFill (mk1:=[]) (mk2:=[]) (f:=(fun v=>osl NoB (r21 : List (Vector UInt8 16)) v)) hM rfl hD,trivial⟩
  ·intro a w ux10 D z
   have hE:=z.E
   have hM:=z.M
   exact Zr hE rfl ZF rfl hM.rawAt1 (Flat.len _) fun a hE=>⟨Kept.refl _ _,_,rfl,hE⟩
  ·intro a w ux10 D hE hM hG hall
   have d7:=hall 7 (by decide)
   have hM:=hM.sure (pre:=[_,_,_]) d7
   obtain ⟨r24,e25,hl8⟩:=bind_some hl8
   refine Zx hE rfl (cbm Tryz.func217) (Q2 _ p0 v0_1 (hM.rdo hv0_1) r21 (ux10 7) (hM.sl (pre:=[_,_,_]) noB) p2 r24 e25) ?_
   rintro v w a ⟨rfl,hK⟩ hE
   have hM:=hM.keep hK
   refine Zn (seg:=enc r24) (cs':=enc r24) hE hM Za rfl rfl rfl ZF (Flat.len _) (zle flq) (Flat.cell _) (Zk flq) fun w a hM hE=>Zf ?_
   obtain rfl:=Option.some.inj hl8
   refine Zh ?_
   have hM:=M.fst (l:=[_]) hM
   exact ⟨hE.sub ⟨rfl,trivial⟩,hM⟩
 ·skip
  rintro a w ⟨hE,hM⟩
  obtain rfl:=Option.some.inj hF9
  have hq27 : Yt Tryz.prog _ _ (.cell 6 68) _:=ZQ hE rfl ZF rfl hM.rawAt0 (Flat.len _) rfl
  exact wp_ret (ZN hE rfl hq27 ⟨_,rfl,rfl,hM.kept⟩)
def Y6 (p0 : (Ref Gengine)) (p1 : (Vector UInt8 32)) (p2 : (Vector UInt8 16)) : Option ((Vector UInt8 32)) :=
 (slc p1.toList (0 : Int) (16 : Int)).bind fun l8=>(Qf 16 l8).bind fun x11=>(slc p1.toList (16 : Int) (32 : Int)).bind fun l13=>(Qf 16 l13).bind fun x16=>(Yo x11 p2).bind fun r26=>((Ys p0 x16 r26).bind fun r34=>(Yo r34 r26).bind fun r36=>some r36 : Option ((Vector UInt8 16))).bind fun j30=>(Yo x16 p2).bind fun r39=>((Ys p0 j30 r39).bind fun r47=>(Yo r47 r39).bind fun r49=>some r49 : Option ((Vector UInt8 16))).bind fun j43=>((slc j30.toList (0 : Int) (16 : Int)).bind fun l56=>(slc j43.toList (0 : Int) (16 : Int)).bind fun l59=>(Z3 ([l56,l59] : (List (List UInt8)))).bind fun r64=>(Qf 32 r64).bind fun x67=>some x67 : Option ((Vector UInt8 32))).bind fun j52=>some j52
end

end Go.Proofs.YtpibglnacohdkaaGreat
