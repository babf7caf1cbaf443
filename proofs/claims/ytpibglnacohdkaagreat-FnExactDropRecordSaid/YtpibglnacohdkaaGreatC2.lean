/- The walk of what the law reaches: contracts of functions. -/
import Derived.Test.YtpibglnacohdkaaGreatC1
set_option linter.unusedVariables false
set_option linter.unusedSimpArgs false
set_option maxRecDepth 20000
set_option maxHeartbeats 400000
namespace Go.Proofs.YtpibglnacohdkaaGreat
open Go
open Flat (enc)
noncomputable section
theorem He (w0 : World) (p0 : GVault) (v0_1 : Value) (hv0_1 : Ro w0 p0.Keys [v0_1]) (v0_2 : Value) (hv0_2 : Ro w0 p0.Records [v0_2]) (v0_3 : Value) (hv0_3 : Ro w0 p0.Events [v0_3]) (p1 : Int) (r : GVault × Int) (hF : Vi p0 p1 = some r) :
  Calls Tryz.prog 24 [(Value.agg (cat [[v0_1],[vI p0.Next],[v0_2],[v0_3],enc p0.Head]).toArray),vI p1].toArray w0 (fun en w'=>∃ v,en = .returned v ∧ (∃ (y1 : Value) (y2 : Value) (y3 : Value),v = (Value.tuple [(Value.agg (cat [[y1],[vI r.1.Next],[y2],[y3],enc r.1.Head]).toArray),vI r.2].toArray) ∧ Fr w0 w' [osl NoB (r.1.Keys : List (Vector UInt8 16)) y1,osl NoB (r.1.Records : List GRecord) y2,osl NoB (r.1.Events : List GEvent) y3] ∧ Kept (Old w0) w0 w')):=by
 refine ce Tryz.func24 ?_
 intro a hE
 have hM:=M.start w0
 unfold Vi at hF
 refine Zb (ZV (cs:=cat [[v0_1],[vI p0.Next],[v0_2],[v0_3],enc p0.Head]) hE hM Za ld rfl rfl fun b1 w a hM hE=>ZA hE hM Ys fun b3 w a hM hE=>Zc hE rfl fun a hE=>Ze (wp_seq (Zb (Zn hE rfl Ys rfl hM.rawAt1 cq ?_)))); intro a hE
 obtain ⟨r5,e6,hF⟩:=bind_some hF
 refine Zx hE rfl (cbm Tryz.func79) (zx _ p0 v0_1 (hM.rdo hv0_1) v0_2 (hM.rdo hv0_2) v0_3 (hM.rdo hv0_3) r5 e6) ?_
 rintro v w a ⟨rfl,hK⟩ hE
 have hM:=hM.keep hK
 refine TX hE rfl fun a hE=>Ze ?_
 refine Zm hE rfl ?_ ?_
 ·intro hb7
  have hF:=Zt hF hb7
  refine Zb (Wl (parts:=[]) (vs:=[]) (cs:=cat [[(Value.slice none 0 0)],[vI 0],[(Value.slice none 0 0)],[(Value.slice none 0 0)],enc (Vector.replicate 32 (0 : UInt8))]) hE Za ld rfl rfl Ys jA Uq fun a hE=>Zk (seg:=cat [[(Value.slice none 0 0)],[vI 0],[(Value.slice none 0 0)],[(Value.slice none 0 0)],enc (Vector.replicate 32 (0 : UInt8))]) (cs':=cat [[(Value.slice none 0 0)],[vI 0],[(Value.slice none 0 0)],[(Value.slice none 0 0)],enc (Vector.replicate 32 (0 : UInt8))]) hE hM Za rfl rfl rfl Ys cq (Nat.le_of_eq ((Nat.zero_add _).trans (Eq.trans cq (Eq.symm cq)))) (ZX (cc1 Vn (cc1 (Flat.cell (0 : Int)) (cc1 Vn (cc1 Vn (cc1 (Flat.cell _) cc0)))))) (Zi (Eq.trans cq (Eq.symm cq))) fun w a hM hE=>Zc hE rfl fun a hE=>Ze ?_)
  have hM:=M.nilS (α:=GEvent) NoB noB (M.nilS (α:=GRecord) NoB noB (M.nilS (α:=(Vector UInt8 16)) NoB noB hM))
  obtain rfl:=Option.some.inj hF
  have hq11 : Yu Tryz.prog _ _ (.cell 4 58) _:=ZJ hE rfl Ys rfl hM.rawAt3 cq rfl
  have hM:=M.fst (l:=[_,_,_]) hM.pull1.pull2
  exact wp_ret (Zo (T0 hE rfl hq11 (ZT hE rfl) ⟨_,rfl,(Value.slice none 0 0),(Value.slice none 0 0),(Value.slice none 0 0),rfl,hM.outF (Yq (Yq (Yq Xy))),hM.kept⟩))
 ·intro hb7
  have hF:=Zu hF hb7
  refine wp_skip (Zq (Zb (Zn hE rfl Ys rfl hM.rawAt1 cq fun a hE=>Zd hE rfl ?_))); intro a hE
  obtain ⟨r12,e13,hF⟩:=bind_some hF
  refine Zx hE rfl (cbm Tryz.func80) (H7 _ p0 v0_1 (hM.rdo hv0_1) v0_2 (hM.rdo hv0_2) v0_3 (hM.rdo hv0_3) p1 r12 e13) ?_
  rintro v w a ⟨rfl,hK⟩ hE
  have hM:=hM.keep hK
  refine Zc hE rfl fun a hE=>Ze (wp_seq (Zb (Zd hE rfl fun a hE=>Zg hE rfl rfl rfl fun a hE=>Ze ?_)))
  refine Zm hE rfl ?_ ?_
  ·intro hb14
   have hF:=Zt hF hb14
   refine Zb (Wl (parts:=[]) (vs:=[]) (cs:=cat [[(Value.slice none 0 0)],[vI 0],[(Value.slice none 0 0)],[(Value.slice none 0 0)],enc (Vector.replicate 32 (0 : UInt8))]) hE Za ld rfl rfl Ys jA Uq fun a hE=>Zk (seg:=cat [[(Value.slice none 0 0)],[vI 0],[(Value.slice none 0 0)],[(Value.slice none 0 0)],enc (Vector.replicate 32 (0 : UInt8))]) (cs':=cat [[(Value.slice none 0 0)],[vI 0],[(Value.slice none 0 0)],[(Value.slice none 0 0)],enc (Vector.replicate 32 (0 : UInt8))]) hE hM Za rfl rfl rfl Ys cq (Nat.le_of_eq ((Nat.zero_add _).trans (Eq.trans cq (Eq.symm cq)))) (ZX (cc1 Vn (cc1 (Flat.cell (0 : Int)) (cc1 Vn (cc1 Vn (cc1 (Flat.cell _) cc0)))))) (Zi (Eq.trans cq (Eq.symm cq))) fun w a hM hE=>Zc hE rfl fun a hE=>Ze ?_)
   have hM:=M.nilS (α:=GEvent) NoB noB (M.nilS (α:=GRecord) NoB noB (M.nilS (α:=(Vector UInt8 16)) NoB noB hM))
   obtain rfl:=Option.some.inj hF
   have hq18 : Yu Tryz.prog _ _ (.cell 4 58) _:=ZJ hE rfl Ys rfl hM.rawAt3 cq rfl
   have hM:=M.fst (l:=[_,_,_]) hM.pull1.pull2
   exact wp_ret (Zo (T0 hE rfl hq18 (ZT hE rfl) ⟨_,rfl,(Value.slice none 0 0),(Value.slice none 0 0),(Value.slice none 0 0),rfl,hM.outF (Yq (Yq (Yq Xy))),hM.kept⟩))
  ·intro hb14
   have hF:=Zu hF hb14
   refine wp_skip (Zq (wp_seq (Zb (Zf hE rfl (VM) fun a hE=>Zw (v:=v0_3) hE rfl QM rfl (At.cat (pre:=[[v0_1],[vI p0.Next],[v0_2]]) hM.rawAt1 ck) fun a hE=>Yb hE rfl Tryz.underlying56 (hM.rd hv0_3) fun a hE=>Zg hE rfl rfl rfl fun a hE=>Ze ?_))))
   refine Zm hE rfl ?_ ?_
   ·intro hb19
    have hF:=Zt hF hb19
    refine Zb (Wl (parts:=[]) (vs:=[]) (cs:=cat [[(Value.slice none 0 0)],[vI 0],[(Value.slice none 0 0)],[(Value.slice none 0 0)],enc (Vector.replicate 32 (0 : UInt8))]) hE Za ld rfl rfl Ys jA Uq fun a hE=>Zk (seg:=cat [[(Value.slice none 0 0)],[vI 0],[(Value.slice none 0 0)],[(Value.slice none 0 0)],enc (Vector.replicate 32 (0 : UInt8))]) (cs':=cat [[(Value.slice none 0 0)],[vI 0],[(Value.slice none 0 0)],[(Value.slice none 0 0)],enc (Vector.replicate 32 (0 : UInt8))]) hE hM Za rfl rfl rfl Ys cq (Nat.le_of_eq ((Nat.zero_add _).trans (Eq.trans cq (Eq.symm cq)))) (ZX (cc1 Vn (cc1 (Flat.cell (0 : Int)) (cc1 Vn (cc1 Vn (cc1 (Flat.cell _) cc0)))))) (Zi (Eq.trans cq (Eq.symm cq))) fun w a hM hE=>Zc hE rfl fun a hE=>Ze ?_)
    have hM:=M.nilS (α:=GEvent) NoB noB (M.nilS (α:=GRecord) NoB noB (M.nilS (α:=(Vector UInt8 16)) NoB noB hM))
    obtain rfl:=Option.some.inj hF
    have hq23 : Yu Tryz.prog _ _ (.cell 4 58) _:=ZJ hE rfl Ys rfl hM.rawAt3 cq rfl
    have hM:=M.fst (l:=[_,_,_]) hM.pull1.pull2
    exact wp_ret (Zo (T0 hE rfl hq23 (ZT hE rfl) ⟨_,rfl,(Value.slice none 0 0),(Value.slice none 0 0),(Value.slice none 0 0),rfl,hM.outF (Yq (Yq (Yq Xy))),hM.kept⟩))
   ·intro hb19
    have hF:=Zu hF hb19
    refine wp_skip (Zq (Zb (Zn hE rfl Ys rfl hM.rawAt1 cq ?_))); intro a hE
    obtain ⟨r24,e25,hF⟩:=bind_some hF
    refine Zx hE rfl (cbm Tryz.func81) (AL _ p0 v0_1 (hM.rdo hv0_1) v0_2 (hM.rdo hv0_2) v0_3 (hM.rdo hv0_3) r24 e25) ?_
    rintro v w a ⟨u26,u27,u28,rfl,hFr,hK⟩ hE
    have hM:=hM.add hK hFr
    refine ZA hE hM Ys fun b29 w a hM hE=>Zk (seg:=cat [[u26],[vI r24.Next],[u27],[u28],enc r24.Head]) (cs':=cat [[u26],[vI r24.Next],[u27],[u28],enc r24.Head]) hE hM Za rfl rfl rfl Ys cq (Nat.le_of_eq ((Nat.zero_add _).trans (Eq.trans cq (Eq.symm cq)))) (ZX (cc1 (Rep.cell (hM.sl (pre:=[_]) noB)) (cc1 (Flat.cell (r24.Next : Int)) (cc1 (Rep.cell (hM.sl (pre:=[_,_]) noB)) (cc1 (Rep.cell (hM.sl (pre:=[_,_,_]) noB)) (cc1 (Flat.cell _) cc0)))))) (Zi (Eq.trans cq (Eq.symm cq))) fun w a hM hE=>Ze ?_
    obtain ⟨j31,hl32,hF33⟩:=bind_some hF
    refine ZQ (fun a w=>∃ (u34 : Value),Env 42 a [(1,vI p1),(4,(ptr b3 0)),(7,(ptr b29 0))] ∧ M (Old w0) w0 w [raw b29 (cat [[u26],[vI r24.Next],[u34],[u28],enc r24.Head]),osl NoB (r24.Keys : List (Vector UInt8 16)) u26,osl NoB (r24.Events : List GEvent) u28,raw b3 (cat [[(Value.slice none 0 0)],[vI 0],[(Value.slice none 0 0)],[(Value.slice none 0 0)],enc (Vector.replicate 32 (0 : UInt8))]),osl NoB (j31 : List GRecord) u34]) ?_ ?_
    ·skip
     have hM:=hM.pull2
     obtain ⟨hs36,hl37,hM⟩:=hM.toHdr noB
     obtain ⟨_,hg39,hl32⟩:=bind_some hl32
     have hg39:=Wx hg39
     obtain ⟨l43,d_l43,hl32⟩:=bind_some hl32
     obtain ⟨h_l43,e44,q_l43⟩:=yE d_l43 hl37
     obtain ⟨l45,e46,hl32⟩:=bind_some hl32
     obtain ⟨l50,d_l50,hl32⟩:=bind_some hl32
     obtain ⟨h_l50,e51,q_l50⟩:=qf d_l50 hl37
     refine XQ (its:=[osl NoB (hs36 : List (Opq 52)) u27,els NoB r24.Records hs36,raw b29 (cat [[u26],[vI r24.Next],[u27],[u28],enc r24.Head]),osl NoB (r24.Keys : List (Vector UInt8 16)) u26,osl NoB (r24.Events : List GEvent) u28,raw b3 (cat [[(Value.slice none 0 0)],[vI 0],[(Value.slice none 0 0)],[(Value.slice none 0 0)],enc (Vector.replicate 32 (0 : UInt8))]),raw b1 (cat [[v0_1],[vI p0.Next],[v0_2],[v0_3],enc p0.Head])]) (mk:=([mkN [(5,fun v=>osl NoB ((([] : List (Opq 52)) ++ h_l43) : List (Opq 52)) v),(0,fun v=>osl NoB (([] : List (Opq 52)) : List (Opq 52)) v)]] : Mk)) [25,26,27,28,29,30,31,32,33,34,35] Y4 rfl rfl (by decide) rfl hE (fun u=>M.qE (M.q0 hM.drew u) emN) (qsM (pr:=fun v=>True) ?_ (qsP (fun z=>Zs z.E Za ld rfl (X1) (kr0 rfl)) (qsP (v:=u27) ?_ (qsP (fun z=>Zv z.E Za ld rfl (kr0 rfl)) (qsP (v:=(Z8 u27 ((0 : Int)).toNat (r12).toNat 52)) ?_ (qsM (pr:=fun v=>True) ?_ (qsP (fun z=>Zs z.E Za ld rfl (X1) (kr0 rfl)) (qsP (v:=u27) ?_ (qsP (fun z=>Zv z.E Za ld rfl (kr0 rfl)) (qsP (v:=(vI (wr (r12 + 1)))) (fun z=>Yv z.E Za ld rfl rfl rfl (kr0 rfl)) (qsP (v:=(Z8 u27 ((wr (r12 + 1))).toNat ((hs36.length : Int)).toNat 52)) ?_ qs0))))))))))) ?_
     ·intro a w ux40 D z
      have hE:=z.E
      have hD : D 0 = false:=z.F
      have hM:=z.M
      refine Yi (xs:=[]) (l:=([] : List (Opq 52))) (vs:=[]) hE hM Za ld rfl rfl Tryz.underlying55 Z4 rfl (by decide) rfl ?_; intro u41 w a hM hE
      have hq5 : D 5 = false:=BT (j:=5) (k:=0) z.c rfl rfl rfl hD
      exact ⟨_,_,rfl,hE,M.qPut (p:=mkN [(5,fun v=>osl NoB ((([] : List (Opq 52)) ++ h_l43) : List (Opq 52)) v),(0,fun v=>osl NoB (([] : List (Opq 52)) : List (Opq 52)) v)]) (its:=[osl NoB (hs36 : List (Opq 52)) u27,els NoB r24.Records hs36,raw b29 (cat [[u26],[vI r24.Next],[u27],[u28],enc r24.Head]),osl NoB (r24.Keys : List (Vector UInt8 16)) u26,osl NoB (r24.Events : List GEvent) u28,raw b3 (cat [[(Value.slice none 0 0)],[vI 0],[(Value.slice none 0 0)],[(Value.slice none 0 0)],enc (Vector.replicate 32 (0 : UInt8))]),raw b1 (cat [[v0_1],[vI p0.Next],[v0_2],[v0_3],enc p0.Head])]) (mk1:=[]) (mk2:=[]) hM rfl (z2 (zL hq5 (zL hD zT))) (Hs (l:=[_]) (zL hq5 zT)),trivial⟩
     ·intro a w ux40 D z
      have hE:=z.E
      have hM:=z.M
      exact Zw (v:=u27) hE rfl TZ rfl (At.cat (pre:=[[u26],[vI r24.Next]]) hM.rawAt2 ck) fun a hE=>⟨Kept.refl _ _,_,rfl,hE⟩
     ·intro a w ux40 D z
      have hE:=z.E
      have hM:=z.M
      exact Ka hE Za ld rfl rfl (Hx rfl) rfl rfl Tryz.underlying55 Z4 (hM.sl (pre:=[]) noB) e44 fun a hE=>⟨Kept.refl _ _,_,rfl,hE⟩
     ·intro a w ux40 D z
      have hE:=z.E
      have hD : D 5 = false:=z.F
      have d0 : D 0 = true:=z.p 0 _ rfl rfl
      have hM:=(z.M.chnF (pre:=[_,_,_,_,_,_,_]) hD).chnT (pre:=[_,_,_,_,_,_,_]) d0
      obtain ⟨e49,rfl⟩:=Yr e46
      have e49 : (([] : List (Opq 52)).length + h_l43.length) * 112 ≤ 140737488355328:=by simpa [q_l43,q_l50] using e49
      have hM:=hM.pull7
      exact Yh hE hM Za ld rfl rfl (Wr (hM.sl (pre:=[_]) noB) e44) Tryz.underlying55 Z4 rfl (by decide) e49 fun u47 w a hM hE=>⟨_,_,rfl,hE,M.qTogS (p:=mkN [(5,fun v=>osl NoB ((([] : List (Opq 52)) ++ h_l43) : List (Opq 52)) v),(0,fun v=>osl NoB (([] : List (Opq 52)) : List (Opq 52)) v)]) (its:=[osl NoB (hs36 : List (Opq 52)) u27,els NoB r24.Records hs36,raw b29 (cat [[u26],[vI r24.Next],[u27],[u28],enc r24.Head]),osl NoB (r24.Keys : List (Vector UInt8 16)) u26,osl NoB (r24.Events : List GEvent) u28,raw b3 (cat [[(Value.slice none 0 0)],[vI 0],[(Value.slice none 0 0)],[(Value.slice none 0 0)],enc (Vector.replicate 32 (0 : UInt8))]),raw b1 (cat [[v0_1],[vI p0.Next],[v0_2],[v0_3],enc p0.Head])]) (mk1:=[]) (mk2:=[]) hM rfl (Hs (l:=[]) zT),trivial⟩
     ·intro a w ux40 D z
      have hE:=z.E
      have hM:=z.M
      exact Zw (v:=u27) hE rfl TZ rfl (At.cat (pre:=[[u26],[vI r24.Next]]) hM.rawAt2 ck) fun a hE=>⟨Kept.refl _ _,_,rfl,hE⟩
     ·intro a w ux40 D z
      have hE:=z.E
      have hM:=z.M
      exact Ka hE Za ld rfl (Hx rfl) rfl rfl rfl Tryz.underlying55 Z4 (hM.sl (pre:=[]) noB) e51 fun a hE=>⟨Kept.refl _ _,_,rfl,hE⟩
     ·intro a w ux40 D hE hM hG hall
      have d5:=hall 5 (by decide)
      have hM:=hM.chnT (pre:=[_,_,_,_,_,_,_]) d5
      obtain ⟨l52,e53,hl32⟩:=bind_some hl32
      obtain ⟨e56,rfl⟩:=Yr e53
      have e56 : ((([] : List (Opq 52)) ++ h_l43).length + h_l50.length) * 112 ≤ 140737488355328:=by simpa [q_l43,q_l50] using e56
      have hM:=hM.pull7
      refine Yh hE hM Za ld rfl rfl (Wr (hM.sl (pre:=[_]) noB) e51) Tryz.underlying55 Z4 rfl (by decide) e56 fun u54 w a hM hE=>Zf hE rfl (X1) ?_; intro a hE
      have hM:=hM.pull3
      refine Zk (seg:=[u54]) hE hM Za rfl rfl (Yz (hM.sl (pre:=[_]) noB)) TZ rfl (YK (pre:=[[u26],[vI r24.Next]]) ck rfl) (Rep.cell (hM.sl (pre:=[_]) noB)) (ZR (pre:=[[u26],[vI r24.Next]]) ck rfl) ?_; intro w a hM hE
      have hM:=M.ofHdr (α:=GRecord) ((hM.pull3.cutEls noB d_l43 d_l50 e44 e51 (Int.sub_nonneg.1 hg39)).pull2) noB
      refine Zh ?_
      obtain rfl:=Option.some.inj hl32
      refine Zj ?_
      have hM:=M.fst (l:=[_,_,_,_,_]) hM.pull5.pull5.pull5.pull4
      exact ⟨u54,hE.sub ⟨rfl,rfl,rfl,trivial⟩,hM⟩
    ·skip
     rintro a w ⟨u34,hE,hM⟩
     refine Zb (Zn hE rfl Ys rfl hM.rawAt0 cq fun a hE=>Zd hE rfl fun a hE=>XF (parts:=[]) (vs:=[]) (cs:=enc (Vector.replicate 32 (0 : UInt8))) hE Za ld rfl rfl Yt rfl ty5 YZ ?_); intro a hE
     have hM:=hM.pull2.pull4.pull3
     have hM0:=hM
     obtain ⟨r58,e59,hF33⟩:=bind_some hF33
     refine Zx hE rfl (cbm Tryz.func82) (B2 _ _ _ _ (⟨r24.Keys,r24.Next,j31,r24.Events,r24.Head⟩ : GVault) u26 u34 u28 2 p1 (Vector.replicate 32 (0 : UInt8)) hM r58 e59) ?_
     rintro v w a ⟨u60,u61,u62,rfl,hM⟩ hE
     have hM:=hM.pull4
     refine Zk (seg:=cat [[u60],[vI r58.Next],[u61],[u62],enc r58.Head]) (cs':=cat [[u60],[vI r58.Next],[u61],[u62],enc r58.Head]) hE hM Za rfl rfl rfl Ys cq (Nat.le_of_eq ((Nat.zero_add _).trans (Eq.trans cq (Eq.symm cq)))) (ZX (cc1 (Rep.cell (hM.sl (pre:=[_]) noB)) (cc1 (Flat.cell (r58.Next : Int)) (cc1 (Rep.cell (hM.sl (pre:=[_,_]) noB)) (cc1 (Rep.cell (hM.sl (pre:=[_,_,_]) noB)) (cc1 (Flat.cell _) cc0)))))) (Zi (Eq.trans cq (Eq.symm cq))) fun w a hM hE=>Zc hE rfl fun a hE=>Ze ?_
     obtain rfl:=Option.some.inj hF33
     have hq63 : Yu Tryz.prog _ _ (.cell 4 58) _:=ZJ hE rfl Ys rfl hM.rawAt0 cq rfl
     have hM:=M.fst (l:=[_,_,_]) hM.pull3.pull3.pull3
     exact wp_ret (T0 hE rfl hq63 (ZT hE rfl) ⟨_,rfl,u60,u61,u62,rfl,hM.outF (Yq (Yq (Yq Xy))),hM.kept⟩)
def YE (p0 : (List (Vector UInt8 16))) : Option (Int) :=
 some (p0.length : Int)
theorem XO (w0 : World) (p0 : (List (Vector UInt8 16))) (v0_1 : Value) (hv0_1 : Ro w0 p0 [v0_1]) (r : Int) (hF : YE p0 = some r) :
  Calls Tryz.prog 106 [v0_1].toArray w0 (Rt w0 (vI r)):=by
 refine ce Tryz.func106 ?_
 intro a hE
 have hM:=M.start w0
 unfold YE at hF
 refine Zb (Zc hE rfl fun a hE=>Ze (Zb (Zd hE rfl fun a hE=>Yb hE rfl Tryz.underlying54 (hM.rd hv0_1) fun a hE=>Zc hE rfl fun a hE=>Ze ?_)))
 obtain rfl:=Option.some.inj hF
 exact wp_ret (kr1 hE rfl rfl hM.kept)
def Y0 (p0 : Int) (p1 : Int) (p2 : Int) : Option (Bool) :=
 (if (decide (p1 ≤ p0)) = true then (some (decide (p0 ≤ p2))) else (some false) : Option (Bool)).bind fun j1=>some j1
theorem Y2 (w0 : World) (p0 : Int) (p1 : Int) (p2 : Int) (r : Bool) (hF : Y0 p0 p1 p2 = some r) :
  Calls Tryz.prog 129 [vI p0,vI p1,vI p2].toArray w0 (Rt w0 (vT r)):=by
 refine ce Tryz.func129 ?_
 intro a hE
 have hM:=M.start w0
 unfold Y0 at hF
 refine Zb (Zc hE rfl fun a hE=>Ze ?_)
 obtain ⟨j1,hl2,hF3⟩:=bind_some hF
 refine ZQ (fun a w=>Env 15 a [(6,vT j1)] ∧ M (Old w0) w0 w []) ?_ ?_
 ·skip
  refine wp_region_lit (Zd hE rfl fun a hE=>Zd hE rfl fun a hE=>Zg hE rfl rfl rfl fun a hE=>Zd hE rfl ?_); intro a hE
  refine Wk (decide (p1 ≤ p0)) (fun hb4=>?_) (fun hb4=>?_)
  ·have hl2:=Zt hl2 hb4
   refine Zv hE (Zr hE rfl (lkb rfl hb4)) (by decide) rfl fun a hE=>Zv hE (Zr hE rfl (lkb rfl hb4)) (by decide) rfl fun a hE=>Yv hE (Zr hE rfl (lkb rfl hb4)) (by decide) rfl rfl rfl fun a hE=>Yd hE (lkb rfl hb4) rfl fun a hE=>Zc hE rfl fun a hE=>Zh ?_
   obtain rfl:=Option.some.inj hl2
   refine Zj ?_
   exact ⟨hE.sub ⟨rfl,trivial⟩,hM⟩
  ·have hl2:=Zu hl2 hb4
   refine Zp hE rfl (lkb rfl hb4) rfl (by decide) fun a hE=>Zp hE rfl (lkb rfl hb4) rfl (by decide) fun a hE=>Zp hE rfl (lkb rfl hb4) rfl (by decide) fun a hE=>XP hE (lkb rfl hb4) rfl fun a hE=>Zc hE rfl fun a hE=>Zh ?_
   obtain rfl:=Option.some.inj hl2
   refine Zj ?_
   exact ⟨hE.sub ⟨rfl,trivial⟩,hM⟩
 ·skip
  rintro a w ⟨hE,hM⟩
  obtain rfl:=Option.some.inj hF3
  exact wp_ret (kr1 hE rfl rfl hM.kept)
def YC (p0 : (List GEvent)) (p1 : GEvent → Option (Bool)) (s5 : Int) : Option (Fl Int (Fl Unit Int)) :=
 if (decide (s5 < (p0.length : Int))) = true then ((idx p0 s5).bind fun x10=>((p1 x10)).bind fun r13=>if r13 = true then (some (Fl.ex (Fl.ex s5))) else (some (Fl.nx (wr (s5 + 1))))) else (some (Fl.ex (Fl.nx ())))
def Ye (p0 : (List GEvent)) (p1 : GEvent → Option (Bool)) : Option (Int) :=
 (ZB (YC p0 p1) 0).bind fun j1=>j1.el (fun s4=>some (-1)) (fun r=>some r)
theorem Uz (w0 : World) (p0 : (List GEvent)) (v0_1 : Value) (hv0_1 : Ro w0 p0 [v0_1]) (p1 : GEvent → Option (Bool)) (k1 : Nat) (q1 : List Value) (hcb1 : Callable Tryz.prog k1) (hg1 : ∀ (w2 : World),Kept (Old w0) w0 w2 → ∀ (z0 : GEvent) (zr : Bool),p1 z0 = some zr → Calls Tryz.prog k1 ([(Value.agg (enc z0).toArray)] ++ q1).toArray w2 (fun en w3=>∃ v,en = .returned v ∧ (v = (vT zr) ∧ Kept (Old w2) w2 w3))) (r : Int) (hF : Ye p0 p1 = some r) :
  Calls Tryz.prog 192 [v0_1,(Value.func (.func k1) #[] q1.toArray)].toArray w0 (Rt w0 (vI r)):=by
 refine ce Tryz.func192 ?_
 intro a hE
 have hM:=M.start w0
 unfold Ye at hF
 refine Zb (Zc hE rfl fun a hE=>Ze (wp_seq (Zb (Zd hE rfl fun a hE=>Yb hE rfl Tryz.underlying56 (hM.rd hv0_1) fun a hE=>Zd hE rfl fun a hE=>Ze ?_))))
 obtain ⟨j1,hl2,hF3⟩:=bind_some hF
 refine ZI (fun a w=>∃ s4 : Unit,j1 = Fl.nx s4 ∧ Env 19 a [] ∧ M (Old w0) w0 w []) ?_ ?_
 ·skip
  refine wp_block ?_
  refine ZD (fun (s5 : Int) a w=>Env 19 a [(0,v0_1),(1,(Value.func (.func k1) #[] q1.toArray)),(7,(vI (p0.length : Int))),(8,vI s5)] ∧ M (Old w0) w0 w []) hl2 ⟨hE.sub ⟨rfl,rfl,rfl,rfl,trivial⟩,hM⟩ ?_
  rintro s5 a w ⟨hE,hM⟩ o8 hs6 hx7
  unfold YC at hs6
  refine Zb (Zg hE rfl rfl rfl fun a hE=>Ze (wp_seq ?_))
  refine Zm hE rfl ?_ ?_
  ·intro hb9
   have hs6:=Zt hs6 hb9
   refine wp_skip (Zq (wp_seq (wp_block (Zb (Zd hE rfl fun a hE=>Zc hE rfl fun a hE=>Ze (Zb (Zd hE rfl fun a hE=>Zd hE rfl fun a hE=>Zd hE rfl ?_))))))); intro a hE
   obtain ⟨x10,hi12,hs6⟩:=bix hs6
   refine ZN hE rfl rfl Tryz.underlying56 Y3 (hM.rd hv0_1) hi12.1 fun a hE=>Zn hE rfl Y3 rfl (X0 (hM.rd hv0_1) hi12.2) cq ?_; intro a hE
   obtain ⟨r13,e14,hs6⟩:=bind_some hs6
   refine yu (vs:=[(Value.agg (enc x10).toArray)]) hE Za ld rfl rfl hcb1 (hg1 _ hM.kept x10 r13 e14) ?_
   rintro v w a ⟨rfl,hK⟩ hE
   have hM:=hM.keep hK
   refine Ze ?_
   refine Zm hE rfl ?_ ?_
   ·intro hb15
    have hs6:=Zt hs6 hb15
    refine Zb (Zd hE rfl fun a hE=>Zc hE rfl fun a hE=>Ze ?_)
    obtain rfl:=hx7 _ (ois hs6)
    obtain rfl:=Option.some.inj hF3
    exact wp_ret (Yf (Zo (Zo (Yf (Zo (Zo (kr1 hE rfl rfl hM.kept)))))))
   ·intro hb15
    have hs6:=Zu hs6 hb15
    refine wp_skip (Z2 (Zq (wp_region_lit (Zg hE rfl rfl rfl fun a hE=>Zd hE rfl fun a hE=>Zh (Zj ?_)))))
    exact ⟨_,(ois hs6),hE.sub ⟨rfl,rfl,rfl,rfl,trivial⟩,hM⟩
  ·intro hb9
   have hs6:=Zu hs6 hb9
   refine wp_exit (Zl (Zl (Z3 ?_)))
   obtain rfl:=hx7 _ (ois hs6)
   refine Zj ?_
   exact ⟨(),rfl,hE.sub trivial,hM⟩
 ·skip
  rintro a w ⟨s4,ht,hE,hM⟩
  subst ht
  have hF3:=Tg hF3
  refine Zq (Zb (Zc hE rfl fun a hE=>Ze ?_))
  obtain rfl:=Option.some.inj hF3
  exact wp_ret (kr1 hE rfl rfl hM.kept)
def ZU (p0 : (List GEvent)) (p1 : GEvent → Option (Bool)) : Option (Bool) :=
 (Ye p0 p1).bind fun r1=>some (decide (r1 ≥ 0))
theorem VY (w0 : World) (p0 : (List GEvent)) (v0_1 : Value) (hv0_1 : Ro w0 p0 [v0_1]) (p1 : GEvent → Option (Bool)) (k1 : Nat) (q1 : List Value) (hcb1 : Callable Tryz.prog k1) (hg1 : ∀ (w2 : World),Kept (Old w0) w0 w2 → ∀ (z0 : GEvent) (zr : Bool),p1 z0 = some zr → Calls Tryz.prog k1 ([(Value.agg (enc z0).toArray)] ++ q1).toArray w2 (fun en w3=>∃ v,en = .returned v ∧ (v = (vT zr) ∧ Kept (Old w2) w2 w3))) (r : Bool) (hF : ZU p0 p1 = some r) :
  Calls Tryz.prog 159 [v0_1,(Value.func (.func k1) #[] q1.toArray)].toArray w0 (Rt w0 (vT r)):=by
 refine ce Tryz.func159 ?_
 intro a hE
 have hM:=M.start w0
 unfold ZU at hF
 refine Zb (Zc hE rfl fun a hE=>Ze (Zb (Zd hE rfl fun a hE=>Zd hE rfl ?_))); intro a hE
 obtain ⟨r1,e2,hF⟩:=bind_some hF
 refine Zx hE rfl (cbm Tryz.func192) (Uz _ p0 v0_1 (hM.rdo hv0_1) p1 k1 q1 hcb1 (fun w2 hk2=>hg1 w2 (hM.kept.trans hk2)) r1 e2) ?_
 rintro v w a ⟨rfl,hK⟩ hE
 have hM:=hM.keep hK
 refine Zg hE rfl rfl rfl fun a hE=>Zc hE rfl fun a hE=>Ze ?_
 obtain rfl:=Option.some.inj hF
 exact wp_ret (kr1 hE rfl rfl hM.kept)
def Tx (p0 : Int) : Option (Bool) :=
 (Y0 p0 0 1000000).bind fun r1=>some r1
theorem Bo (w0 : World) (p0 : Int) (r : Bool) (hF : Tx p0 = some r) :
  Calls Tryz.prog 193 [vI p0].toArray w0 (Rt w0 (vT r)):=by
 refine ce Tryz.func193 ?_
 intro a hE
 have hM:=M.start w0
 unfold Tx at hF
 refine Zb (Zc hE rfl fun a hE=>Ze (Zb (Zd hE rfl ?_))); intro a hE
 obtain ⟨r1,e2,hF⟩:=bind_some hF
 refine Zx hE rfl K1 (Y2 _ p0 0 1000000 r1 e2) ?_
 rintro v w a ⟨rfl,hK⟩ hE
 have hM:=hM.keep hK
 refine Zc hE rfl fun a hE=>Ze ?_
 obtain rfl:=Option.some.inj hF
 exact wp_ret (kr1 hE rfl rfl hM.kept)
def UP (p0 : GEvent) : Option (Bool) :=
 ((Y0 p0.Kind 1 4).bind fun r6=>if r6 = true then ((Tx p0.Number).bind fun r9=>some r9) else (some false) : Option (Bool)).bind fun j3=>some j3
theorem Ai (w0 : World) (p0 : GEvent) (r : Bool) (hF : UP p0 = some r) :
  Calls Tryz.prog 161 [(Value.agg (enc p0).toArray)].toArray w0 (Rt w0 (vT r)):=by
 refine ce Tryz.func161 ?_
 intro a hE
 have hM:=M.start w0
 unfold UP at hF
 refine Zb (ZV (cs:=cat [[vI p0.Kind],[vI p0.Number],enc p0.Tag]) hE hM Za ld rfl rfl fun b1 w a hM hE=>Zc hE rfl fun a hE=>Ze ?_)
 obtain ⟨j3,hl4,hF5⟩:=bind_some hF
 refine ZQ (fun a w=>Env 11 a [(2,vT j3)] ∧ M (Old w0) w0 w []) ?_ ?_
 ·skip
  refine wp_region_lit (Zf hE rfl (Qh) fun a hE=>Zw (v:=(vI p0.Kind)) hE rfl ty2 rfl (At.cat (pre:=[]) hM.rawAt0 cl0) ?_); intro a hE
  obtain ⟨r6,e7,hl4⟩:=bind_some hl4
  refine Zx hE rfl K1 (Y2 _ p0.Kind 1 4 r6 e7) ?_
  rintro v w a ⟨rfl,hK⟩ hE
  have hM:=hM.keep hK
  refine Zd hE rfl ?_; intro a hE
  refine Wk r6 (fun hb8=>?_) (fun hb8=>?_)
  ·have hl4:=Zt hl4 hb8
   refine Zs hE (Zr hE rfl (lkb rfl hb8)) (by decide) rfl (Qm) fun a hE=>ZS (v:=(vI p0.Number)) hE (Zr hE rfl (lkb rfl hb8)) (by decide) rfl ty2 rfl (At.cat (pre:=[[vI p0.Kind]]) hM.rawAt0 ck) ?_; intro a hE
   obtain ⟨r9,e10,hl4⟩:=bind_some hl4
   refine Z7 hE (Zr hE rfl (lkb rfl hb8)) (by decide) rfl (cbm Tryz.func193) (Bo _ p0.Number r9 e10) ?_
   rintro v w a ⟨rfl,hK⟩ hE
   have hM:=hM.keep hK
   refine Yd hE (lkb rfl hb8) rfl fun a hE=>Zc hE rfl fun a hE=>Zh ?_
   obtain rfl:=Option.some.inj hl4
   refine Zj ?_
   have hM:=M.fst (l:=[]) hM
   exact ⟨hE.sub ⟨rfl,trivial⟩,hM⟩
  ·have hl4:=Zu hl4 hb8
   refine Zp hE rfl (lkb rfl hb8) rfl (by decide) fun a hE=>Zp hE rfl (lkb rfl hb8) rfl (by decide) fun a hE=>Zp hE rfl (lkb rfl hb8) rfl (by decide) fun a hE=>XP hE (lkb rfl hb8) rfl fun a hE=>Zc hE rfl fun a hE=>Zh ?_
   obtain rfl:=Option.some.inj hl4
   refine Zj ?_
   have hM:=M.fst (l:=[]) hM
   exact ⟨hE.sub ⟨rfl,trivial⟩,hM⟩
 ·skip
  rintro a w ⟨hE,hM⟩
  obtain rfl:=Option.some.inj hF5
  exact wp_ret (kr1 hE rfl rfl hM.kept)
def VS (p0 : GEvent) : Option (Bool) :=
 (UP p0).bind fun r3=>some (!r3)
theorem Hv (w0 : World) (p0 : GEvent) (r : Bool) (hF : VS p0 = some r) :
  Calls Tryz.prog 160 [(Value.agg (enc p0).toArray)].toArray w0 (Rt w0 (vT r)):=by
 refine ce Tryz.func160 ?_
 intro a hE
 have hM:=M.start w0
 unfold VS at hF
 refine Zb (ZV (cs:=cat [[vI p0.Kind],[vI p0.Number],enc p0.Tag]) hE hM Za ld rfl rfl fun b1 w a hM hE=>Zc hE rfl fun a hE=>Ze (Zb (Zn hE rfl Y3 rfl hM.rawAt0 cq ?_))); intro a hE
 obtain ⟨r3,e4,hF⟩:=bind_some hF
 refine Zx hE rfl (cbm Tryz.func161) (Ai _ p0 r3 e4) ?_
 rintro v w a ⟨rfl,hK⟩ hE
 have hM:=hM.keep hK
 refine TX hE rfl fun a hE=>Zc hE rfl fun a hE=>Ze ?_
 obtain rfl:=Option.some.inj hF
 exact wp_ret (kr1 hE rfl rfl hM.kept)
def Ve (p0 : GVault) (s24 : Int) : Option (Fl Int (Fl Unit Bool)) :=
 if (decide (s24 < (p0.Records.length : Int))) = true then ((idx p0.Records s24).bind fun x29=>((Y0 x29.Number 1 (wr (p0.Next - 1))).bind fun r45=>if (!r45) = true then (some true) else (if (decide (s24 > 0)) = true then ((idx p0.Records (wr (s24 - 1))).bind fun x50=>some (decide (x50.Number ≥ x29.Number))) else (some false)) : Option (Bool)).bind fun j41=>if j41 = true then (some (Fl.ex (Fl.ex false))) else (((YE p0.Keys).bind fun r68=>(Y0 x29.Version 0 (wr (r68 - 1))).bind fun r70=>if (!r70) = true then (some true) else (if (decide ((x29.Label.length : Int) > 32)) = true then (some true) else (some (decide ((x29.Body.length : Int) > 200)))) : Option (Bool)).bind fun j64=>if j64 = true then (some (Fl.ex (Fl.ex false))) else (some (Fl.nx (wr (s24 + 1)))))) else (some (Fl.ex (Fl.nx ())))
def UM (p0 : GVault) : Option (Bool) :=
 ((YE p0.Keys).bind fun r6=>(Y0 r6 1 8).bind fun r8=>if (!r8) = true then (some true) else ((Y0 p0.Next 1 1000000).bind fun r12=>if (!r12) = true then (some true) else (if (decide ((p0.Records.length : Int) > 12)) = true then (some true) else (some (decide ((p0.Events.length : Int) > 60))))) : Option (Bool)).bind fun j3=>if j3 = true then (some false) else ((ZB (Ve p0) 0).bind fun j20=>j20.el (fun s23=>(ZU p0.Events (fun z0=>VS z0)).bind fun r80=>some (!r80)) (fun r=>some r))
theorem B5 (w0 : World) (p0 : GVault) (v0_1 : Value) (hv0_1 : Ro w0 p0.Keys [v0_1]) (v0_2 : Value) (hv0_2 : Ro w0 p0.Records [v0_2]) (v0_3 : Value) (hv0_3 : Ro w0 p0.Events [v0_3]) (r : Bool) (hF : UM p0 = some r) :
  Calls Tryz.prog 103 [(Value.agg (cat [[v0_1],[vI p0.Next],[v0_2],[v0_3],enc p0.Head]).toArray)].toArray w0 (Rt w0 (vT r)):=by
 refine ce Tryz.func103 ?_
 intro a hE
 have hM:=M.start w0
 unfold UM at hF
 refine Zb (ZV (cs:=cat [[v0_1],[vI p0.Next],[v0_2],[v0_3],enc p0.Head]) hE hM Za ld rfl rfl fun b1 w a hM hE=>Zc hE rfl fun a hE=>Ze (wp_seq ?_))
 obtain ⟨j3,hl4,hF5⟩:=bind_some hF
 refine ZQ (fun a w=>Env 84 a [(1,(ptr b1 0)),(27,vT j3)] ∧ M (Old w0) w0 w [raw b1 (cat [[v0_1],[vI p0.Next],[v0_2],[v0_3],enc p0.Head])]) ?_ ?_
 ·skip
  refine wp_region_lit (Zf hE rfl (TL) fun a hE=>Zw (v:=v0_1) hE rfl Jw rfl (At.cat (pre:=[]) hM.rawAt0 cl0) ?_); intro a hE
  obtain ⟨r6,e7,hl4⟩:=bind_some hl4
  refine Zx hE rfl jZ (XO _ p0.Keys v0_1 (hM.rdo hv0_1) r6 e7) ?_
  rintro v w a ⟨rfl,hK⟩ hE
  have hM:=hM.keep hK
  obtain ⟨r8,e9,hl4⟩:=bind_some hl4
  refine Zx hE rfl K1 (Y2 _ r6 1 8 r8 e9) ?_
  rintro v w a ⟨rfl,hK⟩ hE
  have hM:=hM.keep hK
  refine TX hE rfl fun a hE=>Zd hE rfl ?_; intro a hE
  refine Wk (!r8) (fun hb10=>?_) (fun hb10=>?_)
  ·have hl4:=Zt hl4 hb10
   refine Zp hE rfl (lkb rfl hb10) rfl (by decide) fun a hE=>Zp hE rfl (lkb rfl hb10) rfl (by decide) fun a hE=>Zp hE rfl (lkb rfl hb10) rfl (by decide) fun a hE=>Zp hE rfl (lkb rfl hb10) rfl (by decide) fun a hE=>Yd hE (lkb rfl hb10) rfl fun a hE=>Zd hE rfl fun a hE=>Zp hE rfl rfl rfl (by decide) fun a hE=>Zp hE rfl rfl rfl (by decide) fun a hE=>Zp hE rfl rfl rfl (by decide) fun a hE=>Zp hE rfl rfl rfl (by decide) fun a hE=>Yd hE rfl rfl fun a hE=>Zd hE rfl ?_; intro a hE
   refine Zp hE rfl rfl rfl (by decide) fun a hE=>Zp hE rfl rfl rfl (by decide) fun a hE=>Zp hE rfl rfl rfl (by decide) fun a hE=>Zp hE rfl rfl rfl (by decide) fun a hE=>Yd hE rfl rfl fun a hE=>Zh ?_
   obtain rfl:=Option.some.inj hl4
   refine Zj ?_
   exact ⟨hE.sub ⟨rfl,rfl,trivial⟩,hM⟩
  ·have hl4:=Zu hl4 hb10
   refine Zs hE (Zr hE rfl (lkb rfl hb10)) (by decide) rfl (Qu) fun a hE=>ZS (v:=(vI p0.Next)) hE (Zr hE rfl (lkb rfl hb10)) (by decide) rfl ty2 rfl (At.cat (pre:=[[v0_1]]) hM.rawAt0 ck) ?_; intro a hE
   obtain ⟨r12,e13,hl4⟩:=bind_some hl4
   refine Z7 hE (Zr hE rfl (lkb rfl hb10)) (by decide) rfl K1 (Y2 _ p0.Next 1 1000000 r12 e13) ?_
   rintro v w a ⟨rfl,hK⟩ hE
   have hM:=hM.keep hK
   refine QB hE (Zr hE rfl (lkb rfl hb10)) (by decide) rfl fun a hE=>XP hE (lkb rfl hb10) rfl fun a hE=>Zd hE rfl ?_; intro a hE
   refine Wk (!r12) (fun hb14=>?_) (fun hb14=>?_)
   ·have hl4:=Zt hl4 hb14
    refine Zp hE rfl (lkb rfl hb14) rfl (by decide) fun a hE=>Zp hE rfl (lkb rfl hb14) rfl (by decide) fun a hE=>Zp hE rfl (lkb rfl hb14) rfl (by decide) fun a hE=>Zp hE rfl (lkb rfl hb14) rfl (by decide) fun a hE=>Yd hE (lkb rfl hb14) rfl fun a hE=>Zd hE rfl fun a hE=>Zp hE rfl rfl rfl (by decide) fun a hE=>Zp hE rfl rfl rfl (by decide) fun a hE=>Zp hE rfl rfl rfl (by decide) fun a hE=>Zp hE rfl rfl rfl (by decide) fun a hE=>Yd hE rfl rfl fun a hE=>Zh ?_
    obtain rfl:=Option.some.inj hl4
    refine Zj ?_
    exact ⟨hE.sub ⟨rfl,rfl,trivial⟩,hM⟩
   ·have hl4:=Zu hl4 hb14
    refine Zs hE (Zr hE rfl (lkb rfl hb14)) (by decide) rfl (X1) fun a hE=>ZS (v:=v0_2) hE (Zr hE rfl (lkb rfl hb14)) (by decide) rfl TZ rfl (At.cat (pre:=[[v0_1],[vI p0.Next]]) hM.rawAt0 ck) fun a hE=>QE hE (Zr hE rfl (lkb rfl hb14)) (by decide) rfl Tryz.underlying55 (hM.rd hv0_2) fun a hE=>Yv hE (Zr hE rfl (lkb rfl hb14)) (by decide) rfl rfl rfl fun a hE=>XP hE (lkb rfl hb14) rfl fun a hE=>Zd hE rfl ?_; intro a hE
    refine Wk (decide ((p0.Records.length : Int) > 12)) (fun hb16=>?_) (fun hb16=>?_)
    ·have hl4:=Zt hl4 hb16
     refine Zp hE rfl (lkb rfl hb16) rfl (by decide) fun a hE=>Zp hE rfl (lkb rfl hb16) rfl (by decide) fun a hE=>Zp hE rfl (lkb rfl hb16) rfl (by decide) fun a hE=>Zp hE rfl (lkb rfl hb16) rfl (by decide) fun a hE=>Yd hE (lkb rfl hb16) rfl fun a hE=>Zh ?_
     obtain rfl:=Option.some.inj hl4
     refine Zj ?_
     exact ⟨hE.sub ⟨rfl,rfl,trivial⟩,hM⟩
    ·have hl4:=Zu hl4 hb16
     refine Zs hE (Zr hE rfl (lkb rfl hb16)) (by decide) rfl (VM) fun a hE=>ZS (v:=v0_3) hE (Zr hE rfl (lkb rfl hb16)) (by decide) rfl QM rfl (At.cat (pre:=[[v0_1],[vI p0.Next],[v0_2]]) hM.rawAt0 ck) fun a hE=>QE hE (Zr hE rfl (lkb rfl hb16)) (by decide) rfl Tryz.underlying56 (hM.rd hv0_3) fun a hE=>Yv hE (Zr hE rfl (lkb rfl hb16)) (by decide) rfl rfl rfl fun a hE=>XP hE (lkb rfl hb16) rfl fun a hE=>Zh ?_
     obtain rfl:=Option.some.inj hl4
     refine Zj ?_
     exact ⟨hE.sub ⟨rfl,rfl,trivial⟩,hM⟩
 ·skip
  rintro a w ⟨hE,hM⟩
  refine Zm hE rfl ?_ ?_
  ·intro hb19
   have hF5:=Zt hF5 hb19
   refine Zb (Zc hE rfl fun a hE=>Ze ?_)
   obtain rfl:=Option.some.inj hF5
   exact wp_ret (Zo (kr1 hE rfl rfl hM.kept))
  ·intro hb19
   have hF5:=Zu hF5 hb19
   refine wp_skip (Zq (wp_seq (Zb (Zf hE rfl (X1) fun a hE=>Zw (v:=v0_2) hE rfl TZ rfl (At.cat (pre:=[[v0_1],[vI p0.Next]]) hM.rawAt0 ck) fun a hE=>Yb hE rfl Tryz.underlying55 (hM.rd hv0_2) fun a hE=>Zd hE rfl fun a hE=>Ze ?_))))
   obtain ⟨j20,hl21,hF22⟩:=bind_some hF5
   refine ZI (fun a w=>∃ s23 : Unit,j20 = Fl.nx s23 ∧ Env 84 a [(1,(ptr b1 0))] ∧ M (Old w0) w0 w [raw b1 (cat [[v0_1],[vI p0.Next],[v0_2],[v0_3],enc p0.Head])]) ?_ ?_
   ·skip
    refine wp_block ?_
    refine ZD (fun (s24 : Int) a w=>Env 84 a [(1,(ptr b1 0)),(29,v0_2),(30,(vI (p0.Records.length : Int))),(31,vI s24)] ∧ M (Old w0) w0 w [raw b1 (cat [[v0_1],[vI p0.Next],[v0_2],[v0_3],enc p0.Head])]) hl21 ⟨hE.sub ⟨rfl,rfl,rfl,rfl,trivial⟩,hM⟩ ?_
    rintro s24 a w ⟨hE,hM⟩ o27 hs25 hx26
    unfold Ve at hs25
    refine Zb (Zg hE rfl rfl rfl fun a hE=>Ze (wp_seq ?_))
    refine Zm hE rfl ?_ ?_
    ·intro hb28
     have hs25:=Zt hs25 hb28
     refine wp_skip (Zq (wp_seq (wp_block (Zb (Zd hE rfl ?_))))); intro a hE
     obtain ⟨x29,hi31,hs25⟩:=bix hs25
     refine ZN hE rfl rfl Tryz.underlying55 Z4 (hM.rd hv0_2) hi31.1 ?_; intro a hE
     obtain ⟨cs32,hs33,hA34⟩:=Ww hv0_2 hi31.2 -- ^
     obtain ⟨u35,u37,rfl,h36,h38⟩:=YM hs33 -- ^
     refine Zn hE rfl Z4 rfl (hM.atk hA34 (V9 hv0_2 hi31.2)) cq fun a hE=>ZA hE hM Z4 fun b39 w a hM hE=>Zc hE rfl fun a hE=>Zk (seg:=cat [[vI x29.Number],[vI x29.Version],enc x29.Nonce,[u35],[u37],enc x29.Tag]) (cs':=cat [[vI x29.Number],[vI x29.Version],enc x29.Nonce,[u35],[u37],enc x29.Tag]) hE hM Za rfl rfl rfl Z4 cq (Nat.le_of_eq ((Nat.zero_add _).trans (Eq.trans cq (Eq.symm cq)))) (ZX (cc1 (Flat.cell (x29.Number : Int)) (cc1 (Flat.cell (x29.Version : Int)) (cc1 (Flat.cell _) (cc1 (Rep.cell (hM.rd h36)) (cc1 (Rep.cell (hM.rd h38)) (cc1 (Flat.cell _) cc0))))))) (Zi (Eq.trans cq (Eq.symm cq))) fun w a hM hE=>Ze (wp_seq ?_)
     obtain ⟨j41,hl42,hF43⟩:=bind_some hs25
     refine ZQ (fun a w=>Env 84 a [(1,(ptr b1 0)),(4,(ptr b39 0)),(29,v0_2),(30,(vI (p0.Records.length : Int))),(31,vI s24),(58,vT j41)] ∧ M (Old w0) w0 w [raw b39 (cat [[vI x29.Number],[vI x29.Version],enc x29.Nonce,[u35],[u37],enc x29.Tag]),raw b1 (cat [[v0_1],[vI p0.Next],[v0_2],[v0_3],enc p0.Head])]) ?_ ?_
     ·skip
      obtain ⟨r45,e46,hl42⟩:=bind_some hl42
      refine Wk (!r45) (fun hb47=>?_) (fun hb47=>?_)
      ·have hl42:=Zt hl42 hb47
       refine Yc [36,37,38,39,40,41,42,43,44,45,46,47,48,49,50,51,52,53,54,55,56,57,58] Y4 rfl rfl (by decide) rfl hE hM (qsP (fun z=>Zs z.E Za ld rfl (Ua) (kr0 rfl)) (qsP (fun z=>ZS (v:=(vI x29.Number)) z.E Za ld rfl ty2 rfl (At.cat (pre:=[]) (z.M.rawAt0) cl0) (kr0 rfl)) (qsP (fun z=>Zs z.E Za ld rfl (Qu) (kr0 rfl)) (qsP (fun z=>ZS (v:=(vI p0.Next)) z.E Za ld rfl ty2 rfl (At.cat (pre:=[[v0_1]]) (z.M.rawAt1) ck) (kr0 rfl)) (qsP (v:=(vI (wr (p0.Next - 1)))) (fun z=>Yv z.E Za ld rfl rfl rfl (kr0 rfl)) (qsP (fun z=>Z7 z.E Za ld rfl K1 (Y2 _ x29.Number 1 (wr (p0.Next - 1)) r45 e46) (kc rfl)) (qsP (fun z=>QB z.E Za ld rfl (kr0 rfl)) (qsP (fun z=>Zv z.E Za ld rfl (kr0 rfl)) (qsP (fun z=>Zp z.E rfl (lkb rfl hb47) rfl (by decide) (kr0 rfl)) (qsP (fun z=>Zp z.E rfl (lkb rfl hb47) rfl (by decide) (kr0 rfl)) (qsP (fun z=>Zp z.E rfl (lkb rfl hb47) rfl (by decide) (kr0 rfl)) (qsP (fun z=>T2 z.E rfl rfl (by decide) (kr0 rfl)) (qsP (fun z=>T2 z.E rfl rfl (by decide) (kr0 rfl)) (qsP (fun z=>T2 z.E rfl rfl (by decide) (kr0 rfl)) (qsP (fun z=>T2 z.E rfl rfl (by decide) (kr0 rfl)) (qsP (fun z=>T2 z.E rfl rfl (by decide) (kr0 rfl)) (qsP (fun z=>T2 z.E rfl rfl (by decide) (kr0 rfl)) (qsP (fun z=>T2 z.E rfl rfl (by decide) (kr0 rfl)) (qsP (fun z=>T2 z.E rfl rfl (by decide) (kr0 rfl)) (qsP (fun z=>T2 z.E rfl rfl (by decide) (kr0 rfl)) (qsP (fun z=>T2 z.E rfl rfl (by decide) (kr0 rfl)) (qsP (fun z=>Zp z.E rfl (lkb rfl hb47) rfl (by decide) (kr0 rfl)) (qsP (fun z=>KP z.E Za ld (lkb rfl hb47) rfl (kr0 rfl)) qs0))))))))))))))))))))))) ?_
       ·intro a w u hE hM
        refine Zh ?_
        obtain rfl:=Option.some.inj hl42
        refine Zj ?_
        exact ⟨hE.sub ⟨rfl,rfl,rfl,rfl,rfl,rfl,trivial⟩,hM⟩
      ·have hl42:=Zu hl42 hb47
       refine Wk (decide (s24 > 0)) (fun hb49=>?_) (fun hb49=>?_)
       ·have hl42:=Zt hl42 hb49
        obtain ⟨x50,hi52,hl42⟩:=bix hl42
        obtain ⟨cs53,hs54,hA55⟩:=Ww hv0_2 hi52.2 -- ^
        obtain ⟨u56,u58,rfl,h57,h59⟩:=YM hs54 -- ^
        refine Yc [36,37,38,39,40,41,42,43,44,45,46,47,48,49,50,51,52,53,54,55,56,57,58] Y4 rfl rfl (by decide) rfl hE hM (qsP (fun z=>Zs z.E Za ld rfl (Ua) (kr0 rfl)) (qsP (fun z=>ZS (v:=(vI x29.Number)) z.E Za ld rfl ty2 rfl (At.cat (pre:=[]) (z.M.rawAt0) cl0) (kr0 rfl)) (qsP (fun z=>Zs z.E Za ld rfl (Qu) (kr0 rfl)) (qsP (fun z=>ZS (v:=(vI p0.Next)) z.E Za ld rfl ty2 rfl (At.cat (pre:=[[v0_1]]) (z.M.rawAt1) ck) (kr0 rfl)) (qsP (v:=(vI (wr (p0.Next - 1)))) (fun z=>Yv z.E Za ld rfl rfl rfl (kr0 rfl)) (qsP (fun z=>Z7 z.E Za ld rfl K1 (Y2 _ x29.Number 1 (wr (p0.Next - 1)) r45 e46) (kc rfl)) (qsP (fun z=>QB z.E Za ld rfl (kr0 rfl)) (qsP (fun z=>Zv z.E Za ld rfl (kr0 rfl)) (qsP (fun z=>Zv z.E (Zr z.E rfl (lkb rfl hb47)) (by decide) rfl (kr0 rfl)) (qsP (fun z=>Yv z.E (Zr z.E rfl (lkb rfl hb47)) (by decide) rfl rfl rfl (kr0 rfl)) (qsP (fun z=>Zv z.E (Zr z.E rfl (lkb rfl hb47)) (by decide) rfl (kr0 rfl)) (qsP (fun z=>Zs z.E (Zr z.E rfl (lkb rfl hb49)) (by decide) rfl (X1) (kr0 rfl)) (qsP (fun z=>ZS (v:=v0_2) z.E (Zr z.E rfl (lkb rfl hb49)) (by decide) rfl TZ rfl (At.cat (pre:=[[v0_1],[vI p0.Next]]) (z.M.rawAt1) ck) (kr0 rfl)) (qsP (fun z=>Zv z.E (Zr z.E rfl (lkb rfl hb49)) (by decide) rfl (kr0 rfl)) (qsP (v:=(vI (wr (s24 - 1)))) (fun z=>Yv z.E (Zr z.E rfl (lkb rfl hb49)) (by decide) rfl rfl rfl (kr0 rfl)) (qsP (fun z=>Wn z.E (Zr z.E rfl (lkb rfl hb49)) (by decide) rfl rfl Tryz.underlying55 Z4 (z.M.rd hv0_2) hi52.1 (kr0 rfl)) (qsP (fun z=>Zs z.E (Zr z.E rfl (lkb rfl hb49)) (by decide) rfl (Ua) (kr0 rfl)) (qsP (fun z=>ZS (v:=(vI x50.Number)) z.E (Zr z.E rfl (lkb rfl hb49)) (by decide) rfl ty2 rfl (At.cat (pre:=[]) (z.M.atk hA55 (V9 hv0_2 hi52.2)) cl0) (kr0 rfl)) (qsP (fun z=>Zs z.E (Zr z.E rfl (lkb rfl hb49)) (by decide) rfl (Ua) (kr0 rfl)) (qsP (fun z=>ZS (v:=(vI x29.Number)) z.E (Zr z.E rfl (lkb rfl hb49)) (by decide) rfl ty2 rfl (At.cat (pre:=[]) (z.M.rawAt0) cl0) (kr0 rfl)) (qsP (fun z=>Yv z.E (Zr z.E rfl (lkb rfl hb49)) (by decide) rfl rfl rfl (kr0 rfl)) (qsP (fun z=>KP z.E (Zr z.E rfl (lkb rfl hb47)) (by decide) (lkb rfl hb49) rfl (kr0 rfl)) (qsP (fun z=>Q8 z.E Za ld (lkb rfl hb47) rfl (kr0 rfl)) qs0))))))))))))))))))))))) ?_
        ·intro a w u hE hM
         refine Zh ?_
         obtain rfl:=Option.some.inj hl42
         refine Zj ?_
         exact ⟨hE.sub ⟨rfl,rfl,rfl,rfl,rfl,rfl,trivial⟩,hM⟩
       ·have hl42:=Zu hl42 hb49
        refine Yc [36,37,38,39,40,41,42,43,44,45,46,47,48,49,50,51,52,53,54,55,56,57,58] Y4 rfl rfl (by decide) rfl hE hM (qsP (fun z=>Zs z.E Za ld rfl (Ua) (kr0 rfl)) (qsP (fun z=>ZS (v:=(vI x29.Number)) z.E Za ld rfl ty2 rfl (At.cat (pre:=[]) (z.M.rawAt0) cl0) (kr0 rfl)) (qsP (fun z=>Zs z.E Za ld rfl (Qu) (kr0 rfl)) (qsP (fun z=>ZS (v:=(vI p0.Next)) z.E Za ld rfl ty2 rfl (At.cat (pre:=[[v0_1]]) (z.M.rawAt1) ck) (kr0 rfl)) (qsP (v:=(vI (wr (p0.Next - 1)))) (fun z=>Yv z.E Za ld rfl rfl rfl (kr0 rfl)) (qsP (fun z=>Z7 z.E Za ld rfl K1 (Y2 _ x29.Number 1 (wr (p0.Next - 1)) r45 e46) (kc rfl)) (qsP (fun z=>QB z.E Za ld rfl (kr0 rfl)) (qsP (fun z=>Zv z.E Za ld rfl (kr0 rfl)) (qsP (fun z=>Zv z.E (Zr z.E rfl (lkb rfl hb47)) (by decide) rfl (kr0 rfl)) (qsP (fun z=>Yv z.E (Zr z.E rfl (lkb rfl hb47)) (by decide) rfl rfl rfl (kr0 rfl)) (qsP (fun z=>Zv z.E (Zr z.E rfl (lkb rfl hb47)) (by decide) rfl (kr0 rfl)) (qsP (fun z=>Zp z.E rfl (lkb rfl hb49) rfl (by decide) (kr0 rfl)) (qsP (fun z=>Zp z.E rfl (lkb rfl hb49) rfl (by decide) (kr0 rfl)) (qsP (fun z=>Zp z.E rfl (lkb rfl hb49) rfl (by decide) (kr0 rfl)) (qsP (fun z=>Zp z.E rfl (lkb rfl hb49) rfl (by decide) (kr0 rfl)) (qsP (fun z=>Zp z.E rfl (lkb rfl hb49) rfl (by decide) (kr0 rfl)) (qsP (fun z=>Zp z.E rfl (lkb rfl hb49) rfl (by decide) (kr0 rfl)) (qsP (fun z=>Zp z.E rfl (lkb rfl hb49) rfl (by decide) (kr0 rfl)) (qsP (fun z=>Zp z.E rfl (lkb rfl hb49) rfl (by decide) (kr0 rfl)) (qsP (fun z=>Zp z.E rfl (lkb rfl hb49) rfl (by decide) (kr0 rfl)) (qsP (fun z=>Zp z.E rfl (lkb rfl hb49) rfl (by decide) (kr0 rfl)) (qsP (fun z=>Q8 z.E (Zr z.E rfl (lkb rfl hb47)) (by decide) (lkb rfl hb49) rfl (kr0 rfl)) (qsP (fun z=>Q8 z.E Za ld (lkb rfl hb47) rfl (kr0 rfl)) qs0))))))))))))))))))))))) ?_
        ·intro a w u hE hM
         refine Zh ?_
         obtain rfl:=Option.some.inj hl42
         refine Zj ?_
         exact ⟨hE.sub ⟨rfl,rfl,rfl,rfl,rfl,rfl,trivial⟩,hM⟩
     ·skip
      rintro a w ⟨hE,hM⟩
      refine Zm hE rfl ?_ ?_
      ·intro hb62
       have hF43:=Zt hF43 hb62
       refine Zb (Zc hE rfl fun a hE=>Ze ?_)
       obtain rfl:=hx26 _ (ois hF43)
       obtain rfl:=Option.some.inj hF22
       exact wp_ret (Zo (Yf (Zo (Zo (Yf (Zo (Zo (kr1 hE rfl rfl hM.kept))))))))
      ·intro hb62
       have hF43:=Zu hF43 hb62
       refine wp_skip (Zq ?_)
       obtain ⟨j64,hl65,hF66⟩:=bind_some hF43
       refine ZQ (fun a w=>Env 84 a [(1,(ptr b1 0)),(29,v0_2),(30,(vI (p0.Records.length : Int))),(31,vI s24),(78,vT j64)] ∧ M (Old w0) w0 w [raw b1 (cat [[v0_1],[vI p0.Next],[v0_2],[v0_3],enc p0.Head])]) ?_ ?_
       ·skip
        obtain ⟨r68,e69,hl65⟩:=bind_some hl65
        obtain ⟨r70,e71,hl65⟩:=bind_some hl65
        refine Wk (!r70) (fun hb72=>?_) (fun hb72=>?_)
        ·have hl65:=Zt hl65 hb72
         refine Yc [59,60,61,62,63,64,65,66,67,68,69,70,71,72,73,74,75,76,77,78] Y4 rfl rfl (by decide) rfl hE hM (qsP (fun z=>Zs z.E Za ld rfl (Qi) (kr0 rfl)) (qsP (fun z=>ZS (v:=(vI x29.Version)) z.E Za ld rfl ty2 rfl (At.cat (pre:=[[vI x29.Number]]) (z.M.rawAt0) ck) (kr0 rfl)) (qsP (fun z=>Zs z.E Za ld rfl (TL) (kr0 rfl)) (qsP (fun z=>ZS (v:=v0_1) z.E Za ld rfl Jw rfl (At.cat (pre:=[]) (z.M.rawAt1) cl0) (kr0 rfl)) (qsP (fun z=>Z7 z.E Za ld rfl jZ (XO _ p0.Keys v0_1 (z.M.rdo hv0_1) r68 e69) (kc rfl)) (qsP (v:=(vI (wr (r68 - 1)))) (fun z=>Yv z.E Za ld rfl rfl rfl (kr0 rfl)) (qsP (fun z=>Z7 z.E Za ld rfl K1 (Y2 _ x29.Version 0 (wr (r68 - 1)) r70 e71) (kc rfl)) (qsP (fun z=>QB z.E Za ld rfl (kr0 rfl)) (qsP (fun z=>Zv z.E Za ld rfl (kr0 rfl)) (qsP (fun z=>Zp z.E rfl (lkb rfl hb72) rfl (by decide) (kr0 rfl)) (qsP (fun z=>Zp z.E rfl (lkb rfl hb72) rfl (by decide) (kr0 rfl)) (qsP (fun z=>Zp z.E rfl (lkb rfl hb72) rfl (by decide) (kr0 rfl)) (qsP (fun z=>Zp z.E rfl (lkb rfl hb72) rfl (by decide) (kr0 rfl)) (qsP (fun z=>KP z.E Za ld (lkb rfl hb72) rfl (kr0 rfl)) (qsP (fun z=>Zv z.E Za ld rfl (kr0 rfl)) (qsP (fun z=>Zp z.E rfl rfl rfl (by decide) (kr0 rfl)) (qsP (fun z=>Zp z.E rfl rfl rfl (by decide) (kr0 rfl)) (qsP (fun z=>Zp z.E rfl rfl rfl (by decide) (kr0 rfl)) (qsP (fun z=>Zp z.E rfl rfl rfl (by decide) (kr0 rfl)) (qsP (fun z=>KP z.E Za ld rfl rfl (kr0 rfl)) qs0)))))))))))))))))))) ?_
         ·intro a w u hE hM
          refine Zh ?_
          obtain rfl:=Option.some.inj hl65
          refine Zj ?_
          have hM:=M.fst (l:=[_]) hM.pull1
          exact ⟨hE.sub ⟨rfl,rfl,rfl,rfl,rfl,trivial⟩,hM⟩
        ·have hl65:=Zu hl65 hb72
         refine Wk (decide ((x29.Label.length : Int) > 32)) (fun hb74=>?_) (fun hb74=>?_)
         ·have hl65:=Zt hl65 hb74
          refine Yc [59,60,61,62,63,64,65,66,67,68,69,70,71,72,73,74,75,76,77,78] Y4 rfl rfl (by decide) rfl hE hM (qsP (fun z=>Zs z.E Za ld rfl (Qi) (kr0 rfl)) (qsP (fun z=>ZS (v:=(vI x29.Version)) z.E Za ld rfl ty2 rfl (At.cat (pre:=[[vI x29.Number]]) (z.M.rawAt0) ck) (kr0 rfl)) (qsP (fun z=>Zs z.E Za ld rfl (TL) (kr0 rfl)) (qsP (fun z=>ZS (v:=v0_1) z.E Za ld rfl Jw rfl (At.cat (pre:=[]) (z.M.rawAt1) cl0) (kr0 rfl)) (qsP (fun z=>Z7 z.E Za ld rfl jZ (XO _ p0.Keys v0_1 (z.M.rdo hv0_1) r68 e69) (kc rfl)) (qsP (v:=(vI (wr (r68 - 1)))) (fun z=>Yv z.E Za ld rfl rfl rfl (kr0 rfl)) (qsP (fun z=>Z7 z.E Za ld rfl K1 (Y2 _ x29.Version 0 (wr (r68 - 1)) r70 e71) (kc rfl)) (qsP (fun z=>QB z.E Za ld rfl (kr0 rfl)) (qsP (fun z=>Zv z.E Za ld rfl (kr0 rfl)) (qsP (fun z=>Zs z.E (Zr z.E rfl (lkb rfl hb72)) (by decide) rfl (Tz) (kr0 rfl)) (qsP (fun z=>ZS (v:=u35) z.E (Zr z.E rfl (lkb rfl hb72)) (by decide) rfl Ui rfl (At.cat (pre:=[[vI x29.Number],[vI x29.Version],enc x29.Nonce]) (z.M.rawAt0) ck) (kr0 rfl)) (qsP (fun z=>QE z.E (Zr z.E rfl (lkb rfl hb72)) (by decide) rfl Tryz.underlying40 (z.M.rd h36) (kr0 rfl)) (qsP (fun z=>Yv z.E (Zr z.E rfl (lkb rfl hb72)) (by decide) rfl rfl rfl (kr0 rfl)) (qsP (fun z=>Q8 z.E Za ld (lkb rfl hb72) rfl (kr0 rfl)) (qsP (fun z=>Zv z.E Za ld rfl (kr0 rfl)) (qsP (fun z=>Zp z.E rfl (lkb rfl hb74) rfl (by decide) (kr0 rfl)) (qsP (fun z=>Zp z.E rfl (lkb rfl hb74) rfl (by decide) (kr0 rfl)) (qsP (fun z=>Zp z.E rfl (lkb rfl hb74) rfl (by decide) (kr0 rfl)) (qsP (fun z=>Zp z.E rfl (lkb rfl hb74) rfl (by decide) (kr0 rfl)) (qsP (fun z=>KP z.E Za ld (lkb rfl hb74) rfl (kr0 rfl)) qs0)))))))))))))))))))) ?_
          ·intro a w u hE hM
           refine Zh ?_
           obtain rfl:=Option.some.inj hl65
           refine Zj ?_
           have hM:=M.fst (l:=[_]) hM.pull1
           exact ⟨hE.sub ⟨rfl,rfl,rfl,rfl,rfl,trivial⟩,hM⟩
         ·have hl65:=Zu hl65 hb74
          refine Yc [59,60,61,62,63,64,65,66,67,68,69,70,71,72,73,74,75,76,77,78] Y4 rfl rfl (by decide) rfl hE hM (qsP (fun z=>Zs z.E Za ld rfl (Qi) (kr0 rfl)) (qsP (fun z=>ZS (v:=(vI x29.Version)) z.E Za ld rfl ty2 rfl (At.cat (pre:=[[vI x29.Number]]) (z.M.rawAt0) ck) (kr0 rfl)) (qsP (fun z=>Zs z.E Za ld rfl (TL) (kr0 rfl)) (qsP (fun z=>ZS (v:=v0_1) z.E Za ld rfl Jw rfl (At.cat (pre:=[]) (z.M.rawAt1) cl0) (kr0 rfl)) (qsP (fun z=>Z7 z.E Za ld rfl jZ (XO _ p0.Keys v0_1 (z.M.rdo hv0_1) r68 e69) (kc rfl)) (qsP (v:=(vI (wr (r68 - 1)))) (fun z=>Yv z.E Za ld rfl rfl rfl (kr0 rfl)) (qsP (fun z=>Z7 z.E Za ld rfl K1 (Y2 _ x29.Version 0 (wr (r68 - 1)) r70 e71) (kc rfl)) (qsP (fun z=>QB z.E Za ld rfl (kr0 rfl)) (qsP (fun z=>Zv z.E Za ld rfl (kr0 rfl)) (qsP (fun z=>Zs z.E (Zr z.E rfl (lkb rfl hb72)) (by decide) rfl (Tz) (kr0 rfl)) (qsP (fun z=>ZS (v:=u35) z.E (Zr z.E rfl (lkb rfl hb72)) (by decide) rfl Ui rfl (At.cat (pre:=[[vI x29.Number],[vI x29.Version],enc x29.Nonce]) (z.M.rawAt0) ck) (kr0 rfl)) (qsP (fun z=>QE z.E (Zr z.E rfl (lkb rfl hb72)) (by decide) rfl Tryz.underlying40 (z.M.rd h36) (kr0 rfl)) (qsP (fun z=>Yv z.E (Zr z.E rfl (lkb rfl hb72)) (by decide) rfl rfl rfl (kr0 rfl)) (qsP (fun z=>Q8 z.E Za ld (lkb rfl hb72) rfl (kr0 rfl)) (qsP (fun z=>Zv z.E Za ld rfl (kr0 rfl)) (qsP (fun z=>Zs z.E (Zr z.E rfl (lkb rfl hb74)) (by decide) rfl (TU) (kr0 rfl)) (qsP (fun z=>ZS (v:=u37) z.E (Zr z.E rfl (lkb rfl hb74)) (by decide) rfl Ui rfl (At.cat (pre:=[[vI x29.Number],[vI x29.Version],enc x29.Nonce,[u35]]) (z.M.rawAt0) ck) (kr0 rfl)) (qsP (fun z=>QE z.E (Zr z.E rfl (lkb rfl hb74)) (by decide) rfl Tryz.underlying40 (z.M.rd h38) (kr0 rfl)) (qsP (fun z=>Yv z.E (Zr z.E rfl (lkb rfl hb74)) (by decide) rfl rfl rfl (kr0 rfl)) (qsP (fun z=>Q8 z.E Za ld (lkb rfl hb74) rfl (kr0 rfl)) qs0)))))))))))))))))))) ?_
          ·intro a w u hE hM
           refine Zh ?_
           obtain rfl:=Option.some.inj hl65
           refine Zj ?_
           have hM:=M.fst (l:=[_]) hM.pull1
           exact ⟨hE.sub ⟨rfl,rfl,rfl,rfl,rfl,trivial⟩,hM⟩
       ·skip
        rintro a w ⟨hE,hM⟩
        refine Zm hE rfl ?_ ?_
        ·intro hb77
         have hF66:=Zt hF66 hb77
         refine Zb (Zc hE rfl fun a hE=>Ze ?_)
         obtain rfl:=hx26 _ (ois hF66)
         obtain rfl:=Option.some.inj hF22
         exact wp_ret (Yf (Zo (Zo (Yf (Zo (Zo (kr1 hE rfl rfl hM.kept)))))))
        ·intro hb77
         have hF66:=Zu hF66 hb77
         refine wp_skip (Z2 (Zq (wp_region_lit (Zg hE rfl rfl rfl fun a hE=>Zd hE rfl fun a hE=>Zh (Zj ?_)))))
         exact ⟨_,(ois hF66),hE.sub ⟨rfl,rfl,rfl,rfl,trivial⟩,hM⟩
    ·intro hb28
     have hs25:=Zu hs25 hb28
     refine wp_exit (Zl (Zl (Z3 ?_)))
     obtain rfl:=hx26 _ (ois hs25)
     refine Zj ?_
     exact ⟨(),rfl,hE.sub ⟨rfl,trivial⟩,hM⟩
   ·skip
    rintro a w ⟨s23,ht,hE,hM⟩
    subst ht
    have hF22:=Tg hF22
    refine Zq (Zb (Zf hE rfl (VM) fun a hE=>Zw (v:=v0_3) hE rfl QM rfl (At.cat (pre:=[[v0_1],[vI p0.Next],[v0_2]]) hM.rawAt0 ck) ?_)); intro a hE
    obtain ⟨r80,e81,hF22⟩:=bind_some hF22
    refine Zx hE rfl (cbm Tryz.func159) (VY _ p0.Events v0_3 (hM.rdo hv0_3) (fun z0=>VS z0) 160 [] (cbm Tryz.func160) (fun w2 hk2 z0 zr zhr=>Hv w2 z0 zr zhr) r80 e81) ?_
    rintro v w a ⟨rfl,hK⟩ hE
    have hM:=hM.keep hK
    refine TX hE rfl fun a hE=>Zc hE rfl fun a hE=>Ze ?_
    obtain rfl:=Option.some.inj hF22
    exact wp_ret (kr1 hE rfl rfl hM.kept)
def Yy (p0 : (List GRecord)) (p1 : GRecord → Option (Bool)) (s5 : Int) : Option (Fl Int (Fl Unit Int)) :=
 if (decide (s5 < (p0.length : Int))) = true then ((idx p0 s5).bind fun x10=>((p1 x10)).bind fun r20=>if r20 = true then (some (Fl.ex (Fl.ex s5))) else (some (Fl.nx (wr (s5 + 1))))) else (some (Fl.ex (Fl.nx ())))
def Z9 (p0 : (List GRecord)) (p1 : GRecord → Option (Bool)) : Option (Int) :=
 (ZB (Yy p0 p1) 0).bind fun j1=>j1.el (fun s4=>some (-1)) (fun r=>some r)
theorem V5 (w0 : World) (p0 : (List GRecord)) (v0_1 : Value) (hv0_1 : Ro w0 p0 [v0_1]) (p1 : GRecord → Option (Bool)) (k1 : Nat) (q1 : List Value) (hcb1 : Callable Tryz.prog k1) (hg1 : ∀ (w2 : World),Kept (Old w0) w0 w2 → ∀ (z0 : GRecord) (zu1 : Value) (_ : Ro w2 z0.Label [zu1]) (zu2 : Value) (_ : Ro w2 z0.Body [zu2]) (zr : Bool),p1 z0 = some zr → Calls Tryz.prog k1 ([(Value.agg (cat [[vI z0.Number],[vI z0.Version],enc z0.Nonce,[zu1],[zu2],enc z0.Tag]).toArray)] ++ q1).toArray w2 (fun en w3=>∃ v,en = .returned v ∧ (v = (vT zr) ∧ Kept (Old w2) w2 w3))) (r : Int) (hF : Z9 p0 p1 = some r) :
  Calls Tryz.prog 188 [v0_1,(Value.func (.func k1) #[] q1.toArray)].toArray w0 (Rt w0 (vI r)):=by
 refine ce Tryz.func188 ?_
 intro a hE
 have hM:=M.start w0
 unfold Z9 at hF
 refine Zb (Zc hE rfl fun a hE=>Ze (wp_seq (Zb (Zd hE rfl fun a hE=>Yb hE rfl Tryz.underlying55 (hM.rd hv0_1) fun a hE=>Zd hE rfl fun a hE=>Ze ?_))))
 obtain ⟨j1,hl2,hF3⟩:=bind_some hF
 refine ZI (fun a w=>∃ s4 : Unit,j1 = Fl.nx s4 ∧ Env 19 a [] ∧ M (Old w0) w0 w []) ?_ ?_
 ·skip
  refine wp_block ?_
  refine ZD (fun (s5 : Int) a w=>Env 19 a [(0,v0_1),(1,(Value.func (.func k1) #[] q1.toArray)),(7,(vI (p0.length : Int))),(8,vI s5)] ∧ M (Old w0) w0 w []) hl2 ⟨hE.sub ⟨rfl,rfl,rfl,rfl,trivial⟩,hM⟩ ?_
  rintro s5 a w ⟨hE,hM⟩ o8 hs6 hx7
  unfold Yy at hs6
  refine Zb (Zg hE rfl rfl rfl fun a hE=>Ze (wp_seq ?_))
  refine Zm hE rfl ?_ ?_
  ·intro hb9
   have hs6:=Zt hs6 hb9
   refine wp_skip (Zq (wp_seq (wp_block (Zb (Zd hE rfl fun a hE=>Zc hE rfl fun a hE=>Ze (Zb (Zd hE rfl fun a hE=>Zd hE rfl fun a hE=>Zd hE rfl ?_))))))); intro a hE
   obtain ⟨x10,hi12,hs6⟩:=bix hs6
   refine ZN hE rfl rfl Tryz.underlying55 Z4 (hM.rd hv0_1) hi12.1 ?_; intro a hE
   obtain ⟨cs13,hs14,hA15⟩:=Ww hv0_1 hi12.2 -- ^
   obtain ⟨u16,u18,rfl,h17,h19⟩:=YM hs14 -- ^
   refine Zn hE rfl Z4 rfl (hM.atk hA15 (V9 hv0_1 hi12.2)) cq ?_; intro a hE
   obtain ⟨r20,e21,hs6⟩:=bind_some hs6
   refine yu (vs:=[(Value.agg (cat [[vI x10.Number],[vI x10.Version],enc x10.Nonce,[u16],[u18],enc x10.Tag]).toArray)]) hE Za ld rfl rfl hcb1 (hg1 _ hM.kept x10 u16 (hM.rdo h17) u18 (hM.rdo h19) r20 e21) ?_
   rintro v w a ⟨rfl,hK⟩ hE
   have hM:=hM.keep hK
   refine Ze ?_
   refine Zm hE rfl ?_ ?_
   ·intro hb22
    have hs6:=Zt hs6 hb22
    refine Zb (Zd hE rfl fun a hE=>Zc hE rfl fun a hE=>Ze ?_)
    obtain rfl:=hx7 _ (ois hs6)
    obtain rfl:=Option.some.inj hF3
    exact wp_ret (Yf (Zo (Zo (Yf (Zo (Zo (kr1 hE rfl rfl hM.kept)))))))
   ·intro hb22
    have hs6:=Zu hs6 hb22
    refine wp_skip (Z2 (Zq (wp_region_lit (Zg hE rfl rfl rfl fun a hE=>Zd hE rfl fun a hE=>Zh (Zj ?_)))))
    exact ⟨_,(ois hs6),hE.sub ⟨rfl,rfl,rfl,rfl,trivial⟩,hM⟩
  ·intro hb9
   have hs6:=Zu hs6 hb9
   refine wp_exit (Zl (Zl (Z3 ?_)))
   obtain rfl:=hx7 _ (ois hs6)
   refine Zj ?_
   exact ⟨(),rfl,hE.sub trivial,hM⟩
 ·skip
  rintro a w ⟨s4,ht,hE,hM⟩
  subst ht
  have hF3:=Tg hF3
  refine Zq (Zb (Zc hE rfl fun a hE=>Ze ?_))
  obtain rfl:=Option.some.inj hF3
  exact wp_ret (kr1 hE rfl rfl hM.kept)
def Vj (p0 : GRecord) (p1 : Int) : Option (Bool) :=
 some (p0.Number == p1)
theorem Kw (w0 : World) (p0 : GRecord) (v0_1 : Value) (hv0_1 : Ro w0 p0.Label [v0_1]) (v0_2 : Value) (hv0_2 : Ro w0 p0.Body [v0_2]) (pb1 : Nat) (p1 : Int) (hA1 : At w0 pb1 0 ([vI p1])) (hB1 : Old w0 pb1) (r : Bool) (hF : Vj p0 p1 = some r) :
  Calls Tryz.prog 189 [(Value.agg (cat [[vI p0.Number],[vI p0.Version],enc p0.Nonce,[v0_1],[v0_2],enc p0.Tag]).toArray),(ptr pb1 0)].toArray w0 (Rt w0 (vT r)):=by
 refine ce Tryz.func189 ?_
 intro a hE
 have hM:=M.start w0
 unfold Vj at hF
 refine Zb (ZV (cs:=cat [[vI p0.Number],[vI p0.Version],enc p0.Nonce,[v0_1],[v0_2],enc p0.Tag]) hE hM Za ld rfl rfl fun b1 w a hM hE=>Zc hE rfl fun a hE=>Ze (Zb (Zf hE rfl (Ua) fun a hE=>Zw (v:=(vI p0.Number)) hE rfl ty2 rfl (At.cat (pre:=[]) hM.rawAt0 cl0) fun a hE=>Zw (v:=(vI p1)) hE rfl ty2 rfl (hM.atk hA1 hB1) fun a hE=>Zg hE rfl rfl rfl fun a hE=>Zc hE rfl fun a hE=>Ze ?_)))
 obtain rfl:=Option.some.inj hF
 exact wp_ret (kr1 hE rfl rfl hM.kept)
def WX (p0 : GVault) (p1 : Int) : Option (Int) :=
 (Z9 p0.Records (fun z0=>Vj z0 p1)).bind fun r5=>some r5
theorem Jt (w0 : World) (p0 : GVault) (v0_1 : Value) (hv0_1 : Ro w0 p0.Keys [v0_1]) (v0_2 : Value) (hv0_2 : Ro w0 p0.Records [v0_2]) (v0_3 : Value) (hv0_3 : Ro w0 p0.Events [v0_3]) (p1 : Int) (r : Int) (hF : WX p0 p1 = some r) :
  Calls Tryz.prog 147 [(Value.agg (cat [[v0_1],[vI p0.Next],[v0_2],[v0_3],enc p0.Head]).toArray),vI p1].toArray w0 (Rt w0 (vI r)):=by
 refine ce Tryz.func147 ?_
 intro a hE
 have hM:=M.start w0
 unfold WX at hF
 refine Zb (ZV (cs:=cat [[v0_1],[vI p0.Next],[v0_2],[v0_3],enc p0.Head]) hE hM Za ld rfl rfl fun b1 w a hM hE=>ZV (cs:=[vI p1]) hE hM Za ld rfl rfl fun b3 w a hM hE=>Zc hE rfl fun a hE=>Ze (Zb (Zf hE rfl (X1) fun a hE=>Zw (v:=v0_2) hE rfl TZ rfl (At.cat (pre:=[[v0_1],[vI p0.Next]]) hM.rawAt1 ck) fun a hE=>y7 hE Za ld rfl ?_))); intro a hE
 obtain ⟨r5,e6,hF⟩:=bind_some hF
 refine Zx hE rfl (cbm Tryz.func188) (V5 _ p0.Records v0_2 (hM.rdo hv0_2) (fun z0=>Vj z0 p1) 189 [(ptr b3 0)] (cbm Tryz.func189) (fun w2 hk2 z0 zu0_0 zh0_0 zu0_1 zh0_1 zr zhr=>Kw w2 z0 zu0_0 zh0_0 zu0_1 zh0_1 b3 p1 (qR hM.rawAt0 hk2 (by simp [cat])) (yf hM.rawAt0 hk2 (by simp [cat])) zr zhr) r5 e6) ?_
 rintro v w a ⟨rfl,hK⟩ hE
 have hM:=hM.keep hK
 refine Zc hE rfl fun a hE=>Ze ?_
 obtain rfl:=Option.some.inj hF
 exact wp_ret (kr1 hE rfl rfl hM.kept)
def WV (p0 : GVault) (p1 : Int) : Option (Int × Int) :=
 (UM p0).bind fun r3=>if (!r3) = true then (some (0,1)) else ((WX p0 p1).bind fun r6=>if (decide (r6 < 0)) = true then (some (0,4)) else (some (r6,0)))
theorem Jo (w0 : World) (p0 : GVault) (v0_1 : Value) (hv0_1 : Ro w0 p0.Keys [v0_1]) (v0_2 : Value) (hv0_2 : Ro w0 p0.Records [v0_2]) (v0_3 : Value) (hv0_3 : Ro w0 p0.Events [v0_3]) (p1 : Int) (r : Int × Int) (hF : WV p0 p1 = some r) :
  Calls Tryz.prog 86 [(Value.agg (cat [[v0_1],[vI p0.Next],[v0_2],[v0_3],enc p0.Head]).toArray),vI p1].toArray w0 (Rt w0 (Value.tuple [vI r.1,vI r.2].toArray)):=by
 refine ce Tryz.func86 ?_
 intro a hE
 have hM:=M.start w0
 unfold WV at hF
 refine Zb (ZV (cs:=cat [[v0_1],[vI p0.Next],[v0_2],[v0_3],enc p0.Head]) hE hM Za ld rfl rfl fun b1 w a hM hE=>Zc hE rfl fun a hE=>Zc hE rfl fun a hE=>Ze (wp_seq (Zb (Zn hE rfl Ys rfl hM.rawAt0 cq ?_)))); intro a hE
 obtain ⟨r3,e4,hF⟩:=bind_some hF
 refine Zx hE rfl (cbm Tryz.func103) (B5 _ p0 v0_1 (hM.rdo hv0_1) v0_2 (hM.rdo hv0_2) v0_3 (hM.rdo hv0_3) r3 e4) ?_
 rintro v w a ⟨rfl,hK⟩ hE
 have hM:=hM.keep hK
 refine TX hE rfl fun a hE=>Ze ?_
 refine Zm hE rfl ?_ ?_
 ·intro hb5
  have hF:=Zt hF hb5
  refine Zb (Zc hE rfl fun a hE=>Zc hE rfl fun a hE=>Ze ?_)
  obtain rfl:=Option.some.inj hF
  exact wp_ret (Zo (T0 hE rfl (ZT hE rfl) (ZT hE rfl) ⟨_,rfl,rfl,hM.kept⟩))
 ·intro hb5
  have hF:=Zu hF hb5
  refine wp_skip (Zq (Zb (Zn hE rfl Ys rfl hM.rawAt0 cq fun a hE=>Zd hE rfl ?_))); intro a hE
  obtain ⟨r6,e7,hF⟩:=bind_some hF
  refine Zx hE rfl (cbm Tryz.func147) (Jt _ p0 v0_1 (hM.rdo hv0_1) v0_2 (hM.rdo hv0_2) v0_3 (hM.rdo hv0_3) p1 r6 e7) ?_
  rintro v w a ⟨rfl,hK⟩ hE
  have hM:=hM.keep hK
  refine Zc hE rfl fun a hE=>Ze (wp_seq (Zb (Zd hE rfl fun a hE=>Zg hE rfl rfl rfl fun a hE=>Ze ?_)))
  refine Zm hE rfl ?_ ?_
  ·intro hb8
   have hF:=Zt hF hb8
   refine Zb (Zc hE rfl fun a hE=>Zc hE rfl fun a hE=>Ze ?_)
   obtain rfl:=Option.some.inj hF
   exact wp_ret (Zo (T0 hE rfl (ZT hE rfl) (ZT hE rfl) ⟨_,rfl,rfl,hM.kept⟩))
  ·intro hb8
   have hF:=Zu hF hb8
   refine wp_skip (Zq (Zb (Zd hE rfl fun a hE=>Zc hE rfl fun a hE=>Zc hE rfl fun a hE=>Ze ?_)))
   obtain rfl:=Option.some.inj hF
   exact wp_ret (T0 hE rfl (ZT hE rfl) (ZT hE rfl) ⟨_,rfl,rfl,hM.kept⟩)
def Z6 (p0 : (List (Vector UInt8 16))) : Option ((List (Vector UInt8 16))) :=
 (app 16 ([] : List (Vector UInt8 16)) p0).bind fun l7=>some (([] : List (Vector UInt8 16)) ++ p0)
theorem Tk (w0 : World) (p0 : (List (Vector UInt8 16))) (v0_1 : Value) (hv0_1 : Ro w0 p0 [v0_1]) (r : (List (Vector UInt8 16))) (hF : Z6 p0 = some r) :
  Calls Tryz.prog 148 [v0_1].toArray w0 (fun en w'=>∃ v,en = .returned v ∧ (∃ (y1 : Value),v = y1 ∧ Fr w0 w' [osl NoB (r : List (Vector UInt8 16)) y1] ∧ Kept (Old w0) w0 w')):=by
 refine ce Tryz.func148 ?_
 intro a hE
 have hM:=M.start w0
 unfold Z6 at hF
 refine Zb (Zc hE rfl fun a hE=>Ze (wp_seq (Zb (Zd hE rfl fun a hE=>zm hE Za ld rfl rfl Tryz.underlying54 (hM.rd hv0_1) fun bn1 a hn2 hE=>Ze ?_))))
 refine Zm hE rfl ?_ ?_
 ·intro hb3
  have h0:=hn2 hb3
  have hF : some ([]) = some r:=by rw [h0] at hF; simpa [app] using hF
  refine Zb (Zc hE rfl fun a hE=>Ze ?_)
  have hM:=M.nilS (α:=(Vector UInt8 16)) NoB noB hM
  obtain rfl:=Option.some.inj hF
  exact wp_ret (Zo (ZL hE rfl (ZT hE rfl) ⟨_,rfl,(Value.slice none 0 0),rfl,hM.outF (Yq Xy),hM.kept⟩))
 ·intro hb3
  refine wp_skip (Zq (Zb (Yi (xs:=[]) (l:=([] : List (Vector UInt8 16))) (vs:=[]) hE hM Za ld rfl rfl Tryz.underlying54 ZG rfl (by decide) rfl fun u5 w a hM hE=>Zd hE rfl ?_))); intro a hE
  obtain ⟨l7,e8,hF⟩:=bind_some hF
  have e11:=(Yr e8).1
  refine Yh hE hM Za ld rfl rfl (hM.rd hv0_1) Tryz.underlying54 ZG rfl (by decide) e11 fun u9 w a hM hE=>Zc hE rfl fun a hE=>Ze ?_
  obtain rfl:=Option.some.inj hF
  exact wp_ret (ZL hE rfl (ZT hE rfl) ⟨_,rfl,u9,rfl,hM.outF (Yq Xy),hM.kept⟩)
def Z5 (p0 : (List GEvent)) : Option ((List GEvent)) :=
 (app 48 ([] : List GEvent) p0).bind fun l7=>some (([] : List GEvent) ++ p0)
theorem Tn (w0 : World) (p0 : (List GEvent)) (v0_1 : Value) (hv0_1 : Ro w0 p0 [v0_1]) (r : (List GEvent)) (hF : Z5 p0 = some r) :
  Calls Tryz.prog 149 [v0_1].toArray w0 (fun en w'=>∃ v,en = .returned v ∧ (∃ (y1 : Value),v = y1 ∧ Fr w0 w' [osl NoB (r : List GEvent) y1] ∧ Kept (Old w0) w0 w')):=by
 refine ce Tryz.func149 ?_
 intro a hE
 have hM:=M.start w0
 unfold Z5 at hF
 refine Zb (Zc hE rfl fun a hE=>Ze (wp_seq (Zb (Zd hE rfl fun a hE=>zm hE Za ld rfl rfl Tryz.underlying56 (hM.rd hv0_1) fun bn1 a hn2 hE=>Ze ?_))))
 refine Zm hE rfl ?_ ?_
 ·intro hb3
  have h0:=hn2 hb3
  have hF : some ([]) = some r:=by rw [h0] at hF; simpa [app] using hF
  refine Zb (Zc hE rfl fun a hE=>Ze ?_)
  have hM:=M.nilS (α:=GEvent) NoB noB hM
  obtain rfl:=Option.some.inj hF
  exact wp_ret (Zo (ZL hE rfl (ZT hE rfl) ⟨_,rfl,(Value.slice none 0 0),rfl,hM.outF (Yq Xy),hM.kept⟩))
 ·intro hb3
  refine wp_skip (Zq (Zb (Yi (xs:=[]) (l:=([] : List GEvent)) (vs:=[]) hE hM Za ld rfl rfl Tryz.underlying56 Y3 rfl (by decide) rfl fun u5 w a hM hE=>Zd hE rfl ?_))); intro a hE
  obtain ⟨l7,e8,hF⟩:=bind_some hF
  have e11:=(Yr e8).1
  refine Yh hE hM Za ld rfl rfl (hM.rd hv0_1) Tryz.underlying56 Y3 rfl (by decide) e11 fun u9 w a hM hE=>Zc hE rfl fun a hE=>Ze ?_
  obtain rfl:=Option.some.inj hF
  exact wp_ret (ZL hE rfl (ZT hE rfl) ⟨_,rfl,u9,rfl,hM.outF (Yq Xy),hM.kept⟩)
def Yl (p0 : (List UInt8)) : Option ((List UInt8)) :=
 (app 1 ([] : List UInt8) p0).bind fun l7=>some (([] : List UInt8) ++ p0)
theorem Vu (w0 : World) (p0 : (List UInt8)) (v0_1 : Value) (hv0_1 : Ro w0 p0 [v0_1]) (r : (List UInt8)) (hF : Yl p0 = some r) :
  Calls Tryz.prog 75 [v0_1].toArray w0 (fun en w'=>∃ v,en = .returned v ∧ (∃ (y1 : Value),v = y1 ∧ Fr w0 w' [osl NoB (r : List UInt8) y1] ∧ Kept (Old w0) w0 w')):=by
 refine ce Tryz.func75 ?_
 intro a hE
 have hM:=M.start w0
 unfold Yl at hF
 refine Zb (Zc hE rfl fun a hE=>Ze (wp_seq (Zb (Zd hE rfl fun a hE=>zm hE Za ld rfl rfl Tryz.underlying40 (hM.rd hv0_1) fun bn1 a hn2 hE=>Ze ?_))))
 refine Zm hE rfl ?_ ?_
 ·intro hb3
  have h0:=hn2 hb3
  have hF : some ([]) = some r:=by rw [h0] at hF; simpa [app] using hF
  refine Zb (Zc hE rfl fun a hE=>Ze ?_)
  have hM:=M.nilS (α:=UInt8) NoB noB hM
  obtain rfl:=Option.some.inj hF
  exact wp_ret (Zo (ZL hE rfl (ZT hE rfl) ⟨_,rfl,(Value.slice none 0 0),rfl,hM.outF (Yq Xy),hM.kept⟩))
 ·intro hb3
  refine wp_skip (Zq (Zb (Yi (xs:=[]) (l:=([] : List UInt8)) (vs:=[]) hE hM Za ld rfl rfl Tryz.underlying40 ty5 rfl (by decide) rfl fun u5 w a hM hE=>Zd hE rfl ?_))); intro a hE
  obtain ⟨l7,e8,hF⟩:=bind_some hF
  have e11:=(Yr e8).1
  refine Yh hE hM Za ld rfl rfl (hM.rd hv0_1) Tryz.underlying40 ty5 rfl (by decide) e11 fun u9 w a hM hE=>Zc hE rfl fun a hE=>Ze ?_
  obtain rfl:=Option.some.inj hF
  exact wp_ret (ZL hE rfl (ZT hE rfl) ⟨_,rfl,u9,rfl,hM.outF (Yq Xy),hM.kept⟩)
def Wp (p0 : GVault) (s21 : (List GRecord) × Int) : Option (Fl ((List GRecord) × Int) (List GRecord)) :=
 if (decide (s21.2 < (p0.Records.length : Int))) = true then ((idx p0.Records s21.2).bind fun x29=>((Yl x29.Label).bind fun r49=>(Yl x29.Body).bind fun r52=>some (r49,r52) : Option ((List UInt8) × (List UInt8))).bind fun j41=>(app 112 s21.1 ([(⟨x29.Number,x29.Version,x29.Nonce,j41.1,j41.2,x29.Tag⟩ : GRecord)] : List GRecord)).bind fun l58=>some (Fl.nx ((s21.1 ++ ([(⟨x29.Number,x29.Version,x29.Nonce,j41.1,j41.2,x29.Tag⟩ : GRecord)] : List GRecord)),wr (s21.2 + 1)))) else (some (Fl.ex s21.1))
def WR (p0 : GVault) : Option (GVault) :=
 (Z6 p0.Keys).bind fun r6=>(Z5 p0.Events).bind fun r9=>(ZB (Wp p0) ([],0)).bind fun j16=>some (⟨r6,p0.Next,j16,r9,p0.Head⟩ : GVault)
theorem Ja (w0 : World) (p0 : GVault) (v0_1 : Value) (hv0_1 : Ro w0 p0.Keys [v0_1]) (v0_2 : Value) (hv0_2 : Ro w0 p0.Records [v0_2]) (v0_3 : Value) (hv0_3 : Ro w0 p0.Events [v0_3]) (r : GVault) (hF : WR p0 = some r) :
  Calls Tryz.prog 87 [(Value.agg (cat [[v0_1],[vI p0.Next],[v0_2],[v0_3],enc p0.Head]).toArray)].toArray w0 (fun en w'=>∃ v,en = .returned v ∧ (∃ (y1 : Value) (y2 : Value) (y3 : Value),v = (Value.agg (cat [[y1],[vI r.Next],[y2],[y3],enc r.Head]).toArray) ∧ Fr w0 w' [osl NoB (r.Keys : List (Vector UInt8 16)) y1,osl NoB (r.Records : List GRecord) y2,osl NoB (r.Events : List GEvent) y3] ∧ Kept (Old w0) w0 w')):=by
 refine ce Tryz.func87 ?_
 intro a hE
 have hM:=M.start w0
 unfold WR at hF
 refine Zb (ZV (cs:=cat [[v0_1],[vI p0.Next],[v0_2],[v0_3],enc p0.Head]) hE hM Za ld rfl rfl fun b1 w a hM hE=>ZA hE hM Ys fun b3 w a hM hE=>Ze (wp_seq ?_))
 obtain ⟨r6,e7,hF⟩:=bind_some hF
 obtain ⟨r9,e10,hF⟩:=bind_some hF
 refine XQ (its:=[raw b3 (cat [[(Value.slice none 0 0)],[vI 0],[(Value.slice none 0 0)],[(Value.slice none 0 0)],enc (Vector.replicate 32 (0 : UInt8))]),raw b1 (cat [[v0_1],[vI p0.Next],[v0_2],[v0_3],enc p0.Head])]) (mk:=([mkO 2 (fun v=>osl NoB (r6 : List (Vector UInt8 16)) v),mkO 7 (fun v=>osl NoB (r9 : List GEvent) v),mkO 11 (fun v=>TO v (cat [[(Value.slice none 0 0)],[vI 0],[(Value.slice none 0 0)],[(Value.slice none 0 0)],enc (Vector.replicate 32 (0 : UInt8))]))] : Mk)) [6,7,8,9,10,11,12,13,14,15,16,3] Y4 rfl rfl (by decide) rfl hE (fun u=>M.qE (M.qE (M.qE (M.q0 hM.drew u) emO) emO) emO) (qsP (fun z=>Zs z.E Za ld rfl (TL) (kr0 rfl)) (qsP (v:=v0_1) ?_ (qsM (pr:=fun v=>True) ?_ (qsP (fun z=>Zs z.E Za ld rfl (Qu) (kr0 rfl)) (qsP (v:=(vI p0.Next)) ?_ (qsP (fun z=>Zs z.E Za ld rfl (VM) (kr0 rfl)) (qsP (v:=v0_3) ?_ (qsM (pr:=fun v=>True) ?_ (qsP (fun z=>Zs z.E Za ld rfl (Jb) (kr0 rfl)) (qsP (v:=(Value.agg (enc p0.Head).toArray)) ?_ (qsD (ds:=[2,7]) (f:=fun us=>(Value.agg (cat [[(us.getD 0 undef)],[vI p0.Next],[(Value.slice none 0 0)],[(us.getD 1 undef)],enc p0.Head]).toArray)) ?_ (qsM (pr:=fun v=>True) ?_ qs0)))))))))))) ?_
 ·intro a w ux5 D z
  have hE:=z.E
  have hM:=z.M
  exact Zw (v:=v0_1) hE rfl Jw rfl (At.cat (pre:=[]) hM.rawAt1 cl0) fun a hE=>⟨Kept.refl _ _,_,rfl,hE⟩
 ·intro a w ux5 D z
  have hE:=z.E
  have hD : D 2 = false:=z.F
  have hM0:=z.M
  have hM:=z.M
  refine Zx hE rfl (cbm Tryz.func148) (Tk _ p0.Keys v0_1 (hM.rdo hv0_1) r6 e7) ?_
  rintro _ w a ⟨_,rfl,hFr,hK⟩ hE
  have hM:=hM0.add hK hFr
  exact ⟨_,_,rfl,hE,M.qFill (mk1:=[]) (mk2:=[_,_]) (f:=(fun v=>osl NoB (r6 : List (Vector UInt8 16)) v)) hM rfl hD,trivial⟩
 ·intro a w ux5 D z
  have hE:=z.E
  have hM:=z.M
  exact Zw (v:=(vI p0.Next)) hE rfl ty2 rfl (At.cat (pre:=[[v0_1]]) hM.rawAt1 ck) fun a hE=>⟨Kept.refl _ _,_,rfl,hE⟩
 ·intro a w ux5 D z
  have hE:=z.E
  have hM:=z.M
  exact Zw (v:=v0_3) hE rfl QM rfl (At.cat (pre:=[[v0_1],[vI p0.Next],[v0_2]]) hM.rawAt1 ck) fun a hE=>⟨Kept.refl _ _,_,rfl,hE⟩
 ·intro a w ux5 D z
  have hE:=z.E
  have hD : D 7 = false:=z.F
  have hM0:=z.M
  have hM:=z.M
  refine Zx hE rfl (cbm Tryz.func149) (Tn _ p0.Events v0_3 (hM.rdo hv0_3) r9 e10) ?_
  rintro _ w a ⟨_,rfl,hFr,hK⟩ hE
  have hM:=hM0.add hK hFr
  exact ⟨_,_,rfl,hE,M.qFill (mk1:=[_]) (mk2:=[_]) (f:=(fun v=>osl NoB (r9 : List GEvent) v)) hM rfl hD,trivial⟩
 ·intro a w ux5 D z
  have hE:=z.E
  have hM:=z.M
  exact Zn hE rfl Yt rfl (At.cat (pre:=[[v0_1],[vI p0.Next],[v0_2],[v0_3]]) hM.rawAt1 ck) (Flat.len _) fun a hE=>⟨Kept.refl _ _,_,rfl,hE⟩
 ·intro a w ux5 D z
  have hE:=z.E
  have d2 : D 2 = true:=z.p 0 _ rfl rfl
  have d7 : D 7 = true:=z.p 2 _ rfl rfl
  have hM:=(z.M.sure (pre:=[_,_]) d2).sure (pre:=[_,_,_]) d7
  exact Wl (parts:=[(0,.tmp 8),(1,.tmp 10),(3,.tmp 13),(4,.tmp 15)]) (vs:=[(0,(ux5 2)),(1,vI p0.Next),(3,(ux5 7)),(4,(Value.agg (enc p0.Head).toArray))]) (cs:=cat [[(ux5 2)],[vI p0.Next],[(Value.slice none 0 0)],[(ux5 7)],enc p0.Head]) hE Za ld rfl rfl Ys jA (Ym (pre:=[]) (seg:=[(Value.slice none 0 0)]) (seg':=[(ux5 2)]) (post:=[[vI 0],[(Value.slice none 0 0)],[(Value.slice none 0 0)],enc (Vector.replicate 32 (0 : UInt8))]) rfl cl0 rfl rfl (Yz (hM.sl (pre:=[_,_]) noB)) (Ym (pre:=[[(ux5 2)]]) (seg:=[vI 0]) (seg':=[vI p0.Next]) (post:=[[(Value.slice none 0 0)],[(Value.slice none 0 0)],enc (Vector.replicate 32 (0 : UInt8))]) rfl ck rfl rfl rfl (Ym (pre:=[[(ux5 2)],[vI p0.Next],[(Value.slice none 0 0)]]) (seg:=[(Value.slice none 0 0)]) (seg':=[(ux5 7)]) (post:=[enc (Vector.replicate 32 (0 : UInt8))]) rfl ck rfl rfl (Yz (hM.sl (pre:=[_,_,_]) noB)) (Ym (pre:=[[(ux5 2)],[vI p0.Next],[(Value.slice none 0 0)],[(ux5 7)]]) (seg:=enc (Vector.replicate 32 (0 : UInt8))) (seg':=enc p0.Head) (post:=[]) rfl ck (Flat.len _) (Flat.len _) rfl Uq)))) fun a hE=>⟨Kept.refl _ _,(allC d2 (allC d7 allN)),_,rfl,hE⟩
 ·intro a w ux5 D z
  have hE:=z.E
  have hD : D 11 = false:=z.F
  have hM:=z.M
  refine ZA hE hM Ys ?_; intro b12 w a hM hE
  have hM:=hM.pack1 (it:=TO _ (cat [[(Value.slice none 0 0)],[vI 0],[(Value.slice none 0 0)],[(Value.slice none 0 0)],enc (Vector.replicate 32 (0 : UInt8))])) (fun w w' fp ⟨b',e,k⟩ hb=>⟨b',e,XC w w' fp k hb⟩) (fun fp k=>⟨_,rfl,k⟩)
  exact ⟨_,_,rfl,hE,M.qFill (mk1:=[_,_]) (mk2:=[]) (f:=fun v=>TO v (cat [[(Value.slice none 0 0)],[vI 0],[(Value.slice none 0 0)],[(Value.slice none 0 0)],enc (Vector.replicate 32 (0 : UInt8))])) hM rfl hD,trivial⟩
 ·intro a w ux5 D hE hM hG hall
  have d2:=hall 2 (by decide)
  have d7:=hall 7 (by decide)
  have d11:=hall 11 (by decide)
  have hM:=(((hM.sure (pre:=[_,_]) d2).sure (pre:=[_,_,_]) d7).sure (pre:=[_,_,_,_]) d11).pull
  obtain ⟨_,⟨b14,f15,_⟩,_⟩:=hM.head
  have hM:=hM.pack1 XC (it:=raw b14 (cat [[(Value.slice none 0 0)],[vI 0],[(Value.slice none 0 0)],[(Value.slice none 0 0)],enc (Vector.replicate 32 (0 : UInt8))])) (fun fp ⟨b2,e2,k2⟩=>by rw [f15] at e2; simp [ptr] at e2; subst e2; exact k2)
  have hE:=hE.setq (t:=3) rfl f15
  refine Zk (seg:=cat [[(ux5 2)],[vI p0.Next],[(Value.slice none 0 0)],[(ux5 7)],enc p0.Head]) (cs':=cat [[(ux5 2)],[vI p0.Next],[(Value.slice none 0 0)],[(ux5 7)],enc p0.Head]) hE hM Za rfl rfl rfl Ys cq (Nat.le_of_eq ((Nat.zero_add _).trans (Eq.trans cq (Eq.symm cq)))) (ZX (cc1 (Rep.cell (hM.sl (pre:=[_,_,_]) noB)) (cc1 (Flat.cell (p0.Next : Int)) (cc1 Vn (cc1 (Rep.cell (hM.sl (pre:=[_,_,_,_]) noB)) (cc1 (Flat.cell _) cc0)))))) (Zi (Eq.trans cq (Eq.symm cq))) fun w a hM hE=>Zh (Zq (wp_seq (Zb (Zf hE rfl (X1) fun a hE=>Zw (v:=v0_2) hE rfl TZ rfl (At.cat (pre:=[[v0_1],[vI p0.Next]]) hM.rawAt2 ck) fun a hE=>Yb hE rfl Tryz.underlying55 (hM.rd hv0_2) fun a hE=>Zd hE rfl fun a hE=>Ze ?_))))
  obtain ⟨j16,hl17,hF18⟩:=bind_some hF
  refine ZI (fun a w=>∃ (u19 : Value),Env 40 a [(2,(ptr b3 0)),(3,(ptr b14 0))] ∧ M (Old w0) w0 w [raw b14 (cat [[(ux5 2)],[vI p0.Next],[u19],[(ux5 7)],enc p0.Head]),raw b3 (cat [[(Value.slice none 0 0)],[vI 0],[(Value.slice none 0 0)],[(Value.slice none 0 0)],enc (Vector.replicate 32 (0 : UInt8))]),osl NoB (r6 : List (Vector UInt8 16)) (ux5 2),osl NoB (r9 : List GEvent) (ux5 7),osl NoB (j16 : List GRecord) u19]) ?_ ?_
  ·skip
   refine wp_block ?_
   have hM:=M.fst (l:=[_,_,_,_,_]) (((((M.nilS (α:=GRecord) NoB noB hM).pull5).pull5).pull4).pull4)
   refine ZD (fun (s21 : (List GRecord) × Int) a w=>∃ (u22 : Value),Env 40 a [(2,(ptr b3 0)),(3,(ptr b14 0)),(18,v0_2),(19,(vI (p0.Records.length : Int))),(20,vI s21.2)] ∧ M (Old w0) w0 w [raw b14 (cat [[(ux5 2)],[vI p0.Next],[u22],[(ux5 7)],enc p0.Head]),raw b3 (cat [[(Value.slice none 0 0)],[vI 0],[(Value.slice none 0 0)],[(Value.slice none 0 0)],enc (Vector.replicate 32 (0 : UInt8))]),osl NoB (r6 : List (Vector UInt8 16)) (ux5 2),osl NoB (r9 : List GEvent) (ux5 7),osl NoB (s21.1 : List GRecord) u22]) hl17 ⟨(Value.slice none 0 0),hE.sub ⟨rfl,rfl,rfl,rfl,rfl,trivial⟩,hM⟩ ?_
   rintro s21 a w ⟨u22,hE,hM⟩ o26 hs24 hx25
   unfold Wp at hs24
   refine Zb (Zg hE rfl rfl rfl fun a hE=>Ze (wp_seq ?_))
   refine Zm hE rfl ?_ ?_
   ·intro hb28
    have hs24:=Zt hs24 hb28
    refine wp_skip (Zq (wp_seq (wp_block (Zb ?_))))
    obtain ⟨x29,hi31,hs24⟩:=bix hs24
    refine ZN hE rfl rfl Tryz.underlying55 Z4 (hM.rd hv0_2) hi31.1 ?_; intro a hE
    obtain ⟨cs32,hs33,hA34⟩:=Ww hv0_2 hi31.2 -- ^
    obtain ⟨u35,u37,rfl,h36,h38⟩:=YM hs33 -- ^
    refine Zn hE rfl Z4 rfl (hM.atk hA34 (V9 hv0_2 hi31.2)) cq fun a hE=>ZA hE hM Z4 fun b39 w a hM hE=>Zk (seg:=cat [[vI x29.Number],[vI x29.Version],enc x29.Nonce,[u35],[u37],enc x29.Tag]) (cs':=cat [[vI x29.Number],[vI x29.Version],enc x29.Nonce,[u35],[u37],enc x29.Tag]) hE hM Za rfl rfl rfl Z4 cq (Nat.le_of_eq ((Nat.zero_add _).trans (Eq.trans cq (Eq.symm cq)))) (ZX (cc1 (Flat.cell (x29.Number : Int)) (cc1 (Flat.cell (x29.Version : Int)) (cc1 (Flat.cell _) (cc1 (Rep.cell (hM.rd h36)) (cc1 (Rep.cell (hM.rd h38)) (cc1 (Flat.cell _) cc0))))))) (Zi (Eq.trans cq (Eq.symm cq))) fun w a hM hE=>Ze ?_
    obtain ⟨j41,hl42,hF43⟩:=bind_some hs24
    refine ZQ (fun a w=>∃ (u44 : Value) (u46 : Value),Env 40 a [(2,(ptr b3 0)),(3,(ptr b14 0)),(5,(ptr b39 0)),(18,v0_2),(19,(vI (p0.Records.length : Int))),(20,vI s21.2)] ∧ M (Old w0) w0 w [raw b39 (cat [[vI x29.Number],[vI x29.Version],enc x29.Nonce,[u44],[u46],enc x29.Tag]),raw b14 (cat [[(ux5 2)],[vI p0.Next],[u22],[(ux5 7)],enc p0.Head]),raw b3 (cat [[(Value.slice none 0 0)],[vI 0],[(Value.slice none 0 0)],[(Value.slice none 0 0)],enc (Vector.replicate 32 (0 : UInt8))]),osl NoB (r6 : List (Vector UInt8 16)) (ux5 2),osl NoB (r9 : List GEvent) (ux5 7),osl NoB (s21.1 : List GRecord) u22,osl NoB (j41.1 : List UInt8) u44,osl NoB (j41.2 : List UInt8) u46]) ?_ ?_
    ·skip
     obtain ⟨r49,e50,hl42⟩:=bind_some hl42
     obtain ⟨r52,e53,hl42⟩:=bind_some hl42
     refine XQ (its:=[raw b39 (cat [[vI x29.Number],[vI x29.Version],enc x29.Nonce,[u35],[u37],enc x29.Tag]),raw b14 (cat [[(ux5 2)],[vI p0.Next],[u22],[(ux5 7)],enc p0.Head]),raw b3 (cat [[(Value.slice none 0 0)],[vI 0],[(Value.slice none 0 0)],[(Value.slice none 0 0)],enc (Vector.replicate 32 (0 : UInt8))]),osl NoB (r6 : List (Vector UInt8 16)) (ux5 2),osl NoB (r9 : List GEvent) (ux5 7),osl NoB (s21.1 : List GRecord) u22]) (mk:=([mkO 2 (fun v=>osl NoB (r49 : List UInt8) v),mkO 5 (fun v=>osl NoB (r52 : List UInt8) v)] : Mk)) [24,25,26,27,28,29,30] Y4 rfl rfl (by decide) rfl hE (fun u=>M.qE (M.qE (M.q0 hM.drew u) emO) emO) (qsP (fun z=>Zs z.E Za ld rfl (Tz) (kr0 rfl)) (qsP (v:=u35) ?_ (qsM (pr:=fun v=>True) ?_ (qsP (fun z=>Zs z.E Za ld rfl (TU) (kr0 rfl)) (qsP (v:=u37) ?_ (qsM (pr:=fun v=>True) ?_ (qsP (fun z=>Zs z.E Za ld rfl (Tz) (kr0 rfl)) qs0))))))) ?_
     ·intro a w ux48 D z
      have hE:=z.E
      have hM:=z.M
      exact Zw (v:=u35) hE rfl Ui rfl (At.cat (pre:=[[vI x29.Number],[vI x29.Version],enc x29.Nonce]) hM.rawAt0 ck) fun a hE=>⟨Kept.refl _ _,_,rfl,hE⟩
     ·intro a w ux48 D z
      have hE:=z.E
      have hD : D 2 = false:=z.F
      have hM0:=z.M
      have hM:=z.M
      refine Zx hE rfl cb75 (Vu _ x29.Label u35 (hM.rdo h36) r49 e50) ?_
      rintro _ w a ⟨_,rfl,hFr,hK⟩ hE
      have hM:=hM0.add hK hFr
      exact ⟨_,_,rfl,hE,M.qFill (mk1:=[]) (mk2:=[_]) (f:=(fun v=>osl NoB (r49 : List UInt8) v)) hM rfl hD,trivial⟩
     ·intro a w ux48 D z
      have hE:=z.E
      have hM:=z.M
      exact Zw (v:=u37) hE rfl Ui rfl (At.cat (pre:=[[vI x29.Number],[vI x29.Version],enc x29.Nonce,[u35]]) hM.rawAt0 ck) fun a hE=>⟨Kept.refl _ _,_,rfl,hE⟩
     ·intro a w ux48 D z
      have hE:=z.E
      have hD : D 5 = false:=z.F
      have hM0:=z.M
      have hM:=z.M
      refine Zx hE rfl cb75 (Vu _ x29.Body u37 (hM.rdo h38) r52 e53) ?_
      rintro _ w a ⟨_,rfl,hFr,hK⟩ hE
      have hM:=hM0.add hK hFr
      exact ⟨_,_,rfl,hE,M.qFill (mk1:=[_]) (mk2:=[]) (f:=(fun v=>osl NoB (r52 : List UInt8) v)) hM rfl hD,trivial⟩
     ·intro a w ux48 D hE hM hG hall
      have d2:=hall 2 (by decide)
      have d5:=hall 5 (by decide)
      have hM:=(hM.sure (pre:=[_,_,_,_,_,_]) d2).sure (pre:=[_,_,_,_,_,_,_]) d5
      refine Zk (seg:=[(ux48 2)]) hE hM Za rfl rfl (Yz (hM.sl (pre:=[_,_,_,_,_,_]) noB)) Ui rfl (YK (pre:=[[vI x29.Number],[vI x29.Version],enc x29.Nonce]) ck rfl) (Rep.cell (hM.sl (pre:=[_,_,_,_,_,_]) noB)) (ZR (pre:=[[vI x29.Number],[vI x29.Version],enc x29.Nonce]) ck rfl) fun w a hM hE=>Zf hE rfl (TU) fun a hE=>Zk (seg:=[(ux48 5)]) hE hM Za rfl rfl (Yz (hM.sl (pre:=[_,_,_,_,_,_,_]) noB)) Ui rfl (YK (pre:=[[vI x29.Number],[vI x29.Version],enc x29.Nonce,[(ux48 2)]]) ck rfl) (Rep.cell (hM.sl (pre:=[_,_,_,_,_,_,_]) noB)) (ZR (pre:=[[vI x29.Number],[vI x29.Version],enc x29.Nonce,[(ux48 2)]]) ck rfl) fun w a hM hE=>Zh ?_
      obtain rfl:=Option.some.inj hl42
      refine Zj ?_
      exact ⟨(ux48 2),(ux48 5),hE.sub ⟨rfl,rfl,rfl,rfl,rfl,rfl,trivial⟩,hM⟩
    ·skip
     rintro a w ⟨u44,u46,hE,hM⟩
     refine wp_region_lit (Zf hE rfl (X1) fun a hE=>Zw (v:=u22) hE rfl TZ rfl (At.cat (pre:=[[(ux5 2)],[vI p0.Next]]) hM.rawAt1 ck) fun a hE=>Zn hE rfl Z4 rfl hM.rawAt0 cq ?_); intro a hE
     have hM:=hM.pull7.pull7
     have hM:=hM.pack2 (it:=own NoB (⟨x29.Number,x29.Version,x29.Nonce,j41.1,j41.2,x29.Tag⟩ : GRecord) (cat [[vI x29.Number],[vI x29.Version],enc x29.Nonce,[u44],[u46],enc x29.Tag])) (Xj noB) (fun f0 f1 q0 q1=>(W0 (XJ.sat q0) (XJ.sat q1) (by simp)))
     refine z8 (xs:=[.tmp 34]) (seg:=cat [[vI x29.Number],[vI x29.Version],enc x29.Nonce,[u44],[u46],enc x29.Tag]) hE hM noB Za ld rfl rfl Tryz.underlying55 Z4 rfl (by decide) ?_; intro u56 w a hM hE
     obtain ⟨l58,e59,hF43⟩:=bind_some hF43
     obtain ⟨e62,rfl⟩:=Yr e59
     have hM:=hM.pull6
     refine zh hE hM noB Za ld rfl rfl Tryz.underlying55 Z4 rfl (by decide) e62 fun u60 w a hM hE=>Zf hE rfl (X1) ?_; intro a hE
     have hM:=hM.pull2
     refine Zk (seg:=[u60]) hE hM Za rfl rfl (Yz (hM.sl (pre:=[_]) noB)) TZ rfl (YK (pre:=[[(ux5 2)],[vI p0.Next]]) ck rfl) (Rep.cell (hM.sl (pre:=[_]) noB)) (ZR (pre:=[[(ux5 2)],[vI p0.Next]]) ck rfl) fun w a hM hE=>Zh (Z2 (Zq (wp_region_lit (Zg hE rfl rfl rfl fun a hE=>Zd hE rfl fun a hE=>Zh (Zj ?_)))))
     have hM:=M.fst (l:=[_,_,_,_,_]) hM.pull1.pull5.pull5.pull5.pull4
     exact ⟨_,(ois hF43),u60,hE.sub ⟨rfl,rfl,rfl,rfl,rfl,trivial⟩,hM⟩
   ·intro hb28
    have hs24:=Zu hs24 hb28
    refine wp_exit (Zl (Zl (Z3 ?_)))
    obtain rfl:=hx25 _ (ois hs24)
    refine Zj ?_
    exact ⟨u22,hE.sub ⟨rfl,rfl,trivial⟩,hM⟩
  ·skip
   rintro a w ⟨u19,hE,hM⟩
   refine Zq (Zb (Zn hE rfl Ys rfl hM.rawAt0 cq ?_)); intro a hE
   have hM:=hM.pull1
   refine Zk (seg:=cat [[(ux5 2)],[vI p0.Next],[u19],[(ux5 7)],enc p0.Head]) (cs':=cat [[(ux5 2)],[vI p0.Next],[u19],[(ux5 7)],enc p0.Head]) hE hM Za rfl rfl rfl Ys cq (Nat.le_of_eq ((Nat.zero_add _).trans (Eq.trans cq (Eq.symm cq)))) (ZX (cc1 (Rep.cell (hM.sl (pre:=[_,_]) noB)) (cc1 (Flat.cell (p0.Next : Int)) (cc1 (Rep.cell (hM.sl (pre:=[_,_,_,_]) noB)) (cc1 (Rep.cell (hM.sl (pre:=[_,_,_]) noB)) (cc1 (Flat.cell _) cc0)))))) (Zi (Eq.trans cq (Eq.symm cq))) fun w a hM hE=>Ze ?_
   obtain rfl:=Option.some.inj hF18
   have hq64 : Yu Tryz.prog _ _ (.cell 2 58) _:=ZJ hE rfl Ys rfl hM.rawAt0 cq rfl
   have hM:=M.fst (l:=[_,_,_]) hM.pull3.pull4.pull4
   exact wp_ret (ZL hE rfl hq64 ⟨_,rfl,(ux5 2),u19,(ux5 7),rfl,hM.outF (Yq (Yq (Yq Xy))),hM.kept⟩)
def YI (p0 : List GRecord) (p1 : Int) (p2 : Int) : Option (List GRecord):=delF p0 p1 p2
theorem UF (St : Nat → Prop) (W w0 : World) (its : List Item) (l : List (Opq 52)) (v : Value) (i j : Nat) (hM : M St W w0 (osl NoB l v :: its)) (hij : i ≤ j) (hj : j ≤ l.length) :
  Calls Tryz.prog 88 [v,vI (i : Int),vI (j : Int)].toArray w0 (fun en w'=>∃ y,en = .returned y ∧ M St W w' (osl NoB (l.take i ++ l.drop j) y :: its)):=by
 refine ce Tryz.func88 ?_
 intro a hE
 refine Zb (Zc hE rfl fun a hE=>Ze (Zb (Zd hE rfl fun a hE=>Zd hE rfl fun a hE=>Zd hE rfl fun a hE=>Zd hE rfl fun a hE=>Yb hE rfl Tryz.underlying55 (hM.sl (pre:=[]) noB) fun a hE=>qz hE Za ld rfl rfl rfl rfl Tryz.underlying55 Z4 (hM.sl (pre:=[]) noB) hij hj fun u a hE=>Ze (wp_seq (Zb (Zd hE rfl fun a hE=>Zd hE rfl fun a hE=>Zg hE rfl rfl rfl fun a hE=>Ze ?_))))))
 refine Zm hE rfl ?_ ?_
 ·intro hb
  have hb:=eqI hb
  subst hb
  refine Zb (Zd hE rfl fun a hE=>Zc hE rfl fun a hE=>Ze ?_)
  refine wp_ret (Zo (ZL hE rfl (ZT hE rfl) ⟨_,rfl,?_⟩))
  rw [List.take_append_drop]
  exact hM
 ·intro hb
  have hb:=neI hb
  have hlt : i < j:=by omega
  refine wp_skip (Zq (Zb (Zd hE rfl fun a hE=>Yb hE rfl Tryz.underlying55 (hM.sl (pre:=[]) noB) fun a hE=>Zc hE rfl fun a hE=>Ze (wp_seq ?_))))
  have h1 : slc l 0 (i : Int) = some (l.take i):=by unfold slc; rw [if_pos (by omega)]; simp
  have h2 : slc l (j : Int) (l.length : Int) = some (l.drop j):=by unfold slc; rw [if_pos (by omega)]; simp
  refine Yc [20,21,22,23,24,25] Y4 rfl rfl (by decide) rfl hE hM (qsP (fun z=>Zv z.E Za ld rfl (kr0 rfl)) (qsP (fun z=>Zv z.E Za ld rfl (kr0 rfl)) (qsP (fun z=>Ka (lo:=none) (vhi:=some (vI (i : Int))) (i:=0) (j:=(i : Int)) z.E Za ld rfl rfl rfl rfl rfl Tryz.underlying55 Z4 (z.M.sl (pre:=[]) noB) h1 (kr0 rfl)) (qsP (fun z=>Zv z.E Za ld rfl (kr0 rfl)) (qsP (fun z=>Zv z.E Za ld rfl (kr0 rfl)) (qsP (fun z=>Ka (hi:=none) (vlo:=some (vI (j : Int))) (i:=(j : Int)) (j:=(l.length : Int)) z.E Za ld rfl rfl rfl rfl rfl Tryz.underlying55 Z4 (z.M.sl (pre:=[]) noB) h2 (kr0 rfl)) qs0)))))) ?_
  intro a w u hE hM
  refine qQ (i:=i) (j:=j) hE hM Za ld rfl rfl Tryz.underlying55 Z4 hlt hj fun w a hM hE=>Zc hE rfl fun a hE=>Zh (Zq ?_)
  have hl2 : (l.take i ++ (l.drop j ++ l.drop (l.length - (j - i)))).length = l.length:=by simp; omega
  refine Zb (Zd hE rfl fun a hE=>Zd hE rfl fun a hE=>qt hE hM Za ld rfl Tryz.underlying55 (by omega) fun a hE=>Zd hE rfl fun a hE=>kK (m:=l.length) hE hM Za ld rfl rfl rfl Tryz.underlying55 Z4 (by omega) (by omega) fun a hE=>qB hE hM Za (by rw [hl2]; rfl) Tryz.underlying55 Z4 rfl rfl (by omega) fun q w a hM hE=>Ze (Zb (Zd hE rfl fun a hE=>Zc hE rfl fun a hE=>Ze ?_)))
  exact wp_ret (ZL hE rfl (ZT hE rfl) ⟨_,rfl,M.delCut hM hij hj (by simp; omega)⟩)
theorem UE (St : Nat → Prop) (W w0 : World) (its : List Item) (p0 : List GRecord) (v0_1 : Value) (p1 : Int) (p2 : Int) (hM : M St W w0 (osl NoB p0 v0_1 :: its)) (r : List GRecord) (hF : YI p0 p1 p2 = some r) :
  Calls Tryz.prog 88 [v0_1,vI p1,vI p2].toArray w0 (fun en w'=>∃ v,en = .returned v ∧ (∃ (y1 : Value),v = y1 ∧ M St W w' (osl NoB r y1 :: its))) :=
 qg (α:=GRecord) (fun hM h1 h2=>UF _ _ _ _ _ _ _ _ hM h1 h2) hM hF
def U5 (p1 : Int) (p2 : Int) (s4 : Int × Int) : Option (Fl (Int × Int) Int) :=
 if (decide (s4.2 ≥ p2)) = true then (((Xk s4.2).bind fun _=>(if ((Qn (Tm s4.1 s4.2) 1) == 1) = true then ((Xk (wr (s4.2 - p2))).bind fun _=>some (HJ s4.1 (AG p1 (wr (s4.2 - p2))))) else (some s4.1) : Option (Int)).bind fun j13=>some j13 : Option (Int)).bind fun j9=>some (Fl.nx (j9,wr (s4.2 - 1)))) else (some (Fl.ex s4.1))
def TH (p0 : Int) (p1 : Int) (p2 : Int) : Option (Int) :=
 (ZB (U5 p1 p2) (p0,15)).bind fun j1=>some j1
theorem yZ (w0 : World) (p0 : Int) (p1 : Int) (p2 : Int) (r : Int) (hF : TH p0 p1 p2 = some r) :
  Calls Tryz.prog 240 [vI p0,vI p1,vI p2].toArray w0 (Rt w0 (vI r)):=by
 refine ce Tryz.func240 ?_
 intro a hE
 have hM:=M.start w0
 unfold TH at hF
 refine Zb (Zc hE rfl fun a hE=>Ze (wp_seq (Zb (Zc hE rfl fun a hE=>Ze ?_))))
 obtain ⟨j1,hl2,hF3⟩:=bind_some hF
 refine ZI (fun a w=>Env 26 a [(0,vI j1)] ∧ M (Old w0) w0 w []) ?_ ?_
 ·skip
  refine wp_block ?_
  refine ZD (fun (s4 : Int × Int) a w=>Env 26 a [(0,vI s4.1),(1,vI p1),(2,vI p2),(7,vI s4.2)] ∧ M (Old w0) w0 w []) hl2 ⟨hE.sub ⟨rfl,rfl,rfl,rfl,trivial⟩,hM⟩ ?_
  rintro s4 a w ⟨hE,hM⟩ o7 hs5 hx6
  unfold U5 at hs5
  refine wp_seq (Zb (Zd hE rfl fun a hE=>Zd hE rfl fun a hE=>Zg hE rfl rfl rfl fun a hE=>Ze ?_))
  refine Zm hE rfl ?_ ?_
  ·intro hb8
   have hs5:=Zt hs5 hb8
   refine wp_skip (Zq ?_)
   obtain ⟨j9,hl10,hF11⟩:=bind_some hs5
   refine ZQ (fun a w=>Env 26 a [(0,vI j9),(1,vI p1),(2,vI p2),(7,vI s4.2)] ∧ M (Old w0) w0 w []) ?_ ?_
   ·skip
    refine wp_block (Zb (Zd hE rfl fun a hE=>Zd hE rfl ?_)); intro a hE
    obtain ⟨_,e12,hl10⟩:=bind_some hl10
    have e12:=Wx e12
    refine HD hE Za ld rfl rfl (Ji _ _ e12) fun a hE=>Zg hE rfl rfl rfl fun a hE=>Zg hE rfl rfl rfl fun a hE=>Ze ?_
    obtain ⟨j13,hl14,hF15⟩:=bind_some hl10
    refine ZI (fun a w=>Env 26 a [(0,vI j13),(1,vI p1),(2,vI p2),(7,vI s4.2)] ∧ M (Old w0) w0 w []) ?_ ?_
    ·skip
     refine Zm hE rfl ?_ ?_
     ·intro hb16
      have hl14:=Zt hl14 hb16
      refine wp_region_lit (Zd hE rfl fun a hE=>Zd hE rfl fun a hE=>Zd hE rfl fun a hE=>Zd hE rfl fun a hE=>Zg hE rfl rfl rfl ?_); intro a hE
      obtain ⟨_,e17,hl14⟩:=bind_some hl14
      have e17:=Wx e17
      refine HD hE Za ld rfl rfl (jE _ _ e17) fun a hE=>Zg hE rfl rfl rfl fun a hE=>Zc hE rfl fun a hE=>Zh ?_
      obtain rfl:=Option.some.inj hl14
      refine Zj ?_
      exact ⟨hE.sub ⟨rfl,rfl,rfl,rfl,trivial⟩,hM⟩
     ·intro hb16
      have hl14:=Zu hl14 hb16
      refine wp_skip ?_
      obtain rfl:=Option.some.inj hl14
      refine Zj ?_
      exact ⟨hE.sub ⟨rfl,rfl,rfl,rfl,trivial⟩,hM⟩
    ·skip
     rintro a w ⟨hE,hM⟩
     refine Z2 ?_
     obtain rfl:=Option.some.inj hF15
     refine Zj ?_
     exact ⟨hE.sub ⟨rfl,rfl,rfl,rfl,trivial⟩,hM⟩
   ·skip
    rintro a w ⟨hE,hM⟩
    refine wp_region_lit (Zd hE rfl fun a hE=>Zg hE rfl rfl rfl fun a hE=>Zc hE rfl fun a hE=>Zh (Zj ?_))
    exact ⟨_,(ois hF11),hE.sub ⟨rfl,rfl,rfl,rfl,trivial⟩,hM⟩
  ·intro hb8
   have hs5:=Zu hs5 hb8
   refine wp_exit (Zl (Zl (Z3 ?_)))
   obtain rfl:=hx6 _ (ois hs5)
   refine Zj ?_
   exact ⟨hE.sub ⟨rfl,trivial⟩,hM⟩
 ·skip
  rintro a w ⟨hE,hM⟩
  refine Zq (Zb (Zd hE rfl fun a hE=>Zc hE rfl fun a hE=>Ze ?_))
  obtain rfl:=Option.some.inj hF3
  exact wp_ret (kr1 hE rfl rfl hM.kept)
def Xq (p1 : UInt8) (p2 : UInt8) (s4 : Int × Int) : Option (Fl (Int × Int) Int) :=
 if (decide (s4.2 < 8)) = true then (((Xk s4.2).bind fun _=>(if (((BH p2 s4.2) &&& 1) == 1) = true then ((Xk s4.2).bind fun _=>some (HJ s4.1 (AG (bI p1) s4.2))) else (some s4.1) : Option (Int)).bind fun j13=>some j13 : Option (Int)).bind fun j9=>some (Fl.nx (j9,wr (s4.2 + 1)))) else (some (Fl.ex s4.1))
def Z0 (p0 : Int) (p1 : UInt8) (p2 : UInt8) : Option (UInt8) :=
 (ZB (Xq p1 p2) (0,0)).bind fun j1=>(TH j1 p0 8).bind fun r22=>some (Zy r22)
theorem YO (w0 : World) (p0 : Int) (p1 : UInt8) (p2 : UInt8) (r : UInt8) (hF : Z0 p0 p1 p2 = some r) :
  Calls Tryz.prog 233 [vI p0,vB p1,vB p2].toArray w0 (Rt w0 (vB r)):=by
 refine ce Tryz.func233 ?_
 intro a hE
 have hM:=M.start w0
 unfold Z0 at hF
 refine Zb (Zc hE rfl fun a hE=>Ze (Zb (Zc hE rfl fun a hE=>Ze (wp_seq (Zb (Zd hE rfl fun a hE=>Ze ?_))))))
 obtain ⟨j1,hl2,hF3⟩:=bind_some hF
 refine ZI (fun a w=>Env 28 a [(0,vI p0),(7,vI j1)] ∧ M (Old w0) w0 w []) ?_ ?_
 ·skip
  refine wp_block ?_
  refine ZD (fun (s4 : Int × Int) a w=>Env 28 a [(0,vI p0),(1,vB p1),(2,vB p2),(7,vI s4.1),(9,vI s4.2)] ∧ M (Old w0) w0 w []) hl2 ⟨hE.sub ⟨rfl,rfl,rfl,rfl,rfl,trivial⟩,hM⟩ ?_
  rintro s4 a w ⟨hE,hM⟩ o7 hs5 hx6
  unfold Xq at hs5
  refine Zb (Zg hE rfl rfl rfl fun a hE=>Ze (wp_seq ?_))
  refine Zm hE rfl ?_ ?_
  ·intro hb8
   have hs5:=Zt hs5 hb8
   refine wp_skip (Zq ?_)
   obtain ⟨j9,hl10,hF11⟩:=bind_some hs5
   refine ZQ (fun a w=>Env 28 a [(0,vI p0),(1,vB p1),(2,vB p2),(7,vI j9),(9,vI s4.2)] ∧ M (Old w0) w0 w []) ?_ ?_
   ·skip
    refine wp_block (Zb (Zd hE rfl fun a hE=>Zc hE rfl fun a hE=>Ze (Zb (Zd hE rfl fun a hE=>Zd hE rfl ?_)))); intro a hE
    obtain ⟨_,e12,hl10⟩:=bind_some hl10
    have e12:=Wx e12
    refine HD hE Za ld rfl rfl (Zak _ _ e12) fun a hE=>Zg hE rfl rfl (bB_and (BH p2 s4.2) 1) fun a hE=>Zg hE rfl rfl (qu ((BH p2 s4.2) &&& 1) 1) fun a hE=>Ze ?_
    obtain ⟨j13,hl14,hF15⟩:=bind_some hl10
    refine ZI (fun a w=>Env 28 a [(0,vI p0),(1,vB p1),(2,vB p2),(7,vI j13),(9,vI s4.2)] ∧ M (Old w0) w0 w []) ?_ ?_
    ·skip
     refine Zm hE rfl ?_ ?_
     ·intro hb16
      have hl14:=Zt hl14 hb16
      refine wp_region_lit (Zd hE rfl fun a hE=>Zd hE rfl fun a hE=>Bu hE Za ld rfl Tryz.underlying5 Tryz.underlying2 fun a hE=>Zd hE rfl ?_); intro a hE
      obtain ⟨_,e17,hl14⟩:=bind_some hl14
      have e17:=Wx e17
      refine HD hE Za ld rfl rfl (jE _ _ e17) fun a hE=>Zg hE rfl rfl rfl fun a hE=>Zc hE rfl fun a hE=>Zh ?_
      obtain rfl:=Option.some.inj hl14
      refine Zj ?_
      exact ⟨hE.sub ⟨rfl,rfl,rfl,rfl,rfl,trivial⟩,hM⟩
     ·intro hb16
      have hl14:=Zu hl14 hb16
      refine wp_skip ?_
      obtain rfl:=Option.some.inj hl14
      refine Zj ?_
      exact ⟨hE.sub ⟨rfl,rfl,rfl,rfl,rfl,trivial⟩,hM⟩
    ·skip
     rintro a w ⟨hE,hM⟩
     refine Z2 ?_
     obtain rfl:=Option.some.inj hF15
     refine Zj ?_
     exact ⟨hE.sub ⟨rfl,rfl,rfl,rfl,rfl,trivial⟩,hM⟩
   ·skip
    rintro a w ⟨hE,hM⟩
    refine wp_region_lit (Zg hE rfl rfl rfl fun a hE=>Zd hE rfl fun a hE=>Zh (Zj ?_))
    exact ⟨_,(ois hF11),hE.sub ⟨rfl,rfl,rfl,rfl,rfl,trivial⟩,hM⟩
  ·intro hb8
   have hs5:=Zu hs5 hb8
   refine wp_exit (Zl (Zl (Z3 ?_)))
   obtain rfl:=hx6 _ (ois hs5)
   refine Zj ?_
   exact ⟨hE.sub ⟨rfl,rfl,trivial⟩,hM⟩
 ·skip
  rintro a w ⟨hE,hM⟩
  refine Zq (Zb (Zd hE rfl fun a hE=>Zd hE rfl ?_)); intro a hE
  obtain ⟨r22,e23,hF3⟩:=bind_some hF3
  refine Zx hE rfl (cbm Tryz.func240) (yZ _ j1 p0 8 r22 e23) ?_
  rintro v w a ⟨rfl,hK⟩ hE
  have hM:=hM.keep hK
  refine Yj hE Za ld rfl Tryz.underlying2 Tryz.underlying5 fun a hE=>Zc hE rfl fun a hE=>Ze ?_
  obtain rfl:=Option.some.inj hF3
  exact wp_ret (kr1 hE rfl rfl hM.kept)
def Vy (p0 : Int) (s4 : UInt8 × Int × UInt8) : Option (Fl (UInt8 × Int × UInt8) UInt8) :=
 if (decide (s4.2.1 > 0)) = true then (((if ((Int.tmod s4.2.1 2) == 1) = true then ((Z0 p0 s4.2.2 s4.1).bind fun r16=>some r16) else (some s4.2.2) : Option (UInt8)).bind fun j12=>(Z0 p0 s4.1 s4.1).bind fun r20=>some (r20,j12) : Option (UInt8 × UInt8)).bind fun j9=>some (Fl.nx (j9.1,wr (Int.tdiv s4.2.1 2),j9.2))) else (some (Fl.ex s4.2.2))
def XK (p0 : Int) (p1 : UInt8) (p2 : Int) : Option (UInt8) :=
 (ZB (Vy p0) (p1,p2,1)).bind fun j1=>some j1
theorem Jj (w0 : World) (p0 : Int) (p1 : UInt8) (p2 : Int) (r : UInt8) (hF : XK p0 p1 p2 = some r) :
  Calls Tryz.prog 234 [vI p0,vB p1,vI p2].toArray w0 (Rt w0 (vB r)):=by
 refine ce Tryz.func234 ?_
 intro a hE
 have hM:=M.start w0
 unfold XK at hF
 refine Zb (Zc hE rfl fun a hE=>Ze (Zb (Zc hE rfl fun a hE=>Ze ?_)))
 obtain ⟨j1,hl2,hF3⟩:=bind_some hF
 refine ZQ (fun a w=>Env 24 a [(7,vB j1)] ∧ M (Old w0) w0 w []) ?_ ?_
 ·skip
  refine wp_block ?_
  refine ZD (fun (s4 : UInt8 × Int × UInt8) a w=>Env 24 a [(0,vI p0),(1,vB s4.1),(2,vI s4.2.1),(7,vB s4.2.2)] ∧ M (Old w0) w0 w []) hl2 ⟨hE.sub ⟨rfl,rfl,rfl,rfl,trivial⟩,hM⟩ ?_
  rintro s4 a w ⟨hE,hM⟩ o7 hs5 hx6
  unfold Vy at hs5
  refine wp_seq (Zb (Zd hE rfl fun a hE=>Zg hE rfl rfl rfl fun a hE=>Ze ?_))
  refine Zm hE rfl ?_ ?_
  ·intro hb8
   have hs5:=Zt hs5 hb8
   refine wp_skip (Zq ?_)
   obtain ⟨j9,hl10,hF11⟩:=bind_some hs5
   refine ZQ (fun a w=>Env 24 a [(0,vI p0),(1,vB j9.1),(2,vI s4.2.1),(7,vB j9.2)] ∧ M (Old w0) w0 w []) ?_ ?_
   ·skip
    refine wp_block ?_
    obtain ⟨j12,hl13,hF14⟩:=bind_some hl10
    refine ZQ (fun a w=>Env 24 a [(0,vI p0),(1,vB s4.1),(2,vI s4.2.1),(7,vB j12)] ∧ M (Old w0) w0 w []) ?_ ?_
    ·skip
     refine Zb (Zd hE rfl fun a hE=>Zg hE rfl rfl (QJ _ _ (by decide)) fun a hE=>Zg hE rfl rfl rfl fun a hE=>Ze ?_)
     refine Zm hE rfl ?_ ?_
     ·intro hb15
      have hl13:=Zt hl13 hb15
      refine wp_region_lit (Zd hE rfl fun a hE=>Zd hE rfl fun a hE=>Zd hE rfl ?_); intro a hE
      obtain ⟨r16,e17,hl13⟩:=bind_some hl13
      refine Zx hE rfl HX (YO _ p0 s4.2.2 s4.1 r16 e17) ?_
      rintro v w a ⟨rfl,hK⟩ hE
      have hM:=hM.keep hK
      refine Zc hE rfl fun a hE=>Zh ?_
      obtain rfl:=Option.some.inj hl13
      refine Zj ?_
      exact ⟨hE.sub ⟨rfl,rfl,rfl,rfl,trivial⟩,hM⟩
     ·intro hb15
      have hl13:=Zu hl13 hb15
      refine wp_skip ?_
      obtain rfl:=Option.some.inj hl13
      refine Zj ?_
      exact ⟨hE.sub ⟨rfl,rfl,rfl,rfl,trivial⟩,hM⟩
    ·skip
     rintro a w ⟨hE,hM⟩
     refine wp_region_lit (Zd hE rfl fun a hE=>Zd hE rfl fun a hE=>Zd hE rfl ?_); intro a hE
     obtain ⟨r20,e21,hF14⟩:=bind_some hF14
     refine Zx hE rfl HX (YO _ p0 s4.1 s4.1 r20 e21) ?_
     rintro v w a ⟨rfl,hK⟩ hE
     have hM:=hM.keep hK
     refine Zc hE rfl fun a hE=>Zh (Z2 ?_)
     obtain rfl:=Option.some.inj hF14
     refine Zj ?_
     exact ⟨hE.sub ⟨rfl,rfl,rfl,rfl,trivial⟩,hM⟩
   ·skip
    rintro a w ⟨hE,hM⟩
    refine wp_region_lit (Zd hE rfl fun a hE=>Zg hE rfl rfl (zV _ _ (by decide)) fun a hE=>Zc hE rfl fun a hE=>Zh (Zj ?_))
    exact ⟨_,(ois hF11),hE.sub ⟨rfl,rfl,rfl,rfl,trivial⟩,hM⟩
  ·intro hb8
   have hs5:=Zu hs5 hb8
   refine wp_exit (Zl (Zl (Z3 ?_)))
   obtain rfl:=hx6 _ (ois hs5)
   refine Zj ?_
   exact ⟨hE.sub ⟨rfl,trivial⟩,hM⟩
 ·skip
  rintro a w ⟨hE,hM⟩
  refine Zb (Zd hE rfl fun a hE=>Zc hE rfl fun a hE=>Ze ?_)
  obtain rfl:=Option.some.inj hF3
  exact wp_ret (kr1 hE rfl rfl hM.kept)
def Yk (p0 : Int) (p1 : UInt8) : Option (UInt8) :=
 (XK p0 p1 254).bind fun r1=>some r1
theorem UO (w0 : World) (p0 : Int) (p1 : UInt8) (r : UInt8) (hF : Yk p0 p1 = some r) :
  Calls Tryz.prog 215 [vI p0,vB p1].toArray w0 (Rt w0 (vB r)):=by
 refine ce Tryz.func215 ?_
 intro a hE
 have hM:=M.start w0
 unfold Yk at hF
 refine Zb (Zc hE rfl fun a hE=>Ze (Zb (Zd hE rfl fun a hE=>Zd hE rfl ?_))); intro a hE
 obtain ⟨r1,e2,hF⟩:=bind_some hF
 refine Zx hE rfl (cbm Tryz.func234) (Jj _ p0 p1 254 r1 e2) ?_
 rintro v w a ⟨rfl,hK⟩ hE
 have hM:=hM.keep hK
 refine Zc hE rfl fun a hE=>Ze ?_
 obtain rfl:=Option.some.inj hF
 exact wp_ret (kr1 hE rfl rfl hM.kept)
def Yg (p0 : UInt8) (p1 : Int) : Option (UInt8) :=
 (Xk (wru (BitVec.ofInt 64 (IntKind.u64.wrap p1) &&& BitVec.ofInt 64 7).toNat)).bind fun _=>(Xk (IntKind.u64.wrap (8 - (wru (BitVec.ofInt 64 (IntKind.u64.wrap p1) &&& BitVec.ofInt 64 7).toNat)))).bind fun _=>some ((shlB p0 (wru (BitVec.ofInt 64 (IntKind.u64.wrap p1) &&& BitVec.ofInt 64 7).toNat)) ||| (BH p0 (IntKind.u64.wrap (8 - (wru (BitVec.ofInt 64 (IntKind.u64.wrap p1) &&& BitVec.ofInt 64 7).toNat)))))
theorem TI (w0 : World) (p0 : UInt8) (p1 : Int) (r : UInt8) (hF : Yg p0 p1 = some r) :
  Calls Tryz.prog 216 [vB p0,vI p1].toArray w0 (Rt w0 (vB r)):=by
 refine ce Tryz.func216 ?_
 intro a hE
 have hM:=M.start w0
 unfold Yg at hF
 refine Zb (Zc hE rfl fun a hE=>Ze (Zb (Zd hE rfl fun a hE=>Ah hE Za ld rfl Tryz.underlying3 Tryz.underlying171 fun a hE=>Zg hE rfl rfl rfl fun a hE=>Zc hE rfl fun a hE=>Ze (Zb (Zd hE rfl fun a hE=>Zd hE rfl ?_))))); intro a hE
 obtain ⟨_,e1,hF⟩:=bind_some hF
 have e1:=Wx e1
 refine HD hE Za ld rfl rfl (bB_shl _ _ e1) fun a hE=>Zd hE rfl fun a hE=>Zd hE rfl fun a hE=>Zg hE rfl rfl rfl ?_; intro a hE
 obtain ⟨_,e2,hF⟩:=bind_some hF
 have e2:=Wx e2
 refine HD hE Za ld rfl rfl (Zak _ _ e2) fun a hE=>Zg hE rfl rfl (bB_or (shlB p0 (wru (BitVec.ofInt 64 (IntKind.u64.wrap p1) &&& BitVec.ofInt 64 7).toNat)) (BH p0 (IntKind.u64.wrap (8 - (wru (BitVec.ofInt 64 (IntKind.u64.wrap p1) &&& BitVec.ofInt 64 7).toNat))))) fun a hE=>Zc hE rfl fun a hE=>Ze ?_
 obtain rfl:=Option.some.inj hF
 exact wp_ret (kr1 hE rfl rfl hM.kept)
def Ws (s8 : (Vector UInt8 256) × Int) : Option (Fl ((Vector UInt8 256) × Int) (Vector UInt8 256)) :=
 if (decide (s8.2 < 256)) = true then ((Yk 285 (Zy s8.2)).bind fun r13=>(Yg r13 1).bind fun r15=>(Yg r13 4).bind fun r17=>(ZH s8.1 s8.2).bind fun x20=>some (Fl.nx ((s8.1.setIfInBounds (s8.2).toNat (((r13 ^^^ r15) ^^^ r17) ^^^ 90)),wr (s8.2 + 1)))) else (some (Fl.ex s8.1))
def Vx (s26 : (Vector (Vector UInt8 4) 4) × Int) (s34 : (Vector (Vector UInt8 4) 4) × Int) : Option (Fl ((Vector (Vector UInt8 4) 4) × Int) (Vector (Vector UInt8 4) 4)) :=
 if (decide (s34.2 < 4)) = true then ((Yk 285 (Zy (HJ s26.2 (wr (4 + s34.2))))).bind fun r40=>(ZH s34.1 s26.2).bind fun x43=>(ZH x43 s34.2).bind fun x46=>some (Fl.nx ((s34.1.setIfInBounds (s26.2).toNat (x43.setIfInBounds (s34.2).toNat r40)),wr (s34.2 + 1)))) else (some (Fl.ex s34.1))
def VA (s26 : (Vector (Vector UInt8 4) 4) × Int) : Option (Fl ((Vector (Vector UInt8 4) 4) × Int) (Vector (Vector UInt8 4) 4)) :=
 if (decide (s26.2 < 4)) = true then ((ZB (Vx s26) (s26.1,0)).bind fun j31=>some (Fl.nx (j31,wr (s26.2 + 1)))) else (some (Fl.ex s26.1))
def VB (s53 : (Vector UInt8 16) × Int) : Option (Fl ((Vector UInt8 16) × Int) (Vector UInt8 16)) :=
 if (decide (s53.2 < 16)) = true then ((ZH s53.1 s53.2).bind fun x59=>some (Fl.nx ((s53.1.setIfInBounds (s53.2).toNat (Zy (Int.tmod (wr ((wr (13 * s53.2)) + 4)) 16))),wr (s53.2 + 1)))) else (some (Fl.ex s53.1))
def W1 (p0 : Int) : Option (GCipher) :=
 (ZB (Ws) ((Vector.replicate 256 (0 : UInt8)),0)).bind fun j5=>(ZB (VA) ((Vector.replicate 4 (Vector.replicate 4 (0 : UInt8))),0)).bind fun j23=>(ZB (VB) ((Vector.replicate 16 (0 : UInt8)),0)).bind fun j50=>some (⟨285,j5,j23,j50,p0⟩ : GCipher)
theorem Jf (w0 : World) (p0 : Int) (r : GCipher) (hF : W1 p0 = some r) :
  Calls Tryz.prog 180 [vI p0].toArray w0 (Rt w0 (Value.agg (enc r).toArray)):=by
 refine ce Tryz.func180 ?_
 intro a hE
 have hM:=M.start w0
 unfold W1 at hF
 refine Zb (ZA hE hM V0 fun b1 w a hM hE=>Ze (Zb (Zd hE rfl fun a hE=>Wl (parts:=[(0,.const (vI 285)),(4,.tmp 9)]) (vs:=[(0,vI 285),(4,vI p0)]) (cs:=cat [[vI 285],enc (Vector.replicate 256 (0 : UInt8)),enc (Vector.replicate 4 (Vector.replicate 4 (0 : UInt8))),enc (Vector.replicate 16 (0 : UInt8)),[vI p0]]) hE Za ld rfl rfl V0 pl163 (Ym (pre:=[]) (seg:=[vI 0]) (seg':=[vI 285]) (post:=[enc (Vector.replicate 256 (0 : UInt8)),enc (Vector.replicate 4 (Vector.replicate 4 (0 : UInt8))),enc (Vector.replicate 16 (0 : UInt8)),[vI 0]]) rfl cl0 rfl rfl rfl (Ym (pre:=[[vI 285],enc (Vector.replicate 256 (0 : UInt8)),enc (Vector.replicate 4 (Vector.replicate 4 (0 : UInt8))),enc (Vector.replicate 16 (0 : UInt8))]) (seg:=[vI 0]) (seg':=[vI p0]) (post:=[]) rfl ck rfl rfl rfl Uq)) fun a hE=>ZA hE hM V0 fun b3 w a hM hE=>Zk (seg:=cat [[vI 285],enc (Vector.replicate 256 (0 : UInt8)),enc (Vector.replicate 4 (Vector.replicate 4 (0 : UInt8))),enc (Vector.replicate 16 (0 : UInt8)),[vI p0]]) (cs':=cat [[vI 285],enc (Vector.replicate 256 (0 : UInt8)),enc (Vector.replicate 4 (Vector.replicate 4 (0 : UInt8))),enc (Vector.replicate 16 (0 : UInt8)),[vI p0]]) hE hM Za rfl rfl rfl V0 cq (Nat.le_of_eq ((Nat.zero_add _).trans (Eq.trans cq (Eq.symm cq)))) (ZX (cc1 (Flat.cell (285 : Int)) (cc1 (Flat.cell _) (cc1 (Flat.cell _) (cc1 (Flat.cell _) (cc1 (Flat.cell (p0 : Int)) cc0)))))) (Zi (Eq.trans cq (Eq.symm cq))) fun w a hM hE=>Ze (wp_seq (Zb (Zd hE rfl fun a hE=>Ze ?_))))))
 obtain ⟨j5,hl6,hF7⟩:=bind_some hF
 refine ZI (fun a w=>Env 61 a [(2,(ptr b1 0)),(3,(ptr b3 0))] ∧ M (Old w0) w0 w [raw b3 (cat [[vI 285],enc j5,enc (Vector.replicate 4 (Vector.replicate 4 (0 : UInt8))),enc (Vector.replicate 16 (0 : UInt8)),[vI p0]]),raw b1 (cat [[vI 0],enc (Vector.replicate 256 (0 : UInt8)),enc (Vector.replicate 4 (Vector.replicate 4 (0 : UInt8))),enc (Vector.replicate 16 (0 : UInt8)),[vI 0]])]) ?_ ?_
 ·skip
  refine wp_block ?_
  refine ZD (fun (s8 : (Vector UInt8 256) × Int) a w=>Env 61 a [(2,(ptr b1 0)),(3,(ptr b3 0)),(11,vI s8.2)] ∧ M (Old w0) w0 w [raw b3 (cat [[vI 285],enc s8.1,enc (Vector.replicate 4 (Vector.replicate 4 (0 : UInt8))),enc (Vector.replicate 16 (0 : UInt8)),[vI p0]]),raw b1 (cat [[vI 0],enc (Vector.replicate 256 (0 : UInt8)),enc (Vector.replicate 4 (Vector.replicate 4 (0 : UInt8))),enc (Vector.replicate 16 (0 : UInt8)),[vI 0]])]) hl6 ⟨hE.sub ⟨rfl,rfl,rfl,trivial⟩,hM⟩ ?_
  rintro s8 a w ⟨hE,hM⟩ o11 hs9 hx10
  unfold Ws at hs9
  refine Zb (Zg hE rfl rfl rfl fun a hE=>Ze (wp_seq ?_))
  refine Zm hE rfl ?_ ?_
  ·intro hb12
   have hs9:=Zt hs9 hb12
   refine wp_skip (Zq (wp_seq (wp_block (Zb (Zd hE rfl fun a hE=>Zc hE rfl fun a hE=>Ze (Zb (Zd hE rfl fun a hE=>Yj hE Za ld rfl Tryz.underlying3 Tryz.underlying5 ?_))))))); intro a hE
   obtain ⟨r13,e14,hs9⟩:=bind_some hs9
   refine Zx hE rfl Zai (UO _ 285 (Zy s8.2) r13 e14) ?_
   rintro v w a ⟨rfl,hK⟩ hE
   have hM:=hM.keep hK
   refine Zc hE rfl fun a hE=>Ze (wp_region_lit (Zd hE rfl fun a hE=>Zd hE rfl fun a hE=>Zd hE rfl ?_)); intro a hE
   obtain ⟨r15,e16,hs9⟩:=bind_some hs9
   refine Zx hE rfl (cbm Tryz.func216) (TI _ r13 1 r15 e16) ?_
   rintro v w a ⟨rfl,hK⟩ hE
   have hM:=hM.keep hK
   refine Zg hE rfl rfl (Uy r13 r15) fun a hE=>Zd hE rfl ?_; intro a hE
   obtain ⟨r17,e18,hs9⟩:=bind_some hs9
   refine Zx hE rfl (cbm Tryz.func216) (TI _ r13 4 r17 e18) ?_
   rintro v w a ⟨rfl,hK⟩ hE
   have hM:=hM.keep hK
   refine Zg hE rfl rfl (Uy (r13 ^^^ r15) r17) fun a hE=>Zg hE rfl rfl (Uy ((r13 ^^^ r15) ^^^ r17) 90) fun a hE=>Zf hE rfl (KI) ?_; intro a hE
   obtain ⟨x20,hi19,hs9⟩:=bvx hs9
   refine ZC hE rfl rfl Tryz.underlying157 ty5 hi19.1 fun a hE=>Zk (seg:=[(vB (((r13 ^^^ r15) ^^^ r17) ^^^ 90))]) (cs':=cat [[vI 285],enc (s8.1.setIfInBounds (s8.2).toNat (((r13 ^^^ r15) ^^^ r17) ^^^ 90)),enc (Vector.replicate 4 (Vector.replicate 4 (0 : UInt8))),enc (Vector.replicate 16 (0 : UInt8)),[vI p0]]) hE hM Za rfl rfl rfl ty5 rfl (Ks (o':=0 + (s8.2).toNat * 1) (pre:=[[vI 285]]) (seg:=enc s8.1) (post:=[enc (Vector.replicate 4 (Vector.replicate 4 (0 : UInt8))),enc (Vector.replicate 16 (0 : UInt8)),[vI p0]]) ck (ZK (v:=s8.1) (x:=((r13 ^^^ r15) ^^^ r17) ^^^ 90) hi19.1) (by first | omega | (simp only [Flat.n] <;> omega))) (Flat.cell (((r13 ^^^ r15) ^^^ r17) ^^^ 90 : UInt8)) (VZ (o':=0 + (s8.2).toNat * 1) (pre:=[[vI 285]]) (seg:=enc s8.1) (post:=[enc (Vector.replicate 4 (Vector.replicate 4 (0 : UInt8))),enc (Vector.replicate 16 (0 : UInt8)),[vI p0]]) ck (ZK (v:=s8.1) (x:=((r13 ^^^ r15) ^^^ r17) ^^^ 90) hi19.1) (ZE (v:=s8.1) (x:=((r13 ^^^ r15) ^^^ r17) ^^^ 90) hi19.1) (by first | omega | (simp only [Flat.n] <;> omega))) fun w a hM hE=>Zh (Z2 (Zq (wp_region_lit (Zg hE rfl rfl rfl fun a hE=>Zd hE rfl fun a hE=>Zh (Zj ?_)))))
   exact ⟨_,(ois hs9),hE.sub ⟨rfl,rfl,rfl,trivial⟩,hM⟩
  ·intro hb12
   have hs9:=Zu hs9 hb12
   refine wp_exit (Zl (Zl (Z3 ?_)))
   obtain rfl:=hx10 _ (ois hs9)
   refine Zj ?_
   exact ⟨hE.sub ⟨rfl,rfl,trivial⟩,hM⟩
 ·skip
  rintro a w ⟨hE,hM⟩
  refine Zq (wp_seq (Zb (Zd hE rfl fun a hE=>Ze ?_)))
  obtain ⟨j23,hl24,hF25⟩:=bind_some hF7
  refine ZI (fun a w=>Env 61 a [(2,(ptr b1 0)),(3,(ptr b3 0))] ∧ M (Old w0) w0 w [raw b3 (cat [[vI 285],enc j5,enc j23,enc (Vector.replicate 16 (0 : UInt8)),[vI p0]]),raw b1 (cat [[vI 0],enc (Vector.replicate 256 (0 : UInt8)),enc (Vector.replicate 4 (Vector.replicate 4 (0 : UInt8))),enc (Vector.replicate 16 (0 : UInt8)),[vI 0]])]) ?_ ?_
  ·skip
   refine wp_block ?_
   refine ZD (fun (s26 : (Vector (Vector UInt8 4) 4) × Int) a w=>Env 61 a [(2,(ptr b1 0)),(3,(ptr b3 0)),(29,vI s26.2)] ∧ M (Old w0) w0 w [raw b3 (cat [[vI 285],enc j5,enc s26.1,enc (Vector.replicate 16 (0 : UInt8)),[vI p0]]),raw b1 (cat [[vI 0],enc (Vector.replicate 256 (0 : UInt8)),enc (Vector.replicate 4 (Vector.replicate 4 (0 : UInt8))),enc (Vector.replicate 16 (0 : UInt8)),[vI 0]])]) hl24 ⟨hE.sub ⟨rfl,rfl,rfl,trivial⟩,hM⟩ ?_
   rintro s26 a w ⟨hE,hM⟩ o29 hs27 hx28
   unfold VA at hs27
   refine Zb (Zg hE rfl rfl rfl fun a hE=>Ze (wp_seq ?_))
   refine Zm hE rfl ?_ ?_
   ·intro hb30
    have hs27:=Zt hs27 hb30
    refine wp_skip (Zq (wp_seq (wp_block (Zb (Zd hE rfl fun a hE=>Zc hE rfl fun a hE=>Ze (Zb (Zd hE rfl fun a hE=>Ze ?_)))))))
    obtain ⟨j31,hl32,hF33⟩:=bind_some hs27
    refine ZI (fun a w=>Env 61 a [(2,(ptr b1 0)),(3,(ptr b3 0)),(29,vI s26.2)] ∧ M (Old w0) w0 w [raw b3 (cat [[vI 285],enc j5,enc j31,enc (Vector.replicate 16 (0 : UInt8)),[vI p0]]),raw b1 (cat [[vI 0],enc (Vector.replicate 256 (0 : UInt8)),enc (Vector.replicate 4 (Vector.replicate 4 (0 : UInt8))),enc (Vector.replicate 16 (0 : UInt8)),[vI 0]])]) ?_ ?_
    ·skip
     refine wp_block ?_
     refine ZD (fun (s34 : (Vector (Vector UInt8 4) 4) × Int) a w=>Env 61 a [(2,(ptr b1 0)),(3,(ptr b3 0)),(6,vI s26.2),(29,vI s26.2),(32,vI s34.2)] ∧ M (Old w0) w0 w [raw b3 (cat [[vI 285],enc j5,enc s34.1,enc (Vector.replicate 16 (0 : UInt8)),[vI p0]]),raw b1 (cat [[vI 0],enc (Vector.replicate 256 (0 : UInt8)),enc (Vector.replicate 4 (Vector.replicate 4 (0 : UInt8))),enc (Vector.replicate 16 (0 : UInt8)),[vI 0]])]) hl32 ⟨hE.sub ⟨rfl,rfl,rfl,rfl,rfl,trivial⟩,hM⟩ ?_
     rintro s34 a w ⟨hE,hM⟩ o37 hs35 hx36
     unfold Vx at hs35
     refine Zb (Zg hE rfl rfl rfl fun a hE=>Ze (wp_seq ?_))
     refine Zm hE rfl ?_ ?_
     ·intro hb38
      have hs35:=Zt hs35 hb38
      refine wp_skip (Zq (wp_seq (wp_block (Zb (Zd hE rfl fun a hE=>Zc hE rfl fun a hE=>Ze ?_)))))
      obtain ⟨r40,e41,hs35⟩:=bind_some hs35
      obtain ⟨x43,hi42,hs35⟩:=bvx hs35
      obtain ⟨x46,hi45,hs35⟩:=bvx hs35
      refine Yc [35,36,37,38,39,40,41,42,43,44,45] Y4 rfl rfl (by decide) rfl hE hM (qsP (fun z=>Zv z.E Za ld rfl (kr0 rfl)) (qsP (fun z=>Zv z.E Za ld rfl (kr0 rfl)) (qsP (fun z=>Zv z.E Za ld rfl (kr0 rfl)) (qsP (fun z=>Zv z.E Za ld rfl (kr0 rfl)) (qsP (v:=(vI (wr (4 + s34.2)))) (fun z=>Yv z.E Za ld rfl rfl rfl (kr0 rfl)) (qsP (v:=(vI (HJ s26.2 (wr (4 + s34.2))))) (fun z=>Yv z.E Za ld rfl rfl rfl (kr0 rfl)) (qsP (fun z=>Yj z.E Za ld rfl Tryz.underlying3 Tryz.underlying5 (kr0 rfl)) (qsP (fun z=>Z7 z.E Za ld rfl Zai (UO _ 285 (Zy (HJ s26.2 (wr (4 + s34.2)))) r40 e41) (kc rfl)) (qsP (fun z=>Zs z.E Za ld rfl (JH) (kr0 rfl)) (qsP (fun z=>ZF z.E Za ld rfl rfl Tryz.underlying160 Xz hi42.1 (kr0 rfl)) (qsP (fun z=>ZF z.E Za ld rfl rfl Tryz.underlying158 ty5 hi45.1 (kr0 rfl)) qs0))))))))))) ?_
      ·intro a w u hE hM
       refine Zk (seg:=[vB r40]) (cs':=cat [[vI 285],enc j5,enc (s34.1.setIfInBounds (s26.2).toNat (x43.setIfInBounds (s34.2).toNat r40)),enc (Vector.replicate 16 (0 : UInt8)),[vI p0]]) hE hM Za rfl rfl rfl ty5 rfl (Ks (o':=(s26.2).toNat * 4 + (0 + (s34.2).toNat * 1)) (pre:=[[vI 285],enc j5]) (seg:=enc s34.1) (post:=[enc (Vector.replicate 16 (0 : UInt8)),[vI p0]]) ck (Uh (o':=0 + (s34.2).toNat * 1) hi42 (ZK (v:=x43) (x:=r40) hi45.1) (by first | omega | (simp only [Flat.n] <;> omega))) (by first | omega | (simp only [Flat.n] <;> omega))) (Flat.cell (r40 : UInt8)) (VZ (o':=(s26.2).toNat * 4 + (0 + (s34.2).toNat * 1)) (pre:=[[vI 285],enc j5]) (seg:=enc s34.1) (post:=[enc (Vector.replicate 16 (0 : UInt8)),[vI p0]]) ck (Uh (o':=0 + (s34.2).toNat * 1) hi42 (ZK (v:=x43) (x:=r40) hi45.1) (by first | omega | (simp only [Flat.n] <;> omega))) (Vo (o':=0 + (s34.2).toNat * 1) hi42 (ZK (v:=x43) (x:=r40) hi45.1) (ZE (v:=x43) (x:=r40) hi45.1) (by first | omega | (simp only [Flat.n] <;> omega))) (by first | omega | (simp only [Flat.n] <;> omega))) fun w a hM hE=>Zh (Z2 (Zq (wp_region_lit (Zg hE rfl rfl rfl fun a hE=>Zd hE rfl fun a hE=>Zh (Zj ?_)))))
       exact ⟨_,(ois hs35),hE.sub ⟨rfl,rfl,rfl,rfl,rfl,trivial⟩,hM⟩
     ·intro hb38
      have hs35:=Zu hs35 hb38
      refine wp_exit (Zl (Zl (Z3 ?_)))
      obtain rfl:=hx36 _ (ois hs35)
      refine Zj ?_
      exact ⟨hE.sub ⟨rfl,rfl,rfl,trivial⟩,hM⟩
    ·skip
     rintro a w ⟨hE,hM⟩
     refine Z2 (Zq (wp_region_lit (Zg hE rfl rfl rfl fun a hE=>Zd hE rfl fun a hE=>Zh (Zj ?_))))
     exact ⟨_,(ois hF33),hE.sub ⟨rfl,rfl,rfl,trivial⟩,hM⟩
   ·intro hb30
    have hs27:=Zu hs27 hb30
    refine wp_exit (Zl (Zl (Z3 ?_)))
    obtain rfl:=hx28 _ (ois hs27)
    refine Zj ?_
    exact ⟨hE.sub ⟨rfl,rfl,trivial⟩,hM⟩
  ·skip
   rintro a w ⟨hE,hM⟩
   refine Zq (wp_seq (Zb (Zd hE rfl fun a hE=>Ze ?_)))
   obtain ⟨j50,hl51,hF52⟩:=bind_some hF25
   refine ZI (fun a w=>Env 61 a [(2,(ptr b1 0)),(3,(ptr b3 0))] ∧ M (Old w0) w0 w [raw b3 (cat [[vI 285],enc j5,enc j23,enc j50,[vI p0]]),raw b1 (cat [[vI 0],enc (Vector.replicate 256 (0 : UInt8)),enc (Vector.replicate 4 (Vector.replicate 4 (0 : UInt8))),enc (Vector.replicate 16 (0 : UInt8)),[vI 0]])]) ?_ ?_
   ·skip
    refine wp_block ?_
    refine ZD (fun (s53 : (Vector UInt8 16) × Int) a w=>Env 61 a [(2,(ptr b1 0)),(3,(ptr b3 0)),(48,vI s53.2)] ∧ M (Old w0) w0 w [raw b3 (cat [[vI 285],enc j5,enc j23,enc s53.1,[vI p0]]),raw b1 (cat [[vI 0],enc (Vector.replicate 256 (0 : UInt8)),enc (Vector.replicate 4 (Vector.replicate 4 (0 : UInt8))),enc (Vector.replicate 16 (0 : UInt8)),[vI 0]])]) hl51 ⟨hE.sub ⟨rfl,rfl,rfl,trivial⟩,hM⟩ ?_
    rintro s53 a w ⟨hE,hM⟩ o56 hs54 hx55
    unfold VB at hs54
    refine Zb (Zg hE rfl rfl rfl fun a hE=>Ze (wp_seq ?_))
    refine Zm hE rfl ?_ ?_
    ·intro hb57
     have hs54:=Zt hs54 hb57
     refine wp_skip (Zq (wp_seq (wp_block (Zb (Zd hE rfl fun a hE=>Zc hE rfl fun a hE=>Ze (wp_region_lit (Zd hE rfl fun a hE=>Zd hE rfl fun a hE=>Zg hE rfl rfl rfl fun a hE=>Zg hE rfl rfl rfl fun a hE=>Zg hE rfl rfl (QJ _ _ (by decide)) fun a hE=>Yj hE Za ld rfl Tryz.underlying3 Tryz.underlying5 fun a hE=>Zf hE rfl (JU) ?_))))))); intro a hE
     obtain ⟨x59,hi58,hs54⟩:=bvx hs54
     refine ZC hE rfl rfl Tryz.underlying161 ty5 hi58.1 fun a hE=>Zk (seg:=[(vB (Zy (Int.tmod (wr ((wr (13 * s53.2)) + 4)) 16)))]) (cs':=cat [[vI 285],enc j5,enc j23,enc (s53.1.setIfInBounds (s53.2).toNat (Zy (Int.tmod (wr ((wr (13 * s53.2)) + 4)) 16))),[vI p0]]) hE hM Za rfl rfl rfl ty5 rfl (Ks (o':=0 + (s53.2).toNat * 1) (pre:=[[vI 285],enc j5,enc j23]) (seg:=enc s53.1) (post:=[[vI p0]]) ck (ZK (v:=s53.1) (x:=Zy (Int.tmod (wr ((wr (13 * s53.2)) + 4)) 16)) hi58.1) (by first | omega | (simp only [Flat.n] <;> omega))) (Flat.cell (Zy (Int.tmod (wr ((wr (13 * s53.2)) + 4)) 16) : UInt8)) (VZ (o':=0 + (s53.2).toNat * 1) (pre:=[[vI 285],enc j5,enc j23]) (seg:=enc s53.1) (post:=[[vI p0]]) ck (ZK (v:=s53.1) (x:=Zy (Int.tmod (wr ((wr (13 * s53.2)) + 4)) 16)) hi58.1) (ZE (v:=s53.1) (x:=Zy (Int.tmod (wr ((wr (13 * s53.2)) + 4)) 16)) hi58.1) (by first | omega | (simp only [Flat.n] <;> omega))) fun w a hM hE=>Zh (Z2 (Zq (wp_region_lit (Zg hE rfl rfl rfl fun a hE=>Zd hE rfl fun a hE=>Zh (Zj ?_)))))
     exact ⟨_,(ois hs54),hE.sub ⟨rfl,rfl,rfl,trivial⟩,hM⟩
    ·intro hb57
     have hs54:=Zu hs54 hb57
     refine wp_exit (Zl (Zl (Z3 ?_)))
     obtain rfl:=hx55 _ (ois hs54)
     refine Zj ?_
     exact ⟨hE.sub ⟨rfl,rfl,trivial⟩,hM⟩
   ·skip
    rintro a w ⟨hE,hM⟩
    refine Zq (Zb (Zn hE rfl V0 rfl hM.rawAt0 cq ?_)); intro a hE
    have hM:=hM.pull1
    refine Zk (seg:=cat [[(vI ((⟨285,j5,j23,j50,p0⟩ : GCipher).Field))],enc ((⟨285,j5,j23,j50,p0⟩ : GCipher).Box),enc ((⟨285,j5,j23,j50,p0⟩ : GCipher).Mix),enc ((⟨285,j5,j23,j50,p0⟩ : GCipher).Places),[(vI ((⟨285,j5,j23,j50,p0⟩ : GCipher).Rounds))]]) (cs':=cat [[(vI ((⟨285,j5,j23,j50,p0⟩ : GCipher).Field))],enc ((⟨285,j5,j23,j50,p0⟩ : GCipher).Box),enc ((⟨285,j5,j23,j50,p0⟩ : GCipher).Mix),enc ((⟨285,j5,j23,j50,p0⟩ : GCipher).Places),[(vI ((⟨285,j5,j23,j50,p0⟩ : GCipher).Rounds))]]) hE hM Za rfl rfl rfl V0 cq (Nat.le_of_eq ((Nat.zero_add _).trans (Eq.trans cq (Eq.symm cq)))) (ZX (cc1 (Flat.cell ((⟨285,j5,j23,j50,p0⟩ : GCipher).Field : Int)) (cc1 (Flat.cell _) (cc1 (Flat.cell _) (cc1 (Flat.cell _) (cc1 (Flat.cell ((⟨285,j5,j23,j50,p0⟩ : GCipher).Rounds : Int)) cc0)))))) (Zi (Eq.trans cq (Eq.symm cq))) fun w a hM hE=>Ze ?_
    obtain rfl:=Option.some.inj hF52
    have hq62 : Yu Tryz.prog _ _ (.cell 2 163) _:=ZJ hE rfl V0 rfl hM.rawAt0 cq rfl
    exact wp_ret (ZL hE rfl hq62 ⟨_,rfl,rfl,hM.kept⟩)
def TE (s8 : (Vector (Vector UInt8 4) 4) × Int) : Option (Fl ((Vector (Vector UInt8 4) 4) × Int) (Vector (Vector UInt8 4) 4)) :=
 if (decide (s8.2 < 4)) = true then ((ZH s8.1 s8.2).bind fun x14=>(ZH x14 s8.2).bind fun x17=>some (Fl.nx ((s8.1.setIfInBounds (s8.2).toNat (x14.setIfInBounds (s8.2).toNat 1)),wr (s8.2 + 1)))) else (some (Fl.ex s8.1))
def Vl : Option ((Vector (Vector UInt8 4) 4)) :=
 (ZB (TE) ((Vector.replicate 4 (Vector.replicate 4 (0 : UInt8))),0)).bind fun j5=>some j5
theorem JM (w0 : World)  (r : (Vector (Vector UInt8 4) 4)) (hF : Vl  = some r) :
  Calls Tryz.prog 232 [].toArray w0 (Rt w0 (Value.agg (enc r).toArray)):=by
 refine ce Tryz.func232 ?_
 intro a hE
 have hM:=M.start w0
 unfold Vl at hF
 refine Zb (ZA hE hM UL fun b1 w a hM hE=>Ze (Zb (XF (parts:=[]) (vs:=[]) (cs:=enc (Vector.replicate 4 (Vector.replicate 4 (0 : UInt8)))) hE Za ld rfl rfl UL rfl Xz YZ fun a hE=>ZA hE hM UL fun b3 w a hM hE=>Zk (seg:=enc (Vector.replicate 4 (Vector.replicate 4 (0 : UInt8)))) (cs':=enc (Vector.replicate 4 (Vector.replicate 4 (0 : UInt8)))) hE hM Za rfl rfl rfl UL (Flat.len _) (zle flq) (Flat.cell _) (Zi flq) fun w a hM hE=>Ze (wp_seq (Zb (Zd hE rfl fun a hE=>Ze ?_))))))
 obtain ⟨j5,hl6,hF7⟩:=bind_some hF
 refine ZI (fun a w=>Env 13 a [(0,(ptr b1 0)),(1,(ptr b3 0))] ∧ M (Old w0) w0 w [raw b3 (enc j5),raw b1 (enc (Vector.replicate 4 (Vector.replicate 4 (0 : UInt8))))]) ?_ ?_
 ·skip
  refine wp_block ?_
  refine ZD (fun (s8 : (Vector (Vector UInt8 4) 4) × Int) a w=>Env 13 a [(0,(ptr b1 0)),(1,(ptr b3 0)),(4,vI s8.2)] ∧ M (Old w0) w0 w [raw b3 (enc s8.1),raw b1 (enc (Vector.replicate 4 (Vector.replicate 4 (0 : UInt8))))]) hl6 ⟨hE.sub ⟨rfl,rfl,rfl,trivial⟩,hM⟩ ?_
  rintro s8 a w ⟨hE,hM⟩ o11 hs9 hx10
  unfold TE at hs9
  refine Zb (Zg hE rfl rfl rfl fun a hE=>Ze (wp_seq ?_))
  refine Zm hE rfl ?_ ?_
  ·intro hb12
   have hs9:=Zt hs9 hb12
   refine wp_skip (Zq (wp_seq (wp_block (Zb (Zd hE rfl fun a hE=>Zc hE rfl fun a hE=>Ze (wp_region_lit (Zd hE rfl fun a hE=>Zd hE rfl ?_))))))); intro a hE
   obtain ⟨x14,hi13,hs9⟩:=bvx hs9
   refine ZC hE rfl rfl Tryz.underlying160 Xz hi13.1 ?_; intro a hE
   obtain ⟨x17,hi16,hs9⟩:=bvx hs9
   refine ZC hE rfl rfl Tryz.underlying158 ty5 hi16.1 fun a hE=>Zk (seg:=[vB 1]) (cs':=enc (s8.1.setIfInBounds (s8.2).toNat (x14.setIfInBounds (s8.2).toNat 1))) hE hM Za rfl rfl rfl ty5 rfl (Uh (o':=0 + (s8.2).toNat * 1) hi13 (ZK (v:=x14) (x:=1) hi16.1) (by first | omega | (simp only [Flat.n] <;> omega))) (Flat.cell (1 : UInt8)) (Vo (o':=0 + (s8.2).toNat * 1) hi13 (ZK (v:=x14) (x:=1) hi16.1) (ZE (v:=x14) (x:=1) hi16.1) (by first | omega | (simp only [Flat.n] <;> omega))) fun w a hM hE=>Zh (Z2 (Zq (wp_region_lit (Zg hE rfl rfl rfl fun a hE=>Zd hE rfl fun a hE=>Zh (Zj ?_)))))
   exact ⟨_,(ois hs9),hE.sub ⟨rfl,rfl,rfl,trivial⟩,hM⟩
  ·intro hb12
   have hs9:=Zu hs9 hb12
   refine wp_exit (Zl (Zl (Z3 ?_)))
   obtain rfl:=hx10 _ (ois hs9)
   refine Zj ?_
   exact ⟨hE.sub ⟨rfl,rfl,trivial⟩,hM⟩
 ·skip
  rintro a w ⟨hE,hM⟩
  refine Zq (Zb (Zn hE rfl UL rfl hM.rawAt0 (Flat.len _) ?_)); intro a hE
  have hM:=hM.pull1
  refine Zk (seg:=enc j5) (cs':=enc j5) hE hM Za rfl rfl rfl UL (Flat.len _) (zle flq) (Flat.cell _) (Zi flq) fun w a hM hE=>Ze ?_
  obtain rfl:=Option.some.inj hF7
  have hq20 : Yu Tryz.prog _ _ (.cell 0 160) _:=ZJ hE rfl UL rfl hM.rawAt0 (Flat.len _) rfl
  exact wp_ret (ZL hE rfl hq20 ⟨_,rfl,rfl,hM.kept⟩)
def US (s13 : (Vector (Vector UInt8 4) 4) × (Vector (Vector UInt8 4) 4) × Int × UInt8) (s21 : Int) : Option (Fl Int Int) :=
 (if (decide (s21 < 4)) = true then ((ZH s13.1 s21).bind fun x30=>(ZH x30 s13.2.2.1).bind fun x33=>some (x33 == 0)) else (some false) : Option (Bool)).bind fun j25=>if j25 = true then (some (Fl.nx (wr (s21 + 1)))) else (some (Fl.ex s21))
def XX (p0 : Int) (s13 : (Vector (Vector UInt8 4) 4) × (Vector (Vector UInt8 4) 4) × Int × UInt8) (r90 : UInt8) (s95 : (Vector (Vector UInt8 4) 4) × (Vector (Vector UInt8 4) 4) × Int) : Option (Fl ((Vector (Vector UInt8 4) 4) × (Vector (Vector UInt8 4) 4) × Int) ((Vector (Vector UInt8 4) 4) × (Vector (Vector UInt8 4) 4))) :=
 if (decide (s95.2.2 < 4)) = true then ((ZH s95.1 s13.2.2.1).bind fun x102=>(ZH x102 s95.2.2).bind fun x105=>(Z0 p0 x105 r90).bind fun r107=>(ZH s95.2.1 s13.2.2.1).bind fun x110=>(ZH x110 s95.2.2).bind fun x113=>(Z0 p0 x113 r90).bind fun r115=>(ZH s95.1 s13.2.2.1).bind fun x118=>(ZH x118 s95.2.2).bind fun x121=>(ZH s95.2.1 s13.2.2.1).bind fun x124=>(ZH x124 s95.2.2).bind fun x127=>some (Fl.nx ((s95.1.setIfInBounds (s13.2.2.1).toNat (x118.setIfInBounds (s95.2.2).toNat r107)),(s95.2.1.setIfInBounds (s13.2.2.1).toNat (x124.setIfInBounds (s95.2.2).toNat r115)),wr (s95.2.2 + 1)))) else (some (Fl.ex (s95.1,s95.2.1)))
def X5 (p0 : Int) (s13 : (Vector (Vector UInt8 4) 4) × (Vector (Vector UInt8 4) 4) × Int × UInt8) (s133 : (Vector (Vector UInt8 4) 4) × (Vector (Vector UInt8 4) 4) × Int) (x145 : UInt8) (s160 : (Vector (Vector UInt8 4) 4) × (Vector (Vector UInt8 4) 4) × Int) : Option (Fl ((Vector (Vector UInt8 4) 4) × (Vector (Vector UInt8 4) 4) × Int) ((Vector (Vector UInt8 4) 4) × (Vector (Vector UInt8 4) 4))) :=
 if (decide (s160.2.2 < 4)) = true then (((ZH s160.1 s133.2.2).bind fun x170=>(ZH x170 s160.2.2).bind fun x173=>(ZH s160.1 s13.2.2.1).bind fun x176=>(ZH x176 s160.2.2).bind fun x179=>(Z0 p0 x145 x179).bind fun r181=>(ZH s160.1 s133.2.2).bind fun x184=>(ZH x184 s160.2.2).bind fun x187=>some (s160.1.setIfInBounds (s133.2.2).toNat (x184.setIfInBounds (s160.2.2).toNat (x173 ^^^ r181))) : Option ((Vector (Vector UInt8 4) 4))).bind fun j165=>(ZH s160.2.1 s133.2.2).bind fun x192=>(ZH x192 s160.2.2).bind fun x195=>(ZH s160.2.1 s13.2.2.1).bind fun x198=>(ZH x198 s160.2.2).bind fun x201=>(Z0 p0 x145 x201).bind fun r203=>(ZH s160.2.1 s133.2.2).bind fun x206=>(ZH x206 s160.2.2).bind fun x209=>some (Fl.nx (j165,(s160.2.1.setIfInBounds (s133.2.2).toNat (x206.setIfInBounds (s160.2.2).toNat (x195 ^^^ r203))),wr (s160.2.2 + 1)))) else (some (Fl.ex (s160.1,s160.2.1)))
def XW (p0 : Int) (s13 : (Vector (Vector UInt8 4) 4) × (Vector (Vector UInt8 4) 4) × Int × UInt8) (s133 : (Vector (Vector UInt8 4) 4) × (Vector (Vector UInt8 4) 4) × Int) : Option (Fl ((Vector (Vector UInt8 4) 4) × (Vector (Vector UInt8 4) 4) × Int) ((Vector (Vector UInt8 4) 4) × (Vector (Vector UInt8 4) 4))) :=
 if (decide (s133.2.2 < 4)) = true then (((ZH s133.1 s133.2.2).bind fun x142=>(ZH x142 s13.2.2.1).bind fun x145=>(if (s133.2.2 != s13.2.2.1) = true then (some (x145 != 0)) else (some false) : Option (Bool)).bind fun j147=>(if j147 = true then ((ZB (X5 p0 s13 s133 x145) (s133.1,s133.2.1,0)).bind fun j157=>some (j157.1,j157.2)) else (some (s133.1,s133.2.1)) : Option ((Vector (Vector UInt8 4) 4) × (Vector (Vector UInt8 4) 4))).bind fun j153=>some (j153.1,j153.2) : Option ((Vector (Vector UInt8 4) 4) × (Vector (Vector UInt8 4) 4))).bind fun j138=>some (Fl.nx (j138.1,j138.2,wr (s133.2.2 + 1)))) else (some (Fl.ex (s133.1,s133.2.1)))
def YL (p0 : Int) (s13 : (Vector (Vector UInt8 4) 4) × (Vector (Vector UInt8 4) 4) × Int × UInt8) : Option (Fl ((Vector (Vector UInt8 4) 4) × (Vector (Vector UInt8 4) 4) × Int × UInt8) (Fl ((Vector (Vector UInt8 4) 4) × UInt8) (UInt8 × (Vector (Vector UInt8 4) 4)))) :=
 if (decide (s13.2.2.1 < 4)) = true then ((ZB (US s13) s13.2.2.1).bind fun j18=>if (j18 == 4) = true then (some (Fl.ex (Fl.ex (0,(Vector.replicate 4 (Vector.replicate 4 (0 : UInt8))))))) else (((ZH s13.1 s13.2.2.1).bind fun x47=>(ZH s13.1 j18).bind fun x50=>(ZH s13.1 j18).bind fun x53=>(ZH (s13.1.setIfInBounds (j18).toNat x47) s13.2.2.1).bind fun x56=>some ((s13.1.setIfInBounds (j18).toNat x47).setIfInBounds (s13.2.2.1).toNat x50) : Option ((Vector (Vector UInt8 4) 4))).bind fun j42=>((ZH s13.2.1 s13.2.2.1).bind fun x64=>(ZH s13.2.1 j18).bind fun x67=>(ZH s13.2.1 j18).bind fun x70=>(ZH (s13.2.1.setIfInBounds (j18).toNat x64) s13.2.2.1).bind fun x73=>some ((s13.2.1.setIfInBounds (j18).toNat x64).setIfInBounds (s13.2.2.1).toNat x67) : Option ((Vector (Vector UInt8 4) 4))).bind fun j59=>(ZH j42 s13.2.2.1).bind fun x77=>(ZH x77 s13.2.2.1).bind fun x80=>(Z0 p0 s13.2.2.2 x80).bind fun r82=>(ZH j42 s13.2.2.1).bind fun x85=>(ZH x85 s13.2.2.1).bind fun x88=>(Yk p0 x88).bind fun r90=>(ZB (XX p0 s13 r90) (j42,j59,0)).bind fun j92=>(ZB (XW p0 s13) (j92.1,j92.2,0)).bind fun j130=>some (Fl.nx (j130.1,j130.2,wr (s13.2.2.1 + 1),r82)))) else (some (Fl.ex (Fl.nx (s13.2.1,s13.2.2.2))))
def Xr (p0 : Int) (p1 : (Vector (Vector UInt8 4) 4)) : Option (UInt8 × (Vector (Vector UInt8 4) 4)) :=
 (Vl).bind fun r5=>(ZB (YL p0) (p1,r5,0,1)).bind fun j9=>j9.el (fun s12=>(some (s12.1,s12.2) : Option ((Vector (Vector UInt8 4) 4) × UInt8)).bind fun j217=>some (j217.2,j217.1)) (fun r=>some r)
theorem KT (w0 : World) (p0 : Int) (p1 : (Vector (Vector UInt8 4) 4)) (r : UInt8 × (Vector (Vector UInt8 4) 4)) (hF : Xr p0 p1 = some r) :
  Calls Tryz.prog 211 [vI p0,(Value.agg (enc p1).toArray)].toArray w0 (Rt w0 (Value.tuple [vB r.1,(Value.agg (enc r.2).toArray)].toArray)):=by
 refine ce Tryz.func211 ?_
 intro a hE
 have hM:=M.start w0
 unfold Xr at hF
 refine Zb (ZV (cs:=enc p1) hE hM Za ld rfl rfl fun b1 w a hM hE=>Zc hE rfl fun a hE=>ZA hE hM UL fun b3 w a hM hE=>Ze (Zb ?_))
 obtain ⟨r5,e6,hF⟩:=bind_some hF
 refine Zx hE rfl (cbm Tryz.func232) (JM _  r5 e6) ?_
 rintro v w a ⟨rfl,hK⟩ hE
 have hM:=hM.keep hK
 refine ZA hE hM UL fun b7 w a hM hE=>Zk (seg:=enc r5) (cs':=enc r5) hE hM Za rfl rfl rfl UL (Flat.len _) (zle flq) (Flat.cell _) (Zi flq) fun w a hM hE=>Zc hE rfl fun a hE=>Ze (wp_seq (Zb (Zd hE rfl fun a hE=>Ze ?_)))
 obtain ⟨j9,hl10,hF11⟩:=bind_some hF
 refine ZI (fun a w=>∃ s12 : (Vector (Vector UInt8 4) 4) × UInt8,j9 = Fl.nx s12 ∧ Env 153 a [(5,(ptr b3 0)),(6,(ptr b7 0)),(7,vB s12.2)] ∧ M (Old w0) w0 w [raw b7 (enc s12.1),raw b3 (enc (Vector.replicate 4 (Vector.replicate 4 (0 : UInt8))))]) ?_ ?_
 ·skip
  refine wp_block ?_
  refine ZD (fun (s13 : (Vector (Vector UInt8 4) 4) × (Vector (Vector UInt8 4) 4) × Int × UInt8) a w=>Env 153 a [(0,vI p0),(3,(ptr b1 0)),(5,(ptr b3 0)),(6,(ptr b7 0)),(7,vB s13.2.2.2),(16,vI s13.2.2.1)] ∧ M (Old w0) w0 w [raw b7 (enc s13.2.1),raw b3 (enc (Vector.replicate 4 (Vector.replicate 4 (0 : UInt8)))),raw b1 (enc s13.1)]) hl10 ⟨hE.sub ⟨rfl,rfl,rfl,rfl,rfl,rfl,trivial⟩,hM⟩ ?_
  rintro s13 a w ⟨hE,hM⟩ o16 hs14 hx15
  unfold YL at hs14
  refine Zb (Zg hE rfl rfl rfl fun a hE=>Ze (wp_seq ?_))
  refine Zm hE rfl ?_ ?_
  ·intro hb17
   have hs14:=Zt hs14 hb17
   refine wp_skip (Zq (wp_seq (wp_block (Zb (Zd hE rfl fun a hE=>Zc hE rfl fun a hE=>Ze (Zb (Zd hE rfl fun a hE=>Zc hE rfl fun a hE=>Ze ?_)))))))
   obtain ⟨j18,hl19,hF20⟩:=bind_some hs14
   refine ZQ (fun a w=>Env 153 a [(0,vI p0),(3,(ptr b1 0)),(5,(ptr b3 0)),(6,(ptr b7 0)),(7,vB s13.2.2.2),(8,vI s13.2.2.1),(9,vI j18),(16,vI s13.2.2.1)] ∧ M (Old w0) w0 w [raw b7 (enc s13.2.1),raw b3 (enc (Vector.replicate 4 (Vector.replicate 4 (0 : UInt8)))),raw b1 (enc s13.1)]) ?_ ?_
   ·skip
    refine wp_block ?_
    refine ZD (fun (s21 : Int) a w=>Env 153 a [(0,vI p0),(3,(ptr b1 0)),(5,(ptr b3 0)),(6,(ptr b7 0)),(7,vB s13.2.2.2),(8,vI s13.2.2.1),(9,vI s21),(16,vI s13.2.2.1)] ∧ M (Old w0) w0 w [raw b7 (enc s13.2.1),raw b3 (enc (Vector.replicate 4 (Vector.replicate 4 (0 : UInt8)))),raw b1 (enc s13.1)]) hl19 ⟨hE.sub ⟨rfl,rfl,rfl,rfl,rfl,rfl,rfl,rfl,trivial⟩,hM⟩ ?_
    rintro s21 a w ⟨hE,hM⟩ o24 hs22 hx23
    unfold US at hs22
    refine wp_seq ?_
    obtain ⟨j25,hl26,hF27⟩:=bind_some hs22
    refine ZQ (fun a w=>Env 153 a [(0,vI p0),(3,(ptr b1 0)),(5,(ptr b3 0)),(6,(ptr b7 0)),(7,vB s13.2.2.2),(8,vI s13.2.2.1),(9,vI s21),(16,vI s13.2.2.1),(29,vT j25)] ∧ M (Old w0) w0 w [raw b7 (enc s13.2.1),raw b3 (enc (Vector.replicate 4 (Vector.replicate 4 (0 : UInt8)))),raw b1 (enc s13.1)]) ?_ ?_
    ·skip
     refine wp_region_lit (Zd hE rfl fun a hE=>Zg hE rfl rfl rfl fun a hE=>Zd hE rfl ?_); intro a hE
     refine Wk (decide (s21 < 4)) (fun hb28=>?_) (fun hb28=>?_)
     ·have hl26:=Zt hl26 hb28
      refine Zv hE (Zr hE rfl (lkb rfl hb28)) (by decide) rfl fun a hE=>Zv hE (Zr hE rfl (lkb rfl hb28)) (by decide) rfl ?_; intro a hE
      obtain ⟨x30,hi29,hl26⟩:=bvx hl26
      refine ZF hE (Zr hE rfl (lkb rfl hb28)) (by decide) rfl rfl Tryz.underlying160 Xz hi29.1 ?_; intro a hE
      obtain ⟨x33,hi32,hl26⟩:=bvx hl26
      refine ZF hE (Zr hE rfl (lkb rfl hb28)) (by decide) rfl rfl Tryz.underlying158 ty5 hi32.1 fun a hE=>ZS (v:=(vB x33)) hE (Zr hE rfl (lkb rfl hb28)) (by decide) rfl ty5 rfl (At.vec (At.vec hM.rawAt2 hi29.2) hi32.2) fun a hE=>Yv hE (Zr hE rfl (lkb rfl hb28)) (by decide) rfl rfl (qu x33 0) fun a hE=>Yd hE (lkb rfl hb28) rfl fun a hE=>Zh ?_
      obtain rfl:=Option.some.inj hl26
      refine Zj ?_
      exact ⟨hE.sub ⟨rfl,rfl,rfl,rfl,rfl,rfl,rfl,rfl,rfl,trivial⟩,hM⟩
     ·have hl26:=Zu hl26 hb28
      refine Zp hE rfl (lkb rfl hb28) rfl (by decide) fun a hE=>Zp hE rfl (lkb rfl hb28) rfl (by decide) fun a hE=>Zp hE rfl (lkb rfl hb28) rfl (by decide) fun a hE=>Zp hE rfl (lkb rfl hb28) rfl (by decide) fun a hE=>Zp hE rfl (lkb rfl hb28) rfl (by decide) fun a hE=>Zp hE rfl (lkb rfl hb28) rfl (by decide) fun a hE=>XP hE (lkb rfl hb28) rfl fun a hE=>Zh ?_
      obtain rfl:=Option.some.inj hl26
      refine Zj ?_
      exact ⟨hE.sub ⟨rfl,rfl,rfl,rfl,rfl,rfl,rfl,rfl,rfl,trivial⟩,hM⟩
    ·skip
     rintro a w ⟨hE,hM⟩
     refine Zm hE rfl ?_ ?_
     ·intro hb37
      have hF27:=Zt hF27 hb37
      refine wp_skip (Zq (wp_block (wp_region_lit (Zd hE rfl fun a hE=>Zg hE rfl rfl rfl fun a hE=>Zc hE rfl fun a hE=>Zh (Z2 (Zj ?_))))))
      exact ⟨_,(ois hF27),hE.sub ⟨rfl,rfl,rfl,rfl,rfl,rfl,rfl,rfl,trivial⟩,hM⟩
     ·intro hb37
      have hF27:=Zu hF27 hb37
      refine wp_exit (Zl (Zl (Z3 ?_)))
      obtain rfl:=hx23 _ (ois hF27)
      refine Zj ?_
      exact ⟨hE.sub ⟨rfl,rfl,rfl,rfl,rfl,rfl,rfl,rfl,trivial⟩,hM⟩
   ·skip
    rintro a w ⟨hE,hM⟩
    refine wp_seq (Zb (Zd hE rfl fun a hE=>Zg hE rfl rfl rfl fun a hE=>Ze ?_))
    refine Zm hE rfl ?_ ?_
    ·intro hb39
     have hF20:=Zt hF20 hb39
     refine Zb (XF (parts:=[]) (vs:=[]) (cs:=enc (Vector.replicate 4 (Vector.replicate 4 (0 : UInt8)))) hE Za ld rfl rfl UL rfl Xz YZ fun a hE=>Zc hE rfl ?_); intro a hE
     have hM:=hM.pull1
     refine Zk (seg:=enc (Vector.replicate 4 (Vector.replicate 4 (0 : UInt8)))) (cs':=enc (Vector.replicate 4 (Vector.replicate 4 (0 : UInt8)))) hE hM Za rfl rfl rfl UL (Flat.len _) (zle flq) (Flat.cell _) (Zi flq) fun w a hM hE=>Ze ?_
     obtain rfl:=hx15 _ (ois hF20)
     obtain rfl:=Option.some.inj hF11
     have hq41 : Yu Tryz.prog _ _ (.cell 5 160) _:=ZJ hE rfl UL rfl hM.rawAt0 (Flat.len _) rfl
     exact wp_ret (Zo (Yf (Zo (Zo (Yf (Zo (Zo (T0 hE rfl (ZT hE rfl) hq41 ⟨_,rfl,rfl,hM.kept⟩))))))))
    ·intro hb39
     have hF20:=Zu hF20 hb39
     refine wp_skip (Zq ?_)
     obtain ⟨j42,hl43,hF44⟩:=bind_some hF20
     refine ZQ (fun a w=>Env 153 a [(0,vI p0),(3,(ptr b1 0)),(5,(ptr b3 0)),(6,(ptr b7 0)),(7,vB s13.2.2.2),(8,vI s13.2.2.1),(9,vI j18),(16,vI s13.2.2.1)] ∧ M (Old w0) w0 w [raw b7 (enc s13.2.1),raw b3 (enc (Vector.replicate 4 (Vector.replicate 4 (0 : UInt8)))),raw b1 (enc j42)]) ?_ ?_
     ·skip
      have hM:=hM.pull2
      obtain ⟨x47,hi46,hl43⟩:=bvx hl43
      obtain ⟨x50,hi49,hl43⟩:=bvx hl43
      obtain ⟨x53,hi52,hl43⟩:=bvx hl43
      refine XQ (its:=[raw b7 (enc s13.2.1),raw b3 (enc (Vector.replicate 4 (Vector.replicate 4 (0 : UInt8))))]) (mk:=([mkT 9 (raw b1 (enc s13.1)) (raw b1 (enc (s13.1.setIfInBounds (j18).toNat x47)))] : Mk)) [35,36,37,38,39,40,41,42,43,162] Y4 rfl rfl (by decide) rfl hE (fun u=>M.qT (M.q0 hM.drew u)) (qsP (fun z=>Zv z.E Za ld rfl (kr0 rfl)) (qsP (fun z=>Zv z.E Za ld rfl (kr0 rfl)) (qsP (fun z=>Zv z.E Za ld rfl (kr0 rfl)) (qsP (fun z=>ZF z.E Za ld rfl rfl Tryz.underlying160 Xz hi46.1 (kr0 rfl)) (qsP (v:=(Value.agg (enc x47).toArray)) ?_ (qsP (fun z=>Zv z.E Za ld rfl (kr0 rfl)) (qsP (fun z=>ZF z.E Za ld rfl rfl Tryz.underlying160 Xz hi49.1 (kr0 rfl)) (qsP (v:=(Value.agg (enc x50).toArray)) ?_ (qsP (fun z=>ZF z.E Za ld rfl rfl Tryz.underlying160 Xz hi52.1 (kr0 rfl)) (qsM (pr:=fun v=>True) ?_ qs0)))))))))) ?_
      ·intro a w ux45 D z
       have hE:=z.E
       have hD : D 4 = false:=z.F
       have hM:=z.M.togA (pre:=[_,_]) (BT (j:=9) (k:=1) z.c rfl rfl rfl hD)
       exact Zn hE rfl Xz rfl (At.vec hM.rawAt2 hi46.2) (Flat.len _) fun a hE=>⟨Kept.refl _ _,_,rfl,hE⟩
      ·intro a w ux45 D z
       have hE:=z.E
       have hD : D 7 = false:=z.F
       have hM:=z.M.togA (pre:=[_,_]) (BT (j:=9) (k:=9) z.c rfl rfl rfl hD)
       exact Zn hE rfl Xz rfl (At.vec hM.rawAt2 hi49.2) (Flat.len _) fun a hE=>⟨Kept.refl _ _,_,rfl,hE⟩
      ·intro a w ux45 D z
       have hE:=z.E
       have hD : D 9 = false:=z.F
       have hM:=(z.M.togA (pre:=[_,_]) hD).pull2
       exact Zk (seg:=enc x47) (cs':=enc (s13.1.setIfInBounds (j18).toNat x47)) hE hM Za rfl rfl rfl Xz (Flat.len _) (ZK (v:=s13.1) (x:=x47) hi52.1) (Flat.cell _) (ZE (v:=s13.1) (x:=x47) hi52.1) fun w a hM hE=>⟨undef,_,rfl,Env.dummy hE (by decide),M.qTog (mk1:=[]) (mk2:=[]) hM rfl,trivial⟩
      ·intro a w ux45 D hE hM hG hall
       have d9:=hall 9 (by decide)
       have hM:=hM.togB (pre:=[_,_]) d9
       obtain ⟨x56,hi55,hl43⟩:=bvx hl43
       refine ZC hE rfl rfl Tryz.underlying160 Xz hi55.1 ?_; intro a hE
       have hM:=hM.pull2
       refine Zk (seg:=enc x50) (cs':=enc ((s13.1.setIfInBounds (j18).toNat x47).setIfInBounds (s13.2.2.1).toNat x50)) hE hM Za rfl rfl rfl Xz (Flat.len _) (ZK (v:=(s13.1.setIfInBounds (j18).toNat x47)) (x:=x50) hi55.1) (Flat.cell _) (ZE (v:=(s13.1.setIfInBounds (j18).toNat x47)) (x:=x50) hi55.1) fun w a hM hE=>Zh ?_
       obtain rfl:=Option.some.inj hl43
       refine Zj ?_
       have hM:=hM.pull2.pull2
       exact ⟨hE.sub ⟨rfl,rfl,rfl,rfl,rfl,rfl,rfl,rfl,trivial⟩,hM⟩
     ·skip
      rintro a w ⟨hE,hM⟩
      obtain ⟨j59,hl60,hF61⟩:=bind_some hF44
      refine ZQ (fun a w=>Env 153 a [(0,vI p0),(3,(ptr b1 0)),(5,(ptr b3 0)),(6,(ptr b7 0)),(7,vB s13.2.2.2),(8,vI s13.2.2.1),(16,vI s13.2.2.1)] ∧ M (Old w0) w0 w [raw b7 (enc j59),raw b3 (enc (Vector.replicate 4 (Vector.replicate 4 (0 : UInt8)))),raw b1 (enc j42)]) ?_ ?_
      ·skip
       obtain ⟨x64,hi63,hl60⟩:=bvx hl60
       obtain ⟨x67,hi66,hl60⟩:=bvx hl60
       obtain ⟨x70,hi69,hl60⟩:=bvx hl60
       refine XQ (its:=[raw b3 (enc (Vector.replicate 4 (Vector.replicate 4 (0 : UInt8)))),raw b1 (enc j42)]) (mk:=([mkT 9 (raw b7 (enc s13.2.1)) (raw b7 (enc (s13.2.1.setIfInBounds (j18).toNat x64)))] : Mk)) [45,46,47,48,49,50,51,52,53,162] Y4 rfl rfl (by decide) rfl hE (fun u=>M.qT (M.q0 hM.drew u)) (qsP (fun z=>Zv z.E Za ld rfl (kr0 rfl)) (qsP (fun z=>Zv z.E Za ld rfl (kr0 rfl)) (qsP (fun z=>Zv z.E Za ld rfl (kr0 rfl)) (qsP (fun z=>ZF z.E Za ld rfl rfl Tryz.underlying160 Xz hi63.1 (kr0 rfl)) (qsP (v:=(Value.agg (enc x64).toArray)) ?_ (qsP (fun z=>Zv z.E Za ld rfl (kr0 rfl)) (qsP (fun z=>ZF z.E Za ld rfl rfl Tryz.underlying160 Xz hi66.1 (kr0 rfl)) (qsP (v:=(Value.agg (enc x67).toArray)) ?_ (qsP (fun z=>ZF z.E Za ld rfl rfl Tryz.underlying160 Xz hi69.1 (kr0 rfl)) (qsM (pr:=fun v=>True) ?_ qs0)))))))))) ?_
       ·intro a w ux62 D z
        have hE:=z.E
        have hD : D 4 = false:=z.F
        have hM:=z.M.togA (pre:=[_,_]) (BT (j:=9) (k:=1) z.c rfl rfl rfl hD)
        exact Zn hE rfl Xz rfl (At.vec hM.rawAt2 hi63.2) (Flat.len _) fun a hE=>⟨Kept.refl _ _,_,rfl,hE⟩
       ·intro a w ux62 D z
        have hE:=z.E
        have hD : D 7 = false:=z.F
        have hM:=z.M.togA (pre:=[_,_]) (BT (j:=9) (k:=9) z.c rfl rfl rfl hD)
        exact Zn hE rfl Xz rfl (At.vec hM.rawAt2 hi66.2) (Flat.len _) fun a hE=>⟨Kept.refl _ _,_,rfl,hE⟩
       ·intro a w ux62 D z
        have hE:=z.E
        have hD : D 9 = false:=z.F
        have hM:=(z.M.togA (pre:=[_,_]) hD).pull2
        exact Zk (seg:=enc x64) (cs':=enc (s13.2.1.setIfInBounds (j18).toNat x64)) hE hM Za rfl rfl rfl Xz (Flat.len _) (ZK (v:=s13.2.1) (x:=x64) hi69.1) (Flat.cell _) (ZE (v:=s13.2.1) (x:=x64) hi69.1) fun w a hM hE=>⟨undef,_,rfl,Env.dummy hE (by decide),M.qTog (mk1:=[]) (mk2:=[]) hM rfl,trivial⟩
       ·intro a w ux62 D hE hM hG hall
        have d9:=hall 9 (by decide)
        have hM:=hM.togB (pre:=[_,_]) d9
        obtain ⟨x73,hi72,hl60⟩:=bvx hl60
        refine ZC hE rfl rfl Tryz.underlying160 Xz hi72.1 ?_; intro a hE
        have hM:=hM.pull2
        refine Zk (seg:=enc x67) (cs':=enc ((s13.2.1.setIfInBounds (j18).toNat x64).setIfInBounds (s13.2.2.1).toNat x67)) hE hM Za rfl rfl rfl Xz (Flat.len _) (ZK (v:=(s13.2.1.setIfInBounds (j18).toNat x64)) (x:=x67) hi72.1) (Flat.cell _) (ZE (v:=(s13.2.1.setIfInBounds (j18).toNat x64)) (x:=x67) hi72.1) fun w a hM hE=>Zh ?_
        obtain rfl:=Option.some.inj hl60
        refine Zj ?_
        exact ⟨hE.sub ⟨rfl,rfl,rfl,rfl,rfl,rfl,rfl,trivial⟩,hM⟩
      ·skip
       rintro a w ⟨hE,hM⟩
       refine Zb (Zd hE rfl fun a hE=>Zd hE rfl fun a hE=>Zd hE rfl fun a hE=>Zd hE rfl ?_); intro a hE
       obtain ⟨x77,hi76,hF61⟩:=bvx hF61
       refine ZC hE rfl rfl Tryz.underlying160 Xz hi76.1 ?_; intro a hE
       obtain ⟨x80,hi79,hF61⟩:=bvx hF61
       refine ZC hE rfl rfl Tryz.underlying158 ty5 hi79.1 fun a hE=>Zw (v:=(vB x80)) hE rfl ty5 rfl (At.vec (At.vec hM.rawAt2 hi76.2) hi79.2) ?_; intro a hE
       obtain ⟨r82,e83,hF61⟩:=bind_some hF61
       refine Zx hE rfl HX (YO _ p0 s13.2.2.2 x80 r82 e83) ?_
       rintro v w a ⟨rfl,hK⟩ hE
       have hM:=hM.keep hK
       refine Zc hE rfl fun a hE=>Ze (Zb (Zd hE rfl fun a hE=>Zd hE rfl fun a hE=>Zd hE rfl ?_)); intro a hE
       obtain ⟨x85,hi84,hF61⟩:=bvx hF61
       refine ZC hE rfl rfl Tryz.underlying160 Xz hi84.1 ?_; intro a hE
       obtain ⟨x88,hi87,hF61⟩:=bvx hF61
       refine ZC hE rfl rfl Tryz.underlying158 ty5 hi87.1 fun a hE=>Zw (v:=(vB x88)) hE rfl ty5 rfl (At.vec (At.vec hM.rawAt2 hi84.2) hi87.2) ?_; intro a hE
       obtain ⟨r90,e91,hF61⟩:=bind_some hF61
       refine Zx hE rfl Zai (UO _ p0 x88 r90 e91) ?_
       rintro v w a ⟨rfl,hK⟩ hE
       have hM:=hM.keep hK
       refine Zc hE rfl fun a hE=>Ze (wp_seq (Zb (Zd hE rfl fun a hE=>Ze ?_)))
       obtain ⟨j92,hl93,hF94⟩:=bind_some hF61
       refine ZI (fun a w=>Env 153 a [(0,vI p0),(3,(ptr b1 0)),(5,(ptr b3 0)),(6,(ptr b7 0)),(7,vB r82),(8,vI s13.2.2.1),(16,vI s13.2.2.1)] ∧ M (Old w0) w0 w [raw b7 (enc j92.2),raw b3 (enc (Vector.replicate 4 (Vector.replicate 4 (0 : UInt8)))),raw b1 (enc j92.1)]) ?_ ?_
       ·skip
        refine wp_block ?_
        refine ZD (fun (s95 : (Vector (Vector UInt8 4) 4) × (Vector (Vector UInt8 4) 4) × Int) a w=>Env 153 a [(0,vI p0),(3,(ptr b1 0)),(5,(ptr b3 0)),(6,(ptr b7 0)),(7,vB r82),(8,vI s13.2.2.1),(10,vB r90),(16,vI s13.2.2.1),(70,vI s95.2.2)] ∧ M (Old w0) w0 w [raw b7 (enc s95.2.1),raw b3 (enc (Vector.replicate 4 (Vector.replicate 4 (0 : UInt8)))),raw b1 (enc s95.1)]) hl93 ⟨hE.sub ⟨rfl,rfl,rfl,rfl,rfl,rfl,rfl,rfl,rfl,trivial⟩,hM⟩ ?_
        rintro s95 a w ⟨hE,hM⟩ o98 hs96 hx97
        unfold XX at hs96
        refine Zb (Zg hE rfl rfl rfl fun a hE=>Ze (wp_seq ?_))
        refine Zm hE rfl ?_ ?_
        ·intro hb99
         have hs96:=Zt hs96 hb99
         refine wp_skip (Zq (wp_seq (wp_block (Zb (Zd hE rfl fun a hE=>Zc hE rfl fun a hE=>Ze ?_)))))
         have hM:=hM.pull2
         obtain ⟨x102,hi101,hs96⟩:=bvx hs96
         obtain ⟨x105,hi104,hs96⟩:=bvx hs96
         obtain ⟨r107,e108,hs96⟩:=bind_some hs96
         obtain ⟨x110,hi109,hs96⟩:=bvx hs96
         obtain ⟨x113,hi112,hs96⟩:=bvx hs96
         obtain ⟨r115,e116,hs96⟩:=bind_some hs96
         obtain ⟨x118,hi117,hs96⟩:=bvx hs96
         obtain ⟨x121,hi120,hs96⟩:=bvx hs96
         obtain ⟨x124,hi123,hs96⟩:=bvx hs96
         refine XQ (its:=[raw b7 (enc s95.2.1),raw b3 (enc (Vector.replicate 4 (Vector.replicate 4 (0 : UInt8))))]) (mk:=([mkT 22 (raw b1 (enc s95.1)) (raw b1 (enc (s95.1.setIfInBounds (s13.2.2.1).toNat (x118.setIfInBounds (s95.2.2).toNat r107))))] : Mk)) [73,74,75,76,77,78,79,80,81,82,83,84,85,86,87,88,89,90,91,92,93,94,175,95] Y4 rfl rfl (by decide) rfl hE (fun u=>M.qT (M.q0 hM.drew u)) (qsP (fun z=>Zv z.E Za ld rfl (kr0 rfl)) (qsP (fun z=>Zv z.E Za ld rfl (kr0 rfl)) (qsP (fun z=>Zv z.E Za ld rfl (kr0 rfl)) (qsP (fun z=>Zv z.E Za ld rfl (kr0 rfl)) (qsP (fun z=>Zv z.E Za ld rfl (kr0 rfl)) (qsP (fun z=>Zv z.E Za ld rfl (kr0 rfl)) (qsP (fun z=>Zv z.E Za ld rfl (kr0 rfl)) (qsP (fun z=>ZF z.E Za ld rfl rfl Tryz.underlying160 Xz hi101.1 (kr0 rfl)) (qsP (fun z=>ZF z.E Za ld rfl rfl Tryz.underlying158 ty5 hi104.1 (kr0 rfl)) (qsP (v:=(vB x105)) ?_ (qsP (fun z=>Zv z.E Za ld rfl (kr0 rfl)) (qsP (fun z=>Z7 z.E Za ld rfl HX (YO _ p0 x105 r90 r107 e108) (kc rfl)) (qsP (fun z=>Zv z.E Za ld rfl (kr0 rfl)) (qsP (fun z=>Zv z.E Za ld rfl (kr0 rfl)) (qsP (fun z=>Zv z.E Za ld rfl (kr0 rfl)) (qsP (fun z=>ZF z.E Za ld rfl rfl Tryz.underlying160 Xz hi109.1 (kr0 rfl)) (qsP (fun z=>ZF z.E Za ld rfl rfl Tryz.underlying158 ty5 hi112.1 (kr0 rfl)) (qsP (v:=(vB x113)) ?_ (qsP (fun z=>Zv z.E Za ld rfl (kr0 rfl)) (qsP (fun z=>Z7 z.E Za ld rfl HX (YO _ p0 x113 r90 r115 e116) (kc rfl)) (qsP (fun z=>ZF z.E Za ld rfl rfl Tryz.underlying160 Xz hi117.1 (kr0 rfl)) (qsP (fun z=>ZF z.E Za ld rfl rfl Tryz.underlying158 ty5 hi120.1 (kr0 rfl)) (qsM (pr:=fun v=>True) ?_ (qsP (fun z=>ZF z.E Za ld rfl rfl Tryz.underlying160 Xz hi123.1 (kr0 rfl)) qs0)))))))))))))))))))))))) ?_
         ·intro a w ux100 D z
          have hE:=z.E
          have hD : D 9 = false:=z.F
          have hM:=z.M.togA (pre:=[_,_]) (BT (j:=22) (k:=12) z.c rfl rfl rfl hD)
          exact Zw (v:=(vB x105)) hE rfl ty5 rfl (At.vec (At.vec hM.rawAt2 hi101.2) hi104.2) fun a hE=>⟨Kept.refl _ _,_,rfl,hE⟩
         ·intro a w ux100 D z
          have hE:=z.E
          have hM:=z.M
          exact Zw (v:=(vB x113)) hE rfl ty5 rfl (At.vec (At.vec hM.rawAt0 hi109.2) hi112.2) fun a hE=>⟨Kept.refl _ _,_,rfl,hE⟩
         ·intro a w ux100 D z
          have hE:=z.E
          have hD : D 22 = false:=z.F
          have hM:=(z.M.togA (pre:=[_,_]) hD).pull2
          exact Zk (seg:=[vB r107]) (cs':=enc (s95.1.setIfInBounds (s13.2.2.1).toNat (x118.setIfInBounds (s95.2.2).toNat r107))) hE hM Za rfl rfl rfl ty5 rfl (Uh (o':=0 + (s95.2.2).toNat * 1) hi117 (ZK (v:=x118) (x:=r107) hi120.1) (by first | omega | (simp only [Flat.n] <;> omega))) (Flat.cell (r107 : UInt8)) (Vo (o':=0 + (s95.2.2).toNat * 1) hi117 (ZK (v:=x118) (x:=r107) hi120.1) (ZE (v:=x118) (x:=r107) hi120.1) (by first | omega | (simp only [Flat.n] <;> omega))) fun w a hM hE=>⟨undef,_,rfl,Env.dummy hE (by decide),M.qTog (mk1:=[]) (mk2:=[]) hM rfl,trivial⟩
         ·intro a w ux100 D hE hM hG hall
          have d22:=hall 22 (by decide)
          have hM:=hM.togB (pre:=[_,_]) d22
          obtain ⟨x127,hi126,hs96⟩:=bvx hs96
          refine ZC hE rfl rfl Tryz.underlying158 ty5 hi126.1 fun a hE=>Zk (seg:=[vB r115]) (cs':=enc (s95.2.1.setIfInBounds (s13.2.2.1).toNat (x124.setIfInBounds (s95.2.2).toNat r115))) hE hM Za rfl rfl rfl ty5 rfl (Uh (o':=0 + (s95.2.2).toNat * 1) hi123 (ZK (v:=x124) (x:=r115) hi126.1) (by first | omega | (simp only [Flat.n] <;> omega))) (Flat.cell (r115 : UInt8)) (Vo (o':=0 + (s95.2.2).toNat * 1) hi123 (ZK (v:=x124) (x:=r115) hi126.1) (ZE (v:=x124) (x:=r115) hi126.1) (by first | omega | (simp only [Flat.n] <;> omega))) fun w a hM hE=>Zh (Z2 (Zq (wp_region_lit (Zg hE rfl rfl rfl fun a hE=>Zd hE rfl fun a hE=>Zh (Zj ?_)))))
          exact ⟨_,(ois hs96),hE.sub ⟨rfl,rfl,rfl,rfl,rfl,rfl,rfl,rfl,rfl,trivial⟩,hM⟩
        ·intro hb99
         have hs96:=Zu hs96 hb99
         refine wp_exit (Zl (Zl (Z3 ?_)))
         obtain rfl:=hx97 _ (ois hs96)
         refine Zj ?_
         exact ⟨hE.sub ⟨rfl,rfl,rfl,rfl,rfl,rfl,rfl,trivial⟩,hM⟩
       ·skip
        rintro a w ⟨hE,hM⟩
        refine Zq (Zb (Zd hE rfl fun a hE=>Ze ?_))
        obtain ⟨j130,hl131,hF132⟩:=bind_some hF94
        refine ZI (fun a w=>Env 153 a [(0,vI p0),(3,(ptr b1 0)),(5,(ptr b3 0)),(6,(ptr b7 0)),(7,vB r82),(16,vI s13.2.2.1)] ∧ M (Old w0) w0 w [raw b7 (enc j130.2),raw b3 (enc (Vector.replicate 4 (Vector.replicate 4 (0 : UInt8)))),raw b1 (enc j130.1)]) ?_ ?_
        ·skip
         refine wp_block ?_
         refine ZD (fun (s133 : (Vector (Vector UInt8 4) 4) × (Vector (Vector UInt8 4) 4) × Int) a w=>Env 153 a [(0,vI p0),(3,(ptr b1 0)),(5,(ptr b3 0)),(6,(ptr b7 0)),(7,vB r82),(8,vI s13.2.2.1),(16,vI s13.2.2.1),(98,vI s133.2.2)] ∧ M (Old w0) w0 w [raw b7 (enc s133.2.1),raw b3 (enc (Vector.replicate 4 (Vector.replicate 4 (0 : UInt8)))),raw b1 (enc s133.1)]) hl131 ⟨hE.sub ⟨rfl,rfl,rfl,rfl,rfl,rfl,rfl,rfl,trivial⟩,hM⟩ ?_
         rintro s133 a w ⟨hE,hM⟩ o136 hs134 hx135
         unfold XW at hs134
         refine Zb (Zg hE rfl rfl rfl fun a hE=>Ze (wp_seq ?_))
         refine Zm hE rfl ?_ ?_
         ·intro hb137
          have hs134:=Zt hs134 hb137
          refine wp_skip (Zq ?_)
          obtain ⟨j138,hl139,hF140⟩:=bind_some hs134
          refine ZQ (fun a w=>Env 153 a [(0,vI p0),(3,(ptr b1 0)),(5,(ptr b3 0)),(6,(ptr b7 0)),(7,vB r82),(8,vI s13.2.2.1),(16,vI s13.2.2.1),(98,vI s133.2.2)] ∧ M (Old w0) w0 w [raw b7 (enc j138.2),raw b3 (enc (Vector.replicate 4 (Vector.replicate 4 (0 : UInt8)))),raw b1 (enc j138.1)]) ?_ ?_
          ·skip
           refine wp_block (Zb (Zd hE rfl fun a hE=>Zc hE rfl fun a hE=>Ze (Zb (Zd hE rfl fun a hE=>Zd hE rfl ?_)))); intro a hE
           obtain ⟨x142,hi141,hl139⟩:=bvx hl139
           refine ZC hE rfl rfl Tryz.underlying160 Xz hi141.1 ?_; intro a hE
           obtain ⟨x145,hi144,hl139⟩:=bvx hl139
           refine ZC hE rfl rfl Tryz.underlying158 ty5 hi144.1 fun a hE=>Zw (v:=(vB x145)) hE rfl ty5 rfl (At.vec (At.vec hM.rawAt2 hi141.2) hi144.2) fun a hE=>Zc hE rfl fun a hE=>Ze ?_
           obtain ⟨j147,hl148,hF149⟩:=bind_some hl139
           refine ZQ (fun a w=>Env 153 a [(0,vI p0),(3,(ptr b1 0)),(5,(ptr b3 0)),(6,(ptr b7 0)),(7,vB r82),(8,vI s13.2.2.1),(12,vI s133.2.2),(13,vB x145),(16,vI s13.2.2.1),(98,vI s133.2.2),(112,vT j147)] ∧ M (Old w0) w0 w [raw b7 (enc s133.2.1),raw b3 (enc (Vector.replicate 4 (Vector.replicate 4 (0 : UInt8)))),raw b1 (enc s133.1)]) ?_ ?_
           ·skip
            refine wp_region_lit (Zd hE rfl fun a hE=>Zd hE rfl fun a hE=>Zg hE rfl rfl rfl fun a hE=>Zd hE rfl ?_); intro a hE
            refine Wk (s133.2.2 != s13.2.2.1) (fun hb150=>?_) (fun hb150=>?_)
            ·have hl148:=Zt hl148 hb150
             refine Zv hE (Zr hE rfl (lkb rfl hb150)) (by decide) rfl fun a hE=>Yv hE (Zr hE rfl (lkb rfl hb150)) (by decide) rfl rfl (Q7 x145 0) fun a hE=>Yd hE (lkb rfl hb150) rfl fun a hE=>Zh ?_
             obtain rfl:=Option.some.inj hl148
             refine Zj ?_
             exact ⟨hE.sub ⟨rfl,rfl,rfl,rfl,rfl,rfl,rfl,rfl,rfl,rfl,rfl,trivial⟩,hM⟩
            ·have hl148:=Zu hl148 hb150
             refine Zp hE rfl (lkb rfl hb150) rfl (by decide) fun a hE=>Zp hE rfl (lkb rfl hb150) rfl (by decide) fun a hE=>XP hE (lkb rfl hb150) rfl fun a hE=>Zh ?_
             obtain rfl:=Option.some.inj hl148
             refine Zj ?_
             exact ⟨hE.sub ⟨rfl,rfl,rfl,rfl,rfl,rfl,rfl,rfl,rfl,rfl,rfl,trivial⟩,hM⟩
           ·skip
            rintro a w ⟨hE,hM⟩
            obtain ⟨j153,hl154,hF155⟩:=bind_some hF149
            refine ZI (fun a w=>Env 153 a [(0,vI p0),(3,(ptr b1 0)),(5,(ptr b3 0)),(6,(ptr b7 0)),(7,vB r82),(8,vI s13.2.2.1),(16,vI s13.2.2.1),(98,vI s133.2.2)] ∧ M (Old w0) w0 w [raw b7 (enc j153.2),raw b3 (enc (Vector.replicate 4 (Vector.replicate 4 (0 : UInt8)))),raw b1 (enc j153.1)]) ?_ ?_
            ·skip
             refine Zm hE rfl ?_ ?_
             ·intro hb156
              have hl154:=Zt hl154 hb156
              refine Zb (Zd hE rfl fun a hE=>Ze ?_)
              obtain ⟨j157,hl158,hF159⟩:=bind_some hl154
              refine ZI (fun a w=>Env 153 a [(0,vI p0),(3,(ptr b1 0)),(5,(ptr b3 0)),(6,(ptr b7 0)),(7,vB r82),(8,vI s13.2.2.1),(16,vI s13.2.2.1),(98,vI s133.2.2)] ∧ M (Old w0) w0 w [raw b7 (enc j157.2),raw b3 (enc (Vector.replicate 4 (Vector.replicate 4 (0 : UInt8)))),raw b1 (enc j157.1)]) ?_ ?_
              ·skip
               refine wp_block ?_
               refine ZD (fun (s160 : (Vector (Vector UInt8 4) 4) × (Vector (Vector UInt8 4) 4) × Int) a w=>Env 153 a [(0,vI p0),(3,(ptr b1 0)),(5,(ptr b3 0)),(6,(ptr b7 0)),(7,vB r82),(8,vI s13.2.2.1),(12,vI s133.2.2),(13,vB x145),(16,vI s13.2.2.1),(98,vI s133.2.2),(113,vI s160.2.2)] ∧ M (Old w0) w0 w [raw b7 (enc s160.2.1),raw b3 (enc (Vector.replicate 4 (Vector.replicate 4 (0 : UInt8)))),raw b1 (enc s160.1)]) hl158 ⟨hE.sub ⟨rfl,rfl,rfl,rfl,rfl,rfl,rfl,rfl,rfl,rfl,rfl,trivial⟩,hM⟩ ?_
               rintro s160 a w ⟨hE,hM⟩ o163 hs161 hx162
               unfold X5 at hs161
               refine Zb (Zg hE rfl rfl rfl fun a hE=>Ze (wp_seq ?_))
               refine Zm hE rfl ?_ ?_
               ·intro hb164
                have hs161:=Zt hs161 hb164
                refine wp_skip (Zq (wp_seq (wp_block (Zb (Zd hE rfl fun a hE=>Zc hE rfl fun a hE=>Ze ?_)))))
                obtain ⟨j165,hl166,hF167⟩:=bind_some hs161
                refine ZQ (fun a w=>Env 153 a [(0,vI p0),(3,(ptr b1 0)),(5,(ptr b3 0)),(6,(ptr b7 0)),(7,vB r82),(8,vI s13.2.2.1),(12,vI s133.2.2),(13,vB x145),(14,vI s160.2.2),(16,vI s13.2.2.1),(98,vI s133.2.2),(113,vI s160.2.2)] ∧ M (Old w0) w0 w [raw b7 (enc s160.2.1),raw b3 (enc (Vector.replicate 4 (Vector.replicate 4 (0 : UInt8)))),raw b1 (enc j165)]) ?_ ?_
                ·skip
                 obtain ⟨x170,hi169,hl166⟩:=bvx hl166
                 obtain ⟨x173,hi172,hl166⟩:=bvx hl166
                 obtain ⟨x176,hi175,hl166⟩:=bvx hl166
                 obtain ⟨x179,hi178,hl166⟩:=bvx hl166
                 obtain ⟨r181,e182,hl166⟩:=bind_some hl166
                 obtain ⟨x184,hi183,hl166⟩:=bvx hl166
                 obtain ⟨x187,hi186,hl166⟩:=bvx hl166
                 refine Yc [116,117,118,119,120,121,122,123,124,125,126,127,128,129,130,131] Y4 rfl rfl (by decide) rfl hE hM (qsP (fun z=>Zv z.E Za ld rfl (kr0 rfl)) (qsP (fun z=>Zv z.E Za ld rfl (kr0 rfl)) (qsP (fun z=>ZF z.E Za ld rfl rfl Tryz.underlying160 Xz hi169.1 (kr0 rfl)) (qsP (fun z=>ZF z.E Za ld rfl rfl Tryz.underlying158 ty5 hi172.1 (kr0 rfl)) (qsP (fun z=>ZS (v:=(vB x173)) z.E Za ld rfl ty5 rfl (At.vec (At.vec (z.M.rawAt2) hi169.2) hi172.2) (kr0 rfl)) (qsP (fun z=>Zv z.E Za ld rfl (kr0 rfl)) (qsP (fun z=>Zv z.E Za ld rfl (kr0 rfl)) (qsP (fun z=>Zv z.E Za ld rfl (kr0 rfl)) (qsP (fun z=>Zv z.E Za ld rfl (kr0 rfl)) (qsP (fun z=>ZF z.E Za ld rfl rfl Tryz.underlying160 Xz hi175.1 (kr0 rfl)) (qsP (fun z=>ZF z.E Za ld rfl rfl Tryz.underlying158 ty5 hi178.1 (kr0 rfl)) (qsP (fun z=>ZS (v:=(vB x179)) z.E Za ld rfl ty5 rfl (At.vec (At.vec (z.M.rawAt2) hi175.2) hi178.2) (kr0 rfl)) (qsP (fun z=>Z7 z.E Za ld rfl HX (YO _ p0 x145 x179 r181 e182) (kc rfl)) (qsP (v:=(vB (x173 ^^^ r181))) (fun z=>Yv z.E Za ld rfl rfl (Uy x173 r181) (kr0 rfl)) (qsP (fun z=>ZF z.E Za ld rfl rfl Tryz.underlying160 Xz hi183.1 (kr0 rfl)) (qsP (fun z=>ZF z.E Za ld rfl rfl Tryz.underlying158 ty5 hi186.1 (kr0 rfl)) qs0)))))))))))))))) ?_
                 ·intro a w u hE hM
                  have hM:=hM.pull2
                  refine Zk (seg:=[(vB (x173 ^^^ r181))]) (cs':=enc (s160.1.setIfInBounds (s133.2.2).toNat (x184.setIfInBounds (s160.2.2).toNat (x173 ^^^ r181)))) hE hM Za rfl rfl rfl ty5 rfl (Uh (o':=0 + (s160.2.2).toNat * 1) hi183 (ZK (v:=x184) (x:=x173 ^^^ r181) hi186.1) (by first | omega | (simp only [Flat.n] <;> omega))) (Flat.cell (x173 ^^^ r181 : UInt8)) (Vo (o':=0 + (s160.2.2).toNat * 1) hi183 (ZK (v:=x184) (x:=x173 ^^^ r181) hi186.1) (ZE (v:=x184) (x:=x173 ^^^ r181) hi186.1) (by first | omega | (simp only [Flat.n] <;> omega))) fun w a hM hE=>Zh ?_
                  obtain rfl:=Option.some.inj hl166
                  refine Zj ?_
                  have hM:=hM.pull2.pull2
                  exact ⟨hE.sub ⟨rfl,rfl,rfl,rfl,rfl,rfl,rfl,rfl,rfl,rfl,rfl,rfl,trivial⟩,hM⟩
                ·skip
                 rintro a w ⟨hE,hM⟩
                 obtain ⟨x192,hi191,hF167⟩:=bvx hF167
                 obtain ⟨x195,hi194,hF167⟩:=bvx hF167
                 obtain ⟨x198,hi197,hF167⟩:=bvx hF167
                 obtain ⟨x201,hi200,hF167⟩:=bvx hF167
                 obtain ⟨r203,e204,hF167⟩:=bind_some hF167
                 obtain ⟨x206,hi205,hF167⟩:=bvx hF167
                 obtain ⟨x209,hi208,hF167⟩:=bvx hF167
                 refine Yc [132,133,134,135,136,137,138,139,140,141,142,143,144,145,146,147] Y4 rfl rfl (by decide) rfl hE hM (qsP (fun z=>Zv z.E Za ld rfl (kr0 rfl)) (qsP (fun z=>Zv z.E Za ld rfl (kr0 rfl)) (qsP (fun z=>ZF z.E Za ld rfl rfl Tryz.underlying160 Xz hi191.1 (kr0 rfl)) (qsP (fun z=>ZF z.E Za ld rfl rfl Tryz.underlying158 ty5 hi194.1 (kr0 rfl)) (qsP (fun z=>ZS (v:=(vB x195)) z.E Za ld rfl ty5 rfl (At.vec (At.vec (z.M.rawAt0) hi191.2) hi194.2) (kr0 rfl)) (qsP (fun z=>Zv z.E Za ld rfl (kr0 rfl)) (qsP (fun z=>Zv z.E Za ld rfl (kr0 rfl)) (qsP (fun z=>Zv z.E Za ld rfl (kr0 rfl)) (qsP (fun z=>Zv z.E Za ld rfl (kr0 rfl)) (qsP (fun z=>ZF z.E Za ld rfl rfl Tryz.underlying160 Xz hi197.1 (kr0 rfl)) (qsP (fun z=>ZF z.E Za ld rfl rfl Tryz.underlying158 ty5 hi200.1 (kr0 rfl)) (qsP (fun z=>ZS (v:=(vB x201)) z.E Za ld rfl ty5 rfl (At.vec (At.vec (z.M.rawAt0) hi197.2) hi200.2) (kr0 rfl)) (qsP (fun z=>Z7 z.E Za ld rfl HX (YO _ p0 x145 x201 r203 e204) (kc rfl)) (qsP (v:=(vB (x195 ^^^ r203))) (fun z=>Yv z.E Za ld rfl rfl (Uy x195 r203) (kr0 rfl)) (qsP (fun z=>ZF z.E Za ld rfl rfl Tryz.underlying160 Xz hi205.1 (kr0 rfl)) (qsP (fun z=>ZF z.E Za ld rfl rfl Tryz.underlying158 ty5 hi208.1 (kr0 rfl)) qs0)))))))))))))))) ?_
                 ·intro a w u hE hM
                  refine Zk (seg:=[(vB (x195 ^^^ r203))]) (cs':=enc (s160.2.1.setIfInBounds (s133.2.2).toNat (x206.setIfInBounds (s160.2.2).toNat (x195 ^^^ r203)))) hE hM Za rfl rfl rfl ty5 rfl (Uh (o':=0 + (s160.2.2).toNat * 1) hi205 (ZK (v:=x206) (x:=x195 ^^^ r203) hi208.1) (by first | omega | (simp only [Flat.n] <;> omega))) (Flat.cell (x195 ^^^ r203 : UInt8)) (Vo (o':=0 + (s160.2.2).toNat * 1) hi205 (ZK (v:=x206) (x:=x195 ^^^ r203) hi208.1) (ZE (v:=x206) (x:=x195 ^^^ r203) hi208.1) (by first | omega | (simp only [Flat.n] <;> omega))) fun w a hM hE=>Zh (Z2 (Zq (wp_region_lit (Zg hE rfl rfl rfl fun a hE=>Zd hE rfl fun a hE=>Zh (Zj ?_)))))
                  exact ⟨_,(ois hF167),hE.sub ⟨rfl,rfl,rfl,rfl,rfl,rfl,rfl,rfl,rfl,rfl,rfl,trivial⟩,hM⟩
               ·intro hb164
                have hs161:=Zu hs161 hb164
                refine wp_exit (Zl (Zl (Z3 ?_)))
                obtain rfl:=hx162 _ (ois hs161)
                refine Zj ?_
                exact ⟨hE.sub ⟨rfl,rfl,rfl,rfl,rfl,rfl,rfl,rfl,trivial⟩,hM⟩
              ·skip
               rintro a w ⟨hE,hM⟩
               obtain rfl:=Option.some.inj hF159
               refine Zj ?_
               exact ⟨hE.sub ⟨rfl,rfl,rfl,rfl,rfl,rfl,rfl,rfl,trivial⟩,hM⟩
             ·intro hb156
              have hl154:=Zu hl154 hb156
              refine wp_skip ?_
              obtain rfl:=Option.some.inj hl154
              refine Zj ?_
              exact ⟨hE.sub ⟨rfl,rfl,rfl,rfl,rfl,rfl,rfl,rfl,trivial⟩,hM⟩
            ·skip
             rintro a w ⟨hE,hM⟩
             refine Z2 ?_
             obtain rfl:=Option.some.inj hF155
             refine Zj ?_
             exact ⟨hE.sub ⟨rfl,rfl,rfl,rfl,rfl,rfl,rfl,rfl,trivial⟩,hM⟩
          ·skip
           rintro a w ⟨hE,hM⟩
           refine wp_region_lit (Zg hE rfl rfl rfl fun a hE=>Zd hE rfl fun a hE=>Zh (Zj ?_))
           exact ⟨_,(ois hF140),hE.sub ⟨rfl,rfl,rfl,rfl,rfl,rfl,rfl,rfl,trivial⟩,hM⟩
         ·intro hb137
          have hs134:=Zu hs134 hb137
          refine wp_exit (Zl (Zl (Z3 ?_)))
          obtain rfl:=hx135 _ (ois hs134)
          refine Zj ?_
          exact ⟨hE.sub ⟨rfl,rfl,rfl,rfl,rfl,rfl,trivial⟩,hM⟩
        ·skip
         rintro a w ⟨hE,hM⟩
         refine Z2 (Zq (wp_region_lit (Zg hE rfl rfl rfl fun a hE=>Zd hE rfl fun a hE=>Zh (Zj ?_))))
         exact ⟨_,(ois hF132),hE.sub ⟨rfl,rfl,rfl,rfl,rfl,rfl,trivial⟩,hM⟩
  ·intro hb17
   have hs14:=Zu hs14 hb17
   refine wp_exit (Zl (Zl (Z3 ?_)))
   obtain rfl:=hx15 _ (ois hs14)
   refine Zj ?_
   have hM:=M.fst (l:=[_,_]) hM.pull1.pull1
   exact ⟨(s13.2.1,s13.2.2.2),rfl,hE.sub ⟨rfl,rfl,rfl,trivial⟩,hM⟩
 ·skip
  rintro a w ⟨s12,ht,hE,hM⟩
  subst ht
  have hF11:=Tg hF11
  refine Zq ?_
  obtain ⟨j217,hl218,hF219⟩:=bind_some hF11
  refine ZQ (fun a w=>Env 153 a [(4,vB j217.2),(5,(ptr b3 0))] ∧ M (Old w0) w0 w [raw b3 (enc j217.1)]) ?_ ?_
  ·skip
   refine Yc [151,152,4] Y4 rfl rfl (by decide) rfl hE hM (qsP (fun z=>Zv z.E Za ld rfl (kr0 rfl)) (qsP (fun z=>Yp z.E Za ld rfl UL rfl (z.M.rawAt0) (Flat.len _) (kr0 rfl)) (qsP (fun z=>yS z.E Za ld rfl (kr0 rfl)) qs0))) ?_
   ·intro a w u hE hM
    have hM:=hM.pull1
    refine Zk (seg:=enc s12.1) (cs':=enc s12.1) hE hM Za rfl rfl rfl UL (Flat.len _) (zle flq) (Flat.cell _) (Zi flq) fun w a hM hE=>Zh ?_
    obtain rfl:=Option.some.inj hl218
    refine Zj ?_
    have hM:=M.fst (l:=[_]) hM
    exact ⟨hE.sub ⟨rfl,rfl,trivial⟩,hM⟩
  ·skip
   rintro a w ⟨hE,hM⟩
   obtain rfl:=Option.some.inj hF219
   have hq222 : Yu Tryz.prog _ _ (.cell 5 160) _:=ZJ hE rfl UL rfl hM.rawAt0 (Flat.len _) rfl
   exact wp_ret (T0 hE rfl (ZT hE rfl) hq222 ⟨_,rfl,rfl,hM.kept⟩)
def Xv (p0 : (Vector UInt8 256)) (s10 : (Vector UInt8 256) × Int) : Option (Fl ((Vector UInt8 256) × Int) (Vector UInt8 256)) :=
 if (decide (s10.2 < 256)) = true then ((ZH p0 s10.2).bind fun x15=>(ZH s10.1 (bI x15)).bind fun x19=>some (Fl.nx ((s10.1.setIfInBounds ((bI x15)).toNat (Zy s10.2)),wr (s10.2 + 1)))) else (some (Fl.ex s10.1))
def WM (p0 : (Vector UInt8 256)) : Option ((Vector UInt8 256)) :=
 (ZB (Xv p0) ((Vector.replicate 256 (0 : UInt8)),0)).bind fun j7=>some j7
theorem Jm (w0 : World) (p0 : (Vector UInt8 256)) (r : (Vector UInt8 256)) (hF : WM p0 = some r) :
  Calls Tryz.prog 212 [(Value.agg (enc p0).toArray)].toArray w0 (Rt w0 (Value.agg (enc r).toArray)):=by
 refine ce Tryz.func212 ?_
 intro a hE
 have hM:=M.start w0
 unfold WM at hF
 refine Zb (ZV (cs:=enc p0) hE hM Za ld rfl rfl fun b1 w a hM hE=>ZA hE hM XD fun b3 w a hM hE=>Ze (Zb (XF (parts:=[]) (vs:=[]) (cs:=enc (Vector.replicate 256 (0 : UInt8))) hE Za ld rfl rfl XD rfl ty5 YZ fun a hE=>ZA hE hM XD fun b5 w a hM hE=>Zk (seg:=enc (Vector.replicate 256 (0 : UInt8))) (cs':=enc (Vector.replicate 256 (0 : UInt8))) hE hM Za rfl rfl rfl XD (Flat.len _) (zle flq) (Flat.cell _) (Zi flq) fun w a hM hE=>Ze (wp_seq (Zb (Zn hE rfl XD rfl hM.rawAt2 (Flat.len _) fun a hE=>Zd hE rfl fun a hE=>Ze ?_))))))
 obtain ⟨j7,hl8,hF9⟩:=bind_some hF
 refine ZI (fun a w=>Env 18 a [(2,(ptr b3 0)),(3,(ptr b5 0))] ∧ M (Old w0) w0 w [raw b5 (enc j7),raw b3 (enc (Vector.replicate 256 (0 : UInt8)))]) ?_ ?_
 ·skip
  refine wp_block ?_
  have hM:=M.fst (l:=[_,_]) hM.pull1.pull1
  refine ZD (fun (s10 : (Vector UInt8 256) × Int) a w=>Env 18 a [(2,(ptr b3 0)),(3,(ptr b5 0)),(7,(Value.agg (enc p0).toArray)),(8,vI s10.2)] ∧ M (Old w0) w0 w [raw b5 (enc s10.1),raw b3 (enc (Vector.replicate 256 (0 : UInt8)))]) hl8 ⟨hE.sub ⟨rfl,rfl,rfl,rfl,trivial⟩,hM⟩ ?_
  rintro s10 a w ⟨hE,hM⟩ o13 hs11 hx12
  unfold Xv at hs11
  refine Zb (Zg hE rfl rfl rfl fun a hE=>Ze (wp_seq ?_))
  refine Zm hE rfl ?_ ?_
  ·intro hb14
   have hs11:=Zt hs11 hb14
   refine wp_skip (Zq (wp_seq (wp_block (Zb (Zd hE rfl ?_))))); intro a hE
   obtain ⟨x15,hi17,hs11⟩:=bvx hs11
   refine Kt hE Za ld rfl rfl Tryz.underlying157 ty5 rfl rfl hi17 rfl fun a hE=>Zc hE rfl fun a hE=>Zc hE rfl fun a hE=>Ze (wp_region_lit (Zd hE rfl fun a hE=>Zd hE rfl fun a hE=>Yj hE Za ld rfl Tryz.underlying3 Tryz.underlying5 ?_)); intro a hE
   obtain ⟨x19,hi18,hs11⟩:=bvx hs11
   refine ZC hE rfl rfl Tryz.underlying157 ty5 hi18.1 fun a hE=>Zk (seg:=[(vB (Zy s10.2))]) (cs':=enc (s10.1.setIfInBounds ((bI x15)).toNat (Zy s10.2))) hE hM Za rfl rfl rfl ty5 rfl (ZK (v:=s10.1) (x:=Zy s10.2) hi18.1) (Flat.cell (Zy s10.2 : UInt8)) (ZE (v:=s10.1) (x:=Zy s10.2) hi18.1) fun w a hM hE=>Zh (Z2 (Zq (wp_region_lit (Zg hE rfl rfl rfl fun a hE=>Zd hE rfl fun a hE=>Zh (Zj ?_)))))
   exact ⟨_,(ois hs11),hE.sub ⟨rfl,rfl,rfl,rfl,trivial⟩,hM⟩
  ·intro hb14
   have hs11:=Zu hs11 hb14
   refine wp_exit (Zl (Zl (Z3 ?_)))
   obtain rfl:=hx12 _ (ois hs11)
   refine Zj ?_
   exact ⟨hE.sub ⟨rfl,rfl,trivial⟩,hM⟩
 ·skip
  rintro a w ⟨hE,hM⟩
  refine Zq (Zb (Zn hE rfl XD rfl hM.rawAt0 (Flat.len _) ?_)); intro a hE
  have hM:=hM.pull1
  refine Zk (seg:=enc j7) (cs':=enc j7) hE hM Za rfl rfl rfl XD (Flat.len _) (zle flq) (Flat.cell _) (Zi flq) fun w a hM hE=>Ze ?_
  obtain rfl:=Option.some.inj hF9
  have hq22 : Yu Tryz.prog _ _ (.cell 2 157) _:=ZJ hE rfl XD rfl hM.rawAt0 (Flat.len _) rfl
  exact wp_ret (ZL hE rfl hq22 ⟨_,rfl,rfl,hM.kept⟩)
def YU (p0 : (Vector UInt8 16)) (s10 : (Vector UInt8 16) × Int) : Option (Fl ((Vector UInt8 16) × Int) (Vector UInt8 16)) :=
 if (decide (s10.2 < 16)) = true then ((ZH p0 s10.2).bind fun x15=>(ZH s10.1 (bI x15)).bind fun x19=>some (Fl.nx ((s10.1.setIfInBounds ((bI x15)).toNat (Zy s10.2)),wr (s10.2 + 1)))) else (some (Fl.ex s10.1))
def XG (p0 : (Vector UInt8 16)) : Option ((Vector UInt8 16)) :=
 (ZB (YU p0) ((Vector.replicate 16 (0 : UInt8)),0)).bind fun j7=>some j7
theorem Kj (w0 : World) (p0 : (Vector UInt8 16)) (r : (Vector UInt8 16)) (hF : XG p0 = some r) :
  Calls Tryz.prog 213 [(Value.agg (enc p0).toArray)].toArray w0 (Rt w0 (Value.agg (enc r).toArray)):=by
 refine ce Tryz.func213 ?_
 intro a hE
 have hM:=M.start w0
 unfold XG at hF
 refine Zb (ZV (cs:=enc p0) hE hM Za ld rfl rfl fun b1 w a hM hE=>ZA hE hM Qe fun b3 w a hM hE=>Ze (Zb (XF (parts:=[]) (vs:=[]) (cs:=enc (Vector.replicate 16 (0 : UInt8))) hE Za ld rfl rfl Qe rfl ty5 YZ fun a hE=>ZA hE hM Qe fun b5 w a hM hE=>Zk (seg:=enc (Vector.replicate 16 (0 : UInt8))) (cs':=enc (Vector.replicate 16 (0 : UInt8))) hE hM Za rfl rfl rfl Qe (Flat.len _) (zle flq) (Flat.cell _) (Zi flq) fun w a hM hE=>Ze (wp_seq (Zb (Zn hE rfl Qe rfl hM.rawAt2 (Flat.len _) fun a hE=>Zd hE rfl fun a hE=>Ze ?_))))))
 obtain ⟨j7,hl8,hF9⟩:=bind_some hF
 refine ZI (fun a w=>Env 18 a [(2,(ptr b3 0)),(3,(ptr b5 0))] ∧ M (Old w0) w0 w [raw b5 (enc j7),raw b3 (enc (Vector.replicate 16 (0 : UInt8)))]) ?_ ?_
 ·skip
  refine wp_block ?_
  have hM:=M.fst (l:=[_,_]) hM.pull1.pull1
  refine ZD (fun (s10 : (Vector UInt8 16) × Int) a w=>Env 18 a [(2,(ptr b3 0)),(3,(ptr b5 0)),(7,(Value.agg (enc p0).toArray)),(8,vI s10.2)] ∧ M (Old w0) w0 w [raw b5 (enc s10.1),raw b3 (enc (Vector.replicate 16 (0 : UInt8)))]) hl8 ⟨hE.sub ⟨rfl,rfl,rfl,rfl,trivial⟩,hM⟩ ?_
  rintro s10 a w ⟨hE,hM⟩ o13 hs11 hx12
  unfold YU at hs11
  refine Zb (Zg hE rfl rfl rfl fun a hE=>Ze (wp_seq ?_))
  refine Zm hE rfl ?_ ?_
  ·intro hb14
   have hs11:=Zt hs11 hb14
   refine wp_skip (Zq (wp_seq (wp_block (Zb (Zd hE rfl ?_))))); intro a hE
   obtain ⟨x15,hi17,hs11⟩:=bvx hs11
   refine Kt hE Za ld rfl rfl Tryz.underlying161 ty5 rfl rfl hi17 rfl fun a hE=>Zc hE rfl fun a hE=>Zc hE rfl fun a hE=>Ze (wp_region_lit (Zd hE rfl fun a hE=>Zd hE rfl fun a hE=>Yj hE Za ld rfl Tryz.underlying3 Tryz.underlying5 ?_)); intro a hE
   obtain ⟨x19,hi18,hs11⟩:=bvx hs11
   refine ZC hE rfl rfl Tryz.underlying161 ty5 hi18.1 fun a hE=>Zk (seg:=[(vB (Zy s10.2))]) (cs':=enc (s10.1.setIfInBounds ((bI x15)).toNat (Zy s10.2))) hE hM Za rfl rfl rfl ty5 rfl (ZK (v:=s10.1) (x:=Zy s10.2) hi18.1) (Flat.cell (Zy s10.2 : UInt8)) (ZE (v:=s10.1) (x:=Zy s10.2) hi18.1) fun w a hM hE=>Zh (Z2 (Zq (wp_region_lit (Zg hE rfl rfl rfl fun a hE=>Zd hE rfl fun a hE=>Zh (Zj ?_)))))
   exact ⟨_,(ois hs11),hE.sub ⟨rfl,rfl,rfl,rfl,trivial⟩,hM⟩
  ·intro hb14
   have hs11:=Zu hs11 hb14
   refine wp_exit (Zl (Zl (Z3 ?_)))
   obtain rfl:=hx12 _ (ois hs11)
   refine Zj ?_
   exact ⟨hE.sub ⟨rfl,rfl,trivial⟩,hM⟩
 ·skip
  rintro a w ⟨hE,hM⟩
  refine Zq (Zb (Zn hE rfl Qe rfl hM.rawAt0 (Flat.len _) ?_)); intro a hE
  have hM:=hM.pull1
  refine Zk (seg:=enc j7) (cs':=enc j7) hE hM Za rfl rfl rfl Qe (Flat.len _) (zle flq) (Flat.cell _) (Zi flq) fun w a hM hE=>Ze ?_
  obtain rfl:=Option.some.inj hF9
  have hq22 : Yu Tryz.prog _ _ (.cell 2 161) _:=ZJ hE rfl Qe rfl hM.rawAt0 (Flat.len _) rfl
  exact wp_ret (ZL hE rfl hq22 ⟨_,rfl,rfl,hM.kept⟩)
def WF (s8 : (Vector (Vector (Vector UInt8 256) 4) 4) × Int) (s19 : (Vector (Vector (Vector UInt8 256) 4) 4) × Int) (s30 : (Vector (Vector (Vector UInt8 256) 4) 4) × Int) (r35 : UInt8) (s40 : (Vector (Vector (Vector UInt8 256) 4) 4) × Int) : Option (Fl ((Vector (Vector (Vector UInt8 256) 4) 4) × Int) (Vector (Vector (Vector UInt8 256) 4) 4)) :=
 if (decide (s40.2 < s30.2)) = true then ((ZH s40.1 s8.2).bind fun x47=>(ZH x47 s19.2).bind fun x50=>(ZH x50 s40.2).bind fun x53=>(ZH s40.1 s8.2).bind fun x56=>(ZH x56 s19.2).bind fun x59=>(ZH x59 (orI s30.2 s40.2)).bind fun x62=>some (Fl.nx ((s40.1.setIfInBounds (s8.2).toNat (x56.setIfInBounds (s19.2).toNat (x59.setIfInBounds ((orI s30.2 s40.2)).toNat (r35 ^^^ x53)))),wr (s40.2 + 1)))) else (some (Fl.ex s40.1))
def WB (p0 : Int) (s8 : (Vector (Vector (Vector UInt8 256) 4) 4) × Int) (s19 : (Vector (Vector (Vector UInt8 256) 4) 4) × Int) (x24 : UInt8) (s30 : (Vector (Vector (Vector UInt8 256) 4) 4) × Int) : Option (Fl ((Vector (Vector (Vector UInt8 256) 4) 4) × Int) (Vector (Vector (Vector UInt8 256) 4) 4)) :=
 if (decide (s30.2 < 256)) = true then ((Z0 p0 x24 (Zy s30.2)).bind fun r35=>(ZB (WF s8 s19 s30 r35) (s30.1,0)).bind fun j37=>some (Fl.nx (j37,wr (s30.2 * 2)))) else (some (Fl.ex s30.1))
def WJ (p0 : Int) (s8 : (Vector (Vector (Vector UInt8 256) 4) 4) × Int) (x14 : (Vector UInt8 4)) (s19 : (Vector (Vector (Vector UInt8 256) 4) 4) × Int) : Option (Fl ((Vector (Vector (Vector UInt8 256) 4) 4) × Int) (Vector (Vector (Vector UInt8 256) 4) 4)) :=
 if (decide (s19.2 < 4)) = true then ((ZH x14 s19.2).bind fun x24=>(ZB (WB p0 s8 s19 x24) (s19.1,1)).bind fun j27=>some (Fl.nx (j27,wr (s19.2 + 1)))) else (some (Fl.ex s19.1))
def WI (p0 : Int) (p1 : (Vector (Vector UInt8 4) 4)) (s8 : (Vector (Vector (Vector UInt8 256) 4) 4) × Int) : Option (Fl ((Vector (Vector (Vector UInt8 256) 4) 4) × Int) (Vector (Vector (Vector UInt8 256) 4) 4)) :=
 if (decide (s8.2 < 4)) = true then ((ZH p1 s8.2).bind fun x14=>(ZB (WJ p0 s8 x14) (s8.1,0)).bind fun j16=>some (Fl.nx (j16,wr (s8.2 + 1)))) else (some (Fl.ex s8.1))
def W6 (p0 : Int) (p1 : (Vector (Vector UInt8 4) 4)) : Option ((Ref (Vector (Vector (Vector UInt8 256) 4) 4))) :=
 (ZB (WI p0 p1) ((Vector.replicate 4 (Vector.replicate 4 (Vector.replicate 256 (0 : UInt8)))),0)).bind fun j5=>some (⟨j5⟩ : (Ref (Vector (Vector (Vector UInt8 256) 4) 4)))
theorem Ke (w0 : World) (p0 : Int) (p1 : (Vector (Vector UInt8 4) 4)) (r : (Ref (Vector (Vector (Vector UInt8 256) 4) 4))) (hF : W6 p0 p1 = some r) :
  Calls Tryz.prog 214 [vI p0,(Value.agg (enc p1).toArray)].toArray w0 (fun en w'=>∃ v,en = .returned v ∧ (∃ (y1 : Value),v = y1 ∧ Fr w0 w' [own NoB (r : (Ref (Vector (Vector (Vector UInt8 256) 4) 4))) [y1]] ∧ Kept (Old w0) w0 w')):=by
 refine ce Tryz.func214 ?_
 intro a hE
 have hM:=M.start w0
 unfold W6 at hF
 refine Zb (ZV (cs:=enc p1) hE hM Za ld rfl rfl fun b1 w a hM hE=>Zc hE rfl fun a hE=>Ze (Zb (XF (parts:=[]) (vs:=[]) (cs:=enc (Vector.replicate 4 (Vector.replicate 4 (Vector.replicate 256 (0 : UInt8))))) hE Za ld rfl rfl ty265 rfl BY YZ fun a hE=>ZV (cs:=enc (Vector.replicate 4 (Vector.replicate 4 (Vector.replicate 256 (0 : UInt8))))) hE hM Za ld rfl rfl fun b3 w a hM hE=>Zc hE rfl fun a hE=>Ze (wp_seq (Zb (Zd hE rfl fun a hE=>Ze ?_))))))
 obtain ⟨j5,hl6,hF7⟩:=bind_some hF
 refine ZI (fun a w=>Env 62 a [(5,(ptr b3 0))] ∧ M (Old w0) w0 w [raw b3 (enc j5)]) ?_ ?_
 ·skip
  refine wp_block ?_
  refine ZD (fun (s8 : (Vector (Vector (Vector UInt8 256) 4) 4) × Int) a w=>Env 62 a [(0,vI p0),(3,(ptr b1 0)),(5,(ptr b3 0)),(14,vI s8.2)] ∧ M (Old w0) w0 w [raw b3 (enc s8.1),raw b1 (enc p1)]) hl6 ⟨hE.sub ⟨rfl,rfl,rfl,rfl,trivial⟩,hM⟩ ?_
  rintro s8 a w ⟨hE,hM⟩ o11 hs9 hx10
  unfold WI at hs9
  refine Zb (Zg hE rfl rfl rfl fun a hE=>Ze (wp_seq ?_))
  refine Zm hE rfl ?_ ?_
  ·intro hb12
   have hs9:=Zt hs9 hb12
   refine wp_skip (Zq (wp_seq (wp_block (Zb (Zd hE rfl fun a hE=>Zc hE rfl fun a hE=>Ze (Zb (Zd hE rfl ?_))))))); intro a hE
   obtain ⟨x14,hi13,hs9⟩:=bvx hs9
   refine ZC hE rfl rfl Tryz.underlying160 Xz hi13.1 fun a hE=>Zn hE rfl Xz rfl (At.vec hM.rawAt1 hi13.2) (Flat.len _) fun a hE=>Zd hE rfl fun a hE=>Ze ?_
   obtain ⟨j16,hl17,hF18⟩:=bind_some hs9
   refine ZI (fun a w=>Env 62 a [(0,vI p0),(3,(ptr b1 0)),(5,(ptr b3 0)),(14,vI s8.2)] ∧ M (Old w0) w0 w [raw b3 (enc j16),raw b1 (enc p1)]) ?_ ?_
   ·skip
    refine wp_block ?_
    refine ZD (fun (s19 : (Vector (Vector (Vector UInt8 256) 4) 4) × Int) a w=>Env 62 a [(0,vI p0),(3,(ptr b1 0)),(5,(ptr b3 0)),(6,vI s8.2),(14,vI s8.2),(19,(Value.agg (enc x14).toArray)),(20,vI s19.2)] ∧ M (Old w0) w0 w [raw b3 (enc s19.1),raw b1 (enc p1)]) hl17 ⟨hE.sub ⟨rfl,rfl,rfl,rfl,rfl,rfl,rfl,trivial⟩,hM⟩ ?_
    rintro s19 a w ⟨hE,hM⟩ o22 hs20 hx21
    unfold WJ at hs20
    refine Zb (Zg hE rfl rfl rfl fun a hE=>Ze (wp_seq ?_))
    refine Zm hE rfl ?_ ?_
    ·intro hb23
     have hs20:=Zt hs20 hb23
     refine wp_skip (Zq (wp_seq (wp_block (Zb (Zd hE rfl ?_))))); intro a hE
     obtain ⟨x24,hi26,hs20⟩:=bvx hs20
     refine Kt hE Za ld rfl rfl Tryz.underlying158 ty5 rfl rfl hi26 rfl fun a hE=>Zc hE rfl fun a hE=>Zc hE rfl fun a hE=>Ze (Zb (Zc hE rfl fun a hE=>Ze ?_))
     obtain ⟨j27,hl28,hF29⟩:=bind_some hs20
     refine ZI (fun a w=>Env 62 a [(0,vI p0),(3,(ptr b1 0)),(5,(ptr b3 0)),(6,vI s8.2),(14,vI s8.2),(19,(Value.agg (enc x14).toArray)),(20,vI s19.2)] ∧ M (Old w0) w0 w [raw b3 (enc j27),raw b1 (enc p1)]) ?_ ?_
     ·skip
      refine wp_block ?_
      refine ZD (fun (s30 : (Vector (Vector (Vector UInt8 256) 4) 4) × Int) a w=>Env 62 a [(0,vI p0),(3,(ptr b1 0)),(5,(ptr b3 0)),(6,vI s8.2),(7,vI s19.2),(8,vB x24),(9,vI s30.2),(14,vI s8.2),(19,(Value.agg (enc x14).toArray)),(20,vI s19.2)] ∧ M (Old w0) w0 w [raw b3 (enc s30.1),raw b1 (enc p1)]) hl28 ⟨hE.sub ⟨rfl,rfl,rfl,rfl,rfl,rfl,rfl,rfl,rfl,rfl,trivial⟩,hM⟩ ?_
      rintro s30 a w ⟨hE,hM⟩ o33 hs31 hx32
      unfold WB at hs31
      refine wp_seq (Zb (Zd hE rfl fun a hE=>Zg hE rfl rfl rfl fun a hE=>Ze ?_))
      refine Zm hE rfl ?_ ?_
      ·intro hb34
       have hs31:=Zt hs31 hb34
       refine wp_skip (Zq (wp_seq (wp_block (Zb (Zd hE rfl fun a hE=>Zd hE rfl fun a hE=>Zd hE rfl fun a hE=>Yj hE Za ld rfl Tryz.underlying3 Tryz.underlying5 ?_))))); intro a hE
       obtain ⟨r35,e36,hs31⟩:=bind_some hs31
       refine Zx hE rfl HX (YO _ p0 x24 (Zy s30.2) r35 e36) ?_
       rintro v w a ⟨rfl,hK⟩ hE
       have hM:=hM.keep hK
       refine Zc hE rfl fun a hE=>Ze (Zb (Zd hE rfl fun a hE=>Zd hE rfl fun a hE=>Ze ?_))
       obtain ⟨j37,hl38,hF39⟩:=bind_some hs31
       refine ZI (fun a w=>Env 62 a [(0,vI p0),(3,(ptr b1 0)),(5,(ptr b3 0)),(6,vI s8.2),(7,vI s19.2),(8,vB x24),(9,vI s30.2),(14,vI s8.2),(19,(Value.agg (enc x14).toArray)),(20,vI s19.2)] ∧ M (Old w0) w0 w [raw b3 (enc j37),raw b1 (enc p1)]) ?_ ?_
       ·skip
        refine wp_block ?_
        refine ZD (fun (s40 : (Vector (Vector (Vector UInt8 256) 4) 4) × Int) a w=>Env 62 a [(0,vI p0),(3,(ptr b1 0)),(5,(ptr b3 0)),(6,vI s8.2),(7,vI s19.2),(8,vB x24),(9,vI s30.2),(10,vB r35),(14,vI s8.2),(19,(Value.agg (enc x14).toArray)),(20,vI s19.2),(33,vI s30.2),(34,vI s40.2)] ∧ M (Old w0) w0 w [raw b3 (enc s40.1),raw b1 (enc p1)]) hl38 ⟨hE.sub ⟨rfl,rfl,rfl,rfl,rfl,rfl,rfl,rfl,rfl,rfl,rfl,rfl,rfl,trivial⟩,hM⟩ ?_
        rintro s40 a w ⟨hE,hM⟩ o43 hs41 hx42
        unfold WF at hs41
        refine Zb (Zg hE rfl rfl rfl fun a hE=>Ze (wp_seq ?_))
        refine Zm hE rfl ?_ ?_
        ·intro hb44
         have hs41:=Zt hs41 hb44
         refine wp_skip (Zq (wp_seq (wp_block (Zb (Zd hE rfl fun a hE=>Zc hE rfl fun a hE=>Ze ?_)))))
         obtain ⟨x47,hi46,hs41⟩:=bvx hs41
         obtain ⟨x50,hi49,hs41⟩:=bvx hs41
         obtain ⟨x53,hi52,hs41⟩:=bvx hs41
         obtain ⟨x56,hi55,hs41⟩:=bvx hs41
         obtain ⟨x59,hi58,hs41⟩:=bvx hs41
         obtain ⟨x62,hi61,hs41⟩:=bvx hs41
         refine Yc [37,38,39,40,41,42,43,44,45,46,47,48,49,50,51,52,53,54,55,56,57] Y4 rfl rfl (by decide) rfl hE hM (qsP (fun z=>Zv z.E Za ld rfl (kr0 rfl)) (qsP (fun z=>Zv z.E Za ld rfl (kr0 rfl)) (qsP (fun z=>Zv z.E Za ld rfl (kr0 rfl)) (qsP (fun z=>Zv z.E Za ld rfl (kr0 rfl)) (qsP (fun z=>Zv z.E Za ld rfl (kr0 rfl)) (qsP (v:=(vI (orI s30.2 s40.2))) (fun z=>Yv z.E Za ld rfl rfl rfl (kr0 rfl)) (qsP (fun z=>Zv z.E Za ld rfl (kr0 rfl)) (qsP (fun z=>Zv z.E Za ld rfl (kr0 rfl)) (qsP (fun z=>Zv z.E Za ld rfl (kr0 rfl)) (qsP (fun z=>Zv z.E Za ld rfl (kr0 rfl)) (qsP (fun z=>Zv z.E Za ld rfl (kr0 rfl)) (qsP (fun z=>Wi z.E Za ld rfl (kr0 rfl)) (qsP (fun z=>ZF z.E Za ld rfl rfl Tryz.underlying265 BY hi46.1 (kr0 rfl)) (qsP (fun z=>ZF z.E Za ld rfl rfl Tryz.underlying263 zf hi49.1 (kr0 rfl)) (qsP (fun z=>ZF z.E Za ld rfl rfl Tryz.underlying156 ty5 hi52.1 (kr0 rfl)) (qsP (fun z=>ZS (v:=(vB x53)) z.E Za ld rfl ty5 rfl (At.vec (At.vec (At.vec (z.M.rawAt0) hi46.2) hi49.2) hi52.2) (kr0 rfl)) (qsP (v:=(vB (r35 ^^^ x53))) (fun z=>Yv z.E Za ld rfl rfl (Uy r35 x53) (kr0 rfl)) (qsP (fun z=>Wi z.E Za ld rfl (kr0 rfl)) (qsP (fun z=>ZF z.E Za ld rfl rfl Tryz.underlying265 BY hi55.1 (kr0 rfl)) (qsP (fun z=>ZF z.E Za ld rfl rfl Tryz.underlying263 zf hi58.1 (kr0 rfl)) (qsP (fun z=>ZF z.E Za ld rfl rfl Tryz.underlying156 ty5 hi61.1 (kr0 rfl)) qs0))))))))))))))))))))) ?_
         ·intro a w u hE hM
          refine Zk (seg:=[(vB (r35 ^^^ x53))]) (cs':=enc (s40.1.setIfInBounds (s8.2).toNat (x56.setIfInBounds (s19.2).toNat (x59.setIfInBounds ((orI s30.2 s40.2)).toNat (r35 ^^^ x53))))) hE hM Za rfl rfl rfl ty5 rfl (Uh (o':=(s19.2).toNat * 256 + (0 + ((orI s30.2 s40.2)).toNat * 1)) hi55 (Uh (o':=0 + ((orI s30.2 s40.2)).toNat * 1) hi58 (ZK (v:=x59) (x:=r35 ^^^ x53) hi61.1) (by first | omega | (simp only [Flat.n] <;> omega))) (by first | omega | (simp only [Flat.n] <;> omega))) (Flat.cell (r35 ^^^ x53 : UInt8)) (Vo (o':=(s19.2).toNat * 256 + (0 + ((orI s30.2 s40.2)).toNat * 1)) hi55 (Uh (o':=0 + ((orI s30.2 s40.2)).toNat * 1) hi58 (ZK (v:=x59) (x:=r35 ^^^ x53) hi61.1) (by first | omega | (simp only [Flat.n] <;> omega))) (Vo (o':=0 + ((orI s30.2 s40.2)).toNat * 1) hi58 (ZK (v:=x59) (x:=r35 ^^^ x53) hi61.1) (ZE (v:=x59) (x:=r35 ^^^ x53) hi61.1) (by first | omega | (simp only [Flat.n] <;> omega))) (by first | omega | (simp only [Flat.n] <;> omega))) fun w a hM hE=>Zh (Z2 (Zq (wp_region_lit (Zg hE rfl rfl rfl fun a hE=>Zd hE rfl fun a hE=>Zh (Zj ?_)))))
          exact ⟨_,(ois hs41),hE.sub ⟨rfl,rfl,rfl,rfl,rfl,rfl,rfl,rfl,rfl,rfl,rfl,rfl,rfl,trivial⟩,hM⟩
        ·intro hb44
         have hs41:=Zu hs41 hb44
         refine wp_exit (Zl (Zl (Z3 ?_)))
         obtain rfl:=hx42 _ (ois hs41)
         refine Zj ?_
         exact ⟨hE.sub ⟨rfl,rfl,rfl,rfl,rfl,rfl,rfl,rfl,rfl,rfl,trivial⟩,hM⟩
       ·skip
        rintro a w ⟨hE,hM⟩
        refine Z2 (Zq (wp_region_lit (Zd hE rfl fun a hE=>Zg hE rfl rfl rfl fun a hE=>Zc hE rfl fun a hE=>Zh (Zj ?_))))
        exact ⟨_,(ois hF39),hE.sub ⟨rfl,rfl,rfl,rfl,rfl,rfl,rfl,rfl,rfl,rfl,trivial⟩,hM⟩
      ·intro hb34
       have hs31:=Zu hs31 hb34
       refine wp_exit (Zl (Zl (Z3 ?_)))
       obtain rfl:=hx32 _ (ois hs31)
       refine Zj ?_
       exact ⟨hE.sub ⟨rfl,rfl,rfl,rfl,rfl,rfl,rfl,trivial⟩,hM⟩
     ·skip
      rintro a w ⟨hE,hM⟩
      refine Z2 (Zq (wp_region_lit (Zg hE rfl rfl rfl fun a hE=>Zd hE rfl fun a hE=>Zh (Zj ?_))))
      exact ⟨_,(ois hF29),hE.sub ⟨rfl,rfl,rfl,rfl,rfl,rfl,rfl,trivial⟩,hM⟩
    ·intro hb23
     have hs20:=Zu hs20 hb23
     refine wp_exit (Zl (Zl (Z3 ?_)))
     obtain rfl:=hx21 _ (ois hs20)
     refine Zj ?_
     exact ⟨hE.sub ⟨rfl,rfl,rfl,rfl,trivial⟩,hM⟩
   ·skip
    rintro a w ⟨hE,hM⟩
    refine Z2 (Zq (wp_region_lit (Zg hE rfl rfl rfl fun a hE=>Zd hE rfl fun a hE=>Zh (Zj ?_))))
    exact ⟨_,(ois hF18),hE.sub ⟨rfl,rfl,rfl,rfl,trivial⟩,hM⟩
  ·intro hb12
   have hs9:=Zu hs9 hb12
   refine wp_exit (Zl (Zl (Z3 ?_)))
   obtain rfl:=hx10 _ (ois hs9)
   refine Zj ?_
   have hM:=M.fst (l:=[_]) hM
   exact ⟨hE.sub ⟨rfl,trivial⟩,hM⟩
 ·skip
  rintro a w ⟨hE,hM⟩
  refine Zq (Zb (Zd hE rfl fun a hE=>Zc hE rfl fun a hE=>Ze ?_))
  have hM:=M.toRefF (x:=j5) hM
  obtain rfl:=Option.some.inj hF7
  exact wp_ret (ZL hE rfl (ZT hE rfl) ⟨_,rfl,(ptr b3 0),rfl,hM.outF (kb Xy),hM.kept⟩)
def VG (p0 : GCipher) : Option ((Ref Gengine)) :=
 (Xr p0.Field p0.Mix).bind fun r3=>(WM p0.Box).bind fun r8=>(XG p0.Places).bind fun r10=>(W6 p0.Field p0.Mix).bind fun r12=>(W6 p0.Field r3.2).bind fun r15=>some (⟨(⟨p0.Box,r8,p0.Places,r10,r12,r15,p0.Rounds⟩ : Gengine)⟩ : (Ref Gengine))
theorem Hw (w0 : World) (p0 : GCipher) (r : (Ref Gengine)) (hF : VG p0 = some r) :
  Calls Tryz.prog 179 [(Value.agg (enc p0).toArray)].toArray w0 (fun en w'=>∃ v,en = .returned v ∧ (∃ (y1 : Value),v = y1 ∧ Fr w0 w' [own NoB (r : (Ref Gengine)) [y1]] ∧ Kept (Old w0) w0 w')):=by
 refine ce Tryz.func179 ?_
 intro a hE
 have hM:=M.start w0
 unfold VG at hF
 refine Zb (ZV (cs:=cat [[vI p0.Field],enc p0.Box,enc p0.Mix,enc p0.Places,[vI p0.Rounds]]) hE hM Za ld rfl rfl fun b1 w a hM hE=>Zc hE rfl fun a hE=>Ze (Zb (Zf hE rfl (Br) fun a hE=>Zw (v:=(vI p0.Field)) hE rfl ty2 rfl (At.cat (pre:=[]) hM.rawAt0 cl0) fun a hE=>Zf hE rfl (JH) fun a hE=>Zn hE rfl UL rfl (At.cat (pre:=[[vI p0.Field],enc p0.Box]) hM.rawAt0 ck) (Flat.len _) ?_))); intro a hE
 obtain ⟨r3,e4,hF⟩:=bind_some hF
 refine Zx hE rfl (cbm Tryz.func211) (KT _ p0.Field p0.Mix r3 e4) ?_
 rintro v w a ⟨rfl,hK⟩ hE
 have hM:=hM.keep hK
 refine Zd hE rfl fun a hE=>W7 hE Za ld rfl rfl fun a hE=>W7 hE Za ld rfl rfl fun a hE=>ZA hE hM UL fun b5 w a hM hE=>Zc hE rfl fun a hE=>Zk (seg:=enc r3.2) (cs':=enc r3.2) hE hM Za rfl rfl rfl UL (Flat.len _) (zle flq) (Flat.cell _) (Zi flq) fun w a hM hE=>Ze (wp_seq ?_)
 obtain ⟨r8,e9,hF⟩:=bind_some hF
 obtain ⟨r10,e11,hF⟩:=bind_some hF
 obtain ⟨r12,e13,hF⟩:=bind_some hF
 obtain ⟨r15,e16,hF⟩:=bind_some hF
 refine XQ (its:=[raw b5 (enc r3.2),raw b1 (cat [[vI p0.Field],enc p0.Box,enc p0.Mix,enc p0.Places,[vI p0.Rounds]])]) (mk:=([mkO 14 (fun v=>own NoB (r12 : (Ref (Vector (Vector (Vector UInt8 256) 4) 4))) [v]),mkO 18 (fun v=>own NoB (r15 : (Ref (Vector (Vector (Vector UInt8 256) 4) 4))) [v])] : Mk)) [13,14,15,16,17,18,19,20,21,22,23,24,25,26,27,28,29,30,31,32,33] Y4 rfl rfl (by decide) rfl hE (fun u=>M.qE (M.qE (M.q0 hM.drew u) emO) emO) (qsP (fun z=>Zs z.E Za ld rfl (KI) (kr0 rfl)) (qsP (v:=(Value.agg (enc p0.Box).toArray)) ?_ (qsP (fun z=>Zs z.E Za ld rfl (KI) (kr0 rfl)) (qsP (v:=(Value.agg (enc p0.Box).toArray)) ?_ (qsP (fun z=>Z7 z.E Za ld rfl (cbm Tryz.func212) (Jm _ p0.Box r8 e9) (kc rfl)) (qsP (fun z=>Zs z.E Za ld rfl (JU) (kr0 rfl)) (qsP (v:=(Value.agg (enc p0.Places).toArray)) ?_ (qsP (fun z=>Zs z.E Za ld rfl (JU) (kr0 rfl)) (qsP (v:=(Value.agg (enc p0.Places).toArray)) ?_ (qsP (fun z=>Z7 z.E Za ld rfl (cbm Tryz.func213) (Kj _ p0.Places r10 e11) (kc rfl)) (qsP (fun z=>Zs z.E Za ld rfl (Br) (kr0 rfl)) (qsP (v:=(vI p0.Field)) ?_ (qsP (fun z=>Zs z.E Za ld rfl (JH) (kr0 rfl)) (qsP (v:=(Value.agg (enc p0.Mix).toArray)) ?_ (qsM (pr:=fun v=>True) ?_ (qsP (fun z=>Zs z.E Za ld rfl (Br) (kr0 rfl)) (qsP (v:=(vI p0.Field)) ?_ (qsP (v:=(Value.agg (enc r3.2).toArray)) ?_ (qsM (pr:=fun v=>True) ?_ (qsP (fun z=>Zs z.E Za ld rfl (zK) (kr0 rfl)) (qsP (v:=(vI p0.Rounds)) ?_ qs0))))))))))))))))))))) ?_
 ·intro a w ux7 D z
  have hE:=z.E
  have hM:=z.M
  exact Zn hE rfl XD rfl (At.cat (pre:=[[vI p0.Field]]) hM.rawAt1 ck) (Flat.len _) fun a hE=>⟨Kept.refl _ _,_,rfl,hE⟩
 ·intro a w ux7 D z
  have hE:=z.E
  have hM:=z.M
  exact Zn hE rfl XD rfl (At.cat (pre:=[[vI p0.Field]]) hM.rawAt1 ck) (Flat.len _) fun a hE=>⟨Kept.refl _ _,_,rfl,hE⟩
 ·intro a w ux7 D z
  have hE:=z.E
  have hM:=z.M
  exact Zn hE rfl Qe rfl (At.cat (pre:=[[vI p0.Field],enc p0.Box,enc p0.Mix]) hM.rawAt1 ck) (Flat.len _) fun a hE=>⟨Kept.refl _ _,_,rfl,hE⟩
 ·intro a w ux7 D z
  have hE:=z.E
  have hM:=z.M
  exact Zn hE rfl Qe rfl (At.cat (pre:=[[vI p0.Field],enc p0.Box,enc p0.Mix]) hM.rawAt1 ck) (Flat.len _) fun a hE=>⟨Kept.refl _ _,_,rfl,hE⟩
 ·intro a w ux7 D z
  have hE:=z.E
  have hM:=z.M
  exact Zw (v:=(vI p0.Field)) hE rfl ty2 rfl (At.cat (pre:=[]) hM.rawAt1 cl0) fun a hE=>⟨Kept.refl _ _,_,rfl,hE⟩
 ·intro a w ux7 D z
  have hE:=z.E
  have hM:=z.M
  exact Zn hE rfl UL rfl (At.cat (pre:=[[vI p0.Field],enc p0.Box]) hM.rawAt1 ck) (Flat.len _) fun a hE=>⟨Kept.refl _ _,_,rfl,hE⟩
 ·intro a w ux7 D z
  have hE:=z.E
  have hD : D 14 = false:=z.F
  have hM0:=z.M
  have hM:=z.M
  refine Zx hE rfl (cbm Tryz.func214) (Ke _ p0.Field p0.Mix r12 e13) ?_
  rintro _ w a ⟨_,rfl,hFr,hK⟩ hE
  have hM:=hM0.add hK hFr
  exact ⟨_,_,rfl,hE,M.qFill (mk1:=[]) (mk2:=[_]) (f:=(fun v=>own NoB (r12 : (Ref (Vector (Vector (Vector UInt8 256) 4) 4))) [v])) hM rfl hD,trivial⟩
 ·intro a w ux7 D z
  have hE:=z.E
  have hM:=z.M
  exact Zw (v:=(vI p0.Field)) hE rfl ty2 rfl (At.cat (pre:=[]) hM.rawAt1 cl0) fun a hE=>⟨Kept.refl _ _,_,rfl,hE⟩
 ·intro a w ux7 D z
  have hE:=z.E
  have hM:=z.M
  exact Zn hE rfl UL rfl hM.rawAt0 (Flat.len _) fun a hE=>⟨Kept.refl _ _,_,rfl,hE⟩
 ·intro a w ux7 D z
  have hE:=z.E
  have hD : D 18 = false:=z.F
  have hM0:=z.M
  have hM:=z.M
  refine Zx hE rfl (cbm Tryz.func214) (Ke _ p0.Field r3.2 r15 e16) ?_
  rintro _ w a ⟨_,rfl,hFr,hK⟩ hE
  have hM:=hM0.add hK hFr
  exact ⟨_,_,rfl,hE,M.qFill (mk1:=[_]) (mk2:=[]) (f:=(fun v=>own NoB (r15 : (Ref (Vector (Vector (Vector UInt8 256) 4) 4))) [v])) hM rfl hD,trivial⟩
 ·intro a w ux7 D z
  have hE:=z.E
  have hM:=z.M
  exact Zw (v:=(vI p0.Rounds)) hE rfl ty2 rfl (At.cat (pre:=[[vI p0.Field],enc p0.Box,enc p0.Mix,enc p0.Places]) hM.rawAt1 ck) fun a hE=>⟨Kept.refl _ _,_,rfl,hE⟩
 ·intro a w ux7 D hE hM hG hall
  have d14:=hall 14 (by decide)
  have d18:=hall 18 (by decide)
  have hM:=(hM.sure (pre:=[_,_]) d14).sure (pre:=[_,_,_]) d18
  refine Wl (parts:=[(0,.tmp 14),(1,.tmp 17),(2,.tmp 19),(3,.tmp 22),(4,.tmp 27),(5,.tmp 31),(6,.tmp 33)]) (vs:=[(0,(Value.agg (enc p0.Box).toArray)),(1,(Value.agg (enc r8).toArray)),(2,(Value.agg (enc p0.Places).toArray)),(3,(Value.agg (enc r10).toArray)),(4,(ux7 14)),(5,(ux7 18)),(6,vI p0.Rounds)]) (cs:=cat [enc p0.Box,enc r8,enc p0.Places,enc r10,[(ux7 14)],[(ux7 18)],[vI p0.Rounds]]) hE Za ld rfl rfl HZ pl244 (Ym (pre:=[]) (seg:=enc (Vector.replicate 256 (0 : UInt8))) (seg':=enc p0.Box) (post:=[enc (Vector.replicate 256 (0 : UInt8)),enc (Vector.replicate 16 (0 : UInt8)),enc (Vector.replicate 16 (0 : UInt8)),[(Value.pointer none)],[(Value.pointer none)],[vI 0]]) rfl cl0 (Flat.len _) (Flat.len _) rfl (Ym (pre:=[enc p0.Box]) (seg:=enc (Vector.replicate 256 (0 : UInt8))) (seg':=enc r8) (post:=[enc (Vector.replicate 16 (0 : UInt8)),enc (Vector.replicate 16 (0 : UInt8)),[(Value.pointer none)],[(Value.pointer none)],[vI 0]]) rfl ck (Flat.len _) (Flat.len _) rfl (Ym (pre:=[enc p0.Box,enc r8]) (seg:=enc (Vector.replicate 16 (0 : UInt8))) (seg':=enc p0.Places) (post:=[enc (Vector.replicate 16 (0 : UInt8)),[(Value.pointer none)],[(Value.pointer none)],[vI 0]]) rfl ck (Flat.len _) (Flat.len _) rfl (Ym (pre:=[enc p0.Box,enc r8,enc p0.Places]) (seg:=enc (Vector.replicate 16 (0 : UInt8))) (seg':=enc r10) (post:=[[(Value.pointer none)],[(Value.pointer none)],[vI 0]]) rfl ck (Flat.len _) (Flat.len _) rfl (Ym (pre:=[enc p0.Box,enc r8,enc p0.Places,enc r10]) (seg:=[(Value.pointer none)]) (seg':=[(ux7 14)]) (post:=[[(Value.pointer none)],[vI 0]]) rfl ck rfl rfl (AW (hM.ro (pre:=[_,_]) noB)) (Ym (pre:=[enc p0.Box,enc r8,enc p0.Places,enc r10,[(ux7 14)]]) (seg:=[(Value.pointer none)]) (seg':=[(ux7 18)]) (post:=[[vI 0]]) rfl ck rfl rfl (AW (hM.ro (pre:=[_,_,_]) noB)) (Ym (pre:=[enc p0.Box,enc r8,enc p0.Places,enc r10,[(ux7 14)],[(ux7 18)]]) (seg:=[vI 0]) (seg':=[vI p0.Rounds]) (post:=[]) rfl ck rfl rfl rfl Uq))))))) fun a hE=>ZV (cs:=cat [enc p0.Box,enc r8,enc p0.Places,enc r10,[(ux7 14)],[(ux7 18)],[vI p0.Rounds]]) hE hM Za ld rfl rfl fun b18 w a hM hE=>Zc hE rfl fun a hE=>Zh (Zq ?_)
  have hM:=hM.pull4.pull4
  have hM:=(((hM.pack2 (it:=own NoB (⟨p0.Box,r8,p0.Places,r10,r12,r15,p0.Rounds⟩ : Gengine) (cat [enc p0.Box,enc r8,enc p0.Places,enc r10,[(ux7 14)],[(ux7 18)],[vI p0.Rounds]])) (Xj noB) (fun f0 f1 q0 q1=>(jp q0 q1 (by simp)))).pull1).pull1).pull1
  have hM:=M.toRef hM noB
  obtain rfl:=Option.some.inj hF
  have hM:=M.fst (l:=[_]) hM
  exact wp_ret (ZL hE rfl (ZT hE rfl) ⟨_,rfl,(ptr b18 0),rfl,hM.outF (kb Xy),hM.kept⟩)
def TV (p0 : Int) : Option ((Ref Gengine)) :=
 (W1 p0).bind fun r1=>(VG r1).bind fun r3=>some r3
theorem zu (w0 : World) (p0 : Int) (r : (Ref Gengine)) (hF : TV p0 = some r) :
  Calls Tryz.prog 127 [vI p0].toArray w0 (fun en w'=>∃ v,en = .returned v ∧ (∃ (y1 : Value),v = y1 ∧ Fr w0 w' [own NoB (r : (Ref Gengine)) [y1]] ∧ Kept (Old w0) w0 w')):=by
 refine ce Tryz.func127 ?_
 intro a hE
 have hM:=M.start w0
 unfold TV at hF
 refine Zb (Zc hE rfl fun a hE=>Ze (Zb (Zd hE rfl ?_))); intro a hE
 obtain ⟨r1,e2,hF⟩:=bind_some hF
 refine Zx hE rfl (cbm Tryz.func180) (Jf _ p0 r1 e2) ?_
 rintro v w a ⟨rfl,hK⟩ hE
 have hM:=hM.keep hK
 obtain ⟨r3,e4,hF⟩:=bind_some hF
 refine Zx hE rfl (cbm Tryz.func179) (Hw _ r1 r3 e4) ?_
 rintro u5 w a ⟨_,rfl,hFr,hK⟩ hE
 have hM:=hM.add hK hFr
 refine Zc hE rfl fun a hE=>Ze ?_
 obtain rfl:=Option.some.inj hF
 exact wp_ret (ZL hE rfl (ZT hE rfl) ⟨_,rfl,u5,rfl,hM.outF (kb Xy),hM.kept⟩)
def WZ : Option ((Ref Gengine)) :=
 (TV 4).bind fun r1=>some r1
theorem Je (w0 : World)  (r : (Ref Gengine)) (hF : WZ  = some r) :
  Calls Tryz.prog 89 [].toArray w0 (fun en w'=>∃ v,en = .returned v ∧ (∃ (y1 : Value),v = y1 ∧ Fr w0 w' [own NoB (r : (Ref Gengine)) [y1]] ∧ Kept (Old w0) w0 w')):=by
 refine ce Tryz.func89 ?_
 intro a hE
 have hM:=M.start w0
 unfold WZ at hF
 refine Zb (Zc hE rfl fun a hE=>Ze (Zb ?_))
 obtain ⟨r1,e2,hF⟩:=bind_some hF
 refine Zx hE rfl (cbm Tryz.func127) (zu _ 4 r1 e2) ?_
 rintro u3 w a ⟨_,rfl,hFr,hK⟩ hE
 have hM:=hM.add hK hFr
 refine Zc hE rfl fun a hE=>Ze ?_
 obtain rfl:=Option.some.inj hF
 exact wp_ret (ZL hE rfl (ZT hE rfl) ⟨_,rfl,u3,rfl,hM.outF (kb Xy),hM.kept⟩)
def YY (s8 : (Vector UInt8 32) × Int) : Option (Fl ((Vector UInt8 32) × Int) (Vector UInt8 32)) :=
 if (decide (s8.2 < 32)) = true then ((ZH s8.1 s8.2).bind fun x14=>some (Fl.nx ((s8.1.setIfInBounds (s8.2).toNat (Zy (wr (17 * s8.2)))),wr (s8.2 + 1)))) else (some (Fl.ex s8.1))
def X2 : Option ((Vector UInt8 32)) :=
 (ZB (YY) ((Vector.replicate 32 (0 : UInt8)),0)).bind fun j5=>some j5
theorem Kn (w0 : World)  (r : (Vector UInt8 32)) (hF : X2  = some r) :
  Calls Tryz.prog 130 [].toArray w0 (Rt w0 (Value.agg (enc r).toArray)):=by
 refine ce Tryz.func130 ?_
 intro a hE
 have hM:=M.start w0
 unfold X2 at hF
 refine Zb (ZA hE hM Yt fun b1 w a hM hE=>Ze (Zb (XF (parts:=[]) (vs:=[]) (cs:=enc (Vector.replicate 32 (0 : UInt8))) hE Za ld rfl rfl Yt rfl ty5 YZ fun a hE=>ZA hE hM Yt fun b3 w a hM hE=>Zk (seg:=enc (Vector.replicate 32 (0 : UInt8))) (cs':=enc (Vector.replicate 32 (0 : UInt8))) hE hM Za rfl rfl rfl Yt (Flat.len _) (zle flq) (Flat.cell _) (Zi flq) fun w a hM hE=>Ze (wp_seq (Zb (Zd hE rfl fun a hE=>Ze ?_))))))
 obtain ⟨j5,hl6,hF7⟩:=bind_some hF
 refine ZI (fun a w=>Env 14 a [(0,(ptr b1 0)),(1,(ptr b3 0))] ∧ M (Old w0) w0 w [raw b3 (enc j5),raw b1 (enc (Vector.replicate 32 (0 : UInt8)))]) ?_ ?_
 ·skip
  refine wp_block ?_
  refine ZD (fun (s8 : (Vector UInt8 32) × Int) a w=>Env 14 a [(0,(ptr b1 0)),(1,(ptr b3 0)),(4,vI s8.2)] ∧ M (Old w0) w0 w [raw b3 (enc s8.1),raw b1 (enc (Vector.replicate 32 (0 : UInt8)))]) hl6 ⟨hE.sub ⟨rfl,rfl,rfl,trivial⟩,hM⟩ ?_
  rintro s8 a w ⟨hE,hM⟩ o11 hs9 hx10
  unfold YY at hs9
  refine Zb (Zg hE rfl rfl rfl fun a hE=>Ze (wp_seq ?_))
  refine Zm hE rfl ?_ ?_
  ·intro hb12
   have hs9:=Zt hs9 hb12
   refine wp_skip (Zq (wp_seq (wp_block (Zb (Zd hE rfl fun a hE=>Zc hE rfl fun a hE=>Ze (wp_region_lit (Zd hE rfl fun a hE=>Zd hE rfl fun a hE=>Zg hE rfl rfl rfl fun a hE=>Yj hE Za ld rfl Tryz.underlying3 Tryz.underlying5 ?_))))))); intro a hE
   obtain ⟨x14,hi13,hs9⟩:=bvx hs9
   refine ZC hE rfl rfl Tryz.underlying35 ty5 hi13.1 fun a hE=>Zk (seg:=[(vB (Zy (wr (17 * s8.2))))]) (cs':=enc (s8.1.setIfInBounds (s8.2).toNat (Zy (wr (17 * s8.2))))) hE hM Za rfl rfl rfl ty5 rfl (ZK (v:=s8.1) (x:=Zy (wr (17 * s8.2))) hi13.1) (Flat.cell (Zy (wr (17 * s8.2)) : UInt8)) (ZE (v:=s8.1) (x:=Zy (wr (17 * s8.2))) hi13.1) fun w a hM hE=>Zh (Z2 (Zq (wp_region_lit (Zg hE rfl rfl rfl fun a hE=>Zd hE rfl fun a hE=>Zh (Zj ?_)))))
   exact ⟨_,(ois hs9),hE.sub ⟨rfl,rfl,rfl,trivial⟩,hM⟩
  ·intro hb12
   have hs9:=Zu hs9 hb12
   refine wp_exit (Zl (Zl (Z3 ?_)))
   obtain rfl:=hx10 _ (ois hs9)
   refine Zj ?_
   exact ⟨hE.sub ⟨rfl,rfl,trivial⟩,hM⟩
 ·skip
  rintro a w ⟨hE,hM⟩
  refine Zq (Zb (Zn hE rfl Yt rfl hM.rawAt0 (Flat.len _) ?_)); intro a hE
  have hM:=hM.pull1
  refine Zk (seg:=enc j5) (cs':=enc j5) hE hM Za rfl rfl rfl Yt (Flat.len _) (zle flq) (Flat.cell _) (Zi flq) fun w a hM hE=>Ze ?_
  obtain rfl:=Option.some.inj hF7
  have hq17 : Yu Tryz.prog _ _ (.cell 0 35) _:=ZJ hE rfl Yt rfl hM.rawAt0 (Flat.len _) rfl
  exact wp_ret (ZL hE rfl hq17 ⟨_,rfl,rfl,hM.kept⟩)
def YH (p1 : Int) : Option ((List UInt8)) :=
 (if (decide (p1 < 0)) = true then (none) else (some ()) : Option (Unit)).bind fun j1=>(if (decide ((wr (p1 - (wr (0 - 0)))) > 0)) = true then ((mkS 1 (0 : UInt8) (wr (p1 - (wr (0 - 0))))).bind fun l14=>(slc l14 (0 : Int) (0 : Int)).bind fun l16=>some l16) else (some ([])) : Option ((List UInt8))).bind fun j6=>some j6
theorem Qk (w0 : World) (p1 : Int) (r : (List UInt8)) (hF : YH p1 = some r) :
  Calls Tryz.prog 181 [(Value.slice none 0 0),vI p1].toArray w0 (fun en w'=>∃ v,en = .returned v ∧ (∃ (y1 : Value),v = y1 ∧ Fr w0 w' [osl NoB (r : List UInt8) y1] ∧ Kept (Old w0) w0 w')):=by
 refine ce Tryz.func181 ?_
 intro a hE
 have hM:=M.start w0
 unfold YH at hF
 refine Zb (Zc hE rfl fun a hE=>Ze ?_)
 obtain ⟨j1,hl2,hF3⟩:=bind_some hF
 refine ZQ (fun a w=>Env 27 a [(0,(Value.slice none 0 0)),(1,vI p1)] ∧ M (Old w0) w0 w []) ?_ ?_
 ·skip
  refine Zb (Zd hE rfl fun a hE=>Zg hE rfl rfl rfl fun a hE=>Ze ?_)
  refine Zm hE rfl ?_ ?_
  ·intro hb4
   have hl2:=Zt hl2 hb4
   cases hl2
  ·intro hb4
   have hl2:=Zu hl2 hb4
   refine wp_skip ?_
   obtain rfl:=Option.some.inj hl2
   refine Zj ?_
   exact ⟨hE.sub ⟨rfl,rfl,trivial⟩,hM⟩
 ·skip
  rintro a w ⟨hE,hM⟩
  obtain ⟨j6,hl7,hF8⟩:=bind_some hF3
  refine ZQ (fun a w=>∃ (u9 : Value),Env 27 a [(0,u9)] ∧ M (Old w0) w0 w [osl NoB (j6 : List UInt8) u9]) ?_ ?_
  ·skip
   refine Zb (Zd hE rfl fun a hE=>Zd hE rfl fun a hE=>yw hE Za ld rfl Tryz.underlying40 fun a hE=>Zd hE rfl fun a hE=>yt hE Za ld rfl Tryz.underlying40 fun a hE=>Zg hE rfl rfl rfl fun a hE=>Zg hE rfl rfl rfl fun a hE=>Zc hE rfl fun a hE=>Ze (Zb (Zd hE rfl fun a hE=>Zg hE rfl rfl rfl fun a hE=>Ze ?_)))
   refine Zm hE rfl ?_ ?_
   ·intro hb11
    have hl7:=Zt hl7 hb11
    refine wp_region_lit (Zd hE rfl fun a hE=>Zd hE rfl fun a hE=>yw hE Za ld rfl Tryz.underlying40 fun a hE=>jo hE Za ld rfl rfl Tryz.underlying40 ty5 fun a hE=>Zd hE rfl ?_); intro a hE
    obtain ⟨l14,e15,hl7⟩:=bind_some hl7
    refine kD hE hM Za ld rfl rfl Tryz.underlying40 Tryz.underlying3 ty5 rfl (by decide) (by decide) (fun _=>Tv.2 ⟨rfl,rfl⟩) e15 fun u12 w a hM hE=>Zd hE rfl fun a hE=>yt hE Za ld rfl Tryz.underlying40 ?_; intro a hE
    obtain ⟨l16,e17,hl7⟩:=bind_some hl7
    refine Ka hE Za ld rfl rfl rfl rfl rfl Tryz.underlying40 ty5 (hM.sl (pre:=[]) noB) e17 ?_; intro a hE
    have hM:=hM.cut noB e17
    refine Zc hE rfl fun a hE=>Zh ?_
    obtain rfl:=Option.some.inj hl7
    refine Zj ?_
    exact ⟨(Z8 u12 ((0 : Int)).toNat ((0 : Int)).toNat 1),hE.sub ⟨rfl,trivial⟩,hM⟩
   ·intro hb11
    have hl7:=Zu hl7 hb11
    refine wp_skip ?_
    obtain rfl:=Option.some.inj hl7
    refine Zj ?_
    have hM:=M.nilS (α:=UInt8) NoB noB hM
    exact ⟨(Value.slice none 0 0),hE.sub ⟨rfl,trivial⟩,hM⟩
  ·skip
   rintro a w ⟨u9,hE,hM⟩
   refine Zb (Zd hE rfl fun a hE=>Zc hE rfl fun a hE=>Ze ?_)
   obtain rfl:=Option.some.inj hF8
   exact wp_ret (ZL hE rfl (ZT hE rfl) ⟨_,rfl,u9,rfl,hM.outF (Yq Xy),hM.kept⟩)
def Xo (p0 : (List (List UInt8))) (s4 : Int × Int) : Option (Fl (Int × Int) Int) :=
 if (decide (s4.1 < (p0.length : Int))) = true then (((idx p0 s4.1).bind fun x12=>(if (decide ((wr (s4.2 + (x12.length : Int))) < 0)) = true then (none) else (some ()) : Option (Unit)).bind fun j20=>some (wr (s4.2 + (x12.length : Int))) : Option (Int)).bind fun j9=>some (Fl.nx (wr (s4.1 + 1),j9))) else (some (Fl.ex s4.2))
def Xp (p0 : (List (List UInt8))) (s35 : Int × (List UInt8)) : Option (Fl (Int × (List UInt8)) (List UInt8)) :=
 if (decide (s35.1 < (p0.length : Int))) = true then ((idx p0 s35.1).bind fun x42=>(app 1 s35.2 x42).bind fun l50=>some (Fl.nx (wr (s35.1 + 1),(s35.2 ++ x42)))) else (some (Fl.ex s35.2))
def Z1 (p0 : (List (List UInt8))) : Option ((List UInt8)) :=
 (ZB (Xo p0) (0,0)).bind fun j1=>(YH j1).bind fun r27=>(ZB (Xp p0) (0,r27)).bind fun j30=>some j30
theorem Th (w0 : World) (p0 : (List (List UInt8))) (v0_1 : Value) (hv0_1 : Ro w0 p0 [v0_1]) (r : (List UInt8)) (hF : Z1 p0 = some r) :
  Calls Tryz.prog 133 [v0_1].toArray w0 (fun en w'=>∃ v,en = .returned v ∧ (∃ (y1 : Value),v = y1 ∧ Fr w0 w' [osl NoB (r : List UInt8) y1] ∧ Kept (Old w0) w0 w')):=by
 refine ce Tryz.func133 ?_
 intro a hE
 have hM:=M.start w0
 unfold Z1 at hF
 refine Zb (Zc hE rfl fun a hE=>Ze (Zb (Zc hE rfl fun a hE=>Ze (wp_seq (Zb (Zd hE rfl fun a hE=>Yb hE rfl Tryz.underlying23 (hM.rd hv0_1) fun a hE=>Zd hE rfl fun a hE=>Ze ?_))))))
 obtain ⟨j1,hl2,hF3⟩:=bind_some hF
 refine ZI (fun a w=>Env 36 a [(0,v0_1),(3,vI j1)] ∧ M (Old w0) w0 w []) ?_ ?_
 ·skip
  refine wp_block ?_
  refine ZD (fun (s4 : Int × Int) a w=>Env 36 a [(0,v0_1),(3,vI s4.2),(9,v0_1),(10,(vI (p0.length : Int))),(11,vI s4.1)] ∧ M (Old w0) w0 w []) hl2 ⟨hE.sub ⟨rfl,rfl,rfl,rfl,rfl,trivial⟩,hM⟩ ?_
  rintro s4 a w ⟨hE,hM⟩ o7 hs5 hx6
  unfold Xo at hs5
  refine Zb (Zg hE rfl rfl rfl fun a hE=>Ze (wp_seq ?_))
  refine Zm hE rfl ?_ ?_
  ·intro hb8
   have hs5:=Zt hs5 hb8
   refine wp_skip (Zq ?_)
   obtain ⟨j9,hl10,hF11⟩:=bind_some hs5
   refine ZQ (fun a w=>Env 36 a [(0,v0_1),(3,vI j9),(9,v0_1),(10,(vI (p0.length : Int))),(11,vI s4.1)] ∧ M (Old w0) w0 w []) ?_ ?_
   ·skip
    refine wp_block (Zb ?_)
    obtain ⟨x12,hi14,hl10⟩:=bix hl10
    refine ZN hE rfl rfl Tryz.underlying23 Ui (hM.rd hv0_1) hi14.1 ?_; intro a hE
    obtain ⟨cs15,hs16,hA17⟩:=Ww hv0_1 hi14.2 -- ^
    obtain ⟨u18,rfl⟩:=Qc hs16 -- ^
    have h19:=hs16 -- ^
    refine Zw (v:=u18) hE rfl Ui rfl (hM.atk hA17 (V9 hv0_1 hi14.2)) fun a hE=>Zc hE rfl fun a hE=>Ze (Zb (Zd hE rfl fun a hE=>Zd hE rfl fun a hE=>Yb hE rfl Tryz.underlying40 (hM.rd h19) fun a hE=>Zg hE rfl rfl rfl fun a hE=>Zc hE rfl fun a hE=>Ze (Zb (Zd hE rfl fun a hE=>Zg hE rfl rfl rfl fun a hE=>Ze ?_))))
    obtain ⟨j20,hl21,hF22⟩:=bind_some hl10
    refine ZI (fun a w=>Env 36 a [(0,v0_1),(3,(vI (wr (s4.2 + (x12.length : Int))))),(9,v0_1),(10,(vI (p0.length : Int))),(11,vI s4.1)] ∧ M (Old w0) w0 w []) ?_ ?_
    ·skip
     refine Zm hE rfl ?_ ?_
     ·intro hb23
      have hl21:=Zt hl21 hb23
      cases hl21
     ·intro hb23
      have hl21:=Zu hl21 hb23
      refine wp_skip ?_
      obtain rfl:=Option.some.inj hl21
      refine Zj ?_
      exact ⟨hE.sub ⟨rfl,rfl,rfl,rfl,rfl,trivial⟩,hM⟩
    ·skip
     rintro a w ⟨hE,hM⟩
     refine Z2 ?_
     obtain rfl:=Option.some.inj hF22
     refine Zj ?_
     exact ⟨hE.sub ⟨rfl,rfl,rfl,rfl,rfl,trivial⟩,hM⟩
   ·skip
    rintro a w ⟨hE,hM⟩
    refine wp_region_lit (Zg hE rfl rfl rfl fun a hE=>Zd hE rfl fun a hE=>Zh (Zj ?_))
    exact ⟨_,(ois hF11),hE.sub ⟨rfl,rfl,rfl,rfl,rfl,trivial⟩,hM⟩
  ·intro hb8
   have hs5:=Zu hs5 hb8
   refine wp_exit (Zl (Zl (Z3 ?_)))
   obtain rfl:=hx6 _ (ois hs5)
   refine Zj ?_
   exact ⟨hE.sub ⟨rfl,rfl,trivial⟩,hM⟩
 ·skip
  rintro a w ⟨hE,hM⟩
  refine Zq (Zb (Zd hE rfl ?_)); intro a hE
  obtain ⟨r27,e28,hF3⟩:=bind_some hF3
  refine Zx hE rfl (cbm Tryz.func181) (Qk _ j1 r27 e28) ?_
  rintro u29 w a ⟨_,rfl,hFr,hK⟩ hE
  have hM:=hM.add hK hFr
  refine Zc hE rfl fun a hE=>Ze (wp_seq (Zb (Zd hE rfl fun a hE=>Yb hE rfl Tryz.underlying23 (hM.rd hv0_1) fun a hE=>Zd hE rfl fun a hE=>Ze ?_)))
  obtain ⟨j30,hl31,hF32⟩:=bind_some hF3
  refine ZI (fun a w=>∃ (u33 : Value),Env 36 a [(6,u33)] ∧ M (Old w0) w0 w [osl NoB (j30 : List UInt8) u33]) ?_ ?_
  ·skip
   refine wp_block ?_
   refine ZD (fun (s35 : Int × (List UInt8)) a w=>∃ (u36 : Value),Env 36 a [(6,u36),(25,v0_1),(26,(vI (p0.length : Int))),(27,vI s35.1)] ∧ M (Old w0) w0 w [osl NoB (s35.2 : List UInt8) u36]) hl31 ⟨u29,hE.sub ⟨rfl,rfl,rfl,rfl,trivial⟩,hM⟩ ?_
   rintro s35 a w ⟨u36,hE,hM⟩ o40 hs38 hx39
   unfold Xp at hs38
   refine Zb (Zg hE rfl rfl rfl fun a hE=>Ze (wp_seq ?_))
   refine Zm hE rfl ?_ ?_
   ·intro hb41
    have hs38:=Zt hs38 hb41
    refine wp_skip (Zq (wp_seq (wp_block (Zb ?_))))
    obtain ⟨x42,hi44,hs38⟩:=bix hs38
    refine ZN hE rfl rfl Tryz.underlying23 Ui (hM.rd hv0_1) hi44.1 ?_; intro a hE
    obtain ⟨cs45,hs46,hA47⟩:=Ww hv0_1 hi44.2 -- ^
    obtain ⟨u48,rfl⟩:=Qc hs46 -- ^
    have h49:=hs46 -- ^
    refine Zw (v:=u48) hE rfl Ui rfl (hM.atk hA47 (V9 hv0_1 hi44.2)) fun a hE=>Zc hE rfl fun a hE=>Ze (wp_region_lit (Zd hE rfl fun a hE=>Zd hE rfl ?_)); intro a hE
    obtain ⟨l50,e51,hs38⟩:=bind_some hs38
    obtain ⟨e54,rfl⟩:=Yr e51
    refine Yh hE hM Za ld rfl rfl (hM.rd h49) Tryz.underlying40 ty5 rfl (by decide) e54 fun u52 w a hM hE=>Zc hE rfl fun a hE=>Zh (Z2 (Zq (wp_region_lit (Zg hE rfl rfl rfl fun a hE=>Zd hE rfl fun a hE=>Zh (Zj ?_)))))
    exact ⟨_,(ois hs38),u52,hE.sub ⟨rfl,rfl,rfl,rfl,trivial⟩,hM⟩
   ·intro hb41
    have hs38:=Zu hs38 hb41
    refine wp_exit (Zl (Zl (Z3 ?_)))
    obtain rfl:=hx39 _ (ois hs38)
    refine Zj ?_
    exact ⟨u36,hE.sub ⟨rfl,trivial⟩,hM⟩
  ·skip
   rintro a w ⟨u33,hE,hM⟩
   refine Zq (Zb (Zd hE rfl fun a hE=>Zc hE rfl fun a hE=>Ze ?_))
   obtain rfl:=Option.some.inj hF32
   exact wp_ret (ZL hE rfl (ZT hE rfl) ⟨_,rfl,u33,rfl,hM.outF (Yq Xy),hM.kept⟩)
def Vh (p0 : Int) (s8 : (List UInt8) × Int) : Option (Fl ((List UInt8) × Int) (List UInt8)) :=
 if (decide (s8.2 ≥ 0)) = true then ((Xk (wr (8 * s8.2))).bind fun _=>(app 1 s8.1 ([Zy (Tm p0 (wr (8 * s8.2)))] : List UInt8)).bind fun l18=>some (Fl.nx ((s8.1 ++ ([Zy (Tm p0 (wr (8 * s8.2)))] : List UInt8)),wr (s8.2 - 1)))) else (some (Fl.ex s8.1))
def Xg (p0 : Int) (p1 : Int) : Option ((List UInt8)) :=
 (ZB (Vh p0) (([] : List UInt8),wr (p1 - 1))).bind fun j3=>some j3
theorem QW (w0 : World) (p0 : Int) (p1 : Int) (r : (List UInt8)) (hF : Xg p0 p1 = some r) :
  Calls Tryz.prog 166 [vI p0,vI p1].toArray w0 (fun en w'=>∃ v,en = .returned v ∧ (∃ (y1 : Value),v = y1 ∧ Fr w0 w' [osl NoB (r : List UInt8) y1] ∧ Kept (Old w0) w0 w')):=by
 refine ce Tryz.func166 ?_
 intro a hE
 have hM:=M.start w0
 unfold Xg at hF
 refine Zb (Zc hE rfl fun a hE=>Ze (Zb (Yi (xs:=[]) (l:=([] : List UInt8)) (vs:=[]) hE hM Za ld rfl rfl Tryz.underlying40 ty5 rfl (by decide) rfl fun u1 w a hM hE=>Zc hE rfl fun a hE=>Ze (wp_seq (Zb (Zd hE rfl fun a hE=>Zg hE rfl rfl rfl fun a hE=>Zc hE rfl fun a hE=>Ze ?_))))))
 obtain ⟨j3,hl4,hF5⟩:=bind_some hF
 refine ZI (fun a w=>∃ (u6 : Value),Env 23 a [(5,u6)] ∧ M (Old w0) w0 w [osl NoB (j3 : List UInt8) u6]) ?_ ?_
 ·skip
  refine wp_block ?_
  refine ZD (fun (s8 : (List UInt8) × Int) a w=>∃ (u9 : Value),Env 23 a [(0,vI p0),(5,u9),(6,vI s8.2)] ∧ M (Old w0) w0 w [osl NoB (s8.1 : List UInt8) u9]) hl4 ⟨u1,hE.sub ⟨rfl,rfl,rfl,trivial⟩,hM⟩ ?_
  rintro s8 a w ⟨u9,hE,hM⟩ o13 hs11 hx12
  unfold Vh at hs11
  refine wp_seq (Zb (Zd hE rfl fun a hE=>Zg hE rfl rfl rfl fun a hE=>Ze ?_))
  refine Zm hE rfl ?_ ?_
  ·intro hb14
   have hs11:=Zt hs11 hb14
   refine wp_skip (Zq (wp_seq (wp_block (wp_region_lit (Zd hE rfl fun a hE=>Zd hE rfl fun a hE=>Zd hE rfl fun a hE=>Zg hE rfl rfl rfl ?_))))); intro a hE
   obtain ⟨_,e15,hs11⟩:=bind_some hs11
   have e15:=Wx e15
   refine HD hE Za ld rfl rfl (Ji _ _ e15) fun a hE=>Yj hE Za ld rfl Tryz.underlying2 Tryz.underlying5 fun a hE=>Yi (xs:=[.tmp 19]) (l:=([Zy (Tm p0 (wr (8 * s8.2)))] : List UInt8)) (vs:=[(vB (Zy (Tm p0 (wr (8 * s8.2)))))]) hE hM Za ld rfl rfl Tryz.underlying40 ty5 rfl (by decide) rfl ?_; intro u16 w a hM hE
   obtain ⟨l18,e19,hs11⟩:=bind_some hs11
   obtain ⟨e22,rfl⟩:=Yr e19
   have hM:=hM.pull1
   refine Yh hE hM Za ld rfl rfl (hM.sl (pre:=[_]) noB) Tryz.underlying40 ty5 rfl (by decide) e22 fun u20 w a hM hE=>Zc hE rfl fun a hE=>Zh (Z2 (Zq (wp_region_lit (Zd hE rfl fun a hE=>Zg hE rfl rfl rfl fun a hE=>Zc hE rfl fun a hE=>Zh (Zj ?_)))))
   have hM:=M.fst (l:=[_]) hM
   exact ⟨_,(ois hs11),u20,hE.sub ⟨rfl,rfl,rfl,trivial⟩,hM⟩
  ·intro hb14
   have hs11:=Zu hs11 hb14
   refine wp_exit (Zl (Zl (Z3 ?_)))
   obtain rfl:=hx12 _ (ois hs11)
   refine Zj ?_
   exact ⟨u9,hE.sub ⟨rfl,trivial⟩,hM⟩
 ·skip
  rintro a w ⟨u6,hE,hM⟩
  refine Zq (Zb (Zd hE rfl fun a hE=>Zc hE rfl fun a hE=>Ze ?_))
  obtain rfl:=Option.some.inj hF5
  exact wp_ret (ZL hE rfl (ZT hE rfl) ⟨_,rfl,u6,rfl,hM.outF (Yq Xy),hM.kept⟩)
def V3 (s16 : (List UInt8)) : Option (Fl (List UInt8) (List UInt8)) :=
 if ((Int.tmod (s16.length : Int) 16) != 8) = true then ((app 1 s16 ([0] : List UInt8)).bind fun l25=>some (Fl.nx (s16 ++ ([0] : List UInt8)))) else (some (Fl.ex s16))
def Vm (p0 : (List UInt8)) : Option ((List UInt8)) :=
 (Yl p0).bind fun r1=>(app 1 r1 ([128] : List UInt8)).bind fun l6=>(ZB (V3) (r1 ++ ([128] : List UInt8))).bind fun j11=>(Xg (p0.length : Int) 8).bind fun r31=>(app 1 j11 r31).bind fun l34=>some (j11 ++ r31)
theorem JK (w0 : World) (p0 : (List UInt8)) (v0_1 : Value) (hv0_1 : Ro w0 p0 [v0_1]) (r : (List UInt8)) (hF : Vm p0 = some r) :
  Calls Tryz.prog 132 [v0_1].toArray w0 (fun en w'=>∃ v,en = .returned v ∧ (∃ (y1 : Value),v = y1 ∧ Fr w0 w' [osl NoB (r : List UInt8) y1] ∧ Kept (Old w0) w0 w')):=by
 refine ce Tryz.func132 ?_
 intro a hE
 have hM:=M.start w0
 unfold Vm at hF
 refine Zb (Zc hE rfl fun a hE=>Ze (Zb (Zd hE rfl ?_))); intro a hE
 obtain ⟨r1,e2,hF⟩:=bind_some hF
 refine Zx hE rfl cb75 (Vu _ p0 v0_1 (hM.rdo hv0_1) r1 e2) ?_
 rintro u3 w a ⟨_,rfl,hFr,hK⟩ hE
 have hM:=hM.add hK hFr
 refine Yi (xs:=[.const (vB 128)]) (l:=([128] : List UInt8)) (vs:=[vB 128]) hE hM Za ld rfl rfl Tryz.underlying40 ty5 rfl (by decide) rfl ?_; intro u4 w a hM hE
 obtain ⟨l6,e7,hF⟩:=bind_some hF
 obtain ⟨e10,rfl⟩:=Yr e7
 have hM:=hM.pull1
 refine Yh hE hM Za ld rfl rfl (hM.sl (pre:=[_]) noB) Tryz.underlying40 ty5 rfl (by decide) e10 fun u8 w a hM hE=>Zc hE rfl fun a hE=>Ze ?_
 obtain ⟨j11,hl12,hF13⟩:=bind_some hF
 refine ZQ (fun a w=>∃ (u14 : Value),Env 20 a [(0,v0_1),(3,u14)] ∧ M (Old w0) w0 w [osl NoB (j11 : List UInt8) u14]) ?_ ?_
 ·skip
  refine wp_block ?_
  have hM:=M.fst (l:=[_]) hM
  refine ZD (fun (s16 : (List UInt8)) a w=>∃ (u17 : Value),Env 20 a [(0,v0_1),(3,u17)] ∧ M (Old w0) w0 w [osl NoB (s16 : List UInt8) u17]) hl12 ⟨u8,hE.sub ⟨rfl,rfl,trivial⟩,hM⟩ ?_
  rintro s16 a w ⟨u17,hE,hM⟩ o21 hs19 hx20
  unfold V3 at hs19
  refine wp_seq (Zb (Zd hE rfl fun a hE=>Yb hE rfl Tryz.underlying40 (hM.sl (pre:=[]) noB) fun a hE=>Zg hE rfl rfl (QJ _ _ (by decide)) fun a hE=>Zg hE rfl rfl rfl fun a hE=>Ze ?_))
  refine Zm hE rfl ?_ ?_
  ·intro hb22
   have hs19:=Zt hs19 hb22
   refine wp_skip (Zq (wp_block (wp_region_lit (Zd hE rfl fun a hE=>Yi (xs:=[.const (vB 0)]) (l:=([0] : List UInt8)) (vs:=[vB 0]) hE hM Za ld rfl rfl Tryz.underlying40 ty5 rfl (by decide) rfl ?_)))); intro u23 w a hM hE
   obtain ⟨l25,e26,hs19⟩:=bind_some hs19
   obtain ⟨e29,rfl⟩:=Yr e26
   have hM:=hM.pull1
   refine Yh hE hM Za ld rfl rfl (hM.sl (pre:=[_]) noB) Tryz.underlying40 ty5 rfl (by decide) e29 fun u27 w a hM hE=>Zc hE rfl fun a hE=>Zh (Z2 (Zj ?_))
   have hM:=M.fst (l:=[_]) hM
   exact ⟨_,(ois hs19),u27,hE.sub ⟨rfl,rfl,trivial⟩,hM⟩
  ·intro hb22
   have hs19:=Zu hs19 hb22
   refine wp_exit (Zl (Zl (Z3 ?_)))
   obtain rfl:=hx20 _ (ois hs19)
   refine Zj ?_
   exact ⟨u17,hE.sub ⟨rfl,rfl,trivial⟩,hM⟩
 ·skip
  rintro a w ⟨u14,hE,hM⟩
  refine Zb (Zd hE rfl fun a hE=>Zd hE rfl fun a hE=>Yb hE rfl Tryz.underlying40 (hM.rd hv0_1) ?_); intro a hE
  obtain ⟨r31,e32,hF13⟩:=bind_some hF13
  refine Zx hE rfl (cbm Tryz.func166) (QW _ (p0.length : Int) 8 r31 e32) ?_
  rintro u33 w a ⟨_,rfl,hFr,hK⟩ hE
  have hM:=hM.add hK hFr
  obtain ⟨l34,e35,hF13⟩:=bind_some hF13
  obtain ⟨e38,rfl⟩:=Yr e35
  have hM:=hM.pull1
  refine Yh hE hM Za ld rfl rfl (hM.sl (pre:=[_]) noB) Tryz.underlying40 ty5 rfl (by decide) e38 fun u36 w a hM hE=>Zc hE rfl fun a hE=>Ze ?_
  obtain rfl:=Option.some.inj hF13
  have hM:=M.fst (l:=[_]) hM
  exact wp_ret (ZL hE rfl (ZT hE rfl) ⟨_,rfl,u36,rfl,hM.outF (Yq Xy),hM.kept⟩)
def WH (p0 : (List UInt8)) (s8 : (List (Vector UInt8 16)) × Int) : Option (Fl ((List (Vector UInt8 16)) × Int) (List (Vector UInt8 16))) :=
 if (decide (s8.2 < (p0.length : Int))) = true then ((slc p0 s8.2 (wr (s8.2 + 16))).bind fun l15=>(Qx 16 l15).bind fun x18=>(app 16 s8.1 ([x18] : List (Vector UInt8 16))).bind fun l22=>some (Fl.nx ((s8.1 ++ ([x18] : List (Vector UInt8 16))),wr (s8.2 + 16)))) else (some (Fl.ex s8.1))
def Um (p0 : (List UInt8)) : Option ((List (Vector UInt8 16))) :=
 (ZB (WH p0) (([] : List (Vector UInt8 16)),0)).bind fun j3=>some j3
theorem Bj (w0 : World) (p0 : (List UInt8)) (v0_1 : Value) (hv0_1 : Ro w0 p0 [v0_1]) (r : (List (Vector UInt8 16))) (hF : Um p0 = some r) :
  Calls Tryz.prog 131 [v0_1].toArray w0 (fun en w'=>∃ v,en = .returned v ∧ (∃ (y1 : Value),v = y1 ∧ Fr w0 w' [osl NoB (r : List (Vector UInt8 16)) y1] ∧ Kept (Old w0) w0 w')):=by
 refine ce Tryz.func131 ?_
 intro a hE
 have hM:=M.start w0
 unfold Um at hF
 refine Zb (Zc hE rfl fun a hE=>Ze (Zb (Yi (xs:=[]) (l:=([] : List (Vector UInt8 16))) (vs:=[]) hE hM Za ld rfl rfl Tryz.underlying54 ZG rfl (by decide) rfl fun u1 w a hM hE=>Zc hE rfl fun a hE=>Ze (wp_seq (Zb (Zc hE rfl fun a hE=>Ze ?_))))))
 obtain ⟨j3,hl4,hF5⟩:=bind_some hF
 refine ZI (fun a w=>∃ (u6 : Value),Env 23 a [(3,u6)] ∧ M (Old w0) w0 w [osl NoB (j3 : List (Vector UInt8 16)) u6]) ?_ ?_
 ·skip
  refine wp_block ?_
  refine ZD (fun (s8 : (List (Vector UInt8 16)) × Int) a w=>∃ (u9 : Value),Env 23 a [(0,v0_1),(3,u9),(4,vI s8.2)] ∧ M (Old w0) w0 w [osl NoB (s8.1 : List (Vector UInt8 16)) u9]) hl4 ⟨u1,hE.sub ⟨rfl,rfl,rfl,trivial⟩,hM⟩ ?_
  rintro s8 a w ⟨u9,hE,hM⟩ o13 hs11 hx12
  unfold WH at hs11
  refine wp_seq (Zb (Zd hE rfl fun a hE=>Zd hE rfl fun a hE=>Yb hE rfl Tryz.underlying40 (hM.rd hv0_1) fun a hE=>Zg hE rfl rfl rfl fun a hE=>Ze ?_))
  refine Zm hE rfl ?_ ?_
  ·intro hb14
   have hs11:=Zt hs11 hb14
   refine wp_skip (Zq (wp_seq (wp_block (wp_region_lit (Zd hE rfl fun a hE=>Zd hE rfl fun a hE=>Zd hE rfl fun a hE=>Zd hE rfl fun a hE=>Zg hE rfl rfl rfl ?_))))); intro a hE
   obtain ⟨l15,e16,hs11⟩:=bind_some hs11
   refine Ka hE Za ld rfl rfl rfl rfl rfl Tryz.underlying40 ty5 (hM.rd hv0_1) e16 ?_; intro a hE
   have h17 : Rep.sat (Old w0) w0 l15 [(Z8 v0_1 (s8.2).toNat ((wr (s8.2 + 16))).toNat 1)] []:=Wr hv0_1 e16 -- ^
   obtain ⟨x18,e19,hs11⟩:=bind_some hs11
   refine BD hE Za ld rfl Tryz.underlying68 (hM.rd h17) (Qt e19).1 (by decide) fun a hE=>Zn hE rfl ZG rfl (zU (hM.rd h17) e19 (by decide)) (Flat.len _) fun a hE=>Yi (xs:=[.tmp 19]) (l:=([x18] : List (Vector UInt8 16))) (vs:=[(Value.agg (enc x18).toArray)]) hE hM Za ld rfl rfl Tryz.underlying54 ZG rfl (by decide) rfl ?_; intro u20 w a hM hE
   obtain ⟨l22,e23,hs11⟩:=bind_some hs11
   obtain ⟨e26,rfl⟩:=Yr e23
   have hM:=hM.pull1
   refine Yh hE hM Za ld rfl rfl (hM.sl (pre:=[_]) noB) Tryz.underlying54 ZG rfl (by decide) e26 fun u24 w a hM hE=>Zc hE rfl fun a hE=>Zh (Z2 (Zq (wp_region_lit (Zd hE rfl fun a hE=>Zg hE rfl rfl rfl fun a hE=>Zc hE rfl fun a hE=>Zh (Zj ?_)))))
   have hM:=M.fst (l:=[_]) hM
   exact ⟨_,(ois hs11),u24,hE.sub ⟨rfl,rfl,rfl,trivial⟩,hM⟩
  ·intro hb14
   have hs11:=Zu hs11 hb14
   refine wp_exit (Zl (Zl (Z3 ?_)))
   obtain rfl:=hx12 _ (ois hs11)
   refine Zj ?_
   exact ⟨u9,hE.sub ⟨rfl,trivial⟩,hM⟩
 ·skip
  rintro a w ⟨u6,hE,hM⟩
  refine Zq (Zb (Zd hE rfl fun a hE=>Zc hE rfl fun a hE=>Ze ?_))
  obtain rfl:=Option.some.inj hF5
  exact wp_ret (ZL hE rfl (ZT hE rfl) ⟨_,rfl,u6,rfl,hM.outF (Yq Xy),hM.kept⟩)
def Wf (p1 : (Vector UInt8 16)) (s10 : (Vector UInt8 16) × Int) : Option (Fl ((Vector UInt8 16) × Int) (Vector UInt8 16)) :=
 if (decide (s10.2 < 16)) = true then ((ZH s10.1 s10.2).bind fun x17=>(ZH p1 s10.2).bind fun x20=>(ZH s10.1 s10.2).bind fun x23=>some (Fl.nx ((s10.1.setIfInBounds (s10.2).toNat (x17 ^^^ x20)),wr (s10.2 + 1)))) else (some (Fl.ex s10.1))
def Yw (p0 : (Vector UInt8 16)) (p1 : (Vector UInt8 16)) : Option ((Vector UInt8 16)) :=
 (ZB (Wf p1) (p0,0)).bind fun j7=>some j7
theorem Wz (w0 : World) (p0 : (Vector UInt8 16)) (p1 : (Vector UInt8 16)) (r : (Vector UInt8 16)) (hF : Yw p0 p1 = some r) :
  Calls Tryz.prog 182 [(Value.agg (enc p0).toArray),(Value.agg (enc p1).toArray)].toArray w0 (Rt w0 (Value.agg (enc r).toArray)):=by
 refine ce Tryz.func182 ?_
 intro a hE
 have hM:=M.start w0
 unfold Yw at hF
 refine Zb (ZV (cs:=enc p0) hE hM Za ld rfl rfl fun b1 w a hM hE=>ZV (cs:=enc p1) hE hM Za ld rfl rfl fun b3 w a hM hE=>ZA hE hM ZG fun b5 w a hM hE=>Ze (wp_seq (Zb (Zd hE rfl fun a hE=>Ze ?_))))
 obtain ⟨j7,hl8,hF9⟩:=bind_some hF
 refine ZI (fun a w=>Env 19 a [(2,(ptr b1 0)),(4,(ptr b5 0))] ∧ M (Old w0) w0 w [raw b5 (enc (Vector.replicate 16 (0 : UInt8))),raw b1 (enc j7)]) ?_ ?_
 ·skip
  refine wp_block ?_
  refine ZD (fun (s10 : (Vector UInt8 16) × Int) a w=>Env 19 a [(2,(ptr b1 0)),(3,(ptr b3 0)),(4,(ptr b5 0)),(6,vI s10.2)] ∧ M (Old w0) w0 w [raw b5 (enc (Vector.replicate 16 (0 : UInt8))),raw b3 (enc p1),raw b1 (enc s10.1)]) hl8 ⟨hE.sub ⟨rfl,rfl,rfl,rfl,trivial⟩,hM⟩ ?_
  rintro s10 a w ⟨hE,hM⟩ o13 hs11 hx12
  unfold Wf at hs11
  refine Zb (Zg hE rfl rfl rfl fun a hE=>Ze (wp_seq ?_))
  refine Zm hE rfl ?_ ?_
  ·intro hb14
   have hs11:=Zt hs11 hb14
   refine wp_skip (Zq (wp_seq (wp_block (Zb (Zd hE rfl fun a hE=>Zc hE rfl fun a hE=>Ze ?_)))))
   obtain ⟨x17,hi16,hs11⟩:=bvx hs11
   obtain ⟨x20,hi19,hs11⟩:=bvx hs11
   obtain ⟨x23,hi22,hs11⟩:=bvx hs11
   refine Yc [9,10,11,12,13,14,15,16] Y4 rfl rfl (by decide) rfl hE hM (qsP (fun z=>Zv z.E Za ld rfl (kr0 rfl)) (qsP (fun z=>ZF z.E Za ld rfl rfl Tryz.underlying68 ty5 hi16.1 (kr0 rfl)) (qsP (fun z=>ZS (v:=(vB x17)) z.E Za ld rfl ty5 rfl (At.vec (z.M.rawAt2) hi16.2) (kr0 rfl)) (qsP (fun z=>Zv z.E Za ld rfl (kr0 rfl)) (qsP (fun z=>ZF z.E Za ld rfl rfl Tryz.underlying68 ty5 hi19.1 (kr0 rfl)) (qsP (fun z=>ZS (v:=(vB x20)) z.E Za ld rfl ty5 rfl (At.vec (z.M.rawAt1) hi19.2) (kr0 rfl)) (qsP (v:=(vB (x17 ^^^ x20))) (fun z=>Yv z.E Za ld rfl rfl (Uy x17 x20) (kr0 rfl)) (qsP (fun z=>ZF z.E Za ld rfl rfl Tryz.underlying68 ty5 hi22.1 (kr0 rfl)) qs0)))))))) ?_
   ·intro a w u hE hM
    have hM:=hM.pull2
    refine Zk (seg:=[(vB (x17 ^^^ x20))]) (cs':=enc (s10.1.setIfInBounds (s10.2).toNat (x17 ^^^ x20))) hE hM Za rfl rfl rfl ty5 rfl (ZK (v:=s10.1) (x:=x17 ^^^ x20) hi22.1) (Flat.cell (x17 ^^^ x20 : UInt8)) (ZE (v:=s10.1) (x:=x17 ^^^ x20) hi22.1) fun w a hM hE=>Zh (Z2 (Zq (wp_region_lit (Zg hE rfl rfl rfl fun a hE=>Zd hE rfl fun a hE=>Zh (Zj ?_)))))
    have hM:=hM.pull2.pull2
    exact ⟨_,(ois hs11),hE.sub ⟨rfl,rfl,rfl,rfl,trivial⟩,hM⟩
  ·intro hb14
   have hs11:=Zu hs11 hb14
   refine wp_exit (Zl (Zl (Z3 ?_)))
   obtain rfl:=hx12 _ (ois hs11)
   refine Zj ?_
   have hM:=M.fst (l:=[_,_]) hM.pull2.pull1
   exact ⟨hE.sub ⟨rfl,rfl,trivial⟩,hM⟩
 ·skip
  rintro a w ⟨hE,hM⟩
  refine Zq (Zb (Zn hE rfl ZG rfl hM.rawAt1 (Flat.len _) fun a hE=>Zk (seg:=enc j7) (cs':=enc j7) hE hM Za rfl rfl rfl ZG (Flat.len _) (zle flq) (Flat.cell _) (Zi flq) fun w a hM hE=>Ze ?_))
  obtain rfl:=Option.some.inj hF9
  have hq26 : Yu Tryz.prog _ _ (.cell 4 68) _:=ZJ hE rfl ZG rfl hM.rawAt0 (Flat.len _) rfl
  exact wp_ret (ZL hE rfl hq26 ⟨_,rfl,rfl,hM.kept⟩)
def YT (p0 : (Ref Gengine)) (s35 : (Vector UInt8 16) × Int) : Option (Fl ((Vector UInt8 16) × Int) (Vector UInt8 16)) :=
 if (decide (s35.2 < 16)) = true then ((ZH s35.1 s35.2).bind fun x42=>(ZH s35.1 (wr (s35.2 - 1))).bind fun x45=>(ZH p0.v.box (bI x45)).bind fun x58=>(ZH s35.1 s35.2).bind fun x61=>some (Fl.nx ((s35.1.setIfInBounds (s35.2).toNat (x42 ^^^ x58)),wr (s35.2 + 1)))) else (some (Fl.ex s35.1))
def XI (p0 : (Ref Gengine)) (p1 : (Vector UInt8 16)) (p2 : Int) : Option ((Vector UInt8 16)) :=
 ((ZH p1 (0 : Int)).bind fun x10=>(ZH p1 (15 : Int)).bind fun x13=>(ZH p0.v.box (bI (x13 ^^^ (Zy p2)))).bind fun x26=>(ZH p1 (0 : Int)).bind fun x29=>some (p1.setIfInBounds ((0 : Int)).toNat (x10 ^^^ x26)) : Option ((Vector UInt8 16))).bind fun j5=>(ZB (YT p0) (j5,1)).bind fun j32=>some j32
theorem Kl (w0 : World) (p0 : (Ref Gengine)) (v0_1 : Value) (hv0_1 : Ro w0 p0 [v0_1]) (p1 : (Vector UInt8 16)) (p2 : Int) (r : (Vector UInt8 16)) (hF : XI p0 p1 p2 = some r) :
  Calls Tryz.prog 237 [v0_1,(Value.agg (enc p1).toArray),vI p2].toArray w0 (Rt w0 (Value.agg (enc r).toArray)):=by
 refine ce Tryz.func237 ?_
 intro a hE
 have hM:=M.start w0
 unfold XI at hF
 refine Zb (ZV (cs:=enc p1) hE hM Za ld rfl rfl fun b1 w a hM hE=>ZA hE hM ZG fun b3 w a hM hE=>Ze ?_)
 obtain ⟨j5,hl6,hF7⟩:=bind_some hF
 refine ZQ (fun a w=>Env 41 a [(0,v0_1),(4,(ptr b1 0)),(6,(ptr b3 0))] ∧ M (Old w0) w0 w [raw b3 (enc (Vector.replicate 16 (0 : UInt8))),raw b1 (enc j5)]) ?_ ?_
 ·skip
  obtain ⟨x10,hi9,hl6⟩:=bvx hl6
  obtain ⟨x13,hi12,hl6⟩:=bvx hl6
  obtain ⟨pb15,ds16,hv17,hx18,hA19,hB20⟩:=Tt hv0_1 -- ^
  obtain ⟨u21,u23,rfl,h22,h24⟩:=TY hx18 -- ^
  obtain ⟨x26,hi25,hl6⟩:=bvx hl6
  obtain ⟨x29,hi28,hl6⟩:=bvx hl6
  refine Yc [8,9,10,11,12,13,14,15,16,17,18,19,20,21] Y4 rfl rfl (by decide) rfl hE hM (qsP (fun z=>ZF z.E Za ld rfl rfl Tryz.underlying68 ty5 hi9.1 (kr0 rfl)) (qsP (fun z=>ZS (v:=(vB x10)) z.E Za ld rfl ty5 rfl (At.vec (z.M.rawAt1) hi9.2) (kr0 rfl)) (qsP (fun z=>Zv z.E Za ld rfl (kr0 rfl)) (qsP (fun z=>ZF z.E Za ld rfl rfl Tryz.underlying68 ty5 hi12.1 (kr0 rfl)) (qsP (fun z=>ZS (v:=(vB x13)) z.E Za ld rfl ty5 rfl (At.vec (z.M.rawAt1) hi12.2) (kr0 rfl)) (qsP (fun z=>Zv z.E Za ld rfl (kr0 rfl)) (qsP (fun z=>Yj z.E Za ld rfl Tryz.underlying2 Tryz.underlying5 (kr0 rfl)) (qsP (v:=(vB (x13 ^^^ (Zy p2)))) (fun z=>Yv z.E Za ld rfl rfl (Uy x13 (Zy p2)) (kr0 rfl)) (qsP (fun z=>Wi z.E Za ld (lk rfl hv17) (kr0 rfl)) (qsP (fun z=>Zs z.E Za ld rfl (zE) (kr0 rfl)) (qsP (fun z=>ZF z.E Za ld rfl rfl Tryz.underlying157 ty5 hi25.1 (kr0 rfl)) (qsP (fun z=>ZS (v:=(vB x26)) z.E Za ld rfl ty5 rfl (At.vec (At.cat (pre:=[]) (z.M.atk hA19 hB20) cl0) hi25.2) (kr0 rfl)) (qsP (v:=(vB (x10 ^^^ x26))) (fun z=>Yv z.E Za ld rfl rfl (Uy x10 x26) (kr0 rfl)) (qsP (fun z=>ZF z.E Za ld rfl rfl Tryz.underlying68 ty5 hi28.1 (kr0 rfl)) qs0)))))))))))))) ?_
  ·intro a w u hE hM
   have hM:=hM.pull1
   refine Zk (seg:=[(vB (x10 ^^^ x26))]) (cs':=enc (p1.setIfInBounds ((0 : Int)).toNat (x10 ^^^ x26))) hE hM Za rfl rfl rfl ty5 rfl (ZK (v:=p1) (x:=x10 ^^^ x26) hi28.1) (Flat.cell (x10 ^^^ x26 : UInt8)) (ZE (v:=p1) (x:=x10 ^^^ x26) hi28.1) fun w a hM hE=>Zh ?_
   obtain rfl:=Option.some.inj hl6
   refine Zj ?_
   have hM:=hM.pull1
   exact ⟨hE.sub ⟨rfl,rfl,rfl,trivial⟩,hM⟩
 ·skip
  rintro a w ⟨hE,hM⟩
  refine wp_seq (Zb (Zc hE rfl fun a hE=>Ze ?_))
  obtain ⟨j32,hl33,hF34⟩:=bind_some hF7
  refine ZI (fun a w=>Env 41 a [(4,(ptr b1 0)),(6,(ptr b3 0))] ∧ M (Old w0) w0 w [raw b3 (enc (Vector.replicate 16 (0 : UInt8))),raw b1 (enc j32)]) ?_ ?_
  ·skip
   refine wp_block ?_
   refine ZD (fun (s35 : (Vector UInt8 16) × Int) a w=>Env 41 a [(0,v0_1),(4,(ptr b1 0)),(6,(ptr b3 0)),(7,vI s35.2)] ∧ M (Old w0) w0 w [raw b3 (enc (Vector.replicate 16 (0 : UInt8))),raw b1 (enc s35.1)]) hl33 ⟨hE.sub ⟨rfl,rfl,rfl,rfl,trivial⟩,hM⟩ ?_
   rintro s35 a w ⟨hE,hM⟩ o38 hs36 hx37
   unfold YT at hs36
   refine wp_seq (Zb (Zd hE rfl fun a hE=>Zg hE rfl rfl rfl fun a hE=>Ze ?_))
   refine Zm hE rfl ?_ ?_
   ·intro hb39
    have hs36:=Zt hs36 hb39
    refine wp_skip (Zq (wp_seq (wp_block ?_)))
    obtain ⟨x42,hi41,hs36⟩:=bvx hs36
    obtain ⟨x45,hi44,hs36⟩:=bvx hs36
    obtain ⟨pb47,ds48,hv49,hx50,hA51,hB52⟩:=Tt hv0_1 -- ^
    obtain ⟨u53,u55,rfl,h54,h56⟩:=TY hx50 -- ^
    obtain ⟨x58,hi57,hs36⟩:=bvx hs36
    obtain ⟨x61,hi60,hs36⟩:=bvx hs36
    refine Yc [26,27,28,29,30,31,32,33,34,35,36,37,38,39] Y4 rfl rfl (by decide) rfl hE hM (qsP (fun z=>Zv z.E Za ld rfl (kr0 rfl)) (qsP (fun z=>ZF z.E Za ld rfl rfl Tryz.underlying68 ty5 hi41.1 (kr0 rfl)) (qsP (fun z=>ZS (v:=(vB x42)) z.E Za ld rfl ty5 rfl (At.vec (z.M.rawAt1) hi41.2) (kr0 rfl)) (qsP (fun z=>Zv z.E Za ld rfl (kr0 rfl)) (qsP (fun z=>Zv z.E Za ld rfl (kr0 rfl)) (qsP (v:=(vI (wr (s35.2 - 1)))) (fun z=>Yv z.E Za ld rfl rfl rfl (kr0 rfl)) (qsP (fun z=>ZF z.E Za ld rfl rfl Tryz.underlying68 ty5 hi44.1 (kr0 rfl)) (qsP (fun z=>ZS (v:=(vB x45)) z.E Za ld rfl ty5 rfl (At.vec (z.M.rawAt1) hi44.2) (kr0 rfl)) (qsP (fun z=>Wi z.E Za ld (lk rfl hv49) (kr0 rfl)) (qsP (fun z=>Zs z.E Za ld rfl (zE) (kr0 rfl)) (qsP (fun z=>ZF z.E Za ld rfl rfl Tryz.underlying157 ty5 hi57.1 (kr0 rfl)) (qsP (fun z=>ZS (v:=(vB x58)) z.E Za ld rfl ty5 rfl (At.vec (At.cat (pre:=[]) (z.M.atk hA51 hB52) cl0) hi57.2) (kr0 rfl)) (qsP (v:=(vB (x42 ^^^ x58))) (fun z=>Yv z.E Za ld rfl rfl (Uy x42 x58) (kr0 rfl)) (qsP (fun z=>ZF z.E Za ld rfl rfl Tryz.underlying68 ty5 hi60.1 (kr0 rfl)) qs0)))))))))))))) ?_
    ·intro a w u hE hM
     have hM:=hM.pull1
     refine Zk (seg:=[(vB (x42 ^^^ x58))]) (cs':=enc (s35.1.setIfInBounds (s35.2).toNat (x42 ^^^ x58))) hE hM Za rfl rfl rfl ty5 rfl (ZK (v:=s35.1) (x:=x42 ^^^ x58) hi60.1) (Flat.cell (x42 ^^^ x58 : UInt8)) (ZE (v:=s35.1) (x:=x42 ^^^ x58) hi60.1) fun w a hM hE=>Zh (Z2 (Zq (wp_region_lit (Zd hE rfl fun a hE=>Zg hE rfl rfl rfl fun a hE=>Zc hE rfl fun a hE=>Zh (Zj ?_)))))
     have hM:=hM.pull1
     exact ⟨_,(ois hs36),hE.sub ⟨rfl,rfl,rfl,rfl,trivial⟩,hM⟩
   ·intro hb39
    have hs36:=Zu hs36 hb39
    refine wp_exit (Zl (Zl (Z3 ?_)))
    obtain rfl:=hx37 _ (ois hs36)
    refine Zj ?_
    exact ⟨hE.sub ⟨rfl,rfl,trivial⟩,hM⟩
  ·skip
   rintro a w ⟨hE,hM⟩
   refine Zq (Zb (Zn hE rfl ZG rfl hM.rawAt1 (Flat.len _) fun a hE=>Zk (seg:=enc j32) (cs':=enc j32) hE hM Za rfl rfl rfl ZG (Flat.len _) (zle flq) (Flat.cell _) (Zi flq) fun w a hM hE=>Ze ?_))
   obtain rfl:=Option.some.inj hF34
   have hq64 : Yu Tryz.prog _ _ (.cell 6 68) _:=ZJ hE rfl ZG rfl hM.rawAt0 (Flat.len _) rfl
   exact wp_ret (ZL hE rfl hq64 ⟨_,rfl,rfl,hM.kept⟩)
def Xs (p0 : (Ref Gengine)) (p2 : Int) (s10 : (Vector UInt8 16) × (List (Vector UInt8 16)) × Int) : Option (Fl ((Vector UInt8 16) × (List (Vector UInt8 16)) × Int) (List (Vector UInt8 16))) :=
 if (decide (s10.2.2 ≤ p2)) = true then ((XI p0 s10.1 s10.2.2).bind fun r17=>(app 16 s10.2.1 ([r17] : List (Vector UInt8 16))).bind fun l21=>some (Fl.nx (r17,(s10.2.1 ++ ([r17] : List (Vector UInt8 16))),wr (s10.2.2 + 1)))) else (some (Fl.ex s10.2.1))
def WO (p0 : (Ref Gengine)) (p1 : (Vector UInt8 16)) (p2 : Int) : Option ((List (Vector UInt8 16))) :=
 (ZB (Xs p0 p2) (p1,([p1] : List (Vector UInt8 16)),1)).bind fun j5=>some j5
theorem JD (w0 : World) (p0 : (Ref Gengine)) (v0_1 : Value) (hv0_1 : Ro w0 p0 [v0_1]) (p1 : (Vector UInt8 16)) (p2 : Int) (r : (List (Vector UInt8 16))) (hF : WO p0 p1 p2 = some r) :
  Calls Tryz.prog 218 [v0_1,(Value.agg (enc p1).toArray),vI p2].toArray w0 (fun en w'=>∃ v,en = .returned v ∧ (∃ (y1 : Value),v = y1 ∧ Fr w0 w' [osl NoB (r : List (Vector UInt8 16)) y1] ∧ Kept (Old w0) w0 w')):=by
 refine ce Tryz.func218 ?_
 intro a hE
 have hM:=M.start w0
 unfold WO at hF
 refine Zb (ZV (cs:=enc p1) hE hM Za ld rfl rfl fun b1 w a hM hE=>Zc hE rfl fun a hE=>Ze (Zb (Zn hE rfl ZG rfl hM.rawAt0 (Flat.len _) fun a hE=>Yi (xs:=[.tmp 9]) (l:=([p1] : List (Vector UInt8 16))) (vs:=[(Value.agg (enc p1).toArray)]) hE hM Za ld rfl rfl Tryz.underlying54 ZG rfl (by decide) rfl fun u3 w a hM hE=>Zc hE rfl fun a hE=>Ze (wp_seq (Zb (Zc hE rfl fun a hE=>Ze ?_))))))
 obtain ⟨j5,hl6,hF7⟩:=bind_some hF
 refine ZI (fun a w=>∃ (u8 : Value),Env 25 a [(7,u8)] ∧ M (Old w0) w0 w [osl NoB (j5 : List (Vector UInt8 16)) u8]) ?_ ?_
 ·skip
  refine wp_block ?_
  have hM:=hM.pull1
  refine ZD (fun (s10 : (Vector UInt8 16) × (List (Vector UInt8 16)) × Int) a w=>∃ (u11 : Value),Env 25 a [(0,v0_1),(2,vI p2),(4,(ptr b1 0)),(7,u11),(8,vI s10.2.2)] ∧ M (Old w0) w0 w [raw b1 (enc s10.1),osl NoB (s10.2.1 : List (Vector UInt8 16)) u11]) hl6 ⟨u3,hE.sub ⟨rfl,rfl,rfl,rfl,rfl,trivial⟩,hM⟩ ?_
  rintro s10 a w ⟨u11,hE,hM⟩ o15 hs13 hx14
  unfold Xs at hs13
  refine wp_seq (Zb (Zd hE rfl fun a hE=>Zd hE rfl fun a hE=>Zg hE rfl rfl rfl fun a hE=>Ze ?_))
  refine Zm hE rfl ?_ ?_
  ·intro hb16
   have hs13:=Zt hs13 hb16
   refine wp_skip (Zq (wp_seq (wp_block (Zb (Zd hE rfl fun a hE=>Zn hE rfl ZG rfl hM.rawAt0 (Flat.len _) fun a hE=>Zd hE rfl ?_))))); intro a hE
   obtain ⟨r17,e18,hs13⟩:=bind_some hs13
   refine Zx hE rfl (cbm Tryz.func237) (Kl _ p0 v0_1 (hM.rdo hv0_1) s10.1 s10.2.2 r17 e18) ?_
   rintro v w a ⟨rfl,hK⟩ hE
   have hM:=hM.keep hK
   refine Zk (seg:=enc r17) (cs':=enc r17) hE hM Za rfl rfl rfl ZG (Flat.len _) (zle flq) (Flat.cell _) (Zi flq) fun w a hM hE=>Ze (wp_region_lit (Zd hE rfl fun a hE=>Zn hE rfl ZG rfl hM.rawAt0 (Flat.len _) fun a hE=>Yi (xs:=[.tmp 21]) (l:=([r17] : List (Vector UInt8 16))) (vs:=[(Value.agg (enc r17).toArray)]) hE hM Za ld rfl rfl Tryz.underlying54 ZG rfl (by decide) rfl ?_)); intro u19 w a hM hE
   obtain ⟨l21,e22,hs13⟩:=bind_some hs13
   obtain ⟨e25,rfl⟩:=Yr e22
   have hM:=hM.pull2
   refine Yh hE hM Za ld rfl rfl (hM.sl (pre:=[_]) noB) Tryz.underlying54 ZG rfl (by decide) e25 fun u23 w a hM hE=>Zc hE rfl fun a hE=>Zh (Z2 (Zq (wp_region_lit (Zd hE rfl fun a hE=>Zg hE rfl rfl rfl fun a hE=>Zc hE rfl fun a hE=>Zh (Zj ?_)))))
   have hM:=M.fst (l:=[_,_]) hM.pull2
   exact ⟨_,(ois hs13),u23,hE.sub ⟨rfl,rfl,rfl,rfl,rfl,trivial⟩,hM⟩
  ·intro hb16
   have hs13:=Zu hs13 hb16
   refine wp_exit (Zl (Zl (Z3 ?_)))
   obtain rfl:=hx14 _ (ois hs13)
   refine Zj ?_
   have hM:=M.fst (l:=[_]) hM.pull1
   exact ⟨u11,hE.sub ⟨rfl,trivial⟩,hM⟩
 ·skip
  rintro a w ⟨u8,hE,hM⟩
  refine Zq (Zb (Zd hE rfl fun a hE=>Zc hE rfl fun a hE=>Ze ?_))
  obtain rfl:=Option.some.inj hF7
  exact wp_ret (ZL hE rfl (ZT hE rfl) ⟨_,rfl,u8,rfl,hM.outF (Yq Xy),hM.kept⟩)
def Xu (p0 : (Vector UInt8 16)) (p1 : (Vector UInt8 16)) (s12 : (Vector UInt8 16) × Int) : Option (Fl ((Vector UInt8 16) × Int) (Vector UInt8 16)) :=
 if (decide (s12.2 < 16)) = true then ((ZH p0 s12.2).bind fun x17=>(ZH p1 (bI x17)).bind fun x21=>(ZH s12.1 s12.2).bind fun x24=>some (Fl.nx ((s12.1.setIfInBounds (s12.2).toNat x21),wr (s12.2 + 1)))) else (some (Fl.ex s12.1))
def WY (p0 : (Vector UInt8 16)) (p1 : (Vector UInt8 16)) : Option ((Vector UInt8 16)) :=
 (ZB (Xu p0 p1) ((Vector.replicate 16 (0 : UInt8)),0)).bind fun j9=>some j9
theorem Jl (w0 : World) (p0 : (Vector UInt8 16)) (p1 : (Vector UInt8 16)) (r : (Vector UInt8 16)) (hF : WY p0 p1 = some r) :
  Calls Tryz.prog 235 [(Value.agg (enc p0).toArray),(Value.agg (enc p1).toArray)].toArray w0 (Rt w0 (Value.agg (enc r).toArray)):=by
 refine ce Tryz.func235 ?_
 intro a hE
 have hM:=M.start w0
 unfold WY at hF
 refine Zb (ZV (cs:=enc p0) hE hM Za ld rfl rfl fun b1 w a hM hE=>ZV (cs:=enc p1) hE hM Za ld rfl rfl fun b3 w a hM hE=>ZA hE hM ZG fun b5 w a hM hE=>Ze (Zb (XF (parts:=[]) (vs:=[]) (cs:=enc (Vector.replicate 16 (0 : UInt8))) hE Za ld rfl rfl ZG rfl ty5 YZ fun a hE=>ZA hE hM ZG fun b7 w a hM hE=>Zk (seg:=enc (Vector.replicate 16 (0 : UInt8))) (cs':=enc (Vector.replicate 16 (0 : UInt8))) hE hM Za rfl rfl rfl ZG (Flat.len _) (zle flq) (Flat.cell _) (Zi flq) fun w a hM hE=>Ze (wp_seq (Zb (Zn hE rfl Qe rfl hM.rawAt3 (Flat.len _) fun a hE=>Zd hE rfl fun a hE=>Ze ?_))))))
 obtain ⟨j9,hl10,hF11⟩:=bind_some hF
 refine ZI (fun a w=>Env 21 a [(4,(ptr b5 0)),(5,(ptr b7 0))] ∧ M (Old w0) w0 w [raw b7 (enc j9),raw b5 (enc (Vector.replicate 16 (0 : UInt8)))]) ?_ ?_
 ·skip
  refine wp_block ?_
  have hM:=M.fst (l:=[_,_,_]) hM.pull2.pull2.pull2
  refine ZD (fun (s12 : (Vector UInt8 16) × Int) a w=>Env 21 a [(3,(ptr b3 0)),(4,(ptr b5 0)),(5,(ptr b7 0)),(9,(Value.agg (enc p0).toArray)),(10,vI s12.2)] ∧ M (Old w0) w0 w [raw b7 (enc s12.1),raw b5 (enc (Vector.replicate 16 (0 : UInt8))),raw b3 (enc p1)]) hl10 ⟨hE.sub ⟨rfl,rfl,rfl,rfl,rfl,trivial⟩,hM⟩ ?_
  rintro s12 a w ⟨hE,hM⟩ o15 hs13 hx14
  unfold Xu at hs13
  refine Zb (Zg hE rfl rfl rfl fun a hE=>Ze (wp_seq ?_))
  refine Zm hE rfl ?_ ?_
  ·intro hb16
   have hs13:=Zt hs13 hb16
   refine wp_skip (Zq (wp_seq (wp_block (Zb (Zd hE rfl ?_))))); intro a hE
   obtain ⟨x17,hi19,hs13⟩:=bvx hs13
   refine Kt hE Za ld rfl rfl Tryz.underlying161 ty5 rfl rfl hi19 rfl fun a hE=>Zc hE rfl fun a hE=>Zc hE rfl fun a hE=>Ze (wp_region_lit (Zd hE rfl fun a hE=>Zd hE rfl ?_)); intro a hE
   obtain ⟨x21,hi20,hs13⟩:=bvx hs13
   refine ZC hE rfl rfl Tryz.underlying68 ty5 hi20.1 fun a hE=>Zw (v:=(vB x21)) hE rfl ty5 rfl (At.vec hM.rawAt2 hi20.2) ?_; intro a hE
   obtain ⟨x24,hi23,hs13⟩:=bvx hs13
   refine ZC hE rfl rfl Tryz.underlying68 ty5 hi23.1 fun a hE=>Zk (seg:=[vB x21]) (cs':=enc (s12.1.setIfInBounds (s12.2).toNat x21)) hE hM Za rfl rfl rfl ty5 rfl (ZK (v:=s12.1) (x:=x21) hi23.1) (Flat.cell (x21 : UInt8)) (ZE (v:=s12.1) (x:=x21) hi23.1) fun w a hM hE=>Zh (Z2 (Zq (wp_region_lit (Zg hE rfl rfl rfl fun a hE=>Zd hE rfl fun a hE=>Zh (Zj ?_)))))
   exact ⟨_,(ois hs13),hE.sub ⟨rfl,rfl,rfl,rfl,rfl,trivial⟩,hM⟩
  ·intro hb16
   have hs13:=Zu hs13 hb16
   refine wp_exit (Zl (Zl (Z3 ?_)))
   obtain rfl:=hx14 _ (ois hs13)
   refine Zj ?_
   have hM:=M.fst (l:=[_,_]) hM.pull1.pull1
   exact ⟨hE.sub ⟨rfl,rfl,trivial⟩,hM⟩
 ·skip
  rintro a w ⟨hE,hM⟩
  refine Zq (Zb (Zn hE rfl ZG rfl hM.rawAt0 (Flat.len _) ?_)); intro a hE
  have hM:=hM.pull1
  refine Zk (seg:=enc j9) (cs':=enc j9) hE hM Za rfl rfl rfl ZG (Flat.len _) (zle flq) (Flat.cell _) (Zi flq) fun w a hM hE=>Ze ?_
  obtain rfl:=Option.some.inj hF11
  have hq27 : Yu Tryz.prog _ _ (.cell 4 68) _:=ZJ hE rfl ZG rfl hM.rawAt0 (Flat.len _) rfl
  exact wp_ret (ZL hE rfl hq27 ⟨_,rfl,rfl,hM.kept⟩)
def Wd (p0 : (Ref (Vector (Vector (Vector UInt8 256) 4) 4))) (s4 : (Vector UInt8 16) × Int) (j9 : UInt8 × UInt8 × UInt8 × UInt8) (s29 : (Vector UInt8 16) × Int) : Option (Fl ((Vector UInt8 16) × Int) (Vector UInt8 16)) :=
 if (decide (s29.2 < 4)) = true then ((ZH p0.v s29.2).bind fun x42=>(ZH x42 (0 : Int)).bind fun x45=>(ZH x45 (bI j9.1)).bind fun x48=>(ZH p0.v s29.2).bind fun x57=>(ZH x57 (1 : Int)).bind fun x60=>(ZH x60 (bI j9.2.1)).bind fun x63=>(ZH p0.v s29.2).bind fun x72=>(ZH x72 (2 : Int)).bind fun x75=>(ZH x75 (bI j9.2.2.1)).bind fun x78=>(ZH p0.v s29.2).bind fun x87=>(ZH x87 (3 : Int)).bind fun x90=>(ZH x90 (bI j9.2.2.2)).bind fun x93=>(ZH s29.1 (wr (s4.2 + s29.2))).bind fun x95=>some (Fl.nx ((s29.1.setIfInBounds ((wr (s4.2 + s29.2))).toNat (((x48 ^^^ x63) ^^^ x78) ^^^ x93)),wr (s29.2 + 1)))) else (some (Fl.ex s29.1))
def X6 (p0 : (Ref (Vector (Vector (Vector UInt8 256) 4) 4))) (s4 : (Vector UInt8 16) × Int) : Option (Fl ((Vector UInt8 16) × Int) (Vector UInt8 16)) :=
 if (decide (s4.2 < (s4.1.toList.length : Int))) = true then (((ZH s4.1 s4.2).bind fun x13=>(ZH s4.1 (wr (s4.2 + 1))).bind fun x16=>(ZH s4.1 (wr (s4.2 + 2))).bind fun x19=>(ZH s4.1 (wr (s4.2 + 3))).bind fun x22=>some (x13,x16,x19,x22) : Option (UInt8 × UInt8 × UInt8 × UInt8)).bind fun j9=>(ZB (Wd p0 s4 j9) (s4.1,0)).bind fun j26=>some (Fl.nx (j26,wr (s4.2 + 4)))) else (some (Fl.ex s4.1))
def VK (p0 : (Ref (Vector (Vector (Vector UInt8 256) 4) 4))) (p1 : (Vector UInt8 16)) : Option ((Vector UInt8 16)) :=
 (ZB (X6 p0) (p1,0)).bind fun j1=>some j1
theorem HO (St : Nat → Prop) (W w0 : World) (its : List Item) (p0 : (Ref (Vector (Vector (Vector UInt8 256) 4) 4))) (v0_1 : Value) (hv0_1 : Rep.sat St W p0 [v0_1] []) (pb1 : Nat) (p1 : (Vector UInt8 16)) (hM : M St W w0 (raw pb1 (enc p1) :: its)) (r : (Vector UInt8 16)) (hF : VK p0 p1 = some r) :
  Calls Tryz.prog 236 [v0_1,(Value.slice (some ⟨pb1,0,none⟩) 16 16)].toArray w0 (fun en w'=>∃ v,en = .returned v ∧ (v = (Value.tuple [].toArray) ∧ M St W w' (raw pb1 (enc r) :: its))):=by
 refine ce Tryz.func236 ?_
 intro a hE
 unfold VK at hF
 refine Zb (Zc hE rfl fun a hE=>Ze ?_)
 obtain ⟨j1,hl2,hF3⟩:=bind_some hF
 refine ZI (fun a w=>Env 79 a [(1,(Value.slice (some ⟨pb1,0,none⟩) 16 16))] ∧ M St W w (raw pb1 (enc j1) :: its)) ?_ ?_
 ·skip
  refine wp_block ?_
  refine ZD (fun (s4 : (Vector UInt8 16) × Int) a w=>Env 79 a [(0,v0_1),(1,(Value.slice (some ⟨pb1,0,none⟩) 16 16)),(4,vI s4.2)] ∧ M St W w (raw pb1 (enc s4.1) :: its)) hl2 ⟨hE.sub ⟨rfl,rfl,rfl,trivial⟩,hM⟩ ?_
  rintro s4 a w ⟨hE,hM⟩ o7 hs5 hx6
  unfold X6 at hs5
  refine wp_seq (Zb (Zd hE rfl fun a hE=>Zd hE rfl fun a hE=>Yb hE rfl Tryz.underlying40 (qh hM.rawAt0) fun a hE=>Zg hE rfl rfl rfl fun a hE=>Ze ?_))
  refine Zm hE rfl ?_ ?_
  ·intro hb8
   have hs5:=Zt hs5 hb8
   refine wp_skip (Zq (wp_seq (wp_block ?_)))
   obtain ⟨j9,hl10,hF11⟩:=bind_some hs5
   refine ZQ (fun a w=>Env 79 a [(0,v0_1),(1,(Value.slice (some ⟨pb1,0,none⟩) 16 16)),(4,vI s4.2),(5,vB j9.1),(6,vB j9.2.1),(7,vB j9.2.2.1),(8,vB j9.2.2.2)] ∧ M St W w (raw pb1 (enc s4.1) :: its)) ?_ ?_
   ·skip
    obtain ⟨x13,hi15,hl10⟩:=bvx hl10
    obtain ⟨x16,hi18,hl10⟩:=bvx hl10
    obtain ⟨x19,hi21,hl10⟩:=bvx hl10
    obtain ⟨x22,hi24,hl10⟩:=bvx hl10
    refine Zap (n:=79) (hd:=[_,_,_,_,_,_,_,_,_,_,_,_,_,_,_,_,_,_,_,_,_,_,_]) (tl:=[]) Y4 rfl rfl [16,17,18,19,20,21,22,23,24,25,26,27,28,29,30,31,32,33,34,5,6,7,8] (by decide) (fun w=>M St W w (raw pb1 (enc s4.1) :: its)) (fun j=>([fun v _=>v = (Value.slice (some ⟨pb1,0,none⟩) 16 16),fun v _=>v = (vI s4.2),fun v _=>v = (ptr pb1 (0 + (s4.2).toNat * 1)),fun v _=>v = (vB x13),fun v _=>v = (Value.slice (some ⟨pb1,0,none⟩) 16 16),fun v _=>v = (vI s4.2),fun v _=>v = (vI (wr (s4.2 + 1))),fun v _=>v = (ptr pb1 (0 + ((wr (s4.2 + 1))).toNat * 1)),fun v _=>v = (vB x16),fun v _=>v = (Value.slice (some ⟨pb1,0,none⟩) 16 16),fun v _=>v = (vI s4.2),fun v _=>v = (vI (wr (s4.2 + 2))),fun v _=>v = (ptr pb1 (0 + ((wr (s4.2 + 2))).toNat * 1)),fun v _=>v = (vB x19),fun v _=>v = (Value.slice (some ⟨pb1,0,none⟩) 16 16),fun v _=>v = (vI s4.2),fun v _=>v = (vI (wr (s4.2 + 3))),fun v _=>v = (ptr pb1 (0 + ((wr (s4.2 + 3))).toNat * 1)),fun v _=>v = (vB x22),fun v _=>v = (vB x13),fun v _=>v = (vB x16),fun v _=>v = (vB x19),fun v _=>v = (vB x22)] : List (Value → World → Prop)).getD j (fun _ _=>True)) (fun _ _ h hk=>h.keep hk) (gup gu23) hE hM.drew (st23 ?_ ?_ ?_ ?_ ?_ ?_ ?_ ?_ ?_ ?_ ?_ ?_ ?_ ?_ ?_ ?_ ?_ ?_ ?_ ?_ ?_ ?_ ?_) ?_
    ·exact qm
    ·exact qm
    ·intro a w ux12 hE hM hp
     have f0 : ux12 0 = (Value.slice (some ⟨pb1,0,none⟩) 16 16):=hp 0 _ rfl rfl
     have f1 : ux12 1 = (vI s4.2):=hp 1 _ rfl rfl
     exact T4 hE Za ld (lk rfl f0) (lk rfl f1) Tryz.underlying40 ty5 hi15.1 fun a hE=>kq rfl hE rfl
    ·intro a w ux12 hE hM hp
     have f2 : ux12 2 = (ptr pb1 (0 + (s4.2).toNat * 1)):=hp 0 _ rfl rfl
     exact Zw (v:=(vB x13)) hE (lk rfl f2) ty5 rfl (At.vec hM.rawAt0 hi15.2) fun a hE=>kq rfl hE rfl
    ·exact qm
    ·exact qm
    ·intro a w ux12 hE hM hp
     have f5 : ux12 5 = (vI s4.2):=hp 0 _ rfl rfl
     exact Zg hE (lk rfl f5) rfl rfl fun a hE=>kq rfl hE rfl
    ·intro a w ux12 hE hM hp
     have f4 : ux12 4 = (Value.slice (some ⟨pb1,0,none⟩) 16 16):=hp 0 _ rfl rfl
     have f6 : ux12 6 = (vI (wr (s4.2 + 1))):=hp 1 _ rfl rfl
     exact T4 hE Za ld (lk rfl f4) (lk rfl f6) Tryz.underlying40 ty5 hi18.1 fun a hE=>kq rfl hE rfl
    ·intro a w ux12 hE hM hp
     have f7 : ux12 7 = (ptr pb1 (0 + ((wr (s4.2 + 1))).toNat * 1)):=hp 0 _ rfl rfl
     exact Zw (v:=(vB x16)) hE (lk rfl f7) ty5 rfl (At.vec hM.rawAt0 hi18.2) fun a hE=>kq rfl hE rfl
    ·exact qm
    ·exact qm
    ·intro a w ux12 hE hM hp
     have f10 : ux12 10 = (vI s4.2):=hp 0 _ rfl rfl
     exact Zg hE (lk rfl f10) rfl rfl fun a hE=>kq rfl hE rfl
    ·intro a w ux12 hE hM hp
     have f9 : ux12 9 = (Value.slice (some ⟨pb1,0,none⟩) 16 16):=hp 0 _ rfl rfl
     have f11 : ux12 11 = (vI (wr (s4.2 + 2))):=hp 1 _ rfl rfl
     exact T4 hE Za ld (lk rfl f9) (lk rfl f11) Tryz.underlying40 ty5 hi21.1 fun a hE=>kq rfl hE rfl
    ·intro a w ux12 hE hM hp
     have f12 : ux12 12 = (ptr pb1 (0 + ((wr (s4.2 + 2))).toNat * 1)):=hp 0 _ rfl rfl
     exact Zw (v:=(vB x19)) hE (lk rfl f12) ty5 rfl (At.vec hM.rawAt0 hi21.2) fun a hE=>kq rfl hE rfl
    ·exact qm
    ·exact qm
    ·intro a w ux12 hE hM hp
     have f15 : ux12 15 = (vI s4.2):=hp 0 _ rfl rfl
     exact Zg hE (lk rfl f15) rfl rfl fun a hE=>kq rfl hE rfl
    ·intro a w ux12 hE hM hp
     have f14 : ux12 14 = (Value.slice (some ⟨pb1,0,none⟩) 16 16):=hp 0 _ rfl rfl
     have f16 : ux12 16 = (vI (wr (s4.2 + 3))):=hp 1 _ rfl rfl
     exact T4 hE Za ld (lk rfl f14) (lk rfl f16) Tryz.underlying40 ty5 hi24.1 fun a hE=>kq rfl hE rfl
    ·intro a w ux12 hE hM hp
     have f17 : ux12 17 = (ptr pb1 (0 + ((wr (s4.2 + 3))).toNat * 1)):=hp 0 _ rfl rfl
     exact Zw (v:=(vB x22)) hE (lk rfl f17) ty5 rfl (At.vec hM.rawAt0 hi24.2) fun a hE=>kq rfl hE rfl
    ·intro a w ux12 hE hM hp
     have f3 : ux12 3 = (vB x13):=hp 0 _ rfl rfl
     exact Zc hE (lk rfl f3) fun a hE=>kq rfl hE rfl
    ·intro a w ux12 hE hM hp
     have f8 : ux12 8 = (vB x16):=hp 0 _ rfl rfl
     exact Zc hE (lk rfl f8) fun a hE=>kq rfl hE rfl
    ·intro a w ux12 hE hM hp
     have f13 : ux12 13 = (vB x19):=hp 0 _ rfl rfl
     exact Zc hE (lk rfl f13) fun a hE=>kq rfl hE rfl
    ·intro a w ux12 hE hM hp
     have f18 : ux12 18 = (vB x22):=hp 0 _ rfl rfl
     exact Zc hE (lk rfl f18) fun a hE=>kq rfl hE rfl
    ·intro a w ux12 hE hM hg
     have hE:=hE.sub (e':=[(5,vB x13),(6,vB x16),(7,vB x19),(8,vB x22),(0,v0_1),(1,(Value.slice (some ⟨pb1,0,none⟩) 16 16)),(4,vI s4.2),(10,vI s4.2),(11,(Value.slice (some ⟨pb1,0,none⟩) 16 16)),(12,(vI (s4.1.toList.length : Int))),(13,(vT (decide (s4.2 < (s4.1.toList.length : Int)))))]) ⟨lk rfl (hg 19 (by decide)),lk rfl (hg 20 (by decide)),lk rfl (hg 21 (by decide)),lk rfl (hg 22 (by decide)),rfl,rfl,rfl,rfl,rfl,rfl,rfl,trivial⟩
     refine Zh ?_
     obtain rfl:=Option.some.inj hl10
     refine Zj ?_
     exact ⟨hE.sub ⟨rfl,rfl,rfl,rfl,rfl,rfl,rfl,trivial⟩,hM⟩
   ·skip
    rintro a w ⟨hE,hM⟩
    refine Zb (Zd hE rfl fun a hE=>Ze ?_)
    obtain ⟨j26,hl27,hF28⟩:=bind_some hF11
    refine ZI (fun a w=>Env 79 a [(0,v0_1),(1,(Value.slice (some ⟨pb1,0,none⟩) 16 16)),(4,vI s4.2)] ∧ M St W w (raw pb1 (enc j26) :: its)) ?_ ?_
    ·skip
     refine wp_block ?_
     refine ZD (fun (s29 : (Vector UInt8 16) × Int) a w=>Env 79 a [(0,v0_1),(1,(Value.slice (some ⟨pb1,0,none⟩) 16 16)),(4,vI s4.2),(5,vB j9.1),(6,vB j9.2.1),(7,vB j9.2.2.1),(8,vB j9.2.2.2),(35,vI s29.2)] ∧ M St W w (raw pb1 (enc s29.1) :: its)) hl27 ⟨hE.sub ⟨rfl,rfl,rfl,rfl,rfl,rfl,rfl,rfl,trivial⟩,hM⟩ ?_
     rintro s29 a w ⟨hE,hM⟩ o32 hs30 hx31
     unfold Wd at hs30
     refine Zb (Zg hE rfl rfl rfl fun a hE=>Ze (wp_seq ?_))
     refine Zm hE rfl ?_ ?_
     ·intro hb33
      have hs30:=Zt hs30 hb33
      refine wp_skip (Zq (wp_seq (wp_block (Zb (Zd hE rfl fun a hE=>Zc hE rfl fun a hE=>Ze ?_)))))
      obtain ⟨pb35,ds36,hv37,hx38,hA39,hB40⟩:=Tt hv0_1 -- ^
      obtain ⟨rfl,_⟩:=Tv.1 hx38 -- ^
      obtain ⟨x42,hi41,hs30⟩:=bvx hs30
      obtain ⟨x45,hi44,hs30⟩:=bvx hs30
      obtain ⟨x48,hi47,hs30⟩:=bvx hs30
      obtain ⟨pb50,ds51,hv52,hx53,hA54,hB55⟩:=Tt hv0_1 -- ^
      obtain ⟨rfl,_⟩:=Tv.1 hx53 -- ^
      obtain ⟨x57,hi56,hs30⟩:=bvx hs30
      obtain ⟨x60,hi59,hs30⟩:=bvx hs30
      obtain ⟨x63,hi62,hs30⟩:=bvx hs30
      obtain ⟨pb65,ds66,hv67,hx68,hA69,hB70⟩:=Tt hv0_1 -- ^
      obtain ⟨rfl,_⟩:=Tv.1 hx68 -- ^
      obtain ⟨x72,hi71,hs30⟩:=bvx hs30
      obtain ⟨x75,hi74,hs30⟩:=bvx hs30
      obtain ⟨x78,hi77,hs30⟩:=bvx hs30
      obtain ⟨pb80,ds81,hv82,hx83,hA84,hB85⟩:=Tt hv0_1 -- ^
      obtain ⟨rfl,_⟩:=Tv.1 hx83 -- ^
      obtain ⟨x87,hi86,hs30⟩:=bvx hs30
      obtain ⟨x90,hi89,hs30⟩:=bvx hs30
      obtain ⟨x93,hi92,hs30⟩:=bvx hs30
      obtain ⟨x95,hi97,hs30⟩:=bvx hs30
      refine Zap (n:=79) (hd:=[_,_,_,_,_,_,_,_,_,_,_,_,_,_,_,_,_,_,_,_,_,_,_,_,_,_,_,_,_,_,_,_,_,_,_,_,_,_,_,_]) (tl:=[_]) Y4 rfl rfl [38,39,40,41,42,43,44,45,46,47,48,49,50,51,52,53,54,55,56,57,58,59,60,61,62,63,64,65,66,67,68,69,70,71,72,73,74,75,76,77] (by decide) (fun w=>M St W w (raw pb1 (enc s29.1) :: its)) (fun j=>([fun v _=>v = (Value.slice (some ⟨pb1,0,none⟩) 16 16),fun v _=>v = (vI s4.2),fun v _=>v = (vI s29.2),fun v _=>v = (vI (wr (s4.2 + s29.2))),fun v _=>v = v0_1,fun v _=>v = (vI s29.2),fun v _=>v = (vB j9.1),fun v _=>v = (ptr pb35 0),fun v _=>v = (ptr pb35 (0 + (s29.2).toNat * 1024)),fun v _=>v = (ptr pb35 (0 + (s29.2).toNat * 1024 + ((0 : Int)).toNat * 256)),fun v _=>v = (ptr pb35 (0 + (s29.2).toNat * 1024 + ((0 : Int)).toNat * 256 + ((bI j9.1)).toNat * 1)),fun v _=>v = (vB x48),fun v _=>v = v0_1,fun v _=>v = (vI s29.2),fun v _=>v = (vB j9.2.1),fun v _=>v = (ptr pb50 0),fun v _=>v = (ptr pb50 (0 + (s29.2).toNat * 1024)),fun v _=>v = (ptr pb50 (0 + (s29.2).toNat * 1024 + ((1 : Int)).toNat * 256)),fun v _=>v = (ptr pb50 (0 + (s29.2).toNat * 1024 + ((1 : Int)).toNat * 256 + ((bI j9.2.1)).toNat * 1)),fun v _=>v = (vB x63),fun v _=>v = (vB (x48 ^^^ x63)),fun v _=>v = v0_1,fun v _=>v = (vI s29.2),fun v _=>v = (vB j9.2.2.1),fun v _=>v = (ptr pb65 0),fun v _=>v = (ptr pb65 (0 + (s29.2).toNat * 1024)),fun v _=>v = (ptr pb65 (0 + (s29.2).toNat * 1024 + ((2 : Int)).toNat * 256)),fun v _=>v = (ptr pb65 (0 + (s29.2).toNat * 1024 + ((2 : Int)).toNat * 256 + ((bI j9.2.2.1)).toNat * 1)),fun v _=>v = (vB x78),fun v _=>v = (vB ((x48 ^^^ x63) ^^^ x78)),fun v _=>v = v0_1,fun v _=>v = (vI s29.2),fun v _=>v = (vB j9.2.2.2),fun v _=>v = (ptr pb80 0),fun v _=>v = (ptr pb80 (0 + (s29.2).toNat * 1024)),fun v _=>v = (ptr pb80 (0 + (s29.2).toNat * 1024 + ((3 : Int)).toNat * 256)),fun v _=>v = (ptr pb80 (0 + (s29.2).toNat * 1024 + ((3 : Int)).toNat * 256 + ((bI j9.2.2.2)).toNat * 1)),fun v _=>v = (vB x93),fun v _=>v = (vB (((x48 ^^^ x63) ^^^ x78) ^^^ x93)),fun v _=>v = (ptr pb1 (0 + ((wr (s4.2 + s29.2))).toNat * 1))] : List (Value → World → Prop)).getD j (fun _ _=>True)) (fun _ _ h hk=>h.keep hk) (gup (Y7 (Y7 (Y7 (Y7 (Y7 (Y7 (Y7 (Y7 (Y7 (Y7 (Y7 (Y7 (Y7 (Y7 (Y7 (Y7 (Y7 (Y7 (Y7 (Y7 (Y7 (Y7 (Y7 (Y7 (Y7 (Y7 (Y7 (Y7 (Y7 (Y7 (Y7 (Y7 (Y7 (Y7 (Y7 (Y7 (Y7 (Y7 (Y7 (Y7 gupN))))))))))))))))))))))))))))))))))))))))) hE hM.drew (yP (Zz ?_ (Zz ?_ (Zz ?_ (Zz ?_ (Zz ?_ (Zz ?_ (Zz ?_ (Zz ?_ (Zz ?_ (Zz ?_ (Zz ?_ (Zz ?_ (Zz ?_ (Zz ?_ (Zz ?_ (Zz ?_ (Zz ?_ (Zz ?_ (Zz ?_ (Zz ?_ (Zz ?_ (Zz ?_ (Zz ?_ (Zz ?_ (Zz ?_ (Zz ?_ (Zz ?_ (Zz ?_ (Zz ?_ (Zz ?_ (Zz ?_ (Zz ?_ (Zz ?_ (Zz ?_ (Zz ?_ (Zz ?_ (Zz ?_ (Zz ?_ (Zz ?_ (Zz ?_ A8))))))))))))))))))))))))))))))))))))))))) ?_
      ·exact qm
      ·exact qm
      ·exact qm
      ·intro a w ux34 hE hM hp
       have f1 : ux34 1 = (vI s4.2):=hp 0 _ rfl rfl
       have f2 : ux34 2 = (vI s29.2):=hp 1 _ rfl rfl
       exact Zg hE (lk rfl f1) (lk rfl f2) rfl fun a hE=>kq rfl hE rfl
      ·exact qm
      ·exact qm
      ·exact qm
      ·intro a w ux34 hE hM hp
       have f4 : ux34 4 = v0_1:=hp 0 _ rfl rfl
       exact Wi hE Za ld (lk (lk rfl f4) hv37) fun a hE=>kq rfl hE rfl
      ·intro a w ux34 hE hM hp
       have f5 : ux34 5 = (vI s29.2):=hp 1 _ rfl rfl
       have f7 : ux34 7 = (ptr pb35 0):=hp 0 _ rfl rfl
       exact ZC hE (lk rfl f7) (lk rfl f5) Tryz.underlying265 BY hi41.1 fun a hE=>kq rfl hE rfl
      ·intro a w ux34 hE hM hp
       have f8 : ux34 8 = (ptr pb35 (0 + (s29.2).toNat * 1024)):=hp 0 _ rfl rfl
       exact ZC hE (lk rfl f8) rfl Tryz.underlying263 zf hi44.1 fun a hE=>kq rfl hE rfl
      ·intro a w ux34 hE hM hp
       have f6 : ux34 6 = (vB j9.1):=hp 1 _ rfl rfl
       have f9 : ux34 9 = (ptr pb35 (0 + (s29.2).toNat * 1024 + ((0 : Int)).toNat * 256)):=hp 0 _ rfl rfl
       exact ZC hE (lk rfl f9) (lk rfl f6) Tryz.underlying156 ty5 hi47.1 fun a hE=>kq rfl hE rfl
      ·intro a w ux34 hE hM hp
       have f10 : ux34 10 = (ptr pb35 (0 + (s29.2).toNat * 1024 + ((0 : Int)).toNat * 256 + ((bI j9.1)).toNat * 1)):=hp 0 _ rfl rfl
       exact Zw (v:=(vB x48)) hE (lk rfl f10) ty5 rfl (At.vec (At.vec (At.vec (hM.atk hA39 hB40) hi41.2) hi44.2) hi47.2) fun a hE=>kq rfl hE rfl
      ·exact qm
      ·exact qm
      ·exact qm
      ·intro a w ux34 hE hM hp
       have f12 : ux34 12 = v0_1:=hp 0 _ rfl rfl
       exact Wi hE Za ld (lk (lk rfl f12) hv52) fun a hE=>kq rfl hE rfl
      ·intro a w ux34 hE hM hp
       have f13 : ux34 13 = (vI s29.2):=hp 1 _ rfl rfl
       have f15 : ux34 15 = (ptr pb50 0):=hp 0 _ rfl rfl
       exact ZC hE (lk rfl f15) (lk rfl f13) Tryz.underlying265 BY hi56.1 fun a hE=>kq rfl hE rfl
      ·intro a w ux34 hE hM hp
       have f16 : ux34 16 = (ptr pb50 (0 + (s29.2).toNat * 1024)):=hp 0 _ rfl rfl
       exact ZC hE (lk rfl f16) rfl Tryz.underlying263 zf hi59.1 fun a hE=>kq rfl hE rfl
      ·intro a w ux34 hE hM hp
       have f14 : ux34 14 = (vB j9.2.1):=hp 1 _ rfl rfl
       have f17 : ux34 17 = (ptr pb50 (0 + (s29.2).toNat * 1024 + ((1 : Int)).toNat * 256)):=hp 0 _ rfl rfl
       exact ZC hE (lk rfl f17) (lk rfl f14) Tryz.underlying156 ty5 hi62.1 fun a hE=>kq rfl hE rfl
      ·intro a w ux34 hE hM hp
       have f18 : ux34 18 = (ptr pb50 (0 + (s29.2).toNat * 1024 + ((1 : Int)).toNat * 256 + ((bI j9.2.1)).toNat * 1)):=hp 0 _ rfl rfl
       exact Zw (v:=(vB x63)) hE (lk rfl f18) ty5 rfl (At.vec (At.vec (At.vec (hM.atk hA54 hB55) hi56.2) hi59.2) hi62.2) fun a hE=>kq rfl hE rfl
      ·intro a w ux34 hE hM hp
       have f11 : ux34 11 = (vB x48):=hp 0 _ rfl rfl
       have f19 : ux34 19 = (vB x63):=hp 1 _ rfl rfl
       exact Zg hE (lk rfl f11) (lk rfl f19) (Uy x48 x63) fun a hE=>kq rfl hE rfl
      ·exact qm
      ·exact qm
      ·exact qm
      ·intro a w ux34 hE hM hp
       have f21 : ux34 21 = v0_1:=hp 0 _ rfl rfl
       exact Wi hE Za ld (lk (lk rfl f21) hv67) fun a hE=>kq rfl hE rfl
      ·intro a w ux34 hE hM hp
       have f22 : ux34 22 = (vI s29.2):=hp 1 _ rfl rfl
       have f24 : ux34 24 = (ptr pb65 0):=hp 0 _ rfl rfl
       exact ZC hE (lk rfl f24) (lk rfl f22) Tryz.underlying265 BY hi71.1 fun a hE=>kq rfl hE rfl
      ·intro a w ux34 hE hM hp
       have f25 : ux34 25 = (ptr pb65 (0 + (s29.2).toNat * 1024)):=hp 0 _ rfl rfl
       exact ZC hE (lk rfl f25) rfl Tryz.underlying263 zf hi74.1 fun a hE=>kq rfl hE rfl
      ·intro a w ux34 hE hM hp
       have f23 : ux34 23 = (vB j9.2.2.1):=hp 1 _ rfl rfl
       have f26 : ux34 26 = (ptr pb65 (0 + (s29.2).toNat * 1024 + ((2 : Int)).toNat * 256)):=hp 0 _ rfl rfl
       exact ZC hE (lk rfl f26) (lk rfl f23) Tryz.underlying156 ty5 hi77.1 fun a hE=>kq rfl hE rfl
      ·intro a w ux34 hE hM hp
       have f27 : ux34 27 = (ptr pb65 (0 + (s29.2).toNat * 1024 + ((2 : Int)).toNat * 256 + ((bI j9.2.2.1)).toNat * 1)):=hp 0 _ rfl rfl
       exact Zw (v:=(vB x78)) hE (lk rfl f27) ty5 rfl (At.vec (At.vec (At.vec (hM.atk hA69 hB70) hi71.2) hi74.2) hi77.2) fun a hE=>kq rfl hE rfl
      ·intro a w ux34 hE hM hp
       have f20 : ux34 20 = (vB (x48 ^^^ x63)):=hp 0 _ rfl rfl
       have f28 : ux34 28 = (vB x78):=hp 1 _ rfl rfl
       exact Zg hE (lk rfl f20) (lk rfl f28) (Uy (x48 ^^^ x63) x78) fun a hE=>kq rfl hE rfl
      ·exact qm
      ·exact qm
      ·exact qm
      ·intro a w ux34 hE hM hp
       have f30 : ux34 30 = v0_1:=hp 0 _ rfl rfl
       exact Wi hE Za ld (lk (lk rfl f30) hv82) fun a hE=>kq rfl hE rfl
      ·intro a w ux34 hE hM hp
       have f31 : ux34 31 = (vI s29.2):=hp 1 _ rfl rfl
       have f33 : ux34 33 = (ptr pb80 0):=hp 0 _ rfl rfl
       exact ZC hE (lk rfl f33) (lk rfl f31) Tryz.underlying265 BY hi86.1 fun a hE=>kq rfl hE rfl
      ·intro a w ux34 hE hM hp
       have f34 : ux34 34 = (ptr pb80 (0 + (s29.2).toNat * 1024)):=hp 0 _ rfl rfl
       exact ZC hE (lk rfl f34) rfl Tryz.underlying263 zf hi89.1 fun a hE=>kq rfl hE rfl
      ·intro a w ux34 hE hM hp
       have f32 : ux34 32 = (vB j9.2.2.2):=hp 1 _ rfl rfl
       have f35 : ux34 35 = (ptr pb80 (0 + (s29.2).toNat * 1024 + ((3 : Int)).toNat * 256)):=hp 0 _ rfl rfl
       exact ZC hE (lk rfl f35) (lk rfl f32) Tryz.underlying156 ty5 hi92.1 fun a hE=>kq rfl hE rfl
      ·intro a w ux34 hE hM hp
       have f36 : ux34 36 = (ptr pb80 (0 + (s29.2).toNat * 1024 + ((3 : Int)).toNat * 256 + ((bI j9.2.2.2)).toNat * 1)):=hp 0 _ rfl rfl
       exact Zw (v:=(vB x93)) hE (lk rfl f36) ty5 rfl (At.vec (At.vec (At.vec (hM.atk hA84 hB85) hi86.2) hi89.2) hi92.2) fun a hE=>kq rfl hE rfl
      ·intro a w ux34 hE hM hp
       have f29 : ux34 29 = (vB ((x48 ^^^ x63) ^^^ x78)):=hp 0 _ rfl rfl
       have f37 : ux34 37 = (vB x93):=hp 1 _ rfl rfl
       exact Zg hE (lk rfl f29) (lk rfl f37) (Uy ((x48 ^^^ x63) ^^^ x78) x93) fun a hE=>kq rfl hE rfl
      ·intro a w ux34 hE hM hp
       have f0 : ux34 0 = (Value.slice (some ⟨pb1,0,none⟩) 16 16):=hp 0 _ rfl rfl
       have f3 : ux34 3 = (vI (wr (s4.2 + s29.2))):=hp 1 _ rfl rfl
       exact T4 hE Za ld (lk rfl f0) (lk rfl f3) Tryz.underlying40 ty5 hi97.1 fun a hE=>kq rfl hE rfl
      ·intro a w ux34 hE hM hg
       have hE:=hE.sub (e':=[(76,(vB (((x48 ^^^ x63) ^^^ x78) ^^^ x93))),(77,(ptr pb1 (0 + ((wr (s4.2 + s29.2))).toNat * 1))),(0,v0_1),(1,(Value.slice (some ⟨pb1,0,none⟩) 16 16)),(4,vI s4.2),(5,vB j9.1),(6,vB j9.2.1),(7,vB j9.2.2.1),(8,vB j9.2.2.2),(9,vI s29.2),(35,vI s29.2),(36,(vT (decide (s29.2 < 4)))),(37,vI s29.2)]) ⟨lk rfl (hg 38 (by decide)),lk rfl (hg 39 (by decide)),rfl,rfl,rfl,rfl,rfl,rfl,rfl,rfl,rfl,rfl,rfl,trivial⟩
       refine Zk (seg:=[(vB (((x48 ^^^ x63) ^^^ x78) ^^^ x93))]) (cs':=enc (s29.1.setIfInBounds ((wr (s4.2 + s29.2))).toNat (((x48 ^^^ x63) ^^^ x78) ^^^ x93))) hE hM Za rfl rfl rfl ty5 rfl (ZK (v:=s29.1) (x:=((x48 ^^^ x63) ^^^ x78) ^^^ x93) hi97.1) (Flat.cell (((x48 ^^^ x63) ^^^ x78) ^^^ x93 : UInt8)) (ZE (v:=s29.1) (x:=((x48 ^^^ x63) ^^^ x78) ^^^ x93) hi97.1) fun w a hM hE=>Zh (Z2 (Zq (wp_region_lit (Zg hE rfl rfl rfl fun a hE=>Zd hE rfl fun a hE=>Zh (Zj ?_)))))
       exact ⟨_,(ois hs30),hE.sub ⟨rfl,rfl,rfl,rfl,rfl,rfl,rfl,rfl,trivial⟩,hM⟩
     ·intro hb33
      have hs30:=Zu hs30 hb33
      refine wp_exit (Zl (Zl (Z3 ?_)))
      obtain rfl:=hx31 _ (ois hs30)
      refine Zj ?_
      exact ⟨hE.sub ⟨rfl,rfl,rfl,trivial⟩,hM⟩
    ·skip
     rintro a w ⟨hE,hM⟩
     refine Z2 (Zq (wp_region_lit (Zd hE rfl fun a hE=>Zg hE rfl rfl rfl fun a hE=>Zc hE rfl fun a hE=>Zh (Zj ?_))))
     exact ⟨_,(ois hF28),hE.sub ⟨rfl,rfl,rfl,trivial⟩,hM⟩
  ·intro hb8
   have hs5:=Zu hs5 hb8
   refine wp_exit (Zl (Zl (Z3 ?_)))
   obtain rfl:=hx6 _ (ois hs5)
   refine Zj ?_
   exact ⟨hE.sub ⟨rfl,trivial⟩,hM⟩
 ·skip
  rintro a w ⟨hE,hM⟩
  obtain rfl:=Option.some.inj hF3
  exact Zar hE (by rfl) ⟨_,rfl,rfl,hM⟩
def Yo (p0 : (Ref Gengine)) (s18 : (Vector UInt8 16) × Int) (s29 : (Vector UInt8 16) × Int) : Option (Fl ((Vector UInt8 16) × Int) (Vector UInt8 16)) :=
 if (decide (s29.2 < 16)) = true then ((ZH s18.1 s29.2).bind fun x34=>(ZH p0.v.box (bI x34)).bind fun x48=>(ZH s29.1 s29.2).bind fun x51=>some (Fl.nx ((s29.1.setIfInBounds (s29.2).toNat x48),wr (s29.2 + 1)))) else (some (Fl.ex s29.1))
def Yn (p0 : (Ref Gengine)) (p1 : (List (Vector UInt8 16))) (s18 : (Vector UInt8 16) × Int) : Option (Fl ((Vector UInt8 16) × Int) (Vector UInt8 16)) :=
 if (decide (s18.2 < (p1.length : Int))) = true then (((ZB (Yo p0 s18) (s18.1,0)).bind fun j26=>((WY p0.v.places j26).bind fun r68=>some r68 : Option ((Vector UInt8 16))).bind fun j54=>(if (decide (s18.2 < (wr ((p1.length : Int) - 1)))) = true then ((slc j54.toList (0 : Int) (16 : Int)).bind fun l86=>(VK p0.v.mixer j54).bind fun r89=>some r89) else (some j54) : Option ((Vector UInt8 16))).bind fun j71=>(idx p1 s18.2).bind fun x94=>(Yw j71 x94).bind fun r97=>some r97 : Option ((Vector UInt8 16))).bind fun j23=>some (Fl.nx (j23,wr (s18.2 + 1)))) else (some (Fl.ex s18.1))
def YR (p0 : (Ref Gengine)) (p1 : (List (Vector UInt8 16))) (p2 : (Vector UInt8 16)) : Option ((Vector UInt8 16)) :=
 ((idx p1 (0 : Int)).bind fun x9=>(Yw p2 x9).bind fun r12=>some r12 : Option ((Vector UInt8 16))).bind fun j5=>(ZB (Yn p0 p1) (j5,1)).bind fun j15=>some j15
theorem Qs (w0 : World) (p0 : (Ref Gengine)) (v0_1 : Value) (hv0_1 : Ro w0 p0 [v0_1]) (p1 : (List (Vector UInt8 16))) (v1_1 : Value) (hv1_1 : Ro w0 p1 [v1_1]) (p2 : (Vector UInt8 16)) (r : (Vector UInt8 16)) (hF : YR p0 p1 p2 = some r) :
  Calls Tryz.prog 217 [v0_1,v1_1,(Value.agg (enc p2).toArray)].toArray w0 (Rt w0 (Value.agg (enc r).toArray)):=by
 refine ce Tryz.func217 ?_
 intro a hE
 have hM:=M.start w0
 unfold YR at hF
 refine Zb (ZV (cs:=enc p2) hE hM Za ld rfl rfl fun b1 w a hM hE=>ZA hE hM ZG fun b3 w a hM hE=>Ze ?_)
 obtain ⟨j5,hl6,hF7⟩:=bind_some hF
 refine ZQ (fun a w=>Env 59 a [(0,v0_1),(1,v1_1),(5,(ptr b1 0)),(6,(ptr b3 0))] ∧ M (Old w0) w0 w [raw b3 (enc (Vector.replicate 16 (0 : UInt8))),raw b1 (enc j5)]) ?_ ?_
 ·skip
  obtain ⟨x9,hi11,hl6⟩:=bix hl6
  obtain ⟨r12,e13,hl6⟩:=bind_some hl6
  refine Yc [10,11,12,13,14] Y4 rfl rfl (by decide) rfl hE hM (qsP (fun z=>Yp z.E Za ld rfl ZG rfl (z.M.rawAt1) (Flat.len _) (kr0 rfl)) (qsP (fun z=>Zv z.E Za ld rfl (kr0 rfl)) (qsP (fun z=>Wn z.E Za ld rfl rfl Tryz.underlying54 ZG (z.M.rd hv1_1) hi11.1 (kr0 rfl)) (qsP (fun z=>Yp z.E Za ld rfl ZG rfl (X0 (z.M.rd hv1_1) hi11.2) (Flat.len _) (kr0 rfl)) (qsP (fun z=>Z7 z.E Za ld rfl AU (Wz _ p2 x9 r12 e13) (kc rfl)) qs0))))) ?_
  ·intro a w u hE hM
   have hM:=hM.pull1
   refine Zk (seg:=enc r12) (cs':=enc r12) hE hM Za rfl rfl rfl ZG (Flat.len _) (zle flq) (Flat.cell _) (Zi flq) fun w a hM hE=>Zh ?_
   obtain rfl:=Option.some.inj hl6
   refine Zj ?_
   have hM:=hM.pull1
   exact ⟨hE.sub ⟨rfl,rfl,rfl,rfl,trivial⟩,hM⟩
 ·skip
  rintro a w ⟨hE,hM⟩
  refine wp_seq (Zb (Zc hE rfl fun a hE=>Ze ?_))
  obtain ⟨j15,hl16,hF17⟩:=bind_some hF7
  refine ZI (fun a w=>Env 59 a [(5,(ptr b1 0)),(6,(ptr b3 0))] ∧ M (Old w0) w0 w [raw b3 (enc (Vector.replicate 16 (0 : UInt8))),raw b1 (enc j15)]) ?_ ?_
  ·skip
   refine wp_block ?_
   refine ZD (fun (s18 : (Vector UInt8 16) × Int) a w=>Env 59 a [(0,v0_1),(1,v1_1),(5,(ptr b1 0)),(6,(ptr b3 0)),(7,vI s18.2)] ∧ M (Old w0) w0 w [raw b3 (enc (Vector.replicate 16 (0 : UInt8))),raw b1 (enc s18.1)]) hl16 ⟨hE.sub ⟨rfl,rfl,rfl,rfl,rfl,trivial⟩,hM⟩ ?_
   rintro s18 a w ⟨hE,hM⟩ o21 hs19 hx20
   unfold Yn at hs19
   refine wp_seq (Zb (Zd hE rfl fun a hE=>Zd hE rfl fun a hE=>Yb hE rfl Tryz.underlying54 (hM.rd hv1_1) fun a hE=>Zg hE rfl rfl rfl fun a hE=>Ze ?_))
   refine Zm hE rfl ?_ ?_
   ·intro hb22
    have hs19:=Zt hs19 hb22
    refine wp_skip (Zq ?_)
    obtain ⟨j23,hl24,hF25⟩:=bind_some hs19
    refine ZQ (fun a w=>Env 59 a [(0,v0_1),(1,v1_1),(5,(ptr b1 0)),(6,(ptr b3 0)),(7,vI s18.2)] ∧ M (Old w0) w0 w [raw b3 (enc (Vector.replicate 16 (0 : UInt8))),raw b1 (enc j23)]) ?_ ?_
    ·skip
     refine wp_block (wp_seq (Zb (Zn hE rfl ZG rfl hM.rawAt1 (Flat.len _) fun a hE=>Zd hE rfl fun a hE=>Ze ?_)))
     obtain ⟨j26,hl27,hF28⟩:=bind_some hl24
     refine ZI (fun a w=>Env 59 a [(0,v0_1),(1,v1_1),(5,(ptr b1 0)),(6,(ptr b3 0)),(7,vI s18.2)] ∧ M (Old w0) w0 w [raw b3 (enc (Vector.replicate 16 (0 : UInt8))),raw b1 (enc j26)]) ?_ ?_
     ·skip
      refine wp_block ?_
      refine ZD (fun (s29 : (Vector UInt8 16) × Int) a w=>Env 59 a [(0,v0_1),(1,v1_1),(5,(ptr b1 0)),(6,(ptr b3 0)),(7,vI s18.2),(21,(Value.agg (enc s18.1).toArray)),(22,vI s29.2)] ∧ M (Old w0) w0 w [raw b3 (enc (Vector.replicate 16 (0 : UInt8))),raw b1 (enc s29.1)]) hl27 ⟨hE.sub ⟨rfl,rfl,rfl,rfl,rfl,rfl,rfl,trivial⟩,hM⟩ ?_
      rintro s29 a w ⟨hE,hM⟩ o32 hs30 hx31
      unfold Yo at hs30
      refine Zb (Zg hE rfl rfl rfl fun a hE=>Ze (wp_seq ?_))
      refine Zm hE rfl ?_ ?_
      ·intro hb33
       have hs30:=Zt hs30 hb33
       refine wp_skip (Zq (wp_seq (wp_block (Zb (Zd hE rfl ?_))))); intro a hE
       obtain ⟨x34,hi36,hs30⟩:=bvx hs30
       refine Kt hE Za ld rfl rfl Tryz.underlying68 ty5 rfl rfl hi36 rfl fun a hE=>Zc hE rfl fun a hE=>Zc hE rfl fun a hE=>Ze (wp_region_lit (Zd hE rfl fun a hE=>Zd hE rfl fun a hE=>Zd hE rfl ?_)); intro a hE
       obtain ⟨pb37,ds38,hv39,hx40,hA41,hB42⟩:=Tt hv0_1 -- ^
       obtain ⟨u43,u45,rfl,h44,h46⟩:=TY hx40 -- ^
       refine Wi hE Za ld (lk rfl hv39) fun a hE=>Zf hE rfl (zE) ?_; intro a hE
       obtain ⟨x48,hi47,hs30⟩:=bvx hs30
       refine ZC hE rfl rfl Tryz.underlying157 ty5 hi47.1 fun a hE=>Zw (v:=(vB x48)) hE rfl ty5 rfl (At.vec (At.cat (pre:=[]) (hM.atk hA41 hB42) cl0) hi47.2) ?_; intro a hE
       obtain ⟨x51,hi50,hs30⟩:=bvx hs30
       refine ZC hE rfl rfl Tryz.underlying68 ty5 hi50.1 ?_; intro a hE
       have hM:=hM.pull1
       refine Zk (seg:=[vB x48]) (cs':=enc (s29.1.setIfInBounds (s29.2).toNat x48)) hE hM Za rfl rfl rfl ty5 rfl (ZK (v:=s29.1) (x:=x48) hi50.1) (Flat.cell (x48 : UInt8)) (ZE (v:=s29.1) (x:=x48) hi50.1) fun w a hM hE=>Zh (Z2 (Zq (wp_region_lit (Zg hE rfl rfl rfl fun a hE=>Zd hE rfl fun a hE=>Zh (Zj ?_)))))
       have hM:=hM.pull1
       exact ⟨_,(ois hs30),hE.sub ⟨rfl,rfl,rfl,rfl,rfl,rfl,rfl,trivial⟩,hM⟩
      ·intro hb33
       have hs30:=Zu hs30 hb33
       refine wp_exit (Zl (Zl (Z3 ?_)))
       obtain rfl:=hx31 _ (ois hs30)
       refine Zj ?_
       exact ⟨hE.sub ⟨rfl,rfl,rfl,rfl,rfl,trivial⟩,hM⟩
     ·skip
      rintro a w ⟨hE,hM⟩
      refine Zq ?_
      obtain ⟨j54,hl55,hF56⟩:=bind_some hF28
      refine ZQ (fun a w=>Env 59 a [(0,v0_1),(1,v1_1),(5,(ptr b1 0)),(6,(ptr b3 0)),(7,vI s18.2)] ∧ M (Old w0) w0 w [raw b3 (enc (Vector.replicate 16 (0 : UInt8))),raw b1 (enc j54)]) ?_ ?_
      ·skip
       obtain ⟨pb58,ds59,hv60,hx61,hA62,hB63⟩:=Tt hv0_1 -- ^
       obtain ⟨u64,u66,rfl,h65,h67⟩:=TY hx61 -- ^
       obtain ⟨r68,e69,hl55⟩:=bind_some hl55
       refine Yc [35,36,37,38,39,40] Y4 rfl rfl (by decide) rfl hE hM (qsP (fun z=>Zv z.E Za ld rfl (kr0 rfl)) (qsP (fun z=>Wi z.E Za ld (lk rfl hv60) (kr0 rfl)) (qsP (fun z=>Zs z.E Za ld rfl (Za4) (kr0 rfl)) (qsP (fun z=>Yp z.E Za ld rfl Qe rfl (At.cat (pre:=[enc p0.v.box,enc p0.v.backBox]) (z.M.atk hA62 hB63) ck) (Flat.len _) (kr0 rfl)) (qsP (fun z=>Yp z.E Za ld rfl ZG rfl (z.M.rawAt1) (Flat.len _) (kr0 rfl)) (qsP (fun z=>Z7 z.E Za ld rfl (cbm Tryz.func235) (Jl _ p0.v.places j26 r68 e69) (kc rfl)) qs0)))))) ?_
       ·intro a w u hE hM
        have hM:=hM.pull1
        refine Zk (seg:=enc r68) (cs':=enc r68) hE hM Za rfl rfl rfl ZG (Flat.len _) (zle flq) (Flat.cell _) (Zi flq) fun w a hM hE=>Zh ?_
        obtain rfl:=Option.some.inj hl55
        refine Zj ?_
        have hM:=hM.pull1
        exact ⟨hE.sub ⟨rfl,rfl,rfl,rfl,rfl,trivial⟩,hM⟩
      ·skip
       rintro a w ⟨hE,hM⟩
       obtain ⟨j71,hl72,hF73⟩:=bind_some hF56
       refine ZQ (fun a w=>Env 59 a [(0,v0_1),(1,v1_1),(5,(ptr b1 0)),(6,(ptr b3 0)),(7,vI s18.2)] ∧ M (Old w0) w0 w [raw b3 (enc (Vector.replicate 16 (0 : UInt8))),raw b1 (enc j71)]) ?_ ?_
       ·skip
        refine Zb (Zd hE rfl fun a hE=>Zd hE rfl fun a hE=>Yb hE rfl Tryz.underlying54 (hM.rd hv1_1) fun a hE=>Zg hE rfl rfl rfl fun a hE=>Zg hE rfl rfl rfl fun a hE=>Ze ?_)
        refine Zm hE rfl ?_ ?_
        ·intro hb74
         have hl72:=Zt hl72 hb74
         obtain ⟨pb76,ds77,hv78,hx79,hA80,hB81⟩:=Tt hv0_1 -- ^
         obtain ⟨u82,u84,rfl,h83,h85⟩:=TY hx79 -- ^
         obtain ⟨l86,e87,hl72⟩:=bind_some hl72
         have hb88:=Kc e87 -- ^
         refine Yc [46,47,48,49,50] Y4 rfl rfl (by decide) rfl hE hM (qsP (fun z=>Zv z.E Za ld rfl (kr0 rfl)) (qsP (fun z=>Wi z.E Za ld (lk rfl hv78) (kr0 rfl)) (qsP (fun z=>Zs z.E Za ld rfl (Za2) (kr0 rfl)) (qsP (fun z=>ZS (v:=u82) z.E Za ld rfl qa rfl (At.cat (pre:=[enc p0.v.box,enc p0.v.backBox,enc p0.v.places,enc p0.v.backPlaces]) (z.M.atk hA80 hB81) ck) (kr0 rfl)) (qsP (fun z=>TD (N:=16) z.E Za ld rfl rfl rfl rfl rfl Tryz.underlying68 ty5 hb88 (kr0 rfl)) qs0))))) ?_
         ·intro a w u hE hM
          have hM:=hM.pull1
          obtain ⟨r89,e90,hl72⟩:=bind_some hl72
          refine Zx hE rfl (cbm Tryz.func236) (HO _ _ _ _ p0.v.mixer u82 h83 b1 j54 hM r89 e90) ?_
          rintro v w a ⟨rfl,hM⟩ hE
          refine Zh ?_
          obtain rfl:=Option.some.inj hl72
          refine Zj ?_
          have hM:=hM.pull1
          exact ⟨hE.sub ⟨rfl,rfl,rfl,rfl,rfl,trivial⟩,hM⟩
        ·intro hb74
         have hl72:=Zu hl72 hb74
         refine wp_skip ?_
         obtain rfl:=Option.some.inj hl72
         refine Zj ?_
         exact ⟨hE.sub ⟨rfl,rfl,rfl,rfl,rfl,trivial⟩,hM⟩
       ·skip
        rintro a w ⟨hE,hM⟩
        obtain ⟨x94,hi96,hF73⟩:=bix hF73
        obtain ⟨r97,e98,hF73⟩:=bind_some hF73
        refine Yc [52,53,54,55,56,57] Y4 rfl rfl (by decide) rfl hE hM (qsP (fun z=>Yp z.E Za ld rfl ZG rfl (z.M.rawAt1) (Flat.len _) (kr0 rfl)) (qsP (fun z=>Zv z.E Za ld rfl (kr0 rfl)) (qsP (fun z=>Zv z.E Za ld rfl (kr0 rfl)) (qsP (fun z=>Wn z.E Za ld rfl rfl Tryz.underlying54 ZG (z.M.rd hv1_1) hi96.1 (kr0 rfl)) (qsP (fun z=>Yp z.E Za ld rfl ZG rfl (X0 (z.M.rd hv1_1) hi96.2) (Flat.len _) (kr0 rfl)) (qsP (fun z=>Z7 z.E Za ld rfl AU (Wz _ j71 x94 r97 e98) (kc rfl)) qs0)))))) ?_
        ·intro a w u hE hM
         have hM:=hM.pull1
         refine Zk (seg:=enc r97) (cs':=enc r97) hE hM Za rfl rfl rfl ZG (Flat.len _) (zle flq) (Flat.cell _) (Zi flq) fun w a hM hE=>Zh (Z2 ?_)
         obtain rfl:=Option.some.inj hF73
         refine Zj ?_
         have hM:=hM.pull1
         exact ⟨hE.sub ⟨rfl,rfl,rfl,rfl,rfl,trivial⟩,hM⟩
    ·skip
     rintro a w ⟨hE,hM⟩
     refine wp_region_lit (Zd hE rfl fun a hE=>Zg hE rfl rfl rfl fun a hE=>Zc hE rfl fun a hE=>Zh (Zj ?_))
     exact ⟨_,(ois hF25),hE.sub ⟨rfl,rfl,rfl,rfl,rfl,trivial⟩,hM⟩
   ·intro hb22
    have hs19:=Zu hs19 hb22
    refine wp_exit (Zl (Zl (Z3 ?_)))
    obtain rfl:=hx20 _ (ois hs19)
    refine Zj ?_
    exact ⟨hE.sub ⟨rfl,rfl,trivial⟩,hM⟩
  ·skip
   rintro a w ⟨hE,hM⟩
   refine Zq (Zb (Zn hE rfl ZG rfl hM.rawAt1 (Flat.len _) fun a hE=>Zk (seg:=enc j15) (cs':=enc j15) hE hM Za rfl rfl rfl ZG (Flat.len _) (zle flq) (Flat.cell _) (Zi flq) fun w a hM hE=>Ze ?_))
   obtain rfl:=Option.some.inj hF17
   have hq101 : Yu Tryz.prog _ _ (.cell 6 68) _:=ZJ hE rfl ZG rfl hM.rawAt0 (Flat.len _) rfl
   exact wp_ret (ZL hE rfl hq101 ⟨_,rfl,rfl,hM.kept⟩)
def YA (p0 : (Ref Gengine)) (p1 : (Vector UInt8 16)) (p2 : (Vector UInt8 16)) : Option ((Vector UInt8 16)) :=
 ((WO p0 p1 p0.v.rounds).bind fun r21=>(YR p0 r21 p2).bind fun r24=>some r24 : Option ((Vector UInt8 16))).bind fun j7=>some j7
theorem TK (w0 : World) (p0 : (Ref Gengine)) (v0_1 : Value) (hv0_1 : Ro w0 p0 [v0_1]) (p1 : (Vector UInt8 16)) (p2 : (Vector UInt8 16)) (r : (Vector UInt8 16)) (hF : YA p0 p1 p2 = some r) :
  Calls Tryz.prog 183 [v0_1,(Value.agg (enc p1).toArray),(Value.agg (enc p2).toArray)].toArray w0 (Rt w0 (Value.agg (enc r).toArray)):=by
 refine ce Tryz.func183 ?_
 intro a hE
 have hM:=M.start w0
 unfold YA at hF
 refine Zb (ZV (cs:=enc p1) hE hM Za ld rfl rfl fun b1 w a hM hE=>ZV (cs:=enc p2) hE hM Za ld rfl rfl fun b3 w a hM hE=>ZA hE hM ZG fun b5 w a hM hE=>Ze ?_)
 obtain ⟨j7,hl8,hF9⟩:=bind_some hF
 refine ZQ (fun a w=>Env 17 a [(6,(ptr b5 0))] ∧ M (Old w0) w0 w [raw b5 (enc j7)]) ?_ ?_
 ·skip
  obtain ⟨pb11,ds12,hv13,hx14,hA15,hB16⟩:=Tt hv0_1 -- ^
  obtain ⟨u17,u19,rfl,h18,h20⟩:=TY hx14 -- ^
  obtain ⟨r21,e22,hl8⟩:=bind_some hl8
  refine XQ (its:=[raw b5 (enc (Vector.replicate 16 (0 : UInt8))),raw b3 (enc p2),raw b1 (enc p1)]) (mk:=([mkO 7 (fun v=>osl NoB (r21 : List (Vector UInt8 16)) v)] : Mk)) [7,8,9,10,11,12,13,14,15] Y4 rfl rfl (by decide) rfl hE (fun u=>M.qE (M.q0 hM.drew u) emO) (qsP (fun z=>Zv z.E Za ld rfl (kr0 rfl)) (qsP (fun z=>Zv z.E Za ld rfl (kr0 rfl)) (qsP (v:=(Value.agg (enc p1).toArray)) ?_ (qsP (fun z=>Zv z.E Za ld rfl (kr0 rfl)) (qsP (fun z=>Wi z.E Za ld (lk rfl hv13) (kr0 rfl)) (qsP (fun z=>Zs z.E Za ld rfl (Za8) (kr0 rfl)) (qsP (v:=(vI p0.v.rounds)) ?_ (qsM (pr:=fun v=>True) ?_ (qsP (v:=(Value.agg (enc p2).toArray)) ?_ qs0))))))))) ?_
  ·intro a w ux10 D z
   have hE:=z.E
   have hM:=z.M
   exact Zn hE rfl ZG rfl hM.rawAt2 (Flat.len _) fun a hE=>⟨Kept.refl _ _,_,rfl,hE⟩
  ·intro a w ux10 D z
   have hE:=z.E
   have hM:=z.M
   exact Zw (v:=(vI p0.v.rounds)) hE rfl ty2 rfl (At.cat (pre:=[enc p0.v.box,enc p0.v.backBox,enc p0.v.places,enc p0.v.backPlaces,[u17],[u19]]) (hM.atk hA15 hB16) ck) fun a hE=>⟨Kept.refl _ _,_,rfl,hE⟩
  ·intro a w ux10 D z
   have hE:=z.E
   have hD : D 7 = false:=z.F
   have hM0:=z.M
   have hM:=z.M
   refine Zx hE rfl (cbm Tryz.func218) (JD _ p0 v0_1 (hM.rdo hv0_1) p1 p0.v.rounds r21 e22) ?_
   rintro _ w a ⟨_,rfl,hFr,hK⟩ hE
   have hM:=hM0.add hK hFr
   exact ⟨_,_,rfl,hE,M.qFill (mk1:=[]) (mk2:=[]) (f:=(fun v=>osl NoB (r21 : List (Vector UInt8 16)) v)) hM rfl hD,trivial⟩
  ·intro a w ux10 D z
   have hE:=z.E
   have hM:=z.M
   exact Zn hE rfl ZG rfl hM.rawAt1 (Flat.len _) fun a hE=>⟨Kept.refl _ _,_,rfl,hE⟩
  ·intro a w ux10 D hE hM hG hall
   have d7:=hall 7 (by decide)
   have hM:=hM.sure (pre:=[_,_,_]) d7
   obtain ⟨r24,e25,hl8⟩:=bind_some hl8
   refine Zx hE rfl (cbm Tryz.func217) (Qs _ p0 v0_1 (hM.rdo hv0_1) r21 (ux10 7) (hM.sl (pre:=[_,_,_]) noB) p2 r24 e25) ?_
   rintro v w a ⟨rfl,hK⟩ hE
   have hM:=hM.keep hK
   refine Zk (seg:=enc r24) (cs':=enc r24) hE hM Za rfl rfl rfl ZG (Flat.len _) (zle flq) (Flat.cell _) (Zi flq) fun w a hM hE=>Zh ?_
   obtain rfl:=Option.some.inj hl8
   refine Zj ?_
   have hM:=M.fst (l:=[_]) hM
   exact ⟨hE.sub ⟨rfl,trivial⟩,hM⟩
 ·skip
  rintro a w ⟨hE,hM⟩
  obtain rfl:=Option.some.inj hF9
  have hq27 : Yu Tryz.prog _ _ (.cell 6 68) _:=ZJ hE rfl ZG rfl hM.rawAt0 (Flat.len _) rfl
  exact wp_ret (ZL hE rfl hq27 ⟨_,rfl,rfl,hM.kept⟩)
def Xf (p0 : (Ref Gengine)) (p1 : (Vector UInt8 32)) (p2 : (Vector UInt8 16)) : Option ((Vector UInt8 32)) :=
 (slc p1.toList (0 : Int) (16 : Int)).bind fun l8=>(Qx 16 l8).bind fun x11=>(slc p1.toList (16 : Int) (32 : Int)).bind fun l13=>(Qx 16 l13).bind fun x16=>(Yw x11 p2).bind fun r26=>((YA p0 x16 r26).bind fun r34=>(Yw r34 r26).bind fun r36=>some r36 : Option ((Vector UInt8 16))).bind fun j30=>(Yw x16 p2).bind fun r39=>((YA p0 j30 r39).bind fun r47=>(Yw r47 r39).bind fun r49=>some r49 : Option ((Vector UInt8 16))).bind fun j43=>((slc j30.toList (0 : Int) (16 : Int)).bind fun l56=>(slc j43.toList (0 : Int) (16 : Int)).bind fun l59=>(Z1 ([l56,l59] : (List (List UInt8)))).bind fun r64=>(Qx 32 r64).bind fun x67=>some x67 : Option ((Vector UInt8 32))).bind fun j52=>some j52
theorem Kp (w0 : World) (p0 : (Ref Gengine)) (v0_1 : Value) (hv0_1 : Ro w0 p0 [v0_1]) (p1 : (Vector UInt8 32)) (p2 : (Vector UInt8 16)) (r : (Vector UInt8 32)) (hF : Xf p0 p1 p2 = some r) :
  Calls Tryz.prog 134 [v0_1,(Value.agg (enc p1).toArray),(Value.agg (enc p2).toArray)].toArray w0 (Rt w0 (Value.agg (enc r).toArray)):=by
 refine ce Tryz.func134 ?_
 intro a hE
 have hM:=M.start w0
 unfold Xf at hF
 refine Zb (ZV (cs:=enc p1) hE hM Za ld rfl rfl fun b1 w a hM hE=>ZV (cs:=enc p2) hE hM Za ld rfl rfl fun b3 w a hM hE=>ZA hE hM Yt fun b5 w a hM hE=>Ze (wp_seq ?_))
 obtain ⟨l8,e9,hF⟩:=bind_some hF
 have hb10:=Kc e9 -- ^
 obtain ⟨x11,e12,hF⟩:=bind_some hF
 obtain ⟨l13,e14,hF⟩:=bind_some hF
 have hb15:=Kc e14 -- ^
 obtain ⟨x16,e17,hF⟩:=bind_some hF
 refine XQ (its:=[raw b5 (enc (Vector.replicate 32 (0 : UInt8))),raw b3 (enc p2),raw b1 (enc p1)]) (mk:=([mkO 6 (fun v=>TO v (enc (Vector.replicate 16 (0 : UInt8)))),mkO 7 (fun v=>TO v (enc (Vector.replicate 16 (0 : UInt8))))] : Mk)) [11,12,13,14,15,16,7,8] Y4 rfl rfl (by decide) rfl hE (fun u=>M.qE (M.qE (M.q0 hM.drew u) emO) emO) (qsP (fun z=>TD (N:=32) z.E Za ld rfl rfl rfl rfl rfl Tryz.underlying35 ty5 hb10 (kr0 rfl)) (qsP (v:=(ptr (sb (Z8 (.slice (some ⟨b1,0,none⟩) 32 32) ((0 : Int)).toNat ((16 : Int)).toNat 1)) (so (Z8 (.slice (some ⟨b1,0,none⟩) 32 32) ((0 : Int)).toNat ((16 : Int)).toNat 1)))) ?_ (qsP (v:=(Value.agg (enc x11).toArray)) ?_ (qsP (fun z=>TD (N:=32) z.E Za ld rfl rfl rfl rfl rfl Tryz.underlying35 ty5 hb15 (kr0 rfl)) (qsP (v:=(ptr (sb (Z8 (.slice (some ⟨b1,0,none⟩) 32 32) ((16 : Int)).toNat ((32 : Int)).toNat 1)) (so (Z8 (.slice (some ⟨b1,0,none⟩) 32 32) ((16 : Int)).toNat ((32 : Int)).toNat 1)))) ?_ (qsP (v:=(Value.agg (enc x16).toArray)) ?_ (qsM (pr:=fun v=>True) ?_ (qsM (pr:=fun v=>True) ?_ qs0)))))))) ?_
 ·intro a w ux7 D z
  have hE:=z.E
  have hM:=z.M
  exact BD hE Za ld rfl Tryz.underlying68 (Wr (At.sat hM.rawAt2 (by simp) (by decide)) e9) (Qt e12).1 (by decide) fun a hE=>⟨Kept.refl _ _,_,rfl,hE⟩
 ·intro a w ux7 D z
  have hE:=z.E
  have hM:=z.M
  exact Zn hE rfl ZG rfl (zU (Wr (At.sat hM.rawAt2 (by simp) (by decide)) e9) e12 (by decide)) (Flat.len _) fun a hE=>⟨Kept.refl _ _,_,rfl,hE⟩
 ·intro a w ux7 D z
  have hE:=z.E
  have hM:=z.M
  exact BD hE Za ld rfl Tryz.underlying68 (Wr (At.sat hM.rawAt2 (by simp) (by decide)) e14) (Qt e17).1 (by decide) fun a hE=>⟨Kept.refl _ _,_,rfl,hE⟩
 ·intro a w ux7 D z
  have hE:=z.E
  have hM:=z.M
  exact Zn hE rfl ZG rfl (zU (Wr (At.sat hM.rawAt2 (by simp) (by decide)) e14) e17 (by decide)) (Flat.len _) fun a hE=>⟨Kept.refl _ _,_,rfl,hE⟩
 ·intro a w ux7 D z
  have hE:=z.E
  have hD : D 6 = false:=z.F
  have hM:=z.M
  refine ZA hE hM ZG ?_; intro b18 w a hM hE
  have hM:=hM.pack1 (it:=TO _ (enc (Vector.replicate 16 (0 : UInt8)))) (fun w w' fp ⟨b',e,k⟩ hb=>⟨b',e,XC w w' fp k hb⟩) (fun fp k=>⟨_,rfl,k⟩)
  exact ⟨_,_,rfl,hE,M.qFill (mk1:=[]) (mk2:=[_]) (f:=fun v=>TO v (enc (Vector.replicate 16 (0 : UInt8)))) hM rfl hD,trivial⟩
 ·intro a w ux7 D z
  have hE:=z.E
  have hD : D 7 = false:=z.F
  have hM:=z.M
  refine ZA hE hM ZG ?_; intro b20 w a hM hE
  have hM:=hM.pack1 (it:=TO _ (enc (Vector.replicate 16 (0 : UInt8)))) (fun w w' fp ⟨b',e,k⟩ hb=>⟨b',e,XC w w' fp k hb⟩) (fun fp k=>⟨_,rfl,k⟩)
  exact ⟨_,_,rfl,hE,M.qFill (mk1:=[_]) (mk2:=[]) (f:=fun v=>TO v (enc (Vector.replicate 16 (0 : UInt8)))) hM rfl hD,trivial⟩
 ·intro a w ux7 D hE hM hG hall
  have d6:=hall 6 (by decide)
  have d7:=hall 7 (by decide)
  have hM:=(hM.sure (pre:=[_,_,_]) d6).pull
  obtain ⟨_,⟨b22,f23,_⟩,_⟩:=hM.head
  have hM:=((hM.pack1 XC (it:=raw b22 (enc (Vector.replicate 16 (0 : UInt8)))) (fun fp ⟨b2,e2,k2⟩=>by rw [f23] at e2; simp [ptr] at e2; subst e2; exact k2)).sure (pre:=[_,_,_,_]) d7).pull
  obtain ⟨_,⟨b24,f25,_⟩,_⟩:=hM.head
  have hM:=hM.pack1 XC (it:=raw b24 (enc (Vector.replicate 16 (0 : UInt8)))) (fun fp ⟨b2,e2,k2⟩=>by rw [f25] at e2; simp [ptr] at e2; subst e2; exact k2)
  have hE:=hE.setq (t:=7) rfl f23
  have hE:=hE.setq (t:=8) rfl f25
  have hM:=hM.pull1
  refine Zk (seg:=enc x11) (cs':=enc x11) hE hM Za rfl rfl rfl ZG (Flat.len _) (zle flq) (Flat.cell _) (Zi flq) ?_; intro w a hM hE
  have hM:=hM.pull1
  refine Zk (seg:=enc x16) (cs':=enc x16) hE hM Za rfl rfl rfl ZG (Flat.len _) (zle flq) (Flat.cell _) (Zi flq) fun w a hM hE=>Zh (Zq (Zb (Zn hE rfl ZG rfl hM.rawAt1 (Flat.len _) fun a hE=>Zn hE rfl ZG rfl hM.rawAt3 (Flat.len _) ?_))); intro a hE
  obtain ⟨r26,e27,hF⟩:=bind_some hF
  refine Zx hE rfl AU (Wz _ x11 p2 r26 e27) ?_
  rintro v w a ⟨rfl,hK⟩ hE
  have hM:=hM.keep hK
  refine ZA hE hM ZG fun b28 w a hM hE=>Zk (seg:=enc r26) (cs':=enc r26) hE hM Za rfl rfl rfl ZG (Flat.len _) (zle flq) (Flat.cell _) (Zi flq) fun w a hM hE=>Ze ?_
  obtain ⟨j30,hl31,hF32⟩:=bind_some hF
  refine ZQ (fun a w=>Env 41 a [(0,v0_1),(5,(ptr b3 0)),(6,(ptr b5 0)),(7,(ptr b22 0)),(8,(ptr b24 0))] ∧ M (Old w0) w0 w [raw b24 (enc x16),raw b22 (enc j30),raw b5 (enc (Vector.replicate 32 (0 : UInt8))),raw b3 (enc p2)]) ?_ ?_
  ·skip
   obtain ⟨r34,e35,hl31⟩:=bind_some hl31
   obtain ⟨r36,e37,hl31⟩:=bind_some hl31
   refine Yc [20,21,22,23,24,25] Y4 rfl rfl (by decide) rfl hE hM (qsP (fun z=>Zv z.E Za ld rfl (kr0 rfl)) (qsP (fun z=>Yp z.E Za ld rfl ZG rfl (z.M.rawAt1) (Flat.len _) (kr0 rfl)) (qsP (fun z=>Yp z.E Za ld rfl ZG rfl (z.M.rawAt0) (Flat.len _) (kr0 rfl)) (qsP (fun z=>Z7 z.E Za ld rfl (cbm Tryz.func183) (TK _ p0 v0_1 (z.M.rdo hv0_1) x16 r26 r34 e35) (kc rfl)) (qsP (fun z=>Yp z.E Za ld rfl ZG rfl (z.M.rawAt0) (Flat.len _) (kr0 rfl)) (qsP (fun z=>Z7 z.E Za ld rfl AU (Wz _ r34 r26 r36 e37) (kc rfl)) qs0)))))) ?_
   ·intro a w u hE hM
    have hM:=hM.pull2
    refine Zk (seg:=enc r36) (cs':=enc r36) hE hM Za rfl rfl rfl ZG (Flat.len _) (zle flq) (Flat.cell _) (Zi flq) fun w a hM hE=>Zh ?_
    obtain rfl:=Option.some.inj hl31
    refine Zj ?_
    have hM:=M.fst (l:=[_,_,_,_]) hM.pull4.pull4.pull2.pull4
    exact ⟨hE.sub ⟨rfl,rfl,rfl,rfl,rfl,trivial⟩,hM⟩
  ·skip
   rintro a w ⟨hE,hM⟩
   refine Zb (Zn hE rfl ZG rfl hM.rawAt0 (Flat.len _) fun a hE=>Zn hE rfl ZG rfl hM.rawAt3 (Flat.len _) ?_); intro a hE
   obtain ⟨r39,e40,hF32⟩:=bind_some hF32
   refine Zx hE rfl AU (Wz _ x16 p2 r39 e40) ?_
   rintro v w a ⟨rfl,hK⟩ hE
   have hM:=hM.keep hK
   refine ZA hE hM ZG fun b41 w a hM hE=>Zk (seg:=enc r39) (cs':=enc r39) hE hM Za rfl rfl rfl ZG (Flat.len _) (zle flq) (Flat.cell _) (Zi flq) fun w a hM hE=>Ze ?_
   obtain ⟨j43,hl44,hF45⟩:=bind_some hF32
   refine ZQ (fun a w=>Env 41 a [(6,(ptr b5 0)),(7,(ptr b22 0)),(8,(ptr b24 0))] ∧ M (Old w0) w0 w [raw b24 (enc j43),raw b22 (enc j30),raw b5 (enc (Vector.replicate 32 (0 : UInt8)))]) ?_ ?_
   ·skip
    obtain ⟨r47,e48,hl44⟩:=bind_some hl44
    obtain ⟨r49,e50,hl44⟩:=bind_some hl44
    refine Yc [29,30,31,32,33,34] Y4 rfl rfl (by decide) rfl hE hM (qsP (fun z=>Zv z.E Za ld rfl (kr0 rfl)) (qsP (fun z=>Yp z.E Za ld rfl ZG rfl (z.M.rawAt2) (Flat.len _) (kr0 rfl)) (qsP (fun z=>Yp z.E Za ld rfl ZG rfl (z.M.rawAt0) (Flat.len _) (kr0 rfl)) (qsP (fun z=>Z7 z.E Za ld rfl (cbm Tryz.func183) (TK _ p0 v0_1 (z.M.rdo hv0_1) j30 r39 r47 e48) (kc rfl)) (qsP (fun z=>Yp z.E Za ld rfl ZG rfl (z.M.rawAt0) (Flat.len _) (kr0 rfl)) (qsP (fun z=>Z7 z.E Za ld rfl AU (Wz _ r47 r39 r49 e50) (kc rfl)) qs0)))))) ?_
    ·intro a w u hE hM
     have hM:=hM.pull1
     refine Zk (seg:=enc r49) (cs':=enc r49) hE hM Za rfl rfl rfl ZG (Flat.len _) (zle flq) (Flat.cell _) (Zi flq) fun w a hM hE=>Zh ?_
     obtain rfl:=Option.some.inj hl44
     refine Zj ?_
     have hM:=M.fst (l:=[_,_,_]) hM.pull3.pull3.pull2
     exact ⟨hE.sub ⟨rfl,rfl,rfl,trivial⟩,hM⟩
   ·skip
    rintro a w ⟨hE,hM⟩
    obtain ⟨j52,hl53,hF54⟩:=bind_some hF45
    refine ZQ (fun a w=>Env 41 a [(6,(ptr b5 0))] ∧ M (Old w0) w0 w [raw b5 (enc j52)]) ?_ ?_
    ·skip
     obtain ⟨l56,e57,hl53⟩:=bind_some hl53
     have hb58:=Kc e57 -- ^
     obtain ⟨l59,e60,hl53⟩:=bind_some hl53
     have hb61:=Kc e60 -- ^
     refine Yc [35,36] Y4 rfl rfl (by decide) rfl hE hM (qsP (fun z=>TD (N:=16) z.E Za ld rfl rfl rfl rfl rfl Tryz.underlying68 ty5 hb58 (kr0 rfl)) (qsP (fun z=>TD (N:=16) z.E Za ld rfl rfl rfl rfl rfl Tryz.underlying68 ty5 hb61 (kr0 rfl)) qs0)) ?_
     ·intro a w u hE hM
      refine JE (xs:=[.tmp 35,.tmp 36]) (vs:=[(Z8 (.slice (some ⟨b22,0,none⟩) 16 16) ((0 : Int)).toNat ((16 : Int)).toNat 1),(Z8 (.slice (some ⟨b24,0,none⟩) 16 16) ((0 : Int)).toNat ((16 : Int)).toNat 1)]) hE hM Za ld rfl rfl Tryz.underlying23 Ui (by decide) (Q1 (Yz (Wr (At.sat hM.rawAt1 (by simp) (by decide)) e57)) (Q1 (Yz (Wr (At.sat hM.rawAt0 (by simp) (by decide)) e60)) y6)) ?_; intro b62 w a hM hE
      obtain ⟨r64,e65,hl53⟩:=bind_some hl53
      refine Zx hE rfl (cbm Tryz.func133) (Th _ ([l56,l59] : (List (List UInt8))) (Value.slice (some ⟨b62,0,none⟩) 2 2) (jz hM.rawAt0 (hM.rawLt (pre:=[])) ⟨(Wr (At.sat hM.rawAt2 (by simp) (by decide)) e57),(Wr (At.sat hM.rawAt1 (by simp) (by decide)) e60),trivial⟩ rfl) r64 e65) ?_
      rintro u66 w a ⟨_,rfl,hFr,hK⟩ hE
      have hM:=hM.add hK hFr
      obtain ⟨x67,e68,hl53⟩:=bind_some hl53
      refine BD hE Za ld rfl Tryz.underlying35 (hM.sl (pre:=[]) noB) (Qt e68).1 (by decide) fun a hE=>Zn hE rfl Yt rfl (zU (hM.sl (pre:=[]) noB) e68 (by decide)) (Flat.len _) ?_; intro a hE
      have hM:=hM.pull4
      refine Zk (seg:=enc x67) (cs':=enc x67) hE hM Za rfl rfl rfl Yt (Flat.len _) (zle flq) (Flat.cell _) (Zi flq) fun w a hM hE=>Zh ?_
      obtain rfl:=Option.some.inj hl53
      refine Zj ?_
      have hM:=M.fst (l:=[_]) hM
      exact ⟨hE.sub ⟨rfl,trivial⟩,hM⟩
    ·skip
     rintro a w ⟨hE,hM⟩
     obtain rfl:=Option.some.inj hF54
     have hq70 : Yu Tryz.prog _ _ (.cell 6 35) _:=ZJ hE rfl Yt rfl hM.rawAt0 (Flat.len _) rfl
     exact wp_ret (ZL hE rfl hq70 ⟨_,rfl,rfl,hM.kept⟩)
def YX (p0 : (Ref Gengine)) (r13 : (List (Vector UInt8 16))) (s19 : (Vector UInt8 32) × Int) : Option (Fl ((Vector UInt8 32) × Int) (Vector UInt8 32)) :=
 if (decide (s19.2 < (r13.length : Int))) = true then ((idx r13 s19.2).bind fun x24=>(Xf p0 s19.1 x24).bind fun r29=>some (Fl.nx (r29,wr (s19.2 + 1)))) else (some (Fl.ex s19.1))
def Xb (p0 : (Ref Gengine)) (p1 : (List (List UInt8))) : Option ((Vector UInt8 32)) :=
 (X2).bind fun r3=>(Z1 p1).bind fun r7=>(Vm r7).bind fun r10=>(Um r10).bind fun r13=>(ZB (YX p0 r13) (r3,0)).bind fun j16=>some j16
end

end Go.Proofs.YtpibglnacohdkaaGreat
