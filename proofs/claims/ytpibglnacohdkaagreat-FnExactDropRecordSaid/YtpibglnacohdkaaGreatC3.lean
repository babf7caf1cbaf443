/- The walk of what the law reaches: contracts of functions. -/
import Derived.Test.YtpibglnacohdkaaGreatC2
set_option linter.unusedVariables false
set_option linter.unusedSimpArgs false
set_option maxRecDepth 20000
set_option maxHeartbeats 400000
namespace Go.Proofs.YtpibglnacohdkaaGreat
open Go
open Flat (enc)
noncomputable section
theorem T6 (w0 : World) (p0 : (Ref Gengine)) (v0_1 : Value) (hv0_1 : Ro w0 p0 [v0_1]) (p1 : (List (List UInt8))) (v1_1 : Value) (hv1_1 : Ro w0 p1 [v1_1]) (r : (Vector UInt8 32)) (hF : Xb p0 p1 = some r) :
  Calls Tryz.prog 69 [v0_1,v1_1].toArray w0 (Rt w0 (Value.agg (enc r).toArray)):=by
 refine ce Tryz.func69 ?_
 intro a hE
 have hM:=M.start w0
 unfold Xb at hF
 refine Zb (ZA hE hM Yt fun b1 w a hM hE=>Ze (Zb ?_))
 obtain ⟨r3,e4,hF⟩:=bind_some hF
 refine Zx hE rfl (cbm Tryz.func130) (Kn _  r3 e4) ?_
 rintro v w a ⟨rfl,hK⟩ hE
 have hM:=hM.keep hK
 refine ZA hE hM Yt fun b5 w a hM hE=>Zk (seg:=enc r3) (cs':=enc r3) hE hM Za rfl rfl rfl Yt (Flat.len _) (zle flq) (Flat.cell _) (Zi flq) fun w a hM hE=>Ze (wp_seq (Zb (Zd hE rfl ?_))); intro a hE
 obtain ⟨r7,e8,hF⟩:=bind_some hF
 refine Zx hE rfl (cbm Tryz.func133) (Th _ p1 v1_1 (hM.rdo hv1_1) r7 e8) ?_
 rintro u9 w a ⟨_,rfl,hFr,hK⟩ hE
 have hM:=hM.add hK hFr
 obtain ⟨r10,e11,hF⟩:=bind_some hF
 refine Zx hE rfl (cbm Tryz.func132) (JK _ r7 u9 (hM.sl (pre:=[]) noB) r10 e11) ?_
 rintro u12 w a ⟨_,rfl,hFr,hK⟩ hE
 have hM:=hM.add hK hFr
 obtain ⟨r13,e14,hF⟩:=bind_some hF
 refine Zx hE rfl (cbm Tryz.func131) (Bj _ r10 u12 (hM.sl (pre:=[]) noB) r13 e14) ?_
 rintro u15 w a ⟨_,rfl,hFr,hK⟩ hE
 have hM:=hM.add hK hFr
 refine Yb hE rfl Tryz.underlying54 (hM.sl (pre:=[]) noB) fun a hE=>Zd hE rfl fun a hE=>Ze ?_
 obtain ⟨j16,hl17,hF18⟩:=bind_some hF
 refine ZI (fun a w=>Env 24 a [(4,(ptr b1 0)),(5,(ptr b5 0))] ∧ M (Old w0) w0 w [raw b5 (enc j16),raw b1 (enc (Vector.replicate 32 (0 : UInt8)))]) ?_ ?_
 ·skip
  refine wp_block ?_
  have hM:=M.fst (l:=[_,_,_]) hM.pull4.pull4.pull2
  refine ZD (fun (s19 : (Vector UInt8 32) × Int) a w=>Env 24 a [(0,v0_1),(4,(ptr b1 0)),(5,(ptr b5 0)),(12,u15),(13,(vI (r13.length : Int))),(14,vI s19.2)] ∧ M (Old w0) w0 w [osl NoB (r13 : List (Vector UInt8 16)) u15,raw b5 (enc s19.1),raw b1 (enc (Vector.replicate 32 (0 : UInt8)))]) hl17 ⟨hE.sub ⟨rfl,rfl,rfl,rfl,rfl,rfl,trivial⟩,hM⟩ ?_
  rintro s19 a w ⟨hE,hM⟩ o22 hs20 hx21
  unfold YX at hs20
  refine Zb (Zg hE rfl rfl rfl fun a hE=>Ze (wp_seq ?_))
  refine Zm hE rfl ?_ ?_
  ·intro hb23
   have hs20:=Zt hs20 hb23
   refine wp_skip (Zq (wp_seq (wp_block (Zb ?_))))
   obtain ⟨x24,hi26,hs20⟩:=bix hs20
   refine ZN hE rfl rfl Tryz.underlying54 ZG (hM.sl (pre:=[]) noB) hi26.1 fun a hE=>Zn hE rfl ZG rfl (X0 (hM.sl (pre:=[]) noB) hi26.2) (Flat.len _) fun a hE=>ZA hE hM ZG fun b27 w a hM hE=>Zk (seg:=enc x24) (cs':=enc x24) hE hM Za rfl rfl rfl ZG (Flat.len _) (zle flq) (Flat.cell _) (Zi flq) fun w a hM hE=>Ze (wp_region_lit (Zd hE rfl fun a hE=>Zn hE rfl Yt rfl hM.rawAt2 (Flat.len _) fun a hE=>Zn hE rfl ZG rfl hM.rawAt0 (Flat.len _) ?_)); intro a hE
   obtain ⟨r29,e30,hs20⟩:=bind_some hs20
   refine Zx hE rfl (cbm Tryz.func134) (Kp _ p0 v0_1 (hM.rdo hv0_1) s19.1 x24 r29 e30) ?_
   rintro v w a ⟨rfl,hK⟩ hE
   have hM:=(hM.keep hK).pull2
   refine Zk (seg:=enc r29) (cs':=enc r29) hE hM Za rfl rfl rfl Yt (Flat.len _) (zle flq) (Flat.cell _) (Zi flq) fun w a hM hE=>Zh (Z2 (Zq (wp_region_lit (Zg hE rfl rfl rfl fun a hE=>Zd hE rfl fun a hE=>Zh (Zj ?_)))))
   have hM:=M.fst (l:=[_,_,_]) hM.pull3.pull1.pull3
   exact ⟨_,(ois hs20),hE.sub ⟨rfl,rfl,rfl,rfl,rfl,rfl,trivial⟩,hM⟩
  ·intro hb23
   have hs20:=Zu hs20 hb23
   refine wp_exit (Zl (Zl (Z3 ?_)))
   obtain rfl:=hx21 _ (ois hs20)
   refine Zj ?_
   have hM:=M.fst (l:=[_,_]) hM.pull2.pull2
   exact ⟨hE.sub ⟨rfl,rfl,trivial⟩,hM⟩
 ·skip
  rintro a w ⟨hE,hM⟩
  refine Zq (Zb (Zn hE rfl Yt rfl hM.rawAt0 (Flat.len _) ?_)); intro a hE
  have hM:=hM.pull1
  refine Zk (seg:=enc j16) (cs':=enc j16) hE hM Za rfl rfl rfl Yt (Flat.len _) (zle flq) (Flat.cell _) (Zi flq) fun w a hM hE=>Ze ?_
  obtain rfl:=Option.some.inj hF18
  have hq32 : Yu Tryz.prog _ _ (.cell 4 35) _:=ZJ hE rfl Yt rfl hM.rawAt0 (Flat.len _) rfl
  exact wp_ret (ZL hE rfl hq32 ⟨_,rfl,rfl,hM.kept⟩)
def Xw (p0 : (Ref Gengine)) (p1 : (List GEvent)) (s16 : (Vector UInt8 32) × Int) : Option (Fl ((Vector UInt8 32) × Int) (Vector UInt8 32)) :=
 if (decide (s16.2 < (p1.length : Int))) = true then ((idx p1 s16.2).bind fun x21=>(slc s16.1.toList (0 : Int) (32 : Int)).bind fun l27=>(Xg x21.Number 4).bind fun r32=>(slc x21.Tag.toList (0 : Int) (32 : Int)).bind fun l35=>(Xb p0 ([l27,([Zy x21.Kind] : List UInt8),r32,l35] : (List (List UInt8)))).bind fun r42=>some (Fl.nx (r42,wr (s16.2 + 1)))) else (some (Fl.ex s16.1))
def WS (p0 : (Ref Gengine)) (p1 : (List GEvent)) : Option ((Vector UInt8 32)) :=
 (mkS 1 (0 : UInt8) 32).bind fun l3=>(Xb p0 ([l3] : (List (List UInt8)))).bind fun r9=>(ZB (Xw p0 p1) (r9,0)).bind fun j13=>some j13
theorem Jh (w0 : World) (p0 : (Ref Gengine)) (v0_1 : Value) (hv0_1 : Ro w0 p0 [v0_1]) (p1 : (List GEvent)) (v1_1 : Value) (hv1_1 : Ro w0 p1 [v1_1]) (r : (Vector UInt8 32)) (hF : WS p0 p1 = some r) :
  Calls Tryz.prog 113 [v0_1,v1_1].toArray w0 (Rt w0 (Value.agg (enc r).toArray)):=by
 refine ce Tryz.func113 ?_
 intro a hE
 have hM:=M.start w0
 unfold WS at hF
 refine Zb (ZA hE hM Yt fun b1 w a hM hE=>Ze (Zb (Zd hE rfl ?_))); intro a hE
 obtain ⟨l3,e4,hF⟩:=bind_some hF
 refine Hr hE hM Za ld rfl rfl Tryz.underlying40 ty5 rfl (by decide) (fun _=>Tv.2 ⟨rfl,rfl⟩) e4 fun u5 w a hM hE=>JE (xs:=[.tmp 9]) (vs:=[u5]) hE hM Za ld rfl rfl Tryz.underlying23 Ui (by decide) (Q1 (Yz (hM.sl (pre:=[]) noB)) y6) ?_; intro b7 w a hM hE
 obtain ⟨r9,e10,hF⟩:=bind_some hF
 refine Zx hE rfl (cbm Tryz.func69) (T6 _ p0 v0_1 (hM.rdo hv0_1) ([l3] : (List (List UInt8))) (Value.slice (some ⟨b7,0,none⟩) 1 1) (jz hM.rawAt0 (hM.rawLt (pre:=[])) ⟨(hM.sl (pre:=[_]) noB),trivial⟩ rfl) r9 e10) ?_
 rintro v w a ⟨rfl,hK⟩ hE
 have hM:=hM.keep hK
 refine ZA hE hM Yt fun b11 w a hM hE=>Zk (seg:=enc r9) (cs':=enc r9) hE hM Za rfl rfl rfl Yt (Flat.len _) (zle flq) (Flat.cell _) (Zi flq) fun w a hM hE=>Ze (wp_seq (Zb (Zd hE rfl fun a hE=>Yb hE rfl Tryz.underlying56 (hM.rd hv1_1) fun a hE=>Zd hE rfl fun a hE=>Ze ?_)))
 obtain ⟨j13,hl14,hF15⟩:=bind_some hF
 refine ZI (fun a w=>Env 33 a [(4,(ptr b1 0)),(5,(ptr b11 0))] ∧ M (Old w0) w0 w [raw b11 (enc j13),raw b1 (enc (Vector.replicate 32 (0 : UInt8)))]) ?_ ?_
 ·skip
  refine wp_block ?_
  have hM:=M.fst (l:=[_,_]) hM.pull3.pull1
  refine ZD (fun (s16 : (Vector UInt8 32) × Int) a w=>Env 33 a [(0,v0_1),(4,(ptr b1 0)),(5,(ptr b11 0)),(12,v1_1),(13,(vI (p1.length : Int))),(14,vI s16.2)] ∧ M (Old w0) w0 w [raw b11 (enc s16.1),raw b1 (enc (Vector.replicate 32 (0 : UInt8)))]) hl14 ⟨hE.sub ⟨rfl,rfl,rfl,rfl,rfl,rfl,trivial⟩,hM⟩ ?_
  rintro s16 a w ⟨hE,hM⟩ o19 hs17 hx18
  unfold Xw at hs17
  refine Zb (Zg hE rfl rfl rfl fun a hE=>Ze (wp_seq ?_))
  refine Zm hE rfl ?_ ?_
  ·intro hb20
   have hs17:=Zt hs17 hb20
   refine wp_skip (Zq (wp_seq (wp_block (Zb ?_))))
   obtain ⟨x21,hi23,hs17⟩:=bix hs17
   refine ZN hE rfl rfl Tryz.underlying56 Y3 (hM.rd hv1_1) hi23.1 fun a hE=>Zn hE rfl Y3 rfl (X0 (hM.rd hv1_1) hi23.2) cq fun a hE=>ZA hE hM Y3 fun b24 w a hM hE=>Zk (seg:=cat [[vI x21.Kind],[vI x21.Number],enc x21.Tag]) (cs':=cat [[vI x21.Kind],[vI x21.Number],enc x21.Tag]) hE hM Za rfl rfl rfl Y3 cq (Nat.le_of_eq ((Nat.zero_add _).trans (Eq.trans cq (Eq.symm cq)))) (ZX (cc1 (Flat.cell (x21.Kind : Int)) (cc1 (Flat.cell (x21.Number : Int)) (cc1 (Flat.cell _) cc0)))) (Zi (Eq.trans cq (Eq.symm cq))) fun w a hM hE=>Ze ?_
   obtain ⟨l27,e28,hs17⟩:=bind_some hs17
   have hb29:=Kc e28 -- ^
   obtain ⟨r32,e33,hs17⟩:=bind_some hs17
   obtain ⟨l35,e36,hs17⟩:=bind_some hs17
   have hb37:=Kc e36 -- ^
   refine XQ (its:=[raw b24 (cat [[vI x21.Kind],[vI x21.Number],enc x21.Tag]),raw b11 (enc s16.1),raw b1 (enc (Vector.replicate 32 (0 : UInt8)))]) (mk:=([mkO 5 (fun v=>osl NoB (([Zy x21.Kind] : List UInt8) : List UInt8) v),mkO 8 (fun v=>osl NoB (r32 : List UInt8) v),mkL 11 [5,8] 4 (fun us=>[(Z8 (.slice (some ⟨b11,0,none⟩) 32 32) ((0 : Int)).toNat ((32 : Int)).toNat 1),(us.getD 0 undef),(us.getD 1 undef),(Z8 (.slice (some ⟨b24,0 + 2,none⟩) 32 32) ((0 : Int)).toNat ((32 : Int)).toNat 1)])] : Mk)) [18,19,20,21,22,23,24,25,26,27,28,29] Y4 rfl rfl (by decide) rfl hE (fun u=>M.qE (M.qE (M.qE (M.q0 hM.drew u) emL) emO) emO) (qsP (fun z=>Zv z.E Za ld rfl (kr0 rfl)) (qsP (fun z=>TD (N:=32) z.E Za ld rfl rfl rfl rfl rfl Tryz.underlying35 ty5 hb29 (kr0 rfl)) (qsP (fun z=>Zs z.E Za ld rfl (Qh) (kr0 rfl)) (qsP (v:=(vI x21.Kind)) ?_ (qsP (fun z=>Yj z.E Za ld rfl Tryz.underlying2 Tryz.underlying5 (kr0 rfl)) (qsM (pr:=fun v=>True) ?_ (qsP (fun z=>Zs z.E Za ld rfl (Qm) (kr0 rfl)) (qsP (v:=(vI x21.Number)) ?_ (qsM (pr:=fun v=>True) ?_ (qsP (fun z=>Zs z.E Za ld rfl (Q5) (kr0 rfl)) (qsP (fun z=>TD (N:=32) z.E Za ld rfl rfl rfl rfl rfl Tryz.underlying35 ty5 hb37 (kr0 rfl)) (qsM (pr:=fun v=>True) ?_ qs0)))))))))))) ?_
   ·intro a w ux26 D z
    have hE:=z.E
    have hM:=z.M
    exact Zw (v:=(vI x21.Kind)) hE rfl ty2 rfl (At.cat (pre:=[]) hM.rawAt0 cl0) fun a hE=>⟨Kept.refl _ _,_,rfl,hE⟩
   ·intro a w ux26 D z
    have hE:=z.E
    have hD : D 5 = false:=z.F
    have hsL : D 11 = false:=BT (j:=11) (k:=1) z.c rfl rfl rfl hD
    have hM:=z.M
    refine Yi (xs:=[.tmp 22]) (l:=([Zy x21.Kind] : List UInt8)) (vs:=[(vB (Zy x21.Kind))]) hE hM Za ld rfl rfl Tryz.underlying40 ty5 rfl (by decide) rfl ?_; intro u30 w a hM hE
    have hM:=M.litOff (its:=_ :: [raw b24 (cat [[vI x21.Kind],[vI x21.Number],enc x21.Tag]),raw b11 (enc s16.1),raw b1 (enc (Vector.replicate 32 (0 : UInt8)))]) (mk:=([mkO 5 (fun v=>osl NoB (([Zy x21.Kind] : List UInt8) : List UInt8) v),mkO 8 (fun v=>osl NoB (r32 : List UInt8) v)] : Mk)) (i:=11) (ds:=[5,8]) (m:=4) (f:=(fun us=>[(Z8 (.slice (some ⟨b11,0,none⟩) 32 32) ((0 : Int)).toNat ((32 : Int)).toNat 1),(us.getD 0 undef),(us.getD 1 undef),(Z8 (.slice (some ⟨b24,0 + 2,none⟩) 32 32) ((0 : Int)).toNat ((32 : Int)).toNat 1)])) hM hsL
    exact ⟨_,_,rfl,hE,(M.litOn (its:=[raw b24 (cat [[vI x21.Kind],[vI x21.Number],enc x21.Tag]),raw b11 (enc s16.1),raw b1 (enc (Vector.replicate 32 (0 : UInt8)))]) (mk:=([mkO 5 (fun v=>osl NoB (([Zy x21.Kind] : List UInt8) : List UInt8) v),mkO 8 (fun v=>osl NoB (r32 : List UInt8) v)] : Mk)) (i:=11) (ds:=[5,8]) (m:=4) (f:=(fun us=>[(Z8 (.slice (some ⟨b11,0,none⟩) 32 32) ((0 : Int)).toNat ((32 : Int)).toNat 1),(us.getD 0 undef),(us.getD 1 undef),(Z8 (.slice (some ⟨b24,0 + 2,none⟩) 32 32) ((0 : Int)).toNat ((32 : Int)).toNat 1)])) (M.qFill (its:=[raw b24 (cat [[vI x21.Kind],[vI x21.Number],enc x21.Tag]),raw b11 (enc s16.1),raw b1 (enc (Vector.replicate 32 (0 : UInt8)))]) (mk1:=[]) (mk2:=[_]) (f:=(fun v=>osl NoB (([Zy x21.Kind] : List UInt8) : List UInt8) v)) hM rfl hD) hsL (by decide)),trivial⟩
   ·intro a w ux26 D z
    have hE:=z.E
    have hM:=z.M
    exact Zw (v:=(vI x21.Number)) hE rfl ty2 rfl (At.cat (pre:=[[vI x21.Kind]]) hM.rawAt0 ck) fun a hE=>⟨Kept.refl _ _,_,rfl,hE⟩
   ·intro a w ux26 D z
    have hE:=z.E
    have hD : D 8 = false:=z.F
    have hsL : D 11 = false:=BT (j:=11) (k:=2) z.c rfl rfl rfl hD
    have hM0:=z.M
    have hM:=z.M
    refine Zx hE rfl (cbm Tryz.func166) (QW _ x21.Number 4 r32 e33) ?_
    rintro _ w a ⟨_,rfl,hFr,hK⟩ hE
    have hM:=hM0.add hK hFr
    have hM:=M.litOff (its:=_ :: [raw b24 (cat [[vI x21.Kind],[vI x21.Number],enc x21.Tag]),raw b11 (enc s16.1),raw b1 (enc (Vector.replicate 32 (0 : UInt8)))]) (mk:=([mkO 5 (fun v=>osl NoB (([Zy x21.Kind] : List UInt8) : List UInt8) v),mkO 8 (fun v=>osl NoB (r32 : List UInt8) v)] : Mk)) (i:=11) (ds:=[5,8]) (m:=4) (f:=(fun us=>[(Z8 (.slice (some ⟨b11,0,none⟩) 32 32) ((0 : Int)).toNat ((32 : Int)).toNat 1),(us.getD 0 undef),(us.getD 1 undef),(Z8 (.slice (some ⟨b24,0 + 2,none⟩) 32 32) ((0 : Int)).toNat ((32 : Int)).toNat 1)])) hM hsL
    exact ⟨_,_,rfl,hE,(M.litOn (its:=[raw b24 (cat [[vI x21.Kind],[vI x21.Number],enc x21.Tag]),raw b11 (enc s16.1),raw b1 (enc (Vector.replicate 32 (0 : UInt8)))]) (mk:=([mkO 5 (fun v=>osl NoB (([Zy x21.Kind] : List UInt8) : List UInt8) v),mkO 8 (fun v=>osl NoB (r32 : List UInt8) v)] : Mk)) (i:=11) (ds:=[5,8]) (m:=4) (f:=(fun us=>[(Z8 (.slice (some ⟨b11,0,none⟩) 32 32) ((0 : Int)).toNat ((32 : Int)).toNat 1),(us.getD 0 undef),(us.getD 1 undef),(Z8 (.slice (some ⟨b24,0 + 2,none⟩) 32 32) ((0 : Int)).toNat ((32 : Int)).toNat 1)])) (M.qFill (its:=[raw b24 (cat [[vI x21.Kind],[vI x21.Number],enc x21.Tag]),raw b11 (enc s16.1),raw b1 (enc (Vector.replicate 32 (0 : UInt8)))]) (mk1:=[_]) (mk2:=[]) (f:=(fun v=>osl NoB (r32 : List UInt8) v)) hM rfl hD) hsL (by decide)),trivial⟩
   ·intro a w ux26 D z
    have hE:=z.E
    have hD : D 11 = false:=z.F
    have d5 : D 5 = true:=z.p 1 _ rfl rfl
    have d8 : D 8 = true:=z.p 2 _ rfl rfl
    have hM:=(z.M.sure (pre:=[_,_,_]) d5).sure (pre:=[_,_,_,_]) d8
    refine JE (xs:=[.tmp 19,.tmp 23,.tmp 26,.tmp 28]) (vs:=[(Z8 (.slice (some ⟨b11,0,none⟩) 32 32) ((0 : Int)).toNat ((32 : Int)).toNat 1),(ux26 5),(ux26 8),(Z8 (.slice (some ⟨b24,0 + 2,none⟩) 32 32) ((0 : Int)).toNat ((32 : Int)).toNat 1)]) hE hM Za ld rfl rfl Tryz.underlying23 Ui (by decide) (Q1 (Yz (Wr (At.sat hM.rawAt1 (by simp) (by decide)) e28)) (Q1 (Yz (hM.sl (pre:=[_,_,_]) noB)) (Q1 (Yz (hM.sl (pre:=[_,_,_,_]) noB)) (Q1 (Yz (Wr (At.sat (At.cat (pre:=[[vI x21.Kind],[vI x21.Number]]) hM.rawAt0 ck) (by simp) (by decide)) e36)) y6)))) ?_; intro b38 w a hM hE
    have hM:=(hM.unsure (pre:=[_,_,_,_,_]) d8).unsure (pre:=[_,_,_,_]) d5
    exact ⟨_,_,rfl,hE,M.litFill (its:=[raw b24 (cat [[vI x21.Kind],[vI x21.Number],enc x21.Tag]),raw b11 (enc s16.1),raw b1 (enc (Vector.replicate 32 (0 : UInt8)))]) (mk:=([mkO 5 (fun v=>osl NoB (([Zy x21.Kind] : List UInt8) : List UInt8) v),mkO 8 (fun v=>osl NoB (r32 : List UInt8) v)] : Mk)) (i:=11) (ds:=[5,8]) (m:=4) (f:=(fun us=>[(Z8 (.slice (some ⟨b11,0,none⟩) 32 32) ((0 : Int)).toNat ((32 : Int)).toNat 1),(us.getD 0 undef),(us.getD 1 undef),(Z8 (.slice (some ⟨b24,0 + 2,none⟩) 32 32) ((0 : Int)).toNat ((32 : Int)).toNat 1)])) hM rfl hD (by decide),trivial⟩
   ·intro a w ux26 D hE hM hG hall
    have d5:=hall 5 (by decide)
    have d8:=hall 8 (by decide)
    have d11:=hall 11 (by decide)
    have hM:=(((hM.sure (pre:=[_,_,_]) d5).sure (pre:=[_,_,_,_]) d8).sure (pre:=[_,_,_,_,_]) d11).pull
    obtain ⟨b40,f41,hM⟩:=M.litOpen hM
    have hE:=hE.setq (t:=29) rfl f41
    obtain ⟨r42,e43,hs17⟩:=bind_some hs17
    refine Zx hE rfl (cbm Tryz.func69) (T6 _ p0 v0_1 (hM.rdo hv0_1) ([l27,([Zy x21.Kind] : List UInt8),r32,l35] : (List (List UInt8))) (Value.slice (some ⟨b40,0,none⟩) 4 4) (jz hM.rawAt0 (hM.rawLt (pre:=[])) ⟨(Wr (At.sat hM.rawAt2 (by simp) (by decide)) e28),(hM.sl (pre:=[_,_,_,_]) noB),(hM.sl (pre:=[_,_,_,_,_]) noB),(Wr (At.sat (At.cat (pre:=[[vI x21.Kind],[vI x21.Number]]) hM.rawAt1 ck) (by simp) (by decide)) e36),trivial⟩ rfl) r42 e43) ?_
    rintro v w a ⟨rfl,hK⟩ hE
    have hM:=(hM.keep hK).pull2
    refine Zk (seg:=enc r42) (cs':=enc r42) hE hM Za rfl rfl rfl Yt (Flat.len _) (zle flq) (Flat.cell _) (Zi flq) fun w a hM hE=>Zh (Z2 (Zq (wp_region_lit (Zg hE rfl rfl rfl fun a hE=>Zd hE rfl fun a hE=>Zh (Zj ?_)))))
    have hM:=M.fst (l:=[_,_]) hM.pull3.pull1
    exact ⟨_,(ois hs17),hE.sub ⟨rfl,rfl,rfl,rfl,rfl,rfl,trivial⟩,hM⟩
  ·intro hb20
   have hs17:=Zu hs17 hb20
   refine wp_exit (Zl (Zl (Z3 ?_)))
   obtain rfl:=hx18 _ (ois hs17)
   refine Zj ?_
   exact ⟨hE.sub ⟨rfl,rfl,trivial⟩,hM⟩
 ·skip
  rintro a w ⟨hE,hM⟩
  refine Zq (Zb (Zn hE rfl Yt rfl hM.rawAt0 (Flat.len _) ?_)); intro a hE
  have hM:=hM.pull1
  refine Zk (seg:=enc j13) (cs':=enc j13) hE hM Za rfl rfl rfl Yt (Flat.len _) (zle flq) (Flat.cell _) (Zi flq) fun w a hM hE=>Ze ?_
  obtain rfl:=Option.some.inj hF15
  have hq45 : Yu Tryz.prog _ _ (.cell 4 35) _:=ZJ hE rfl Yt rfl hM.rawAt0 (Flat.len _) rfl
  exact wp_ret (ZL hE rfl hq45 ⟨_,rfl,rfl,hM.kept⟩)
def Wq (p0 : (Ref Gengine)) (p1 : GVault) (p2 : GEvent) : Option (GVault) :=
 (app 48 p1.Events ([p2] : List GEvent)).bind fun l9=>(WS p0 (p1.Events ++ ([p2] : List GEvent))).bind fun r14=>some (⟨p1.Keys,p1.Next,p1.Records,(p1.Events ++ ([p2] : List GEvent)),r14⟩ : GVault)
theorem KS (St : Nat → Prop) (W w0 : World) (its : List Item) (p0 : (Ref Gengine)) (v0_1 : Value) (hv0_1 : Rep.sat St W p0 [v0_1] []) (p1 : GVault) (v1_1 : Value) (v1_2 : Value) (v1_3 : Value) (p2 : GEvent) (hM : M St W w0 (osl NoB (p1.Keys : List (Vector UInt8 16)) v1_1 :: osl NoB (p1.Records : List GRecord) v1_2 :: osl NoB (p1.Events : List GEvent) v1_3 :: its)) (r : GVault) (hF : Wq p0 p1 p2 = some r) :
  Calls Tryz.prog 90 [v0_1,(Value.agg (cat [[v1_1],[vI p1.Next],[v1_2],[v1_3],enc p1.Head]).toArray),(Value.agg (enc p2).toArray)].toArray w0 (fun en w'=>∃ v,en = .returned v ∧ (∃ (y1 : Value) (y2 : Value) (y3 : Value),v = (Value.agg (cat [[y1],[vI r.Next],[y2],[y3],enc r.Head]).toArray) ∧ M St W w' (osl NoB (r.Keys : List (Vector UInt8 16)) y1 :: osl NoB (r.Records : List GRecord) y2 :: osl NoB (r.Events : List GEvent) y3 :: its))):=by
 refine ce Tryz.func90 ?_
 intro a hE
 unfold Wq at hF
 refine Zb (ZV (cs:=cat [[v1_1],[vI p1.Next],[v1_2],[v1_3],enc p1.Head]) hE hM Za ld rfl rfl fun b1 w a hM hE=>ZV (cs:=cat [[vI p2.Kind],[vI p2.Number],enc p2.Tag]) hE hM Za ld rfl rfl fun b3 w a hM hE=>ZA hE hM Ys fun b5 w a hM hE=>Ze (Zb (Zf hE rfl (VM) fun a hE=>Zw (v:=v1_3) hE rfl QM rfl (At.cat (pre:=[[v1_1],[vI p1.Next],[v1_2]]) hM.rawAt2 ck) fun a hE=>Zn hE rfl Y3 rfl hM.rawAt1 cq fun a hE=>Yi (xs:=[.tmp 9]) (l:=([p2] : List GEvent)) (vs:=[(Value.agg (enc p2).toArray)]) hE hM Za ld rfl rfl Tryz.underlying56 Y3 rfl (by decide) rfl ?_))); intro u7 w a hM hE
 obtain ⟨l9,e10,hF⟩:=bind_some hF
 obtain ⟨e13,rfl⟩:=Yr e10
 have hM:=hM.pull6
 refine Yh hE hM Za ld rfl rfl (hM.sl (pre:=[_]) noB) Tryz.underlying56 Y3 rfl (by decide) e13 fun u11 w a hM hE=>Zf hE rfl (VM) ?_; intro a hE
 have hM:=hM.pull4
 refine Zk (seg:=[u11]) hE hM Za rfl rfl (Yz (hM.sl (pre:=[_]) noB)) QM rfl (YK (pre:=[[v1_1],[vI p1.Next],[v1_2]]) ck rfl) (Rep.cell (hM.sl (pre:=[_]) noB)) (ZR (pre:=[[v1_1],[vI p1.Next],[v1_2]]) ck rfl) fun w a hM hE=>Ze (Zb (Zd hE rfl fun a hE=>Zf hE rfl (VM) fun a hE=>Zw (v:=u11) hE rfl QM rfl (At.cat (pre:=[[v1_1],[vI p1.Next],[v1_2]]) hM.rawAt0 ck) ?_)); intro a hE
 obtain ⟨r14,e15,hF⟩:=bind_some hF
 refine Zx hE rfl (cbm Tryz.func113) (Jh _ p0 v0_1 (hM.rdo hv0_1) (p1.Events ++ ([p2] : List GEvent)) u11 (hM.sl (pre:=[_]) noB) r14 e15) ?_
 rintro v w a ⟨rfl,hK⟩ hE
 have hM:=hM.keep hK
 refine Zf hE rfl (Jb) fun a hE=>Zk (seg:=enc r14) hE hM Za rfl rfl rfl Yt (Flat.len _) (YK (pre:=[[v1_1],[vI p1.Next],[v1_2],[u11]]) ck flq) (Flat.cell _) (ZR (pre:=[[v1_1],[vI p1.Next],[v1_2],[u11]]) ck flq) fun w a hM hE=>Ze (Zb (Zn hE rfl Ys rfl hM.rawAt0 cq ?_)); intro a hE
 have hM:=hM.pull3
 refine Zk (seg:=cat [[v1_1],[vI p1.Next],[v1_2],[u11],enc r14]) (cs':=cat [[v1_1],[vI p1.Next],[v1_2],[u11],enc r14]) hE hM Za rfl rfl rfl Ys cq (Nat.le_of_eq ((Nat.zero_add _).trans (Eq.trans cq (Eq.symm cq)))) (ZX (cc1 (Rep.cell (hM.sl (pre:=[_,_,_,_,_]) noB)) (cc1 (Flat.cell (p1.Next : Int)) (cc1 (Rep.cell (hM.sl (pre:=[_,_,_,_,_,_]) noB)) (cc1 (Rep.cell (hM.sl (pre:=[_,_]) noB)) (cc1 (Flat.cell _) cc0)))))) (Zi (Eq.trans cq (Eq.symm cq))) fun w a hM hE=>Ze ?_
 obtain rfl:=Option.some.inj hF
 have hq16 : Yu Tryz.prog _ _ (.cell 6 58) _:=ZJ hE rfl Ys rfl hM.rawAt0 cq rfl
 have hM:=((((hM.pull2.pull6.pull6.pull6).drop.pull5).drop.pull4).drop.pull3).drop
 exact wp_ret (ZL hE rfl hq16 ⟨_,rfl,v1_1,v1_2,u11,rfl,hM⟩)
def Wa (p0 : GVault) (p1 : Int) : Option (GVault × Int) :=
 (WV p0 p1).bind fun r5=>if (r5.2 != 0) = true then (some ((⟨[],0,[],[],(Vector.replicate 32 (0 : UInt8))⟩ : GVault),r5.2)) else (if ((p0.Events.length : Int) == 60) = true then (some ((⟨[],0,[],[],(Vector.replicate 32 (0 : UInt8))⟩ : GVault),3)) else ((WR p0).bind fun r17=>(YI r17.Records r5.1 (wr (r5.1 + 1))).bind fun r24=>((WZ).bind fun r37=>(Wq r37 (⟨r17.Keys,r17.Next,r24,r17.Events,r17.Head⟩ : GVault) (⟨2,p1,(Vector.replicate 32 (0 : UInt8))⟩ : GEvent)).bind fun r40=>some (r40.Keys,r40.Next,r40.Records,r40.Events,r40.Head) : Option ((List (Vector UInt8 16)) × Int × (List GRecord) × (List GEvent) × (Vector UInt8 32))).bind fun j27=>some ((⟨j27.1,j27.2.1,j27.2.2.1,j27.2.2.2.1,j27.2.2.2.2⟩ : GVault),0)))
theorem QG (w0 : World) (p0 : GVault) (v0_1 : Value) (hv0_1 : Ro w0 p0.Keys [v0_1]) (v0_2 : Value) (hv0_2 : Ro w0 p0.Records [v0_2]) (v0_3 : Value) (hv0_3 : Ro w0 p0.Events [v0_3]) (p1 : Int) (r : GVault × Int) (hF : Wa p0 p1 = some r) :
  Calls Tryz.prog 26 [(Value.agg (cat [[v0_1],[vI p0.Next],[v0_2],[v0_3],enc p0.Head]).toArray),vI p1].toArray w0 (fun en w'=>∃ v,en = .returned v ∧ (∃ (y1 : Value) (y2 : Value) (y3 : Value),v = (Value.tuple [(Value.agg (cat [[y1],[vI r.1.Next],[y2],[y3],enc r.1.Head]).toArray),vI r.2].toArray) ∧ Fr w0 w' [osl NoB (r.1.Keys : List (Vector UInt8 16)) y1,osl NoB (r.1.Records : List GRecord) y2,osl NoB (r.1.Events : List GEvent) y3] ∧ Kept (Old w0) w0 w')):=by
 refine ce Tryz.func26 ?_
 intro a hE
 have hM:=M.start w0
 unfold Wa at hF
 refine Zb (ZV (cs:=cat [[v0_1],[vI p0.Next],[v0_2],[v0_3],enc p0.Head]) hE hM Za ld rfl rfl fun b1 w a hM hE=>ZA hE hM Ys fun b3 w a hM hE=>Zc hE rfl fun a hE=>Ze (Zb (Zn hE rfl Ys rfl hM.rawAt1 cq fun a hE=>Zd hE rfl ?_))); intro a hE
 obtain ⟨r5,e6,hF⟩:=bind_some hF
 refine Zx hE rfl (cbm Tryz.func86) (Jo _ p0 v0_1 (hM.rdo hv0_1) v0_2 (hM.rdo hv0_2) v0_3 (hM.rdo hv0_3) p1 r5 e6) ?_
 rintro v w a ⟨rfl,hK⟩ hE
 have hM:=hM.keep hK
 refine Zd hE rfl fun a hE=>W7 hE Za ld rfl rfl fun a hE=>W7 hE Za ld rfl rfl fun a hE=>Zc hE rfl fun a hE=>Zc hE rfl fun a hE=>Ze (wp_seq (wp_block (Zb (Zd hE rfl fun a hE=>Zg hE rfl rfl rfl fun a hE=>Zc hE rfl fun a hE=>Ze ?_))))
 refine Zm hE rfl ?_ ?_
 ·intro hb7
  have hF:=Zt hF hb7
  refine Zb (Wl (parts:=[]) (vs:=[]) (cs:=cat [[(Value.slice none 0 0)],[vI 0],[(Value.slice none 0 0)],[(Value.slice none 0 0)],enc (Vector.replicate 32 (0 : UInt8))]) hE Za ld rfl rfl Ys jA Uq fun a hE=>Zd hE rfl fun a hE=>Zk (seg:=cat [[(Value.slice none 0 0)],[vI 0],[(Value.slice none 0 0)],[(Value.slice none 0 0)],enc (Vector.replicate 32 (0 : UInt8))]) (cs':=cat [[(Value.slice none 0 0)],[vI 0],[(Value.slice none 0 0)],[(Value.slice none 0 0)],enc (Vector.replicate 32 (0 : UInt8))]) hE hM Za rfl rfl rfl Ys cq (Nat.le_of_eq ((Nat.zero_add _).trans (Eq.trans cq (Eq.symm cq)))) (ZX (cc1 Vn (cc1 (Flat.cell (0 : Int)) (cc1 Vn (cc1 Vn (cc1 (Flat.cell _) cc0)))))) (Zi (Eq.trans cq (Eq.symm cq))) fun w a hM hE=>Zc hE rfl fun a hE=>Ze ?_)
  have hM:=M.nilS (α:=GEvent) NoB noB (M.nilS (α:=GRecord) NoB noB (M.nilS (α:=(Vector UInt8 16)) NoB noB hM))
  obtain rfl:=Option.some.inj hF
  have hq11 : Yu Tryz.prog _ _ (.cell 4 58) _:=ZJ hE rfl Ys rfl hM.rawAt3 cq rfl
  have hM:=M.fst (l:=[_,_,_]) hM.pull1.pull2
  exact wp_ret (Yf (Zo (T0 hE rfl hq11 (ZT hE rfl) ⟨_,rfl,(Value.slice none 0 0),(Value.slice none 0 0),(Value.slice none 0 0),rfl,hM.outF (Yq (Yq (Yq Xy))),hM.kept⟩)))
 ·intro hb7
  have hF:=Zu hF hb7
  refine Zb (Zf hE rfl (VM) fun a hE=>Zw (v:=v0_3) hE rfl QM rfl (At.cat (pre:=[[v0_1],[vI p0.Next],[v0_2]]) hM.rawAt1 ck) fun a hE=>Yb hE rfl Tryz.underlying56 (hM.rd hv0_3) fun a hE=>Zg hE rfl rfl rfl fun a hE=>Zc hE rfl fun a hE=>Ze ?_)
  refine Zm hE rfl ?_ ?_
  ·intro hb12
   have hF:=Zt hF hb12
   refine Zb (Wl (parts:=[]) (vs:=[]) (cs:=cat [[(Value.slice none 0 0)],[vI 0],[(Value.slice none 0 0)],[(Value.slice none 0 0)],enc (Vector.replicate 32 (0 : UInt8))]) hE Za ld rfl rfl Ys jA Uq fun a hE=>Zk (seg:=cat [[(Value.slice none 0 0)],[vI 0],[(Value.slice none 0 0)],[(Value.slice none 0 0)],enc (Vector.replicate 32 (0 : UInt8))]) (cs':=cat [[(Value.slice none 0 0)],[vI 0],[(Value.slice none 0 0)],[(Value.slice none 0 0)],enc (Vector.replicate 32 (0 : UInt8))]) hE hM Za rfl rfl rfl Ys cq (Nat.le_of_eq ((Nat.zero_add _).trans (Eq.trans cq (Eq.symm cq)))) (ZX (cc1 Vn (cc1 (Flat.cell (0 : Int)) (cc1 Vn (cc1 Vn (cc1 (Flat.cell _) cc0)))))) (Zi (Eq.trans cq (Eq.symm cq))) fun w a hM hE=>Zc hE rfl fun a hE=>Ze ?_)
   have hM:=M.nilS (α:=GEvent) NoB noB (M.nilS (α:=GRecord) NoB noB (M.nilS (α:=(Vector UInt8 16)) NoB noB hM))
   obtain rfl:=Option.some.inj hF
   have hq16 : Yu Tryz.prog _ _ (.cell 4 58) _:=ZJ hE rfl Ys rfl hM.rawAt3 cq rfl
   have hM:=M.fst (l:=[_,_,_]) hM.pull1.pull2
   exact wp_ret (Yf (Zo (T0 hE rfl hq16 (ZT hE rfl) ⟨_,rfl,(Value.slice none 0 0),(Value.slice none 0 0),(Value.slice none 0 0),rfl,hM.outF (Yq (Yq (Yq Xy))),hM.kept⟩)))
  ·intro hb12
   have hF:=Zu hF hb12
   refine wp_skip (Z2 (Zq (Zb (Zn hE rfl Ys rfl hM.rawAt1 cq ?_)))); intro a hE
   obtain ⟨r17,e18,hF⟩:=bind_some hF
   refine Zx hE rfl (cbm Tryz.func87) (Ja _ p0 v0_1 (hM.rdo hv0_1) v0_2 (hM.rdo hv0_2) v0_3 (hM.rdo hv0_3) r17 e18) ?_
   rintro v w a ⟨u19,u20,u21,rfl,hFr,hK⟩ hE
   have hM:=hM.add hK hFr
   refine ZA hE hM Ys fun b22 w a hM hE=>Zk (seg:=cat [[u19],[vI r17.Next],[u20],[u21],enc r17.Head]) (cs':=cat [[u19],[vI r17.Next],[u20],[u21],enc r17.Head]) hE hM Za rfl rfl rfl Ys cq (Nat.le_of_eq ((Nat.zero_add _).trans (Eq.trans cq (Eq.symm cq)))) (ZX (cc1 (Rep.cell (hM.sl (pre:=[_]) noB)) (cc1 (Flat.cell (r17.Next : Int)) (cc1 (Rep.cell (hM.sl (pre:=[_,_]) noB)) (cc1 (Rep.cell (hM.sl (pre:=[_,_,_]) noB)) (cc1 (Flat.cell _) cc0)))))) (Zi (Eq.trans cq (Eq.symm cq))) fun w a hM hE=>Ze (Zb (Zf hE rfl (X1) fun a hE=>Zw (v:=u20) hE rfl TZ rfl (At.cat (pre:=[[u19],[vI r17.Next]]) hM.rawAt0 ck) fun a hE=>Zd hE rfl fun a hE=>Zd hE rfl fun a hE=>Zg hE rfl rfl rfl ?_)); intro a hE
   have hM:=hM.pull2
   have hM0:=hM
   obtain ⟨r24,e25,hF⟩:=bind_some hF
   refine Zx hE rfl (cbm Tryz.func88) (UE _ _ _ _ r17.Records u20 r5.1 (wr (r5.1 + 1)) hM r24 e25) ?_
   rintro u26 w a ⟨_,rfl,hM⟩ hE
   refine Zf hE rfl (X1) ?_; intro a hE
   have hM:=hM.pull1
   refine Zk (seg:=[u26]) hE hM Za rfl rfl (Yz (hM.sl (pre:=[_]) noB)) TZ rfl (YK (pre:=[[u19],[vI r17.Next]]) ck rfl) (Rep.cell (hM.sl (pre:=[_]) noB)) (ZR (pre:=[[u19],[vI r17.Next]]) ck rfl) fun w a hM hE=>Ze ?_
   obtain ⟨j27,hl28,hF29⟩:=bind_some hF
   refine ZQ (fun a w=>∃ (u30 : Value) (u32 : Value) (u34 : Value),Env 40 a [(4,(ptr b3 0)),(5,vI 0)] ∧ M (Old w0) w0 w [raw b3 (cat [[u30],[vI j27.2.1],[u32],[u34],enc j27.2.2.2.2]),osl NoB (j27.1 : List (Vector UInt8 16)) u30,osl NoB (j27.2.2.1 : List GRecord) u32,osl NoB (j27.2.2.2.1 : List GEvent) u34]) ?_ ?_
   ·skip
    obtain ⟨r37,e38,hl28⟩:=bind_some hl28
    refine XQ (its:=[raw b22 (cat [[u19],[vI r17.Next],[u26],[u21],enc r17.Head]),osl NoB (r24 : List GRecord) u26,osl NoB (r17.Keys : List (Vector UInt8 16)) u19,osl NoB (r17.Events : List GEvent) u21,raw b3 (cat [[(Value.slice none 0 0)],[vI 0],[(Value.slice none 0 0)],[(Value.slice none 0 0)],enc (Vector.replicate 32 (0 : UInt8))]),raw b1 (cat [[v0_1],[vI p0.Next],[v0_2],[v0_3],enc p0.Head])]) (mk:=([mkO 0 (fun v=>own NoB (r37 : (Ref Gengine)) [v])] : Mk)) [35,36,37,38] Y4 rfl rfl (by decide) rfl hE (fun u=>M.qE (M.q0 hM.drew u) emO) (qsM (pr:=fun v=>True) ?_ (qsP (v:=(Value.agg (cat [[u19],[vI r17.Next],[u26],[u21],enc r17.Head]).toArray)) ?_ (qsP (fun z=>Zv z.E Za ld rfl (kr0 rfl)) (qsP (fun z=>Wl (parts:=[(0,.const (vI 2)),(1,.tmp 37)]) (vs:=[(0,vI 2),(1,vI p1)]) (cs:=cat [[vI 2],[vI p1],enc (Vector.replicate 32 (0 : UInt8))]) z.E Za ld rfl rfl Y3 pl131 (Ym (pre:=[]) (seg:=[vI 0]) (seg':=[vI 2]) (post:=[[vI 0],enc (Vector.replicate 32 (0 : UInt8))]) rfl cl0 rfl rfl rfl (Ym (pre:=[[vI 2]]) (seg:=[vI 0]) (seg':=[vI p1]) (post:=[enc (Vector.replicate 32 (0 : UInt8))]) rfl ck rfl rfl rfl Uq)) (kr0 rfl)) qs0)))) ?_
    ·intro a w ux36 D z
     have hE:=z.E
     have hD : D 0 = false:=z.F
     have hM0:=z.M
     have hM:=z.M
     refine Zx hE rfl (cbm Tryz.func89) (Je _  r37 e38) ?_
     rintro _ w a ⟨_,rfl,hFr,hK⟩ hE
     have hM:=hM0.add hK hFr
     exact ⟨_,_,rfl,hE,M.qFill (mk1:=[]) (mk2:=[]) (f:=(fun v=>own NoB (r37 : (Ref Gengine)) [v])) hM rfl hD,trivial⟩
    ·intro a w ux36 D z
     have hE:=z.E
     have hM:=z.M
     exact Zn hE rfl Ys rfl hM.rawAt0 cq fun a hE=>⟨Kept.refl _ _,_,rfl,hE⟩
    ·intro a w ux36 D hE hM hG hall
     have d0:=hall 0 (by decide)
     have hM:=((((hM.sure (pre:=[_,_,_,_,_,_]) d0).pull3).pull2).pull3).pull6
     have hM0:=hM
     obtain ⟨S42,hs43,hx44,hM,hbk45⟩:=M.freeze [_,_,_] hM noB
     obtain ⟨r40,e41,hl28⟩:=bind_some hl28
     refine Zx hE rfl (cbm Tryz.func90) (KS _ _ _ _ r37 (ux36 0) hx44 (⟨r17.Keys,r17.Next,r24,r17.Events,r17.Head⟩ : GVault) u19 u26 u21 (⟨2,p1,(Vector.replicate 32 (0 : UInt8))⟩ : GEvent) hM r40 e41) ?_
     rintro v w a ⟨u46,u47,u48,rfl,hM⟩ hE
     have hM:=hbk45 _ [_,_,_] (Yq (Yq (Yq Xy))) hM
     simp only [List.cons_append,List.nil_append] at hM
     have hM:=hM.pull5
     refine Zk (seg:=cat [[u46],[vI r40.Next],[u47],[u48],enc r40.Head]) (cs':=cat [[u46],[vI r40.Next],[u47],[u48],enc r40.Head]) hE hM Za rfl rfl rfl Ys cq (Nat.le_of_eq ((Nat.zero_add _).trans (Eq.trans cq (Eq.symm cq)))) (ZX (cc1 (Rep.cell (hM.sl (pre:=[_,_]) noB)) (cc1 (Flat.cell (r40.Next : Int)) (cc1 (Rep.cell (hM.sl (pre:=[_,_,_]) noB)) (cc1 (Rep.cell (hM.sl (pre:=[_,_,_,_]) noB)) (cc1 (Flat.cell _) cc0)))))) (Zi (Eq.trans cq (Eq.symm cq))) fun w a hM hE=>Zc hE rfl fun a hE=>Zh ?_
     obtain rfl:=Option.some.inj hl28
     refine Zj ?_
     have hM:=M.fst (l:=[_,_,_,_]) hM.pull4.pull4.pull4.pull3
     exact ⟨u46,u47,u48,hE.sub ⟨rfl,rfl,trivial⟩,hM⟩
   ·skip
    rintro a w ⟨u30,u32,u34,hE,hM⟩
    obtain rfl:=Option.some.inj hF29
    have hq50 : Yu Tryz.prog _ _ (.cell 4 58) _:=ZJ hE rfl Ys rfl hM.rawAt0 cq rfl
    have hM:=M.fst (l:=[_,_,_]) hM.pull3.pull3.pull3
    exact wp_ret (T0 hE rfl hq50 (ZT hE rfl) ⟨_,rfl,u30,u32,u34,rfl,hM.outF (Yq (Yq (Yq Xy))),hM.kept⟩)
def TC (p0 : (Vector UInt8 16)) (p1 : (Vector UInt8 16)) (s9 : Int) : Option (Fl Int (Fl Unit Bool)) :=
 if (decide (s9 < 16)) = true then (((ZH p0 s9).bind fun x19=>(ZH p1 s9).bind fun x22=>some (x19 != x22) : Option (Bool)).bind fun j14=>if j14 = true then (some (Fl.ex (Fl.ex false))) else (some (Fl.nx (wr (s9 + 1))))) else (some (Fl.ex (Fl.nx ())))
def WU (p0 : (Vector UInt8 16)) (p1 : (Vector UInt8 16)) : Option (Bool) :=
 (ZB (TC p0 p1) 0).bind fun j5=>j5.el (fun s8=>some true) (fun r=>some r)
theorem KG (w0 : World) (p0 : (Vector UInt8 16)) (p1 : (Vector UInt8 16)) (r : Bool) (hF : WU p0 p1 = some r) :
  Calls Tryz.prog 150 [(Value.agg (enc p0).toArray),(Value.agg (enc p1).toArray)].toArray w0 (Rt w0 (vT r)):=by
 refine ce Tryz.func150 ?_
 intro a hE
 have hM:=M.start w0
 unfold WU at hF
 refine Zb (ZV (cs:=enc p0) hE hM Za ld rfl rfl fun b1 w a hM hE=>ZV (cs:=enc p1) hE hM Za ld rfl rfl fun b3 w a hM hE=>Zc hE rfl fun a hE=>Ze (wp_seq (Zb (Zc hE rfl fun a hE=>Ze ?_))))
 obtain ⟨j5,hl6,hF7⟩:=bind_some hF
 refine ZI (fun a w=>∃ s8 : Unit,j5 = Fl.nx s8 ∧ Env 17 a [] ∧ M (Old w0) w0 w []) ?_ ?_
 ·skip
  refine wp_block ?_
  refine ZD (fun (s9 : Int) a w=>Env 17 a [(2,(ptr b1 0)),(3,(ptr b3 0)),(5,vI s9)] ∧ M (Old w0) w0 w [raw b3 (enc p1),raw b1 (enc p0)]) hl6 ⟨hE.sub ⟨rfl,rfl,rfl,trivial⟩,hM⟩ ?_
  rintro s9 a w ⟨hE,hM⟩ o12 hs10 hx11
  unfold TC at hs10
  refine wp_seq (Zb (Zd hE rfl fun a hE=>Zg hE rfl rfl rfl fun a hE=>Ze ?_))
  refine Zm hE rfl ?_ ?_
  ·intro hb13
   have hs10:=Zt hs10 hb13
   refine wp_skip (Zq (wp_seq (wp_block ?_)))
   obtain ⟨j14,hl15,hF16⟩:=bind_some hs10
   refine ZQ (fun a w=>Env 17 a [(2,(ptr b1 0)),(3,(ptr b3 0)),(5,vI s9),(16,vT j14)] ∧ M (Old w0) w0 w [raw b3 (enc p1),raw b1 (enc p0)]) ?_ ?_
   ·skip
    obtain ⟨x19,hi18,hl15⟩:=bvx hl15
    obtain ⟨x22,hi21,hl15⟩:=bvx hl15
    refine Yc [10,11,12,13,14,15,16] Y4 rfl rfl (by decide) rfl hE hM (qsP (fun z=>Zv z.E Za ld rfl (kr0 rfl)) (qsP (fun z=>ZF z.E Za ld rfl rfl Tryz.underlying68 ty5 hi18.1 (kr0 rfl)) (qsP (fun z=>ZS (v:=(vB x19)) z.E Za ld rfl ty5 rfl (At.vec (z.M.rawAt1) hi18.2) (kr0 rfl)) (qsP (fun z=>Zv z.E Za ld rfl (kr0 rfl)) (qsP (fun z=>ZF z.E Za ld rfl rfl Tryz.underlying68 ty5 hi21.1 (kr0 rfl)) (qsP (fun z=>ZS (v:=(vB x22)) z.E Za ld rfl ty5 rfl (At.vec (z.M.rawAt0) hi21.2) (kr0 rfl)) (qsP (fun z=>Yv z.E Za ld rfl rfl (Q7 x19 x22) (kr0 rfl)) qs0))))))) ?_
    ·intro a w u hE hM
     refine Zh ?_
     obtain rfl:=Option.some.inj hl15
     refine Zj ?_
     exact ⟨hE.sub ⟨rfl,rfl,rfl,rfl,trivial⟩,hM⟩
   ·skip
    rintro a w ⟨hE,hM⟩
    refine Zm hE rfl ?_ ?_
    ·intro hb25
     have hF16:=Zt hF16 hb25
     refine Zb (Zc hE rfl fun a hE=>Ze ?_)
     obtain rfl:=hx11 _ (ois hF16)
     obtain rfl:=Option.some.inj hF7
     exact wp_ret (Yf (Zo (Zo (Yf (Zo (Zo (kr1 hE rfl rfl hM.kept)))))))
    ·intro hb25
     have hF16:=Zu hF16 hb25
     refine wp_skip (Z2 (Zq (wp_region_lit (Zd hE rfl fun a hE=>Zg hE rfl rfl rfl fun a hE=>Zc hE rfl fun a hE=>Zh (Zj ?_)))))
     exact ⟨_,(ois hF16),hE.sub ⟨rfl,rfl,rfl,trivial⟩,hM⟩
  ·intro hb13
   have hs10:=Zu hs10 hb13
   refine wp_exit (Zl (Zl (Z3 ?_)))
   obtain rfl:=hx11 _ (ois hs10)
   refine Zj ?_
   have hM:=M.fst (l:=[]) hM
   exact ⟨(),rfl,hE.sub trivial,hM⟩
 ·skip
  rintro a w ⟨s8,ht,hE,hM⟩
  subst ht
  have hF7:=Tg hF7
  refine Zq (Zb (Zc hE rfl fun a hE=>Ze ?_))
  obtain rfl:=Option.some.inj hF7
  exact wp_ret (kr1 hE rfl rfl hM.kept)
def Tc (p0 : (List (Vector UInt8 16))) (p1 : (List (Vector UInt8 16))) (s6 : Int) : Option (Fl Int (Fl Unit Bool)) :=
 if (decide (s6 < (p0.length : Int))) = true then (((idx p0 s6).bind fun x15=>(idx p1 s6).bind fun x18=>(WU x15 x18).bind fun r21=>some (!r21) : Option (Bool)).bind fun j11=>if j11 = true then (some (Fl.ex (Fl.ex false))) else (some (Fl.nx (wr (s6 + 1))))) else (some (Fl.ex (Fl.nx ())))
def Uo (p0 : (List (Vector UInt8 16))) (p1 : (List (Vector UInt8 16))) : Option (Bool) :=
 if ((p0.length : Int) != (p1.length : Int)) = true then (some false) else ((ZB (Tc p0 p1) 0).bind fun j2=>j2.el (fun s5=>some true) (fun r=>some r))
theorem H3 (w0 : World) (p0 : (List (Vector UInt8 16))) (v0_1 : Value) (hv0_1 : Ro w0 p0 [v0_1]) (p1 : (List (Vector UInt8 16))) (v1_1 : Value) (hv1_1 : Ro w0 p1 [v1_1]) (r : Bool) (hF : Uo p0 p1 = some r) :
  Calls Tryz.prog 91 [v0_1,v1_1].toArray w0 (Rt w0 (vT r)):=by
 refine ce Tryz.func91 ?_
 intro a hE
 have hM:=M.start w0
 unfold Uo at hF
 refine Zb (Zc hE rfl fun a hE=>Ze (wp_seq (Zb (Zd hE rfl fun a hE=>Yb hE rfl Tryz.underlying54 (hM.rd hv0_1) fun a hE=>Zd hE rfl fun a hE=>Yb hE rfl Tryz.underlying54 (hM.rd hv1_1) fun a hE=>Zg hE rfl rfl rfl fun a hE=>Ze ?_))))
 refine Zm hE rfl ?_ ?_
 ·intro hb1
  have hF:=Zt hF hb1
  refine Zb (Zc hE rfl fun a hE=>Ze ?_)
  obtain rfl:=Option.some.inj hF
  exact wp_ret (Zo (kr1 hE rfl rfl hM.kept))
 ·intro hb1
  have hF:=Zu hF hb1
  refine wp_skip (Zq (wp_seq (Zb (Zc hE rfl fun a hE=>Ze ?_))))
  obtain ⟨j2,hl3,hF4⟩:=bind_some hF
  refine ZI (fun a w=>∃ s5 : Unit,j2 = Fl.nx s5 ∧ Env 27 a [] ∧ M (Old w0) w0 w []) ?_ ?_
  ·skip
   refine wp_block ?_
   refine ZD (fun (s6 : Int) a w=>Env 27 a [(0,v0_1),(1,v1_1),(5,vI s6)] ∧ M (Old w0) w0 w []) hl3 ⟨hE.sub ⟨rfl,rfl,rfl,trivial⟩,hM⟩ ?_
   rintro s6 a w ⟨hE,hM⟩ o9 hs7 hx8
   unfold Tc at hs7
   refine wp_seq (Zb (Zd hE rfl fun a hE=>Zd hE rfl fun a hE=>Yb hE rfl Tryz.underlying54 (hM.rd hv0_1) fun a hE=>Zg hE rfl rfl rfl fun a hE=>Ze ?_))
   refine Zm hE rfl ?_ ?_
   ·intro hb10
    have hs7:=Zt hs7 hb10
    refine wp_skip (Zq (wp_seq (wp_block ?_)))
    obtain ⟨j11,hl12,hF13⟩:=bind_some hs7
    refine ZQ (fun a w=>Env 27 a [(0,v0_1),(1,v1_1),(5,vI s6),(26,vT j11)] ∧ M (Old w0) w0 w []) ?_ ?_
    ·skip
     obtain ⟨x15,hi17,hl12⟩:=bix hl12
     obtain ⟨x18,hi20,hl12⟩:=bix hl12
     obtain ⟨r21,e22,hl12⟩:=bind_some hl12
     refine Yc [17,18,19,20,21,22,23,24,25,26] Y4 rfl rfl (by decide) rfl hE hM (qsP (fun z=>Zv z.E Za ld rfl (kr0 rfl)) (qsP (fun z=>Zv z.E Za ld rfl (kr0 rfl)) (qsP (fun z=>Wn z.E Za ld rfl rfl Tryz.underlying54 ZG (z.M.rd hv0_1) hi17.1 (kr0 rfl)) (qsP (fun z=>Yp z.E Za ld rfl ZG rfl (X0 (z.M.rd hv0_1) hi17.2) (Flat.len _) (kr0 rfl)) (qsP (fun z=>Zv z.E Za ld rfl (kr0 rfl)) (qsP (fun z=>Zv z.E Za ld rfl (kr0 rfl)) (qsP (fun z=>Wn z.E Za ld rfl rfl Tryz.underlying54 ZG (z.M.rd hv1_1) hi20.1 (kr0 rfl)) (qsP (fun z=>Yp z.E Za ld rfl ZG rfl (X0 (z.M.rd hv1_1) hi20.2) (Flat.len _) (kr0 rfl)) (qsP (fun z=>Z7 z.E Za ld rfl (cbm Tryz.func150) (KG _ x15 x18 r21 e22) (kc rfl)) (qsP (fun z=>QB z.E Za ld rfl (kr0 rfl)) qs0)))))))))) ?_
     ·intro a w u hE hM
      refine Zh ?_
      obtain rfl:=Option.some.inj hl12
      refine Zj ?_
      exact ⟨hE.sub ⟨rfl,rfl,rfl,rfl,trivial⟩,hM⟩
    ·skip
     rintro a w ⟨hE,hM⟩
     refine Zm hE rfl ?_ ?_
     ·intro hb24
      have hF13:=Zt hF13 hb24
      refine Zb (Zc hE rfl fun a hE=>Ze ?_)
      obtain rfl:=hx8 _ (ois hF13)
      obtain rfl:=Option.some.inj hF4
      exact wp_ret (Yf (Zo (Zo (Yf (Zo (Zo (kr1 hE rfl rfl hM.kept)))))))
     ·intro hb24
      have hF13:=Zu hF13 hb24
      refine wp_skip (Z2 (Zq (wp_region_lit (Zd hE rfl fun a hE=>Zg hE rfl rfl rfl fun a hE=>Zc hE rfl fun a hE=>Zh (Zj ?_)))))
      exact ⟨_,(ois hF13),hE.sub ⟨rfl,rfl,rfl,trivial⟩,hM⟩
   ·intro hb10
    have hs7:=Zu hs7 hb10
    refine wp_exit (Zl (Zl (Z3 ?_)))
    obtain rfl:=hx8 _ (ois hs7)
    refine Zj ?_
    exact ⟨(),rfl,hE.sub trivial,hM⟩
  ·skip
   rintro a w ⟨s5,ht,hE,hM⟩
   subst ht
   have hF4:=Tg hF4
   refine Zq (Zb (Zc hE rfl fun a hE=>Ze ?_))
   obtain rfl:=Option.some.inj hF4
   exact wp_ret (kr1 hE rfl rfl hM.kept)
def Tw (p0 : (List UInt8)) (p1 : (List UInt8)) (s6 : Int) : Option (Fl Int (Fl Unit Bool)) :=
 if (decide (s6 < (p0.length : Int))) = true then (((idx p0 s6).bind fun x15=>(idx p1 s6).bind fun x18=>some (x15 != x18) : Option (Bool)).bind fun j11=>if j11 = true then (some (Fl.ex (Fl.ex false))) else (some (Fl.nx (wr (s6 + 1))))) else (some (Fl.ex (Fl.nx ())))
def VX (p0 : (List UInt8)) (p1 : (List UInt8)) : Option (Bool) :=
 if ((p0.length : Int) != (p1.length : Int)) = true then (some false) else ((ZB (Tw p0 p1) 0).bind fun j2=>j2.el (fun s5=>some true) (fun r=>some r))
theorem Ko (w0 : World) (p0 : (List UInt8)) (v0_1 : Value) (hv0_1 : Ro w0 p0 [v0_1]) (p1 : (List UInt8)) (v1_1 : Value) (hv1_1 : Ro w0 p1 [v1_1]) (r : Bool) (hF : VX p0 p1 = some r) :
  Calls Tryz.prog 21 [v0_1,v1_1].toArray w0 (Rt w0 (vT r)):=by
 refine ce Tryz.func21 ?_
 intro a hE
 have hM:=M.start w0
 unfold VX at hF
 refine Zb (Zc hE rfl fun a hE=>Ze (wp_seq (Zb (Zd hE rfl fun a hE=>Yb hE rfl Tryz.underlying40 (hM.rd hv0_1) fun a hE=>Zd hE rfl fun a hE=>Yb hE rfl Tryz.underlying40 (hM.rd hv1_1) fun a hE=>Zg hE rfl rfl rfl fun a hE=>Ze ?_))))
 refine Zm hE rfl ?_ ?_
 ·intro hb1
  have hF:=Zt hF hb1
  refine Zb (Zc hE rfl fun a hE=>Ze ?_)
  obtain rfl:=Option.some.inj hF
  exact wp_ret (Zo (kr1 hE rfl rfl hM.kept))
 ·intro hb1
  have hF:=Zu hF hb1
  refine wp_skip (Zq (wp_seq (Zb (Zc hE rfl fun a hE=>Ze ?_))))
  obtain ⟨j2,hl3,hF4⟩:=bind_some hF
  refine ZI (fun a w=>∃ s5 : Unit,j2 = Fl.nx s5 ∧ Env 26 a [] ∧ M (Old w0) w0 w []) ?_ ?_
  ·skip
   refine wp_block ?_
   refine ZD (fun (s6 : Int) a w=>Env 26 a [(0,v0_1),(1,v1_1),(5,vI s6)] ∧ M (Old w0) w0 w []) hl3 ⟨hE.sub ⟨rfl,rfl,rfl,trivial⟩,hM⟩ ?_
   rintro s6 a w ⟨hE,hM⟩ o9 hs7 hx8
   unfold Tw at hs7
   refine wp_seq (Zb (Zd hE rfl fun a hE=>Zd hE rfl fun a hE=>Yb hE rfl Tryz.underlying40 (hM.rd hv0_1) fun a hE=>Zg hE rfl rfl rfl fun a hE=>Ze ?_))
   refine Zm hE rfl ?_ ?_
   ·intro hb10
    have hs7:=Zt hs7 hb10
    refine wp_skip (Zq (wp_seq (wp_block ?_)))
    obtain ⟨j11,hl12,hF13⟩:=bind_some hs7
    refine ZQ (fun a w=>Env 26 a [(0,v0_1),(1,v1_1),(5,vI s6),(25,vT j11)] ∧ M (Old w0) w0 w []) ?_ ?_
    ·skip
     obtain ⟨x15,hi17,hl12⟩:=bix hl12
     obtain ⟨x18,hi20,hl12⟩:=bix hl12
     refine Yc [17,18,19,20,21,22,23,24,25] Y4 rfl rfl (by decide) rfl hE hM (qsP (fun z=>Zv z.E Za ld rfl (kr0 rfl)) (qsP (fun z=>Zv z.E Za ld rfl (kr0 rfl)) (qsP (fun z=>Wn z.E Za ld rfl rfl Tryz.underlying40 ty5 (z.M.rd hv0_1) hi17.1 (kr0 rfl)) (qsP (fun z=>ZS (v:=(vB x15)) z.E Za ld rfl ty5 rfl (X0 (z.M.rd hv0_1) hi17.2) (kr0 rfl)) (qsP (fun z=>Zv z.E Za ld rfl (kr0 rfl)) (qsP (fun z=>Zv z.E Za ld rfl (kr0 rfl)) (qsP (fun z=>Wn z.E Za ld rfl rfl Tryz.underlying40 ty5 (z.M.rd hv1_1) hi20.1 (kr0 rfl)) (qsP (fun z=>ZS (v:=(vB x18)) z.E Za ld rfl ty5 rfl (X0 (z.M.rd hv1_1) hi20.2) (kr0 rfl)) (qsP (fun z=>Yv z.E Za ld rfl rfl (Q7 x15 x18) (kr0 rfl)) qs0))))))))) ?_
     ·intro a w u hE hM
      refine Zh ?_
      obtain rfl:=Option.some.inj hl12
      refine Zj ?_
      exact ⟨hE.sub ⟨rfl,rfl,rfl,rfl,trivial⟩,hM⟩
    ·skip
     rintro a w ⟨hE,hM⟩
     refine Zm hE rfl ?_ ?_
     ·intro hb22
      have hF13:=Zt hF13 hb22
      refine Zb (Zc hE rfl fun a hE=>Ze ?_)
      obtain rfl:=hx8 _ (ois hF13)
      obtain rfl:=Option.some.inj hF4
      exact wp_ret (Yf (Zo (Zo (Yf (Zo (Zo (kr1 hE rfl rfl hM.kept)))))))
     ·intro hb22
      have hF13:=Zu hF13 hb22
      refine wp_skip (Z2 (Zq (wp_region_lit (Zd hE rfl fun a hE=>Zg hE rfl rfl rfl fun a hE=>Zc hE rfl fun a hE=>Zh (Zj ?_)))))
      exact ⟨_,(ois hF13),hE.sub ⟨rfl,rfl,rfl,trivial⟩,hM⟩
   ·intro hb10
    have hs7:=Zu hs7 hb10
    refine wp_exit (Zl (Zl (Z3 ?_)))
    obtain rfl:=hx8 _ (ois hs7)
    refine Zj ?_
    exact ⟨(),rfl,hE.sub trivial,hM⟩
  ·skip
   rintro a w ⟨s5,ht,hE,hM⟩
   subst ht
   have hF4:=Tg hF4
   refine Zq (Zb (Zc hE rfl fun a hE=>Ze ?_))
   obtain rfl:=Option.some.inj hF4
   exact wp_ret (kr1 hE rfl rfl hM.kept)
def Tf (p0 : (Vector UInt8 32)) (p1 : (Vector UInt8 32)) (s9 : Int) : Option (Fl Int (Fl Unit Bool)) :=
 if (decide (s9 < 32)) = true then (((ZH p0 s9).bind fun x19=>(ZH p1 s9).bind fun x22=>some (x19 != x22) : Option (Bool)).bind fun j14=>if j14 = true then (some (Fl.ex (Fl.ex false))) else (some (Fl.nx (wr (s9 + 1))))) else (some (Fl.ex (Fl.nx ())))
def Wh (p0 : (Vector UInt8 32)) (p1 : (Vector UInt8 32)) : Option (Bool) :=
 (ZB (Tf p0 p1) 0).bind fun j5=>j5.el (fun s8=>some true) (fun r=>some r)
theorem Qb (w0 : World) (p0 : (Vector UInt8 32)) (p1 : (Vector UInt8 32)) (r : Bool) (hF : Wh p0 p1 = some r) :
  Calls Tryz.prog 20 [(Value.agg (enc p0).toArray),(Value.agg (enc p1).toArray)].toArray w0 (Rt w0 (vT r)):=by
 refine ce Tryz.func20 ?_
 intro a hE
 have hM:=M.start w0
 unfold Wh at hF
 refine Zb (ZV (cs:=enc p0) hE hM Za ld rfl rfl fun b1 w a hM hE=>ZV (cs:=enc p1) hE hM Za ld rfl rfl fun b3 w a hM hE=>Zc hE rfl fun a hE=>Ze (wp_seq (Zb (Zc hE rfl fun a hE=>Ze ?_))))
 obtain ⟨j5,hl6,hF7⟩:=bind_some hF
 refine ZI (fun a w=>∃ s8 : Unit,j5 = Fl.nx s8 ∧ Env 17 a [] ∧ M (Old w0) w0 w []) ?_ ?_
 ·skip
  refine wp_block ?_
  refine ZD (fun (s9 : Int) a w=>Env 17 a [(2,(ptr b1 0)),(3,(ptr b3 0)),(5,vI s9)] ∧ M (Old w0) w0 w [raw b3 (enc p1),raw b1 (enc p0)]) hl6 ⟨hE.sub ⟨rfl,rfl,rfl,trivial⟩,hM⟩ ?_
  rintro s9 a w ⟨hE,hM⟩ o12 hs10 hx11
  unfold Tf at hs10
  refine wp_seq (Zb (Zd hE rfl fun a hE=>Zg hE rfl rfl rfl fun a hE=>Ze ?_))
  refine Zm hE rfl ?_ ?_
  ·intro hb13
   have hs10:=Zt hs10 hb13
   refine wp_skip (Zq (wp_seq (wp_block ?_)))
   obtain ⟨j14,hl15,hF16⟩:=bind_some hs10
   refine ZQ (fun a w=>Env 17 a [(2,(ptr b1 0)),(3,(ptr b3 0)),(5,vI s9),(16,vT j14)] ∧ M (Old w0) w0 w [raw b3 (enc p1),raw b1 (enc p0)]) ?_ ?_
   ·skip
    obtain ⟨x19,hi18,hl15⟩:=bvx hl15
    obtain ⟨x22,hi21,hl15⟩:=bvx hl15
    refine Yc [10,11,12,13,14,15,16] Y4 rfl rfl (by decide) rfl hE hM (qsP (fun z=>Zv z.E Za ld rfl (kr0 rfl)) (qsP (fun z=>ZF z.E Za ld rfl rfl Tryz.underlying35 ty5 hi18.1 (kr0 rfl)) (qsP (fun z=>ZS (v:=(vB x19)) z.E Za ld rfl ty5 rfl (At.vec (z.M.rawAt1) hi18.2) (kr0 rfl)) (qsP (fun z=>Zv z.E Za ld rfl (kr0 rfl)) (qsP (fun z=>ZF z.E Za ld rfl rfl Tryz.underlying35 ty5 hi21.1 (kr0 rfl)) (qsP (fun z=>ZS (v:=(vB x22)) z.E Za ld rfl ty5 rfl (At.vec (z.M.rawAt0) hi21.2) (kr0 rfl)) (qsP (fun z=>Yv z.E Za ld rfl rfl (Q7 x19 x22) (kr0 rfl)) qs0))))))) ?_
    ·intro a w u hE hM
     refine Zh ?_
     obtain rfl:=Option.some.inj hl15
     refine Zj ?_
     exact ⟨hE.sub ⟨rfl,rfl,rfl,rfl,trivial⟩,hM⟩
   ·skip
    rintro a w ⟨hE,hM⟩
    refine Zm hE rfl ?_ ?_
    ·intro hb25
     have hF16:=Zt hF16 hb25
     refine Zb (Zc hE rfl fun a hE=>Ze ?_)
     obtain rfl:=hx11 _ (ois hF16)
     obtain rfl:=Option.some.inj hF7
     exact wp_ret (Yf (Zo (Zo (Yf (Zo (Zo (kr1 hE rfl rfl hM.kept)))))))
    ·intro hb25
     have hF16:=Zu hF16 hb25
     refine wp_skip (Z2 (Zq (wp_region_lit (Zd hE rfl fun a hE=>Zg hE rfl rfl rfl fun a hE=>Zc hE rfl fun a hE=>Zh (Zj ?_)))))
     exact ⟨_,(ois hF16),hE.sub ⟨rfl,rfl,rfl,trivial⟩,hM⟩
  ·intro hb13
   have hs10:=Zu hs10 hb13
   refine wp_exit (Zl (Zl (Z3 ?_)))
   obtain rfl:=hx11 _ (ois hs10)
   refine Zj ?_
   have hM:=M.fst (l:=[]) hM
   exact ⟨(),rfl,hE.sub trivial,hM⟩
 ·skip
  rintro a w ⟨s8,ht,hE,hM⟩
  subst ht
  have hF7:=Tg hF7
  refine Zq (Zb (Zc hE rfl fun a hE=>Ze ?_))
  obtain rfl:=Option.some.inj hF7
  exact wp_ret (kr1 hE rfl rfl hM.kept)
def Vf (p0 : GRecord) (p1 : GRecord) : Option (Bool) :=
 if (p0.Number != p1.Number) = true then (some false) else (if (p0.Version != p1.Version) = true then (some false) else ((WU p0.Nonce p1.Nonce).bind fun r7=>if (!r7) = true then (some false) else ((VX p0.Label p1.Label).bind fun r10=>if (!r10) = true then (some false) else ((VX p0.Body p1.Body).bind fun r13=>if (!r13) = true then (some false) else ((Wh p0.Tag p1.Tag).bind fun r16=>if (!r16) = true then (some false) else (some true))))))
theorem H8 (w0 : World) (p0 : GRecord) (v0_1 : Value) (hv0_1 : Ro w0 p0.Label [v0_1]) (v0_2 : Value) (hv0_2 : Ro w0 p0.Body [v0_2]) (p1 : GRecord) (v1_1 : Value) (hv1_1 : Ro w0 p1.Label [v1_1]) (v1_2 : Value) (hv1_2 : Ro w0 p1.Body [v1_2]) (r : Bool) (hF : Vf p0 p1 = some r) :
  Calls Tryz.prog 151 [(Value.agg (cat [[vI p0.Number],[vI p0.Version],enc p0.Nonce,[v0_1],[v0_2],enc p0.Tag]).toArray),(Value.agg (cat [[vI p1.Number],[vI p1.Version],enc p1.Nonce,[v1_1],[v1_2],enc p1.Tag]).toArray)].toArray w0 (Rt w0 (vT r)):=by
 refine ce Tryz.func151 ?_
 intro a hE
 have hM:=M.start w0
 unfold Vf at hF
 refine Zb (ZV (cs:=cat [[vI p0.Number],[vI p0.Version],enc p0.Nonce,[v0_1],[v0_2],enc p0.Tag]) hE hM Za ld rfl rfl fun b1 w a hM hE=>ZV (cs:=cat [[vI p1.Number],[vI p1.Version],enc p1.Nonce,[v1_1],[v1_2],enc p1.Tag]) hE hM Za ld rfl rfl fun b3 w a hM hE=>Zc hE rfl fun a hE=>Ze (wp_seq (Zb (Zf hE rfl (Ua) fun a hE=>Zw (v:=(vI p0.Number)) hE rfl ty2 rfl (At.cat (pre:=[]) hM.rawAt1 cl0) fun a hE=>Zf hE rfl (Ua) fun a hE=>Zw (v:=(vI p1.Number)) hE rfl ty2 rfl (At.cat (pre:=[]) hM.rawAt0 cl0) fun a hE=>Zg hE rfl rfl rfl fun a hE=>Ze ?_))))
 refine Zm hE rfl ?_ ?_
 ·intro hb5
  have hF:=Zt hF hb5
  refine Zb (Zc hE rfl fun a hE=>Ze ?_)
  obtain rfl:=Option.some.inj hF
  exact wp_ret (Zo (kr1 hE rfl rfl hM.kept))
 ·intro hb5
  have hF:=Zu hF hb5
  refine wp_skip (Zq (wp_seq (Zb (Zf hE rfl (Qi) fun a hE=>Zw (v:=(vI p0.Version)) hE rfl ty2 rfl (At.cat (pre:=[[vI p0.Number]]) hM.rawAt1 ck) fun a hE=>Zf hE rfl (Qi) fun a hE=>Zw (v:=(vI p1.Version)) hE rfl ty2 rfl (At.cat (pre:=[[vI p1.Number]]) hM.rawAt0 ck) fun a hE=>Zg hE rfl rfl rfl fun a hE=>Ze ?_))))
  refine Zm hE rfl ?_ ?_
  ·intro hb6
   have hF:=Zt hF hb6
   refine Zb (Zc hE rfl fun a hE=>Ze ?_)
   obtain rfl:=Option.some.inj hF
   exact wp_ret (Zo (kr1 hE rfl rfl hM.kept))
  ·intro hb6
   have hF:=Zu hF hb6
   refine wp_skip (Zq (wp_seq (Zb (Zf hE rfl (JQ) fun a hE=>Zn hE rfl ZG rfl (At.cat (pre:=[[vI p0.Number],[vI p0.Version]]) hM.rawAt1 ck) (Flat.len _) fun a hE=>Zf hE rfl (JQ) fun a hE=>Zn hE rfl ZG rfl (At.cat (pre:=[[vI p1.Number],[vI p1.Version]]) hM.rawAt0 ck) (Flat.len _) ?_)))); intro a hE
   obtain ⟨r7,e8,hF⟩:=bind_some hF
   refine Zx hE rfl (cbm Tryz.func150) (KG _ p0.Nonce p1.Nonce r7 e8) ?_
   rintro v w a ⟨rfl,hK⟩ hE
   have hM:=hM.keep hK
   refine TX hE rfl fun a hE=>Ze ?_
   refine Zm hE rfl ?_ ?_
   ·intro hb9
    have hF:=Zt hF hb9
    refine Zb (Zc hE rfl fun a hE=>Ze ?_)
    obtain rfl:=Option.some.inj hF
    exact wp_ret (Zo (kr1 hE rfl rfl hM.kept))
   ·intro hb9
    have hF:=Zu hF hb9
    refine wp_skip (Zq (wp_seq (Zb (Zf hE rfl (Tz) fun a hE=>Zw (v:=v0_1) hE rfl Ui rfl (At.cat (pre:=[[vI p0.Number],[vI p0.Version],enc p0.Nonce]) hM.rawAt1 ck) fun a hE=>Zf hE rfl (Tz) fun a hE=>Zw (v:=v1_1) hE rfl Ui rfl (At.cat (pre:=[[vI p1.Number],[vI p1.Version],enc p1.Nonce]) hM.rawAt0 ck) ?_)))); intro a hE
    obtain ⟨r10,e11,hF⟩:=bind_some hF
    refine Zx hE rfl (cbm Tryz.func21) (Ko _ p0.Label v0_1 (hM.rdo hv0_1) p1.Label v1_1 (hM.rdo hv1_1) r10 e11) ?_
    rintro v w a ⟨rfl,hK⟩ hE
    have hM:=hM.keep hK
    refine TX hE rfl fun a hE=>Ze ?_
    refine Zm hE rfl ?_ ?_
    ·intro hb12
     have hF:=Zt hF hb12
     refine Zb (Zc hE rfl fun a hE=>Ze ?_)
     obtain rfl:=Option.some.inj hF
     exact wp_ret (Zo (kr1 hE rfl rfl hM.kept))
    ·intro hb12
     have hF:=Zu hF hb12
     refine wp_skip (Zq (wp_seq (Zb (Zf hE rfl (TU) fun a hE=>Zw (v:=v0_2) hE rfl Ui rfl (At.cat (pre:=[[vI p0.Number],[vI p0.Version],enc p0.Nonce,[v0_1]]) hM.rawAt1 ck) fun a hE=>Zf hE rfl (TU) fun a hE=>Zw (v:=v1_2) hE rfl Ui rfl (At.cat (pre:=[[vI p1.Number],[vI p1.Version],enc p1.Nonce,[v1_1]]) hM.rawAt0 ck) ?_)))); intro a hE
     obtain ⟨r13,e14,hF⟩:=bind_some hF
     refine Zx hE rfl (cbm Tryz.func21) (Ko _ p0.Body v0_2 (hM.rdo hv0_2) p1.Body v1_2 (hM.rdo hv1_2) r13 e14) ?_
     rintro v w a ⟨rfl,hK⟩ hE
     have hM:=hM.keep hK
     refine TX hE rfl fun a hE=>Ze ?_
     refine Zm hE rfl ?_ ?_
     ·intro hb15
      have hF:=Zt hF hb15
      refine Zb (Zc hE rfl fun a hE=>Ze ?_)
      obtain rfl:=Option.some.inj hF
      exact wp_ret (Zo (kr1 hE rfl rfl hM.kept))
     ·intro hb15
      have hF:=Zu hF hb15
      refine wp_skip (Zq (wp_seq (Zb (Zf hE rfl (J7) fun a hE=>Zn hE rfl Yt rfl (At.cat (pre:=[[vI p0.Number],[vI p0.Version],enc p0.Nonce,[v0_1],[v0_2]]) hM.rawAt1 ck) (Flat.len _) fun a hE=>Zf hE rfl (J7) fun a hE=>Zn hE rfl Yt rfl (At.cat (pre:=[[vI p1.Number],[vI p1.Version],enc p1.Nonce,[v1_1],[v1_2]]) hM.rawAt0 ck) (Flat.len _) ?_)))); intro a hE
      obtain ⟨r16,e17,hF⟩:=bind_some hF
      refine Zx hE rfl cb20 (Qb _ p0.Tag p1.Tag r16 e17) ?_
      rintro v w a ⟨rfl,hK⟩ hE
      have hM:=hM.keep hK
      refine TX hE rfl fun a hE=>Ze ?_
      refine Zm hE rfl ?_ ?_
      ·intro hb18
       have hF:=Zt hF hb18
       refine Zb (Zc hE rfl fun a hE=>Ze ?_)
       obtain rfl:=Option.some.inj hF
       exact wp_ret (Zo (kr1 hE rfl rfl hM.kept))
      ·intro hb18
       have hF:=Zu hF hb18
       refine wp_skip (Zq (Zb (Zc hE rfl fun a hE=>Ze ?_)))
       obtain rfl:=Option.some.inj hF
       exact wp_ret (kr1 hE rfl rfl hM.kept)
def UD (p0 : (List GRecord)) (p1 : (List GRecord)) (s6 : Int) : Option (Fl Int (Fl Unit Bool)) :=
 if (decide (s6 < (p0.length : Int))) = true then (((idx p0 s6).bind fun x15=>(idx p1 s6).bind fun x25=>(Vf x15 x25).bind fun r35=>some (!r35) : Option (Bool)).bind fun j11=>if j11 = true then (some (Fl.ex (Fl.ex false))) else (some (Fl.nx (wr (s6 + 1))))) else (some (Fl.ex (Fl.nx ())))
def VU (p0 : (List GRecord)) (p1 : (List GRecord)) : Option (Bool) :=
 if ((p0.length : Int) != (p1.length : Int)) = true then (some false) else ((ZB (UD p0 p1) 0).bind fun j2=>j2.el (fun s5=>some true) (fun r=>some r))
theorem HN (w0 : World) (p0 : (List GRecord)) (v0_1 : Value) (hv0_1 : Ro w0 p0 [v0_1]) (p1 : (List GRecord)) (v1_1 : Value) (hv1_1 : Ro w0 p1 [v1_1]) (r : Bool) (hF : VU p0 p1 = some r) :
  Calls Tryz.prog 92 [v0_1,v1_1].toArray w0 (Rt w0 (vT r)):=by
 refine ce Tryz.func92 ?_
 intro a hE
 have hM:=M.start w0
 unfold VU at hF
 refine Zb (Zc hE rfl fun a hE=>Ze (wp_seq (Zb (Zd hE rfl fun a hE=>Yb hE rfl Tryz.underlying55 (hM.rd hv0_1) fun a hE=>Zd hE rfl fun a hE=>Yb hE rfl Tryz.underlying55 (hM.rd hv1_1) fun a hE=>Zg hE rfl rfl rfl fun a hE=>Ze ?_))))
 refine Zm hE rfl ?_ ?_
 ·intro hb1
  have hF:=Zt hF hb1
  refine Zb (Zc hE rfl fun a hE=>Ze ?_)
  obtain rfl:=Option.some.inj hF
  exact wp_ret (Zo (kr1 hE rfl rfl hM.kept))
 ·intro hb1
  have hF:=Zu hF hb1
  refine wp_skip (Zq (wp_seq (Zb (Zc hE rfl fun a hE=>Ze ?_))))
  obtain ⟨j2,hl3,hF4⟩:=bind_some hF
  refine ZI (fun a w=>∃ s5 : Unit,j2 = Fl.nx s5 ∧ Env 27 a [] ∧ M (Old w0) w0 w []) ?_ ?_
  ·skip
   refine wp_block ?_
   refine ZD (fun (s6 : Int) a w=>Env 27 a [(0,v0_1),(1,v1_1),(5,vI s6)] ∧ M (Old w0) w0 w []) hl3 ⟨hE.sub ⟨rfl,rfl,rfl,trivial⟩,hM⟩ ?_
   rintro s6 a w ⟨hE,hM⟩ o9 hs7 hx8
   unfold UD at hs7
   refine wp_seq (Zb (Zd hE rfl fun a hE=>Zd hE rfl fun a hE=>Yb hE rfl Tryz.underlying55 (hM.rd hv0_1) fun a hE=>Zg hE rfl rfl rfl fun a hE=>Ze ?_))
   refine Zm hE rfl ?_ ?_
   ·intro hb10
    have hs7:=Zt hs7 hb10
    refine wp_skip (Zq (wp_seq (wp_block ?_)))
    obtain ⟨j11,hl12,hF13⟩:=bind_some hs7
    refine ZQ (fun a w=>Env 27 a [(0,v0_1),(1,v1_1),(5,vI s6),(26,vT j11)] ∧ M (Old w0) w0 w []) ?_ ?_
    ·skip
     obtain ⟨x15,hi17,hl12⟩:=bix hl12
     obtain ⟨cs18,hs19,hA20⟩:=Ww hv0_1 hi17.2 -- ^
     obtain ⟨u21,u23,rfl,h22,h24⟩:=YM hs19 -- ^
     obtain ⟨x25,hi27,hl12⟩:=bix hl12
     obtain ⟨cs28,hs29,hA30⟩:=Ww hv1_1 hi27.2 -- ^
     obtain ⟨u31,u33,rfl,h32,h34⟩:=YM hs29 -- ^
     obtain ⟨r35,e36,hl12⟩:=bind_some hl12
     refine Yc [17,18,19,20,21,22,23,24,25,26] Y4 rfl rfl (by decide) rfl hE hM (qsP (fun z=>Zv z.E Za ld rfl (kr0 rfl)) (qsP (fun z=>Zv z.E Za ld rfl (kr0 rfl)) (qsP (fun z=>Wn z.E Za ld rfl rfl Tryz.underlying55 Z4 (z.M.rd hv0_1) hi17.1 (kr0 rfl)) (qsP (fun z=>Yp z.E Za ld rfl Z4 rfl (z.M.atk hA20 (V9 hv0_1 hi17.2)) cq (kr0 rfl)) (qsP (fun z=>Zv z.E Za ld rfl (kr0 rfl)) (qsP (fun z=>Zv z.E Za ld rfl (kr0 rfl)) (qsP (fun z=>Wn z.E Za ld rfl rfl Tryz.underlying55 Z4 (z.M.rd hv1_1) hi27.1 (kr0 rfl)) (qsP (fun z=>Yp z.E Za ld rfl Z4 rfl (z.M.atk hA30 (V9 hv1_1 hi27.2)) cq (kr0 rfl)) (qsP (fun z=>Z7 z.E Za ld rfl (cbm Tryz.func151) (H8 _ x15 u21 (z.M.rdo h22) u23 (z.M.rdo h24) x25 u31 (z.M.rdo h32) u33 (z.M.rdo h34) r35 e36) (kc rfl)) (qsP (fun z=>QB z.E Za ld rfl (kr0 rfl)) qs0)))))))))) ?_
     ·intro a w u hE hM
      refine Zh ?_
      obtain rfl:=Option.some.inj hl12
      refine Zj ?_
      exact ⟨hE.sub ⟨rfl,rfl,rfl,rfl,trivial⟩,hM⟩
    ·skip
     rintro a w ⟨hE,hM⟩
     refine Zm hE rfl ?_ ?_
     ·intro hb38
      have hF13:=Zt hF13 hb38
      refine Zb (Zc hE rfl fun a hE=>Ze ?_)
      obtain rfl:=hx8 _ (ois hF13)
      obtain rfl:=Option.some.inj hF4
      exact wp_ret (Yf (Zo (Zo (Yf (Zo (Zo (kr1 hE rfl rfl hM.kept)))))))
     ·intro hb38
      have hF13:=Zu hF13 hb38
      refine wp_skip (Z2 (Zq (wp_region_lit (Zd hE rfl fun a hE=>Zg hE rfl rfl rfl fun a hE=>Zc hE rfl fun a hE=>Zh (Zj ?_)))))
      exact ⟨_,(ois hF13),hE.sub ⟨rfl,rfl,rfl,trivial⟩,hM⟩
   ·intro hb10
    have hs7:=Zu hs7 hb10
    refine wp_exit (Zl (Zl (Z3 ?_)))
    obtain rfl:=hx8 _ (ois hs7)
    refine Zj ?_
    exact ⟨(),rfl,hE.sub trivial,hM⟩
  ·skip
   rintro a w ⟨s5,ht,hE,hM⟩
   subst ht
   have hF4:=Tg hF4
   refine Zq (Zb (Zc hE rfl fun a hE=>Ze ?_))
   obtain rfl:=Option.some.inj hF4
   exact wp_ret (kr1 hE rfl rfl hM.kept)
def VO (p0 : GEvent) (p1 : GEvent) : Option (Bool) :=
 if (p0.Kind != p1.Kind) = true then (some false) else (if (p0.Number != p1.Number) = true then (some false) else ((Wh p0.Tag p1.Tag).bind fun r7=>if (!r7) = true then (some false) else (some true)))
theorem Ab (w0 : World) (p0 : GEvent) (p1 : GEvent) (r : Bool) (hF : VO p0 p1 = some r) :
  Calls Tryz.prog 152 [(Value.agg (enc p0).toArray),(Value.agg (enc p1).toArray)].toArray w0 (Rt w0 (vT r)):=by
 refine ce Tryz.func152 ?_
 intro a hE
 have hM:=M.start w0
 unfold VO at hF
 refine Zb (ZV (cs:=cat [[vI p0.Kind],[vI p0.Number],enc p0.Tag]) hE hM Za ld rfl rfl fun b1 w a hM hE=>ZV (cs:=cat [[vI p1.Kind],[vI p1.Number],enc p1.Tag]) hE hM Za ld rfl rfl fun b3 w a hM hE=>Zc hE rfl fun a hE=>Ze (wp_seq (Zb (Zf hE rfl (Qh) fun a hE=>Zw (v:=(vI p0.Kind)) hE rfl ty2 rfl (At.cat (pre:=[]) hM.rawAt1 cl0) fun a hE=>Zf hE rfl (Qh) fun a hE=>Zw (v:=(vI p1.Kind)) hE rfl ty2 rfl (At.cat (pre:=[]) hM.rawAt0 cl0) fun a hE=>Zg hE rfl rfl rfl fun a hE=>Ze ?_))))
 refine Zm hE rfl ?_ ?_
 ·intro hb5
  have hF:=Zt hF hb5
  refine Zb (Zc hE rfl fun a hE=>Ze ?_)
  obtain rfl:=Option.some.inj hF
  exact wp_ret (Zo (kr1 hE rfl rfl hM.kept))
 ·intro hb5
  have hF:=Zu hF hb5
  refine wp_skip (Zq (wp_seq (Zb (Zf hE rfl (Qm) fun a hE=>Zw (v:=(vI p0.Number)) hE rfl ty2 rfl (At.cat (pre:=[[vI p0.Kind]]) hM.rawAt1 ck) fun a hE=>Zf hE rfl (Qm) fun a hE=>Zw (v:=(vI p1.Number)) hE rfl ty2 rfl (At.cat (pre:=[[vI p1.Kind]]) hM.rawAt0 ck) fun a hE=>Zg hE rfl rfl rfl fun a hE=>Ze ?_))))
  refine Zm hE rfl ?_ ?_
  ·intro hb6
   have hF:=Zt hF hb6
   refine Zb (Zc hE rfl fun a hE=>Ze ?_)
   obtain rfl:=Option.some.inj hF
   exact wp_ret (Zo (kr1 hE rfl rfl hM.kept))
  ·intro hb6
   have hF:=Zu hF hb6
   refine wp_skip (Zq (wp_seq (Zb (Zf hE rfl (Q5) fun a hE=>Zn hE rfl Yt rfl (At.cat (pre:=[[vI p0.Kind],[vI p0.Number]]) hM.rawAt1 ck) (Flat.len _) fun a hE=>Zf hE rfl (Q5) fun a hE=>Zn hE rfl Yt rfl (At.cat (pre:=[[vI p1.Kind],[vI p1.Number]]) hM.rawAt0 ck) (Flat.len _) ?_)))); intro a hE
   obtain ⟨r7,e8,hF⟩:=bind_some hF
   refine Zx hE rfl cb20 (Qb _ p0.Tag p1.Tag r7 e8) ?_
   rintro v w a ⟨rfl,hK⟩ hE
   have hM:=hM.keep hK
   refine TX hE rfl fun a hE=>Ze ?_
   refine Zm hE rfl ?_ ?_
   ·intro hb9
    have hF:=Zt hF hb9
    refine Zb (Zc hE rfl fun a hE=>Ze ?_)
    obtain rfl:=Option.some.inj hF
    exact wp_ret (Zo (kr1 hE rfl rfl hM.kept))
   ·intro hb9
    have hF:=Zu hF hb9
    refine wp_skip (Zq (Zb (Zc hE rfl fun a hE=>Ze ?_)))
    obtain rfl:=Option.some.inj hF
    exact wp_ret (kr1 hE rfl rfl hM.kept)
def U1 (p0 : (List GEvent)) (p1 : (List GEvent)) (s6 : Int) : Option (Fl Int (Fl Unit Bool)) :=
 if (decide (s6 < (p0.length : Int))) = true then (((idx p0 s6).bind fun x15=>(idx p1 s6).bind fun x18=>(VO x15 x18).bind fun r21=>some (!r21) : Option (Bool)).bind fun j11=>if j11 = true then (some (Fl.ex (Fl.ex false))) else (some (Fl.nx (wr (s6 + 1))))) else (some (Fl.ex (Fl.nx ())))
def Uu (p0 : (List GEvent)) (p1 : (List GEvent)) : Option (Bool) :=
 if ((p0.length : Int) != (p1.length : Int)) = true then (some false) else ((ZB (U1 p0 p1) 0).bind fun j2=>j2.el (fun s5=>some true) (fun r=>some r))
theorem Bb (w0 : World) (p0 : (List GEvent)) (v0_1 : Value) (hv0_1 : Ro w0 p0 [v0_1]) (p1 : (List GEvent)) (v1_1 : Value) (hv1_1 : Ro w0 p1 [v1_1]) (r : Bool) (hF : Uu p0 p1 = some r) :
  Calls Tryz.prog 93 [v0_1,v1_1].toArray w0 (Rt w0 (vT r)):=by
 refine ce Tryz.func93 ?_
 intro a hE
 have hM:=M.start w0
 unfold Uu at hF
 refine Zb (Zc hE rfl fun a hE=>Ze (wp_seq (Zb (Zd hE rfl fun a hE=>Yb hE rfl Tryz.underlying56 (hM.rd hv0_1) fun a hE=>Zd hE rfl fun a hE=>Yb hE rfl Tryz.underlying56 (hM.rd hv1_1) fun a hE=>Zg hE rfl rfl rfl fun a hE=>Ze ?_))))
 refine Zm hE rfl ?_ ?_
 ·intro hb1
  have hF:=Zt hF hb1
  refine Zb (Zc hE rfl fun a hE=>Ze ?_)
  obtain rfl:=Option.some.inj hF
  exact wp_ret (Zo (kr1 hE rfl rfl hM.kept))
 ·intro hb1
  have hF:=Zu hF hb1
  refine wp_skip (Zq (wp_seq (Zb (Zc hE rfl fun a hE=>Ze ?_))))
  obtain ⟨j2,hl3,hF4⟩:=bind_some hF
  refine ZI (fun a w=>∃ s5 : Unit,j2 = Fl.nx s5 ∧ Env 27 a [] ∧ M (Old w0) w0 w []) ?_ ?_
  ·skip
   refine wp_block ?_
   refine ZD (fun (s6 : Int) a w=>Env 27 a [(0,v0_1),(1,v1_1),(5,vI s6)] ∧ M (Old w0) w0 w []) hl3 ⟨hE.sub ⟨rfl,rfl,rfl,trivial⟩,hM⟩ ?_
   rintro s6 a w ⟨hE,hM⟩ o9 hs7 hx8
   unfold U1 at hs7
   refine wp_seq (Zb (Zd hE rfl fun a hE=>Zd hE rfl fun a hE=>Yb hE rfl Tryz.underlying56 (hM.rd hv0_1) fun a hE=>Zg hE rfl rfl rfl fun a hE=>Ze ?_))
   refine Zm hE rfl ?_ ?_
   ·intro hb10
    have hs7:=Zt hs7 hb10
    refine wp_skip (Zq (wp_seq (wp_block ?_)))
    obtain ⟨j11,hl12,hF13⟩:=bind_some hs7
    refine ZQ (fun a w=>Env 27 a [(0,v0_1),(1,v1_1),(5,vI s6),(26,vT j11)] ∧ M (Old w0) w0 w []) ?_ ?_
    ·skip
     obtain ⟨x15,hi17,hl12⟩:=bix hl12
     obtain ⟨x18,hi20,hl12⟩:=bix hl12
     obtain ⟨r21,e22,hl12⟩:=bind_some hl12
     refine Yc [17,18,19,20,21,22,23,24,25,26] Y4 rfl rfl (by decide) rfl hE hM (qsP (fun z=>Zv z.E Za ld rfl (kr0 rfl)) (qsP (fun z=>Zv z.E Za ld rfl (kr0 rfl)) (qsP (fun z=>Wn z.E Za ld rfl rfl Tryz.underlying56 Y3 (z.M.rd hv0_1) hi17.1 (kr0 rfl)) (qsP (fun z=>Yp z.E Za ld rfl Y3 rfl (X0 (z.M.rd hv0_1) hi17.2) cq (kr0 rfl)) (qsP (fun z=>Zv z.E Za ld rfl (kr0 rfl)) (qsP (fun z=>Zv z.E Za ld rfl (kr0 rfl)) (qsP (fun z=>Wn z.E Za ld rfl rfl Tryz.underlying56 Y3 (z.M.rd hv1_1) hi20.1 (kr0 rfl)) (qsP (fun z=>Yp z.E Za ld rfl Y3 rfl (X0 (z.M.rd hv1_1) hi20.2) cq (kr0 rfl)) (qsP (fun z=>Z7 z.E Za ld rfl (cbm Tryz.func152) (Ab _ x15 x18 r21 e22) (kc rfl)) (qsP (fun z=>QB z.E Za ld rfl (kr0 rfl)) qs0)))))))))) ?_
     ·intro a w u hE hM
      refine Zh ?_
      obtain rfl:=Option.some.inj hl12
      refine Zj ?_
      exact ⟨hE.sub ⟨rfl,rfl,rfl,rfl,trivial⟩,hM⟩
    ·skip
     rintro a w ⟨hE,hM⟩
     refine Zm hE rfl ?_ ?_
     ·intro hb24
      have hF13:=Zt hF13 hb24
      refine Zb (Zc hE rfl fun a hE=>Ze ?_)
      obtain rfl:=hx8 _ (ois hF13)
      obtain rfl:=Option.some.inj hF4
      exact wp_ret (Yf (Zo (Zo (Yf (Zo (Zo (kr1 hE rfl rfl hM.kept)))))))
     ·intro hb24
      have hF13:=Zu hF13 hb24
      refine wp_skip (Z2 (Zq (wp_region_lit (Zd hE rfl fun a hE=>Zg hE rfl rfl rfl fun a hE=>Zc hE rfl fun a hE=>Zh (Zj ?_)))))
      exact ⟨_,(ois hF13),hE.sub ⟨rfl,rfl,rfl,trivial⟩,hM⟩
   ·intro hb10
    have hs7:=Zu hs7 hb10
    refine wp_exit (Zl (Zl (Z3 ?_)))
    obtain rfl:=hx8 _ (ois hs7)
    refine Zj ?_
    exact ⟨(),rfl,hE.sub trivial,hM⟩
  ·skip
   rintro a w ⟨s5,ht,hE,hM⟩
   subst ht
   have hF4:=Tg hF4
   refine Zq (Zb (Zc hE rfl fun a hE=>Ze ?_))
   obtain rfl:=Option.some.inj hF4
   exact wp_ret (kr1 hE rfl rfl hM.kept)
def XS (p0 : GVault) (p1 : GVault) : Option (Bool) :=
 (Uo p0.Keys p1.Keys).bind fun r5=>if (!r5) = true then (some false) else (if (p0.Next != p1.Next) = true then (some false) else ((VU p0.Records p1.Records).bind fun r9=>if (!r9) = true then (some false) else ((Uu p0.Events p1.Events).bind fun r12=>if (!r12) = true then (some false) else ((Wh p0.Head p1.Head).bind fun r15=>if (!r15) = true then (some false) else (some true)))))
theorem TT (w0 : World) (p0 : GVault) (v0_1 : Value) (hv0_1 : Ro w0 p0.Keys [v0_1]) (v0_2 : Value) (hv0_2 : Ro w0 p0.Records [v0_2]) (v0_3 : Value) (hv0_3 : Ro w0 p0.Events [v0_3]) (p1 : GVault) (v1_1 : Value) (hv1_1 : Ro w0 p1.Keys [v1_1]) (v1_2 : Value) (hv1_2 : Ro w0 p1.Records [v1_2]) (v1_3 : Value) (hv1_3 : Ro w0 p1.Events [v1_3]) (r : Bool) (hF : XS p0 p1 = some r) :
  Calls Tryz.prog 27 [(Value.agg (cat [[v0_1],[vI p0.Next],[v0_2],[v0_3],enc p0.Head]).toArray),(Value.agg (cat [[v1_1],[vI p1.Next],[v1_2],[v1_3],enc p1.Head]).toArray)].toArray w0 (Rt w0 (vT r)):=by
 refine ce Tryz.func27 ?_
 intro a hE
 have hM:=M.start w0
 unfold XS at hF
 refine Zb (ZV (cs:=cat [[v0_1],[vI p0.Next],[v0_2],[v0_3],enc p0.Head]) hE hM Za ld rfl rfl fun b1 w a hM hE=>ZV (cs:=cat [[v1_1],[vI p1.Next],[v1_2],[v1_3],enc p1.Head]) hE hM Za ld rfl rfl fun b3 w a hM hE=>Zc hE rfl fun a hE=>Ze (wp_seq (Zb (Zf hE rfl (TL) fun a hE=>Zw (v:=v0_1) hE rfl Jw rfl (At.cat (pre:=[]) hM.rawAt1 cl0) fun a hE=>Zf hE rfl (TL) fun a hE=>Zw (v:=v1_1) hE rfl Jw rfl (At.cat (pre:=[]) hM.rawAt0 cl0) ?_)))); intro a hE
 obtain ⟨r5,e6,hF⟩:=bind_some hF
 refine Zx hE rfl (cbm Tryz.func91) (H3 _ p0.Keys v0_1 (hM.rdo hv0_1) p1.Keys v1_1 (hM.rdo hv1_1) r5 e6) ?_
 rintro v w a ⟨rfl,hK⟩ hE
 have hM:=hM.keep hK
 refine TX hE rfl fun a hE=>Ze ?_
 refine Zm hE rfl ?_ ?_
 ·intro hb7
  have hF:=Zt hF hb7
  refine Zb (Zc hE rfl fun a hE=>Ze ?_)
  obtain rfl:=Option.some.inj hF
  exact wp_ret (Zo (kr1 hE rfl rfl hM.kept))
 ·intro hb7
  have hF:=Zu hF hb7
  refine wp_skip (Zq (wp_seq (Zb (Zf hE rfl (Qu) fun a hE=>Zw (v:=(vI p0.Next)) hE rfl ty2 rfl (At.cat (pre:=[[v0_1]]) hM.rawAt1 ck) fun a hE=>Zf hE rfl (Qu) fun a hE=>Zw (v:=(vI p1.Next)) hE rfl ty2 rfl (At.cat (pre:=[[v1_1]]) hM.rawAt0 ck) fun a hE=>Zg hE rfl rfl rfl fun a hE=>Ze ?_))))
  refine Zm hE rfl ?_ ?_
  ·intro hb8
   have hF:=Zt hF hb8
   refine Zb (Zc hE rfl fun a hE=>Ze ?_)
   obtain rfl:=Option.some.inj hF
   exact wp_ret (Zo (kr1 hE rfl rfl hM.kept))
  ·intro hb8
   have hF:=Zu hF hb8
   refine wp_skip (Zq (wp_seq (Zb (Zf hE rfl (X1) fun a hE=>Zw (v:=v0_2) hE rfl TZ rfl (At.cat (pre:=[[v0_1],[vI p0.Next]]) hM.rawAt1 ck) fun a hE=>Zf hE rfl (X1) fun a hE=>Zw (v:=v1_2) hE rfl TZ rfl (At.cat (pre:=[[v1_1],[vI p1.Next]]) hM.rawAt0 ck) ?_)))); intro a hE
   obtain ⟨r9,e10,hF⟩:=bind_some hF
   refine Zx hE rfl (cbm Tryz.func92) (HN _ p0.Records v0_2 (hM.rdo hv0_2) p1.Records v1_2 (hM.rdo hv1_2) r9 e10) ?_
   rintro v w a ⟨rfl,hK⟩ hE
   have hM:=hM.keep hK
   refine TX hE rfl fun a hE=>Ze ?_
   refine Zm hE rfl ?_ ?_
   ·intro hb11
    have hF:=Zt hF hb11
    refine Zb (Zc hE rfl fun a hE=>Ze ?_)
    obtain rfl:=Option.some.inj hF
    exact wp_ret (Zo (kr1 hE rfl rfl hM.kept))
   ·intro hb11
    have hF:=Zu hF hb11
    refine wp_skip (Zq (wp_seq (Zb (Zf hE rfl (VM) fun a hE=>Zw (v:=v0_3) hE rfl QM rfl (At.cat (pre:=[[v0_1],[vI p0.Next],[v0_2]]) hM.rawAt1 ck) fun a hE=>Zf hE rfl (VM) fun a hE=>Zw (v:=v1_3) hE rfl QM rfl (At.cat (pre:=[[v1_1],[vI p1.Next],[v1_2]]) hM.rawAt0 ck) ?_)))); intro a hE
    obtain ⟨r12,e13,hF⟩:=bind_some hF
    refine Zx hE rfl (cbm Tryz.func93) (Bb _ p0.Events v0_3 (hM.rdo hv0_3) p1.Events v1_3 (hM.rdo hv1_3) r12 e13) ?_
    rintro v w a ⟨rfl,hK⟩ hE
    have hM:=hM.keep hK
    refine TX hE rfl fun a hE=>Ze ?_
    refine Zm hE rfl ?_ ?_
    ·intro hb14
     have hF:=Zt hF hb14
     refine Zb (Zc hE rfl fun a hE=>Ze ?_)
     obtain rfl:=Option.some.inj hF
     exact wp_ret (Zo (kr1 hE rfl rfl hM.kept))
    ·intro hb14
     have hF:=Zu hF hb14
     refine wp_skip (Zq (wp_seq (Zb (Zf hE rfl (Jb) fun a hE=>Zn hE rfl Yt rfl (At.cat (pre:=[[v0_1],[vI p0.Next],[v0_2],[v0_3]]) hM.rawAt1 ck) (Flat.len _) fun a hE=>Zf hE rfl (Jb) fun a hE=>Zn hE rfl Yt rfl (At.cat (pre:=[[v1_1],[vI p1.Next],[v1_2],[v1_3]]) hM.rawAt0 ck) (Flat.len _) ?_)))); intro a hE
     obtain ⟨r15,e16,hF⟩:=bind_some hF
     refine Zx hE rfl cb20 (Qb _ p0.Head p1.Head r15 e16) ?_
     rintro v w a ⟨rfl,hK⟩ hE
     have hM:=hM.keep hK
     refine TX hE rfl fun a hE=>Ze ?_
     refine Zm hE rfl ?_ ?_
     ·intro hb17
      have hF:=Zt hF hb17
      refine Zb (Zc hE rfl fun a hE=>Ze ?_)
      obtain rfl:=Option.some.inj hF
      exact wp_ret (Zo (kr1 hE rfl rfl hM.kept))
     ·intro hb17
      have hF:=Zu hF hb17
      refine wp_skip (Zq (Zb (Zc hE rfl fun a hE=>Ze ?_)))
      obtain rfl:=Option.some.inj hF
      exact wp_ret (kr1 hE rfl rfl hM.kept)
def Uc (s4 : (List (Vector UInt8 16)) × Int × Int) (s12 : (List (Vector UInt8 16)) × Int × Int) : Option (Fl ((List (Vector UInt8 16)) × Int × Int) ((List (Vector UInt8 16)) × Int)) :=
 if (decide (s12.2.2 < 16)) = true then ((idx s12.1 s4.2.2).bind fun x17=>(ZH x17 s12.2.2).bind fun x21=>some (Fl.nx ((s12.1.set (s4.2.2).toNat (x17.setIfInBounds (s12.2.2).toNat (Zy s12.2.1))),wr (s12.2.1 + 1),wr (s12.2.2 + 1)))) else (some (Fl.ex (s12.1,s12.2.1)))
def YQ (s4 : (List (Vector UInt8 16)) × Int × Int) : Option (Fl ((List (Vector UInt8 16)) × Int × Int) ((List (Vector UInt8 16)) × Int)) :=
 if (decide (s4.2.2 < (s4.1.length : Int))) = true then ((ZB (Uc s4) (s4.1,s4.2.1,0)).bind fun j9=>some (Fl.nx (j9.1,j9.2,wr (s4.2.2 + 1)))) else (some (Fl.ex (s4.1,s4.2.1)))
def Xm (p0 : (List (Vector UInt8 16))) (p1 : Int) : Option ((List (Vector UInt8 16)) × Int) :=
 (ZB (YQ) (p0,p1,0)).bind fun j1=>some (j1.1,j1.2)
theorem Hj (St : Nat → Prop) (W w0 : World) (its : List Item) (p0 : (List (Vector UInt8 16))) (v0_1 : Value) (p1 : Int) (hM : M St W w0 (own NoB (p0 : (List (Vector UInt8 16))) [v0_1] :: its)) (r : (List (Vector UInt8 16)) × Int) (hF : Xm p0 p1 = some r) :
  Calls Tryz.prog 94 [v0_1,vI p1].toArray w0 (fun en w'=>∃ v,en = .returned v ∧ (v = (vI r.2) ∧ M St W w' (own NoB (r.1 : (List (Vector UInt8 16))) [v0_1] :: its))):=by
 refine ce Tryz.func94 ?_
 intro a hE
 unfold Xm at hF
 refine Zb (Zc hE rfl fun a hE=>Ze (wp_seq (Zb (Zc hE rfl fun a hE=>Ze ?_))))
 obtain ⟨j1,hl2,hF3⟩:=bind_some hF
 refine ZI (fun a w=>Env 27 a [(0,v0_1),(1,vI j1.2)] ∧ M St W w (own NoB (j1.1 : (List (Vector UInt8 16))) [v0_1] :: its)) ?_ ?_
 ·skip
  refine wp_block ?_
  refine ZD (fun (s4 : (List (Vector UInt8 16)) × Int × Int) a w=>Env 27 a [(0,v0_1),(1,vI s4.2.1),(5,vI s4.2.2)] ∧ M St W w (own NoB (s4.1 : (List (Vector UInt8 16))) [v0_1] :: its)) hl2 ⟨hE.sub ⟨rfl,rfl,rfl,trivial⟩,hM⟩ ?_
  rintro s4 a w ⟨hE,hM⟩ o7 hs5 hx6
  unfold YQ at hs5
  refine wp_seq (Zb (Zd hE rfl fun a hE=>Zd hE rfl fun a hE=>Yb hE rfl Tryz.underlying54 (hM.ro (pre:=[]) noB) fun a hE=>Zg hE rfl rfl rfl fun a hE=>Ze ?_))
  refine Zm hE rfl ?_ ?_
  ·intro hb8
   have hs5:=Zt hs5 hb8
   refine wp_skip (Zq (wp_seq (wp_block (Zb (Zc hE rfl fun a hE=>Ze ?_)))))
   obtain ⟨j9,hl10,hF11⟩:=bind_some hs5
   refine ZI (fun a w=>Env 27 a [(0,v0_1),(1,vI j9.2),(5,vI s4.2.2)] ∧ M St W w (own NoB (j9.1 : (List (Vector UInt8 16))) [v0_1] :: its)) ?_ ?_
   ·skip
    refine wp_block ?_
    refine ZD (fun (s12 : (List (Vector UInt8 16)) × Int × Int) a w=>Env 27 a [(0,v0_1),(1,vI s12.2.1),(5,vI s4.2.2),(6,vI s12.2.2)] ∧ M St W w (own NoB (s12.1 : (List (Vector UInt8 16))) [v0_1] :: its)) hl10 ⟨hE.sub ⟨rfl,rfl,rfl,rfl,trivial⟩,hM⟩ ?_
    rintro s12 a w ⟨hE,hM⟩ o15 hs13 hx14
    unfold Uc at hs13
    refine wp_seq (Zb (Zd hE rfl fun a hE=>Zg hE rfl rfl rfl fun a hE=>Ze ?_))
    refine Zm hE rfl ?_ ?_
    ·intro hb16
     have hs13:=Zt hs13 hb16
     refine wp_skip (Zq (wp_seq (wp_block (Zb (Zd hE rfl fun a hE=>Zd hE rfl fun a hE=>Zd hE rfl fun a hE=>Zd hE rfl fun a hE=>Yj hE Za ld rfl Tryz.underlying3 Tryz.underlying5 ?_))))); intro a hE
     obtain ⟨x17,hi19,hs13⟩:=bix hs13
     refine ZN hE rfl rfl Tryz.underlying54 ZG (hM.ro (pre:=[]) noB) hi19.1 ?_; intro a hE
     obtain ⟨x21,hi20,hs13⟩:=bvx hs13
     refine ZC hE rfl rfl Tryz.underlying68 ty5 hi20.1 ?_; intro a hE
     have hM:=hM.toOsl (List.getElem?_eq_some_iff.1 hi19.2).1
     refine T3 (i:=(s4.2.2).toNat) (k0:=0 + (s12.2.2).toNat * 1) (seg:=[(vB (Zy s12.2.1))]) (xo:=x17) (xn:=(x17.setIfInBounds (s12.2.2).toNat (Zy s12.2.1))) hE hM Za (Bz rfl (by show _ = _ + _ * 16 + _; omega)) rfl rfl ty5 rfl (Flat.cell (Zy s12.2.1 : UInt8)) hi19.2 (k9 (x:=Zy s12.2.1) hi20.1) (ZE (v:=x17) (x:=Zy s12.2.1) hi20.1) ?_; intro w a hM hE
     have hM:=hM.toOwn noB
     refine Ze (wp_region_lit (Zd hE rfl fun a hE=>Zg hE rfl rfl rfl fun a hE=>Zc hE rfl fun a hE=>Zh (Z2 (Zq (wp_region_lit (Zd hE rfl fun a hE=>Zg hE rfl rfl rfl fun a hE=>Zc hE rfl fun a hE=>Zh (Zj ?_)))))))
     exact ⟨_,(ois hs13),hE.sub ⟨rfl,rfl,rfl,rfl,trivial⟩,hM⟩
    ·intro hb16
     have hs13:=Zu hs13 hb16
     refine wp_exit (Zl (Zl (Z3 ?_)))
     obtain rfl:=hx14 _ (ois hs13)
     refine Zj ?_
     exact ⟨hE.sub ⟨rfl,rfl,rfl,trivial⟩,hM⟩
   ·skip
    rintro a w ⟨hE,hM⟩
    refine Z2 (Zq (wp_region_lit (Zd hE rfl fun a hE=>Zg hE rfl rfl rfl fun a hE=>Zc hE rfl fun a hE=>Zh (Zj ?_))))
    exact ⟨_,(ois hF11),hE.sub ⟨rfl,rfl,rfl,trivial⟩,hM⟩
  ·intro hb8
   have hs5:=Zu hs5 hb8
   refine wp_exit (Zl (Zl (Z3 ?_)))
   obtain rfl:=hx6 _ (ois hs5)
   refine Zj ?_
   exact ⟨hE.sub ⟨rfl,rfl,trivial⟩,hM⟩
 ·skip
  rintro a w ⟨hE,hM⟩
  refine Zq (Zb (Zd hE rfl fun a hE=>Zc hE rfl fun a hE=>Ze ?_))
  obtain rfl:=Option.some.inj hF3
  exact wp_ret (ZL hE (by rfl) (ZT hE rfl) ⟨_,rfl,rfl,hM⟩)
def YW (s4 : (List UInt8) × Int × Int) : Option (Fl ((List UInt8) × Int × Int) ((List UInt8) × Int)) :=
 if (decide (s4.2.2 < (s4.1.length : Int))) = true then ((idx s4.1 s4.2.2).bind fun x9=>some (Fl.nx ((s4.1.set (s4.2.2).toNat (Zy s4.2.1)),wr (s4.2.1 + 1),wr (s4.2.2 + 1)))) else (some (Fl.ex (s4.1,s4.2.1)))
def YD (p0 : (List UInt8)) (p1 : Int) : Option ((List UInt8) × Int) :=
 (ZB (YW) (p0,p1,0)).bind fun j1=>some (j1.1,j1.2)
theorem QX (St : Nat → Prop) (W w0 : World) (its : List Item) (p0 : (List UInt8)) (v0_1 : Value) (p1 : Int) (hM : M St W w0 (own NoB (p0 : (List UInt8)) [v0_1] :: its)) (r : (List UInt8) × Int) (hF : YD p0 p1 = some r) :
  Calls Tryz.prog 22 [v0_1,vI p1].toArray w0 (fun en w'=>∃ v,en = .returned v ∧ (v = (vI r.2) ∧ M St W w' (own NoB (r.1 : (List UInt8)) [v0_1] :: its))):=by
 refine ce Tryz.func22 ?_
 intro a hE
 unfold YD at hF
 refine Zb (Zc hE rfl fun a hE=>Ze (wp_seq (Zb (Zc hE rfl fun a hE=>Ze ?_))))
 obtain ⟨j1,hl2,hF3⟩:=bind_some hF
 refine ZI (fun a w=>Env 20 a [(0,v0_1),(1,vI j1.2)] ∧ M St W w (own NoB (j1.1 : (List UInt8)) [v0_1] :: its)) ?_ ?_
 ·skip
  refine wp_block ?_
  refine ZD (fun (s4 : (List UInt8) × Int × Int) a w=>Env 20 a [(0,v0_1),(1,vI s4.2.1),(5,vI s4.2.2)] ∧ M St W w (own NoB (s4.1 : (List UInt8)) [v0_1] :: its)) hl2 ⟨hE.sub ⟨rfl,rfl,rfl,trivial⟩,hM⟩ ?_
  rintro s4 a w ⟨hE,hM⟩ o7 hs5 hx6
  unfold YW at hs5
  refine wp_seq (Zb (Zd hE rfl fun a hE=>Zd hE rfl fun a hE=>Yb hE rfl Tryz.underlying40 (hM.ro (pre:=[]) noB) fun a hE=>Zg hE rfl rfl rfl fun a hE=>Ze ?_))
  refine Zm hE rfl ?_ ?_
  ·intro hb8
   have hs5:=Zt hs5 hb8
   refine wp_skip (Zq (wp_seq (wp_block (Zb (Zd hE rfl fun a hE=>Zd hE rfl fun a hE=>Zd hE rfl fun a hE=>Yj hE Za ld rfl Tryz.underlying3 Tryz.underlying5 ?_))))); intro a hE
   obtain ⟨x9,hi11,hs5⟩:=bix hs5
   refine ZN hE rfl rfl Tryz.underlying40 ty5 (hM.ro (pre:=[]) noB) hi11.1 ?_; intro a hE
   have hM:=hM.toOsl (List.getElem?_eq_some_iff.1 hi11.2).1
   refine T3 (i:=(s4.2.2).toNat) (k0:=0) (seg:=[(vB (Zy s4.2.1))]) (xo:=x9) (xn:=Zy s4.2.1) hE hM Za rfl rfl rfl ty5 rfl (Flat.cell (Zy s4.2.1 : UInt8)) hi11.2 (QA (m:=1) rfl (by decide)) (Zi rfl) ?_; intro w a hM hE
   have hM:=hM.toOwn noB
   refine Ze (wp_region_lit (Zd hE rfl fun a hE=>Zg hE rfl rfl rfl fun a hE=>Zc hE rfl fun a hE=>Zh (Z2 (Zq (wp_region_lit (Zd hE rfl fun a hE=>Zg hE rfl rfl rfl fun a hE=>Zc hE rfl fun a hE=>Zh (Zj ?_)))))))
   exact ⟨_,(ois hs5),hE.sub ⟨rfl,rfl,rfl,trivial⟩,hM⟩
  ·intro hb8
   have hs5:=Zu hs5 hb8
   refine wp_exit (Zl (Zl (Z3 ?_)))
   obtain rfl:=hx6 _ (ois hs5)
   refine Zj ?_
   exact ⟨hE.sub ⟨rfl,rfl,trivial⟩,hM⟩
 ·skip
  rintro a w ⟨hE,hM⟩
  refine Zq (Zb (Zd hE rfl fun a hE=>Zc hE rfl fun a hE=>Ze ?_))
  obtain rfl:=Option.some.inj hF3
  exact wp_ret (ZL hE (by rfl) (ZT hE rfl) ⟨_,rfl,rfl,hM⟩)
def Vw (s4 : (List GRecord) × Int × Int) (s18 : (List GRecord) × Int × Int) : Option (Fl ((List GRecord) × Int × Int) ((List GRecord) × Int)) :=
 if (decide (s18.2.2 < 16)) = true then ((idx s18.1 s4.2.2).bind fun x23=>(ZH x23.Nonce s18.2.2).bind fun x27=>some (Fl.nx ((s18.1.set (s4.2.2).toNat (⟨x23.Number,x23.Version,(x23.Nonce.setIfInBounds (s18.2.2).toNat (Zy s18.2.1)),x23.Label,x23.Body,x23.Tag⟩ : GRecord)),wr (s18.2.1 + 1),wr (s18.2.2 + 1)))) else (some (Fl.ex (s18.1,s18.2.1)))
def VD (s4 : (List GRecord) × Int × Int) (s55 : (List GRecord) × Int × Int) : Option (Fl ((List GRecord) × Int × Int) ((List GRecord) × Int)) :=
 if (decide (s55.2.2 < 32)) = true then ((idx s55.1 s4.2.2).bind fun x60=>(ZH x60.Tag s55.2.2).bind fun x64=>some (Fl.nx ((s55.1.set (s4.2.2).toNat (⟨x60.Number,x60.Version,x60.Nonce,x60.Label,x60.Body,(x60.Tag.setIfInBounds (s55.2.2).toNat (Zy s55.2.1))⟩ : GRecord)),wr (s55.2.1 + 1),wr (s55.2.2 + 1)))) else (some (Fl.ex (s55.1,s55.2.1)))
def YF (s4 : (List GRecord) × Int × Int) : Option (Fl ((List GRecord) × Int × Int) ((List GRecord) × Int)) :=
 if (decide (s4.2.2 < (s4.1.length : Int))) = true then ((idx s4.1 s4.2.2).bind fun x9=>(idx (s4.1.set (s4.2.2).toNat (⟨s4.2.1,x9.Version,x9.Nonce,x9.Label,x9.Body,x9.Tag⟩ : GRecord)) s4.2.2).bind fun x12=>(ZB (Vw s4) (((s4.1.set (s4.2.2).toNat (⟨s4.2.1,x9.Version,x9.Nonce,x9.Label,x9.Body,x9.Tag⟩ : GRecord)).set (s4.2.2).toNat (⟨x12.Number,wr (s4.2.1 + 1),x12.Nonce,x12.Label,x12.Body,x12.Tag⟩ : GRecord)),wr ((wr (s4.2.1 + 1)) + 1),0)).bind fun j15=>(idx j15.1 s4.2.2).bind fun x30=>(YD x30.Label j15.2).bind fun r39=>(idx (j15.1.set (s4.2.2).toNat (⟨x30.Number,x30.Version,x30.Nonce,r39.1,x30.Body,x30.Tag⟩ : GRecord)) s4.2.2).bind fun x41=>(YD x41.Body r39.2).bind fun r50=>(ZB (VD s4) (((j15.1.set (s4.2.2).toNat (⟨x30.Number,x30.Version,x30.Nonce,r39.1,x30.Body,x30.Tag⟩ : GRecord)).set (s4.2.2).toNat (⟨x41.Number,x41.Version,x41.Nonce,x41.Label,r50.1,x41.Tag⟩ : GRecord)),r50.2,0)).bind fun j52=>some (Fl.nx (j52.1,j52.2,wr (s4.2.2 + 1)))) else (some (Fl.ex (s4.1,s4.2.1)))
def Xa (p0 : (List GRecord)) (p1 : Int) : Option ((List GRecord) × Int) :=
 (ZB (YF) (p0,p1,0)).bind fun j1=>some (j1.1,j1.2)
theorem Jx (St : Nat → Prop) (W w0 : World) (its : List Item) (p0 : (List GRecord)) (v0_1 : Value) (p1 : Int) (hM : M St W w0 (own NoB (p0 : (List GRecord)) [v0_1] :: its)) (r : (List GRecord) × Int) (hF : Xa p0 p1 = some r) :
  Calls Tryz.prog 95 [v0_1,vI p1].toArray w0 (fun en w'=>∃ v,en = .returned v ∧ (v = (vI r.2) ∧ M St W w' (own NoB (r.1 : (List GRecord)) [v0_1] :: its))):=by
 refine ce Tryz.func95 ?_
 intro a hE
 unfold Xa at hF
 refine Zb (Zc hE rfl fun a hE=>Ze (wp_seq (Zb (Zc hE rfl fun a hE=>Ze ?_))))
 obtain ⟨j1,hl2,hF3⟩:=bind_some hF
 refine ZI (fun a w=>Env 71 a [(0,v0_1),(1,vI j1.2)] ∧ M St W w (own NoB (j1.1 : (List GRecord)) [v0_1] :: its)) ?_ ?_
 ·skip
  refine wp_block ?_
  refine ZD (fun (s4 : (List GRecord) × Int × Int) a w=>Env 71 a [(0,v0_1),(1,vI s4.2.1),(5,vI s4.2.2)] ∧ M St W w (own NoB (s4.1 : (List GRecord)) [v0_1] :: its)) hl2 ⟨hE.sub ⟨rfl,rfl,rfl,trivial⟩,hM⟩ ?_
  rintro s4 a w ⟨hE,hM⟩ o7 hs5 hx6
  unfold YF at hs5
  refine wp_seq (Zb (Zd hE rfl fun a hE=>Zd hE rfl fun a hE=>Yb hE rfl Tryz.underlying55 (hM.ro (pre:=[]) noB) fun a hE=>Zg hE rfl rfl rfl fun a hE=>Ze ?_))
  refine Zm hE rfl ?_ ?_
  ·intro hb8
   have hs5:=Zt hs5 hb8
   refine wp_skip (Zq (wp_seq (wp_block (Zb (Zd hE rfl fun a hE=>Zd hE rfl fun a hE=>Zd hE rfl ?_))))); intro a hE
   obtain ⟨x9,hi11,hs5⟩:=bix hs5
   refine ZN hE rfl rfl Tryz.underlying55 Z4 (hM.ro (pre:=[]) noB) hi11.1 fun a hE=>Zf hE rfl (Ua) ?_; intro a hE
   have hM:=hM.toOsl (List.getElem?_eq_some_iff.1 hi11.2).1
   refine KH (i:=(s4.2.2).toNat) (k0:=0 + 0) (seg:=[vI s4.2.1]) (xo:=x9) (xn:=(⟨s4.2.1,x9.Version,x9.Nonce,x9.Label,x9.Body,x9.Tag⟩ : GRecord)) hE hM noB Za rfl rfl rfl ty2 rfl (Flat.cell (s4.2.1 : Int)) hi11.2 (QA (m:=1) rfl (by decide)) (fun S w cs f h=>by obtain ⟨y1,y2,_,_,rfl,rfl,s1,s2⟩:=UV h; exact J0 (ZR (pre:=[]) cl0 rfl) (W0 s1 s2 (by simp))) ?_; intro w a hM hE
   have hM:=hM.toOwn noB
   refine Ze (Zb (Zd hE rfl fun a hE=>Zg hE rfl rfl rfl fun a hE=>Zc hE rfl fun a hE=>Ze (Zb (Zd hE rfl fun a hE=>Zd hE rfl fun a hE=>Zd hE rfl ?_)))); intro a hE
   obtain ⟨x12,hi14,hs5⟩:=bix hs5
   refine ZN hE rfl rfl Tryz.underlying55 Z4 (hM.ro (pre:=[]) noB) hi14.1 fun a hE=>Zf hE rfl (Qi) ?_; intro a hE
   have hM:=hM.toOsl (List.getElem?_eq_some_iff.1 hi14.2).1
   refine KH (i:=(s4.2.2).toNat) (k0:=0 + 1) (seg:=[(vI (wr (s4.2.1 + 1)))]) (xo:=x12) (xn:=(⟨x12.Number,wr (s4.2.1 + 1),x12.Nonce,x12.Label,x12.Body,x12.Tag⟩ : GRecord)) hE hM noB Za rfl rfl rfl ty2 rfl (Flat.cell (wr (s4.2.1 + 1) : Int)) hi14.2 (QA (m:=1) rfl (by decide)) (fun S w cs f h=>by obtain ⟨y1,y2,_,_,rfl,rfl,s1,s2⟩:=UV h; exact J0 (ZR (pre:=[[vI x12.Number]]) ck rfl) (W0 s1 s2 (by simp))) ?_; intro w a hM hE
   have hM:=hM.toOwn noB
   refine Ze (Zb (Zd hE rfl fun a hE=>Zg hE rfl rfl rfl fun a hE=>Zc hE rfl fun a hE=>Ze (wp_seq (Zb (Zc hE rfl fun a hE=>Ze ?_)))))
   obtain ⟨j15,hl16,hF17⟩:=bind_some hs5
   refine ZI (fun a w=>Env 71 a [(0,v0_1),(1,vI j15.2),(5,vI s4.2.2)] ∧ M St W w (own NoB (j15.1 : (List GRecord)) [v0_1] :: its)) ?_ ?_
   ·skip
    refine wp_block ?_
    refine ZD (fun (s18 : (List GRecord) × Int × Int) a w=>Env 71 a [(0,v0_1),(1,vI s18.2.1),(5,vI s4.2.2),(6,vI s18.2.2)] ∧ M St W w (own NoB (s18.1 : (List GRecord)) [v0_1] :: its)) hl16 ⟨hE.sub ⟨rfl,rfl,rfl,rfl,trivial⟩,hM⟩ ?_
    rintro s18 a w ⟨hE,hM⟩ o21 hs19 hx20
    unfold Vw at hs19
    refine wp_seq (Zb (Zd hE rfl fun a hE=>Zg hE rfl rfl rfl fun a hE=>Ze ?_))
    refine Zm hE rfl ?_ ?_
    ·intro hb22
     have hs19:=Zt hs19 hb22
     refine wp_skip (Zq (wp_seq (wp_block (Zb (Zd hE rfl fun a hE=>Zd hE rfl fun a hE=>Zd hE rfl fun a hE=>Zd hE rfl fun a hE=>Yj hE Za ld rfl Tryz.underlying3 Tryz.underlying5 ?_))))); intro a hE
     obtain ⟨x23,hi25,hs19⟩:=bix hs19
     refine ZN hE rfl rfl Tryz.underlying55 Z4 (hM.ro (pre:=[]) noB) hi25.1 fun a hE=>Zf hE rfl (JQ) ?_; intro a hE
     obtain ⟨x27,hi26,hs19⟩:=bvx hs19
     refine ZC hE rfl rfl Tryz.underlying68 ty5 hi26.1 ?_; intro a hE
     have hM:=hM.toOsl (List.getElem?_eq_some_iff.1 hi25.2).1
     refine KH (i:=(s4.2.2).toNat) (k0:=0 + 2 + (s18.2.2).toNat * 1) (seg:=[(vB (Zy s18.2.1))]) (xo:=x23) (xn:=(⟨x23.Number,x23.Version,(x23.Nonce.setIfInBounds (s18.2.2).toNat (Zy s18.2.1)),x23.Label,x23.Body,x23.Tag⟩ : GRecord)) hE hM noB Za (Bz rfl (by show _ = _ + _ * 52 + _; omega)) rfl rfl ty5 rfl (Flat.cell (Zy s18.2.1 : UInt8)) hi25.2 (Ar (m:=1) hi26.1 rfl (by decide)) (fun S w cs f h=>by obtain ⟨y1,y2,_,_,rfl,rfl,s1,s2⟩:=UV h; exact J0 (VZ (o':=0 + (s18.2.2).toNat * 1) (pre:=[[vI x23.Number],[vI x23.Version]]) (seg:=enc x23.Nonce) (post:=[[y1],[y2],enc x23.Tag]) ck (ZK (v:=x23.Nonce) (x:=Zy s18.2.1) hi26.1) (ZE (v:=x23.Nonce) (x:=Zy s18.2.1) hi26.1) (by first | omega | (simp only [Flat.n] <;> omega))) (W0 s1 s2 (by simp))) ?_; intro w a hM hE
     have hM:=hM.toOwn noB
     refine Ze (wp_region_lit (Zd hE rfl fun a hE=>Zg hE rfl rfl rfl fun a hE=>Zc hE rfl fun a hE=>Zh (Z2 (Zq (wp_region_lit (Zd hE rfl fun a hE=>Zg hE rfl rfl rfl fun a hE=>Zc hE rfl fun a hE=>Zh (Zj ?_)))))))
     exact ⟨_,(ois hs19),hE.sub ⟨rfl,rfl,rfl,rfl,trivial⟩,hM⟩
    ·intro hb22
     have hs19:=Zu hs19 hb22
     refine wp_exit (Zl (Zl (Z3 ?_)))
     obtain rfl:=hx20 _ (ois hs19)
     refine Zj ?_
     exact ⟨hE.sub ⟨rfl,rfl,rfl,trivial⟩,hM⟩
   ·skip
    rintro a w ⟨hE,hM⟩
    refine Zq (Zb (Zd hE rfl fun a hE=>Zd hE rfl ?_)); intro a hE
    obtain ⟨x30,hi32,hF17⟩:=bix hF17
    refine ZN hE rfl rfl Tryz.underlying55 Z4 (hM.ro (pre:=[]) noB) hi32.1 fun a hE=>Zf hE rfl (Tz) ?_; intro a hE
    have hM:=(hM.toOsl (List.getElem?_eq_some_iff.1 hi32.2).1).open1 noB hi32.2
    obtain ⟨cs33,hM,hA34⟩:=hM
    obtain ⟨_,hx,_⟩:=hM.head
    obtain ⟨u35,u36,_,_,rfl,_,_,_⟩:=UV hx
    have hM:=hM.unpackL (m:=[own NoB (x30.Label : (List UInt8)) [u35],own NoB (x30.Body : (List UInt8)) [u36]]) (fun fp h=>by obtain ⟨_,_,rfl,s1,s2⟩:=Km h; exact (Xd.cons (Xj noB) s1 (Xd.one (Xj noB) s2)))
    simp only [List.cons_append,List.nil_append] at hM
    refine Zw (v:=u35) hE rfl Ui rfl (At.cat (pre:=[[vI x30.Number],[vI x30.Version],enc x30.Nonce]) hA34 ck) fun a hE=>Zd hE rfl ?_; intro a hE
    obtain ⟨r39,e40,hF17⟩:=bind_some hF17
    refine Zx hE rfl (cbm Tryz.func22) (QX _ _ _ _ x30.Label u35 j15.2 hM r39 e40) ?_
    rintro v w a ⟨rfl,hM⟩ hE
    have hM:=hM.pull2.pull2.pull2
    have hM:=hM.packL (m:=[own NoB (r39.1 : (List UInt8)) [u35],own NoB (x30.Body : (List UInt8)) [u36]]) (it:=own NoB (⟨x30.Number,x30.Version,x30.Nonce,r39.1,x30.Body,x30.Tag⟩ : GRecord) (cat [[vI x30.Number],[vI x30.Version],enc x30.Nonce,[u35],[u36],enc x30.Tag])) (Xj noB) (fun fp h=>by obtain ⟨_,_,rfl,_,s1,_,_,rfl,_,s2,rfl⟩:=h; exact W0 s1 s2 (by simp))
    have hM:=(hM.close1 noB).toOwn noB
    refine Zc hE rfl fun a hE=>Ze (Zb (Zd hE rfl fun a hE=>Zd hE rfl ?_)); intro a hE
    obtain ⟨x41,hi43,hF17⟩:=bix hF17
    refine ZN hE rfl rfl Tryz.underlying55 Z4 (hM.ro (pre:=[]) noB) hi43.1 fun a hE=>Zf hE rfl (TU) ?_; intro a hE
    have hM:=(hM.toOsl (List.getElem?_eq_some_iff.1 hi43.2).1).open1 noB hi43.2
    obtain ⟨cs44,hM,hA45⟩:=hM
    obtain ⟨_,hx,_⟩:=hM.head
    obtain ⟨u46,u47,_,_,rfl,_,_,_⟩:=UV hx
    have hM:=hM.unpackL (m:=[own NoB (x41.Label : (List UInt8)) [u46],own NoB (x41.Body : (List UInt8)) [u47]]) (fun fp h=>by obtain ⟨_,_,rfl,s1,s2⟩:=Km h; exact (Xd.cons (Xj noB) s1 (Xd.one (Xj noB) s2)))
    simp only [List.cons_append,List.nil_append] at hM
    refine Zw (v:=u47) hE rfl Ui rfl (At.cat (pre:=[[vI x41.Number],[vI x41.Version],enc x41.Nonce,[u46]]) hA45 ck) fun a hE=>Zd hE rfl ?_; intro a hE
    have hM:=hM.pull1
    obtain ⟨r50,e51,hF17⟩:=bind_some hF17
    refine Zx hE rfl (cbm Tryz.func22) (QX _ _ _ _ x41.Body u47 r39.2 hM r50 e51) ?_
    rintro v w a ⟨rfl,hM⟩ hE
    have hM:=hM.pull2.pull1.pull2
    have hM:=hM.packL (m:=[own NoB (x41.Label : (List UInt8)) [u46],own NoB (r50.1 : (List UInt8)) [u47]]) (it:=own NoB (⟨x41.Number,x41.Version,x41.Nonce,x41.Label,r50.1,x41.Tag⟩ : GRecord) (cat [[vI x41.Number],[vI x41.Version],enc x41.Nonce,[u46],[u47],enc x41.Tag])) (Xj noB) (fun fp h=>by obtain ⟨_,_,rfl,_,s1,_,_,rfl,_,s2,rfl⟩:=h; exact W0 s1 s2 (by simp))
    have hM:=(hM.close1 noB).toOwn noB
    refine Zc hE rfl fun a hE=>Ze (Zb (Zc hE rfl fun a hE=>Ze ?_))
    obtain ⟨j52,hl53,hF54⟩:=bind_some hF17
    refine ZI (fun a w=>Env 71 a [(0,v0_1),(1,vI j52.2),(5,vI s4.2.2)] ∧ M St W w (own NoB (j52.1 : (List GRecord)) [v0_1] :: its)) ?_ ?_
    ·skip
     refine wp_block ?_
     refine ZD (fun (s55 : (List GRecord) × Int × Int) a w=>Env 71 a [(0,v0_1),(1,vI s55.2.1),(5,vI s4.2.2),(7,vI s55.2.2)] ∧ M St W w (own NoB (s55.1 : (List GRecord)) [v0_1] :: its)) hl53 ⟨hE.sub ⟨rfl,rfl,rfl,rfl,trivial⟩,hM⟩ ?_
     rintro s55 a w ⟨hE,hM⟩ o58 hs56 hx57
     unfold VD at hs56
     refine wp_seq (Zb (Zd hE rfl fun a hE=>Zg hE rfl rfl rfl fun a hE=>Ze ?_))
     refine Zm hE rfl ?_ ?_
     ·intro hb59
      have hs56:=Zt hs56 hb59
      refine wp_skip (Zq (wp_seq (wp_block (Zb (Zd hE rfl fun a hE=>Zd hE rfl fun a hE=>Zd hE rfl fun a hE=>Zd hE rfl fun a hE=>Yj hE Za ld rfl Tryz.underlying3 Tryz.underlying5 ?_))))); intro a hE
      obtain ⟨x60,hi62,hs56⟩:=bix hs56
      refine ZN hE rfl rfl Tryz.underlying55 Z4 (hM.ro (pre:=[]) noB) hi62.1 fun a hE=>Zf hE rfl (J7) ?_; intro a hE
      obtain ⟨x64,hi63,hs56⟩:=bvx hs56
      refine ZC hE rfl rfl Tryz.underlying35 ty5 hi63.1 ?_; intro a hE
      have hM:=hM.toOsl (List.getElem?_eq_some_iff.1 hi62.2).1
      refine KH (i:=(s4.2.2).toNat) (k0:=0 + 20 + (s55.2.2).toNat * 1) (seg:=[(vB (Zy s55.2.1))]) (xo:=x60) (xn:=(⟨x60.Number,x60.Version,x60.Nonce,x60.Label,x60.Body,(x60.Tag.setIfInBounds (s55.2.2).toNat (Zy s55.2.1))⟩ : GRecord)) hE hM noB Za (Bz rfl (by show _ = _ + _ * 52 + _; omega)) rfl rfl ty5 rfl (Flat.cell (Zy s55.2.1 : UInt8)) hi62.2 (Ar (m:=1) hi63.1 rfl (by decide)) (fun S w cs f h=>by obtain ⟨y1,y2,_,_,rfl,rfl,s1,s2⟩:=UV h; exact J0 (VZ (o':=0 + (s55.2.2).toNat * 1) (pre:=[[vI x60.Number],[vI x60.Version],enc x60.Nonce,[y1],[y2]]) (seg:=enc x60.Tag) (post:=[]) ck (ZK (v:=x60.Tag) (x:=Zy s55.2.1) hi63.1) (ZE (v:=x60.Tag) (x:=Zy s55.2.1) hi63.1) (by first | omega | (simp only [Flat.n] <;> omega))) (W0 s1 s2 (by simp))) ?_; intro w a hM hE
      have hM:=hM.toOwn noB
      refine Ze (wp_region_lit (Zd hE rfl fun a hE=>Zg hE rfl rfl rfl fun a hE=>Zc hE rfl fun a hE=>Zh (Z2 (Zq (wp_region_lit (Zd hE rfl fun a hE=>Zg hE rfl rfl rfl fun a hE=>Zc hE rfl fun a hE=>Zh (Zj ?_)))))))
      exact ⟨_,(ois hs56),hE.sub ⟨rfl,rfl,rfl,rfl,trivial⟩,hM⟩
     ·intro hb59
      have hs56:=Zu hs56 hb59
      refine wp_exit (Zl (Zl (Z3 ?_)))
      obtain rfl:=hx57 _ (ois hs56)
      refine Zj ?_
      exact ⟨hE.sub ⟨rfl,rfl,rfl,trivial⟩,hM⟩
    ·skip
     rintro a w ⟨hE,hM⟩
     refine Z2 (Zq (wp_region_lit (Zd hE rfl fun a hE=>Zg hE rfl rfl rfl fun a hE=>Zc hE rfl fun a hE=>Zh (Zj ?_))))
     exact ⟨_,(ois hF54),hE.sub ⟨rfl,rfl,rfl,trivial⟩,hM⟩
  ·intro hb8
   have hs5:=Zu hs5 hb8
   refine wp_exit (Zl (Zl (Z3 ?_)))
   obtain rfl:=hx6 _ (ois hs5)
   refine Zj ?_
   exact ⟨hE.sub ⟨rfl,rfl,trivial⟩,hM⟩
 ·skip
  rintro a w ⟨hE,hM⟩
  refine Zq (Zb (Zd hE rfl fun a hE=>Zc hE rfl fun a hE=>Ze ?_))
  obtain rfl:=Option.some.inj hF3
  exact wp_ret (ZL hE (by rfl) (ZT hE rfl) ⟨_,rfl,rfl,hM⟩)
def V6 (s4 : (List GEvent) × Int × Int) (s18 : (List GEvent) × Int × Int) : Option (Fl ((List GEvent) × Int × Int) ((List GEvent) × Int)) :=
 if (decide (s18.2.2 < 32)) = true then ((idx s18.1 s4.2.2).bind fun x23=>(ZH x23.Tag s18.2.2).bind fun x27=>some (Fl.nx ((s18.1.set (s4.2.2).toNat (⟨x23.Kind,x23.Number,(x23.Tag.setIfInBounds (s18.2.2).toNat (Zy s18.2.1))⟩ : GEvent)),wr (s18.2.1 + 1),wr (s18.2.2 + 1)))) else (some (Fl.ex (s18.1,s18.2.1)))
def YP (s4 : (List GEvent) × Int × Int) : Option (Fl ((List GEvent) × Int × Int) ((List GEvent) × Int)) :=
 if (decide (s4.2.2 < (s4.1.length : Int))) = true then ((idx s4.1 s4.2.2).bind fun x9=>(idx (s4.1.set (s4.2.2).toNat (⟨s4.2.1,x9.Number,x9.Tag⟩ : GEvent)) s4.2.2).bind fun x12=>(ZB (V6 s4) (((s4.1.set (s4.2.2).toNat (⟨s4.2.1,x9.Number,x9.Tag⟩ : GEvent)).set (s4.2.2).toNat (⟨x12.Kind,wr (s4.2.1 + 1),x12.Tag⟩ : GEvent)),wr ((wr (s4.2.1 + 1)) + 1),0)).bind fun j15=>some (Fl.nx (j15.1,j15.2,wr (s4.2.2 + 1)))) else (some (Fl.ex (s4.1,s4.2.1)))
def Xn (p0 : (List GEvent)) (p1 : Int) : Option ((List GEvent) × Int) :=
 (ZB (YP) (p0,p1,0)).bind fun j1=>some (j1.1,j1.2)
theorem Ha (St : Nat → Prop) (W w0 : World) (its : List Item) (p0 : (List GEvent)) (v0_1 : Value) (p1 : Int) (hM : M St W w0 (own NoB (p0 : (List GEvent)) [v0_1] :: its)) (r : (List GEvent) × Int) (hF : Xn p0 p1 = some r) :
  Calls Tryz.prog 96 [v0_1,vI p1].toArray w0 (fun en w'=>∃ v,en = .returned v ∧ (v = (vI r.2) ∧ M St W w' (own NoB (r.1 : (List GEvent)) [v0_1] :: its))):=by
 refine ce Tryz.func96 ?_
 intro a hE
 unfold Xn at hF
 refine Zb (Zc hE rfl fun a hE=>Ze (wp_seq (Zb (Zc hE rfl fun a hE=>Ze ?_))))
 obtain ⟨j1,hl2,hF3⟩:=bind_some hF
 refine ZI (fun a w=>Env 42 a [(0,v0_1),(1,vI j1.2)] ∧ M St W w (own NoB (j1.1 : (List GEvent)) [v0_1] :: its)) ?_ ?_
 ·skip
  refine wp_block ?_
  refine ZD (fun (s4 : (List GEvent) × Int × Int) a w=>Env 42 a [(0,v0_1),(1,vI s4.2.1),(5,vI s4.2.2)] ∧ M St W w (own NoB (s4.1 : (List GEvent)) [v0_1] :: its)) hl2 ⟨hE.sub ⟨rfl,rfl,rfl,trivial⟩,hM⟩ ?_
  rintro s4 a w ⟨hE,hM⟩ o7 hs5 hx6
  unfold YP at hs5
  refine wp_seq (Zb (Zd hE rfl fun a hE=>Zd hE rfl fun a hE=>Yb hE rfl Tryz.underlying56 (hM.ro (pre:=[]) noB) fun a hE=>Zg hE rfl rfl rfl fun a hE=>Ze ?_))
  refine Zm hE rfl ?_ ?_
  ·intro hb8
   have hs5:=Zt hs5 hb8
   refine wp_skip (Zq (wp_seq (wp_block (Zb (Zd hE rfl fun a hE=>Zd hE rfl fun a hE=>Zd hE rfl ?_))))); intro a hE
   obtain ⟨x9,hi11,hs5⟩:=bix hs5
   refine ZN hE rfl rfl Tryz.underlying56 Y3 (hM.ro (pre:=[]) noB) hi11.1 fun a hE=>Zf hE rfl (Qh) ?_; intro a hE
   have hM:=hM.toOsl (List.getElem?_eq_some_iff.1 hi11.2).1
   refine T3 (i:=(s4.2.2).toNat) (k0:=0 + 0) (seg:=[vI s4.2.1]) (xo:=x9) (xn:=(⟨s4.2.1,x9.Number,x9.Tag⟩ : GEvent)) hE hM Za rfl rfl rfl ty2 rfl (Flat.cell (s4.2.1 : Int)) hi11.2 (QA (m:=1) rfl (by decide)) (ZR (pre:=[]) cl0 rfl) ?_; intro w a hM hE
   have hM:=hM.toOwn noB
   refine Ze (Zb (Zd hE rfl fun a hE=>Zg hE rfl rfl rfl fun a hE=>Zc hE rfl fun a hE=>Ze (Zb (Zd hE rfl fun a hE=>Zd hE rfl fun a hE=>Zd hE rfl ?_)))); intro a hE
   obtain ⟨x12,hi14,hs5⟩:=bix hs5
   refine ZN hE rfl rfl Tryz.underlying56 Y3 (hM.ro (pre:=[]) noB) hi14.1 fun a hE=>Zf hE rfl (Qm) ?_; intro a hE
   have hM:=hM.toOsl (List.getElem?_eq_some_iff.1 hi14.2).1
   refine T3 (i:=(s4.2.2).toNat) (k0:=0 + 1) (seg:=[(vI (wr (s4.2.1 + 1)))]) (xo:=x12) (xn:=(⟨x12.Kind,wr (s4.2.1 + 1),x12.Tag⟩ : GEvent)) hE hM Za rfl rfl rfl ty2 rfl (Flat.cell (wr (s4.2.1 + 1) : Int)) hi14.2 (QA (m:=1) rfl (by decide)) (ZR (pre:=[[vI x12.Kind]]) ck rfl) ?_; intro w a hM hE
   have hM:=hM.toOwn noB
   refine Ze (Zb (Zd hE rfl fun a hE=>Zg hE rfl rfl rfl fun a hE=>Zc hE rfl fun a hE=>Ze (Zb (Zc hE rfl fun a hE=>Ze ?_))))
   obtain ⟨j15,hl16,hF17⟩:=bind_some hs5
   refine ZI (fun a w=>Env 42 a [(0,v0_1),(1,vI j15.2),(5,vI s4.2.2)] ∧ M St W w (own NoB (j15.1 : (List GEvent)) [v0_1] :: its)) ?_ ?_
   ·skip
    refine wp_block ?_
    refine ZD (fun (s18 : (List GEvent) × Int × Int) a w=>Env 42 a [(0,v0_1),(1,vI s18.2.1),(5,vI s4.2.2),(6,vI s18.2.2)] ∧ M St W w (own NoB (s18.1 : (List GEvent)) [v0_1] :: its)) hl16 ⟨hE.sub ⟨rfl,rfl,rfl,rfl,trivial⟩,hM⟩ ?_
    rintro s18 a w ⟨hE,hM⟩ o21 hs19 hx20
    unfold V6 at hs19
    refine wp_seq (Zb (Zd hE rfl fun a hE=>Zg hE rfl rfl rfl fun a hE=>Ze ?_))
    refine Zm hE rfl ?_ ?_
    ·intro hb22
     have hs19:=Zt hs19 hb22
     refine wp_skip (Zq (wp_seq (wp_block (Zb (Zd hE rfl fun a hE=>Zd hE rfl fun a hE=>Zd hE rfl fun a hE=>Zd hE rfl fun a hE=>Yj hE Za ld rfl Tryz.underlying3 Tryz.underlying5 ?_))))); intro a hE
     obtain ⟨x23,hi25,hs19⟩:=bix hs19
     refine ZN hE rfl rfl Tryz.underlying56 Y3 (hM.ro (pre:=[]) noB) hi25.1 fun a hE=>Zf hE rfl (Q5) ?_; intro a hE
     obtain ⟨x27,hi26,hs19⟩:=bvx hs19
     refine ZC hE rfl rfl Tryz.underlying35 ty5 hi26.1 ?_; intro a hE
     have hM:=hM.toOsl (List.getElem?_eq_some_iff.1 hi25.2).1
     refine T3 (i:=(s4.2.2).toNat) (k0:=0 + 2 + (s18.2.2).toNat * 1) (seg:=[(vB (Zy s18.2.1))]) (xo:=x23) (xn:=(⟨x23.Kind,x23.Number,(x23.Tag.setIfInBounds (s18.2.2).toNat (Zy s18.2.1))⟩ : GEvent)) hE hM Za (Bz rfl (by show _ = _ + _ * 34 + _; omega)) rfl rfl ty5 rfl (Flat.cell (Zy s18.2.1 : UInt8)) hi25.2 (Ar (m:=1) hi26.1 rfl (by decide)) (VZ (o':=0 + (s18.2.2).toNat * 1) (pre:=[[vI x23.Kind],[vI x23.Number]]) (seg:=enc x23.Tag) (post:=[]) ck (ZK (v:=x23.Tag) (x:=Zy s18.2.1) hi26.1) (ZE (v:=x23.Tag) (x:=Zy s18.2.1) hi26.1) (by first | omega | (simp only [Flat.n] <;> omega))) ?_; intro w a hM hE
     have hM:=hM.toOwn noB
     refine Ze (wp_region_lit (Zd hE rfl fun a hE=>Zg hE rfl rfl rfl fun a hE=>Zc hE rfl fun a hE=>Zh (Z2 (Zq (wp_region_lit (Zd hE rfl fun a hE=>Zg hE rfl rfl rfl fun a hE=>Zc hE rfl fun a hE=>Zh (Zj ?_)))))))
     exact ⟨_,(ois hs19),hE.sub ⟨rfl,rfl,rfl,rfl,trivial⟩,hM⟩
    ·intro hb22
     have hs19:=Zu hs19 hb22
     refine wp_exit (Zl (Zl (Z3 ?_)))
     obtain rfl:=hx20 _ (ois hs19)
     refine Zj ?_
     exact ⟨hE.sub ⟨rfl,rfl,rfl,trivial⟩,hM⟩
   ·skip
    rintro a w ⟨hE,hM⟩
    refine Z2 (Zq (wp_region_lit (Zd hE rfl fun a hE=>Zg hE rfl rfl rfl fun a hE=>Zc hE rfl fun a hE=>Zh (Zj ?_))))
    exact ⟨_,(ois hF17),hE.sub ⟨rfl,rfl,rfl,trivial⟩,hM⟩
  ·intro hb8
   have hs5:=Zu hs5 hb8
   refine wp_exit (Zl (Zl (Z3 ?_)))
   obtain rfl:=hx6 _ (ois hs5)
   refine Zj ?_
   exact ⟨hE.sub ⟨rfl,rfl,trivial⟩,hM⟩
 ·skip
  rintro a w ⟨hE,hM⟩
  refine Zq (Zb (Zd hE rfl fun a hE=>Zc hE rfl fun a hE=>Ze ?_))
  obtain rfl:=Option.some.inj hF3
  exact wp_ret (ZL hE (by rfl) (ZT hE rfl) ⟨_,rfl,rfl,hM⟩)
def Xe (p0 : GVault) (p1 : Int) : Option (GVault × Int) :=
 (Xm p0.Keys p1).bind fun r3=>(Xa p0.Records r3.2).bind fun r5=>(Xn p0.Events r5.2).bind fun r7=>some ((⟨r3.1,p0.Next,r5.1,r7.1,p0.Head⟩ : GVault),r7.2)
theorem QQ (St : Nat → Prop) (W w0 : World) (its : List Item) (p0 : GVault) (v0_1 : Value) (v0_2 : Value) (v0_3 : Value) (p1 : Int) (hM : M St W w0 (own NoB (p0.Keys : (List (Vector UInt8 16))) [v0_1] :: own NoB (p0.Records : (List GRecord)) [v0_2] :: own NoB (p0.Events : (List GEvent)) [v0_3] :: its)) (r : GVault × Int) (hF : Xe p0 p1 = some r) :
  Calls Tryz.prog 28 [(Value.agg (cat [[v0_1],[vI p0.Next],[v0_2],[v0_3],enc p0.Head]).toArray),vI p1].toArray w0 (fun en w'=>∃ v,en = .returned v ∧ (v = (vI r.2) ∧ M St W w' (own NoB (r.1.Keys : (List (Vector UInt8 16))) [v0_1] :: own NoB (r.1.Records : (List GRecord)) [v0_2] :: own NoB (r.1.Events : (List GEvent)) [v0_3] :: its))):=by
 refine ce Tryz.func28 ?_
 intro a hE
 unfold Xe at hF
 refine Zb (ZV (cs:=cat [[v0_1],[vI p0.Next],[v0_2],[v0_3],enc p0.Head]) hE hM Za ld rfl rfl fun b1 w a hM hE=>Zc hE rfl fun a hE=>Ze (Zb (Zf hE rfl (TL) fun a hE=>Zw (v:=v0_1) hE rfl Jw rfl (At.cat (pre:=[]) hM.rawAt0 cl0) fun a hE=>Zd hE rfl ?_))); intro a hE
 have hM:=hM.pull1
 obtain ⟨r3,e4,hF⟩:=bind_some hF
 refine Zx hE rfl (cbm Tryz.func94) (Hj _ _ _ _ p0.Keys v0_1 p1 hM r3 e4) ?_
 rintro v w a ⟨rfl,hM⟩ hE
 refine Zc hE rfl fun a hE=>Ze (Zb (Zf hE rfl (X1) fun a hE=>Zw (v:=v0_2) hE rfl TZ rfl (At.cat (pre:=[[v0_1],[vI p0.Next]]) hM.rawAt1 ck) fun a hE=>Zd hE rfl ?_)); intro a hE
 have hM:=hM.pull2
 obtain ⟨r5,e6,hF⟩:=bind_some hF
 refine Zx hE rfl (cbm Tryz.func95) (Jx _ _ _ _ p0.Records v0_2 r3.2 hM r5 e6) ?_
 rintro v w a ⟨rfl,hM⟩ hE
 refine Zc hE rfl fun a hE=>Ze (Zb (Zf hE rfl (VM) fun a hE=>Zw (v:=v0_3) hE rfl QM rfl (At.cat (pre:=[[v0_1],[vI p0.Next],[v0_2]]) hM.rawAt2 ck) fun a hE=>Zd hE rfl ?_)); intro a hE
 have hM:=hM.pull3
 obtain ⟨r7,e8,hF⟩:=bind_some hF
 refine Zx hE rfl (cbm Tryz.func96) (Ha _ _ _ _ p0.Events v0_3 r5.2 hM r7 e8) ?_
 rintro v w a ⟨rfl,hM⟩ hE
 refine Zc hE rfl fun a hE=>Ze (Zb (Zd hE rfl fun a hE=>Zc hE rfl fun a hE=>Ze ?_))
 obtain rfl:=Option.some.inj hF
 have hM:=(hM.pull1.pull2.pull3).drop
 exact wp_ret (ZL hE (by rfl) (ZT hE rfl) ⟨_,rfl,rfl,hM⟩)
def V7 (p0 : (List (Vector UInt8 16))) (s5 : Int × Int) (s14 : Int × Int) : Option (Fl (Int × Int) (Fl Int Int)) :=
 if (decide (s14.2 < 16)) = true then ((idx p0 s5.2).bind fun x19=>(ZH x19 s14.2).bind fun x23=>if (x23 != (Zy s14.1)) = true then (some (Fl.ex (Fl.ex (-1)))) else (some (Fl.nx (wr (s14.1 + 1),wr (s14.2 + 1))))) else (some (Fl.ex (Fl.nx s14.1)))
def WP (p0 : (List (Vector UInt8 16))) (s5 : Int × Int) : Option (Fl (Int × Int) (Fl Int Int)) :=
 if (decide (s5.2 < (p0.length : Int))) = true then ((ZB (V7 p0 s5) (s5.1,0)).bind fun j10=>j10.el (fun s13=>some (Fl.nx (s13,wr (s5.2 + 1)))) (fun r=>some (Fl.ex (Fl.ex r)))) else (some (Fl.ex (Fl.nx s5.1)))
def Vq (p0 : (List (Vector UInt8 16))) (p1 : Int) : Option (Int) :=
 (ZB (WP p0) (p1,0)).bind fun j1=>j1.el (fun s4=>some s4) (fun r=>some r)
theorem J3 (w0 : World) (p0 : (List (Vector UInt8 16))) (v0_1 : Value) (hv0_1 : Ro w0 p0 [v0_1]) (p1 : Int) (r : Int) (hF : Vq p0 p1 = some r) :
  Calls Tryz.prog 97 [v0_1,vI p1].toArray w0 (Rt w0 (vI r)):=by
 refine ce Tryz.func97 ?_
 intro a hE
 have hM:=M.start w0
 unfold Vq at hF
 refine Zb (Zc hE rfl fun a hE=>Ze (wp_seq (Zb (Zc hE rfl fun a hE=>Ze ?_))))
 obtain ⟨j1,hl2,hF3⟩:=bind_some hF
 refine ZI (fun a w=>∃ s4 : Int,j1 = Fl.nx s4 ∧ Env 29 a [(1,vI s4)] ∧ M (Old w0) w0 w []) ?_ ?_
 ·skip
  refine wp_block ?_
  refine ZD (fun (s5 : Int × Int) a w=>Env 29 a [(0,v0_1),(1,vI s5.1),(5,vI s5.2)] ∧ M (Old w0) w0 w []) hl2 ⟨hE.sub ⟨rfl,rfl,rfl,trivial⟩,hM⟩ ?_
  rintro s5 a w ⟨hE,hM⟩ o8 hs6 hx7
  unfold WP at hs6
  refine wp_seq (Zb (Zd hE rfl fun a hE=>Zd hE rfl fun a hE=>Yb hE rfl Tryz.underlying54 (hM.rd hv0_1) fun a hE=>Zg hE rfl rfl rfl fun a hE=>Ze ?_))
  refine Zm hE rfl ?_ ?_
  ·intro hb9
   have hs6:=Zt hs6 hb9
   refine wp_skip (Zq (wp_seq (wp_block (Zb (Zc hE rfl fun a hE=>Ze ?_)))))
   obtain ⟨j10,hl11,hF12⟩:=bind_some hs6
   refine ZI (fun a w=>∃ s13 : Int,j10 = Fl.nx s13 ∧ Env 29 a [(0,v0_1),(1,vI s13),(5,vI s5.2)] ∧ M (Old w0) w0 w []) ?_ ?_
   ·skip
    refine wp_block ?_
    refine ZD (fun (s14 : Int × Int) a w=>Env 29 a [(0,v0_1),(1,vI s14.1),(5,vI s5.2),(6,vI s14.2)] ∧ M (Old w0) w0 w []) hl11 ⟨hE.sub ⟨rfl,rfl,rfl,rfl,trivial⟩,hM⟩ ?_
    rintro s14 a w ⟨hE,hM⟩ o17 hs15 hx16
    unfold V7 at hs15
    refine wp_seq (Zb (Zd hE rfl fun a hE=>Zg hE rfl rfl rfl fun a hE=>Ze ?_))
    refine Zm hE rfl ?_ ?_
    ·intro hb18
     have hs15:=Zt hs15 hb18
     refine wp_skip (Zq (wp_seq (wp_block (wp_seq (Zb (Zd hE rfl fun a hE=>Zd hE rfl fun a hE=>Zd hE rfl ?_)))))); intro a hE
     obtain ⟨x19,hi21,hs15⟩:=bix hs15
     refine ZN hE rfl rfl Tryz.underlying54 ZG (hM.rd hv0_1) hi21.1 ?_; intro a hE
     obtain ⟨x23,hi22,hs15⟩:=bvx hs15
     refine ZC hE rfl rfl Tryz.underlying68 ty5 hi22.1 fun a hE=>Zw (v:=(vB x23)) hE rfl ty5 rfl (At.vec (X0 (hM.rd hv0_1) hi21.2) hi22.2) fun a hE=>Zd hE rfl fun a hE=>Yj hE Za ld rfl Tryz.underlying3 Tryz.underlying5 fun a hE=>Zg hE rfl rfl (Q7 x23 (Zy s14.1)) fun a hE=>Ze ?_
     refine Zm hE rfl ?_ ?_
     ·intro hb25
      have hs15:=Zt hs15 hb25
      refine Zb (Zc hE rfl fun a hE=>Ze ?_)
      obtain rfl:=hx16 _ (ois hs15)
      obtain rfl:=hx7 _ (ois hF12)
      obtain rfl:=Option.some.inj hF3
      exact wp_ret (Zo (Yf (Zo (Zo (Yf (Zo (Yf (Zo (Zo (Yf (Zo (Zo (kr1 hE rfl rfl hM.kept)))))))))))))
     ·intro hb25
      have hs15:=Zu hs15 hb25
      refine wp_skip (Zq (wp_region_lit (Zd hE rfl fun a hE=>Zg hE rfl rfl rfl fun a hE=>Zc hE rfl fun a hE=>Zh (Z2 (Zq (wp_region_lit (Zd hE rfl fun a hE=>Zg hE rfl rfl rfl fun a hE=>Zc hE rfl fun a hE=>Zh (Zj ?_))))))))
      exact ⟨_,(ois hs15),hE.sub ⟨rfl,rfl,rfl,rfl,trivial⟩,hM⟩
    ·intro hb18
     have hs15:=Zu hs15 hb18
     refine wp_exit (Zl (Zl (Z3 ?_)))
     obtain rfl:=hx16 _ (ois hs15)
     refine Zj ?_
     exact ⟨s14.1,rfl,hE.sub ⟨rfl,rfl,rfl,trivial⟩,hM⟩
   ·skip
    rintro a w ⟨s13,ht,hE,hM⟩
    subst ht
    have hF12:=Tg hF12
    refine Z2 (Zq (wp_region_lit (Zd hE rfl fun a hE=>Zg hE rfl rfl rfl fun a hE=>Zc hE rfl fun a hE=>Zh (Zj ?_))))
    exact ⟨_,(ois hF12),hE.sub ⟨rfl,rfl,rfl,trivial⟩,hM⟩
  ·intro hb9
   have hs6:=Zu hs6 hb9
   refine wp_exit (Zl (Zl (Z3 ?_)))
   obtain rfl:=hx7 _ (ois hs6)
   refine Zj ?_
   exact ⟨s5.1,rfl,hE.sub ⟨rfl,trivial⟩,hM⟩
 ·skip
  rintro a w ⟨s4,ht,hE,hM⟩
  subst ht
  have hF3:=Tg hF3
  refine Zq (Zb (Zd hE rfl fun a hE=>Zc hE rfl fun a hE=>Ze ?_))
  obtain rfl:=Option.some.inj hF3
  exact wp_ret (kr1 hE rfl rfl hM.kept)
def Vr (p0 : (List UInt8)) (s5 : Int × Int) : Option (Fl (Int × Int) (Fl Int Int)) :=
 if (decide (s5.2 < (p0.length : Int))) = true then ((idx p0 s5.2).bind fun x10=>if (x10 != (Zy s5.1)) = true then (some (Fl.ex (Fl.ex (-1)))) else (some (Fl.nx (wr (s5.1 + 1),wr (s5.2 + 1))))) else (some (Fl.ex (Fl.nx s5.1)))
def WK (p0 : (List UInt8)) (p1 : Int) : Option (Int) :=
 (ZB (Vr p0) (p1,0)).bind fun j1=>j1.el (fun s4=>some s4) (fun r=>some r)
theorem QP (w0 : World) (p0 : (List UInt8)) (v0_1 : Value) (hv0_1 : Ro w0 p0 [v0_1]) (p1 : Int) (r : Int) (hF : WK p0 p1 = some r) :
  Calls Tryz.prog 123 [v0_1,vI p1].toArray w0 (Rt w0 (vI r)):=by
 refine ce Tryz.func123 ?_
 intro a hE
 have hM:=M.start w0
 unfold WK at hF
 refine Zb (Zc hE rfl fun a hE=>Ze (wp_seq (Zb (Zc hE rfl fun a hE=>Ze ?_))))
 obtain ⟨j1,hl2,hF3⟩:=bind_some hF
 refine ZI (fun a w=>∃ s4 : Int,j1 = Fl.nx s4 ∧ Env 22 a [(1,vI s4)] ∧ M (Old w0) w0 w []) ?_ ?_
 ·skip
  refine wp_block ?_
  refine ZD (fun (s5 : Int × Int) a w=>Env 22 a [(0,v0_1),(1,vI s5.1),(5,vI s5.2)] ∧ M (Old w0) w0 w []) hl2 ⟨hE.sub ⟨rfl,rfl,rfl,trivial⟩,hM⟩ ?_
  rintro s5 a w ⟨hE,hM⟩ o8 hs6 hx7
  unfold Vr at hs6
  refine wp_seq (Zb (Zd hE rfl fun a hE=>Zd hE rfl fun a hE=>Yb hE rfl Tryz.underlying40 (hM.rd hv0_1) fun a hE=>Zg hE rfl rfl rfl fun a hE=>Ze ?_))
  refine Zm hE rfl ?_ ?_
  ·intro hb9
   have hs6:=Zt hs6 hb9
   refine wp_skip (Zq (wp_seq (wp_block (wp_seq (Zb (Zd hE rfl fun a hE=>Zd hE rfl ?_)))))); intro a hE
   obtain ⟨x10,hi12,hs6⟩:=bix hs6
   refine ZN hE rfl rfl Tryz.underlying40 ty5 (hM.rd hv0_1) hi12.1 fun a hE=>Zw (v:=(vB x10)) hE rfl ty5 rfl (X0 (hM.rd hv0_1) hi12.2) fun a hE=>Zd hE rfl fun a hE=>Yj hE Za ld rfl Tryz.underlying3 Tryz.underlying5 fun a hE=>Zg hE rfl rfl (Q7 x10 (Zy s5.1)) fun a hE=>Ze ?_
   refine Zm hE rfl ?_ ?_
   ·intro hb13
    have hs6:=Zt hs6 hb13
    refine Zb (Zc hE rfl fun a hE=>Ze ?_)
    obtain rfl:=hx7 _ (ois hs6)
    obtain rfl:=Option.some.inj hF3
    exact wp_ret (Zo (Yf (Zo (Zo (Yf (Zo (Zo (kr1 hE rfl rfl hM.kept))))))))
   ·intro hb13
    have hs6:=Zu hs6 hb13
    refine wp_skip (Zq (wp_region_lit (Zd hE rfl fun a hE=>Zg hE rfl rfl rfl fun a hE=>Zc hE rfl fun a hE=>Zh (Z2 (Zq (wp_region_lit (Zd hE rfl fun a hE=>Zg hE rfl rfl rfl fun a hE=>Zc hE rfl fun a hE=>Zh (Zj ?_))))))))
    exact ⟨_,(ois hs6),hE.sub ⟨rfl,rfl,rfl,trivial⟩,hM⟩
  ·intro hb9
   have hs6:=Zu hs6 hb9
   refine wp_exit (Zl (Zl (Z3 ?_)))
   obtain rfl:=hx7 _ (ois hs6)
   refine Zj ?_
   exact ⟨s5.1,rfl,hE.sub ⟨rfl,trivial⟩,hM⟩
 ·skip
  rintro a w ⟨s4,ht,hE,hM⟩
  subst ht
  have hF3:=Tg hF3
  refine Zq (Zb (Zd hE rfl fun a hE=>Zc hE rfl fun a hE=>Ze ?_))
  obtain rfl:=Option.some.inj hF3
  exact wp_ret (kr1 hE rfl rfl hM.kept)
def VC (p0 : (List GRecord)) (s5 : Int × Int) (s38 : Int × Int) : Option (Fl (Int × Int) (Fl Int Int)) :=
 if (decide (s38.2 < 16)) = true then ((idx p0 s5.2).bind fun x43=>(ZH x43.Nonce s38.2).bind fun x54=>if (x54 != (Zy s38.1)) = true then (some (Fl.ex (Fl.ex (-1)))) else (some (Fl.nx (wr (s38.1 + 1),wr (s38.2 + 1))))) else (some (Fl.ex (Fl.nx s38.1)))
def Vz (p0 : (List GRecord)) (s5 : Int × Int) (s92 : Int × Int) : Option (Fl (Int × Int) (Fl Int Int)) :=
 if (decide (s92.2 < 32)) = true then ((idx p0 s5.2).bind fun x97=>(ZH x97.Tag s92.2).bind fun x108=>if (x108 != (Zy s92.1)) = true then (some (Fl.ex (Fl.ex (-1)))) else (some (Fl.nx (wr (s92.1 + 1),wr (s92.2 + 1))))) else (some (Fl.ex (Fl.nx s92.1)))
def Wo (p0 : (List GRecord)) (s5 : Int × Int) : Option (Fl (Int × Int) (Fl Int Int)) :=
 if (decide (s5.2 < (p0.length : Int))) = true then ((idx p0 s5.2).bind fun x10=>if (x10.Number != s5.1) = true then (some (Fl.ex (Fl.ex (-1)))) else ((idx p0 s5.2).bind fun x22=>if (x22.Version != (wr (s5.1 + 1))) = true then (some (Fl.ex (Fl.ex (-1)))) else ((ZB (VC p0 s5) (wr ((wr (s5.1 + 1)) + 1),0)).bind fun j34=>j34.el (fun s37=>(idx p0 s5.2).bind fun x60=>(WK x60.Label s37).bind fun r70=>if (decide (r70 < 0)) = true then (some (Fl.ex (Fl.ex (-1)))) else ((idx p0 s5.2).bind fun x74=>(WK x74.Body r70).bind fun r84=>if (decide (r84 < 0)) = true then (some (Fl.ex (Fl.ex (-1)))) else ((ZB (Vz p0 s5) (r84,0)).bind fun j88=>j88.el (fun s91=>some (Fl.nx (s91,wr (s5.2 + 1)))) (fun r=>some (Fl.ex (Fl.ex r)))))) (fun r=>some (Fl.ex (Fl.ex r)))))) else (some (Fl.ex (Fl.nx s5.1)))
def W2 (p0 : (List GRecord)) (p1 : Int) : Option (Int) :=
 (ZB (Wo p0) (p1,0)).bind fun j1=>j1.el (fun s4=>some s4) (fun r=>some r)
theorem K9 (w0 : World) (p0 : (List GRecord)) (v0_1 : Value) (hv0_1 : Ro w0 p0 [v0_1]) (p1 : Int) (r : Int) (hF : W2 p0 p1 = some r) :
  Calls Tryz.prog 98 [v0_1,vI p1].toArray w0 (Rt w0 (vI r)):=by
 refine ce Tryz.func98 ?_
 intro a hE
 have hM:=M.start w0
 unfold W2 at hF
 refine Zb (Zc hE rfl fun a hE=>Ze (wp_seq (Zb (Zc hE rfl fun a hE=>Ze ?_))))
 obtain ⟨j1,hl2,hF3⟩:=bind_some hF
 refine ZI (fun a w=>∃ s4 : Int,j1 = Fl.nx s4 ∧ Env 83 a [(1,vI s4)] ∧ M (Old w0) w0 w []) ?_ ?_
 ·skip
  refine wp_block ?_
  refine ZD (fun (s5 : Int × Int) a w=>Env 83 a [(0,v0_1),(1,vI s5.1),(5,vI s5.2)] ∧ M (Old w0) w0 w []) hl2 ⟨hE.sub ⟨rfl,rfl,rfl,trivial⟩,hM⟩ ?_
  rintro s5 a w ⟨hE,hM⟩ o8 hs6 hx7
  unfold Wo at hs6
  refine wp_seq (Zb (Zd hE rfl fun a hE=>Zd hE rfl fun a hE=>Yb hE rfl Tryz.underlying55 (hM.rd hv0_1) fun a hE=>Zg hE rfl rfl rfl fun a hE=>Ze ?_))
  refine Zm hE rfl ?_ ?_
  ·intro hb9
   have hs6:=Zt hs6 hb9
   refine wp_skip (Zq (wp_seq (wp_block (wp_seq (Zb (Zd hE rfl fun a hE=>Zd hE rfl ?_)))))); intro a hE
   obtain ⟨x10,hi12,hs6⟩:=bix hs6
   refine ZN hE rfl rfl Tryz.underlying55 Z4 (hM.rd hv0_1) hi12.1 fun a hE=>Zf hE rfl (Ua) ?_; intro a hE
   obtain ⟨cs13,hs14,hA15⟩:=Ww hv0_1 hi12.2 -- ^
   obtain ⟨u16,u18,rfl,h17,h19⟩:=YM hs14 -- ^
   refine Zw (v:=(vI x10.Number)) hE rfl ty2 rfl (At.cat (pre:=[]) (hM.atk hA15 (V9 hv0_1 hi12.2)) cl0) fun a hE=>Zd hE rfl fun a hE=>Zg hE rfl rfl rfl fun a hE=>Ze ?_
   refine Zm hE rfl ?_ ?_
   ·intro hb20
    have hs6:=Zt hs6 hb20
    refine Zb (Zc hE rfl fun a hE=>Ze ?_)
    obtain rfl:=hx7 _ (ois hs6)
    obtain rfl:=Option.some.inj hF3
    exact wp_ret (Zo (Yf (Zo (Zo (Yf (Zo (Zo (kr1 hE rfl rfl hM.kept))))))))
   ·intro hb20
    have hs6:=Zu hs6 hb20
    refine wp_skip (Zq (Zb (Zd hE rfl fun a hE=>Zg hE rfl rfl rfl fun a hE=>Zc hE rfl fun a hE=>Ze (wp_seq (Zb (Zd hE rfl fun a hE=>Zd hE rfl ?_)))))); intro a hE
    obtain ⟨x22,hi24,hs6⟩:=bix hs6
    refine ZN hE rfl rfl Tryz.underlying55 Z4 (hM.rd hv0_1) hi24.1 fun a hE=>Zf hE rfl (Qi) ?_; intro a hE
    obtain ⟨cs25,hs26,hA27⟩:=Ww hv0_1 hi24.2 -- ^
    obtain ⟨u28,u30,rfl,h29,h31⟩:=YM hs26 -- ^
    refine Zw (v:=(vI x22.Version)) hE rfl ty2 rfl (At.cat (pre:=[[vI x22.Number]]) (hM.atk hA27 (V9 hv0_1 hi24.2)) ck) fun a hE=>Zd hE rfl fun a hE=>Zg hE rfl rfl rfl fun a hE=>Ze ?_
    refine Zm hE rfl ?_ ?_
    ·intro hb32
     have hs6:=Zt hs6 hb32
     refine Zb (Zc hE rfl fun a hE=>Ze ?_)
     obtain rfl:=hx7 _ (ois hs6)
     obtain rfl:=Option.some.inj hF3
     exact wp_ret (Zo (Yf (Zo (Zo (Yf (Zo (Zo (kr1 hE rfl rfl hM.kept))))))))
    ·intro hb32
     have hs6:=Zu hs6 hb32
     refine wp_skip (Zq (Zb (Zd hE rfl fun a hE=>Zg hE rfl rfl rfl fun a hE=>Zc hE rfl fun a hE=>Ze (wp_seq (Zb (Zc hE rfl fun a hE=>Ze ?_))))))
     obtain ⟨j34,hl35,hF36⟩:=bind_some hs6
     refine ZI (fun a w=>∃ s37 : Int,j34 = Fl.nx s37 ∧ Env 83 a [(0,v0_1),(1,vI s37),(5,vI s5.2)] ∧ M (Old w0) w0 w []) ?_ ?_
     ·skip
      refine wp_block ?_
      refine ZD (fun (s38 : Int × Int) a w=>Env 83 a [(0,v0_1),(1,vI s38.1),(5,vI s5.2),(6,vI s38.2)] ∧ M (Old w0) w0 w []) hl35 ⟨hE.sub ⟨rfl,rfl,rfl,rfl,trivial⟩,hM⟩ ?_
      rintro s38 a w ⟨hE,hM⟩ o41 hs39 hx40
      unfold VC at hs39
      refine wp_seq (Zb (Zd hE rfl fun a hE=>Zg hE rfl rfl rfl fun a hE=>Ze ?_))
      refine Zm hE rfl ?_ ?_
      ·intro hb42
       have hs39:=Zt hs39 hb42
       refine wp_skip (Zq (wp_seq (wp_block (wp_seq (Zb (Zd hE rfl fun a hE=>Zd hE rfl fun a hE=>Zd hE rfl ?_)))))); intro a hE
       obtain ⟨x43,hi45,hs39⟩:=bix hs39
       refine ZN hE rfl rfl Tryz.underlying55 Z4 (hM.rd hv0_1) hi45.1 fun a hE=>Zf hE rfl (JQ) ?_; intro a hE
       obtain ⟨cs46,hs47,hA48⟩:=Ww hv0_1 hi45.2 -- ^
       obtain ⟨u49,u51,rfl,h50,h52⟩:=YM hs47 -- ^
       obtain ⟨x54,hi53,hs39⟩:=bvx hs39
       refine ZC hE rfl rfl Tryz.underlying68 ty5 hi53.1 fun a hE=>Zw (v:=(vB x54)) hE rfl ty5 rfl (At.vec (At.cat (pre:=[[vI x43.Number],[vI x43.Version]]) (hM.atk hA48 (V9 hv0_1 hi45.2)) ck) hi53.2) fun a hE=>Zd hE rfl fun a hE=>Yj hE Za ld rfl Tryz.underlying3 Tryz.underlying5 fun a hE=>Zg hE rfl rfl (Q7 x54 (Zy s38.1)) fun a hE=>Ze ?_
       refine Zm hE rfl ?_ ?_
       ·intro hb56
        have hs39:=Zt hs39 hb56
        refine Zb (Zc hE rfl fun a hE=>Ze ?_)
        obtain rfl:=hx40 _ (ois hs39)
        obtain rfl:=hx7 _ (ois hF36)
        obtain rfl:=Option.some.inj hF3
        exact wp_ret (Zo (Yf (Zo (Zo (Yf (Zo (Zo (Yf (Zo (Zo (Yf (Zo (Zo (kr1 hE rfl rfl hM.kept))))))))))))))
       ·intro hb56
        have hs39:=Zu hs39 hb56
        refine wp_skip (Zq (wp_region_lit (Zd hE rfl fun a hE=>Zg hE rfl rfl rfl fun a hE=>Zc hE rfl fun a hE=>Zh (Z2 (Zq (wp_region_lit (Zd hE rfl fun a hE=>Zg hE rfl rfl rfl fun a hE=>Zc hE rfl fun a hE=>Zh (Zj ?_))))))))
        exact ⟨_,(ois hs39),hE.sub ⟨rfl,rfl,rfl,rfl,trivial⟩,hM⟩
      ·intro hb42
       have hs39:=Zu hs39 hb42
       refine wp_exit (Zl (Zl (Z3 ?_)))
       obtain rfl:=hx40 _ (ois hs39)
       refine Zj ?_
       exact ⟨s38.1,rfl,hE.sub ⟨rfl,rfl,rfl,trivial⟩,hM⟩
     ·skip
      rintro a w ⟨s37,ht,hE,hM⟩
      subst ht
      have hF36:=Tg hF36
      refine Zq (Zb (Zd hE rfl fun a hE=>Zd hE rfl ?_)); intro a hE
      obtain ⟨x60,hi62,hF36⟩:=bix hF36
      refine ZN hE rfl rfl Tryz.underlying55 Z4 (hM.rd hv0_1) hi62.1 fun a hE=>Zf hE rfl (Tz) ?_; intro a hE
      obtain ⟨cs63,hs64,hA65⟩:=Ww hv0_1 hi62.2 -- ^
      obtain ⟨u66,u68,rfl,h67,h69⟩:=YM hs64 -- ^
      refine Zw (v:=u66) hE rfl Ui rfl (At.cat (pre:=[[vI x60.Number],[vI x60.Version],enc x60.Nonce]) (hM.atk hA65 (V9 hv0_1 hi62.2)) ck) fun a hE=>Zd hE rfl ?_; intro a hE
      obtain ⟨r70,e71,hF36⟩:=bind_some hF36
      refine Zx hE rfl (cbm Tryz.func123) (QP _ x60.Label u66 (hM.rdo h67) s37 r70 e71) ?_
      rintro v w a ⟨rfl,hK⟩ hE
      have hM:=hM.keep hK
      refine Zc hE rfl fun a hE=>Ze (wp_seq (Zb (Zd hE rfl fun a hE=>Zg hE rfl rfl rfl fun a hE=>Ze ?_)))
      refine Zm hE rfl ?_ ?_
      ·intro hb72
       have hF36:=Zt hF36 hb72
       refine Zb (Zc hE rfl fun a hE=>Ze ?_)
       obtain rfl:=hx7 _ (ois hF36)
       obtain rfl:=Option.some.inj hF3
       exact wp_ret (Zo (Yf (Zo (Zo (Yf (Zo (Zo (kr1 hE rfl rfl hM.kept))))))))
      ·intro hb72
       have hF36:=Zu hF36 hb72
       refine wp_skip (Zq (Zb (Zd hE rfl fun a hE=>Zd hE rfl ?_))); intro a hE
       obtain ⟨x74,hi76,hF36⟩:=bix hF36
       refine ZN hE rfl rfl Tryz.underlying55 Z4 (hM.rd hv0_1) hi76.1 fun a hE=>Zf hE rfl (TU) ?_; intro a hE
       obtain ⟨cs77,hs78,hA79⟩:=Ww hv0_1 hi76.2 -- ^
       obtain ⟨u80,u82,rfl,h81,h83⟩:=YM hs78 -- ^
       refine Zw (v:=u82) hE rfl Ui rfl (At.cat (pre:=[[vI x74.Number],[vI x74.Version],enc x74.Nonce,[u80]]) (hM.atk hA79 (V9 hv0_1 hi76.2)) ck) fun a hE=>Zd hE rfl ?_; intro a hE
       obtain ⟨r84,e85,hF36⟩:=bind_some hF36
       refine Zx hE rfl (cbm Tryz.func123) (QP _ x74.Body u82 (hM.rdo h83) r70 r84 e85) ?_
       rintro v w a ⟨rfl,hK⟩ hE
       have hM:=hM.keep hK
       refine Zc hE rfl fun a hE=>Ze (wp_seq (Zb (Zd hE rfl fun a hE=>Zg hE rfl rfl rfl fun a hE=>Ze ?_)))
       refine Zm hE rfl ?_ ?_
       ·intro hb86
        have hF36:=Zt hF36 hb86
        refine Zb (Zc hE rfl fun a hE=>Ze ?_)
        obtain rfl:=hx7 _ (ois hF36)
        obtain rfl:=Option.some.inj hF3
        exact wp_ret (Zo (Yf (Zo (Zo (Yf (Zo (Zo (kr1 hE rfl rfl hM.kept))))))))
       ·intro hb86
        have hF36:=Zu hF36 hb86
        refine wp_skip (Zq (Zb (Zc hE rfl fun a hE=>Ze ?_)))
        obtain ⟨j88,hl89,hF90⟩:=bind_some hF36
        refine ZI (fun a w=>∃ s91 : Int,j88 = Fl.nx s91 ∧ Env 83 a [(0,v0_1),(1,vI s91),(5,vI s5.2)] ∧ M (Old w0) w0 w []) ?_ ?_
        ·skip
         refine wp_block ?_
         refine ZD (fun (s92 : Int × Int) a w=>Env 83 a [(0,v0_1),(1,vI s92.1),(5,vI s5.2),(7,vI s92.2)] ∧ M (Old w0) w0 w []) hl89 ⟨hE.sub ⟨rfl,rfl,rfl,rfl,trivial⟩,hM⟩ ?_
         rintro s92 a w ⟨hE,hM⟩ o95 hs93 hx94
         unfold Vz at hs93
         refine wp_seq (Zb (Zd hE rfl fun a hE=>Zg hE rfl rfl rfl fun a hE=>Ze ?_))
         refine Zm hE rfl ?_ ?_
         ·intro hb96
          have hs93:=Zt hs93 hb96
          refine wp_skip (Zq (wp_seq (wp_block (wp_seq (Zb (Zd hE rfl fun a hE=>Zd hE rfl fun a hE=>Zd hE rfl ?_)))))); intro a hE
          obtain ⟨x97,hi99,hs93⟩:=bix hs93
          refine ZN hE rfl rfl Tryz.underlying55 Z4 (hM.rd hv0_1) hi99.1 fun a hE=>Zf hE rfl (J7) ?_; intro a hE
          obtain ⟨cs100,hs101,hA102⟩:=Ww hv0_1 hi99.2 -- ^
          obtain ⟨u103,u105,rfl,h104,h106⟩:=YM hs101 -- ^
          obtain ⟨x108,hi107,hs93⟩:=bvx hs93
          refine ZC hE rfl rfl Tryz.underlying35 ty5 hi107.1 fun a hE=>Zw (v:=(vB x108)) hE rfl ty5 rfl (At.vec (At.cat (pre:=[[vI x97.Number],[vI x97.Version],enc x97.Nonce,[u103],[u105]]) (hM.atk hA102 (V9 hv0_1 hi99.2)) ck) hi107.2) fun a hE=>Zd hE rfl fun a hE=>Yj hE Za ld rfl Tryz.underlying3 Tryz.underlying5 fun a hE=>Zg hE rfl rfl (Q7 x108 (Zy s92.1)) fun a hE=>Ze ?_
          refine Zm hE rfl ?_ ?_
          ·intro hb110
           have hs93:=Zt hs93 hb110
           refine Zb (Zc hE rfl fun a hE=>Ze ?_)
           obtain rfl:=hx94 _ (ois hs93)
           obtain rfl:=hx7 _ (ois hF90)
           obtain rfl:=Option.some.inj hF3
           exact wp_ret (Zo (Yf (Zo (Zo (Yf (Zo (Yf (Zo (Zo (Yf (Zo (Zo (kr1 hE rfl rfl hM.kept)))))))))))))
          ·intro hb110
           have hs93:=Zu hs93 hb110
           refine wp_skip (Zq (wp_region_lit (Zd hE rfl fun a hE=>Zg hE rfl rfl rfl fun a hE=>Zc hE rfl fun a hE=>Zh (Z2 (Zq (wp_region_lit (Zd hE rfl fun a hE=>Zg hE rfl rfl rfl fun a hE=>Zc hE rfl fun a hE=>Zh (Zj ?_))))))))
           exact ⟨_,(ois hs93),hE.sub ⟨rfl,rfl,rfl,rfl,trivial⟩,hM⟩
         ·intro hb96
          have hs93:=Zu hs93 hb96
          refine wp_exit (Zl (Zl (Z3 ?_)))
          obtain rfl:=hx94 _ (ois hs93)
          refine Zj ?_
          exact ⟨s92.1,rfl,hE.sub ⟨rfl,rfl,rfl,trivial⟩,hM⟩
        ·skip
         rintro a w ⟨s91,ht,hE,hM⟩
         subst ht
         have hF90:=Tg hF90
         refine Z2 (Zq (wp_region_lit (Zd hE rfl fun a hE=>Zg hE rfl rfl rfl fun a hE=>Zc hE rfl fun a hE=>Zh (Zj ?_))))
         exact ⟨_,(ois hF90),hE.sub ⟨rfl,rfl,rfl,trivial⟩,hM⟩
  ·intro hb9
   have hs6:=Zu hs6 hb9
   refine wp_exit (Zl (Zl (Z3 ?_)))
   obtain rfl:=hx7 _ (ois hs6)
   refine Zj ?_
   exact ⟨s5.1,rfl,hE.sub ⟨rfl,trivial⟩,hM⟩
 ·skip
  rintro a w ⟨s4,ht,hE,hM⟩
  subst ht
  have hF3:=Tg hF3
  refine Zq (Zb (Zd hE rfl fun a hE=>Zc hE rfl fun a hE=>Ze ?_))
  obtain rfl:=Option.some.inj hF3
  exact wp_ret (kr1 hE rfl rfl hM.kept)
def Ub (p0 : (List GEvent)) (s5 : Int × Int) (s24 : Int × Int) : Option (Fl (Int × Int) (Fl Int Int)) :=
 if (decide (s24.2 < 32)) = true then ((idx p0 s5.2).bind fun x29=>(ZH x29.Tag s24.2).bind fun x33=>if (x33 != (Zy s24.1)) = true then (some (Fl.ex (Fl.ex (-1)))) else (some (Fl.nx (wr (s24.1 + 1),wr (s24.2 + 1))))) else (some (Fl.ex (Fl.nx s24.1)))
def WQ (p0 : (List GEvent)) (s5 : Int × Int) : Option (Fl (Int × Int) (Fl Int Int)) :=
 if (decide (s5.2 < (p0.length : Int))) = true then ((idx p0 s5.2).bind fun x10=>if (x10.Kind != s5.1) = true then (some (Fl.ex (Fl.ex (-1)))) else ((idx p0 s5.2).bind fun x15=>if (x15.Number != (wr (s5.1 + 1))) = true then (some (Fl.ex (Fl.ex (-1)))) else ((ZB (Ub p0 s5) (wr ((wr (s5.1 + 1)) + 1),0)).bind fun j20=>j20.el (fun s23=>some (Fl.nx (s23,wr (s5.2 + 1)))) (fun r=>some (Fl.ex (Fl.ex r)))))) else (some (Fl.ex (Fl.nx s5.1)))
def Vk (p0 : (List GEvent)) (p1 : Int) : Option (Int) :=
 (ZB (WQ p0) (p1,0)).bind fun j1=>j1.el (fun s4=>some s4) (fun r=>some r)
theorem JV (w0 : World) (p0 : (List GEvent)) (v0_1 : Value) (hv0_1 : Ro w0 p0 [v0_1]) (p1 : Int) (r : Int) (hF : Vk p0 p1 = some r) :
  Calls Tryz.prog 99 [v0_1,vI p1].toArray w0 (Rt w0 (vI r)):=by
 refine ce Tryz.func99 ?_
 intro a hE
 have hM:=M.start w0
 unfold Vk at hF
 refine Zb (Zc hE rfl fun a hE=>Ze (wp_seq (Zb (Zc hE rfl fun a hE=>Ze ?_))))
 obtain ⟨j1,hl2,hF3⟩:=bind_some hF
 refine ZI (fun a w=>∃ s4 : Int,j1 = Fl.nx s4 ∧ Env 48 a [(1,vI s4)] ∧ M (Old w0) w0 w []) ?_ ?_
 ·skip
  refine wp_block ?_
  refine ZD (fun (s5 : Int × Int) a w=>Env 48 a [(0,v0_1),(1,vI s5.1),(5,vI s5.2)] ∧ M (Old w0) w0 w []) hl2 ⟨hE.sub ⟨rfl,rfl,rfl,trivial⟩,hM⟩ ?_
  rintro s5 a w ⟨hE,hM⟩ o8 hs6 hx7
  unfold WQ at hs6
  refine wp_seq (Zb (Zd hE rfl fun a hE=>Zd hE rfl fun a hE=>Yb hE rfl Tryz.underlying56 (hM.rd hv0_1) fun a hE=>Zg hE rfl rfl rfl fun a hE=>Ze ?_))
  refine Zm hE rfl ?_ ?_
  ·intro hb9
   have hs6:=Zt hs6 hb9
   refine wp_skip (Zq (wp_seq (wp_block (wp_seq (Zb (Zd hE rfl fun a hE=>Zd hE rfl ?_)))))); intro a hE
   obtain ⟨x10,hi12,hs6⟩:=bix hs6
   refine ZN hE rfl rfl Tryz.underlying56 Y3 (hM.rd hv0_1) hi12.1 fun a hE=>Zf hE rfl (Qh) fun a hE=>Zw (v:=(vI x10.Kind)) hE rfl ty2 rfl (At.cat (pre:=[]) (X0 (hM.rd hv0_1) hi12.2) cl0) fun a hE=>Zd hE rfl fun a hE=>Zg hE rfl rfl rfl fun a hE=>Ze ?_
   refine Zm hE rfl ?_ ?_
   ·intro hb13
    have hs6:=Zt hs6 hb13
    refine Zb (Zc hE rfl fun a hE=>Ze ?_)
    obtain rfl:=hx7 _ (ois hs6)
    obtain rfl:=Option.some.inj hF3
    exact wp_ret (Zo (Yf (Zo (Zo (Yf (Zo (Zo (kr1 hE rfl rfl hM.kept))))))))
   ·intro hb13
    have hs6:=Zu hs6 hb13
    refine wp_skip (Zq (Zb (Zd hE rfl fun a hE=>Zg hE rfl rfl rfl fun a hE=>Zc hE rfl fun a hE=>Ze (wp_seq (Zb (Zd hE rfl fun a hE=>Zd hE rfl ?_)))))); intro a hE
    obtain ⟨x15,hi17,hs6⟩:=bix hs6
    refine ZN hE rfl rfl Tryz.underlying56 Y3 (hM.rd hv0_1) hi17.1 fun a hE=>Zf hE rfl (Qm) fun a hE=>Zw (v:=(vI x15.Number)) hE rfl ty2 rfl (At.cat (pre:=[[vI x15.Kind]]) (X0 (hM.rd hv0_1) hi17.2) ck) fun a hE=>Zd hE rfl fun a hE=>Zg hE rfl rfl rfl fun a hE=>Ze ?_
    refine Zm hE rfl ?_ ?_
    ·intro hb18
     have hs6:=Zt hs6 hb18
     refine Zb (Zc hE rfl fun a hE=>Ze ?_)
     obtain rfl:=hx7 _ (ois hs6)
     obtain rfl:=Option.some.inj hF3
     exact wp_ret (Zo (Yf (Zo (Zo (Yf (Zo (Zo (kr1 hE rfl rfl hM.kept))))))))
    ·intro hb18
     have hs6:=Zu hs6 hb18
     refine wp_skip (Zq (Zb (Zd hE rfl fun a hE=>Zg hE rfl rfl rfl fun a hE=>Zc hE rfl fun a hE=>Ze (Zb (Zc hE rfl fun a hE=>Ze ?_)))))
     obtain ⟨j20,hl21,hF22⟩:=bind_some hs6
     refine ZI (fun a w=>∃ s23 : Int,j20 = Fl.nx s23 ∧ Env 48 a [(0,v0_1),(1,vI s23),(5,vI s5.2)] ∧ M (Old w0) w0 w []) ?_ ?_
     ·skip
      refine wp_block ?_
      refine ZD (fun (s24 : Int × Int) a w=>Env 48 a [(0,v0_1),(1,vI s24.1),(5,vI s5.2),(6,vI s24.2)] ∧ M (Old w0) w0 w []) hl21 ⟨hE.sub ⟨rfl,rfl,rfl,rfl,trivial⟩,hM⟩ ?_
      rintro s24 a w ⟨hE,hM⟩ o27 hs25 hx26
      unfold Ub at hs25
      refine wp_seq (Zb (Zd hE rfl fun a hE=>Zg hE rfl rfl rfl fun a hE=>Ze ?_))
      refine Zm hE rfl ?_ ?_
      ·intro hb28
       have hs25:=Zt hs25 hb28
       refine wp_skip (Zq (wp_seq (wp_block (wp_seq (Zb (Zd hE rfl fun a hE=>Zd hE rfl fun a hE=>Zd hE rfl ?_)))))); intro a hE
       obtain ⟨x29,hi31,hs25⟩:=bix hs25
       refine ZN hE rfl rfl Tryz.underlying56 Y3 (hM.rd hv0_1) hi31.1 fun a hE=>Zf hE rfl (Q5) ?_; intro a hE
       obtain ⟨x33,hi32,hs25⟩:=bvx hs25
       refine ZC hE rfl rfl Tryz.underlying35 ty5 hi32.1 fun a hE=>Zw (v:=(vB x33)) hE rfl ty5 rfl (At.vec (At.cat (pre:=[[vI x29.Kind],[vI x29.Number]]) (X0 (hM.rd hv0_1) hi31.2) ck) hi32.2) fun a hE=>Zd hE rfl fun a hE=>Yj hE Za ld rfl Tryz.underlying3 Tryz.underlying5 fun a hE=>Zg hE rfl rfl (Q7 x33 (Zy s24.1)) fun a hE=>Ze ?_
       refine Zm hE rfl ?_ ?_
       ·intro hb35
        have hs25:=Zt hs25 hb35
        refine Zb (Zc hE rfl fun a hE=>Ze ?_)
        obtain rfl:=hx26 _ (ois hs25)
        obtain rfl:=hx7 _ (ois hF22)
        obtain rfl:=Option.some.inj hF3
        exact wp_ret (Zo (Yf (Zo (Zo (Yf (Zo (Yf (Zo (Zo (Yf (Zo (Zo (kr1 hE rfl rfl hM.kept)))))))))))))
       ·intro hb35
        have hs25:=Zu hs25 hb35
        refine wp_skip (Zq (wp_region_lit (Zd hE rfl fun a hE=>Zg hE rfl rfl rfl fun a hE=>Zc hE rfl fun a hE=>Zh (Z2 (Zq (wp_region_lit (Zd hE rfl fun a hE=>Zg hE rfl rfl rfl fun a hE=>Zc hE rfl fun a hE=>Zh (Zj ?_))))))))
        exact ⟨_,(ois hs25),hE.sub ⟨rfl,rfl,rfl,rfl,trivial⟩,hM⟩
      ·intro hb28
       have hs25:=Zu hs25 hb28
       refine wp_exit (Zl (Zl (Z3 ?_)))
       obtain rfl:=hx26 _ (ois hs25)
       refine Zj ?_
       exact ⟨s24.1,rfl,hE.sub ⟨rfl,rfl,rfl,trivial⟩,hM⟩
     ·skip
      rintro a w ⟨s23,ht,hE,hM⟩
      subst ht
      have hF22:=Tg hF22
      refine Z2 (Zq (wp_region_lit (Zd hE rfl fun a hE=>Zg hE rfl rfl rfl fun a hE=>Zc hE rfl fun a hE=>Zh (Zj ?_))))
      exact ⟨_,(ois hF22),hE.sub ⟨rfl,rfl,rfl,trivial⟩,hM⟩
  ·intro hb9
   have hs6:=Zu hs6 hb9
   refine wp_exit (Zl (Zl (Z3 ?_)))
   obtain rfl:=hx7 _ (ois hs6)
   refine Zj ?_
   exact ⟨s5.1,rfl,hE.sub ⟨rfl,trivial⟩,hM⟩
 ·skip
  rintro a w ⟨s4,ht,hE,hM⟩
  subst ht
  have hF3:=Tg hF3
  refine Zq (Zb (Zd hE rfl fun a hE=>Zc hE rfl fun a hE=>Ze ?_))
  obtain rfl:=Option.some.inj hF3
  exact wp_ret (kr1 hE rfl rfl hM.kept)
def WE (p0 : GVault) (p1 : Int) : Option (Int) :=
 (Vq p0.Keys p1).bind fun r3=>if (decide (r3 < 0)) = true then (some (-1)) else ((W2 p0.Records r3).bind fun r6=>if (decide (r6 < 0)) = true then (some (-1)) else ((Vk p0.Events r6).bind fun r9=>if (decide (r9 < 0)) = true then (some (-1)) else (some r9)))
theorem QR (w0 : World) (p0 : GVault) (v0_1 : Value) (hv0_1 : Ro w0 p0.Keys [v0_1]) (v0_2 : Value) (hv0_2 : Ro w0 p0.Records [v0_2]) (v0_3 : Value) (hv0_3 : Ro w0 p0.Events [v0_3]) (p1 : Int) (r : Int) (hF : WE p0 p1 = some r) :
  Calls Tryz.prog 29 [(Value.agg (cat [[v0_1],[vI p0.Next],[v0_2],[v0_3],enc p0.Head]).toArray),vI p1].toArray w0 (Rt w0 (vI r)):=by
 refine ce Tryz.func29 ?_
 intro a hE
 have hM:=M.start w0
 unfold WE at hF
 refine Zb (ZV (cs:=cat [[v0_1],[vI p0.Next],[v0_2],[v0_3],enc p0.Head]) hE hM Za ld rfl rfl fun b1 w a hM hE=>Zc hE rfl fun a hE=>Ze (Zb (Zf hE rfl (TL) fun a hE=>Zw (v:=v0_1) hE rfl Jw rfl (At.cat (pre:=[]) hM.rawAt0 cl0) fun a hE=>Zd hE rfl ?_))); intro a hE
 obtain ⟨r3,e4,hF⟩:=bind_some hF
 refine Zx hE rfl (cbm Tryz.func97) (J3 _ p0.Keys v0_1 (hM.rdo hv0_1) p1 r3 e4) ?_
 rintro v w a ⟨rfl,hK⟩ hE
 have hM:=hM.keep hK
 refine Zc hE rfl fun a hE=>Ze (wp_seq (Zb (Zd hE rfl fun a hE=>Zg hE rfl rfl rfl fun a hE=>Ze ?_)))
 refine Zm hE rfl ?_ ?_
 ·intro hb5
  have hF:=Zt hF hb5
  refine Zb (Zc hE rfl fun a hE=>Ze ?_)
  obtain rfl:=Option.some.inj hF
  exact wp_ret (Zo (kr1 hE rfl rfl hM.kept))
 ·intro hb5
  have hF:=Zu hF hb5
  refine wp_skip (Zq (Zb (Zf hE rfl (X1) fun a hE=>Zw (v:=v0_2) hE rfl TZ rfl (At.cat (pre:=[[v0_1],[vI p0.Next]]) hM.rawAt0 ck) fun a hE=>Zd hE rfl ?_))); intro a hE
  obtain ⟨r6,e7,hF⟩:=bind_some hF
  refine Zx hE rfl (cbm Tryz.func98) (K9 _ p0.Records v0_2 (hM.rdo hv0_2) r3 r6 e7) ?_
  rintro v w a ⟨rfl,hK⟩ hE
  have hM:=hM.keep hK
  refine Zc hE rfl fun a hE=>Ze (wp_seq (Zb (Zd hE rfl fun a hE=>Zg hE rfl rfl rfl fun a hE=>Ze ?_)))
  refine Zm hE rfl ?_ ?_
  ·intro hb8
   have hF:=Zt hF hb8
   refine Zb (Zc hE rfl fun a hE=>Ze ?_)
   obtain rfl:=Option.some.inj hF
   exact wp_ret (Zo (kr1 hE rfl rfl hM.kept))
  ·intro hb8
   have hF:=Zu hF hb8
   refine wp_skip (Zq (Zb (Zf hE rfl (VM) fun a hE=>Zw (v:=v0_3) hE rfl QM rfl (At.cat (pre:=[[v0_1],[vI p0.Next],[v0_2]]) hM.rawAt0 ck) fun a hE=>Zd hE rfl ?_))); intro a hE
   obtain ⟨r9,e10,hF⟩:=bind_some hF
   refine Zx hE rfl (cbm Tryz.func99) (JV _ p0.Events v0_3 (hM.rdo hv0_3) r6 r9 e10) ?_
   rintro v w a ⟨rfl,hK⟩ hE
   have hM:=hM.keep hK
   refine Zc hE rfl fun a hE=>Ze (wp_seq (Zb (Zd hE rfl fun a hE=>Zg hE rfl rfl rfl fun a hE=>Ze ?_)))
   refine Zm hE rfl ?_ ?_
   ·intro hb11
    have hF:=Zt hF hb11
    refine Zb (Zc hE rfl fun a hE=>Ze ?_)
    obtain rfl:=Option.some.inj hF
    exact wp_ret (Zo (kr1 hE rfl rfl hM.kept))
   ·intro hb11
    have hF:=Zu hF hb11
    refine wp_skip (Zq (Zb (Zd hE rfl fun a hE=>Zc hE rfl fun a hE=>Ze ?_)))
    obtain rfl:=Option.some.inj hF
    exact wp_ret (kr1 hE rfl rfl hM.kept)
def XR (p0 : GVault) (p1 : Int) : Option (Bool) :=
 (TN p0 1048576).bind fun r3=>if (decide (r3 < 0)) = true then (some true) else ((XU p0).bind fun r6=>(Vi r6 p1).bind fun r11=>(XU p0).bind fun r18=>(Wa r18 p1).bind fun r25=>((XS r25.1 r11.1).bind fun r35=>if (!r35) = true then (some true) else (some (r25.2 != r11.2)) : Option (Bool)).bind fun j32=>if j32 = true then (some false) else (((XU p0).bind fun r45=>(XS r18 r45).bind fun r54=>some (!r54) : Option (Bool)).bind fun j41=>if j41 = true then (some false) else ((Xe r18 1).bind fun r58=>(if (decide (r58.2 < 0)) = true then (some true) else ((XS r25.1 r11.1).bind fun r65=>if (!r65) = true then (some true) else (some (r25.2 != r11.2))) : Option (Bool)).bind fun j60=>if j60 = true then (some false) else ((Xe r25.1 1).bind fun r71=>(WE (⟨r71.1.Keys,r25.1.Next,r71.1.Records,r71.1.Events,r25.1.Head⟩ : GVault) 1).bind fun r73=>if (decide (r73 < 0)) = true then (some false) else (if (r73 != r71.2) = true then (some false) else ((XU p0).bind fun r77=>(Wa r77 p1).bind fun r82=>((XS r82.1 r11.1).bind fun r92=>if (!r92) = true then (some true) else (some (r82.2 != r11.2)) : Option (Bool)).bind fun j89=>if j89 = true then (some false) else ((WE (⟨r71.1.Keys,r25.1.Next,r71.1.Records,r71.1.Events,r25.1.Head⟩ : GVault) 1).bind fun r98=>if (decide (r98 < 0)) = true then (some false) else (if (r98 != r71.2) = true then (some false) else (some true)))))))))
theorem QL (w0 : World) (p0 : GVault) (v0_1 : Value) (hv0_1 : Ro w0 p0.Keys [v0_1]) (v0_2 : Value) (hv0_2 : Ro w0 p0.Records [v0_2]) (v0_3 : Value) (hv0_3 : Ro w0 p0.Events [v0_3]) (p1 : Int) (r : Bool) (hF : XR p0 p1 = some r) :
  Calls Tryz.prog 5 [(Value.agg (cat [[v0_1],[vI p0.Next],[v0_2],[v0_3],enc p0.Head]).toArray),vI p1].toArray w0 (Rt w0 (vT r)):=by
 refine ce Tryz.func5 ?_
 intro a hE
 have hM:=M.start w0
 unfold XR at hF
 refine Zb (ZV (cs:=cat [[v0_1],[vI p0.Next],[v0_2],[v0_3],enc p0.Head]) hE hM Za ld rfl rfl fun b1 w a hM hE=>Zc hE rfl fun a hE=>Ze (Zb (Zc hE rfl fun a hE=>Ze (Zb (Zn hE rfl AJ rfl hM.rawAt0 cq fun a hE=>Zd hE rfl ?_))))); intro a hE
 obtain ⟨r3,e4,hF⟩:=bind_some hF
 refine Zx hE rfl (cbm Tryz.func23) (BW _ p0 v0_1 (hM.rdo hv0_1) v0_2 (hM.rdo hv0_2) v0_3 (hM.rdo hv0_3) 1048576 r3 e4) ?_
 rintro v w a ⟨rfl,hK⟩ hE
 have hM:=hM.keep hK
 refine Zc hE rfl fun a hE=>Ze (wp_seq (Zb (Zd hE rfl fun a hE=>Zg hE rfl rfl rfl fun a hE=>Ze ?_)))
 refine Zm hE rfl ?_ ?_
 ·intro hb5
  have hF:=Zt hF hb5
  refine Zb (Zc hE rfl fun a hE=>Ze ?_)
  obtain rfl:=Option.some.inj hF
  exact wp_ret (Zo (kr1 hE rfl rfl hM.kept))
 ·intro hb5
  have hF:=Zu hF hb5
  refine wp_skip (Zq (Zb (Zn hE rfl AJ rfl hM.rawAt0 cq ?_))); intro a hE
  obtain ⟨r6,e7,hF⟩:=bind_some hF
  refine Zx hE rfl cb25 (TM _ p0 v0_1 (hM.rdo hv0_1) v0_2 (hM.rdo hv0_2) v0_3 (hM.rdo hv0_3) r6 e7) ?_
  rintro v w a ⟨u8,u9,u10,rfl,hFr,hK⟩ hE
  have hM:=hM.add hK hFr
  refine Zd hE rfl ?_; intro a hE
  obtain ⟨r11,e12,hF⟩:=bind_some hF
  refine Zx hE rfl (cbm Tryz.func24) (He _ r6 u8 (hM.sl (pre:=[]) noB) u9 (hM.sl (pre:=[_]) noB) u10 (hM.sl (pre:=[_,_]) noB) p1 r11 e12) ?_
  rintro v w a ⟨u13,u14,u15,rfl,hFr,hK⟩ hE
  have hM:=hM.add hK hFr
  refine Zd hE rfl fun a hE=>W7 hE Za ld rfl rfl fun a hE=>W7 hE Za ld rfl rfl fun a hE=>ZA hE hM Ys fun b16 w a hM hE=>Zk (seg:=cat [[u13],[vI r11.1.Next],[u14],[u15],enc r11.1.Head]) (cs':=cat [[u13],[vI r11.1.Next],[u14],[u15],enc r11.1.Head]) hE hM Za rfl rfl rfl Ys cq (Nat.le_of_eq ((Nat.zero_add _).trans (Eq.trans cq (Eq.symm cq)))) (ZX (cc1 (Rep.cell (hM.sl (pre:=[_]) noB)) (cc1 (Flat.cell (r11.1.Next : Int)) (cc1 (Rep.cell (hM.sl (pre:=[_,_]) noB)) (cc1 (Rep.cell (hM.sl (pre:=[_,_,_]) noB)) (cc1 (Flat.cell _) cc0)))))) (Zi (Eq.trans cq (Eq.symm cq))) fun w a hM hE=>Zc hE rfl fun a hE=>Ze (Zb (Zn hE rfl AJ rfl hM.rawAt7 cq ?_)); intro a hE
  obtain ⟨r18,e19,hF⟩:=bind_some hF
  refine Zx hE rfl cb25 (TM _ p0 v0_1 (hM.rdo hv0_1) v0_2 (hM.rdo hv0_2) v0_3 (hM.rdo hv0_3) r18 e19) ?_
  rintro v w a ⟨u20,u21,u22,rfl,hFr,hK⟩ hE
  have hM:=hM.add hK hFr
  refine ZA hE hM Ys fun b23 w a hM hE=>Zk (seg:=cat [[u20],[vI r18.Next],[u21],[u22],enc r18.Head]) (cs':=cat [[u20],[vI r18.Next],[u21],[u22],enc r18.Head]) hE hM Za rfl rfl rfl Ys cq (Nat.le_of_eq ((Nat.zero_add _).trans (Eq.trans cq (Eq.symm cq)))) (ZX (cc1 (Rep.cell (hM.sl (pre:=[_]) noB)) (cc1 (Flat.cell (r18.Next : Int)) (cc1 (Rep.cell (hM.sl (pre:=[_,_]) noB)) (cc1 (Rep.cell (hM.sl (pre:=[_,_,_]) noB)) (cc1 (Flat.cell _) cc0)))))) (Zi (Eq.trans cq (Eq.symm cq))) fun w a hM hE=>Ze (Zb (Zn hE rfl Ys rfl hM.rawAt0 cq fun a hE=>Zd hE rfl ?_)); intro a hE
  obtain ⟨r25,e26,hF⟩:=bind_some hF
  refine Zx hE rfl (cbm Tryz.func26) (QG _ r18 u20 (hM.sl (pre:=[_]) noB) u21 (hM.sl (pre:=[_,_]) noB) u22 (hM.sl (pre:=[_,_,_]) noB) p1 r25 e26) ?_
  rintro v w a ⟨u27,u28,u29,rfl,hFr,hK⟩ hE
  have hM:=hM.add hK hFr
  refine Zd hE rfl fun a hE=>W7 hE Za ld rfl rfl fun a hE=>W7 hE Za ld rfl rfl fun a hE=>ZA hE hM Ys fun b30 w a hM hE=>Zk (seg:=cat [[u27],[vI r25.1.Next],[u28],[u29],enc r25.1.Head]) (cs':=cat [[u27],[vI r25.1.Next],[u28],[u29],enc r25.1.Head]) hE hM Za rfl rfl rfl Ys cq (Nat.le_of_eq ((Nat.zero_add _).trans (Eq.trans cq (Eq.symm cq)))) (ZX (cc1 (Rep.cell (hM.sl (pre:=[_]) noB)) (cc1 (Flat.cell (r25.1.Next : Int)) (cc1 (Rep.cell (hM.sl (pre:=[_,_]) noB)) (cc1 (Rep.cell (hM.sl (pre:=[_,_,_]) noB)) (cc1 (Flat.cell _) cc0)))))) (Zi (Eq.trans cq (Eq.symm cq))) fun w a hM hE=>Zc hE rfl fun a hE=>Ze (wp_seq ?_)
  obtain ⟨j32,hl33,hF34⟩:=bind_some hF
  refine ZQ (fun a w=>Env 101 a [(1,vI p1),(2,(ptr b1 0)),(6,(ptr b16 0)),(7,vI r11.2),(8,(ptr b23 0)),(9,(ptr b30 0)),(10,vI r25.2),(44,vT j32)] ∧ M (Old w0) w0 w [raw b30 (cat [[u27],[vI r25.1.Next],[u28],[u29],enc r25.1.Head]),osl NoB (r25.1.Keys : List (Vector UInt8 16)) u27,osl NoB (r25.1.Records : List GRecord) u28,osl NoB (r25.1.Events : List GEvent) u29,raw b23 (cat [[u20],[vI r18.Next],[u21],[u22],enc r18.Head]),osl NoB (r18.Keys : List (Vector UInt8 16)) u20,osl NoB (r18.Records : List GRecord) u21,osl NoB (r18.Events : List GEvent) u22,raw b16 (cat [[u13],[vI r11.1.Next],[u14],[u15],enc r11.1.Head]),osl NoB (r11.1.Keys : List (Vector UInt8 16)) u13,osl NoB (r11.1.Records : List GRecord) u14,osl NoB (r11.1.Events : List GEvent) u15,raw b1 (cat [[v0_1],[vI p0.Next],[v0_2],[v0_3],enc p0.Head])]) ?_ ?_
  ·skip
   refine wp_region_lit (Zn hE rfl Ys rfl hM.rawAt0 cq fun a hE=>Zn hE rfl Ys rfl hM.rawAt8 cq ?_); intro a hE
   obtain ⟨r35,e36,hl33⟩:=bind_some hl33
   refine Zx hE rfl cb27 (TT _ r25.1 u27 (hM.sl (pre:=[_]) noB) u28 (hM.sl (pre:=[_,_]) noB) u29 (hM.sl (pre:=[_,_,_]) noB) r11.1 u13 (hM.sl (pre:=[_,_,_,_,_,_,_,_,_]) noB) u14 (hM.sl (pre:=[_,_,_,_,_,_,_,_,_,_]) noB) u15 (hM.sl (pre:=[_,_,_,_,_,_,_,_,_,_,_]) noB) r35 e36) ?_
   rintro v w a ⟨rfl,hK⟩ hE
   have hM:=hM.keep hK
   refine TX hE rfl fun a hE=>Zd hE rfl ?_; intro a hE
   refine Wk (!r35) (fun hb37=>?_) (fun hb37=>?_)
   ·have hl33:=Zt hl33 hb37
    refine Zp hE rfl (lkb rfl hb37) rfl (by decide) fun a hE=>Zp hE rfl (lkb rfl hb37) rfl (by decide) fun a hE=>Zp hE rfl (lkb rfl hb37) rfl (by decide) fun a hE=>Yd hE (lkb rfl hb37) rfl fun a hE=>Zh ?_
    obtain rfl:=Option.some.inj hl33
    refine Zj ?_
    have hM:=M.fst (l:=[_,_,_,_,_,_,_,_,_,_,_,_,_]) (((((((((((((hM.pull (pre:=[_,_,_,_,_,_,_,_,_,_,_,_,_,_,_])).pull12).pull12).pull12).pull12).pull12).pull12).pull12).pull12).pull12).pull12).pull12).pull12)
    exact ⟨hE.sub ⟨rfl,rfl,rfl,rfl,rfl,rfl,rfl,rfl,trivial⟩,hM⟩
   ·have hl33:=Zu hl33 hb37
    refine Zv hE (Zr hE rfl (lkb rfl hb37)) (by decide) rfl fun a hE=>Zv hE (Zr hE rfl (lkb rfl hb37)) (by decide) rfl fun a hE=>Yv hE (Zr hE rfl (lkb rfl hb37)) (by decide) rfl rfl rfl fun a hE=>XP hE (lkb rfl hb37) rfl fun a hE=>Zh ?_
    obtain rfl:=Option.some.inj hl33
    refine Zj ?_
    have hM:=M.fst (l:=[_,_,_,_,_,_,_,_,_,_,_,_,_]) (((((((((((((hM.pull (pre:=[_,_,_,_,_,_,_,_,_,_,_,_,_,_,_])).pull12).pull12).pull12).pull12).pull12).pull12).pull12).pull12).pull12).pull12).pull12).pull12)
    exact ⟨hE.sub ⟨rfl,rfl,rfl,rfl,rfl,rfl,rfl,rfl,trivial⟩,hM⟩
  ·skip
   rintro a w ⟨hE,hM⟩
   refine Zm hE rfl ?_ ?_
   ·intro hb40
    have hF34:=Zt hF34 hb40
    refine Zb (Zc hE rfl fun a hE=>Ze ?_)
    obtain rfl:=Option.some.inj hF34
    exact wp_ret (Zo (kr1 hE rfl rfl hM.kept))
   ·intro hb40
    have hF34:=Zu hF34 hb40
    refine wp_skip (Zq (wp_seq ?_))
    obtain ⟨j41,hl42,hF43⟩:=bind_some hF34
    refine ZQ (fun a w=>Env 101 a [(1,vI p1),(2,(ptr b1 0)),(6,(ptr b16 0)),(7,vI r11.2),(8,(ptr b23 0)),(9,(ptr b30 0)),(10,vI r25.2),(49,vT j41)] ∧ M (Old w0) w0 w [raw b30 (cat [[u27],[vI r25.1.Next],[u28],[u29],enc r25.1.Head]),osl NoB (r25.1.Keys : List (Vector UInt8 16)) u27,osl NoB (r25.1.Records : List GRecord) u28,osl NoB (r25.1.Events : List GEvent) u29,raw b23 (cat [[u20],[vI r18.Next],[u21],[u22],enc r18.Head]),osl NoB (r18.Keys : List (Vector UInt8 16)) u20,osl NoB (r18.Records : List GRecord) u21,osl NoB (r18.Events : List GEvent) u22,raw b16 (cat [[u13],[vI r11.1.Next],[u14],[u15],enc r11.1.Head]),osl NoB (r11.1.Keys : List (Vector UInt8 16)) u13,osl NoB (r11.1.Records : List GRecord) u14,osl NoB (r11.1.Events : List GEvent) u15,raw b1 (cat [[v0_1],[vI p0.Next],[v0_2],[v0_3],enc p0.Head])]) ?_ ?_
    ·skip
     obtain ⟨r45,e46,hl42⟩:=bind_some hl42
     refine XQ (its:=[raw b30 (cat [[u27],[vI r25.1.Next],[u28],[u29],enc r25.1.Head]),osl NoB (r25.1.Keys : List (Vector UInt8 16)) u27,osl NoB (r25.1.Records : List GRecord) u28,osl NoB (r25.1.Events : List GEvent) u29,raw b23 (cat [[u20],[vI r18.Next],[u21],[u22],enc r18.Head]),osl NoB (r18.Keys : List (Vector UInt8 16)) u20,osl NoB (r18.Records : List GRecord) u21,osl NoB (r18.Events : List GEvent) u22,raw b16 (cat [[u13],[vI r11.1.Next],[u14],[u15],enc r11.1.Head]),osl NoB (r11.1.Keys : List (Vector UInt8 16)) u13,osl NoB (r11.1.Records : List GRecord) u14,osl NoB (r11.1.Events : List GEvent) u15,raw b1 (cat [[v0_1],[vI p0.Next],[v0_2],[v0_3],enc p0.Head])]) (mk:=([mkO 2 (fun v=>own NoB r45 (Value.cells v).toList)] : Mk)) [45,46,47] Y4 rfl rfl (by decide) rfl hE (fun u=>M.qE (M.q0 hM.drew u) emO) (qsP (v:=(Value.agg (cat [[u20],[vI r18.Next],[u21],[u22],enc r18.Head]).toArray)) ?_ (qsP (v:=(Value.agg (cat [[v0_1],[vI p0.Next],[v0_2],[v0_3],enc p0.Head]).toArray)) ?_ (qsM (pr:=fun v=>∃ cs,v = .agg cs) ?_ qs0))) ?_
     ·intro a w ux44 D z
      have hE:=z.E
      have hM:=z.M
      exact Zn hE rfl Ys rfl hM.rawAt4 cq fun a hE=>⟨Kept.refl _ _,_,rfl,hE⟩
     ·intro a w ux44 D z
      have hE:=z.E
      have hM:=z.M
      exact Zn hE rfl AJ rfl hM.rawAt12 cq fun a hE=>⟨Kept.refl _ _,_,rfl,hE⟩
     ·intro a w ux44 D z
      have hE:=z.E
      have hD : D 2 = false:=z.F
      have hM0:=z.M
      have hM:=z.M
      refine Zx hE rfl cb25 (TM _ p0 v0_1 (hM.rdo hv0_1) v0_2 (hM.rdo hv0_2) v0_3 (hM.rdo hv0_3) r45 e46) ?_
      rintro _ w a ⟨u47,u48,u49,rfl,hFr,hK⟩ hE
      have hM:=kM (x:=r45) (hM0.add hK hFr) sio sio sio
      exact ⟨_,_,rfl,hE,M.qFill (mk1:=[]) (mk2:=[]) (f:=(fun v=>own NoB r45 (Value.cells v).toList)) hM rfl hD,⟨_,rfl⟩⟩
     ·intro a w ux44 D hE hM hG hall
      have d2:=hall 2 (by decide)
      have hM:=hM.sure (pre:=[_,_,_,_,_,_,_,_,_,_,_,_,_]) d2
      obtain ⟨q44_2_0_1,q44_2_0_2,q44_2_0_3,hcz,_,_,_⟩:=zl (hM.ro (pre:=[_,_,_,_,_,_,_,_,_,_,_,_,_]) noB)
      have qK50 : (ux44 2) = (Value.agg (cat [[q44_2_0_1],[vI r45.Next],[q44_2_0_2],[q44_2_0_3],enc r45.Head]).toArray):=aggQ hcz (hG 2 d2 _ rfl).2
      have hM:=hM.pull13
      have hM:=kj (hM.recown (congrArg (fun v=>(Value.cells v).toList) qK50))
      have hE:=hE.setq (t:=47) rfl qK50
      obtain ⟨r54,e55,hl42⟩:=bind_some hl42
      refine Zx hE rfl cb27 (TT _ r18 u20 (hM.sl (pre:=[_,_,_,_,_,_,_,_]) noB) u21 (hM.sl (pre:=[_,_,_,_,_,_,_,_,_]) noB) u22 (hM.sl (pre:=[_,_,_,_,_,_,_,_,_,_]) noB) r45 q44_2_0_1 (hM.ro (pre:=[]) noB) q44_2_0_2 (hM.ro (pre:=[_]) noB) q44_2_0_3 (hM.ro (pre:=[_,_]) noB) r54 e55) ?_
      rintro v w a ⟨rfl,hK⟩ hE
      have hM:=hM.keep hK
      refine TX hE rfl fun a hE=>Zh ?_
      obtain rfl:=Option.some.inj hl42
      refine Zj ?_
      have hM:=((((hM.pull (pre:=[_,_,_,_,_,_,_,_,_,_,_,_,_,_,_])).pull (pre:=[_,_,_,_,_,_,_,_,_,_,_,_,_,_,_])).pull (pre:=[_,_,_,_,_,_,_,_,_,_,_,_,_,_,_])).pull (pre:=[_,_,_,_,_,_,_,_,_,_,_,_,_,_,_])).pull (pre:=[_,_,_,_,_,_,_,_,_,_,_,_,_,_,_])
      have hM:=((((hM.pull (pre:=[_,_,_,_,_,_,_,_,_,_,_,_,_,_,_])).pull (pre:=[_,_,_,_,_,_,_,_,_,_,_,_,_,_,_])).pull (pre:=[_,_,_,_,_,_,_,_,_,_,_,_,_,_,_])).pull (pre:=[_,_,_,_,_,_,_,_,_,_,_,_,_,_,_])).pull (pre:=[_,_,_,_,_,_,_,_,_,_,_,_,_,_,_])
      have hM:=M.fst (l:=[_,_,_,_,_,_,_,_,_,_,_,_,_]) (((hM.pull (pre:=[_,_,_,_,_,_,_,_,_,_,_,_,_,_,_])).pull (pre:=[_,_,_,_,_,_,_,_,_,_,_,_,_,_,_])).pull (pre:=[_,_,_,_,_,_,_,_,_,_,_,_,_,_,_]))
      exact ⟨hE.sub ⟨rfl,rfl,rfl,rfl,rfl,rfl,rfl,rfl,trivial⟩,hM⟩
    ·skip
     rintro a w ⟨hE,hM⟩
     refine Zm hE rfl ?_ ?_
     ·intro hb57
      have hF43:=Zt hF43 hb57
      refine Zb (Zc hE rfl fun a hE=>Ze ?_)
      obtain rfl:=Option.some.inj hF43
      exact wp_ret (Zo (kr1 hE rfl rfl hM.kept))
     ·intro hb57
      have hF43:=Zu hF43 hb57
      refine wp_skip (Zq (Zb (Zc hE rfl fun a hE=>Ze (Zb (Zn hE rfl Ys rfl hM.rawAt4 cq fun a hE=>Zd hE rfl ?_))))); intro a hE
      have hM:=((((((hM.pull5.toOwn noB).pull6).toOwn noB).pull7).toOwn noB).pull1).pull2
      obtain ⟨r58,e59,hF43⟩:=bind_some hF43
      refine Zx hE rfl (cbm Tryz.func28) (QQ _ _ _ _ r18 u20 u21 u22 1 hM r58 e59) ?_
      rintro v w a ⟨rfl,hM⟩ hE
      refine Zc hE rfl fun a hE=>Ze (wp_seq ?_)
      obtain ⟨j60,hl61,hF62⟩:=bind_some hF43
      refine ZQ (fun a w=>Env 101 a [(1,vI p1),(2,(ptr b1 0)),(6,(ptr b16 0)),(7,vI r11.2),(9,(ptr b30 0)),(65,vT j60)] ∧ M (Old w0) w0 w [raw b30 (cat [[u27],[vI r25.1.Next],[u28],[u29],enc r25.1.Head]),osl NoB (r25.1.Keys : List (Vector UInt8 16)) u27,osl NoB (r25.1.Records : List GRecord) u28,osl NoB (r25.1.Events : List GEvent) u29,raw b16 (cat [[u13],[vI r11.1.Next],[u14],[u15],enc r11.1.Head]),osl NoB (r11.1.Keys : List (Vector UInt8 16)) u13,osl NoB (r11.1.Records : List GRecord) u14,osl NoB (r11.1.Events : List GEvent) u15,raw b1 (cat [[v0_1],[vI p0.Next],[v0_2],[v0_3],enc p0.Head])]) ?_ ?_
      ·skip
       refine wp_region_lit (Zd hE rfl fun a hE=>Zg hE rfl rfl rfl fun a hE=>Zd hE rfl ?_); intro a hE
       refine Wk (decide (r58.2 < 0)) (fun hb63=>?_) (fun hb63=>?_)
       ·have hl61:=Zt hl61 hb63
        refine Zp hE rfl (lkb rfl hb63) rfl (by decide) fun a hE=>Zp hE rfl (lkb rfl hb63) rfl (by decide) fun a hE=>Zp hE rfl (lkb rfl hb63) rfl (by decide) fun a hE=>Zp hE rfl (lkb rfl hb63) rfl (by decide) fun a hE=>Yd hE (lkb rfl hb63) rfl fun a hE=>Zd hE rfl fun a hE=>Zp hE rfl rfl rfl (by decide) fun a hE=>Zp hE rfl rfl rfl (by decide) fun a hE=>Zp hE rfl rfl rfl (by decide) fun a hE=>Yd hE rfl rfl fun a hE=>Zh ?_
        obtain rfl:=Option.some.inj hl61
        refine Zj ?_
        have hM:=M.fst (l:=[_,_,_,_,_,_,_,_,_]) hM.pull12.pull12.pull12.pull12.pull12.pull11.pull11.pull11.pull11
        exact ⟨hE.sub ⟨rfl,rfl,rfl,rfl,rfl,rfl,trivial⟩,hM⟩
       ·have hl61:=Zu hl61 hb63
        refine Yp hE (Zr hE rfl (lkb rfl hb63)) (by decide) rfl Ys rfl hM.rawAt3 cq fun a hE=>Yp hE (Zr hE rfl (lkb rfl hb63)) (by decide) rfl Ys rfl hM.rawAt8 cq ?_; intro a hE
        obtain ⟨r65,e66,hl61⟩:=bind_some hl61
        refine Z7 hE (Zr hE rfl (lkb rfl hb63)) (by decide) rfl cb27 (TT _ r25.1 u27 (hM.sl (pre:=[_,_,_,_]) noB) u28 (hM.sl (pre:=[_,_,_,_,_]) noB) u29 (hM.sl (pre:=[_,_,_,_,_,_]) noB) r11.1 u13 (hM.sl (pre:=[_,_,_,_,_,_,_,_,_]) noB) u14 (hM.sl (pre:=[_,_,_,_,_,_,_,_,_,_]) noB) u15 (hM.sl (pre:=[_,_,_,_,_,_,_,_,_,_,_]) noB) r65 e66) ?_
        rintro v w a ⟨rfl,hK⟩ hE
        have hM:=hM.keep hK
        refine QB hE (Zr hE rfl (lkb rfl hb63)) (by decide) rfl fun a hE=>XP hE (lkb rfl hb63) rfl fun a hE=>Zd hE rfl ?_; intro a hE
        refine Wk (!r65) (fun hb67=>?_) (fun hb67=>?_)
        ·have hl61:=Zt hl61 hb67
         refine Zp hE rfl (lkb rfl hb67) rfl (by decide) fun a hE=>Zp hE rfl (lkb rfl hb67) rfl (by decide) fun a hE=>Zp hE rfl (lkb rfl hb67) rfl (by decide) fun a hE=>Yd hE (lkb rfl hb67) rfl fun a hE=>Zh ?_
         obtain rfl:=Option.some.inj hl61
         refine Zj ?_
         have hM:=M.fst (l:=[_,_,_,_,_,_,_,_,_]) hM.pull12.pull12.pull12.pull12.pull12.pull11.pull11.pull11.pull11
         exact ⟨hE.sub ⟨rfl,rfl,rfl,rfl,rfl,rfl,trivial⟩,hM⟩
        ·have hl61:=Zu hl61 hb67
         refine Zv hE (Zr hE rfl (lkb rfl hb67)) (by decide) rfl fun a hE=>Zv hE (Zr hE rfl (lkb rfl hb67)) (by decide) rfl fun a hE=>Yv hE (Zr hE rfl (lkb rfl hb67)) (by decide) rfl rfl rfl fun a hE=>XP hE (lkb rfl hb67) rfl fun a hE=>Zh ?_
         obtain rfl:=Option.some.inj hl61
         refine Zj ?_
         have hM:=M.fst (l:=[_,_,_,_,_,_,_,_,_]) hM.pull12.pull12.pull12.pull12.pull12.pull11.pull11.pull11.pull11
         exact ⟨hE.sub ⟨rfl,rfl,rfl,rfl,rfl,rfl,trivial⟩,hM⟩
      ·skip
       rintro a w ⟨hE,hM⟩
       refine Zm hE rfl ?_ ?_
       ·intro hb70
        have hF62:=Zt hF62 hb70
        refine Zb (Zc hE rfl fun a hE=>Ze ?_)
        obtain rfl:=Option.some.inj hF62
        exact wp_ret (Zo (kr1 hE rfl rfl hM.kept))
       ·intro hb70
        have hF62:=Zu hF62 hb70
        refine wp_skip (Zq (Zb (Zc hE rfl fun a hE=>Ze (Zb (Zn hE rfl Ys rfl hM.rawAt0 cq fun a hE=>Zd hE rfl ?_))))); intro a hE
        have hM:=((((((hM.pull1.toOwn noB).pull2).toOwn noB).pull3).toOwn noB).pull1).pull2
        obtain ⟨r71,e72,hF62⟩:=bind_some hF62
        refine Zx hE rfl (cbm Tryz.func28) (QQ _ _ _ _ r25.1 u27 u28 u29 1 hM r71 e72) ?_
        rintro v w a ⟨rfl,hM⟩ hE
        refine Zc hE rfl fun a hE=>Ze (Zb (Zc hE rfl fun a hE=>Ze (Zb (Zn hE rfl Ys rfl hM.rawAt3 cq fun a hE=>Zd hE rfl ?_)))); intro a hE
        obtain ⟨r73,e74,hF62⟩:=bind_some hF62
        refine Zx hE rfl (cbm Tryz.func29) (QR _ (⟨r71.1.Keys,r25.1.Next,r71.1.Records,r71.1.Events,r25.1.Head⟩ : GVault) u27 (hM.ro (pre:=[]) noB) u28 (hM.ro (pre:=[_]) noB) u29 (hM.ro (pre:=[_,_]) noB) 1 r73 e74) ?_
        rintro v w a ⟨rfl,hK⟩ hE
        have hM:=hM.keep hK
        refine Zc hE rfl fun a hE=>Ze (wp_seq (Zb (Zd hE rfl fun a hE=>Zg hE rfl rfl rfl fun a hE=>Ze ?_)))
        refine Zm hE rfl ?_ ?_
        ·intro hb75
         have hF62:=Zt hF62 hb75
         refine Zb (Zc hE rfl fun a hE=>Ze ?_)
         obtain rfl:=Option.some.inj hF62
         exact wp_ret (Zo (kr1 hE rfl rfl hM.kept))
        ·intro hb75
         have hF62:=Zu hF62 hb75
         refine wp_skip (Zq (wp_seq (Zb (Zd hE rfl fun a hE=>Zd hE rfl fun a hE=>Zg hE rfl rfl rfl fun a hE=>Ze ?_))))
         refine Zm hE rfl ?_ ?_
         ·intro hb76
          have hF62:=Zt hF62 hb76
          refine Zb (Zc hE rfl fun a hE=>Ze ?_)
          obtain rfl:=Option.some.inj hF62
          exact wp_ret (Zo (kr1 hE rfl rfl hM.kept))
         ·intro hb76
          have hF62:=Zu hF62 hb76
          refine wp_skip (Zq (Zb (Zn hE rfl AJ rfl hM.rawAt8 cq ?_))); intro a hE
          obtain ⟨r77,e78,hF62⟩:=bind_some hF62
          refine Zx hE rfl cb25 (TM _ p0 v0_1 (hM.rdo hv0_1) v0_2 (hM.rdo hv0_2) v0_3 (hM.rdo hv0_3) r77 e78) ?_
          rintro v w a ⟨u79,u80,u81,rfl,hFr,hK⟩ hE
          have hM:=hM.add hK hFr
          refine Zd hE rfl ?_; intro a hE
          obtain ⟨r82,e83,hF62⟩:=bind_some hF62
          refine Zx hE rfl (cbm Tryz.func26) (QG _ r77 u79 (hM.sl (pre:=[]) noB) u80 (hM.sl (pre:=[_]) noB) u81 (hM.sl (pre:=[_,_]) noB) p1 r82 e83) ?_
          rintro v w a ⟨u84,u85,u86,rfl,hFr,hK⟩ hE
          have hM:=hM.add hK hFr
          refine Zd hE rfl fun a hE=>W7 hE Za ld rfl rfl fun a hE=>W7 hE Za ld rfl rfl fun a hE=>ZA hE hM Ys fun b87 w a hM hE=>Zk (seg:=cat [[u84],[vI r82.1.Next],[u85],[u86],enc r82.1.Head]) (cs':=cat [[u84],[vI r82.1.Next],[u85],[u86],enc r82.1.Head]) hE hM Za rfl rfl rfl Ys cq (Nat.le_of_eq ((Nat.zero_add _).trans (Eq.trans cq (Eq.symm cq)))) (ZX (cc1 (Rep.cell (hM.sl (pre:=[_]) noB)) (cc1 (Flat.cell (r82.1.Next : Int)) (cc1 (Rep.cell (hM.sl (pre:=[_,_]) noB)) (cc1 (Rep.cell (hM.sl (pre:=[_,_,_]) noB)) (cc1 (Flat.cell _) cc0)))))) (Zi (Eq.trans cq (Eq.symm cq))) fun w a hM hE=>Zc hE rfl fun a hE=>Ze (wp_seq ?_)
          obtain ⟨j89,hl90,hF91⟩:=bind_some hF62
          refine ZQ (fun a w=>Env 101 a [(9,(ptr b30 0)),(12,vI r71.2),(92,vT j89)] ∧ M (Old w0) w0 w [own NoB (r71.1.Keys : (List (Vector UInt8 16))) [u27],own NoB (r71.1.Records : (List GRecord)) [u28],own NoB (r71.1.Events : (List GEvent)) [u29],raw b30 (cat [[u27],[vI r25.1.Next],[u28],[u29],enc r25.1.Head])]) ?_ ?_
          ·skip
           refine wp_region_lit (Zn hE rfl Ys rfl hM.rawAt0 cq fun a hE=>Zn hE rfl Ys rfl hM.rawAt11 cq ?_); intro a hE
           obtain ⟨r92,e93,hl90⟩:=bind_some hl90
           refine Zx hE rfl cb27 (TT _ r82.1 u84 (hM.sl (pre:=[_]) noB) u85 (hM.sl (pre:=[_,_]) noB) u86 (hM.sl (pre:=[_,_,_]) noB) r11.1 u13 (hM.sl (pre:=[_,_,_,_,_,_,_,_,_,_,_,_]) noB) u14 (hM.sl (pre:=[_,_,_,_,_,_,_,_,_,_,_,_,_]) noB) u15 (hM.sl (pre:=[_,_,_,_,_,_,_,_,_,_,_,_,_,_]) noB) r92 e93) ?_
           rintro v w a ⟨rfl,hK⟩ hE
           have hM:=hM.keep hK
           refine TX hE rfl fun a hE=>Zd hE rfl ?_; intro a hE
           refine Wk (!r92) (fun hb94=>?_) (fun hb94=>?_)
           ·have hl90:=Zt hl90 hb94
            refine Zp hE rfl (lkb rfl hb94) rfl (by decide) fun a hE=>Zp hE rfl (lkb rfl hb94) rfl (by decide) fun a hE=>Zp hE rfl (lkb rfl hb94) rfl (by decide) fun a hE=>Yd hE (lkb rfl hb94) rfl fun a hE=>Zh ?_
            obtain rfl:=Option.some.inj hl90
            refine Zj ?_
            have hM:=M.fst (l:=[_,_,_,_]) hM.pull10.pull10.pull10.pull10
            exact ⟨hE.sub ⟨rfl,rfl,rfl,trivial⟩,hM⟩
           ·have hl90:=Zu hl90 hb94
            refine Zv hE (Zr hE rfl (lkb rfl hb94)) (by decide) rfl fun a hE=>Zv hE (Zr hE rfl (lkb rfl hb94)) (by decide) rfl fun a hE=>Yv hE (Zr hE rfl (lkb rfl hb94)) (by decide) rfl rfl rfl fun a hE=>XP hE (lkb rfl hb94) rfl fun a hE=>Zh ?_
            obtain rfl:=Option.some.inj hl90
            refine Zj ?_
            have hM:=M.fst (l:=[_,_,_,_]) hM.pull10.pull10.pull10.pull10
            exact ⟨hE.sub ⟨rfl,rfl,rfl,trivial⟩,hM⟩
          ·skip
           rintro a w ⟨hE,hM⟩
           refine Zm hE rfl ?_ ?_
           ·intro hb97
            have hF91:=Zt hF91 hb97
            refine Zb (Zc hE rfl fun a hE=>Ze ?_)
            obtain rfl:=Option.some.inj hF91
            exact wp_ret (Zo (kr1 hE rfl rfl hM.kept))
           ·intro hb97
            have hF91:=Zu hF91 hb97
            refine wp_skip (Zq (Zb (Zc hE rfl fun a hE=>Ze (Zb (Zn hE rfl Ys rfl hM.rawAt3 cq fun a hE=>Zd hE rfl ?_))))); intro a hE
            obtain ⟨r98,e99,hF91⟩:=bind_some hF91
            refine Zx hE rfl (cbm Tryz.func29) (QR _ (⟨r71.1.Keys,r25.1.Next,r71.1.Records,r71.1.Events,r25.1.Head⟩ : GVault) u27 (hM.ro (pre:=[]) noB) u28 (hM.ro (pre:=[_]) noB) u29 (hM.ro (pre:=[_,_]) noB) 1 r98 e99) ?_
            rintro v w a ⟨rfl,hK⟩ hE
            have hM:=hM.keep hK
            refine Zc hE rfl fun a hE=>Ze (wp_seq (Zb (Zd hE rfl fun a hE=>Zg hE rfl rfl rfl fun a hE=>Ze ?_)))
            refine Zm hE rfl ?_ ?_
            ·intro hb100
             have hF91:=Zt hF91 hb100
             refine Zb (Zc hE rfl fun a hE=>Ze ?_)
             obtain rfl:=Option.some.inj hF91
             exact wp_ret (Zo (kr1 hE rfl rfl hM.kept))
            ·intro hb100
             have hF91:=Zu hF91 hb100
             refine wp_skip (Zq (wp_seq (Zb (Zd hE rfl fun a hE=>Zd hE rfl fun a hE=>Zg hE rfl rfl rfl fun a hE=>Ze ?_))))
             refine Zm hE rfl ?_ ?_
             ·intro hb101
              have hF91:=Zt hF91 hb101
              refine Zb (Zc hE rfl fun a hE=>Ze ?_)
              obtain rfl:=Option.some.inj hF91
              exact wp_ret (Zo (kr1 hE rfl rfl hM.kept))
             ·intro hb101
              have hF91:=Zu hF91 hb101
              refine wp_skip (Zq (Zb (Zc hE rfl fun a hE=>Ze ?_)))
              obtain rfl:=Option.some.inj hF91
              exact wp_ret (kr1 hE rfl rfl hM.kept)
end

end Go.Proofs.YtpibglnacohdkaaGreat
