/- The walk of what the law reaches: contracts of functions. -/
import Derived.Test.YtlpppjjlffgkmaaGreatC2
set_option linter.unusedVariables false
set_option linter.unusedSimpArgs false
set_option maxRecDepth 20000
set_option maxHeartbeats 400000
namespace Go.Proofs.YtlpppjjlffgkmaaGreat
open Go
open Flat (enc)
noncomputable section
theorem Q7 (w0 : World) (p0 : (Ref Gengine)) (v0_1 : Value) (hv0_1 : Ro w0 p0 [v0_1]) (p1 : (List GEvent)) (v1_1 : Value) (hv1_1 : Ro w0 p1 [v1_1]) (r : (Vector UInt8 32)) (hF : X3 p0 p1 = some r) :
  Calls Tryz.prog 47 [v0_1,v1_1].toArray w0 (fun en w'=>∃ v,en = .returned v ∧ (v = (Value.agg (enc r).toArray) ∧ Kept (Old w0) w0 w')):=by
 refine ZB (n:=33) Tryz.func47 rfl rfl (nbl rfl) rfl ?_
 intro a hE
 have hM:=M.start w0
 unfold X3 at hF
 refine Zc (ZH hE hM Za ld Yi fun b1 w a hM hE=>Zf (Zc (Zd hE Za ld rfl ?_))); intro a hE
 obtain ⟨l3,e4,hF⟩:=bind_some hF
 refine yv hE hM Za ld rfl rfl Tryz.underlying32 ty5 rfl (by decide) (fun _=>Tv.2 ⟨rfl,rfl⟩) e4 fun u5 w a hM hE=>Kg (xs:=[.tmp 9]) (vs:=[u5]) hE hM Za ld rfl rfl Tryz.underlying41 UU (by decide) (T0 (U0 (hM.sl (pre:=[]) noB)) A0) ?_; intro b7 w a hM hE
 obtain ⟨r9,e10,hF⟩:=bind_some hF
 refine Zw hE Za ld rfl cb112 (Tg _ p0 v0_1 (hM.rdo hv0_1) ([l3] : (List (List UInt8))) (Value.slice (some ⟨b7,0,none⟩) 1 1) (za (hM.rawAt (pre:=[])) (hM.rawLt (pre:=[])) ⟨(hM.sl (pre:=[_]) noB),trivial⟩ rfl) r9 e10) ?_
 rintro v w a ⟨rfl,hK⟩ hE
 have hM:=hM.keep hK
 refine ZH hE hM Za ld Yi fun b11 w a hM hE=>Zv (seg:=enc r9) (cs':=enc r9) hE hM Za rfl rfl rfl Yi (Flat.len _) (zle flq) (Flat.cell _) (Zr flq) fun w a hM hE=>Zf (wp_seq (Zc (Zd hE Za ld rfl fun a hE=>Yf hE Za ld rfl Tryz.underlying35 (hM.rd hv1_1) fun a hE=>Zd hE Za ld rfl fun a hE=>Zf ?_)))
 obtain ⟨j13,hl14,hF15⟩:=bind_some hF
 refine ZL (fun a w=>Env 33 a [(4,(ptr b1 0)),(5,(ptr b11 0))] ∧ M (Old w0) w0 w [raw b11 (enc j13),raw b1 (enc (Vector.replicate 32 (0 : UInt8)))]) ?_ ?_
 ·skip
  refine wp_block ?_
  have hM:=M.fst (l:=[_,_]) ((hM.pull (pre:=[_,_,_])).pull (pre:=[_]))
  refine ZC (fun (s16 : (Vector UInt8 32) × Int) a w=>Env 33 a [(0,v0_1),(4,(ptr b1 0)),(5,(ptr b11 0)),(12,v1_1),(13,(vI (p1.length : Int))),(14,vI s16.2)] ∧ M (Old w0) w0 w [raw b11 (enc s16.1),raw b1 (enc (Vector.replicate 32 (0 : UInt8)))]) hl14 ⟨hE.sub ⟨rfl,rfl,rfl,rfl,rfl,rfl,trivial⟩,hM⟩ ?_
  rintro s16 a w ⟨hE,hM⟩ o19 hs17 hx18
  unfold YU at hs17
  refine Zc (Zi hE Za ld rfl rfl rfl fun a hE=>Zf (wp_seq ?_))
  refine Zp hE rfl ?_ ?_
  ·intro hb20
   have hs17:=Zz hs17 hb20
   refine wp_skip (Zu (wp_seq (wp_block (Zc ?_))))
   obtain ⟨x21,hi23,hs17⟩:=bix hs17
   refine ZK hE Za ld rfl rfl Tryz.underlying35 U2 (hM.rd hv1_1) hi23.1 fun a hE=>Zo (cs:=enc x21) hE Za ld rfl U2 rfl (Xc (hM.rd hv1_1) hi23.2) (Zg (cl1 (n:=1) (m:=33) rfl (cl1 (n:=1) (m:=32) rfl (cl1 (n:=32) (m:=0) (Flat.len _) cl0)))) fun a hE=>ZH hE hM Za ld U2 fun b24 w a hM hE=>Zv (seg:=cat [[vI x21.Kind],[vI x21.Number],enc x21.Tag]) (cs':=cat [[vI x21.Kind],[vI x21.Number],enc x21.Tag]) hE hM Za rfl rfl rfl U2 (Zg (cl1 (n:=1) (m:=33) rfl (cl1 (n:=1) (m:=32) rfl (cl1 (n:=32) (m:=0) (Flat.len _) cl0)))) (Nat.le_of_eq ((Nat.zero_add _).trans (Eq.trans (Zg (cl1 (n:=1) (m:=33) rfl (cl1 (n:=1) (m:=32) rfl (cl1 (n:=32) (m:=0) (Flat.len _) cl0)))) (Eq.symm (Zg (cl1 (n:=1) (m:=33) rfl (cl1 (n:=1) (m:=32) rfl (cl1 (n:=32) (m:=0) (Flat.len _) cl0)))))))) (ZV (cc1 (Flat.cell (x21.Kind : Int)) (cc1 (Flat.cell (x21.Number : Int)) (cc1 (Flat.cell _) cc0)))) (Zr (Eq.trans (Zg (cl1 (n:=1) (m:=33) rfl (cl1 (n:=1) (m:=32) rfl (cl1 (n:=32) (m:=0) (Flat.len _) cl0)))) (Eq.symm (Zg (cl1 (n:=1) (m:=33) rfl (cl1 (n:=1) (m:=32) rfl (cl1 (n:=32) (m:=0) (Flat.len _) cl0))))))) fun w a hM hE=>Zf ?_
   obtain ⟨l27,e28,hs17⟩:=bind_some hs17
   have hb29:=TZ e28 -- ^
   obtain ⟨r32,e33,hs17⟩:=bind_some hs17
   obtain ⟨l35,e36,hs17⟩:=bind_some hs17
   have hb37:=TZ e36 -- ^
   refine Te (n:=33) (hd:=[_,_,_,_,_,_,_,_,_,_,_,_]) (tl:=[_,_]) YN rfl rfl [18,19,20,21,22,23,24,25,26,27,28,29] (by decide) (fun D u w=>M (Old w0) w0 w ([raw b24 (cat [[vI x21.Kind],[vI x21.Number],enc x21.Tag]),raw b11 (enc s16.1),raw b1 (enc (Vector.replicate 32 (0 : UInt8)))] ++ qL ([mkO 5 (fun v=>osl NoB (([Zx x21.Kind] : List UInt8) : List UInt8) v),mkO 8 (fun v=>osl NoB (r32 : List UInt8) v),mkL 11 [5,8] 4 (fun us=>[(ZP (.slice (some ⟨b11,0,none⟩) 32 32) ((0 : Int)).toNat ((32 : Int)).toNat 1),(us.getD 0 undef),(us.getD 1 undef),(ZP (.slice (some ⟨b24,0 + 2,none⟩) 32 32) ((0 : Int)).toNat ((32 : Int)).toNat 1)])] : Mk) D u) ∧ GOk ([([],fun us v=>v = v0_1),([],fun us v=>v = (ZP (.slice (some ⟨b11,0,none⟩) 32 32) ((0 : Int)).toNat ((32 : Int)).toNat 1)),([],fun us v=>v = (ptr b24 (0 + 0))),([],fun us v=>v = (vI x21.Kind)),([],fun us v=>v = (vB (Zx x21.Kind))),([],fun us v=>True),([],fun us v=>v = (ptr b24 (0 + 1))),([],fun us v=>v = (vI x21.Number)),([],fun us v=>True),([],fun us v=>v = (ptr b24 (0 + 2))),([],fun us v=>v = (ZP (.slice (some ⟨b24,0 + 2,none⟩) 32 32) ((0 : Int)).toNat ((32 : Int)).toNat 1)),([5,8],fun us v=>True)] : Gs) D u) hE (fun u=>⟨M.qE (M.qE (M.qE (M.q0 hM.drew u) emL) emO) emO,HU⟩) (ZJ (Zb ?_ (Zb ?_ (Zb ?_ (Zb ?_ (Zb ?_ (Zb ?_ (Zb ?_ (Zb ?_ (Zb ?_ (Zb ?_ (Zb ?_ (Zb ?_ ZF))))))))))))) ?_
   ·intro a w ux26 D hE hI hD hdc hp
    have hM0:=hI.1
    exact Zd hE Za ld rfl fun a hE=>⟨_,_,rfl,hE,M.qKeep hM0 rfl,hI.2.put hD rfl Z4 rfl⟩
   ·intro a w ux26 D hE hI hD hdc hp
    have hM0:=hI.1
    exact UL (N:=32) hE Za ld rfl rfl rfl rfl rfl Tryz.underlying37 ty5 hb29 fun a hE=>⟨_,_,rfl,hE,M.qKeep hM0 rfl,hI.2.put hD rfl Z4 rfl⟩
   ·intro a w ux26 D hE hI hD hdc hp
    have hM0:=hI.1
    exact Zh hE Za ld rfl (QC) fun a hE=>⟨_,_,rfl,hE,M.qKeep hM0 rfl,hI.2.put hD rfl Z4 rfl⟩
   ·intro a w ux26 D hE hI hD hdc hp
    have d2 : D 2 = true:=hp 0 _ rfl rfl
    have g2:=hI.2 2 d2 _ rfl
    have f2 : ux26 2 = (ptr b24 (0 + 0)):=g2.2
    have hM0:=hI.1
    have hM:=hI.1
    exact ZA (v:=(vI x21.Kind)) hE Za ld (lk rfl f2) ty2 rfl (At.cat (pre:=[]) (hM.rawAt (pre:=[])) cl0) fun a hE=>⟨_,_,rfl,hE,M.qKeep hM0 rfl,hI.2.put hD rfl Z4 rfl⟩
   ·intro a w ux26 D hE hI hD hdc hp
    have d3 : D 3 = true:=hp 0 _ rfl rfl
    have g3:=hI.2 3 d3 _ rfl
    have f3 : ux26 3 = (vI x21.Kind):=g3.2
    have hM0:=hI.1
    refine Yb hE Za ld (lk rfl f3) Tryz.underlying2 Tryz.underlying5 ?_; intro a hE
    rw [ZN] at hE
    exact ⟨_,_,rfl,hE,M.qKeep hM0 rfl,hI.2.put hD rfl Z4 rfl⟩
   ·intro a w ux26 D hE hI hD hdc hp
    have d4 : D 4 = true:=hp 0 _ rfl rfl
    have g4:=hI.2 4 d4 _ rfl
    have f4 : ux26 4 = (vB (Zx x21.Kind)):=g4.2
    have hsL : D 11 = false:=Bool.eq_false_iff.2 fun hx=>Bool.noConfusion (hD.symm.trans (hdc 11 _ _ rfl (List.mem_of_getElem? (i:=1) rfl) rfl hx))
    have hM0:=hI.1
    have hM:=hI.1
    refine Yj (xs:=[.tmp 22]) (l:=([Zx x21.Kind] : List UInt8)) (vs:=[(vB (Zx x21.Kind))]) hE hM Za ld (Z7 (Z2 (lk rfl f4) X8)) rfl Tryz.underlying32 ty5 rfl (by decide) rfl ?_; intro u30 w a hM hE
    have hM:=M.litOff (its:=_ :: [raw b24 (cat [[vI x21.Kind],[vI x21.Number],enc x21.Tag]),raw b11 (enc s16.1),raw b1 (enc (Vector.replicate 32 (0 : UInt8)))]) (mk:=([mkO 5 (fun v=>osl NoB (([Zx x21.Kind] : List UInt8) : List UInt8) v),mkO 8 (fun v=>osl NoB (r32 : List UInt8) v)] : Mk)) (i:=11) (ds:=[5,8]) (m:=4) (f:=(fun us=>[(ZP (.slice (some ⟨b11,0,none⟩) 32 32) ((0 : Int)).toNat ((32 : Int)).toNat 1),(us.getD 0 undef),(us.getD 1 undef),(ZP (.slice (some ⟨b24,0 + 2,none⟩) 32 32) ((0 : Int)).toNat ((32 : Int)).toNat 1)])) hM hsL
    exact ⟨_,_,rfl,hE,(M.litOn (its:=[raw b24 (cat [[vI x21.Kind],[vI x21.Number],enc x21.Tag]),raw b11 (enc s16.1),raw b1 (enc (Vector.replicate 32 (0 : UInt8)))]) (mk:=([mkO 5 (fun v=>osl NoB (([Zx x21.Kind] : List UInt8) : List UInt8) v),mkO 8 (fun v=>osl NoB (r32 : List UInt8) v)] : Mk)) (i:=11) (ds:=[5,8]) (m:=4) (f:=(fun us=>[(ZP (.slice (some ⟨b11,0,none⟩) 32 32) ((0 : Int)).toNat ((32 : Int)).toNat 1),(us.getD 0 undef),(us.getD 1 undef),(ZP (.slice (some ⟨b24,0 + 2,none⟩) 32 32) ((0 : Int)).toNat ((32 : Int)).toNat 1)])) (M.qFill (its:=[raw b24 (cat [[vI x21.Kind],[vI x21.Number],enc x21.Tag]),raw b11 (enc s16.1),raw b1 (enc (Vector.replicate 32 (0 : UInt8)))]) (mk1:=[]) (mk2:=[_]) (f:=(fun v=>osl NoB (([Zx x21.Kind] : List UInt8) : List UInt8) v)) hM rfl hD) hsL (by decide)),hI.2.put hD rfl Z4 trivial⟩
   ·intro a w ux26 D hE hI hD hdc hp
    have hM0:=hI.1
    exact Zh hE Za ld rfl (QJ) fun a hE=>⟨_,_,rfl,hE,M.qKeep hM0 rfl,hI.2.put hD rfl Z4 rfl⟩
   ·intro a w ux26 D hE hI hD hdc hp
    have d6 : D 6 = true:=hp 0 _ rfl rfl
    have g6:=hI.2 6 d6 _ rfl
    have f6 : ux26 6 = (ptr b24 (0 + 1)):=g6.2
    have hM0:=hI.1
    have hM:=hI.1
    exact ZA (v:=(vI x21.Number)) hE Za ld (lk rfl f6) ty2 rfl (At.cat (pre:=[[vI x21.Kind]]) (hM.rawAt (pre:=[])) (cl1 (n:=1) (m:=0) rfl cl0)) fun a hE=>⟨_,_,rfl,hE,M.qKeep hM0 rfl,hI.2.put hD rfl Z4 rfl⟩
   ·intro a w ux26 D hE hI hD hdc hp
    have d7 : D 7 = true:=hp 0 _ rfl rfl
    have g7:=hI.2 7 d7 _ rfl
    have f7 : ux26 7 = (vI x21.Number):=g7.2
    have hsL : D 11 = false:=Bool.eq_false_iff.2 fun hx=>Bool.noConfusion (hD.symm.trans (hdc 11 _ _ rfl (List.mem_of_getElem? (i:=2) rfl) rfl hx))
    have hM0:=hI.1
    have hM:=hI.1
    refine Zw hE Za ld (Z7 (Z2 (lk rfl f7) (Z2 rfl X8))) cb113 (TQ _ x21.Number 4 r32 e33) ?_
    rintro _ w a ⟨_,rfl,hFr,hK⟩ hE
    have hM:=hM0.add hK hFr
    have hM:=M.litOff (its:=_ :: [raw b24 (cat [[vI x21.Kind],[vI x21.Number],enc x21.Tag]),raw b11 (enc s16.1),raw b1 (enc (Vector.replicate 32 (0 : UInt8)))]) (mk:=([mkO 5 (fun v=>osl NoB (([Zx x21.Kind] : List UInt8) : List UInt8) v),mkO 8 (fun v=>osl NoB (r32 : List UInt8) v)] : Mk)) (i:=11) (ds:=[5,8]) (m:=4) (f:=(fun us=>[(ZP (.slice (some ⟨b11,0,none⟩) 32 32) ((0 : Int)).toNat ((32 : Int)).toNat 1),(us.getD 0 undef),(us.getD 1 undef),(ZP (.slice (some ⟨b24,0 + 2,none⟩) 32 32) ((0 : Int)).toNat ((32 : Int)).toNat 1)])) hM hsL
    exact ⟨_,_,rfl,hE,(M.litOn (its:=[raw b24 (cat [[vI x21.Kind],[vI x21.Number],enc x21.Tag]),raw b11 (enc s16.1),raw b1 (enc (Vector.replicate 32 (0 : UInt8)))]) (mk:=([mkO 5 (fun v=>osl NoB (([Zx x21.Kind] : List UInt8) : List UInt8) v),mkO 8 (fun v=>osl NoB (r32 : List UInt8) v)] : Mk)) (i:=11) (ds:=[5,8]) (m:=4) (f:=(fun us=>[(ZP (.slice (some ⟨b11,0,none⟩) 32 32) ((0 : Int)).toNat ((32 : Int)).toNat 1),(us.getD 0 undef),(us.getD 1 undef),(ZP (.slice (some ⟨b24,0 + 2,none⟩) 32 32) ((0 : Int)).toNat ((32 : Int)).toNat 1)])) (M.qFill (its:=[raw b24 (cat [[vI x21.Kind],[vI x21.Number],enc x21.Tag]),raw b11 (enc s16.1),raw b1 (enc (Vector.replicate 32 (0 : UInt8)))]) (mk1:=[_]) (mk2:=[]) (f:=(fun v=>osl NoB (r32 : List UInt8) v)) hM rfl hD) hsL (by decide)),hI.2.put hD rfl Z4 trivial⟩
   ·intro a w ux26 D hE hI hD hdc hp
    have hM0:=hI.1
    exact Zh hE Za ld rfl (QD) fun a hE=>⟨_,_,rfl,hE,M.qKeep hM0 rfl,hI.2.put hD rfl Z4 rfl⟩
   ·intro a w ux26 D hE hI hD hdc hp
    have d9 : D 9 = true:=hp 0 _ rfl rfl
    have g9:=hI.2 9 d9 _ rfl
    have f9 : ux26 9 = (ptr b24 (0 + 2)):=g9.2
    have hM0:=hI.1
    exact UL (N:=32) hE Za ld (lk rfl f9) rfl rfl rfl rfl Tryz.underlying37 ty5 hb37 fun a hE=>⟨_,_,rfl,hE,M.qKeep hM0 rfl,hI.2.put hD rfl Z4 rfl⟩
   ·intro a w ux26 D hE hI hD hdc hp
    have d1 : D 1 = true:=hp 0 _ rfl rfl
    have g1:=hI.2 1 d1 _ rfl
    have f1 : ux26 1 = (ZP (.slice (some ⟨b11,0,none⟩) 32 32) ((0 : Int)).toNat ((32 : Int)).toNat 1):=g1.2
    have d5 : D 5 = true:=hp 1 _ rfl rfl
    have g5:=hI.2 5 d5 _ rfl
    have d8 : D 8 = true:=hp 2 _ rfl rfl
    have g8:=hI.2 8 d8 _ rfl
    have d10 : D 10 = true:=hp 3 _ rfl rfl
    have g10:=hI.2 10 d10 _ rfl
    have f10 : ux26 10 = (ZP (.slice (some ⟨b24,0 + 2,none⟩) 32 32) ((0 : Int)).toNat ((32 : Int)).toNat 1):=g10.2
    have hM0:=hI.1
    have hM:=(hI.1.sure (pre:=[_,_,_]) d5).sure (pre:=[_,_,_,_]) d8
    refine Kg (xs:=[.tmp 19,.tmp 23,.tmp 26,.tmp 28]) (vs:=[(ZP (.slice (some ⟨b11,0,none⟩) 32 32) ((0 : Int)).toNat ((32 : Int)).toNat 1),(ux26 5),(ux26 8),(ZP (.slice (some ⟨b24,0 + 2,none⟩) 32 32) ((0 : Int)).toNat ((32 : Int)).toNat 1)]) hE hM Za ld (Z7 (Z2 (lk rfl f1) (Z2 rfl (Z2 rfl (Z2 (lk rfl f10) X8))))) rfl Tryz.underlying41 UU (by decide) (T0 (U0 (W2 (At.sat (hM.rawAt (pre:=[_])) (by simp) (by decide)) e28)) (T0 (U0 (hM.sl (pre:=[_,_,_]) noB)) (T0 (U0 (hM.sl (pre:=[_,_,_,_]) noB)) (T0 (U0 (W2 (At.sat (At.cat (pre:=[[vI x21.Kind],[vI x21.Number]]) (hM.rawAt (pre:=[])) (cl1 (n:=1) (m:=1) rfl (cl1 (n:=1) (m:=0) rfl cl0))) (by simp) (by decide)) e36)) A0)))) ?_; intro b38 w a hM hE
    have hM:=(hM.unsure (pre:=[_,_,_,_,_]) d8).unsure (pre:=[_,_,_,_]) d5
    exact ⟨_,_,rfl,hE,M.litFill (its:=[raw b24 (cat [[vI x21.Kind],[vI x21.Number],enc x21.Tag]),raw b11 (enc s16.1),raw b1 (enc (Vector.replicate 32 (0 : UInt8)))]) (mk:=([mkO 5 (fun v=>osl NoB (([Zx x21.Kind] : List UInt8) : List UInt8) v),mkO 8 (fun v=>osl NoB (r32 : List UInt8) v)] : Mk)) (i:=11) (ds:=[5,8]) (m:=4) (f:=(fun us=>[(ZP (.slice (some ⟨b11,0,none⟩) 32 32) ((0 : Int)).toNat ((32 : Int)).toNat 1),(us.getD 0 undef),(us.getD 1 undef),(ZP (.slice (some ⟨b24,0 + 2,none⟩) 32 32) ((0 : Int)).toNat ((32 : Int)).toNat 1)])) hM rfl hD (by decide),hI.2.put hD rfl (allC d5 (allC d8 Z4)) trivial⟩
   ·intro a w ux26 D hE hI hall
    have hM:=hI.1
    have d0 : D 0 = true:=hall 0 (by decide)
    have d1 : D 1 = true:=hall 1 (by decide)
    have d2 : D 2 = true:=hall 2 (by decide)
    have d3 : D 3 = true:=hall 3 (by decide)
    have d4 : D 4 = true:=hall 4 (by decide)
    have d5 : D 5 = true:=hall 5 (by decide)
    have d6 : D 6 = true:=hall 6 (by decide)
    have d7 : D 7 = true:=hall 7 (by decide)
    have d8 : D 8 = true:=hall 8 (by decide)
    have d9 : D 9 = true:=hall 9 (by decide)
    have d10 : D 10 = true:=hall 10 (by decide)
    have d11 : D 11 = true:=hall 11 (by decide)
    have f0 : ux26 0 = v0_1:=(hI.2 0 d0 _ rfl).2
    have f1 : ux26 1 = (ZP (.slice (some ⟨b11,0,none⟩) 32 32) ((0 : Int)).toNat ((32 : Int)).toNat 1):=(hI.2 1 d1 _ rfl).2
    have f2 : ux26 2 = (ptr b24 (0 + 0)):=(hI.2 2 d2 _ rfl).2
    have f3 : ux26 3 = (vI x21.Kind):=(hI.2 3 d3 _ rfl).2
    have f4 : ux26 4 = (vB (Zx x21.Kind)):=(hI.2 4 d4 _ rfl).2
    have f6 : ux26 6 = (ptr b24 (0 + 1)):=(hI.2 6 d6 _ rfl).2
    have f7 : ux26 7 = (vI x21.Number):=(hI.2 7 d7 _ rfl).2
    have f9 : ux26 9 = (ptr b24 (0 + 2)):=(hI.2 9 d9 _ rfl).2
    have f10 : ux26 10 = (ZP (.slice (some ⟨b24,0 + 2,none⟩) 32 32) ((0 : Int)).toNat ((32 : Int)).toNat 1):=(hI.2 10 d10 _ rfl).2
    have hM:=(((hM.sure (pre:=[_,_,_]) d5).sure (pre:=[_,_,_,_]) d8).sure (pre:=[_,_,_,_,_]) d11).pull
    obtain ⟨b40,f41,hM⟩:=M.litOpen hM
    have hE:=hE.sub (e':=[(18,v0_1),(23,(ux26 5)),(26,(ux26 8)),(29,(Value.slice (some ⟨b40,0,none⟩) 4 4)),(0,v0_1),(4,(ptr b1 0)),(5,(ptr b11 0)),(7,(ptr b24 0)),(12,v1_1),(13,(vI (p1.length : Int))),(14,vI s16.2),(15,(vT (decide (s16.2 < (p1.length : Int))))),(16,(ptr (sb v1_1) (so v1_1 + (s16.2).toNat * 34))),(17,(Value.agg (enc x21).toArray))]) ⟨lk rfl f0,rfl,rfl,lk rfl f41,rfl,rfl,rfl,rfl,rfl,rfl,rfl,rfl,rfl,rfl,trivial⟩
    obtain ⟨r42,e43,hs17⟩:=bind_some hs17
    refine Zw hE Za ld rfl cb112 (Tg _ p0 v0_1 (hM.rdo hv0_1) ([l27,([Zx x21.Kind] : List UInt8),r32,l35] : (List (List UInt8))) (Value.slice (some ⟨b40,0,none⟩) 4 4) (za (hM.rawAt (pre:=[])) (hM.rawLt (pre:=[])) ⟨(W2 (At.sat (hM.rawAt (pre:=[_,_])) (by simp) (by decide)) e28),(hM.sl (pre:=[_,_,_,_]) noB),(hM.sl (pre:=[_,_,_,_,_]) noB),(W2 (At.sat (At.cat (pre:=[[vI x21.Kind],[vI x21.Number]]) (hM.rawAt (pre:=[_])) (cl1 (n:=1) (m:=1) rfl (cl1 (n:=1) (m:=0) rfl cl0))) (by simp) (by decide)) e36),trivial⟩ rfl) r42 e43) ?_
    rintro v w a ⟨rfl,hK⟩ hE
    have hM:=(hM.keep hK).pull (pre:=[_,_])
    refine Zv (seg:=enc r42) (cs':=enc r42) hE hM Za rfl rfl rfl Yi (Flat.len _) (zle flq) (Flat.cell _) (Zr flq) fun w a hM hE=>Zj (ZZ (Zu (wp_region_lit (Zi hE Za ld rfl rfl rfl fun a hE=>Zd hE Za ld rfl fun a hE=>Zj (Zl ?_)))))
    have hM:=M.fst (l:=[_,_]) ((hM.pull (pre:=[_,_,_])).pull (pre:=[_]))
    exact ⟨_,(ois hs17),hE.sub ⟨rfl,rfl,rfl,rfl,rfl,rfl,trivial⟩,hM⟩
  ·intro hb20
   have hs17:=Zy hs17 hb20
   refine wp_exit (Zm (Zm (Z0 ?_)))
   have ht44:=hx18 _ (ois hs17)
   subst ht44
   refine Zl ?_
   exact ⟨hE.sub ⟨rfl,rfl,trivial⟩,hM⟩
 ·skip
  rintro a w ⟨hE,hM⟩
  refine Zu (Zc (Zo (cs:=enc j13) hE Za ld rfl Yi rfl (hM.rawAt (pre:=[])) (Flat.len _) ?_)); intro a hE
  have hM:=hM.pull (pre:=[_])
  refine Zv (seg:=enc j13) (cs':=enc j13) hE hM Za rfl rfl rfl Yi (Flat.len _) (zle flq) (Flat.cell _) (Zr flq) fun w a hM hE=>Zf ?_
  have hr:=Option.some.inj hF15
  subst hr
  have hq45 : Yx Tryz.prog _ _ (.cell 4 37) _:=ZR hE rfl Yi rfl (hM.rawAt (pre:=[])) (Flat.len _) rfl
  have hM:=M.fst (l:=[]) hM
  exact wp_ret (Zt hE rfl hq45 ⟨_,rfl,rfl,hM.kept⟩)
def Vp (p0 : (Vector UInt8 16)) : Option (GVault) :=
 ((X5).bind fun r13=>(X3 r13 ([] : (List GEvent))).bind fun r16=>some (([p0] : List (Vector UInt8 16)),1,r16) : Option ((List (Vector UInt8 16)) × Int × (Vector UInt8 32))).bind fun j5=>some (⟨j5.1,j5.2.1,[],[],j5.2.2⟩ : GVault)
theorem JE (w0 : World) (p0 : (Vector UInt8 16)) (r : GVault) (hF : Vp p0 = some r) :
  Calls Tryz.prog 16 [(Value.agg (enc p0).toArray)].toArray w0 (fun en w'=>∃ v,en = .returned v ∧ (∃ (y1 : Value) (y2 : Value) (y3 : Value),v = (Value.agg (cat [[y1],[vI r.Next],[y2],[y3],enc r.Head]).toArray) ∧ Fr w0 w' [osl NoB (r.Keys : List (Vector UInt8 16)) y1,osl NoB (r.Records : List GRecord) y2,osl NoB (r.Events : List GEvent) y3] ∧ Kept (Old w0) w0 w')):=by
 refine ZB (n:=8) Tryz.func16 rfl rfl (nbl rfl) rfl ?_
 intro a hE
 have hM:=M.start w0
 unfold Vp at hF
 refine Zc (ZT (cs:=enc p0) hE hM Za ld rfl rfl fun b1 w a hM hE=>ZH hE hM Za ld Qj fun b3 w a hM hE=>Zf ?_)
 obtain ⟨j5,hl6,hF7⟩:=bind_some hF
 refine ZQ (fun a w=>∃ (u8 : Value),Env 8 a [(2,(ptr b3 0))] ∧ M (Old w0) w0 w [raw b3 (cat [[u8],[vI j5.2.1],[(Value.slice none 0 0)],[(Value.slice none 0 0)],enc j5.2.2]),osl NoB (j5.1 : List (Vector UInt8 16)) u8]) ?_ ?_
 ·skip
  obtain ⟨r13,e14,hl6⟩:=bind_some hl6
  obtain ⟨r16,e17,hl6⟩:=bind_some hl6
  refine QF (n:=8) (hd:=[_,_,_,_]) (tl:=[_,_]) (its:=[raw b3 (cat [[(Value.slice none 0 0)],[vI 0],[(Value.slice none 0 0)],[(Value.slice none 0 0)],enc (Vector.replicate 32 (0 : UInt8))]),raw b1 (enc p0)]) YN rfl rfl [3,4,5,6] (by decide) [(1,fun v=>osl NoB (([p0] : List (Vector UInt8 16)) : List (Vector UInt8 16)) v),(2,fun v=>own NoB (r13 : (Ref Gengine)) [v])] rfl (fun j=>([fun v=>v = (Value.agg (enc p0).toArray),fun v=>True,fun v=>True,fun v=>v = (Value.agg (enc r16).toArray)] : List (Value → Prop)).getD j (fun _=>True)) hE hM.drew (ZJ (Zb ?_ (Zb ?_ (Zb ?_ (Zb ?_ ZF))))) ?_
  ·intro a w ux10 D hE hM hD hp
   have hM0:=hM
   have hM : M (Old w0) w0 w [raw b3 (cat [[(Value.slice none 0 0)],[vI 0],[(Value.slice none 0 0)],[(Value.slice none 0 0)],enc (Vector.replicate 32 (0 : UInt8))]),raw b1 (enc p0),opt (D 1) (osl NoB (([p0] : List (Vector UInt8 16)) : List (Vector UInt8 16)) (ux10 1)),opt (D 2) (own NoB (r13 : (Ref Gengine)) [(ux10 2)])]:=hM
   exact Zo (cs:=enc p0) hE Za ld rfl ZG rfl (hM.rawAt (pre:=[_])) (Flat.len _) fun a hE=>⟨_,_,rfl,hE,rfl,hM0.optKeep rfl⟩
  ·intro a w ux10 D hE hM hD hp
   have f0 : ux10 0 = (Value.agg (enc p0).toArray):=(hp 0 _ rfl rfl).2
   have hM0:=hM
   have hM : M (Old w0) w0 w [raw b3 (cat [[(Value.slice none 0 0)],[vI 0],[(Value.slice none 0 0)],[(Value.slice none 0 0)],enc (Vector.replicate 32 (0 : UInt8))]),raw b1 (enc p0),opt (D 1) (osl NoB (([p0] : List (Vector UInt8 16)) : List (Vector UInt8 16)) (ux10 1)),opt (D 2) (own NoB (r13 : (Ref Gengine)) [(ux10 2)])]:=hM
   exact Yj (xs:=[.tmp 3]) (l:=([p0] : List (Vector UInt8 16))) (vs:=[(Value.agg (enc p0).toArray)]) hE hM Za ld (Z7 (Z2 (lk rfl f0) X8)) rfl Tryz.underlying33 ZG rfl (by decide) rfl fun u11 w a hM hE=>⟨_,_,rfl,hE,trivial,M.optFill (mk1:=[]) (mk2:=[_]) (f:=(fun v=>osl NoB (([p0] : List (Vector UInt8 16)) : List (Vector UInt8 16)) v)) hM rfl hD⟩
  ·intro a w ux10 D hE hM hD hp
   have hM0:=hM
   have hM : M (Old w0) w0 w [raw b3 (cat [[(Value.slice none 0 0)],[vI 0],[(Value.slice none 0 0)],[(Value.slice none 0 0)],enc (Vector.replicate 32 (0 : UInt8))]),raw b1 (enc p0),opt (D 1) (osl NoB (([p0] : List (Vector UInt8 16)) : List (Vector UInt8 16)) (ux10 1)),opt (D 2) (own NoB (r13 : (Ref Gengine)) [(ux10 2)])]:=hM
   refine Zw hE Za ld rfl cb46 (Q6 _  r13 e14) ?_
   rintro _ w a ⟨_,rfl,hFr,hK⟩ hE
   have hM:=hM0.add hK hFr
   exact ⟨_,_,rfl,hE,trivial,M.optFill (mk1:=[_]) (mk2:=[]) (f:=(fun v=>own NoB (r13 : (Ref Gengine)) [v])) hM rfl hD⟩
  ·intro a w ux10 D hE hM hD hp
   have d2:=(hp 0 _ rfl rfl).1
   have hM0:=hM
   have hM : M (Old w0) w0 w [raw b3 (cat [[(Value.slice none 0 0)],[vI 0],[(Value.slice none 0 0)],[(Value.slice none 0 0)],enc (Vector.replicate 32 (0 : UInt8))]),raw b1 (enc p0),opt (D 1) (osl NoB (([p0] : List (Vector UInt8 16)) : List (Vector UInt8 16)) (ux10 1)),opt (D 2) (own NoB (r13 : (Ref Gengine)) [(ux10 2)])]:=hM
   have hM:=hM.sure (pre:=[_,_,_]) d2
   refine Zw hE Za ld rfl cb47 (Q7 _ r13 (ux10 2) (hM.ro (pre:=[_,_,_]) noB) ([] : (List GEvent)) (Value.slice none 0 0) yR r16 e17) ?_
   rintro v w a ⟨rfl,hK⟩ hE
   exact ⟨_,_,rfl,hE,rfl,(hM0.keep hK).optKeep rfl⟩
  ·intro a w ux10 hE hM hg
   have hM : M (Old w0) w0 w [raw b3 (cat [[(Value.slice none 0 0)],[vI 0],[(Value.slice none 0 0)],[(Value.slice none 0 0)],enc (Vector.replicate 32 (0 : UInt8))]),raw b1 (enc p0),osl NoB (([p0] : List (Vector UInt8 16)) : List (Vector UInt8 16)) (ux10 1),own NoB (r13 : (Ref Gengine)) [(ux10 2)]]:=hM
   have hE:=hE.sub (e':=[(4,(ux10 1)),(5,(ux10 2)),(6,(Value.agg (enc r16).toArray)),(2,(ptr b3 0))]) ⟨rfl,rfl,lk rfl (hg 3 (by decide)),rfl,trivial⟩
   refine UI (parts:=[(0,.tmp 4),(1,.const (vI 1)),(4,.tmp 6)]) (vs:=[(0,(ux10 1)),(1,vI 1),(4,(Value.agg (enc r16).toArray))]) (cs:=cat [[(ux10 1)],[vI 1],[(Value.slice none 0 0)],[(Value.slice none 0 0)],enc r16]) hE Za ld rfl rfl Qj pl39 (Yl (pre:=[]) (seg:=[(Value.slice none 0 0)]) (seg':=[(ux10 1)]) (post:=[[vI 0],[(Value.slice none 0 0)],[(Value.slice none 0 0)],enc (Vector.replicate 32 (0 : UInt8))]) rfl cl0 rfl rfl (U0 (hM.sl (pre:=[_,_]) noB)) (Yl (pre:=[[(ux10 1)]]) (seg:=[vI 0]) (seg':=[vI 1]) (post:=[[(Value.slice none 0 0)],[(Value.slice none 0 0)],enc (Vector.replicate 32 (0 : UInt8))]) rfl (cl1 (n:=1) (m:=0) rfl cl0) rfl rfl rfl (Yl (pre:=[[(ux10 1)],[vI 1],[(Value.slice none 0 0)],[(Value.slice none 0 0)]]) (seg:=enc (Vector.replicate 32 (0 : UInt8))) (seg':=enc r16) (post:=[]) rfl (cl1 (n:=1) (m:=3) rfl (cl1 (n:=1) (m:=2) rfl (cl1 (n:=1) (m:=1) rfl (cl1 (n:=1) (m:=0) rfl cl0)))) (Flat.len _) (Flat.len _) rfl TC))) fun a hE=>Zv (seg:=cat [[(ux10 1)],[vI 1],[(Value.slice none 0 0)],[(Value.slice none 0 0)],enc r16]) (cs':=cat [[(ux10 1)],[vI 1],[(Value.slice none 0 0)],[(Value.slice none 0 0)],enc r16]) hE hM Za rfl rfl rfl Qj (Zg (cl1 (n:=1) (m:=35) rfl (cl1 (n:=1) (m:=34) rfl (cl1 (n:=1) (m:=33) rfl (cl1 (n:=1) (m:=32) rfl (cl1 (n:=32) (m:=0) (Flat.len _) cl0)))))) (Nat.le_of_eq ((Nat.zero_add _).trans (Eq.trans (Zg (cl1 (n:=1) (m:=35) rfl (cl1 (n:=1) (m:=34) rfl (cl1 (n:=1) (m:=33) rfl (cl1 (n:=1) (m:=32) rfl (cl1 (n:=32) (m:=0) (Flat.len _) cl0)))))) (Eq.symm (Zg (cl1 (n:=1) (m:=35) rfl (cl1 (n:=1) (m:=34) rfl (cl1 (n:=1) (m:=33) rfl (cl1 (n:=1) (m:=32) rfl (cl1 (n:=32) (m:=0) (Flat.len _) cl0)))))))))) (ZV (cc1 (Rep.cell (hM.sl (pre:=[_,_]) noB)) (cc1 (Flat.cell (1 : Int)) (cc1 UB (cc1 UB (cc1 (Flat.cell _) cc0)))))) (Zr (Eq.trans (Zg (cl1 (n:=1) (m:=35) rfl (cl1 (n:=1) (m:=34) rfl (cl1 (n:=1) (m:=33) rfl (cl1 (n:=1) (m:=32) rfl (cl1 (n:=32) (m:=0) (Flat.len _) cl0)))))) (Eq.symm (Zg (cl1 (n:=1) (m:=35) rfl (cl1 (n:=1) (m:=34) rfl (cl1 (n:=1) (m:=33) rfl (cl1 (n:=1) (m:=32) rfl (cl1 (n:=32) (m:=0) (Flat.len _) cl0))))))))) fun w a hM hE=>Zj ?_
   have ht18:=Option.some.inj hl6
   subst ht18
   refine Zl ?_
   have hM:=M.fst (l:=[_,_]) ((hM.pull (pre:=[_,_])).pull (pre:=[_]))
   exact ⟨(ux10 1),hE.sub ⟨rfl,trivial⟩,hM⟩
 ·skip
  rintro a w ⟨u8,hE,hM⟩
  have hM:=M.nilS (α:=GEvent) NoB noB (M.nilS (α:=GRecord) NoB noB hM)
  have hr:=Option.some.inj hF7
  subst hr
  have hq21 : Yx Tryz.prog _ _ (.cell 2 39) _:=ZR hE rfl Qj rfl (hM.rawAt (pre:=[_,_])) (Zg (cl1 (n:=1) (m:=35) rfl (cl1 (n:=1) (m:=34) rfl (cl1 (n:=1) (m:=33) rfl (cl1 (n:=1) (m:=32) rfl (cl1 (n:=32) (m:=0) (Flat.len _) cl0)))))) rfl
  have hM:=M.fst (l:=[_,_,_]) ((hM.pull (pre:=[_])).pull (pre:=[_,_,_]))
  exact wp_ret (Zt hE rfl hq21 ⟨_,rfl,u8,(Value.slice none 0 0),(Value.slice none 0 0),rfl,hM.outF (YL (YL (YL VT))),hM.kept⟩)
def WS : Option (GDesk) :=
 (Y7 6).bind fun r3=>(Vp (Vector.replicate 16 (0 : UInt8))).bind fun r5=>some (⟨r3,(Vector.replicate 16 (0 : UInt8)),(Vector.replicate 16 (0 : UInt8)),[],r5,(⟨[],[],[]⟩ : GBlobs)⟩ : GDesk)
theorem QA (w0 : World)  (r : GDesk) (hF : WS  = some r) :
  Calls Tryz.prog 6 [].toArray w0 (fun en w'=>∃ v,en = .returned v ∧ (∃ (y1 : Value) (y2 : Value) (y3 : Value) (y4 : Value) (y5 : Value) (y6 : Value) (y7 : Value),v = (Value.agg (cat [cat [[vI r.Cipher.Field],enc r.Cipher.Box,enc r.Cipher.Mix,enc r.Cipher.Places,[vI r.Cipher.Rounds]],enc r.Key,enc r.Start,[y1],cat [[y2],[vI r.Vault.Next],[y3],[y4],enc r.Vault.Head],cat [[y5],[y6],[y7]]]).toArray) ∧ Fr w0 w' [osl NoB (r.Data : List UInt8) y1,osl NoB (r.Vault.Keys : List (Vector UInt8 16)) y2,osl NoB (r.Vault.Records : List GRecord) y3,osl NoB (r.Vault.Events : List GEvent) y4,osl NoB (r.Blobs.Keys : List (Vector UInt8 32)) y5,osl NoB (r.Blobs.Data : List (List UInt8)) y6,osl NoB (r.Blobs.Counts : List Int) y7] ∧ Kept (Old w0) w0 w')):=by
 refine ZB (n:=5) Tryz.func6 rfl rfl (nbl rfl) rfl ?_
 intro a hE
 have hM:=M.start w0
 unfold WS at hF
 refine Zc (ZH hE hM Za ld UT fun b1 w a hM hE=>Zf (Zc ?_))
 obtain ⟨r3,e4,hF⟩:=bind_some hF
 refine Zw hE Za ld rfl cb15 (TB _ 6 r3 e4) ?_
 rintro v w a ⟨rfl,hK⟩ hE
 have hM:=hM.keep hK
 refine YT (parts:=[]) (vs:=[]) (cs:=enc (Vector.replicate 16 (0 : UInt8))) hE Za ld rfl rfl ZG rfl ty5 Yw ?_; intro a hE
 obtain ⟨r5,e6,hF⟩:=bind_some hF
 refine Zw hE Za ld rfl cb16 (JE _ (Vector.replicate 16 (0 : UInt8)) r5 e6) ?_
 rintro v w a ⟨u7,u8,u9,rfl,hFr,hK⟩ hE
 have hM:=hM.add hK hFr
 refine UI (parts:=[(0,.tmp 1),(4,.tmp 3)]) (vs:=[(0,(Value.agg (enc r3).toArray)),(4,(Value.agg (cat [[u7],[vI r5.Next],[u8],[u9],enc r5.Head]).toArray))]) (cs:=cat [cat [[vI r3.Field],enc r3.Box,enc r3.Mix,enc r3.Places,[vI r3.Rounds]],enc (Vector.replicate 16 (0 : UInt8)),enc (Vector.replicate 16 (0 : UInt8)),[(Value.slice none 0 0)],cat [[u7],[vI r5.Next],[u8],[u9],enc r5.Head],cat [[(Value.slice none 0 0)],[(Value.slice none 0 0)],[(Value.slice none 0 0)]]]) hE Za ld rfl rfl UT pl46 (Yl (pre:=[]) (seg:=cat [[vI 0],enc (Vector.replicate 256 (0 : UInt8)),enc (Vector.replicate 4 (Vector.replicate 4 (0 : UInt8))),enc (Vector.replicate 16 (0 : UInt8)),[vI 0]]) (seg':=cat [[vI r3.Field],enc r3.Box,enc r3.Mix,enc r3.Places,[vI r3.Rounds]]) (post:=[enc (Vector.replicate 16 (0 : UInt8)),enc (Vector.replicate 16 (0 : UInt8)),[(Value.slice none 0 0)],cat [[(Value.slice none 0 0)],[vI 0],[(Value.slice none 0 0)],[(Value.slice none 0 0)],enc (Vector.replicate 32 (0 : UInt8))],cat [[(Value.slice none 0 0)],[(Value.slice none 0 0)],[(Value.slice none 0 0)]]]) rfl cl0 (Zg (cl1 (n:=1) (m:=289) rfl (cl1 (n:=256) (m:=33) (Flat.len _) (cl1 (n:=16) (m:=17) (Flat.len _) (cl1 (n:=16) (m:=1) (Flat.len _) (cl1 (n:=1) (m:=0) rfl cl0)))))) (Zg (cl1 (n:=1) (m:=289) rfl (cl1 (n:=256) (m:=33) (Flat.len _) (cl1 (n:=16) (m:=17) (Flat.len _) (cl1 (n:=16) (m:=1) (Flat.len _) (cl1 (n:=1) (m:=0) rfl cl0)))))) rfl (Yl (pre:=[cat [[vI r3.Field],enc r3.Box,enc r3.Mix,enc r3.Places,[vI r3.Rounds]],enc (Vector.replicate 16 (0 : UInt8)),enc (Vector.replicate 16 (0 : UInt8)),[(Value.slice none 0 0)]]) (seg:=cat [[(Value.slice none 0 0)],[vI 0],[(Value.slice none 0 0)],[(Value.slice none 0 0)],enc (Vector.replicate 32 (0 : UInt8))]) (seg':=cat [[u7],[vI r5.Next],[u8],[u9],enc r5.Head]) (post:=[cat [[(Value.slice none 0 0)],[(Value.slice none 0 0)],[(Value.slice none 0 0)]]]) rfl (cl1 (n:=290) (m:=33) (Zg (cl1 (n:=1) (m:=289) rfl (cl1 (n:=256) (m:=33) (Flat.len _) (cl1 (n:=16) (m:=17) (Flat.len _) (cl1 (n:=16) (m:=1) (Flat.len _) (cl1 (n:=1) (m:=0) rfl cl0)))))) (cl1 (n:=16) (m:=17) (Flat.len _) (cl1 (n:=16) (m:=1) (Flat.len _) (cl1 (n:=1) (m:=0) rfl cl0)))) (Zg (cl1 (n:=1) (m:=35) rfl (cl1 (n:=1) (m:=34) rfl (cl1 (n:=1) (m:=33) rfl (cl1 (n:=1) (m:=32) rfl (cl1 (n:=32) (m:=0) (Flat.len _) cl0)))))) (Zg (cl1 (n:=1) (m:=35) rfl (cl1 (n:=1) (m:=34) rfl (cl1 (n:=1) (m:=33) rfl (cl1 (n:=1) (m:=32) rfl (cl1 (n:=32) (m:=0) (Flat.len _) cl0)))))) rfl TC)) ?_; intro a hE
 have hM:=hM.pull (pre:=[_,_,_])
 refine Zv (seg:=cat [cat [[vI r3.Field],enc r3.Box,enc r3.Mix,enc r3.Places,[vI r3.Rounds]],enc (Vector.replicate 16 (0 : UInt8)),enc (Vector.replicate 16 (0 : UInt8)),[(Value.slice none 0 0)],cat [[u7],[vI r5.Next],[u8],[u9],enc r5.Head],cat [[(Value.slice none 0 0)],[(Value.slice none 0 0)],[(Value.slice none 0 0)]]]) (cs':=cat [cat [[vI r3.Field],enc r3.Box,enc r3.Mix,enc r3.Places,[vI r3.Rounds]],enc (Vector.replicate 16 (0 : UInt8)),enc (Vector.replicate 16 (0 : UInt8)),[(Value.slice none 0 0)],cat [[u7],[vI r5.Next],[u8],[u9],enc r5.Head],cat [[(Value.slice none 0 0)],[(Value.slice none 0 0)],[(Value.slice none 0 0)]]]) hE hM Za rfl rfl rfl UT (Zg (cl1 (n:=290) (m:=72) (Zg (cl1 (n:=1) (m:=289) rfl (cl1 (n:=256) (m:=33) (Flat.len _) (cl1 (n:=16) (m:=17) (Flat.len _) (cl1 (n:=16) (m:=1) (Flat.len _) (cl1 (n:=1) (m:=0) rfl cl0)))))) (cl1 (n:=16) (m:=56) (Flat.len _) (cl1 (n:=16) (m:=40) (Flat.len _) (cl1 (n:=1) (m:=39) rfl (cl1 (n:=36) (m:=3) (Zg (cl1 (n:=1) (m:=35) rfl (cl1 (n:=1) (m:=34) rfl (cl1 (n:=1) (m:=33) rfl (cl1 (n:=1) (m:=32) rfl (cl1 (n:=32) (m:=0) (Flat.len _) cl0)))))) (cl1 (n:=3) (m:=0) (Zg (cl1 (n:=1) (m:=2) rfl (cl1 (n:=1) (m:=1) rfl (cl1 (n:=1) (m:=0) rfl cl0)))) cl0))))))) (Nat.le_of_eq ((Nat.zero_add _).trans (Eq.trans (Zg (cl1 (n:=290) (m:=72) (Zg (cl1 (n:=1) (m:=289) rfl (cl1 (n:=256) (m:=33) (Flat.len _) (cl1 (n:=16) (m:=17) (Flat.len _) (cl1 (n:=16) (m:=1) (Flat.len _) (cl1 (n:=1) (m:=0) rfl cl0)))))) (cl1 (n:=16) (m:=56) (Flat.len _) (cl1 (n:=16) (m:=40) (Flat.len _) (cl1 (n:=1) (m:=39) rfl (cl1 (n:=36) (m:=3) (Zg (cl1 (n:=1) (m:=35) rfl (cl1 (n:=1) (m:=34) rfl (cl1 (n:=1) (m:=33) rfl (cl1 (n:=1) (m:=32) rfl (cl1 (n:=32) (m:=0) (Flat.len _) cl0)))))) (cl1 (n:=3) (m:=0) (Zg (cl1 (n:=1) (m:=2) rfl (cl1 (n:=1) (m:=1) rfl (cl1 (n:=1) (m:=0) rfl cl0)))) cl0))))))) (Eq.symm (Zg (cl1 (n:=290) (m:=72) (Zg (cl1 (n:=1) (m:=289) rfl (cl1 (n:=256) (m:=33) (Flat.len _) (cl1 (n:=16) (m:=17) (Flat.len _) (cl1 (n:=16) (m:=1) (Flat.len _) (cl1 (n:=1) (m:=0) rfl cl0)))))) (cl1 (n:=16) (m:=56) (Flat.len _) (cl1 (n:=16) (m:=40) (Flat.len _) (cl1 (n:=1) (m:=39) rfl (cl1 (n:=36) (m:=3) (Zg (cl1 (n:=1) (m:=35) rfl (cl1 (n:=1) (m:=34) rfl (cl1 (n:=1) (m:=33) rfl (cl1 (n:=1) (m:=32) rfl (cl1 (n:=32) (m:=0) (Flat.len _) cl0)))))) (cl1 (n:=3) (m:=0) (Zg (cl1 (n:=1) (m:=2) rfl (cl1 (n:=1) (m:=1) rfl (cl1 (n:=1) (m:=0) rfl cl0)))) cl0))))))))))) (ZV (cc1 (ZV (cc1 (Flat.cell (r3.Field : Int)) (cc1 (Flat.cell _) (cc1 (Flat.cell _) (cc1 (Flat.cell _) (cc1 (Flat.cell (r3.Rounds : Int)) cc0)))))) (cc1 (Flat.cell _) (cc1 (Flat.cell _) (cc1 UB (cc1 (ZV (cc1 (Rep.cell (hM.sl (pre:=[_]) noB)) (cc1 (Flat.cell (r5.Next : Int)) (cc1 (Rep.cell (hM.sl (pre:=[_,_]) noB)) (cc1 (Rep.cell (hM.sl (pre:=[_,_,_]) noB)) (cc1 (Flat.cell _) cc0)))))) (cc1 (ZV (cc1 UB (cc1 UB (cc1 UB cc0)))) cc0))))))) (Zr (Eq.trans (Zg (cl1 (n:=290) (m:=72) (Zg (cl1 (n:=1) (m:=289) rfl (cl1 (n:=256) (m:=33) (Flat.len _) (cl1 (n:=16) (m:=17) (Flat.len _) (cl1 (n:=16) (m:=1) (Flat.len _) (cl1 (n:=1) (m:=0) rfl cl0)))))) (cl1 (n:=16) (m:=56) (Flat.len _) (cl1 (n:=16) (m:=40) (Flat.len _) (cl1 (n:=1) (m:=39) rfl (cl1 (n:=36) (m:=3) (Zg (cl1 (n:=1) (m:=35) rfl (cl1 (n:=1) (m:=34) rfl (cl1 (n:=1) (m:=33) rfl (cl1 (n:=1) (m:=32) rfl (cl1 (n:=32) (m:=0) (Flat.len _) cl0)))))) (cl1 (n:=3) (m:=0) (Zg (cl1 (n:=1) (m:=2) rfl (cl1 (n:=1) (m:=1) rfl (cl1 (n:=1) (m:=0) rfl cl0)))) cl0))))))) (Eq.symm (Zg (cl1 (n:=290) (m:=72) (Zg (cl1 (n:=1) (m:=289) rfl (cl1 (n:=256) (m:=33) (Flat.len _) (cl1 (n:=16) (m:=17) (Flat.len _) (cl1 (n:=16) (m:=1) (Flat.len _) (cl1 (n:=1) (m:=0) rfl cl0)))))) (cl1 (n:=16) (m:=56) (Flat.len _) (cl1 (n:=16) (m:=40) (Flat.len _) (cl1 (n:=1) (m:=39) rfl (cl1 (n:=36) (m:=3) (Zg (cl1 (n:=1) (m:=35) rfl (cl1 (n:=1) (m:=34) rfl (cl1 (n:=1) (m:=33) rfl (cl1 (n:=1) (m:=32) rfl (cl1 (n:=32) (m:=0) (Flat.len _) cl0)))))) (cl1 (n:=3) (m:=0) (Zg (cl1 (n:=1) (m:=2) rfl (cl1 (n:=1) (m:=1) rfl (cl1 (n:=1) (m:=0) rfl cl0)))) cl0)))))))))) fun w a hM hE=>Zf ?_
 have hM:=M.nilS (α:=Int) NoB noB (M.nilS (α:=(List UInt8)) NoB noB (M.nilS (α:=(Vector UInt8 32)) NoB noB (M.nilS (α:=UInt8) NoB noB hM)))
 have hr:=Option.some.inj hF
 subst hr
 have hq14 : Yx Tryz.prog _ _ (.cell 0 46) _:=ZR hE rfl UT rfl (hM.rawAt (pre:=[_,_,_,_])) (Zg (cl1 (n:=290) (m:=72) (Zg (cl1 (n:=1) (m:=289) rfl (cl1 (n:=256) (m:=33) (Flat.len _) (cl1 (n:=16) (m:=17) (Flat.len _) (cl1 (n:=16) (m:=1) (Flat.len _) (cl1 (n:=1) (m:=0) rfl cl0)))))) (cl1 (n:=16) (m:=56) (Flat.len _) (cl1 (n:=16) (m:=40) (Flat.len _) (cl1 (n:=1) (m:=39) rfl (cl1 (n:=36) (m:=3) (Zg (cl1 (n:=1) (m:=35) rfl (cl1 (n:=1) (m:=34) rfl (cl1 (n:=1) (m:=33) rfl (cl1 (n:=1) (m:=32) rfl (cl1 (n:=32) (m:=0) (Flat.len _) cl0)))))) (cl1 (n:=3) (m:=0) (Zg (cl1 (n:=1) (m:=2) rfl (cl1 (n:=1) (m:=1) rfl (cl1 (n:=1) (m:=0) rfl cl0)))) cl0))))))) rfl
 have hM:=M.fst (l:=[_,_,_,_,_,_,_]) ((((((hM.pull (pre:=[_])).pull (pre:=[_,_])).pull (pre:=[_,_,_,_,_,_,_])).pull (pre:=[_,_,_,_,_,_,_])).pull (pre:=[_,_,_,_,_,_,_])).pull (pre:=[_,_,_,_,_,_]))
 exact wp_ret (Zt hE rfl hq14 ⟨_,rfl,(Value.slice none 0 0),u7,u8,u9,(Value.slice none 0 0),(Value.slice none 0 0),(Value.slice none 0 0),rfl,hM.outF (YL (YL (YL (YL (YL (YL (YL VT))))))),hM.kept⟩)
def Tc (p0 : (Vector UInt8 256)) (p1 : (Vector UInt8 256)) (s9 : Int) : Option (Fl Int (Fl Unit Bool)) :=
 if (decide (s9 < 256)) = true then (((ZI p0 s9).bind fun x19=>(ZI p1 s9).bind fun x22=>some (x19 != x22) : Option (Bool)).bind fun j14=>if j14 = true then (some (Fl.ex (Fl.ex false))) else (some (Fl.nx (wr (s9 + 1))))) else (some (Fl.ex (Fl.nx ())))
def U1 (p0 : (Vector UInt8 256)) (p1 : (Vector UInt8 256)) : Option (Bool) :=
 (ZE (Tc p0 p1) 0).bind fun j5=>j5.el (fun s8=>some true) (fun r=>some r)
theorem BT (w0 : World) (p0 : (Vector UInt8 256)) (p1 : (Vector UInt8 256)) (r : Bool) (hF : U1 p0 p1 = some r) :
  Calls Tryz.prog 48 [(Value.agg (enc p0).toArray),(Value.agg (enc p1).toArray)].toArray w0 (fun en w'=>∃ v,en = .returned v ∧ (v = (vT r) ∧ Kept (Old w0) w0 w')):=by
 refine ZB (n:=17) Tryz.func48 rfl rfl (nbl rfl) rfl ?_
 intro a hE
 have hM:=M.start w0
 unfold U1 at hF
 refine Zc (ZT (cs:=enc p0) hE hM Za ld rfl rfl fun b1 w a hM hE=>ZT (cs:=enc p1) hE hM Za ld rfl rfl fun b3 w a hM hE=>Ze hE Za ld rfl fun a hE=>Zf (wp_seq (Zc (Ze hE Za ld rfl fun a hE=>Zf ?_))))
 obtain ⟨j5,hl6,hF7⟩:=bind_some hF
 refine ZL (fun a w=>∃ s8 : Unit,j5 = Fl.nx s8 ∧ Env 17 a [] ∧ M (Old w0) w0 w []) ?_ ?_
 ·skip
  refine wp_block ?_
  refine ZC (fun (s9 : Int) a w=>Env 17 a [(2,(ptr b1 0)),(3,(ptr b3 0)),(5,vI s9)] ∧ M (Old w0) w0 w [raw b3 (enc p1),raw b1 (enc p0)]) hl6 ⟨hE.sub ⟨rfl,rfl,rfl,trivial⟩,hM⟩ ?_
  rintro s9 a w ⟨hE,hM⟩ o12 hs10 hx11
  unfold Tc at hs10
  refine wp_seq (Zc (Zd hE Za ld rfl fun a hE=>Zi hE Za ld rfl rfl rfl fun a hE=>Zf ?_))
  refine Zp hE rfl ?_ ?_
  ·intro hb13
   have hs10:=Zz hs10 hb13
   refine wp_skip (Zu (wp_seq (wp_block ?_)))
   obtain ⟨j14,hl15,hF16⟩:=bind_some hs10
   refine ZQ (fun a w=>Env 17 a [(2,(ptr b1 0)),(3,(ptr b3 0)),(5,vI s9),(16,vT j14)] ∧ M (Old w0) w0 w [raw b3 (enc p1),raw b1 (enc p0)]) ?_ ?_
   ·skip
    obtain ⟨x19,hi18,hl15⟩:=bvx hl15
    obtain ⟨x22,hi21,hl15⟩:=bvx hl15
    refine Yg (n:=17) (hd:=[_,_,_,_,_,_,_]) (tl:=[]) YN rfl rfl [10,11,12,13,14,15,16] (by decide) (fun w=>M (Old w0) w0 w [raw b3 (enc p1),raw b1 (enc p0)]) (fun j=>([fun v _=>v = (vI s9),fun v _=>v = (ptr b1 (0 + (s9).toNat * 1)),fun v _=>v = (vB x19),fun v _=>v = (vI s9),fun v _=>v = (ptr b3 (0 + (s9).toNat * 1)),fun v _=>v = (vB x22),fun v _=>v = (vT (x19 != x22))] : List (Value → World → Prop)).getD j (fun _ _=>True)) (fun _ _ h hk=>h.keep hk) (gup (Zn (Zn (Zn (Zn (Zn (Zn (Zn Vb)))))))) hE hM.drew (ZJ (Zb ?_ (Zb ?_ (Zb ?_ (Zb ?_ (Zb ?_ (Zb ?_ (Zb ?_ ZF)))))))) ?_
    ·exact fun a w ux17 hE hM hp=>Zd hE Za ld rfl fun a hE=>⟨Kept.refl _ _,_,_,rfl,hE,rfl⟩
    ·intro a w ux17 hE hM hp
     have f0 : ux17 0 = (vI s9):=hp 0 _ rfl rfl
     exact Zk hE Za ld rfl (lk rfl f0) Tryz.underlying23 ty5 hi18.1 fun a hE=>⟨Kept.refl _ _,_,_,rfl,hE,rfl⟩
    ·intro a w ux17 hE hM hp
     have f1 : ux17 1 = (ptr b1 (0 + (s9).toNat * 1)):=hp 0 _ rfl rfl
     exact ZA (v:=(vB x19)) hE Za ld (lk rfl f1) ty5 rfl (At.vec (hM.rawAt (pre:=[_])) hi18.2) fun a hE=>⟨Kept.refl _ _,_,_,rfl,hE,rfl⟩
    ·exact fun a w ux17 hE hM hp=>Zd hE Za ld rfl fun a hE=>⟨Kept.refl _ _,_,_,rfl,hE,rfl⟩
    ·intro a w ux17 hE hM hp
     have f3 : ux17 3 = (vI s9):=hp 0 _ rfl rfl
     exact Zk hE Za ld rfl (lk rfl f3) Tryz.underlying23 ty5 hi21.1 fun a hE=>⟨Kept.refl _ _,_,_,rfl,hE,rfl⟩
    ·intro a w ux17 hE hM hp
     have f4 : ux17 4 = (ptr b3 (0 + (s9).toNat * 1)):=hp 0 _ rfl rfl
     exact ZA (v:=(vB x22)) hE Za ld (lk rfl f4) ty5 rfl (At.vec (hM.rawAt (pre:=[])) hi21.2) fun a hE=>⟨Kept.refl _ _,_,_,rfl,hE,rfl⟩
    ·intro a w ux17 hE hM hp
     have f2 : ux17 2 = (vB x19):=hp 0 _ rfl rfl
     have f5 : ux17 5 = (vB x22):=hp 1 _ rfl rfl
     exact Zi hE Za ld (lk rfl f2) (lk rfl f5) (U8 x19 x22) fun a hE=>⟨Kept.refl _ _,_,_,rfl,hE,rfl⟩
    ·intro a w ux17 hE hM hg
     have hE:=hE.sub (e':=[(16,(vT (x19 != x22))),(2,(ptr b1 0)),(3,(ptr b3 0)),(5,vI s9),(6,vI s9),(7,(vT (decide (s9 < 256))))]) ⟨lk rfl (hg 6 (by decide)),rfl,rfl,rfl,rfl,rfl,trivial⟩
     refine Zj ?_
     have ht24:=Option.some.inj hl15
     subst ht24
     refine Zl ?_
     exact ⟨hE.sub ⟨rfl,rfl,rfl,rfl,trivial⟩,hM⟩
   ·skip
    rintro a w ⟨hE,hM⟩
    refine Zp hE rfl ?_ ?_
    ·intro hb25
     have hF16:=Zz hF16 hb25
     refine Zc (Ze hE Za ld rfl fun a hE=>Zf ?_)
     have ht26:=hx11 _ (ois hF16)
     subst ht26
     have hr:=Option.some.inj hF7
     subst hr
     have hM:=M.fst (l:=[]) hM
     exact wp_ret (Z1 (Zq (Zq (Z1 (Zq (Zq (Zt hE rfl (Zs hE rfl) ⟨_,rfl,rfl,hM.kept⟩)))))))
    ·intro hb25
     have hF16:=Zy hF16 hb25
     refine wp_skip (ZZ (Zu (wp_region_lit (Zd hE Za ld rfl fun a hE=>Zi hE Za ld rfl rfl rfl fun a hE=>Ze hE Za ld rfl fun a hE=>Zj (Zl ?_)))))
     exact ⟨_,(ois hF16),hE.sub ⟨rfl,rfl,rfl,trivial⟩,hM⟩
  ·intro hb13
   have hs10:=Zy hs10 hb13
   refine wp_exit (Zm (Zm (Z0 ?_)))
   have ht27:=hx11 _ (ois hs10)
   subst ht27
   refine Zl ?_
   have hM:=M.fst (l:=[]) hM
   exact ⟨(),rfl,hE.sub trivial,hM⟩
 ·skip
  rintro a w ⟨s8,ht,hE,hM⟩
  subst ht
  have hF7:=Va hF7
  refine Zu (Zc (Ze hE Za ld rfl fun a hE=>Zf ?_))
  have hr:=Option.some.inj hF7
  subst hr
  exact wp_ret (Zt hE rfl (Zs hE rfl) ⟨_,rfl,rfl,hM.kept⟩)
def Uo (p0 : (Vector UInt8 4)) (p1 : (Vector UInt8 4)) (s9 : Int) : Option (Fl Int (Fl Unit Bool)) :=
 if (decide (s9 < 4)) = true then (((ZI p0 s9).bind fun x19=>(ZI p1 s9).bind fun x22=>some (x19 != x22) : Option (Bool)).bind fun j14=>if j14 = true then (some (Fl.ex (Fl.ex false))) else (some (Fl.nx (wr (s9 + 1))))) else (some (Fl.ex (Fl.nx ())))
def Vu (p0 : (Vector UInt8 4)) (p1 : (Vector UInt8 4)) : Option (Bool) :=
 (ZE (Uo p0 p1) 0).bind fun j5=>j5.el (fun s8=>some true) (fun r=>some r)
theorem JN (w0 : World) (p0 : (Vector UInt8 4)) (p1 : (Vector UInt8 4)) (r : Bool) (hF : Vu p0 p1 = some r) :
  Calls Tryz.prog 114 [(Value.agg (enc p0).toArray),(Value.agg (enc p1).toArray)].toArray w0 (fun en w'=>∃ v,en = .returned v ∧ (v = (vT r) ∧ Kept (Old w0) w0 w')):=by
 refine ZB (n:=17) Tryz.func114 rfl rfl (nbl rfl) rfl ?_
 intro a hE
 have hM:=M.start w0
 unfold Vu at hF
 refine Zc (ZT (cs:=enc p0) hE hM Za ld rfl rfl fun b1 w a hM hE=>ZT (cs:=enc p1) hE hM Za ld rfl rfl fun b3 w a hM hE=>Ze hE Za ld rfl fun a hE=>Zf (wp_seq (Zc (Ze hE Za ld rfl fun a hE=>Zf ?_))))
 obtain ⟨j5,hl6,hF7⟩:=bind_some hF
 refine ZL (fun a w=>∃ s8 : Unit,j5 = Fl.nx s8 ∧ Env 17 a [] ∧ M (Old w0) w0 w []) ?_ ?_
 ·skip
  refine wp_block ?_
  refine ZC (fun (s9 : Int) a w=>Env 17 a [(2,(ptr b1 0)),(3,(ptr b3 0)),(5,vI s9)] ∧ M (Old w0) w0 w [raw b3 (enc p1),raw b1 (enc p0)]) hl6 ⟨hE.sub ⟨rfl,rfl,rfl,trivial⟩,hM⟩ ?_
  rintro s9 a w ⟨hE,hM⟩ o12 hs10 hx11
  unfold Uo at hs10
  refine wp_seq (Zc (Zd hE Za ld rfl fun a hE=>Zi hE Za ld rfl rfl rfl fun a hE=>Zf ?_))
  refine Zp hE rfl ?_ ?_
  ·intro hb13
   have hs10:=Zz hs10 hb13
   refine wp_skip (Zu (wp_seq (wp_block ?_)))
   obtain ⟨j14,hl15,hF16⟩:=bind_some hs10
   refine ZQ (fun a w=>Env 17 a [(2,(ptr b1 0)),(3,(ptr b3 0)),(5,vI s9),(16,vT j14)] ∧ M (Old w0) w0 w [raw b3 (enc p1),raw b1 (enc p0)]) ?_ ?_
   ·skip
    obtain ⟨x19,hi18,hl15⟩:=bvx hl15
    obtain ⟨x22,hi21,hl15⟩:=bvx hl15
    refine Yg (n:=17) (hd:=[_,_,_,_,_,_,_]) (tl:=[]) YN rfl rfl [10,11,12,13,14,15,16] (by decide) (fun w=>M (Old w0) w0 w [raw b3 (enc p1),raw b1 (enc p0)]) (fun j=>([fun v _=>v = (vI s9),fun v _=>v = (ptr b1 (0 + (s9).toNat * 1)),fun v _=>v = (vB x19),fun v _=>v = (vI s9),fun v _=>v = (ptr b3 (0 + (s9).toNat * 1)),fun v _=>v = (vB x22),fun v _=>v = (vT (x19 != x22))] : List (Value → World → Prop)).getD j (fun _ _=>True)) (fun _ _ h hk=>h.keep hk) (gup (Zn (Zn (Zn (Zn (Zn (Zn (Zn Vb)))))))) hE hM.drew (ZJ (Zb ?_ (Zb ?_ (Zb ?_ (Zb ?_ (Zb ?_ (Zb ?_ (Zb ?_ ZF)))))))) ?_
    ·exact fun a w ux17 hE hM hp=>Zd hE Za ld rfl fun a hE=>⟨Kept.refl _ _,_,_,rfl,hE,rfl⟩
    ·intro a w ux17 hE hM hp
     have f0 : ux17 0 = (vI s9):=hp 0 _ rfl rfl
     exact Zk hE Za ld rfl (lk rfl f0) Tryz.underlying24 ty5 hi18.1 fun a hE=>⟨Kept.refl _ _,_,_,rfl,hE,rfl⟩
    ·intro a w ux17 hE hM hp
     have f1 : ux17 1 = (ptr b1 (0 + (s9).toNat * 1)):=hp 0 _ rfl rfl
     exact ZA (v:=(vB x19)) hE Za ld (lk rfl f1) ty5 rfl (At.vec (hM.rawAt (pre:=[_])) hi18.2) fun a hE=>⟨Kept.refl _ _,_,_,rfl,hE,rfl⟩
    ·exact fun a w ux17 hE hM hp=>Zd hE Za ld rfl fun a hE=>⟨Kept.refl _ _,_,_,rfl,hE,rfl⟩
    ·intro a w ux17 hE hM hp
     have f3 : ux17 3 = (vI s9):=hp 0 _ rfl rfl
     exact Zk hE Za ld rfl (lk rfl f3) Tryz.underlying24 ty5 hi21.1 fun a hE=>⟨Kept.refl _ _,_,_,rfl,hE,rfl⟩
    ·intro a w ux17 hE hM hp
     have f4 : ux17 4 = (ptr b3 (0 + (s9).toNat * 1)):=hp 0 _ rfl rfl
     exact ZA (v:=(vB x22)) hE Za ld (lk rfl f4) ty5 rfl (At.vec (hM.rawAt (pre:=[])) hi21.2) fun a hE=>⟨Kept.refl _ _,_,_,rfl,hE,rfl⟩
    ·intro a w ux17 hE hM hp
     have f2 : ux17 2 = (vB x19):=hp 0 _ rfl rfl
     have f5 : ux17 5 = (vB x22):=hp 1 _ rfl rfl
     exact Zi hE Za ld (lk rfl f2) (lk rfl f5) (U8 x19 x22) fun a hE=>⟨Kept.refl _ _,_,_,rfl,hE,rfl⟩
    ·intro a w ux17 hE hM hg
     have hE:=hE.sub (e':=[(16,(vT (x19 != x22))),(2,(ptr b1 0)),(3,(ptr b3 0)),(5,vI s9),(6,vI s9),(7,(vT (decide (s9 < 4))))]) ⟨lk rfl (hg 6 (by decide)),rfl,rfl,rfl,rfl,rfl,trivial⟩
     refine Zj ?_
     have ht24:=Option.some.inj hl15
     subst ht24
     refine Zl ?_
     exact ⟨hE.sub ⟨rfl,rfl,rfl,rfl,trivial⟩,hM⟩
   ·skip
    rintro a w ⟨hE,hM⟩
    refine Zp hE rfl ?_ ?_
    ·intro hb25
     have hF16:=Zz hF16 hb25
     refine Zc (Ze hE Za ld rfl fun a hE=>Zf ?_)
     have ht26:=hx11 _ (ois hF16)
     subst ht26
     have hr:=Option.some.inj hF7
     subst hr
     have hM:=M.fst (l:=[]) hM
     exact wp_ret (Z1 (Zq (Zq (Z1 (Zq (Zq (Zt hE rfl (Zs hE rfl) ⟨_,rfl,rfl,hM.kept⟩)))))))
    ·intro hb25
     have hF16:=Zy hF16 hb25
     refine wp_skip (ZZ (Zu (wp_region_lit (Zd hE Za ld rfl fun a hE=>Zi hE Za ld rfl rfl rfl fun a hE=>Ze hE Za ld rfl fun a hE=>Zj (Zl ?_)))))
     exact ⟨_,(ois hF16),hE.sub ⟨rfl,rfl,rfl,trivial⟩,hM⟩
  ·intro hb13
   have hs10:=Zy hs10 hb13
   refine wp_exit (Zm (Zm (Z0 ?_)))
   have ht27:=hx11 _ (ois hs10)
   subst ht27
   refine Zl ?_
   have hM:=M.fst (l:=[]) hM
   exact ⟨(),rfl,hE.sub trivial,hM⟩
 ·skip
  rintro a w ⟨s8,ht,hE,hM⟩
  subst ht
  have hF7:=Va hF7
  refine Zu (Zc (Ze hE Za ld rfl fun a hE=>Zf ?_))
  have hr:=Option.some.inj hF7
  subst hr
  exact wp_ret (Zt hE rfl (Zs hE rfl) ⟨_,rfl,rfl,hM.kept⟩)
def XS (p0 : (Vector (Vector UInt8 4) 4)) (p1 : (Vector (Vector UInt8 4) 4)) (s9 : Int) : Option (Fl Int (Fl Unit Bool)) :=
 if (decide (s9 < 4)) = true then (((ZI p0 s9).bind fun x19=>(ZI p1 s9).bind fun x22=>(Vu x19 x22).bind fun r24=>some (!r24) : Option (Bool)).bind fun j14=>if j14 = true then (some (Fl.ex (Fl.ex false))) else (some (Fl.nx (wr (s9 + 1))))) else (some (Fl.ex (Fl.nx ())))
def Vx (p0 : (Vector (Vector UInt8 4) 4)) (p1 : (Vector (Vector UInt8 4) 4)) : Option (Bool) :=
 (ZE (XS p0 p1) 0).bind fun j5=>j5.el (fun s8=>some true) (fun r=>some r)
theorem JO (w0 : World) (p0 : (Vector (Vector UInt8 4) 4)) (p1 : (Vector (Vector UInt8 4) 4)) (r : Bool) (hF : Vx p0 p1 = some r) :
  Calls Tryz.prog 49 [(Value.agg (enc p0).toArray),(Value.agg (enc p1).toArray)].toArray w0 (fun en w'=>∃ v,en = .returned v ∧ (v = (vT r) ∧ Kept (Old w0) w0 w')):=by
 refine ZB (n:=18) Tryz.func49 rfl rfl (nbl rfl) rfl ?_
 intro a hE
 have hM:=M.start w0
 unfold Vx at hF
 refine Zc (ZT (cs:=enc p0) hE hM Za ld rfl rfl fun b1 w a hM hE=>ZT (cs:=enc p1) hE hM Za ld rfl rfl fun b3 w a hM hE=>Ze hE Za ld rfl fun a hE=>Zf (wp_seq (Zc (Ze hE Za ld rfl fun a hE=>Zf ?_))))
 obtain ⟨j5,hl6,hF7⟩:=bind_some hF
 refine ZL (fun a w=>∃ s8 : Unit,j5 = Fl.nx s8 ∧ Env 18 a [] ∧ M (Old w0) w0 w []) ?_ ?_
 ·skip
  refine wp_block ?_
  refine ZC (fun (s9 : Int) a w=>Env 18 a [(2,(ptr b1 0)),(3,(ptr b3 0)),(5,vI s9)] ∧ M (Old w0) w0 w [raw b3 (enc p1),raw b1 (enc p0)]) hl6 ⟨hE.sub ⟨rfl,rfl,rfl,trivial⟩,hM⟩ ?_
  rintro s9 a w ⟨hE,hM⟩ o12 hs10 hx11
  unfold XS at hs10
  refine wp_seq (Zc (Zd hE Za ld rfl fun a hE=>Zi hE Za ld rfl rfl rfl fun a hE=>Zf ?_))
  refine Zp hE rfl ?_ ?_
  ·intro hb13
   have hs10:=Zz hs10 hb13
   refine wp_skip (Zu (wp_seq (wp_block ?_)))
   obtain ⟨j14,hl15,hF16⟩:=bind_some hs10
   refine ZQ (fun a w=>Env 18 a [(2,(ptr b1 0)),(3,(ptr b3 0)),(5,vI s9),(17,vT j14)] ∧ M (Old w0) w0 w [raw b3 (enc p1),raw b1 (enc p0)]) ?_ ?_
   ·skip
    obtain ⟨x19,hi18,hl15⟩:=bvx hl15
    obtain ⟨x22,hi21,hl15⟩:=bvx hl15
    obtain ⟨r24,e25,hl15⟩:=bind_some hl15
    refine Yg (n:=18) (hd:=[_,_,_,_,_,_,_,_]) (tl:=[]) YN rfl rfl [10,11,12,13,14,15,16,17] (by decide) (fun w=>M (Old w0) w0 w [raw b3 (enc p1),raw b1 (enc p0)]) (fun j=>([fun v _=>v = (vI s9),fun v _=>v = (ptr b1 (0 + (s9).toNat * 4)),fun v _=>v = (Value.agg (enc x19).toArray),fun v _=>v = (vI s9),fun v _=>v = (ptr b3 (0 + (s9).toNat * 4)),fun v _=>v = (Value.agg (enc x22).toArray),fun v _=>v = (vT r24),fun v _=>v = (vT (!r24))] : List (Value → World → Prop)).getD j (fun _ _=>True)) (fun _ _ h hk=>h.keep hk) (gup (Zn (Zn (Zn (Zn (Zn (Zn (Zn (Zn Vb))))))))) hE hM.drew (ZJ (Zb ?_ (Zb ?_ (Zb ?_ (Zb ?_ (Zb ?_ (Zb ?_ (Zb ?_ (Zb ?_ ZF))))))))) ?_
    ·exact fun a w ux17 hE hM hp=>Zd hE Za ld rfl fun a hE=>⟨Kept.refl _ _,_,_,rfl,hE,rfl⟩
    ·intro a w ux17 hE hM hp
     have f0 : ux17 0 = (vI s9):=hp 0 _ rfl rfl
     exact Zk hE Za ld rfl (lk rfl f0) Tryz.underlying26 WE hi18.1 fun a hE=>⟨Kept.refl _ _,_,_,rfl,hE,rfl⟩
    ·intro a w ux17 hE hM hp
     have f1 : ux17 1 = (ptr b1 (0 + (s9).toNat * 4)):=hp 0 _ rfl rfl
     exact Zo (cs:=enc x19) hE Za ld (lk rfl f1) WE rfl (At.vec (hM.rawAt (pre:=[_])) hi18.2) (Flat.len _) fun a hE=>⟨Kept.refl _ _,_,_,rfl,hE,rfl⟩
    ·exact fun a w ux17 hE hM hp=>Zd hE Za ld rfl fun a hE=>⟨Kept.refl _ _,_,_,rfl,hE,rfl⟩
    ·intro a w ux17 hE hM hp
     have f3 : ux17 3 = (vI s9):=hp 0 _ rfl rfl
     exact Zk hE Za ld rfl (lk rfl f3) Tryz.underlying26 WE hi21.1 fun a hE=>⟨Kept.refl _ _,_,_,rfl,hE,rfl⟩
    ·intro a w ux17 hE hM hp
     have f4 : ux17 4 = (ptr b3 (0 + (s9).toNat * 4)):=hp 0 _ rfl rfl
     exact Zo (cs:=enc x22) hE Za ld (lk rfl f4) WE rfl (At.vec (hM.rawAt (pre:=[])) hi21.2) (Flat.len _) fun a hE=>⟨Kept.refl _ _,_,_,rfl,hE,rfl⟩
    ·intro a w ux17 hE hM hp
     have f2 : ux17 2 = (Value.agg (enc x19).toArray):=hp 0 _ rfl rfl
     have f5 : ux17 5 = (Value.agg (enc x22).toArray):=hp 1 _ rfl rfl
     refine Zw hE Za ld (Z7 (Z2 (lk rfl f2) (Z2 (lk rfl f5) X8))) cb114 (JN _ x19 x22 r24 e25) ?_
     rintro v w a ⟨rfl,hK⟩ hE
     exact ⟨hK,_,_,rfl,hE,rfl⟩
    ·intro a w ux17 hE hM hp
     have f6 : ux17 6 = (vT r24):=hp 0 _ rfl rfl
     exact Wp hE Za ld (lk rfl f6) fun a hE=>⟨Kept.refl _ _,_,_,rfl,hE,rfl⟩
    ·intro a w ux17 hE hM hg
     have hE:=hE.sub (e':=[(17,(vT (!r24))),(2,(ptr b1 0)),(3,(ptr b3 0)),(5,vI s9),(6,vI s9),(7,(vT (decide (s9 < 4))))]) ⟨lk rfl (hg 7 (by decide)),rfl,rfl,rfl,rfl,rfl,trivial⟩
     refine Zj ?_
     have ht26:=Option.some.inj hl15
     subst ht26
     refine Zl ?_
     exact ⟨hE.sub ⟨rfl,rfl,rfl,rfl,trivial⟩,hM⟩
   ·skip
    rintro a w ⟨hE,hM⟩
    refine Zp hE rfl ?_ ?_
    ·intro hb27
     have hF16:=Zz hF16 hb27
     refine Zc (Ze hE Za ld rfl fun a hE=>Zf ?_)
     have ht28:=hx11 _ (ois hF16)
     subst ht28
     have hr:=Option.some.inj hF7
     subst hr
     have hM:=M.fst (l:=[]) hM
     exact wp_ret (Z1 (Zq (Zq (Z1 (Zq (Zq (Zt hE rfl (Zs hE rfl) ⟨_,rfl,rfl,hM.kept⟩)))))))
    ·intro hb27
     have hF16:=Zy hF16 hb27
     refine wp_skip (ZZ (Zu (wp_region_lit (Zd hE Za ld rfl fun a hE=>Zi hE Za ld rfl rfl rfl fun a hE=>Ze hE Za ld rfl fun a hE=>Zj (Zl ?_)))))
     exact ⟨_,(ois hF16),hE.sub ⟨rfl,rfl,rfl,trivial⟩,hM⟩
  ·intro hb13
   have hs10:=Zy hs10 hb13
   refine wp_exit (Zm (Zm (Z0 ?_)))
   have ht29:=hx11 _ (ois hs10)
   subst ht29
   refine Zl ?_
   have hM:=M.fst (l:=[]) hM
   exact ⟨(),rfl,hE.sub trivial,hM⟩
 ·skip
  rintro a w ⟨s8,ht,hE,hM⟩
  subst ht
  have hF7:=Va hF7
  refine Zu (Zc (Ze hE Za ld rfl fun a hE=>Zf ?_))
  have hr:=Option.some.inj hF7
  subst hr
  exact wp_ret (Zt hE rfl (Zs hE rfl) ⟨_,rfl,rfl,hM.kept⟩)
def Ud (p0 : (Vector UInt8 16)) (p1 : (Vector UInt8 16)) (s9 : Int) : Option (Fl Int (Fl Unit Bool)) :=
 if (decide (s9 < 16)) = true then (((ZI p0 s9).bind fun x19=>(ZI p1 s9).bind fun x22=>some (x19 != x22) : Option (Bool)).bind fun j14=>if j14 = true then (some (Fl.ex (Fl.ex false))) else (some (Fl.nx (wr (s9 + 1))))) else (some (Fl.ex (Fl.nx ())))
def VC (p0 : (Vector UInt8 16)) (p1 : (Vector UInt8 16)) : Option (Bool) :=
 (ZE (Ud p0 p1) 0).bind fun j5=>j5.el (fun s8=>some true) (fun r=>some r)
theorem Ju (w0 : World) (p0 : (Vector UInt8 16)) (p1 : (Vector UInt8 16)) (r : Bool) (hF : VC p0 p1 = some r) :
  Calls Tryz.prog 50 [(Value.agg (enc p0).toArray),(Value.agg (enc p1).toArray)].toArray w0 (fun en w'=>∃ v,en = .returned v ∧ (v = (vT r) ∧ Kept (Old w0) w0 w')):=by
 refine ZB (n:=17) Tryz.func50 rfl rfl (nbl rfl) rfl ?_
 intro a hE
 have hM:=M.start w0
 unfold VC at hF
 refine Zc (ZT (cs:=enc p0) hE hM Za ld rfl rfl fun b1 w a hM hE=>ZT (cs:=enc p1) hE hM Za ld rfl rfl fun b3 w a hM hE=>Ze hE Za ld rfl fun a hE=>Zf (wp_seq (Zc (Ze hE Za ld rfl fun a hE=>Zf ?_))))
 obtain ⟨j5,hl6,hF7⟩:=bind_some hF
 refine ZL (fun a w=>∃ s8 : Unit,j5 = Fl.nx s8 ∧ Env 17 a [] ∧ M (Old w0) w0 w []) ?_ ?_
 ·skip
  refine wp_block ?_
  refine ZC (fun (s9 : Int) a w=>Env 17 a [(2,(ptr b1 0)),(3,(ptr b3 0)),(5,vI s9)] ∧ M (Old w0) w0 w [raw b3 (enc p1),raw b1 (enc p0)]) hl6 ⟨hE.sub ⟨rfl,rfl,rfl,trivial⟩,hM⟩ ?_
  rintro s9 a w ⟨hE,hM⟩ o12 hs10 hx11
  unfold Ud at hs10
  refine wp_seq (Zc (Zd hE Za ld rfl fun a hE=>Zi hE Za ld rfl rfl rfl fun a hE=>Zf ?_))
  refine Zp hE rfl ?_ ?_
  ·intro hb13
   have hs10:=Zz hs10 hb13
   refine wp_skip (Zu (wp_seq (wp_block ?_)))
   obtain ⟨j14,hl15,hF16⟩:=bind_some hs10
   refine ZQ (fun a w=>Env 17 a [(2,(ptr b1 0)),(3,(ptr b3 0)),(5,vI s9),(16,vT j14)] ∧ M (Old w0) w0 w [raw b3 (enc p1),raw b1 (enc p0)]) ?_ ?_
   ·skip
    obtain ⟨x19,hi18,hl15⟩:=bvx hl15
    obtain ⟨x22,hi21,hl15⟩:=bvx hl15
    refine Yg (n:=17) (hd:=[_,_,_,_,_,_,_]) (tl:=[]) YN rfl rfl [10,11,12,13,14,15,16] (by decide) (fun w=>M (Old w0) w0 w [raw b3 (enc p1),raw b1 (enc p0)]) (fun j=>([fun v _=>v = (vI s9),fun v _=>v = (ptr b1 (0 + (s9).toNat * 1)),fun v _=>v = (vB x19),fun v _=>v = (vI s9),fun v _=>v = (ptr b3 (0 + (s9).toNat * 1)),fun v _=>v = (vB x22),fun v _=>v = (vT (x19 != x22))] : List (Value → World → Prop)).getD j (fun _ _=>True)) (fun _ _ h hk=>h.keep hk) (gup (Zn (Zn (Zn (Zn (Zn (Zn (Zn Vb)))))))) hE hM.drew (ZJ (Zb ?_ (Zb ?_ (Zb ?_ (Zb ?_ (Zb ?_ (Zb ?_ (Zb ?_ ZF)))))))) ?_
    ·exact fun a w ux17 hE hM hp=>Zd hE Za ld rfl fun a hE=>⟨Kept.refl _ _,_,_,rfl,hE,rfl⟩
    ·intro a w ux17 hE hM hp
     have f0 : ux17 0 = (vI s9):=hp 0 _ rfl rfl
     exact Zk hE Za ld rfl (lk rfl f0) Tryz.underlying28 ty5 hi18.1 fun a hE=>⟨Kept.refl _ _,_,_,rfl,hE,rfl⟩
    ·intro a w ux17 hE hM hp
     have f1 : ux17 1 = (ptr b1 (0 + (s9).toNat * 1)):=hp 0 _ rfl rfl
     exact ZA (v:=(vB x19)) hE Za ld (lk rfl f1) ty5 rfl (At.vec (hM.rawAt (pre:=[_])) hi18.2) fun a hE=>⟨Kept.refl _ _,_,_,rfl,hE,rfl⟩
    ·exact fun a w ux17 hE hM hp=>Zd hE Za ld rfl fun a hE=>⟨Kept.refl _ _,_,_,rfl,hE,rfl⟩
    ·intro a w ux17 hE hM hp
     have f3 : ux17 3 = (vI s9):=hp 0 _ rfl rfl
     exact Zk hE Za ld rfl (lk rfl f3) Tryz.underlying28 ty5 hi21.1 fun a hE=>⟨Kept.refl _ _,_,_,rfl,hE,rfl⟩
    ·intro a w ux17 hE hM hp
     have f4 : ux17 4 = (ptr b3 (0 + (s9).toNat * 1)):=hp 0 _ rfl rfl
     exact ZA (v:=(vB x22)) hE Za ld (lk rfl f4) ty5 rfl (At.vec (hM.rawAt (pre:=[])) hi21.2) fun a hE=>⟨Kept.refl _ _,_,_,rfl,hE,rfl⟩
    ·intro a w ux17 hE hM hp
     have f2 : ux17 2 = (vB x19):=hp 0 _ rfl rfl
     have f5 : ux17 5 = (vB x22):=hp 1 _ rfl rfl
     exact Zi hE Za ld (lk rfl f2) (lk rfl f5) (U8 x19 x22) fun a hE=>⟨Kept.refl _ _,_,_,rfl,hE,rfl⟩
    ·intro a w ux17 hE hM hg
     have hE:=hE.sub (e':=[(16,(vT (x19 != x22))),(2,(ptr b1 0)),(3,(ptr b3 0)),(5,vI s9),(6,vI s9),(7,(vT (decide (s9 < 16))))]) ⟨lk rfl (hg 6 (by decide)),rfl,rfl,rfl,rfl,rfl,trivial⟩
     refine Zj ?_
     have ht24:=Option.some.inj hl15
     subst ht24
     refine Zl ?_
     exact ⟨hE.sub ⟨rfl,rfl,rfl,rfl,trivial⟩,hM⟩
   ·skip
    rintro a w ⟨hE,hM⟩
    refine Zp hE rfl ?_ ?_
    ·intro hb25
     have hF16:=Zz hF16 hb25
     refine Zc (Ze hE Za ld rfl fun a hE=>Zf ?_)
     have ht26:=hx11 _ (ois hF16)
     subst ht26
     have hr:=Option.some.inj hF7
     subst hr
     have hM:=M.fst (l:=[]) hM
     exact wp_ret (Z1 (Zq (Zq (Z1 (Zq (Zq (Zt hE rfl (Zs hE rfl) ⟨_,rfl,rfl,hM.kept⟩)))))))
    ·intro hb25
     have hF16:=Zy hF16 hb25
     refine wp_skip (ZZ (Zu (wp_region_lit (Zd hE Za ld rfl fun a hE=>Zi hE Za ld rfl rfl rfl fun a hE=>Ze hE Za ld rfl fun a hE=>Zj (Zl ?_)))))
     exact ⟨_,(ois hF16),hE.sub ⟨rfl,rfl,rfl,trivial⟩,hM⟩
  ·intro hb13
   have hs10:=Zy hs10 hb13
   refine wp_exit (Zm (Zm (Z0 ?_)))
   have ht27:=hx11 _ (ois hs10)
   subst ht27
   refine Zl ?_
   have hM:=M.fst (l:=[]) hM
   exact ⟨(),rfl,hE.sub trivial,hM⟩
 ·skip
  rintro a w ⟨s8,ht,hE,hM⟩
  subst ht
  have hF7:=Va hF7
  refine Zu (Zc (Ze hE Za ld rfl fun a hE=>Zf ?_))
  have hr:=Option.some.inj hF7
  subst hr
  exact wp_ret (Zt hE rfl (Zs hE rfl) ⟨_,rfl,rfl,hM.kept⟩)
def Vv (p0 : GCipher) (p1 : GCipher) : Option (Bool) :=
 if (p0.Field != p1.Field) = true then (some false) else ((U1 p0.Box p1.Box).bind fun r6=>if (!r6) = true then (some false) else ((Vx p0.Mix p1.Mix).bind fun r9=>if (!r9) = true then (some false) else ((VC p0.Places p1.Places).bind fun r12=>if (!r12) = true then (some false) else (if (p0.Rounds != p1.Rounds) = true then (some false) else (some true)))))
theorem JA (w0 : World) (p0 : GCipher) (p1 : GCipher) (r : Bool) (hF : Vv p0 p1 = some r) :
  Calls Tryz.prog 17 [(Value.agg (enc p0).toArray),(Value.agg (enc p1).toArray)].toArray w0 (fun en w'=>∃ v,en = .returned v ∧ (v = (vT r) ∧ Kept (Old w0) w0 w')):=by
 refine ZB (n:=33) Tryz.func17 rfl rfl (nbl rfl) rfl ?_
 intro a hE
 have hM:=M.start w0
 unfold Vv at hF
 refine Zc (ZT (cs:=cat [[vI p0.Field],enc p0.Box,enc p0.Mix,enc p0.Places,[vI p0.Rounds]]) hE hM Za ld rfl rfl fun b1 w a hM hE=>ZT (cs:=cat [[vI p1.Field],enc p1.Box,enc p1.Mix,enc p1.Places,[vI p1.Rounds]]) hE hM Za ld rfl rfl fun b3 w a hM hE=>Ze hE Za ld rfl fun a hE=>Zf (wp_seq (Zc (Zh hE Za ld rfl (K8) fun a hE=>ZA (v:=(vI p0.Field)) hE Za ld rfl ty2 rfl (At.cat (pre:=[]) (hM.rawAt (pre:=[_])) cl0) fun a hE=>Zh hE Za ld rfl (K8) fun a hE=>ZA (v:=(vI p1.Field)) hE Za ld rfl ty2 rfl (At.cat (pre:=[]) (hM.rawAt (pre:=[])) cl0) fun a hE=>Zi hE Za ld rfl rfl rfl fun a hE=>Zf ?_))))
 refine Zp hE rfl ?_ ?_
 ·intro hb5
  have hF:=Zz hF hb5
  refine Zc (Ze hE Za ld rfl fun a hE=>Zf ?_)
  have hr:=Option.some.inj hF
  subst hr
  have hM:=M.fst (l:=[]) hM
  exact wp_ret (Zq (Zt hE rfl (Zs hE rfl) ⟨_,rfl,rfl,hM.kept⟩))
 ·intro hb5
  have hF:=Zy hF hb5
  refine wp_skip (Zu (wp_seq (Zc (Zh hE Za ld rfl (Qw) fun a hE=>Zo (cs:=enc p0.Box) hE Za ld rfl Ve rfl (At.cat (pre:=[[vI p0.Field]]) (hM.rawAt (pre:=[_])) (cl1 (n:=1) (m:=0) rfl cl0)) (Flat.len _) fun a hE=>Zh hE Za ld rfl (Qw) fun a hE=>Zo (cs:=enc p1.Box) hE Za ld rfl Ve rfl (At.cat (pre:=[[vI p1.Field]]) (hM.rawAt (pre:=[])) (cl1 (n:=1) (m:=0) rfl cl0)) (Flat.len _) ?_)))); intro a hE
  obtain ⟨r6,e7,hF⟩:=bind_some hF
  refine Zw hE Za ld rfl cb48 (BT _ p0.Box p1.Box r6 e7) ?_
  rintro v w a ⟨rfl,hK⟩ hE
  have hM:=hM.keep hK
  refine Wp hE Za ld rfl fun a hE=>Zf ?_
  refine Zp hE rfl ?_ ?_
  ·intro hb8
   have hF:=Zz hF hb8
   refine Zc (Ze hE Za ld rfl fun a hE=>Zf ?_)
   have hr:=Option.some.inj hF
   subst hr
   have hM:=M.fst (l:=[]) hM
   exact wp_ret (Zq (Zt hE rfl (Zs hE rfl) ⟨_,rfl,rfl,hM.kept⟩))
  ·intro hb8
   have hF:=Zy hF hb8
   refine wp_skip (Zu (wp_seq (Zc (Zh hE Za ld rfl (Kb) fun a hE=>Zo (cs:=enc p0.Mix) hE Za ld rfl Ti rfl (At.cat (pre:=[[vI p0.Field],enc p0.Box]) (hM.rawAt (pre:=[_])) (cl1 (n:=1) (m:=256) rfl (cl1 (n:=256) (m:=0) (Flat.len _) cl0))) (Flat.len _) fun a hE=>Zh hE Za ld rfl (Kb) fun a hE=>Zo (cs:=enc p1.Mix) hE Za ld rfl Ti rfl (At.cat (pre:=[[vI p1.Field],enc p1.Box]) (hM.rawAt (pre:=[])) (cl1 (n:=1) (m:=256) rfl (cl1 (n:=256) (m:=0) (Flat.len _) cl0))) (Flat.len _) ?_)))); intro a hE
   obtain ⟨r9,e10,hF⟩:=bind_some hF
   refine Zw hE Za ld rfl cb49 (JO _ p0.Mix p1.Mix r9 e10) ?_
   rintro v w a ⟨rfl,hK⟩ hE
   have hM:=hM.keep hK
   refine Wp hE Za ld rfl fun a hE=>Zf ?_
   refine Zp hE rfl ?_ ?_
   ·intro hb11
    have hF:=Zz hF hb11
    refine Zc (Ze hE Za ld rfl fun a hE=>Zf ?_)
    have hr:=Option.some.inj hF
    subst hr
    have hM:=M.fst (l:=[]) hM
    exact wp_ret (Zq (Zt hE rfl (Zs hE rfl) ⟨_,rfl,rfl,hM.kept⟩))
   ·intro hb11
    have hF:=Zy hF hb11
    refine wp_skip (Zu (wp_seq (Zc (Zh hE Za ld rfl (Q3) fun a hE=>Zo (cs:=enc p0.Places) hE Za ld rfl Qg rfl (At.cat (pre:=[[vI p0.Field],enc p0.Box,enc p0.Mix]) (hM.rawAt (pre:=[_])) (cl1 (n:=1) (m:=272) rfl (cl1 (n:=256) (m:=16) (Flat.len _) (cl1 (n:=16) (m:=0) (Flat.len _) cl0)))) (Flat.len _) fun a hE=>Zh hE Za ld rfl (Q3) fun a hE=>Zo (cs:=enc p1.Places) hE Za ld rfl Qg rfl (At.cat (pre:=[[vI p1.Field],enc p1.Box,enc p1.Mix]) (hM.rawAt (pre:=[])) (cl1 (n:=1) (m:=272) rfl (cl1 (n:=256) (m:=16) (Flat.len _) (cl1 (n:=16) (m:=0) (Flat.len _) cl0)))) (Flat.len _) ?_)))); intro a hE
    obtain ⟨r12,e13,hF⟩:=bind_some hF
    refine Zw hE Za ld rfl cb50 (Ju _ p0.Places p1.Places r12 e13) ?_
    rintro v w a ⟨rfl,hK⟩ hE
    have hM:=hM.keep hK
    refine Wp hE Za ld rfl fun a hE=>Zf ?_
    refine Zp hE rfl ?_ ?_
    ·intro hb14
     have hF:=Zz hF hb14
     refine Zc (Ze hE Za ld rfl fun a hE=>Zf ?_)
     have hr:=Option.some.inj hF
     subst hr
     have hM:=M.fst (l:=[]) hM
     exact wp_ret (Zq (Zt hE rfl (Zs hE rfl) ⟨_,rfl,rfl,hM.kept⟩))
    ·intro hb14
     have hF:=Zy hF hb14
     refine wp_skip (Zu (wp_seq (Zc (Zh hE Za ld rfl (Hx) fun a hE=>ZA (v:=(vI p0.Rounds)) hE Za ld rfl ty2 rfl (At.cat (pre:=[[vI p0.Field],enc p0.Box,enc p0.Mix,enc p0.Places]) (hM.rawAt (pre:=[_])) (cl1 (n:=1) (m:=288) rfl (cl1 (n:=256) (m:=32) (Flat.len _) (cl1 (n:=16) (m:=16) (Flat.len _) (cl1 (n:=16) (m:=0) (Flat.len _) cl0))))) fun a hE=>Zh hE Za ld rfl (Hx) fun a hE=>ZA (v:=(vI p1.Rounds)) hE Za ld rfl ty2 rfl (At.cat (pre:=[[vI p1.Field],enc p1.Box,enc p1.Mix,enc p1.Places]) (hM.rawAt (pre:=[])) (cl1 (n:=1) (m:=288) rfl (cl1 (n:=256) (m:=32) (Flat.len _) (cl1 (n:=16) (m:=16) (Flat.len _) (cl1 (n:=16) (m:=0) (Flat.len _) cl0))))) fun a hE=>Zi hE Za ld rfl rfl rfl fun a hE=>Zf ?_))))
     refine Zp hE rfl ?_ ?_
     ·intro hb15
      have hF:=Zz hF hb15
      refine Zc (Ze hE Za ld rfl fun a hE=>Zf ?_)
      have hr:=Option.some.inj hF
      subst hr
      have hM:=M.fst (l:=[]) hM
      exact wp_ret (Zq (Zt hE rfl (Zs hE rfl) ⟨_,rfl,rfl,hM.kept⟩))
     ·intro hb15
      have hF:=Zy hF hb15
      refine wp_skip (Zu (Zc (Ze hE Za ld rfl fun a hE=>Zf ?_)))
      have hr:=Option.some.inj hF
      subst hr
      have hM:=M.fst (l:=[]) hM
      exact wp_ret (Zt hE rfl (Zs hE rfl) ⟨_,rfl,rfl,hM.kept⟩)
def UG (p0 : (Vector UInt8 16)) (p1 : (Vector UInt8 16)) (s9 : Int) : Option (Fl Int (Fl Unit Bool)) :=
 if (decide (s9 < 16)) = true then (((ZI p0 s9).bind fun x19=>(ZI p1 s9).bind fun x22=>some (x19 != x22) : Option (Bool)).bind fun j14=>if j14 = true then (some (Fl.ex (Fl.ex false))) else (some (Fl.nx (wr (s9 + 1))))) else (some (Fl.ex (Fl.nx ())))
def YQ (p0 : (Vector UInt8 16)) (p1 : (Vector UInt8 16)) : Option (Bool) :=
 (ZE (UG p0 p1) 0).bind fun j5=>j5.el (fun s8=>some true) (fun r=>some r)
theorem U4 (w0 : World) (p0 : (Vector UInt8 16)) (p1 : (Vector UInt8 16)) (r : Bool) (hF : YQ p0 p1 = some r) :
  Calls Tryz.prog 18 [(Value.agg (enc p0).toArray),(Value.agg (enc p1).toArray)].toArray w0 (fun en w'=>∃ v,en = .returned v ∧ (v = (vT r) ∧ Kept (Old w0) w0 w')):=by
 refine ZB (n:=17) Tryz.func18 rfl rfl (nbl rfl) rfl ?_
 intro a hE
 have hM:=M.start w0
 unfold YQ at hF
 refine Zc (ZT (cs:=enc p0) hE hM Za ld rfl rfl fun b1 w a hM hE=>ZT (cs:=enc p1) hE hM Za ld rfl rfl fun b3 w a hM hE=>Ze hE Za ld rfl fun a hE=>Zf (wp_seq (Zc (Ze hE Za ld rfl fun a hE=>Zf ?_))))
 obtain ⟨j5,hl6,hF7⟩:=bind_some hF
 refine ZL (fun a w=>∃ s8 : Unit,j5 = Fl.nx s8 ∧ Env 17 a [] ∧ M (Old w0) w0 w []) ?_ ?_
 ·skip
  refine wp_block ?_
  refine ZC (fun (s9 : Int) a w=>Env 17 a [(2,(ptr b1 0)),(3,(ptr b3 0)),(5,vI s9)] ∧ M (Old w0) w0 w [raw b3 (enc p1),raw b1 (enc p0)]) hl6 ⟨hE.sub ⟨rfl,rfl,rfl,trivial⟩,hM⟩ ?_
  rintro s9 a w ⟨hE,hM⟩ o12 hs10 hx11
  unfold UG at hs10
  refine wp_seq (Zc (Zd hE Za ld rfl fun a hE=>Zi hE Za ld rfl rfl rfl fun a hE=>Zf ?_))
  refine Zp hE rfl ?_ ?_
  ·intro hb13
   have hs10:=Zz hs10 hb13
   refine wp_skip (Zu (wp_seq (wp_block ?_)))
   obtain ⟨j14,hl15,hF16⟩:=bind_some hs10
   refine ZQ (fun a w=>Env 17 a [(2,(ptr b1 0)),(3,(ptr b3 0)),(5,vI s9),(16,vT j14)] ∧ M (Old w0) w0 w [raw b3 (enc p1),raw b1 (enc p0)]) ?_ ?_
   ·skip
    obtain ⟨x19,hi18,hl15⟩:=bvx hl15
    obtain ⟨x22,hi21,hl15⟩:=bvx hl15
    refine Yg (n:=17) (hd:=[_,_,_,_,_,_,_]) (tl:=[]) YN rfl rfl [10,11,12,13,14,15,16] (by decide) (fun w=>M (Old w0) w0 w [raw b3 (enc p1),raw b1 (enc p0)]) (fun j=>([fun v _=>v = (vI s9),fun v _=>v = (ptr b1 (0 + (s9).toNat * 1)),fun v _=>v = (vB x19),fun v _=>v = (vI s9),fun v _=>v = (ptr b3 (0 + (s9).toNat * 1)),fun v _=>v = (vB x22),fun v _=>v = (vT (x19 != x22))] : List (Value → World → Prop)).getD j (fun _ _=>True)) (fun _ _ h hk=>h.keep hk) (gup (Zn (Zn (Zn (Zn (Zn (Zn (Zn Vb)))))))) hE hM.drew (ZJ (Zb ?_ (Zb ?_ (Zb ?_ (Zb ?_ (Zb ?_ (Zb ?_ (Zb ?_ ZF)))))))) ?_
    ·exact fun a w ux17 hE hM hp=>Zd hE Za ld rfl fun a hE=>⟨Kept.refl _ _,_,_,rfl,hE,rfl⟩
    ·intro a w ux17 hE hM hp
     have f0 : ux17 0 = (vI s9):=hp 0 _ rfl rfl
     exact Zk hE Za ld rfl (lk rfl f0) Tryz.underlying31 ty5 hi18.1 fun a hE=>⟨Kept.refl _ _,_,_,rfl,hE,rfl⟩
    ·intro a w ux17 hE hM hp
     have f1 : ux17 1 = (ptr b1 (0 + (s9).toNat * 1)):=hp 0 _ rfl rfl
     exact ZA (v:=(vB x19)) hE Za ld (lk rfl f1) ty5 rfl (At.vec (hM.rawAt (pre:=[_])) hi18.2) fun a hE=>⟨Kept.refl _ _,_,_,rfl,hE,rfl⟩
    ·exact fun a w ux17 hE hM hp=>Zd hE Za ld rfl fun a hE=>⟨Kept.refl _ _,_,_,rfl,hE,rfl⟩
    ·intro a w ux17 hE hM hp
     have f3 : ux17 3 = (vI s9):=hp 0 _ rfl rfl
     exact Zk hE Za ld rfl (lk rfl f3) Tryz.underlying31 ty5 hi21.1 fun a hE=>⟨Kept.refl _ _,_,_,rfl,hE,rfl⟩
    ·intro a w ux17 hE hM hp
     have f4 : ux17 4 = (ptr b3 (0 + (s9).toNat * 1)):=hp 0 _ rfl rfl
     exact ZA (v:=(vB x22)) hE Za ld (lk rfl f4) ty5 rfl (At.vec (hM.rawAt (pre:=[])) hi21.2) fun a hE=>⟨Kept.refl _ _,_,_,rfl,hE,rfl⟩
    ·intro a w ux17 hE hM hp
     have f2 : ux17 2 = (vB x19):=hp 0 _ rfl rfl
     have f5 : ux17 5 = (vB x22):=hp 1 _ rfl rfl
     exact Zi hE Za ld (lk rfl f2) (lk rfl f5) (U8 x19 x22) fun a hE=>⟨Kept.refl _ _,_,_,rfl,hE,rfl⟩
    ·intro a w ux17 hE hM hg
     have hE:=hE.sub (e':=[(16,(vT (x19 != x22))),(2,(ptr b1 0)),(3,(ptr b3 0)),(5,vI s9),(6,vI s9),(7,(vT (decide (s9 < 16))))]) ⟨lk rfl (hg 6 (by decide)),rfl,rfl,rfl,rfl,rfl,trivial⟩
     refine Zj ?_
     have ht24:=Option.some.inj hl15
     subst ht24
     refine Zl ?_
     exact ⟨hE.sub ⟨rfl,rfl,rfl,rfl,trivial⟩,hM⟩
   ·skip
    rintro a w ⟨hE,hM⟩
    refine Zp hE rfl ?_ ?_
    ·intro hb25
     have hF16:=Zz hF16 hb25
     refine Zc (Ze hE Za ld rfl fun a hE=>Zf ?_)
     have ht26:=hx11 _ (ois hF16)
     subst ht26
     have hr:=Option.some.inj hF7
     subst hr
     have hM:=M.fst (l:=[]) hM
     exact wp_ret (Z1 (Zq (Zq (Z1 (Zq (Zq (Zt hE rfl (Zs hE rfl) ⟨_,rfl,rfl,hM.kept⟩)))))))
    ·intro hb25
     have hF16:=Zy hF16 hb25
     refine wp_skip (ZZ (Zu (wp_region_lit (Zd hE Za ld rfl fun a hE=>Zi hE Za ld rfl rfl rfl fun a hE=>Ze hE Za ld rfl fun a hE=>Zj (Zl ?_)))))
     exact ⟨_,(ois hF16),hE.sub ⟨rfl,rfl,rfl,trivial⟩,hM⟩
  ·intro hb13
   have hs10:=Zy hs10 hb13
   refine wp_exit (Zm (Zm (Z0 ?_)))
   have ht27:=hx11 _ (ois hs10)
   subst ht27
   refine Zl ?_
   have hM:=M.fst (l:=[]) hM
   exact ⟨(),rfl,hE.sub trivial,hM⟩
 ·skip
  rintro a w ⟨s8,ht,hE,hM⟩
  subst ht
  have hF7:=Va hF7
  refine Zu (Zc (Ze hE Za ld rfl fun a hE=>Zf ?_))
  have hr:=Option.some.inj hF7
  subst hr
  exact wp_ret (Zt hE rfl (Zs hE rfl) ⟨_,rfl,rfl,hM.kept⟩)
def UD (p0 : (List UInt8)) (p1 : (List UInt8)) (s6 : Int) : Option (Fl Int (Fl Unit Bool)) :=
 if (decide (s6 < (p0.length : Int))) = true then (((idx p0 s6).bind fun x15=>(idx p1 s6).bind fun x18=>some (x15 != x18) : Option (Bool)).bind fun j11=>if j11 = true then (some (Fl.ex (Fl.ex false))) else (some (Fl.nx (wr (s6 + 1))))) else (some (Fl.ex (Fl.nx ())))
def YR (p0 : (List UInt8)) (p1 : (List UInt8)) : Option (Bool) :=
 if ((p0.length : Int) != (p1.length : Int)) = true then (some false) else ((ZE (UD p0 p1) 0).bind fun j2=>j2.el (fun s5=>some true) (fun r=>some r))
theorem U7 (w0 : World) (p0 : (List UInt8)) (v0_1 : Value) (hv0_1 : Ro w0 p0 [v0_1]) (p1 : (List UInt8)) (v1_1 : Value) (hv1_1 : Ro w0 p1 [v1_1]) (r : Bool) (hF : YR p0 p1 = some r) :
  Calls Tryz.prog 19 [v0_1,v1_1].toArray w0 (fun en w'=>∃ v,en = .returned v ∧ (v = (vT r) ∧ Kept (Old w0) w0 w')):=by
 refine ZB (n:=26) Tryz.func19 rfl rfl (nbl rfl) rfl ?_
 intro a hE
 have hM:=M.start w0
 unfold YR at hF
 refine Zc (Ze hE Za ld rfl fun a hE=>Zf (wp_seq (Zc (Zd hE Za ld rfl fun a hE=>Yf hE Za ld rfl Tryz.underlying32 (hM.rd hv0_1) fun a hE=>Zd hE Za ld rfl fun a hE=>Yf hE Za ld rfl Tryz.underlying32 (hM.rd hv1_1) fun a hE=>Zi hE Za ld rfl rfl rfl fun a hE=>Zf ?_))))
 refine Zp hE rfl ?_ ?_
 ·intro hb1
  have hF:=Zz hF hb1
  refine Zc (Ze hE Za ld rfl fun a hE=>Zf ?_)
  have hr:=Option.some.inj hF
  subst hr
  exact wp_ret (Zq (Zt hE rfl (Zs hE rfl) ⟨_,rfl,rfl,hM.kept⟩))
 ·intro hb1
  have hF:=Zy hF hb1
  refine wp_skip (Zu (wp_seq (Zc (Ze hE Za ld rfl fun a hE=>Zf ?_))))
  obtain ⟨j2,hl3,hF4⟩:=bind_some hF
  refine ZL (fun a w=>∃ s5 : Unit,j2 = Fl.nx s5 ∧ Env 26 a [] ∧ M (Old w0) w0 w []) ?_ ?_
  ·skip
   refine wp_block ?_
   refine ZC (fun (s6 : Int) a w=>Env 26 a [(0,v0_1),(1,v1_1),(5,vI s6)] ∧ M (Old w0) w0 w []) hl3 ⟨hE.sub ⟨rfl,rfl,rfl,trivial⟩,hM⟩ ?_
   rintro s6 a w ⟨hE,hM⟩ o9 hs7 hx8
   unfold UD at hs7
   refine wp_seq (Zc (Zd hE Za ld rfl fun a hE=>Zd hE Za ld rfl fun a hE=>Yf hE Za ld rfl Tryz.underlying32 (hM.rd hv0_1) fun a hE=>Zi hE Za ld rfl rfl rfl fun a hE=>Zf ?_))
   refine Zp hE rfl ?_ ?_
   ·intro hb10
    have hs7:=Zz hs7 hb10
    refine wp_skip (Zu (wp_seq (wp_block ?_)))
    obtain ⟨j11,hl12,hF13⟩:=bind_some hs7
    refine ZQ (fun a w=>Env 26 a [(0,v0_1),(1,v1_1),(5,vI s6),(25,vT j11)] ∧ M (Old w0) w0 w []) ?_ ?_
    ·skip
     obtain ⟨x15,hi17,hl12⟩:=bix hl12
     obtain ⟨x18,hi20,hl12⟩:=bix hl12
     refine Yg (n:=26) (hd:=[_,_,_,_,_,_,_,_,_]) (tl:=[]) YN rfl rfl [17,18,19,20,21,22,23,24,25] (by decide) (fun w=>M (Old w0) w0 w []) (fun j=>([fun v _=>v = v0_1,fun v _=>v = (vI s6),fun v _=>v = (ptr (sb v0_1) (so v0_1 + (s6).toNat * 1)),fun v _=>v = (vB x15),fun v _=>v = v1_1,fun v _=>v = (vI s6),fun v _=>v = (ptr (sb v1_1) (so v1_1 + (s6).toNat * 1)),fun v _=>v = (vB x18),fun v _=>v = (vT (x15 != x18))] : List (Value → World → Prop)).getD j (fun _ _=>True)) (fun _ _ h hk=>h.keep hk) (gup (Zn (Zn (Zn (Zn (Zn (Zn (Zn (Zn (Zn Vb)))))))))) hE hM.drew (ZJ (Zb ?_ (Zb ?_ (Zb ?_ (Zb ?_ (Zb ?_ (Zb ?_ (Zb ?_ (Zb ?_ (Zb ?_ ZF)))))))))) ?_
     ·exact fun a w ux14 hE hM hp=>Zd hE Za ld rfl fun a hE=>⟨Kept.refl _ _,_,_,rfl,hE,rfl⟩
     ·exact fun a w ux14 hE hM hp=>Zd hE Za ld rfl fun a hE=>⟨Kept.refl _ _,_,_,rfl,hE,rfl⟩
     ·intro a w ux14 hE hM hp
      have f0 : ux14 0 = v0_1:=hp 0 _ rfl rfl
      have f1 : ux14 1 = (vI s6):=hp 1 _ rfl rfl
      exact ZK hE Za ld (lk rfl f0) (lk rfl f1) Tryz.underlying32 ty5 (hM.rd hv0_1) hi17.1 fun a hE=>⟨Kept.refl _ _,_,_,rfl,hE,rfl⟩
     ·intro a w ux14 hE hM hp
      have f2 : ux14 2 = (ptr (sb v0_1) (so v0_1 + (s6).toNat * 1)):=hp 0 _ rfl rfl
      exact ZA (v:=(vB x15)) hE Za ld (lk rfl f2) ty5 rfl (Xc (hM.rd hv0_1) hi17.2) fun a hE=>⟨Kept.refl _ _,_,_,rfl,hE,rfl⟩
     ·exact fun a w ux14 hE hM hp=>Zd hE Za ld rfl fun a hE=>⟨Kept.refl _ _,_,_,rfl,hE,rfl⟩
     ·exact fun a w ux14 hE hM hp=>Zd hE Za ld rfl fun a hE=>⟨Kept.refl _ _,_,_,rfl,hE,rfl⟩
     ·intro a w ux14 hE hM hp
      have f4 : ux14 4 = v1_1:=hp 0 _ rfl rfl
      have f5 : ux14 5 = (vI s6):=hp 1 _ rfl rfl
      exact ZK hE Za ld (lk rfl f4) (lk rfl f5) Tryz.underlying32 ty5 (hM.rd hv1_1) hi20.1 fun a hE=>⟨Kept.refl _ _,_,_,rfl,hE,rfl⟩
     ·intro a w ux14 hE hM hp
      have f6 : ux14 6 = (ptr (sb v1_1) (so v1_1 + (s6).toNat * 1)):=hp 0 _ rfl rfl
      exact ZA (v:=(vB x18)) hE Za ld (lk rfl f6) ty5 rfl (Xc (hM.rd hv1_1) hi20.2) fun a hE=>⟨Kept.refl _ _,_,_,rfl,hE,rfl⟩
     ·intro a w ux14 hE hM hp
      have f3 : ux14 3 = (vB x15):=hp 0 _ rfl rfl
      have f7 : ux14 7 = (vB x18):=hp 1 _ rfl rfl
      exact Zi hE Za ld (lk rfl f3) (lk rfl f7) (U8 x15 x18) fun a hE=>⟨Kept.refl _ _,_,_,rfl,hE,rfl⟩
     ·intro a w ux14 hE hM hg
      have hE:=hE.sub (e':=[(25,(vT (x15 != x18))),(0,v0_1),(1,v1_1),(5,vI s6),(11,vI s6),(12,v0_1),(13,(vI (p0.length : Int))),(14,(vT (decide (s6 < (p0.length : Int)))))]) ⟨lk rfl (hg 8 (by decide)),rfl,rfl,rfl,rfl,rfl,rfl,rfl,trivial⟩
      refine Zj ?_
      have ht21:=Option.some.inj hl12
      subst ht21
      refine Zl ?_
      exact ⟨hE.sub ⟨rfl,rfl,rfl,rfl,trivial⟩,hM⟩
    ·skip
     rintro a w ⟨hE,hM⟩
     refine Zp hE rfl ?_ ?_
     ·intro hb22
      have hF13:=Zz hF13 hb22
      refine Zc (Ze hE Za ld rfl fun a hE=>Zf ?_)
      have ht23:=hx8 _ (ois hF13)
      subst ht23
      have hr:=Option.some.inj hF4
      subst hr
      exact wp_ret (Z1 (Zq (Zq (Z1 (Zq (Zq (Zt hE rfl (Zs hE rfl) ⟨_,rfl,rfl,hM.kept⟩)))))))
     ·intro hb22
      have hF13:=Zy hF13 hb22
      refine wp_skip (ZZ (Zu (wp_region_lit (Zd hE Za ld rfl fun a hE=>Zi hE Za ld rfl rfl rfl fun a hE=>Ze hE Za ld rfl fun a hE=>Zj (Zl ?_)))))
      exact ⟨_,(ois hF13),hE.sub ⟨rfl,rfl,rfl,trivial⟩,hM⟩
   ·intro hb10
    have hs7:=Zy hs7 hb10
    refine wp_exit (Zm (Zm (Z0 ?_)))
    have ht24:=hx8 _ (ois hs7)
    subst ht24
    refine Zl ?_
    exact ⟨(),rfl,hE.sub trivial,hM⟩
  ·skip
   rintro a w ⟨s5,ht,hE,hM⟩
   subst ht
   have hF4:=Va hF4
   refine Zu (Zc (Ze hE Za ld rfl fun a hE=>Zf ?_))
   have hr:=Option.some.inj hF4
   subst hr
   exact wp_ret (Zt hE rfl (Zs hE rfl) ⟨_,rfl,rfl,hM.kept⟩)
def V7 (p0 : (List (Vector UInt8 16))) (p1 : (List (Vector UInt8 16))) (s6 : Int) : Option (Fl Int (Fl Unit Bool)) :=
 if (decide (s6 < (p0.length : Int))) = true then (((idx p0 s6).bind fun x15=>(idx p1 s6).bind fun x18=>(YQ x15 x18).bind fun r21=>some (!r21) : Option (Bool)).bind fun j11=>if j11 = true then (some (Fl.ex (Fl.ex false))) else (some (Fl.nx (wr (s6 + 1))))) else (some (Fl.ex (Fl.nx ())))
def Vl (p0 : (List (Vector UInt8 16))) (p1 : (List (Vector UInt8 16))) : Option (Bool) :=
 if ((p0.length : Int) != (p1.length : Int)) = true then (some false) else ((ZE (V7 p0 p1) 0).bind fun j2=>j2.el (fun s5=>some true) (fun r=>some r))
theorem JP (w0 : World) (p0 : (List (Vector UInt8 16))) (v0_1 : Value) (hv0_1 : Ro w0 p0 [v0_1]) (p1 : (List (Vector UInt8 16))) (v1_1 : Value) (hv1_1 : Ro w0 p1 [v1_1]) (r : Bool) (hF : Vl p0 p1 = some r) :
  Calls Tryz.prog 51 [v0_1,v1_1].toArray w0 (fun en w'=>∃ v,en = .returned v ∧ (v = (vT r) ∧ Kept (Old w0) w0 w')):=by
 refine ZB (n:=27) Tryz.func51 rfl rfl (nbl rfl) rfl ?_
 intro a hE
 have hM:=M.start w0
 unfold Vl at hF
 refine Zc (Ze hE Za ld rfl fun a hE=>Zf (wp_seq (Zc (Zd hE Za ld rfl fun a hE=>Yf hE Za ld rfl Tryz.underlying33 (hM.rd hv0_1) fun a hE=>Zd hE Za ld rfl fun a hE=>Yf hE Za ld rfl Tryz.underlying33 (hM.rd hv1_1) fun a hE=>Zi hE Za ld rfl rfl rfl fun a hE=>Zf ?_))))
 refine Zp hE rfl ?_ ?_
 ·intro hb1
  have hF:=Zz hF hb1
  refine Zc (Ze hE Za ld rfl fun a hE=>Zf ?_)
  have hr:=Option.some.inj hF
  subst hr
  exact wp_ret (Zq (Zt hE rfl (Zs hE rfl) ⟨_,rfl,rfl,hM.kept⟩))
 ·intro hb1
  have hF:=Zy hF hb1
  refine wp_skip (Zu (wp_seq (Zc (Ze hE Za ld rfl fun a hE=>Zf ?_))))
  obtain ⟨j2,hl3,hF4⟩:=bind_some hF
  refine ZL (fun a w=>∃ s5 : Unit,j2 = Fl.nx s5 ∧ Env 27 a [] ∧ M (Old w0) w0 w []) ?_ ?_
  ·skip
   refine wp_block ?_
   refine ZC (fun (s6 : Int) a w=>Env 27 a [(0,v0_1),(1,v1_1),(5,vI s6)] ∧ M (Old w0) w0 w []) hl3 ⟨hE.sub ⟨rfl,rfl,rfl,trivial⟩,hM⟩ ?_
   rintro s6 a w ⟨hE,hM⟩ o9 hs7 hx8
   unfold V7 at hs7
   refine wp_seq (Zc (Zd hE Za ld rfl fun a hE=>Zd hE Za ld rfl fun a hE=>Yf hE Za ld rfl Tryz.underlying33 (hM.rd hv0_1) fun a hE=>Zi hE Za ld rfl rfl rfl fun a hE=>Zf ?_))
   refine Zp hE rfl ?_ ?_
   ·intro hb10
    have hs7:=Zz hs7 hb10
    refine wp_skip (Zu (wp_seq (wp_block ?_)))
    obtain ⟨j11,hl12,hF13⟩:=bind_some hs7
    refine ZQ (fun a w=>Env 27 a [(0,v0_1),(1,v1_1),(5,vI s6),(26,vT j11)] ∧ M (Old w0) w0 w []) ?_ ?_
    ·skip
     obtain ⟨x15,hi17,hl12⟩:=bix hl12
     obtain ⟨x18,hi20,hl12⟩:=bix hl12
     obtain ⟨r21,e22,hl12⟩:=bind_some hl12
     refine Yg (n:=27) (hd:=[_,_,_,_,_,_,_,_,_,_]) (tl:=[]) YN rfl rfl [17,18,19,20,21,22,23,24,25,26] (by decide) (fun w=>M (Old w0) w0 w []) (fun j=>([fun v _=>v = v0_1,fun v _=>v = (vI s6),fun v _=>v = (ptr (sb v0_1) (so v0_1 + (s6).toNat * 16)),fun v _=>v = (Value.agg (enc x15).toArray),fun v _=>v = v1_1,fun v _=>v = (vI s6),fun v _=>v = (ptr (sb v1_1) (so v1_1 + (s6).toNat * 16)),fun v _=>v = (Value.agg (enc x18).toArray),fun v _=>v = (vT r21),fun v _=>v = (vT (!r21))] : List (Value → World → Prop)).getD j (fun _ _=>True)) (fun _ _ h hk=>h.keep hk) (gup (Zn (Zn (Zn (Zn (Zn (Zn (Zn (Zn (Zn (Zn Vb))))))))))) hE hM.drew (ZJ (Zb ?_ (Zb ?_ (Zb ?_ (Zb ?_ (Zb ?_ (Zb ?_ (Zb ?_ (Zb ?_ (Zb ?_ (Zb ?_ ZF))))))))))) ?_
     ·exact fun a w ux14 hE hM hp=>Zd hE Za ld rfl fun a hE=>⟨Kept.refl _ _,_,_,rfl,hE,rfl⟩
     ·exact fun a w ux14 hE hM hp=>Zd hE Za ld rfl fun a hE=>⟨Kept.refl _ _,_,_,rfl,hE,rfl⟩
     ·intro a w ux14 hE hM hp
      have f0 : ux14 0 = v0_1:=hp 0 _ rfl rfl
      have f1 : ux14 1 = (vI s6):=hp 1 _ rfl rfl
      exact ZK hE Za ld (lk rfl f0) (lk rfl f1) Tryz.underlying33 ZG (hM.rd hv0_1) hi17.1 fun a hE=>⟨Kept.refl _ _,_,_,rfl,hE,rfl⟩
     ·intro a w ux14 hE hM hp
      have f2 : ux14 2 = (ptr (sb v0_1) (so v0_1 + (s6).toNat * 16)):=hp 0 _ rfl rfl
      exact Zo (cs:=enc x15) hE Za ld (lk rfl f2) ZG rfl (Xc (hM.rd hv0_1) hi17.2) (Flat.len _) fun a hE=>⟨Kept.refl _ _,_,_,rfl,hE,rfl⟩
     ·exact fun a w ux14 hE hM hp=>Zd hE Za ld rfl fun a hE=>⟨Kept.refl _ _,_,_,rfl,hE,rfl⟩
     ·exact fun a w ux14 hE hM hp=>Zd hE Za ld rfl fun a hE=>⟨Kept.refl _ _,_,_,rfl,hE,rfl⟩
     ·intro a w ux14 hE hM hp
      have f4 : ux14 4 = v1_1:=hp 0 _ rfl rfl
      have f5 : ux14 5 = (vI s6):=hp 1 _ rfl rfl
      exact ZK hE Za ld (lk rfl f4) (lk rfl f5) Tryz.underlying33 ZG (hM.rd hv1_1) hi20.1 fun a hE=>⟨Kept.refl _ _,_,_,rfl,hE,rfl⟩
     ·intro a w ux14 hE hM hp
      have f6 : ux14 6 = (ptr (sb v1_1) (so v1_1 + (s6).toNat * 16)):=hp 0 _ rfl rfl
      exact Zo (cs:=enc x18) hE Za ld (lk rfl f6) ZG rfl (Xc (hM.rd hv1_1) hi20.2) (Flat.len _) fun a hE=>⟨Kept.refl _ _,_,_,rfl,hE,rfl⟩
     ·intro a w ux14 hE hM hp
      have f3 : ux14 3 = (Value.agg (enc x15).toArray):=hp 0 _ rfl rfl
      have f7 : ux14 7 = (Value.agg (enc x18).toArray):=hp 1 _ rfl rfl
      refine Zw hE Za ld (Z7 (Z2 (lk rfl f3) (Z2 (lk rfl f7) X8))) cb18 (U4 _ x15 x18 r21 e22) ?_
      rintro v w a ⟨rfl,hK⟩ hE
      exact ⟨hK,_,_,rfl,hE,rfl⟩
     ·intro a w ux14 hE hM hp
      have f8 : ux14 8 = (vT r21):=hp 0 _ rfl rfl
      exact Wp hE Za ld (lk rfl f8) fun a hE=>⟨Kept.refl _ _,_,_,rfl,hE,rfl⟩
     ·intro a w ux14 hE hM hg
      have hE:=hE.sub (e':=[(26,(vT (!r21))),(0,v0_1),(1,v1_1),(5,vI s6),(11,vI s6),(12,v0_1),(13,(vI (p0.length : Int))),(14,(vT (decide (s6 < (p0.length : Int)))))]) ⟨lk rfl (hg 9 (by decide)),rfl,rfl,rfl,rfl,rfl,rfl,rfl,trivial⟩
      refine Zj ?_
      have ht23:=Option.some.inj hl12
      subst ht23
      refine Zl ?_
      exact ⟨hE.sub ⟨rfl,rfl,rfl,rfl,trivial⟩,hM⟩
    ·skip
     rintro a w ⟨hE,hM⟩
     refine Zp hE rfl ?_ ?_
     ·intro hb24
      have hF13:=Zz hF13 hb24
      refine Zc (Ze hE Za ld rfl fun a hE=>Zf ?_)
      have ht25:=hx8 _ (ois hF13)
      subst ht25
      have hr:=Option.some.inj hF4
      subst hr
      exact wp_ret (Z1 (Zq (Zq (Z1 (Zq (Zq (Zt hE rfl (Zs hE rfl) ⟨_,rfl,rfl,hM.kept⟩)))))))
     ·intro hb24
      have hF13:=Zy hF13 hb24
      refine wp_skip (ZZ (Zu (wp_region_lit (Zd hE Za ld rfl fun a hE=>Zi hE Za ld rfl rfl rfl fun a hE=>Ze hE Za ld rfl fun a hE=>Zj (Zl ?_)))))
      exact ⟨_,(ois hF13),hE.sub ⟨rfl,rfl,rfl,trivial⟩,hM⟩
   ·intro hb10
    have hs7:=Zy hs7 hb10
    refine wp_exit (Zm (Zm (Z0 ?_)))
    have ht26:=hx8 _ (ois hs7)
    subst ht26
    refine Zl ?_
    exact ⟨(),rfl,hE.sub trivial,hM⟩
  ·skip
   rintro a w ⟨s5,ht,hE,hM⟩
   subst ht
   have hF4:=Va hF4
   refine Zu (Zc (Ze hE Za ld rfl fun a hE=>Zf ?_))
   have hr:=Option.some.inj hF4
   subst hr
   exact wp_ret (Zt hE rfl (Zs hE rfl) ⟨_,rfl,rfl,hM.kept⟩)
def Uk (p0 : (Vector UInt8 32)) (p1 : (Vector UInt8 32)) (s9 : Int) : Option (Fl Int (Fl Unit Bool)) :=
 if (decide (s9 < 32)) = true then (((ZI p0 s9).bind fun x19=>(ZI p1 s9).bind fun x22=>some (x19 != x22) : Option (Bool)).bind fun j14=>if j14 = true then (some (Fl.ex (Fl.ex false))) else (some (Fl.nx (wr (s9 + 1))))) else (some (Fl.ex (Fl.nx ())))
def YC (p0 : (Vector UInt8 32)) (p1 : (Vector UInt8 32)) : Option (Bool) :=
 (ZE (Uk p0 p1) 0).bind fun j5=>j5.el (fun s8=>some true) (fun r=>some r)
theorem UE (w0 : World) (p0 : (Vector UInt8 32)) (p1 : (Vector UInt8 32)) (r : Bool) (hF : YC p0 p1 = some r) :
  Calls Tryz.prog 54 [(Value.agg (enc p0).toArray),(Value.agg (enc p1).toArray)].toArray w0 (fun en w'=>∃ v,en = .returned v ∧ (v = (vT r) ∧ Kept (Old w0) w0 w')):=by
 refine ZB (n:=17) Tryz.func54 rfl rfl (nbl rfl) rfl ?_
 intro a hE
 have hM:=M.start w0
 unfold YC at hF
 refine Zc (ZT (cs:=enc p0) hE hM Za ld rfl rfl fun b1 w a hM hE=>ZT (cs:=enc p1) hE hM Za ld rfl rfl fun b3 w a hM hE=>Ze hE Za ld rfl fun a hE=>Zf (wp_seq (Zc (Ze hE Za ld rfl fun a hE=>Zf ?_))))
 obtain ⟨j5,hl6,hF7⟩:=bind_some hF
 refine ZL (fun a w=>∃ s8 : Unit,j5 = Fl.nx s8 ∧ Env 17 a [] ∧ M (Old w0) w0 w []) ?_ ?_
 ·skip
  refine wp_block ?_
  refine ZC (fun (s9 : Int) a w=>Env 17 a [(2,(ptr b1 0)),(3,(ptr b3 0)),(5,vI s9)] ∧ M (Old w0) w0 w [raw b3 (enc p1),raw b1 (enc p0)]) hl6 ⟨hE.sub ⟨rfl,rfl,rfl,trivial⟩,hM⟩ ?_
  rintro s9 a w ⟨hE,hM⟩ o12 hs10 hx11
  unfold Uk at hs10
  refine wp_seq (Zc (Zd hE Za ld rfl fun a hE=>Zi hE Za ld rfl rfl rfl fun a hE=>Zf ?_))
  refine Zp hE rfl ?_ ?_
  ·intro hb13
   have hs10:=Zz hs10 hb13
   refine wp_skip (Zu (wp_seq (wp_block ?_)))
   obtain ⟨j14,hl15,hF16⟩:=bind_some hs10
   refine ZQ (fun a w=>Env 17 a [(2,(ptr b1 0)),(3,(ptr b3 0)),(5,vI s9),(16,vT j14)] ∧ M (Old w0) w0 w [raw b3 (enc p1),raw b1 (enc p0)]) ?_ ?_
   ·skip
    obtain ⟨x19,hi18,hl15⟩:=bvx hl15
    obtain ⟨x22,hi21,hl15⟩:=bvx hl15
    refine Yg (n:=17) (hd:=[_,_,_,_,_,_,_]) (tl:=[]) YN rfl rfl [10,11,12,13,14,15,16] (by decide) (fun w=>M (Old w0) w0 w [raw b3 (enc p1),raw b1 (enc p0)]) (fun j=>([fun v _=>v = (vI s9),fun v _=>v = (ptr b1 (0 + (s9).toNat * 1)),fun v _=>v = (vB x19),fun v _=>v = (vI s9),fun v _=>v = (ptr b3 (0 + (s9).toNat * 1)),fun v _=>v = (vB x22),fun v _=>v = (vT (x19 != x22))] : List (Value → World → Prop)).getD j (fun _ _=>True)) (fun _ _ h hk=>h.keep hk) (gup (Zn (Zn (Zn (Zn (Zn (Zn (Zn Vb)))))))) hE hM.drew (ZJ (Zb ?_ (Zb ?_ (Zb ?_ (Zb ?_ (Zb ?_ (Zb ?_ (Zb ?_ ZF)))))))) ?_
    ·exact fun a w ux17 hE hM hp=>Zd hE Za ld rfl fun a hE=>⟨Kept.refl _ _,_,_,rfl,hE,rfl⟩
    ·intro a w ux17 hE hM hp
     have f0 : ux17 0 = (vI s9):=hp 0 _ rfl rfl
     exact Zk hE Za ld rfl (lk rfl f0) Tryz.underlying37 ty5 hi18.1 fun a hE=>⟨Kept.refl _ _,_,_,rfl,hE,rfl⟩
    ·intro a w ux17 hE hM hp
     have f1 : ux17 1 = (ptr b1 (0 + (s9).toNat * 1)):=hp 0 _ rfl rfl
     exact ZA (v:=(vB x19)) hE Za ld (lk rfl f1) ty5 rfl (At.vec (hM.rawAt (pre:=[_])) hi18.2) fun a hE=>⟨Kept.refl _ _,_,_,rfl,hE,rfl⟩
    ·exact fun a w ux17 hE hM hp=>Zd hE Za ld rfl fun a hE=>⟨Kept.refl _ _,_,_,rfl,hE,rfl⟩
    ·intro a w ux17 hE hM hp
     have f3 : ux17 3 = (vI s9):=hp 0 _ rfl rfl
     exact Zk hE Za ld rfl (lk rfl f3) Tryz.underlying37 ty5 hi21.1 fun a hE=>⟨Kept.refl _ _,_,_,rfl,hE,rfl⟩
    ·intro a w ux17 hE hM hp
     have f4 : ux17 4 = (ptr b3 (0 + (s9).toNat * 1)):=hp 0 _ rfl rfl
     exact ZA (v:=(vB x22)) hE Za ld (lk rfl f4) ty5 rfl (At.vec (hM.rawAt (pre:=[])) hi21.2) fun a hE=>⟨Kept.refl _ _,_,_,rfl,hE,rfl⟩
    ·intro a w ux17 hE hM hp
     have f2 : ux17 2 = (vB x19):=hp 0 _ rfl rfl
     have f5 : ux17 5 = (vB x22):=hp 1 _ rfl rfl
     exact Zi hE Za ld (lk rfl f2) (lk rfl f5) (U8 x19 x22) fun a hE=>⟨Kept.refl _ _,_,_,rfl,hE,rfl⟩
    ·intro a w ux17 hE hM hg
     have hE:=hE.sub (e':=[(16,(vT (x19 != x22))),(2,(ptr b1 0)),(3,(ptr b3 0)),(5,vI s9),(6,vI s9),(7,(vT (decide (s9 < 32))))]) ⟨lk rfl (hg 6 (by decide)),rfl,rfl,rfl,rfl,rfl,trivial⟩
     refine Zj ?_
     have ht24:=Option.some.inj hl15
     subst ht24
     refine Zl ?_
     exact ⟨hE.sub ⟨rfl,rfl,rfl,rfl,trivial⟩,hM⟩
   ·skip
    rintro a w ⟨hE,hM⟩
    refine Zp hE rfl ?_ ?_
    ·intro hb25
     have hF16:=Zz hF16 hb25
     refine Zc (Ze hE Za ld rfl fun a hE=>Zf ?_)
     have ht26:=hx11 _ (ois hF16)
     subst ht26
     have hr:=Option.some.inj hF7
     subst hr
     have hM:=M.fst (l:=[]) hM
     exact wp_ret (Z1 (Zq (Zq (Z1 (Zq (Zq (Zt hE rfl (Zs hE rfl) ⟨_,rfl,rfl,hM.kept⟩)))))))
    ·intro hb25
     have hF16:=Zy hF16 hb25
     refine wp_skip (ZZ (Zu (wp_region_lit (Zd hE Za ld rfl fun a hE=>Zi hE Za ld rfl rfl rfl fun a hE=>Ze hE Za ld rfl fun a hE=>Zj (Zl ?_)))))
     exact ⟨_,(ois hF16),hE.sub ⟨rfl,rfl,rfl,trivial⟩,hM⟩
  ·intro hb13
   have hs10:=Zy hs10 hb13
   refine wp_exit (Zm (Zm (Z0 ?_)))
   have ht27:=hx11 _ (ois hs10)
   subst ht27
   refine Zl ?_
   have hM:=M.fst (l:=[]) hM
   exact ⟨(),rfl,hE.sub trivial,hM⟩
 ·skip
  rintro a w ⟨s8,ht,hE,hM⟩
  subst ht
  have hF7:=Va hF7
  refine Zu (Zc (Ze hE Za ld rfl fun a hE=>Zf ?_))
  have hr:=Option.some.inj hF7
  subst hr
  exact wp_ret (Zt hE rfl (Zs hE rfl) ⟨_,rfl,rfl,hM.kept⟩)
def We (p0 : GRecord) (p1 : GRecord) : Option (Bool) :=
 if (p0.Number != p1.Number) = true then (some false) else (if (p0.Version != p1.Version) = true then (some false) else ((YQ p0.Nonce p1.Nonce).bind fun r7=>if (!r7) = true then (some false) else ((YR p0.Label p1.Label).bind fun r10=>if (!r10) = true then (some false) else ((YR p0.Body p1.Body).bind fun r13=>if (!r13) = true then (some false) else ((YC p0.Tag p1.Tag).bind fun r16=>if (!r16) = true then (some false) else (some true))))))
theorem JH (w0 : World) (p0 : GRecord) (v0_1 : Value) (hv0_1 : Ro w0 p0.Label [v0_1]) (v0_2 : Value) (hv0_2 : Ro w0 p0.Body [v0_2]) (p1 : GRecord) (v1_1 : Value) (hv1_1 : Ro w0 p1.Label [v1_1]) (v1_2 : Value) (hv1_2 : Ro w0 p1.Body [v1_2]) (r : Bool) (hF : We p0 p1 = some r) :
  Calls Tryz.prog 115 [(Value.agg (cat [[vI p0.Number],[vI p0.Version],enc p0.Nonce,[v0_1],[v0_2],enc p0.Tag]).toArray),(Value.agg (cat [[vI p1.Number],[vI p1.Version],enc p1.Nonce,[v1_1],[v1_2],enc p1.Tag]).toArray)].toArray w0 (fun en w'=>∃ v,en = .returned v ∧ (v = (vT r) ∧ Kept (Old w0) w0 w')):=by
 refine ZB (n:=39) Tryz.func115 rfl rfl (nbl rfl) rfl ?_
 intro a hE
 have hM:=M.start w0
 unfold We at hF
 refine Zc (ZT (cs:=cat [[vI p0.Number],[vI p0.Version],enc p0.Nonce,[v0_1],[v0_2],enc p0.Tag]) hE hM Za ld rfl rfl fun b1 w a hM hE=>ZT (cs:=cat [[vI p1.Number],[vI p1.Version],enc p1.Nonce,[v1_1],[v1_2],enc p1.Tag]) hE hM Za ld rfl rfl fun b3 w a hM hE=>Ze hE Za ld rfl fun a hE=>Zf (wp_seq (Zc (Zh hE Za ld rfl (J2) fun a hE=>ZA (v:=(vI p0.Number)) hE Za ld rfl ty2 rfl (At.cat (pre:=[]) (hM.rawAt (pre:=[_])) cl0) fun a hE=>Zh hE Za ld rfl (J2) fun a hE=>ZA (v:=(vI p1.Number)) hE Za ld rfl ty2 rfl (At.cat (pre:=[]) (hM.rawAt (pre:=[])) cl0) fun a hE=>Zi hE Za ld rfl rfl rfl fun a hE=>Zf ?_))))
 refine Zp hE rfl ?_ ?_
 ·intro hb5
  have hF:=Zz hF hb5
  refine Zc (Ze hE Za ld rfl fun a hE=>Zf ?_)
  have hr:=Option.some.inj hF
  subst hr
  have hM:=M.fst (l:=[]) hM
  exact wp_ret (Zq (Zt hE rfl (Zs hE rfl) ⟨_,rfl,rfl,hM.kept⟩))
 ·intro hb5
  have hF:=Zy hF hb5
  refine wp_skip (Zu (wp_seq (Zc (Zh hE Za ld rfl (JW) fun a hE=>ZA (v:=(vI p0.Version)) hE Za ld rfl ty2 rfl (At.cat (pre:=[[vI p0.Number]]) (hM.rawAt (pre:=[_])) (cl1 (n:=1) (m:=0) rfl cl0)) fun a hE=>Zh hE Za ld rfl (JW) fun a hE=>ZA (v:=(vI p1.Version)) hE Za ld rfl ty2 rfl (At.cat (pre:=[[vI p1.Number]]) (hM.rawAt (pre:=[])) (cl1 (n:=1) (m:=0) rfl cl0)) fun a hE=>Zi hE Za ld rfl rfl rfl fun a hE=>Zf ?_))))
  refine Zp hE rfl ?_ ?_
  ·intro hb6
   have hF:=Zz hF hb6
   refine Zc (Ze hE Za ld rfl fun a hE=>Zf ?_)
   have hr:=Option.some.inj hF
   subst hr
   have hM:=M.fst (l:=[]) hM
   exact wp_ret (Zq (Zt hE rfl (Zs hE rfl) ⟨_,rfl,rfl,hM.kept⟩))
  ·intro hb6
   have hF:=Zy hF hb6
   refine wp_skip (Zu (wp_seq (Zc (Zh hE Za ld rfl (JU) fun a hE=>Zo (cs:=enc p0.Nonce) hE Za ld rfl ZG rfl (At.cat (pre:=[[vI p0.Number],[vI p0.Version]]) (hM.rawAt (pre:=[_])) (cl1 (n:=1) (m:=1) rfl (cl1 (n:=1) (m:=0) rfl cl0))) (Flat.len _) fun a hE=>Zh hE Za ld rfl (JU) fun a hE=>Zo (cs:=enc p1.Nonce) hE Za ld rfl ZG rfl (At.cat (pre:=[[vI p1.Number],[vI p1.Version]]) (hM.rawAt (pre:=[])) (cl1 (n:=1) (m:=1) rfl (cl1 (n:=1) (m:=0) rfl cl0))) (Flat.len _) ?_)))); intro a hE
   obtain ⟨r7,e8,hF⟩:=bind_some hF
   refine Zw hE Za ld rfl cb18 (U4 _ p0.Nonce p1.Nonce r7 e8) ?_
   rintro v w a ⟨rfl,hK⟩ hE
   have hM:=hM.keep hK
   refine Wp hE Za ld rfl fun a hE=>Zf ?_
   refine Zp hE rfl ?_ ?_
   ·intro hb9
    have hF:=Zz hF hb9
    refine Zc (Ze hE Za ld rfl fun a hE=>Zf ?_)
    have hr:=Option.some.inj hF
    subst hr
    have hM:=M.fst (l:=[]) hM
    exact wp_ret (Zq (Zt hE rfl (Zs hE rfl) ⟨_,rfl,rfl,hM.kept⟩))
   ·intro hb9
    have hF:=Zy hF hb9
    refine wp_skip (Zu (wp_seq (Zc (Zh hE Za ld rfl (J0) fun a hE=>ZA (v:=v0_1) hE Za ld rfl UU rfl (At.cat (pre:=[[vI p0.Number],[vI p0.Version],enc p0.Nonce]) (hM.rawAt (pre:=[_])) (cl1 (n:=1) (m:=17) rfl (cl1 (n:=1) (m:=16) rfl (cl1 (n:=16) (m:=0) (Flat.len _) cl0)))) fun a hE=>Zh hE Za ld rfl (J0) fun a hE=>ZA (v:=v1_1) hE Za ld rfl UU rfl (At.cat (pre:=[[vI p1.Number],[vI p1.Version],enc p1.Nonce]) (hM.rawAt (pre:=[])) (cl1 (n:=1) (m:=17) rfl (cl1 (n:=1) (m:=16) rfl (cl1 (n:=16) (m:=0) (Flat.len _) cl0)))) ?_)))); intro a hE
    obtain ⟨r10,e11,hF⟩:=bind_some hF
    refine Zw hE Za ld rfl cb19 (U7 _ p0.Label v0_1 (hM.rdo hv0_1) p1.Label v1_1 (hM.rdo hv1_1) r10 e11) ?_
    rintro v w a ⟨rfl,hK⟩ hE
    have hM:=hM.keep hK
    refine Wp hE Za ld rfl fun a hE=>Zf ?_
    refine Zp hE rfl ?_ ?_
    ·intro hb12
     have hF:=Zz hF hb12
     refine Zc (Ze hE Za ld rfl fun a hE=>Zf ?_)
     have hr:=Option.some.inj hF
     subst hr
     have hM:=M.fst (l:=[]) hM
     exact wp_ret (Zq (Zt hE rfl (Zs hE rfl) ⟨_,rfl,rfl,hM.kept⟩))
    ·intro hb12
     have hF:=Zy hF hb12
     refine wp_skip (Zu (wp_seq (Zc (Zh hE Za ld rfl (JQ) fun a hE=>ZA (v:=v0_2) hE Za ld rfl UU rfl (At.cat (pre:=[[vI p0.Number],[vI p0.Version],enc p0.Nonce,[v0_1]]) (hM.rawAt (pre:=[_])) (cl1 (n:=1) (m:=18) rfl (cl1 (n:=1) (m:=17) rfl (cl1 (n:=16) (m:=1) (Flat.len _) (cl1 (n:=1) (m:=0) rfl cl0))))) fun a hE=>Zh hE Za ld rfl (JQ) fun a hE=>ZA (v:=v1_2) hE Za ld rfl UU rfl (At.cat (pre:=[[vI p1.Number],[vI p1.Version],enc p1.Nonce,[v1_1]]) (hM.rawAt (pre:=[])) (cl1 (n:=1) (m:=18) rfl (cl1 (n:=1) (m:=17) rfl (cl1 (n:=16) (m:=1) (Flat.len _) (cl1 (n:=1) (m:=0) rfl cl0))))) ?_)))); intro a hE
     obtain ⟨r13,e14,hF⟩:=bind_some hF
     refine Zw hE Za ld rfl cb19 (U7 _ p0.Body v0_2 (hM.rdo hv0_2) p1.Body v1_2 (hM.rdo hv1_2) r13 e14) ?_
     rintro v w a ⟨rfl,hK⟩ hE
     have hM:=hM.keep hK
     refine Wp hE Za ld rfl fun a hE=>Zf ?_
     refine Zp hE rfl ?_ ?_
     ·intro hb15
      have hF:=Zz hF hb15
      refine Zc (Ze hE Za ld rfl fun a hE=>Zf ?_)
      have hr:=Option.some.inj hF
      subst hr
      have hM:=M.fst (l:=[]) hM
      exact wp_ret (Zq (Zt hE rfl (Zs hE rfl) ⟨_,rfl,rfl,hM.kept⟩))
     ·intro hb15
      have hF:=Zy hF hb15
      refine wp_skip (Zu (wp_seq (Zc (Zh hE Za ld rfl (JX) fun a hE=>Zo (cs:=enc p0.Tag) hE Za ld rfl Yi rfl (At.cat (pre:=[[vI p0.Number],[vI p0.Version],enc p0.Nonce,[v0_1],[v0_2]]) (hM.rawAt (pre:=[_])) (cl1 (n:=1) (m:=19) rfl (cl1 (n:=1) (m:=18) rfl (cl1 (n:=16) (m:=2) (Flat.len _) (cl1 (n:=1) (m:=1) rfl (cl1 (n:=1) (m:=0) rfl cl0)))))) (Flat.len _) fun a hE=>Zh hE Za ld rfl (JX) fun a hE=>Zo (cs:=enc p1.Tag) hE Za ld rfl Yi rfl (At.cat (pre:=[[vI p1.Number],[vI p1.Version],enc p1.Nonce,[v1_1],[v1_2]]) (hM.rawAt (pre:=[])) (cl1 (n:=1) (m:=19) rfl (cl1 (n:=1) (m:=18) rfl (cl1 (n:=16) (m:=2) (Flat.len _) (cl1 (n:=1) (m:=1) rfl (cl1 (n:=1) (m:=0) rfl cl0)))))) (Flat.len _) ?_)))); intro a hE
      obtain ⟨r16,e17,hF⟩:=bind_some hF
      refine Zw hE Za ld rfl cb54 (UE _ p0.Tag p1.Tag r16 e17) ?_
      rintro v w a ⟨rfl,hK⟩ hE
      have hM:=hM.keep hK
      refine Wp hE Za ld rfl fun a hE=>Zf ?_
      refine Zp hE rfl ?_ ?_
      ·intro hb18
       have hF:=Zz hF hb18
       refine Zc (Ze hE Za ld rfl fun a hE=>Zf ?_)
       have hr:=Option.some.inj hF
       subst hr
       have hM:=M.fst (l:=[]) hM
       exact wp_ret (Zq (Zt hE rfl (Zs hE rfl) ⟨_,rfl,rfl,hM.kept⟩))
      ·intro hb18
       have hF:=Zy hF hb18
       refine wp_skip (Zu (Zc (Ze hE Za ld rfl fun a hE=>Zf ?_)))
       have hr:=Option.some.inj hF
       subst hr
       have hM:=M.fst (l:=[]) hM
       exact wp_ret (Zt hE rfl (Zs hE rfl) ⟨_,rfl,rfl,hM.kept⟩)
def VJ (p0 : (List GRecord)) (p1 : (List GRecord)) (s6 : Int) : Option (Fl Int (Fl Unit Bool)) :=
 if (decide (s6 < (p0.length : Int))) = true then (((idx p0 s6).bind fun x15=>(idx p1 s6).bind fun x25=>(We x15 x25).bind fun r35=>some (!r35) : Option (Bool)).bind fun j11=>if j11 = true then (some (Fl.ex (Fl.ex false))) else (some (Fl.nx (wr (s6 + 1))))) else (some (Fl.ex (Fl.nx ())))
def WW (p0 : (List GRecord)) (p1 : (List GRecord)) : Option (Bool) :=
 if ((p0.length : Int) != (p1.length : Int)) = true then (some false) else ((ZE (VJ p0 p1) 0).bind fun j2=>j2.el (fun s5=>some true) (fun r=>some r))
theorem KZ (w0 : World) (p0 : (List GRecord)) (v0_1 : Value) (hv0_1 : Ro w0 p0 [v0_1]) (p1 : (List GRecord)) (v1_1 : Value) (hv1_1 : Ro w0 p1 [v1_1]) (r : Bool) (hF : WW p0 p1 = some r) :
  Calls Tryz.prog 52 [v0_1,v1_1].toArray w0 (fun en w'=>∃ v,en = .returned v ∧ (v = (vT r) ∧ Kept (Old w0) w0 w')):=by
 refine ZB (n:=27) Tryz.func52 rfl rfl (nbl rfl) rfl ?_
 intro a hE
 have hM:=M.start w0
 unfold WW at hF
 refine Zc (Ze hE Za ld rfl fun a hE=>Zf (wp_seq (Zc (Zd hE Za ld rfl fun a hE=>Yf hE Za ld rfl Tryz.underlying34 (hM.rd hv0_1) fun a hE=>Zd hE Za ld rfl fun a hE=>Yf hE Za ld rfl Tryz.underlying34 (hM.rd hv1_1) fun a hE=>Zi hE Za ld rfl rfl rfl fun a hE=>Zf ?_))))
 refine Zp hE rfl ?_ ?_
 ·intro hb1
  have hF:=Zz hF hb1
  refine Zc (Ze hE Za ld rfl fun a hE=>Zf ?_)
  have hr:=Option.some.inj hF
  subst hr
  exact wp_ret (Zq (Zt hE rfl (Zs hE rfl) ⟨_,rfl,rfl,hM.kept⟩))
 ·intro hb1
  have hF:=Zy hF hb1
  refine wp_skip (Zu (wp_seq (Zc (Ze hE Za ld rfl fun a hE=>Zf ?_))))
  obtain ⟨j2,hl3,hF4⟩:=bind_some hF
  refine ZL (fun a w=>∃ s5 : Unit,j2 = Fl.nx s5 ∧ Env 27 a [] ∧ M (Old w0) w0 w []) ?_ ?_
  ·skip
   refine wp_block ?_
   refine ZC (fun (s6 : Int) a w=>Env 27 a [(0,v0_1),(1,v1_1),(5,vI s6)] ∧ M (Old w0) w0 w []) hl3 ⟨hE.sub ⟨rfl,rfl,rfl,trivial⟩,hM⟩ ?_
   rintro s6 a w ⟨hE,hM⟩ o9 hs7 hx8
   unfold VJ at hs7
   refine wp_seq (Zc (Zd hE Za ld rfl fun a hE=>Zd hE Za ld rfl fun a hE=>Yf hE Za ld rfl Tryz.underlying34 (hM.rd hv0_1) fun a hE=>Zi hE Za ld rfl rfl rfl fun a hE=>Zf ?_))
   refine Zp hE rfl ?_ ?_
   ·intro hb10
    have hs7:=Zz hs7 hb10
    refine wp_skip (Zu (wp_seq (wp_block ?_)))
    obtain ⟨j11,hl12,hF13⟩:=bind_some hs7
    refine ZQ (fun a w=>Env 27 a [(0,v0_1),(1,v1_1),(5,vI s6),(26,vT j11)] ∧ M (Old w0) w0 w []) ?_ ?_
    ·skip
     obtain ⟨x15,hi17,hl12⟩:=bix hl12
     obtain ⟨cs18,hs19,hA20⟩:=Uq hv0_1 hi17.2 -- ^
     obtain ⟨u21,u23,rfl,h22,h24⟩:=VS hs19 -- ^
     obtain ⟨x25,hi27,hl12⟩:=bix hl12
     obtain ⟨cs28,hs29,hA30⟩:=Uq hv1_1 hi27.2 -- ^
     obtain ⟨u31,u33,rfl,h32,h34⟩:=VS hs29 -- ^
     obtain ⟨r35,e36,hl12⟩:=bind_some hl12
     refine Yg (n:=27) (hd:=[_,_,_,_,_,_,_,_,_,_]) (tl:=[]) YN rfl rfl [17,18,19,20,21,22,23,24,25,26] (by decide) (fun w=>M (Old w0) w0 w []) (fun j=>([fun v _=>v = v0_1,fun v _=>v = (vI s6),fun v _=>v = (ptr (sb v0_1) (so v0_1 + (s6).toNat * 52)),fun v _=>v = (Value.agg (cat [[vI x15.Number],[vI x15.Version],enc x15.Nonce,[u21],[u23],enc x15.Tag]).toArray),fun v _=>v = v1_1,fun v _=>v = (vI s6),fun v _=>v = (ptr (sb v1_1) (so v1_1 + (s6).toNat * 52)),fun v _=>v = (Value.agg (cat [[vI x25.Number],[vI x25.Version],enc x25.Nonce,[u31],[u33],enc x25.Tag]).toArray),fun v _=>v = (vT r35),fun v _=>v = (vT (!r35))] : List (Value → World → Prop)).getD j (fun _ _=>True)) (fun _ _ h hk=>h.keep hk) (gup (Zn (Zn (Zn (Zn (Zn (Zn (Zn (Zn (Zn (Zn Vb))))))))))) hE hM.drew (ZJ (Zb ?_ (Zb ?_ (Zb ?_ (Zb ?_ (Zb ?_ (Zb ?_ (Zb ?_ (Zb ?_ (Zb ?_ (Zb ?_ ZF))))))))))) ?_
     ·exact fun a w ux14 hE hM hp=>Zd hE Za ld rfl fun a hE=>⟨Kept.refl _ _,_,_,rfl,hE,rfl⟩
     ·exact fun a w ux14 hE hM hp=>Zd hE Za ld rfl fun a hE=>⟨Kept.refl _ _,_,_,rfl,hE,rfl⟩
     ·intro a w ux14 hE hM hp
      have f0 : ux14 0 = v0_1:=hp 0 _ rfl rfl
      have f1 : ux14 1 = (vI s6):=hp 1 _ rfl rfl
      exact ZK hE Za ld (lk rfl f0) (lk rfl f1) Tryz.underlying34 Ur (hM.rd hv0_1) hi17.1 fun a hE=>⟨Kept.refl _ _,_,_,rfl,hE,rfl⟩
     ·intro a w ux14 hE hM hp
      have f2 : ux14 2 = (ptr (sb v0_1) (so v0_1 + (s6).toNat * 52)):=hp 0 _ rfl rfl
      exact Zo (cs:=cat [[vI x15.Number],[vI x15.Version],enc x15.Nonce,[u21],[u23],enc x15.Tag]) hE Za ld (lk rfl f2) Ur rfl (hM.atk hA20 (Ta hv0_1 hi17.2)) (Zg (cl1 (n:=1) (m:=51) rfl (cl1 (n:=1) (m:=50) rfl (cl1 (n:=16) (m:=34) (Flat.len _) (cl1 (n:=1) (m:=33) rfl (cl1 (n:=1) (m:=32) rfl (cl1 (n:=32) (m:=0) (Flat.len _) cl0))))))) fun a hE=>⟨Kept.refl _ _,_,_,rfl,hE,rfl⟩
     ·exact fun a w ux14 hE hM hp=>Zd hE Za ld rfl fun a hE=>⟨Kept.refl _ _,_,_,rfl,hE,rfl⟩
     ·exact fun a w ux14 hE hM hp=>Zd hE Za ld rfl fun a hE=>⟨Kept.refl _ _,_,_,rfl,hE,rfl⟩
     ·intro a w ux14 hE hM hp
      have f4 : ux14 4 = v1_1:=hp 0 _ rfl rfl
      have f5 : ux14 5 = (vI s6):=hp 1 _ rfl rfl
      exact ZK hE Za ld (lk rfl f4) (lk rfl f5) Tryz.underlying34 Ur (hM.rd hv1_1) hi27.1 fun a hE=>⟨Kept.refl _ _,_,_,rfl,hE,rfl⟩
     ·intro a w ux14 hE hM hp
      have f6 : ux14 6 = (ptr (sb v1_1) (so v1_1 + (s6).toNat * 52)):=hp 0 _ rfl rfl
      exact Zo (cs:=cat [[vI x25.Number],[vI x25.Version],enc x25.Nonce,[u31],[u33],enc x25.Tag]) hE Za ld (lk rfl f6) Ur rfl (hM.atk hA30 (Ta hv1_1 hi27.2)) (Zg (cl1 (n:=1) (m:=51) rfl (cl1 (n:=1) (m:=50) rfl (cl1 (n:=16) (m:=34) (Flat.len _) (cl1 (n:=1) (m:=33) rfl (cl1 (n:=1) (m:=32) rfl (cl1 (n:=32) (m:=0) (Flat.len _) cl0))))))) fun a hE=>⟨Kept.refl _ _,_,_,rfl,hE,rfl⟩
     ·intro a w ux14 hE hM hp
      have f3 : ux14 3 = (Value.agg (cat [[vI x15.Number],[vI x15.Version],enc x15.Nonce,[u21],[u23],enc x15.Tag]).toArray):=hp 0 _ rfl rfl
      have f7 : ux14 7 = (Value.agg (cat [[vI x25.Number],[vI x25.Version],enc x25.Nonce,[u31],[u33],enc x25.Tag]).toArray):=hp 1 _ rfl rfl
      refine Zw hE Za ld (Z7 (Z2 (lk rfl f3) (Z2 (lk rfl f7) X8))) cb115 (JH _ x15 u21 (hM.rdo h22) u23 (hM.rdo h24) x25 u31 (hM.rdo h32) u33 (hM.rdo h34) r35 e36) ?_
      rintro v w a ⟨rfl,hK⟩ hE
      exact ⟨hK,_,_,rfl,hE,rfl⟩
     ·intro a w ux14 hE hM hp
      have f8 : ux14 8 = (vT r35):=hp 0 _ rfl rfl
      exact Wp hE Za ld (lk rfl f8) fun a hE=>⟨Kept.refl _ _,_,_,rfl,hE,rfl⟩
     ·intro a w ux14 hE hM hg
      have hE:=hE.sub (e':=[(26,(vT (!r35))),(0,v0_1),(1,v1_1),(5,vI s6),(11,vI s6),(12,v0_1),(13,(vI (p0.length : Int))),(14,(vT (decide (s6 < (p0.length : Int)))))]) ⟨lk rfl (hg 9 (by decide)),rfl,rfl,rfl,rfl,rfl,rfl,rfl,trivial⟩
      refine Zj ?_
      have ht37:=Option.some.inj hl12
      subst ht37
      refine Zl ?_
      exact ⟨hE.sub ⟨rfl,rfl,rfl,rfl,trivial⟩,hM⟩
    ·skip
     rintro a w ⟨hE,hM⟩
     refine Zp hE rfl ?_ ?_
     ·intro hb38
      have hF13:=Zz hF13 hb38
      refine Zc (Ze hE Za ld rfl fun a hE=>Zf ?_)
      have ht39:=hx8 _ (ois hF13)
      subst ht39
      have hr:=Option.some.inj hF4
      subst hr
      exact wp_ret (Z1 (Zq (Zq (Z1 (Zq (Zq (Zt hE rfl (Zs hE rfl) ⟨_,rfl,rfl,hM.kept⟩)))))))
     ·intro hb38
      have hF13:=Zy hF13 hb38
      refine wp_skip (ZZ (Zu (wp_region_lit (Zd hE Za ld rfl fun a hE=>Zi hE Za ld rfl rfl rfl fun a hE=>Ze hE Za ld rfl fun a hE=>Zj (Zl ?_)))))
      exact ⟨_,(ois hF13),hE.sub ⟨rfl,rfl,rfl,trivial⟩,hM⟩
   ·intro hb10
    have hs7:=Zy hs7 hb10
    refine wp_exit (Zm (Zm (Z0 ?_)))
    have ht40:=hx8 _ (ois hs7)
    subst ht40
    refine Zl ?_
    exact ⟨(),rfl,hE.sub trivial,hM⟩
  ·skip
   rintro a w ⟨s5,ht,hE,hM⟩
   subst ht
   have hF4:=Va hF4
   refine Zu (Zc (Ze hE Za ld rfl fun a hE=>Zf ?_))
   have hr:=Option.some.inj hF4
   subst hr
   exact wp_ret (Zt hE rfl (Zs hE rfl) ⟨_,rfl,rfl,hM.kept⟩)
def W5 (p0 : GEvent) (p1 : GEvent) : Option (Bool) :=
 if (p0.Kind != p1.Kind) = true then (some false) else (if (p0.Number != p1.Number) = true then (some false) else ((YC p0.Tag p1.Tag).bind fun r7=>if (!r7) = true then (some false) else (some true)))
theorem He (w0 : World) (p0 : GEvent) (p1 : GEvent) (r : Bool) (hF : W5 p0 p1 = some r) :
  Calls Tryz.prog 116 [(Value.agg (enc p0).toArray),(Value.agg (enc p1).toArray)].toArray w0 (fun en w'=>∃ v,en = .returned v ∧ (v = (vT r) ∧ Kept (Old w0) w0 w')):=by
 refine ZB (n:=21) Tryz.func116 rfl rfl (nbl rfl) rfl ?_
 intro a hE
 have hM:=M.start w0
 unfold W5 at hF
 refine Zc (ZT (cs:=cat [[vI p0.Kind],[vI p0.Number],enc p0.Tag]) hE hM Za ld rfl rfl fun b1 w a hM hE=>ZT (cs:=cat [[vI p1.Kind],[vI p1.Number],enc p1.Tag]) hE hM Za ld rfl rfl fun b3 w a hM hE=>Ze hE Za ld rfl fun a hE=>Zf (wp_seq (Zc (Zh hE Za ld rfl (QC) fun a hE=>ZA (v:=(vI p0.Kind)) hE Za ld rfl ty2 rfl (At.cat (pre:=[]) (hM.rawAt (pre:=[_])) cl0) fun a hE=>Zh hE Za ld rfl (QC) fun a hE=>ZA (v:=(vI p1.Kind)) hE Za ld rfl ty2 rfl (At.cat (pre:=[]) (hM.rawAt (pre:=[])) cl0) fun a hE=>Zi hE Za ld rfl rfl rfl fun a hE=>Zf ?_))))
 refine Zp hE rfl ?_ ?_
 ·intro hb5
  have hF:=Zz hF hb5
  refine Zc (Ze hE Za ld rfl fun a hE=>Zf ?_)
  have hr:=Option.some.inj hF
  subst hr
  have hM:=M.fst (l:=[]) hM
  exact wp_ret (Zq (Zt hE rfl (Zs hE rfl) ⟨_,rfl,rfl,hM.kept⟩))
 ·intro hb5
  have hF:=Zy hF hb5
  refine wp_skip (Zu (wp_seq (Zc (Zh hE Za ld rfl (QJ) fun a hE=>ZA (v:=(vI p0.Number)) hE Za ld rfl ty2 rfl (At.cat (pre:=[[vI p0.Kind]]) (hM.rawAt (pre:=[_])) (cl1 (n:=1) (m:=0) rfl cl0)) fun a hE=>Zh hE Za ld rfl (QJ) fun a hE=>ZA (v:=(vI p1.Number)) hE Za ld rfl ty2 rfl (At.cat (pre:=[[vI p1.Kind]]) (hM.rawAt (pre:=[])) (cl1 (n:=1) (m:=0) rfl cl0)) fun a hE=>Zi hE Za ld rfl rfl rfl fun a hE=>Zf ?_))))
  refine Zp hE rfl ?_ ?_
  ·intro hb6
   have hF:=Zz hF hb6
   refine Zc (Ze hE Za ld rfl fun a hE=>Zf ?_)
   have hr:=Option.some.inj hF
   subst hr
   have hM:=M.fst (l:=[]) hM
   exact wp_ret (Zq (Zt hE rfl (Zs hE rfl) ⟨_,rfl,rfl,hM.kept⟩))
  ·intro hb6
   have hF:=Zy hF hb6
   refine wp_skip (Zu (wp_seq (Zc (Zh hE Za ld rfl (QD) fun a hE=>Zo (cs:=enc p0.Tag) hE Za ld rfl Yi rfl (At.cat (pre:=[[vI p0.Kind],[vI p0.Number]]) (hM.rawAt (pre:=[_])) (cl1 (n:=1) (m:=1) rfl (cl1 (n:=1) (m:=0) rfl cl0))) (Flat.len _) fun a hE=>Zh hE Za ld rfl (QD) fun a hE=>Zo (cs:=enc p1.Tag) hE Za ld rfl Yi rfl (At.cat (pre:=[[vI p1.Kind],[vI p1.Number]]) (hM.rawAt (pre:=[])) (cl1 (n:=1) (m:=1) rfl (cl1 (n:=1) (m:=0) rfl cl0))) (Flat.len _) ?_)))); intro a hE
   obtain ⟨r7,e8,hF⟩:=bind_some hF
   refine Zw hE Za ld rfl cb54 (UE _ p0.Tag p1.Tag r7 e8) ?_
   rintro v w a ⟨rfl,hK⟩ hE
   have hM:=hM.keep hK
   refine Wp hE Za ld rfl fun a hE=>Zf ?_
   refine Zp hE rfl ?_ ?_
   ·intro hb9
    have hF:=Zz hF hb9
    refine Zc (Ze hE Za ld rfl fun a hE=>Zf ?_)
    have hr:=Option.some.inj hF
    subst hr
    have hM:=M.fst (l:=[]) hM
    exact wp_ret (Zq (Zt hE rfl (Zs hE rfl) ⟨_,rfl,rfl,hM.kept⟩))
   ·intro hb9
    have hF:=Zy hF hb9
    refine wp_skip (Zu (Zc (Ze hE Za ld rfl fun a hE=>Zf ?_)))
    have hr:=Option.some.inj hF
    subst hr
    have hM:=M.fst (l:=[]) hM
    exact wp_ret (Zt hE rfl (Zs hE rfl) ⟨_,rfl,rfl,hM.kept⟩)
def Ug (p0 : (List GEvent)) (p1 : (List GEvent)) (s6 : Int) : Option (Fl Int (Fl Unit Bool)) :=
 if (decide (s6 < (p0.length : Int))) = true then (((idx p0 s6).bind fun x15=>(idx p1 s6).bind fun x18=>(W5 x15 x18).bind fun r21=>some (!r21) : Option (Bool)).bind fun j11=>if j11 = true then (some (Fl.ex (Fl.ex false))) else (some (Fl.nx (wr (s6 + 1))))) else (some (Fl.ex (Fl.nx ())))
def VB (p0 : (List GEvent)) (p1 : (List GEvent)) : Option (Bool) :=
 if ((p0.length : Int) != (p1.length : Int)) = true then (some false) else ((ZE (Ug p0 p1) 0).bind fun j2=>j2.el (fun s5=>some true) (fun r=>some r))
theorem Jv (w0 : World) (p0 : (List GEvent)) (v0_1 : Value) (hv0_1 : Ro w0 p0 [v0_1]) (p1 : (List GEvent)) (v1_1 : Value) (hv1_1 : Ro w0 p1 [v1_1]) (r : Bool) (hF : VB p0 p1 = some r) :
  Calls Tryz.prog 53 [v0_1,v1_1].toArray w0 (fun en w'=>∃ v,en = .returned v ∧ (v = (vT r) ∧ Kept (Old w0) w0 w')):=by
 refine ZB (n:=27) Tryz.func53 rfl rfl (nbl rfl) rfl ?_
 intro a hE
 have hM:=M.start w0
 unfold VB at hF
 refine Zc (Ze hE Za ld rfl fun a hE=>Zf (wp_seq (Zc (Zd hE Za ld rfl fun a hE=>Yf hE Za ld rfl Tryz.underlying35 (hM.rd hv0_1) fun a hE=>Zd hE Za ld rfl fun a hE=>Yf hE Za ld rfl Tryz.underlying35 (hM.rd hv1_1) fun a hE=>Zi hE Za ld rfl rfl rfl fun a hE=>Zf ?_))))
 refine Zp hE rfl ?_ ?_
 ·intro hb1
  have hF:=Zz hF hb1
  refine Zc (Ze hE Za ld rfl fun a hE=>Zf ?_)
  have hr:=Option.some.inj hF
  subst hr
  exact wp_ret (Zq (Zt hE rfl (Zs hE rfl) ⟨_,rfl,rfl,hM.kept⟩))
 ·intro hb1
  have hF:=Zy hF hb1
  refine wp_skip (Zu (wp_seq (Zc (Ze hE Za ld rfl fun a hE=>Zf ?_))))
  obtain ⟨j2,hl3,hF4⟩:=bind_some hF
  refine ZL (fun a w=>∃ s5 : Unit,j2 = Fl.nx s5 ∧ Env 27 a [] ∧ M (Old w0) w0 w []) ?_ ?_
  ·skip
   refine wp_block ?_
   refine ZC (fun (s6 : Int) a w=>Env 27 a [(0,v0_1),(1,v1_1),(5,vI s6)] ∧ M (Old w0) w0 w []) hl3 ⟨hE.sub ⟨rfl,rfl,rfl,trivial⟩,hM⟩ ?_
   rintro s6 a w ⟨hE,hM⟩ o9 hs7 hx8
   unfold Ug at hs7
   refine wp_seq (Zc (Zd hE Za ld rfl fun a hE=>Zd hE Za ld rfl fun a hE=>Yf hE Za ld rfl Tryz.underlying35 (hM.rd hv0_1) fun a hE=>Zi hE Za ld rfl rfl rfl fun a hE=>Zf ?_))
   refine Zp hE rfl ?_ ?_
   ·intro hb10
    have hs7:=Zz hs7 hb10
    refine wp_skip (Zu (wp_seq (wp_block ?_)))
    obtain ⟨j11,hl12,hF13⟩:=bind_some hs7
    refine ZQ (fun a w=>Env 27 a [(0,v0_1),(1,v1_1),(5,vI s6),(26,vT j11)] ∧ M (Old w0) w0 w []) ?_ ?_
    ·skip
     obtain ⟨x15,hi17,hl12⟩:=bix hl12
     obtain ⟨x18,hi20,hl12⟩:=bix hl12
     obtain ⟨r21,e22,hl12⟩:=bind_some hl12
     refine Yg (n:=27) (hd:=[_,_,_,_,_,_,_,_,_,_]) (tl:=[]) YN rfl rfl [17,18,19,20,21,22,23,24,25,26] (by decide) (fun w=>M (Old w0) w0 w []) (fun j=>([fun v _=>v = v0_1,fun v _=>v = (vI s6),fun v _=>v = (ptr (sb v0_1) (so v0_1 + (s6).toNat * 34)),fun v _=>v = (Value.agg (enc x15).toArray),fun v _=>v = v1_1,fun v _=>v = (vI s6),fun v _=>v = (ptr (sb v1_1) (so v1_1 + (s6).toNat * 34)),fun v _=>v = (Value.agg (enc x18).toArray),fun v _=>v = (vT r21),fun v _=>v = (vT (!r21))] : List (Value → World → Prop)).getD j (fun _ _=>True)) (fun _ _ h hk=>h.keep hk) (gup (Zn (Zn (Zn (Zn (Zn (Zn (Zn (Zn (Zn (Zn Vb))))))))))) hE hM.drew (ZJ (Zb ?_ (Zb ?_ (Zb ?_ (Zb ?_ (Zb ?_ (Zb ?_ (Zb ?_ (Zb ?_ (Zb ?_ (Zb ?_ ZF))))))))))) ?_
     ·exact fun a w ux14 hE hM hp=>Zd hE Za ld rfl fun a hE=>⟨Kept.refl _ _,_,_,rfl,hE,rfl⟩
     ·exact fun a w ux14 hE hM hp=>Zd hE Za ld rfl fun a hE=>⟨Kept.refl _ _,_,_,rfl,hE,rfl⟩
     ·intro a w ux14 hE hM hp
      have f0 : ux14 0 = v0_1:=hp 0 _ rfl rfl
      have f1 : ux14 1 = (vI s6):=hp 1 _ rfl rfl
      exact ZK hE Za ld (lk rfl f0) (lk rfl f1) Tryz.underlying35 U2 (hM.rd hv0_1) hi17.1 fun a hE=>⟨Kept.refl _ _,_,_,rfl,hE,rfl⟩
     ·intro a w ux14 hE hM hp
      have f2 : ux14 2 = (ptr (sb v0_1) (so v0_1 + (s6).toNat * 34)):=hp 0 _ rfl rfl
      exact Zo (cs:=enc x15) hE Za ld (lk rfl f2) U2 rfl (Xc (hM.rd hv0_1) hi17.2) (Zg (cl1 (n:=1) (m:=33) rfl (cl1 (n:=1) (m:=32) rfl (cl1 (n:=32) (m:=0) (Flat.len _) cl0)))) fun a hE=>⟨Kept.refl _ _,_,_,rfl,hE,rfl⟩
     ·exact fun a w ux14 hE hM hp=>Zd hE Za ld rfl fun a hE=>⟨Kept.refl _ _,_,_,rfl,hE,rfl⟩
     ·exact fun a w ux14 hE hM hp=>Zd hE Za ld rfl fun a hE=>⟨Kept.refl _ _,_,_,rfl,hE,rfl⟩
     ·intro a w ux14 hE hM hp
      have f4 : ux14 4 = v1_1:=hp 0 _ rfl rfl
      have f5 : ux14 5 = (vI s6):=hp 1 _ rfl rfl
      exact ZK hE Za ld (lk rfl f4) (lk rfl f5) Tryz.underlying35 U2 (hM.rd hv1_1) hi20.1 fun a hE=>⟨Kept.refl _ _,_,_,rfl,hE,rfl⟩
     ·intro a w ux14 hE hM hp
      have f6 : ux14 6 = (ptr (sb v1_1) (so v1_1 + (s6).toNat * 34)):=hp 0 _ rfl rfl
      exact Zo (cs:=enc x18) hE Za ld (lk rfl f6) U2 rfl (Xc (hM.rd hv1_1) hi20.2) (Zg (cl1 (n:=1) (m:=33) rfl (cl1 (n:=1) (m:=32) rfl (cl1 (n:=32) (m:=0) (Flat.len _) cl0)))) fun a hE=>⟨Kept.refl _ _,_,_,rfl,hE,rfl⟩
     ·intro a w ux14 hE hM hp
      have f3 : ux14 3 = (Value.agg (enc x15).toArray):=hp 0 _ rfl rfl
      have f7 : ux14 7 = (Value.agg (enc x18).toArray):=hp 1 _ rfl rfl
      refine Zw hE Za ld (Z7 (Z2 (lk rfl f3) (Z2 (lk rfl f7) X8))) cb116 (He _ x15 x18 r21 e22) ?_
      rintro v w a ⟨rfl,hK⟩ hE
      exact ⟨hK,_,_,rfl,hE,rfl⟩
     ·intro a w ux14 hE hM hp
      have f8 : ux14 8 = (vT r21):=hp 0 _ rfl rfl
      exact Wp hE Za ld (lk rfl f8) fun a hE=>⟨Kept.refl _ _,_,_,rfl,hE,rfl⟩
     ·intro a w ux14 hE hM hg
      have hE:=hE.sub (e':=[(26,(vT (!r21))),(0,v0_1),(1,v1_1),(5,vI s6),(11,vI s6),(12,v0_1),(13,(vI (p0.length : Int))),(14,(vT (decide (s6 < (p0.length : Int)))))]) ⟨lk rfl (hg 9 (by decide)),rfl,rfl,rfl,rfl,rfl,rfl,rfl,trivial⟩
      refine Zj ?_
      have ht23:=Option.some.inj hl12
      subst ht23
      refine Zl ?_
      exact ⟨hE.sub ⟨rfl,rfl,rfl,rfl,trivial⟩,hM⟩
    ·skip
     rintro a w ⟨hE,hM⟩
     refine Zp hE rfl ?_ ?_
     ·intro hb24
      have hF13:=Zz hF13 hb24
      refine Zc (Ze hE Za ld rfl fun a hE=>Zf ?_)
      have ht25:=hx8 _ (ois hF13)
      subst ht25
      have hr:=Option.some.inj hF4
      subst hr
      exact wp_ret (Z1 (Zq (Zq (Z1 (Zq (Zq (Zt hE rfl (Zs hE rfl) ⟨_,rfl,rfl,hM.kept⟩)))))))
     ·intro hb24
      have hF13:=Zy hF13 hb24
      refine wp_skip (ZZ (Zu (wp_region_lit (Zd hE Za ld rfl fun a hE=>Zi hE Za ld rfl rfl rfl fun a hE=>Ze hE Za ld rfl fun a hE=>Zj (Zl ?_)))))
      exact ⟨_,(ois hF13),hE.sub ⟨rfl,rfl,rfl,trivial⟩,hM⟩
   ·intro hb10
    have hs7:=Zy hs7 hb10
    refine wp_exit (Zm (Zm (Z0 ?_)))
    have ht26:=hx8 _ (ois hs7)
    subst ht26
    refine Zl ?_
    exact ⟨(),rfl,hE.sub trivial,hM⟩
  ·skip
   rintro a w ⟨s5,ht,hE,hM⟩
   subst ht
   have hF4:=Va hF4
   refine Zu (Zc (Ze hE Za ld rfl fun a hE=>Zf ?_))
   have hr:=Option.some.inj hF4
   subst hr
   exact wp_ret (Zt hE rfl (Zs hE rfl) ⟨_,rfl,rfl,hM.kept⟩)
def VM (p0 : GVault) (p1 : GVault) : Option (Bool) :=
 (Vl p0.Keys p1.Keys).bind fun r5=>if (!r5) = true then (some false) else (if (p0.Next != p1.Next) = true then (some false) else ((WW p0.Records p1.Records).bind fun r9=>if (!r9) = true then (some false) else ((VB p0.Events p1.Events).bind fun r12=>if (!r12) = true then (some false) else ((YC p0.Head p1.Head).bind fun r15=>if (!r15) = true then (some false) else (some true)))))
theorem HF (w0 : World) (p0 : GVault) (v0_1 : Value) (hv0_1 : Ro w0 p0.Keys [v0_1]) (v0_2 : Value) (hv0_2 : Ro w0 p0.Records [v0_2]) (v0_3 : Value) (hv0_3 : Ro w0 p0.Events [v0_3]) (p1 : GVault) (v1_1 : Value) (hv1_1 : Ro w0 p1.Keys [v1_1]) (v1_2 : Value) (hv1_2 : Ro w0 p1.Records [v1_2]) (v1_3 : Value) (hv1_3 : Ro w0 p1.Events [v1_3]) (r : Bool) (hF : VM p0 p1 = some r) :
  Calls Tryz.prog 20 [(Value.agg (cat [[v0_1],[vI p0.Next],[v0_2],[v0_3],enc p0.Head]).toArray),(Value.agg (cat [[v1_1],[vI p1.Next],[v1_2],[v1_3],enc p1.Head]).toArray)].toArray w0 (fun en w'=>∃ v,en = .returned v ∧ (v = (vT r) ∧ Kept (Old w0) w0 w')):=by
 refine ZB (n:=34) Tryz.func20 rfl rfl (nbl rfl) rfl ?_
 intro a hE
 have hM:=M.start w0
 unfold VM at hF
 refine Zc (ZT (cs:=cat [[v0_1],[vI p0.Next],[v0_2],[v0_3],enc p0.Head]) hE hM Za ld rfl rfl fun b1 w a hM hE=>ZT (cs:=cat [[v1_1],[vI p1.Next],[v1_2],[v1_3],enc p1.Head]) hE hM Za ld rfl rfl fun b3 w a hM hE=>Ze hE Za ld rfl fun a hE=>Zf (wp_seq (Zc (Zh hE Za ld rfl (BZ) fun a hE=>ZA (v:=v0_1) hE Za ld rfl ty33 rfl (At.cat (pre:=[]) (hM.rawAt (pre:=[_])) cl0) fun a hE=>Zh hE Za ld rfl (BZ) fun a hE=>ZA (v:=v1_1) hE Za ld rfl ty33 rfl (At.cat (pre:=[]) (hM.rawAt (pre:=[])) cl0) ?_)))); intro a hE
 obtain ⟨r5,e6,hF⟩:=bind_some hF
 refine Zw hE Za ld rfl cb51 (JP _ p0.Keys v0_1 (hM.rdo hv0_1) p1.Keys v1_1 (hM.rdo hv1_1) r5 e6) ?_
 rintro v w a ⟨rfl,hK⟩ hE
 have hM:=hM.keep hK
 refine Wp hE Za ld rfl fun a hE=>Zf ?_
 refine Zp hE rfl ?_ ?_
 ·intro hb7
  have hF:=Zz hF hb7
  refine Zc (Ze hE Za ld rfl fun a hE=>Zf ?_)
  have hr:=Option.some.inj hF
  subst hr
  have hM:=M.fst (l:=[]) hM
  exact wp_ret (Zq (Zt hE rfl (Zs hE rfl) ⟨_,rfl,rfl,hM.kept⟩))
 ·intro hb7
  have hF:=Zy hF hb7
  refine wp_skip (Zu (wp_seq (Zc (Zh hE Za ld rfl (z7) fun a hE=>ZA (v:=(vI p0.Next)) hE Za ld rfl ty2 rfl (At.cat (pre:=[[v0_1]]) (hM.rawAt (pre:=[_])) (cl1 (n:=1) (m:=0) rfl cl0)) fun a hE=>Zh hE Za ld rfl (z7) fun a hE=>ZA (v:=(vI p1.Next)) hE Za ld rfl ty2 rfl (At.cat (pre:=[[v1_1]]) (hM.rawAt (pre:=[])) (cl1 (n:=1) (m:=0) rfl cl0)) fun a hE=>Zi hE Za ld rfl rfl rfl fun a hE=>Zf ?_))))
  refine Zp hE rfl ?_ ?_
  ·intro hb8
   have hF:=Zz hF hb8
   refine Zc (Ze hE Za ld rfl fun a hE=>Zf ?_)
   have hr:=Option.some.inj hF
   subst hr
   have hM:=M.fst (l:=[]) hM
   exact wp_ret (Zq (Zt hE rfl (Zs hE rfl) ⟨_,rfl,rfl,hM.kept⟩))
  ·intro hb8
   have hF:=Zy hF hb8
   refine wp_skip (Zu (wp_seq (Zc (Zh hE Za ld rfl (BO) fun a hE=>ZA (v:=v0_2) hE Za ld rfl ty34 rfl (At.cat (pre:=[[v0_1],[vI p0.Next]]) (hM.rawAt (pre:=[_])) (cl1 (n:=1) (m:=1) rfl (cl1 (n:=1) (m:=0) rfl cl0))) fun a hE=>Zh hE Za ld rfl (BO) fun a hE=>ZA (v:=v1_2) hE Za ld rfl ty34 rfl (At.cat (pre:=[[v1_1],[vI p1.Next]]) (hM.rawAt (pre:=[])) (cl1 (n:=1) (m:=1) rfl (cl1 (n:=1) (m:=0) rfl cl0))) ?_)))); intro a hE
   obtain ⟨r9,e10,hF⟩:=bind_some hF
   refine Zw hE Za ld rfl cb52 (KZ _ p0.Records v0_2 (hM.rdo hv0_2) p1.Records v1_2 (hM.rdo hv1_2) r9 e10) ?_
   rintro v w a ⟨rfl,hK⟩ hE
   have hM:=hM.keep hK
   refine Wp hE Za ld rfl fun a hE=>Zf ?_
   refine Zp hE rfl ?_ ?_
   ·intro hb11
    have hF:=Zz hF hb11
    refine Zc (Ze hE Za ld rfl fun a hE=>Zf ?_)
    have hr:=Option.some.inj hF
    subst hr
    have hM:=M.fst (l:=[]) hM
    exact wp_ret (Zq (Zt hE rfl (Zs hE rfl) ⟨_,rfl,rfl,hM.kept⟩))
   ·intro hb11
    have hF:=Zy hF hb11
    refine wp_skip (Zu (wp_seq (Zc (Zh hE Za ld rfl (Bz) fun a hE=>ZA (v:=v0_3) hE Za ld rfl ty35 rfl (At.cat (pre:=[[v0_1],[vI p0.Next],[v0_2]]) (hM.rawAt (pre:=[_])) (cl1 (n:=1) (m:=2) rfl (cl1 (n:=1) (m:=1) rfl (cl1 (n:=1) (m:=0) rfl cl0)))) fun a hE=>Zh hE Za ld rfl (Bz) fun a hE=>ZA (v:=v1_3) hE Za ld rfl ty35 rfl (At.cat (pre:=[[v1_1],[vI p1.Next],[v1_2]]) (hM.rawAt (pre:=[])) (cl1 (n:=1) (m:=2) rfl (cl1 (n:=1) (m:=1) rfl (cl1 (n:=1) (m:=0) rfl cl0)))) ?_)))); intro a hE
    obtain ⟨r12,e13,hF⟩:=bind_some hF
    refine Zw hE Za ld rfl cb53 (Jv _ p0.Events v0_3 (hM.rdo hv0_3) p1.Events v1_3 (hM.rdo hv1_3) r12 e13) ?_
    rintro v w a ⟨rfl,hK⟩ hE
    have hM:=hM.keep hK
    refine Wp hE Za ld rfl fun a hE=>Zf ?_
    refine Zp hE rfl ?_ ?_
    ·intro hb14
     have hF:=Zz hF hb14
     refine Zc (Ze hE Za ld rfl fun a hE=>Zf ?_)
     have hr:=Option.some.inj hF
     subst hr
     have hM:=M.fst (l:=[]) hM
     exact wp_ret (Zq (Zt hE rfl (Zs hE rfl) ⟨_,rfl,rfl,hM.kept⟩))
    ·intro hb14
     have hF:=Zy hF hb14
     refine wp_skip (Zu (wp_seq (Zc (Zh hE Za ld rfl (yf) fun a hE=>Zo (cs:=enc p0.Head) hE Za ld rfl Yi rfl (At.cat (pre:=[[v0_1],[vI p0.Next],[v0_2],[v0_3]]) (hM.rawAt (pre:=[_])) (cl1 (n:=1) (m:=3) rfl (cl1 (n:=1) (m:=2) rfl (cl1 (n:=1) (m:=1) rfl (cl1 (n:=1) (m:=0) rfl cl0))))) (Flat.len _) fun a hE=>Zh hE Za ld rfl (yf) fun a hE=>Zo (cs:=enc p1.Head) hE Za ld rfl Yi rfl (At.cat (pre:=[[v1_1],[vI p1.Next],[v1_2],[v1_3]]) (hM.rawAt (pre:=[])) (cl1 (n:=1) (m:=3) rfl (cl1 (n:=1) (m:=2) rfl (cl1 (n:=1) (m:=1) rfl (cl1 (n:=1) (m:=0) rfl cl0))))) (Flat.len _) ?_)))); intro a hE
     obtain ⟨r15,e16,hF⟩:=bind_some hF
     refine Zw hE Za ld rfl cb54 (UE _ p0.Head p1.Head r15 e16) ?_
     rintro v w a ⟨rfl,hK⟩ hE
     have hM:=hM.keep hK
     refine Wp hE Za ld rfl fun a hE=>Zf ?_
     refine Zp hE rfl ?_ ?_
     ·intro hb17
      have hF:=Zz hF hb17
      refine Zc (Ze hE Za ld rfl fun a hE=>Zf ?_)
      have hr:=Option.some.inj hF
      subst hr
      have hM:=M.fst (l:=[]) hM
      exact wp_ret (Zq (Zt hE rfl (Zs hE rfl) ⟨_,rfl,rfl,hM.kept⟩))
     ·intro hb17
      have hF:=Zy hF hb17
      refine wp_skip (Zu (Zc (Ze hE Za ld rfl fun a hE=>Zf ?_)))
      have hr:=Option.some.inj hF
      subst hr
      have hM:=M.fst (l:=[]) hM
      exact wp_ret (Zt hE rfl (Zs hE rfl) ⟨_,rfl,rfl,hM.kept⟩)
def VI (p0 : (List (Vector UInt8 32))) (p1 : (List (Vector UInt8 32))) (s6 : Int) : Option (Fl Int (Fl Unit Bool)) :=
 if (decide (s6 < (p0.length : Int))) = true then (((idx p0 s6).bind fun x15=>(idx p1 s6).bind fun x18=>(YC x15 x18).bind fun r21=>some (!r21) : Option (Bool)).bind fun j11=>if j11 = true then (some (Fl.ex (Fl.ex false))) else (some (Fl.nx (wr (s6 + 1))))) else (some (Fl.ex (Fl.nx ())))
def WU (p0 : (List (Vector UInt8 32))) (p1 : (List (Vector UInt8 32))) : Option (Bool) :=
 if ((p0.length : Int) != (p1.length : Int)) = true then (some false) else ((ZE (VI p0 p1) 0).bind fun j2=>j2.el (fun s5=>some true) (fun r=>some r))
theorem Ja (w0 : World) (p0 : (List (Vector UInt8 32))) (v0_1 : Value) (hv0_1 : Ro w0 p0 [v0_1]) (p1 : (List (Vector UInt8 32))) (v1_1 : Value) (hv1_1 : Ro w0 p1 [v1_1]) (r : Bool) (hF : WU p0 p1 = some r) :
  Calls Tryz.prog 55 [v0_1,v1_1].toArray w0 (fun en w'=>∃ v,en = .returned v ∧ (v = (vT r) ∧ Kept (Old w0) w0 w')):=by
 refine ZB (n:=27) Tryz.func55 rfl rfl (nbl rfl) rfl ?_
 intro a hE
 have hM:=M.start w0
 unfold WU at hF
 refine Zc (Ze hE Za ld rfl fun a hE=>Zf (wp_seq (Zc (Zd hE Za ld rfl fun a hE=>Yf hE Za ld rfl Tryz.underlying40 (hM.rd hv0_1) fun a hE=>Zd hE Za ld rfl fun a hE=>Yf hE Za ld rfl Tryz.underlying40 (hM.rd hv1_1) fun a hE=>Zi hE Za ld rfl rfl rfl fun a hE=>Zf ?_))))
 refine Zp hE rfl ?_ ?_
 ·intro hb1
  have hF:=Zz hF hb1
  refine Zc (Ze hE Za ld rfl fun a hE=>Zf ?_)
  have hr:=Option.some.inj hF
  subst hr
  exact wp_ret (Zq (Zt hE rfl (Zs hE rfl) ⟨_,rfl,rfl,hM.kept⟩))
 ·intro hb1
  have hF:=Zy hF hb1
  refine wp_skip (Zu (wp_seq (Zc (Ze hE Za ld rfl fun a hE=>Zf ?_))))
  obtain ⟨j2,hl3,hF4⟩:=bind_some hF
  refine ZL (fun a w=>∃ s5 : Unit,j2 = Fl.nx s5 ∧ Env 27 a [] ∧ M (Old w0) w0 w []) ?_ ?_
  ·skip
   refine wp_block ?_
   refine ZC (fun (s6 : Int) a w=>Env 27 a [(0,v0_1),(1,v1_1),(5,vI s6)] ∧ M (Old w0) w0 w []) hl3 ⟨hE.sub ⟨rfl,rfl,rfl,trivial⟩,hM⟩ ?_
   rintro s6 a w ⟨hE,hM⟩ o9 hs7 hx8
   unfold VI at hs7
   refine wp_seq (Zc (Zd hE Za ld rfl fun a hE=>Zd hE Za ld rfl fun a hE=>Yf hE Za ld rfl Tryz.underlying40 (hM.rd hv0_1) fun a hE=>Zi hE Za ld rfl rfl rfl fun a hE=>Zf ?_))
   refine Zp hE rfl ?_ ?_
   ·intro hb10
    have hs7:=Zz hs7 hb10
    refine wp_skip (Zu (wp_seq (wp_block ?_)))
    obtain ⟨j11,hl12,hF13⟩:=bind_some hs7
    refine ZQ (fun a w=>Env 27 a [(0,v0_1),(1,v1_1),(5,vI s6),(26,vT j11)] ∧ M (Old w0) w0 w []) ?_ ?_
    ·skip
     obtain ⟨x15,hi17,hl12⟩:=bix hl12
     obtain ⟨x18,hi20,hl12⟩:=bix hl12
     obtain ⟨r21,e22,hl12⟩:=bind_some hl12
     refine Yg (n:=27) (hd:=[_,_,_,_,_,_,_,_,_,_]) (tl:=[]) YN rfl rfl [17,18,19,20,21,22,23,24,25,26] (by decide) (fun w=>M (Old w0) w0 w []) (fun j=>([fun v _=>v = v0_1,fun v _=>v = (vI s6),fun v _=>v = (ptr (sb v0_1) (so v0_1 + (s6).toNat * 32)),fun v _=>v = (Value.agg (enc x15).toArray),fun v _=>v = v1_1,fun v _=>v = (vI s6),fun v _=>v = (ptr (sb v1_1) (so v1_1 + (s6).toNat * 32)),fun v _=>v = (Value.agg (enc x18).toArray),fun v _=>v = (vT r21),fun v _=>v = (vT (!r21))] : List (Value → World → Prop)).getD j (fun _ _=>True)) (fun _ _ h hk=>h.keep hk) (gup (Zn (Zn (Zn (Zn (Zn (Zn (Zn (Zn (Zn (Zn Vb))))))))))) hE hM.drew (ZJ (Zb ?_ (Zb ?_ (Zb ?_ (Zb ?_ (Zb ?_ (Zb ?_ (Zb ?_ (Zb ?_ (Zb ?_ (Zb ?_ ZF))))))))))) ?_
     ·exact fun a w ux14 hE hM hp=>Zd hE Za ld rfl fun a hE=>⟨Kept.refl _ _,_,_,rfl,hE,rfl⟩
     ·exact fun a w ux14 hE hM hp=>Zd hE Za ld rfl fun a hE=>⟨Kept.refl _ _,_,_,rfl,hE,rfl⟩
     ·intro a w ux14 hE hM hp
      have f0 : ux14 0 = v0_1:=hp 0 _ rfl rfl
      have f1 : ux14 1 = (vI s6):=hp 1 _ rfl rfl
      exact ZK hE Za ld (lk rfl f0) (lk rfl f1) Tryz.underlying40 Yi (hM.rd hv0_1) hi17.1 fun a hE=>⟨Kept.refl _ _,_,_,rfl,hE,rfl⟩
     ·intro a w ux14 hE hM hp
      have f2 : ux14 2 = (ptr (sb v0_1) (so v0_1 + (s6).toNat * 32)):=hp 0 _ rfl rfl
      exact Zo (cs:=enc x15) hE Za ld (lk rfl f2) Yi rfl (Xc (hM.rd hv0_1) hi17.2) (Flat.len _) fun a hE=>⟨Kept.refl _ _,_,_,rfl,hE,rfl⟩
     ·exact fun a w ux14 hE hM hp=>Zd hE Za ld rfl fun a hE=>⟨Kept.refl _ _,_,_,rfl,hE,rfl⟩
     ·exact fun a w ux14 hE hM hp=>Zd hE Za ld rfl fun a hE=>⟨Kept.refl _ _,_,_,rfl,hE,rfl⟩
     ·intro a w ux14 hE hM hp
      have f4 : ux14 4 = v1_1:=hp 0 _ rfl rfl
      have f5 : ux14 5 = (vI s6):=hp 1 _ rfl rfl
      exact ZK hE Za ld (lk rfl f4) (lk rfl f5) Tryz.underlying40 Yi (hM.rd hv1_1) hi20.1 fun a hE=>⟨Kept.refl _ _,_,_,rfl,hE,rfl⟩
     ·intro a w ux14 hE hM hp
      have f6 : ux14 6 = (ptr (sb v1_1) (so v1_1 + (s6).toNat * 32)):=hp 0 _ rfl rfl
      exact Zo (cs:=enc x18) hE Za ld (lk rfl f6) Yi rfl (Xc (hM.rd hv1_1) hi20.2) (Flat.len _) fun a hE=>⟨Kept.refl _ _,_,_,rfl,hE,rfl⟩
     ·intro a w ux14 hE hM hp
      have f3 : ux14 3 = (Value.agg (enc x15).toArray):=hp 0 _ rfl rfl
      have f7 : ux14 7 = (Value.agg (enc x18).toArray):=hp 1 _ rfl rfl
      refine Zw hE Za ld (Z7 (Z2 (lk rfl f3) (Z2 (lk rfl f7) X8))) cb54 (UE _ x15 x18 r21 e22) ?_
      rintro v w a ⟨rfl,hK⟩ hE
      exact ⟨hK,_,_,rfl,hE,rfl⟩
     ·intro a w ux14 hE hM hp
      have f8 : ux14 8 = (vT r21):=hp 0 _ rfl rfl
      exact Wp hE Za ld (lk rfl f8) fun a hE=>⟨Kept.refl _ _,_,_,rfl,hE,rfl⟩
     ·intro a w ux14 hE hM hg
      have hE:=hE.sub (e':=[(26,(vT (!r21))),(0,v0_1),(1,v1_1),(5,vI s6),(11,vI s6),(12,v0_1),(13,(vI (p0.length : Int))),(14,(vT (decide (s6 < (p0.length : Int)))))]) ⟨lk rfl (hg 9 (by decide)),rfl,rfl,rfl,rfl,rfl,rfl,rfl,trivial⟩
      refine Zj ?_
      have ht23:=Option.some.inj hl12
      subst ht23
      refine Zl ?_
      exact ⟨hE.sub ⟨rfl,rfl,rfl,rfl,trivial⟩,hM⟩
    ·skip
     rintro a w ⟨hE,hM⟩
     refine Zp hE rfl ?_ ?_
     ·intro hb24
      have hF13:=Zz hF13 hb24
      refine Zc (Ze hE Za ld rfl fun a hE=>Zf ?_)
      have ht25:=hx8 _ (ois hF13)
      subst ht25
      have hr:=Option.some.inj hF4
      subst hr
      exact wp_ret (Z1 (Zq (Zq (Z1 (Zq (Zq (Zt hE rfl (Zs hE rfl) ⟨_,rfl,rfl,hM.kept⟩)))))))
     ·intro hb24
      have hF13:=Zy hF13 hb24
      refine wp_skip (ZZ (Zu (wp_region_lit (Zd hE Za ld rfl fun a hE=>Zi hE Za ld rfl rfl rfl fun a hE=>Ze hE Za ld rfl fun a hE=>Zj (Zl ?_)))))
      exact ⟨_,(ois hF13),hE.sub ⟨rfl,rfl,rfl,trivial⟩,hM⟩
   ·intro hb10
    have hs7:=Zy hs7 hb10
    refine wp_exit (Zm (Zm (Z0 ?_)))
    have ht26:=hx8 _ (ois hs7)
    subst ht26
    refine Zl ?_
    exact ⟨(),rfl,hE.sub trivial,hM⟩
  ·skip
   rintro a w ⟨s5,ht,hE,hM⟩
   subst ht
   have hF4:=Va hF4
   refine Zu (Zc (Ze hE Za ld rfl fun a hE=>Zf ?_))
   have hr:=Option.some.inj hF4
   subst hr
   exact wp_ret (Zt hE rfl (Zs hE rfl) ⟨_,rfl,rfl,hM.kept⟩)
def V9 (p0 : (List (List UInt8))) (p1 : (List (List UInt8))) (s6 : Int) : Option (Fl Int (Fl Unit Bool)) :=
 if (decide (s6 < (p0.length : Int))) = true then (((idx p0 s6).bind fun x15=>(idx p1 s6).bind fun x23=>(YR x15 x23).bind fun r31=>some (!r31) : Option (Bool)).bind fun j11=>if j11 = true then (some (Fl.ex (Fl.ex false))) else (some (Fl.nx (wr (s6 + 1))))) else (some (Fl.ex (Fl.nx ())))
def Vo (p0 : (List (List UInt8))) (p1 : (List (List UInt8))) : Option (Bool) :=
 if ((p0.length : Int) != (p1.length : Int)) = true then (some false) else ((ZE (V9 p0 p1) 0).bind fun j2=>j2.el (fun s5=>some true) (fun r=>some r))
theorem Jx (w0 : World) (p0 : (List (List UInt8))) (v0_1 : Value) (hv0_1 : Ro w0 p0 [v0_1]) (p1 : (List (List UInt8))) (v1_1 : Value) (hv1_1 : Ro w0 p1 [v1_1]) (r : Bool) (hF : Vo p0 p1 = some r) :
  Calls Tryz.prog 56 [v0_1,v1_1].toArray w0 (fun en w'=>∃ v,en = .returned v ∧ (v = (vT r) ∧ Kept (Old w0) w0 w')):=by
 refine ZB (n:=27) Tryz.func56 rfl rfl (nbl rfl) rfl ?_
 intro a hE
 have hM:=M.start w0
 unfold Vo at hF
 refine Zc (Ze hE Za ld rfl fun a hE=>Zf (wp_seq (Zc (Zd hE Za ld rfl fun a hE=>Yf hE Za ld rfl Tryz.underlying41 (hM.rd hv0_1) fun a hE=>Zd hE Za ld rfl fun a hE=>Yf hE Za ld rfl Tryz.underlying41 (hM.rd hv1_1) fun a hE=>Zi hE Za ld rfl rfl rfl fun a hE=>Zf ?_))))
 refine Zp hE rfl ?_ ?_
 ·intro hb1
  have hF:=Zz hF hb1
  refine Zc (Ze hE Za ld rfl fun a hE=>Zf ?_)
  have hr:=Option.some.inj hF
  subst hr
  exact wp_ret (Zq (Zt hE rfl (Zs hE rfl) ⟨_,rfl,rfl,hM.kept⟩))
 ·intro hb1
  have hF:=Zy hF hb1
  refine wp_skip (Zu (wp_seq (Zc (Ze hE Za ld rfl fun a hE=>Zf ?_))))
  obtain ⟨j2,hl3,hF4⟩:=bind_some hF
  refine ZL (fun a w=>∃ s5 : Unit,j2 = Fl.nx s5 ∧ Env 27 a [] ∧ M (Old w0) w0 w []) ?_ ?_
  ·skip
   refine wp_block ?_
   refine ZC (fun (s6 : Int) a w=>Env 27 a [(0,v0_1),(1,v1_1),(5,vI s6)] ∧ M (Old w0) w0 w []) hl3 ⟨hE.sub ⟨rfl,rfl,rfl,trivial⟩,hM⟩ ?_
   rintro s6 a w ⟨hE,hM⟩ o9 hs7 hx8
   unfold V9 at hs7
   refine wp_seq (Zc (Zd hE Za ld rfl fun a hE=>Zd hE Za ld rfl fun a hE=>Yf hE Za ld rfl Tryz.underlying41 (hM.rd hv0_1) fun a hE=>Zi hE Za ld rfl rfl rfl fun a hE=>Zf ?_))
   refine Zp hE rfl ?_ ?_
   ·intro hb10
    have hs7:=Zz hs7 hb10
    refine wp_skip (Zu (wp_seq (wp_block ?_)))
    obtain ⟨j11,hl12,hF13⟩:=bind_some hs7
    refine ZQ (fun a w=>Env 27 a [(0,v0_1),(1,v1_1),(5,vI s6),(26,vT j11)] ∧ M (Old w0) w0 w []) ?_ ?_
    ·skip
     obtain ⟨x15,hi17,hl12⟩:=bix hl12
     obtain ⟨cs18,hs19,hA20⟩:=Uq hv0_1 hi17.2 -- ^
     obtain ⟨u21,rfl⟩:=XE hs19 -- ^
     have h22:=hs19 -- ^
     obtain ⟨x23,hi25,hl12⟩:=bix hl12
     obtain ⟨cs26,hs27,hA28⟩:=Uq hv1_1 hi25.2 -- ^
     obtain ⟨u29,rfl⟩:=XE hs27 -- ^
     have h30:=hs27 -- ^
     obtain ⟨r31,e32,hl12⟩:=bind_some hl12
     refine Yg (n:=27) (hd:=[_,_,_,_,_,_,_,_,_,_]) (tl:=[]) YN rfl rfl [17,18,19,20,21,22,23,24,25,26] (by decide) (fun w=>M (Old w0) w0 w []) (fun j=>([fun v _=>v = v0_1,fun v _=>v = (vI s6),fun v _=>v = (ptr (sb v0_1) (so v0_1 + (s6).toNat * 1)),fun v _=>v = u21,fun v _=>v = v1_1,fun v _=>v = (vI s6),fun v _=>v = (ptr (sb v1_1) (so v1_1 + (s6).toNat * 1)),fun v _=>v = u29,fun v _=>v = (vT r31),fun v _=>v = (vT (!r31))] : List (Value → World → Prop)).getD j (fun _ _=>True)) (fun _ _ h hk=>h.keep hk) (gup (Zn (Zn (Zn (Zn (Zn (Zn (Zn (Zn (Zn (Zn Vb))))))))))) hE hM.drew (ZJ (Zb ?_ (Zb ?_ (Zb ?_ (Zb ?_ (Zb ?_ (Zb ?_ (Zb ?_ (Zb ?_ (Zb ?_ (Zb ?_ ZF))))))))))) ?_
     ·exact fun a w ux14 hE hM hp=>Zd hE Za ld rfl fun a hE=>⟨Kept.refl _ _,_,_,rfl,hE,rfl⟩
     ·exact fun a w ux14 hE hM hp=>Zd hE Za ld rfl fun a hE=>⟨Kept.refl _ _,_,_,rfl,hE,rfl⟩
     ·intro a w ux14 hE hM hp
      have f0 : ux14 0 = v0_1:=hp 0 _ rfl rfl
      have f1 : ux14 1 = (vI s6):=hp 1 _ rfl rfl
      exact ZK hE Za ld (lk rfl f0) (lk rfl f1) Tryz.underlying41 UU (hM.rd hv0_1) hi17.1 fun a hE=>⟨Kept.refl _ _,_,_,rfl,hE,rfl⟩
     ·intro a w ux14 hE hM hp
      have f2 : ux14 2 = (ptr (sb v0_1) (so v0_1 + (s6).toNat * 1)):=hp 0 _ rfl rfl
      exact ZA (v:=u21) hE Za ld (lk rfl f2) UU rfl (hM.atk hA20 (Ta hv0_1 hi17.2)) fun a hE=>⟨Kept.refl _ _,_,_,rfl,hE,rfl⟩
     ·exact fun a w ux14 hE hM hp=>Zd hE Za ld rfl fun a hE=>⟨Kept.refl _ _,_,_,rfl,hE,rfl⟩
     ·exact fun a w ux14 hE hM hp=>Zd hE Za ld rfl fun a hE=>⟨Kept.refl _ _,_,_,rfl,hE,rfl⟩
     ·intro a w ux14 hE hM hp
      have f4 : ux14 4 = v1_1:=hp 0 _ rfl rfl
      have f5 : ux14 5 = (vI s6):=hp 1 _ rfl rfl
      exact ZK hE Za ld (lk rfl f4) (lk rfl f5) Tryz.underlying41 UU (hM.rd hv1_1) hi25.1 fun a hE=>⟨Kept.refl _ _,_,_,rfl,hE,rfl⟩
     ·intro a w ux14 hE hM hp
      have f6 : ux14 6 = (ptr (sb v1_1) (so v1_1 + (s6).toNat * 1)):=hp 0 _ rfl rfl
      exact ZA (v:=u29) hE Za ld (lk rfl f6) UU rfl (hM.atk hA28 (Ta hv1_1 hi25.2)) fun a hE=>⟨Kept.refl _ _,_,_,rfl,hE,rfl⟩
     ·intro a w ux14 hE hM hp
      have f3 : ux14 3 = u21:=hp 0 _ rfl rfl
      have f7 : ux14 7 = u29:=hp 1 _ rfl rfl
      refine Zw hE Za ld (Z7 (Z2 (lk rfl f3) (Z2 (lk rfl f7) X8))) cb19 (U7 _ x15 u21 (hM.rdo h22) x23 u29 (hM.rdo h30) r31 e32) ?_
      rintro v w a ⟨rfl,hK⟩ hE
      exact ⟨hK,_,_,rfl,hE,rfl⟩
     ·intro a w ux14 hE hM hp
      have f8 : ux14 8 = (vT r31):=hp 0 _ rfl rfl
      exact Wp hE Za ld (lk rfl f8) fun a hE=>⟨Kept.refl _ _,_,_,rfl,hE,rfl⟩
     ·intro a w ux14 hE hM hg
      have hE:=hE.sub (e':=[(26,(vT (!r31))),(0,v0_1),(1,v1_1),(5,vI s6),(11,vI s6),(12,v0_1),(13,(vI (p0.length : Int))),(14,(vT (decide (s6 < (p0.length : Int)))))]) ⟨lk rfl (hg 9 (by decide)),rfl,rfl,rfl,rfl,rfl,rfl,rfl,trivial⟩
      refine Zj ?_
      have ht33:=Option.some.inj hl12
      subst ht33
      refine Zl ?_
      exact ⟨hE.sub ⟨rfl,rfl,rfl,rfl,trivial⟩,hM⟩
    ·skip
     rintro a w ⟨hE,hM⟩
     refine Zp hE rfl ?_ ?_
     ·intro hb34
      have hF13:=Zz hF13 hb34
      refine Zc (Ze hE Za ld rfl fun a hE=>Zf ?_)
      have ht35:=hx8 _ (ois hF13)
      subst ht35
      have hr:=Option.some.inj hF4
      subst hr
      exact wp_ret (Z1 (Zq (Zq (Z1 (Zq (Zq (Zt hE rfl (Zs hE rfl) ⟨_,rfl,rfl,hM.kept⟩)))))))
     ·intro hb34
      have hF13:=Zy hF13 hb34
      refine wp_skip (ZZ (Zu (wp_region_lit (Zd hE Za ld rfl fun a hE=>Zi hE Za ld rfl rfl rfl fun a hE=>Ze hE Za ld rfl fun a hE=>Zj (Zl ?_)))))
      exact ⟨_,(ois hF13),hE.sub ⟨rfl,rfl,rfl,trivial⟩,hM⟩
   ·intro hb10
    have hs7:=Zy hs7 hb10
    refine wp_exit (Zm (Zm (Z0 ?_)))
    have ht36:=hx8 _ (ois hs7)
    subst ht36
    refine Zl ?_
    exact ⟨(),rfl,hE.sub trivial,hM⟩
  ·skip
   rintro a w ⟨s5,ht,hE,hM⟩
   subst ht
   have hF4:=Va hF4
   refine Zu (Zc (Ze hE Za ld rfl fun a hE=>Zf ?_))
   have hr:=Option.some.inj hF4
   subst hr
   exact wp_ret (Zt hE rfl (Zs hE rfl) ⟨_,rfl,rfl,hM.kept⟩)
def Ul (p0 : (List Int)) (p1 : (List Int)) (s6 : Int) : Option (Fl Int (Fl Unit Bool)) :=
 if (decide (s6 < (p0.length : Int))) = true then (((idx p0 s6).bind fun x15=>(idx p1 s6).bind fun x18=>some (x15 != x18) : Option (Bool)).bind fun j11=>if j11 = true then (some (Fl.ex (Fl.ex false))) else (some (Fl.nx (wr (s6 + 1))))) else (some (Fl.ex (Fl.nx ())))
def Vr (p0 : (List Int)) (p1 : (List Int)) : Option (Bool) :=
 if ((p0.length : Int) != (p1.length : Int)) = true then (some false) else ((ZE (Ul p0 p1) 0).bind fun j2=>j2.el (fun s5=>some true) (fun r=>some r))
theorem JM (w0 : World) (p0 : (List Int)) (v0_1 : Value) (hv0_1 : Ro w0 p0 [v0_1]) (p1 : (List Int)) (v1_1 : Value) (hv1_1 : Ro w0 p1 [v1_1]) (r : Bool) (hF : Vr p0 p1 = some r) :
  Calls Tryz.prog 57 [v0_1,v1_1].toArray w0 (fun en w'=>∃ v,en = .returned v ∧ (v = (vT r) ∧ Kept (Old w0) w0 w')):=by
 refine ZB (n:=26) Tryz.func57 rfl rfl (nbl rfl) rfl ?_
 intro a hE
 have hM:=M.start w0
 unfold Vr at hF
 refine Zc (Ze hE Za ld rfl fun a hE=>Zf (wp_seq (Zc (Zd hE Za ld rfl fun a hE=>Yf hE Za ld rfl Tryz.underlying42 (hM.rd hv0_1) fun a hE=>Zd hE Za ld rfl fun a hE=>Yf hE Za ld rfl Tryz.underlying42 (hM.rd hv1_1) fun a hE=>Zi hE Za ld rfl rfl rfl fun a hE=>Zf ?_))))
 refine Zp hE rfl ?_ ?_
 ·intro hb1
  have hF:=Zz hF hb1
  refine Zc (Ze hE Za ld rfl fun a hE=>Zf ?_)
  have hr:=Option.some.inj hF
  subst hr
  exact wp_ret (Zq (Zt hE rfl (Zs hE rfl) ⟨_,rfl,rfl,hM.kept⟩))
 ·intro hb1
  have hF:=Zy hF hb1
  refine wp_skip (Zu (wp_seq (Zc (Ze hE Za ld rfl fun a hE=>Zf ?_))))
  obtain ⟨j2,hl3,hF4⟩:=bind_some hF
  refine ZL (fun a w=>∃ s5 : Unit,j2 = Fl.nx s5 ∧ Env 26 a [] ∧ M (Old w0) w0 w []) ?_ ?_
  ·skip
   refine wp_block ?_
   refine ZC (fun (s6 : Int) a w=>Env 26 a [(0,v0_1),(1,v1_1),(5,vI s6)] ∧ M (Old w0) w0 w []) hl3 ⟨hE.sub ⟨rfl,rfl,rfl,trivial⟩,hM⟩ ?_
   rintro s6 a w ⟨hE,hM⟩ o9 hs7 hx8
   unfold Ul at hs7
   refine wp_seq (Zc (Zd hE Za ld rfl fun a hE=>Zd hE Za ld rfl fun a hE=>Yf hE Za ld rfl Tryz.underlying42 (hM.rd hv0_1) fun a hE=>Zi hE Za ld rfl rfl rfl fun a hE=>Zf ?_))
   refine Zp hE rfl ?_ ?_
   ·intro hb10
    have hs7:=Zz hs7 hb10
    refine wp_skip (Zu (wp_seq (wp_block ?_)))
    obtain ⟨j11,hl12,hF13⟩:=bind_some hs7
    refine ZQ (fun a w=>Env 26 a [(0,v0_1),(1,v1_1),(5,vI s6),(25,vT j11)] ∧ M (Old w0) w0 w []) ?_ ?_
    ·skip
     obtain ⟨x15,hi17,hl12⟩:=bix hl12
     obtain ⟨x18,hi20,hl12⟩:=bix hl12
     refine Yg (n:=26) (hd:=[_,_,_,_,_,_,_,_,_]) (tl:=[]) YN rfl rfl [17,18,19,20,21,22,23,24,25] (by decide) (fun w=>M (Old w0) w0 w []) (fun j=>([fun v _=>v = v0_1,fun v _=>v = (vI s6),fun v _=>v = (ptr (sb v0_1) (so v0_1 + (s6).toNat * 1)),fun v _=>v = (vI x15),fun v _=>v = v1_1,fun v _=>v = (vI s6),fun v _=>v = (ptr (sb v1_1) (so v1_1 + (s6).toNat * 1)),fun v _=>v = (vI x18),fun v _=>v = (vT (x15 != x18))] : List (Value → World → Prop)).getD j (fun _ _=>True)) (fun _ _ h hk=>h.keep hk) (gup (Zn (Zn (Zn (Zn (Zn (Zn (Zn (Zn (Zn Vb)))))))))) hE hM.drew (ZJ (Zb ?_ (Zb ?_ (Zb ?_ (Zb ?_ (Zb ?_ (Zb ?_ (Zb ?_ (Zb ?_ (Zb ?_ ZF)))))))))) ?_
     ·exact fun a w ux14 hE hM hp=>Zd hE Za ld rfl fun a hE=>⟨Kept.refl _ _,_,_,rfl,hE,rfl⟩
     ·exact fun a w ux14 hE hM hp=>Zd hE Za ld rfl fun a hE=>⟨Kept.refl _ _,_,_,rfl,hE,rfl⟩
     ·intro a w ux14 hE hM hp
      have f0 : ux14 0 = v0_1:=hp 0 _ rfl rfl
      have f1 : ux14 1 = (vI s6):=hp 1 _ rfl rfl
      exact ZK hE Za ld (lk rfl f0) (lk rfl f1) Tryz.underlying42 ty2 (hM.rd hv0_1) hi17.1 fun a hE=>⟨Kept.refl _ _,_,_,rfl,hE,rfl⟩
     ·intro a w ux14 hE hM hp
      have f2 : ux14 2 = (ptr (sb v0_1) (so v0_1 + (s6).toNat * 1)):=hp 0 _ rfl rfl
      exact ZA (v:=(vI x15)) hE Za ld (lk rfl f2) ty2 rfl (Xc (hM.rd hv0_1) hi17.2) fun a hE=>⟨Kept.refl _ _,_,_,rfl,hE,rfl⟩
     ·exact fun a w ux14 hE hM hp=>Zd hE Za ld rfl fun a hE=>⟨Kept.refl _ _,_,_,rfl,hE,rfl⟩
     ·exact fun a w ux14 hE hM hp=>Zd hE Za ld rfl fun a hE=>⟨Kept.refl _ _,_,_,rfl,hE,rfl⟩
     ·intro a w ux14 hE hM hp
      have f4 : ux14 4 = v1_1:=hp 0 _ rfl rfl
      have f5 : ux14 5 = (vI s6):=hp 1 _ rfl rfl
      exact ZK hE Za ld (lk rfl f4) (lk rfl f5) Tryz.underlying42 ty2 (hM.rd hv1_1) hi20.1 fun a hE=>⟨Kept.refl _ _,_,_,rfl,hE,rfl⟩
     ·intro a w ux14 hE hM hp
      have f6 : ux14 6 = (ptr (sb v1_1) (so v1_1 + (s6).toNat * 1)):=hp 0 _ rfl rfl
      exact ZA (v:=(vI x18)) hE Za ld (lk rfl f6) ty2 rfl (Xc (hM.rd hv1_1) hi20.2) fun a hE=>⟨Kept.refl _ _,_,_,rfl,hE,rfl⟩
     ·intro a w ux14 hE hM hp
      have f3 : ux14 3 = (vI x15):=hp 0 _ rfl rfl
      have f7 : ux14 7 = (vI x18):=hp 1 _ rfl rfl
      exact Zi hE Za ld (lk rfl f3) (lk rfl f7) rfl fun a hE=>⟨Kept.refl _ _,_,_,rfl,hE,rfl⟩
     ·intro a w ux14 hE hM hg
      have hE:=hE.sub (e':=[(25,(vT (x15 != x18))),(0,v0_1),(1,v1_1),(5,vI s6),(11,vI s6),(12,v0_1),(13,(vI (p0.length : Int))),(14,(vT (decide (s6 < (p0.length : Int)))))]) ⟨lk rfl (hg 8 (by decide)),rfl,rfl,rfl,rfl,rfl,rfl,rfl,trivial⟩
      refine Zj ?_
      have ht21:=Option.some.inj hl12
      subst ht21
      refine Zl ?_
      exact ⟨hE.sub ⟨rfl,rfl,rfl,rfl,trivial⟩,hM⟩
    ·skip
     rintro a w ⟨hE,hM⟩
     refine Zp hE rfl ?_ ?_
     ·intro hb22
      have hF13:=Zz hF13 hb22
      refine Zc (Ze hE Za ld rfl fun a hE=>Zf ?_)
      have ht23:=hx8 _ (ois hF13)
      subst ht23
      have hr:=Option.some.inj hF4
      subst hr
      exact wp_ret (Z1 (Zq (Zq (Z1 (Zq (Zq (Zt hE rfl (Zs hE rfl) ⟨_,rfl,rfl,hM.kept⟩)))))))
     ·intro hb22
      have hF13:=Zy hF13 hb22
      refine wp_skip (ZZ (Zu (wp_region_lit (Zd hE Za ld rfl fun a hE=>Zi hE Za ld rfl rfl rfl fun a hE=>Ze hE Za ld rfl fun a hE=>Zj (Zl ?_)))))
      exact ⟨_,(ois hF13),hE.sub ⟨rfl,rfl,rfl,trivial⟩,hM⟩
   ·intro hb10
    have hs7:=Zy hs7 hb10
    refine wp_exit (Zm (Zm (Z0 ?_)))
    have ht24:=hx8 _ (ois hs7)
    subst ht24
    refine Zl ?_
    exact ⟨(),rfl,hE.sub trivial,hM⟩
  ·skip
   rintro a w ⟨s5,ht,hE,hM⟩
   subst ht
   have hF4:=Va hF4
   refine Zu (Zc (Ze hE Za ld rfl fun a hE=>Zf ?_))
   have hr:=Option.some.inj hF4
   subst hr
   exact wp_ret (Zt hE rfl (Zs hE rfl) ⟨_,rfl,rfl,hM.kept⟩)
def VW (p0 : GBlobs) (p1 : GBlobs) : Option (Bool) :=
 (WU p0.Keys p1.Keys).bind fun r5=>if (!r5) = true then (some false) else ((Vo p0.Data p1.Data).bind fun r8=>if (!r8) = true then (some false) else ((Vr p0.Counts p1.Counts).bind fun r11=>if (!r11) = true then (some false) else (some true)))
theorem J4 (w0 : World) (p0 : GBlobs) (v0_1 : Value) (hv0_1 : Ro w0 p0.Keys [v0_1]) (v0_2 : Value) (hv0_2 : Ro w0 p0.Data [v0_2]) (v0_3 : Value) (hv0_3 : Ro w0 p0.Counts [v0_3]) (p1 : GBlobs) (v1_1 : Value) (hv1_1 : Ro w0 p1.Keys [v1_1]) (v1_2 : Value) (hv1_2 : Ro w0 p1.Data [v1_2]) (v1_3 : Value) (hv1_3 : Ro w0 p1.Counts [v1_3]) (r : Bool) (hF : VW p0 p1 = some r) :
  Calls Tryz.prog 21 [(Value.agg (cat [[v0_1],[v0_2],[v0_3]]).toArray),(Value.agg (cat [[v1_1],[v1_2],[v1_3]]).toArray)].toArray w0 (fun en w'=>∃ v,en = .returned v ∧ (v = (vT r) ∧ Kept (Old w0) w0 w')):=by
 refine ZB (n:=23) Tryz.func21 rfl rfl (nbl rfl) rfl ?_
 intro a hE
 have hM:=M.start w0
 unfold VW at hF
 refine Zc (ZT (cs:=cat [[v0_1],[v0_2],[v0_3]]) hE hM Za ld rfl rfl fun b1 w a hM hE=>ZT (cs:=cat [[v1_1],[v1_2],[v1_3]]) hE hM Za ld rfl rfl fun b3 w a hM hE=>Ze hE Za ld rfl fun a hE=>Zf (wp_seq (Zc (Zh hE Za ld rfl (BG) fun a hE=>ZA (v:=v0_1) hE Za ld rfl ty40 rfl (At.cat (pre:=[]) (hM.rawAt (pre:=[_])) cl0) fun a hE=>Zh hE Za ld rfl (BG) fun a hE=>ZA (v:=v1_1) hE Za ld rfl ty40 rfl (At.cat (pre:=[]) (hM.rawAt (pre:=[])) cl0) ?_)))); intro a hE
 obtain ⟨r5,e6,hF⟩:=bind_some hF
 refine Zw hE Za ld rfl cb55 (Ja _ p0.Keys v0_1 (hM.rdo hv0_1) p1.Keys v1_1 (hM.rdo hv1_1) r5 e6) ?_
 rintro v w a ⟨rfl,hK⟩ hE
 have hM:=hM.keep hK
 refine Wp hE Za ld rfl fun a hE=>Zf ?_
 refine Zp hE rfl ?_ ?_
 ·intro hb7
  have hF:=Zz hF hb7
  refine Zc (Ze hE Za ld rfl fun a hE=>Zf ?_)
  have hr:=Option.some.inj hF
  subst hr
  have hM:=M.fst (l:=[]) hM
  exact wp_ret (Zq (Zt hE rfl (Zs hE rfl) ⟨_,rfl,rfl,hM.kept⟩))
 ·intro hb7
  have hF:=Zy hF hb7
  refine wp_skip (Zu (wp_seq (Zc (Zh hE Za ld rfl (BS) fun a hE=>ZA (v:=v0_2) hE Za ld rfl ty41 rfl (At.cat (pre:=[[v0_1]]) (hM.rawAt (pre:=[_])) (cl1 (n:=1) (m:=0) rfl cl0)) fun a hE=>Zh hE Za ld rfl (BS) fun a hE=>ZA (v:=v1_2) hE Za ld rfl ty41 rfl (At.cat (pre:=[[v1_1]]) (hM.rawAt (pre:=[])) (cl1 (n:=1) (m:=0) rfl cl0)) ?_)))); intro a hE
  obtain ⟨r8,e9,hF⟩:=bind_some hF
  refine Zw hE Za ld rfl cb56 (Jx _ p0.Data v0_2 (hM.rdo hv0_2) p1.Data v1_2 (hM.rdo hv1_2) r8 e9) ?_
  rintro v w a ⟨rfl,hK⟩ hE
  have hM:=hM.keep hK
  refine Wp hE Za ld rfl fun a hE=>Zf ?_
  refine Zp hE rfl ?_ ?_
  ·intro hb10
   have hF:=Zz hF hb10
   refine Zc (Ze hE Za ld rfl fun a hE=>Zf ?_)
   have hr:=Option.some.inj hF
   subst hr
   have hM:=M.fst (l:=[]) hM
   exact wp_ret (Zq (Zt hE rfl (Zs hE rfl) ⟨_,rfl,rfl,hM.kept⟩))
  ·intro hb10
   have hF:=Zy hF hb10
   refine wp_skip (Zu (wp_seq (Zc (Zh hE Za ld rfl (B0) fun a hE=>ZA (v:=v0_3) hE Za ld rfl ty42 rfl (At.cat (pre:=[[v0_1],[v0_2]]) (hM.rawAt (pre:=[_])) (cl1 (n:=1) (m:=1) rfl (cl1 (n:=1) (m:=0) rfl cl0))) fun a hE=>Zh hE Za ld rfl (B0) fun a hE=>ZA (v:=v1_3) hE Za ld rfl ty42 rfl (At.cat (pre:=[[v1_1],[v1_2]]) (hM.rawAt (pre:=[])) (cl1 (n:=1) (m:=1) rfl (cl1 (n:=1) (m:=0) rfl cl0))) ?_)))); intro a hE
   obtain ⟨r11,e12,hF⟩:=bind_some hF
   refine Zw hE Za ld rfl cb57 (JM _ p0.Counts v0_3 (hM.rdo hv0_3) p1.Counts v1_3 (hM.rdo hv1_3) r11 e12) ?_
   rintro v w a ⟨rfl,hK⟩ hE
   have hM:=hM.keep hK
   refine Wp hE Za ld rfl fun a hE=>Zf ?_
   refine Zp hE rfl ?_ ?_
   ·intro hb13
    have hF:=Zz hF hb13
    refine Zc (Ze hE Za ld rfl fun a hE=>Zf ?_)
    have hr:=Option.some.inj hF
    subst hr
    have hM:=M.fst (l:=[]) hM
    exact wp_ret (Zq (Zt hE rfl (Zs hE rfl) ⟨_,rfl,rfl,hM.kept⟩))
   ·intro hb13
    have hF:=Zy hF hb13
    refine wp_skip (Zu (Zc (Ze hE Za ld rfl fun a hE=>Zf ?_)))
    have hr:=Option.some.inj hF
    subst hr
    have hM:=M.fst (l:=[]) hM
    exact wp_ret (Zt hE rfl (Zs hE rfl) ⟨_,rfl,rfl,hM.kept⟩)
def WB (p0 : GDesk) (p1 : GDesk) : Option (Bool) :=
 (Vv p0.Cipher p1.Cipher).bind fun r5=>if (!r5) = true then (some false) else ((YQ p0.Key p1.Key).bind fun r8=>if (!r8) = true then (some false) else ((YQ p0.Start p1.Start).bind fun r11=>if (!r11) = true then (some false) else ((YR p0.Data p1.Data).bind fun r14=>if (!r14) = true then (some false) else ((VM p0.Vault p1.Vault).bind fun r17=>if (!r17) = true then (some false) else ((VW p0.Blobs p1.Blobs).bind fun r20=>if (!r20) = true then (some false) else (some true))))))
theorem QS (w0 : World) (p0 : GDesk) (v0_1 : Value) (hv0_1 : Ro w0 p0.Data [v0_1]) (v0_2 : Value) (hv0_2 : Ro w0 p0.Vault.Keys [v0_2]) (v0_3 : Value) (hv0_3 : Ro w0 p0.Vault.Records [v0_3]) (v0_4 : Value) (hv0_4 : Ro w0 p0.Vault.Events [v0_4]) (v0_5 : Value) (hv0_5 : Ro w0 p0.Blobs.Keys [v0_5]) (v0_6 : Value) (hv0_6 : Ro w0 p0.Blobs.Data [v0_6]) (v0_7 : Value) (hv0_7 : Ro w0 p0.Blobs.Counts [v0_7]) (p1 : GDesk) (v1_1 : Value) (hv1_1 : Ro w0 p1.Data [v1_1]) (v1_2 : Value) (hv1_2 : Ro w0 p1.Vault.Keys [v1_2]) (v1_3 : Value) (hv1_3 : Ro w0 p1.Vault.Records [v1_3]) (v1_4 : Value) (hv1_4 : Ro w0 p1.Vault.Events [v1_4]) (v1_5 : Value) (hv1_5 : Ro w0 p1.Blobs.Keys [v1_5]) (v1_6 : Value) (hv1_6 : Ro w0 p1.Blobs.Data [v1_6]) (v1_7 : Value) (hv1_7 : Ro w0 p1.Blobs.Counts [v1_7]) (r : Bool) (hF : WB p0 p1 = some r) :
  Calls Tryz.prog 7 [(Value.agg (cat [cat [[vI p0.Cipher.Field],enc p0.Cipher.Box,enc p0.Cipher.Mix,enc p0.Cipher.Places,[vI p0.Cipher.Rounds]],enc p0.Key,enc p0.Start,[v0_1],cat [[v0_2],[vI p0.Vault.Next],[v0_3],[v0_4],enc p0.Vault.Head],cat [[v0_5],[v0_6],[v0_7]]]).toArray),(Value.agg (cat [cat [[vI p1.Cipher.Field],enc p1.Cipher.Box,enc p1.Cipher.Mix,enc p1.Cipher.Places,[vI p1.Cipher.Rounds]],enc p1.Key,enc p1.Start,[v1_1],cat [[v1_2],[vI p1.Vault.Next],[v1_3],[v1_4],enc p1.Vault.Head],cat [[v1_5],[v1_6],[v1_7]]]).toArray)].toArray w0 (fun en w'=>∃ v,en = .returned v ∧ (v = (vT r) ∧ Kept (Old w0) w0 w')):=by
 refine ZB (n:=41) Tryz.func7 rfl rfl (nbl rfl) rfl ?_
 intro a hE
 have hM:=M.start w0
 unfold WB at hF
 refine Zc (ZT (cs:=cat [cat [[vI p0.Cipher.Field],enc p0.Cipher.Box,enc p0.Cipher.Mix,enc p0.Cipher.Places,[vI p0.Cipher.Rounds]],enc p0.Key,enc p0.Start,[v0_1],cat [[v0_2],[vI p0.Vault.Next],[v0_3],[v0_4],enc p0.Vault.Head],cat [[v0_5],[v0_6],[v0_7]]]) hE hM Za ld rfl rfl fun b1 w a hM hE=>ZT (cs:=cat [cat [[vI p1.Cipher.Field],enc p1.Cipher.Box,enc p1.Cipher.Mix,enc p1.Cipher.Places,[vI p1.Cipher.Rounds]],enc p1.Key,enc p1.Start,[v1_1],cat [[v1_2],[vI p1.Vault.Next],[v1_3],[v1_4],enc p1.Vault.Head],cat [[v1_5],[v1_6],[v1_7]]]) hE hM Za ld rfl rfl fun b3 w a hM hE=>Ze hE Za ld rfl fun a hE=>Zf (wp_seq (Zc (Zh hE Za ld rfl (yn) fun a hE=>Zo (cs:=enc p0.Cipher) hE Za ld rfl UW rfl (At.cat (pre:=[]) (hM.rawAt (pre:=[_])) cl0) (Zg (cl1 (n:=1) (m:=289) rfl (cl1 (n:=256) (m:=33) (Flat.len _) (cl1 (n:=16) (m:=17) (Flat.len _) (cl1 (n:=16) (m:=1) (Flat.len _) (cl1 (n:=1) (m:=0) rfl cl0)))))) fun a hE=>Zh hE Za ld rfl (yn) fun a hE=>Zo (cs:=enc p1.Cipher) hE Za ld rfl UW rfl (At.cat (pre:=[]) (hM.rawAt (pre:=[])) cl0) (Zg (cl1 (n:=1) (m:=289) rfl (cl1 (n:=256) (m:=33) (Flat.len _) (cl1 (n:=16) (m:=17) (Flat.len _) (cl1 (n:=16) (m:=1) (Flat.len _) (cl1 (n:=1) (m:=0) rfl cl0)))))) ?_)))); intro a hE
 obtain ⟨r5,e6,hF⟩:=bind_some hF
 refine Zw hE Za ld rfl cb17 (JA _ p0.Cipher p1.Cipher r5 e6) ?_
 rintro v w a ⟨rfl,hK⟩ hE
 have hM:=hM.keep hK
 refine Wp hE Za ld rfl fun a hE=>Zf ?_
 refine Zp hE rfl ?_ ?_
 ·intro hb7
  have hF:=Zz hF hb7
  refine Zc (Ze hE Za ld rfl fun a hE=>Zf ?_)
  have hr:=Option.some.inj hF
  subst hr
  have hM:=M.fst (l:=[]) hM
  exact wp_ret (Zq (Zt hE rfl (Zs hE rfl) ⟨_,rfl,rfl,hM.kept⟩))
 ·intro hb7
  have hF:=Zy hF hb7
  refine wp_skip (Zu (wp_seq (Zc (Zh hE Za ld rfl (yI) fun a hE=>Zo (cs:=enc p0.Key) hE Za ld rfl ZG rfl (At.cat (pre:=[cat [[vI p0.Cipher.Field],enc p0.Cipher.Box,enc p0.Cipher.Mix,enc p0.Cipher.Places,[vI p0.Cipher.Rounds]]]) (hM.rawAt (pre:=[_])) (cl1 (n:=290) (m:=0) (Zg (cl1 (n:=1) (m:=289) rfl (cl1 (n:=256) (m:=33) (Flat.len _) (cl1 (n:=16) (m:=17) (Flat.len _) (cl1 (n:=16) (m:=1) (Flat.len _) (cl1 (n:=1) (m:=0) rfl cl0)))))) cl0)) (Flat.len _) fun a hE=>Zh hE Za ld rfl (yI) fun a hE=>Zo (cs:=enc p1.Key) hE Za ld rfl ZG rfl (At.cat (pre:=[cat [[vI p1.Cipher.Field],enc p1.Cipher.Box,enc p1.Cipher.Mix,enc p1.Cipher.Places,[vI p1.Cipher.Rounds]]]) (hM.rawAt (pre:=[])) (cl1 (n:=290) (m:=0) (Zg (cl1 (n:=1) (m:=289) rfl (cl1 (n:=256) (m:=33) (Flat.len _) (cl1 (n:=16) (m:=17) (Flat.len _) (cl1 (n:=16) (m:=1) (Flat.len _) (cl1 (n:=1) (m:=0) rfl cl0)))))) cl0)) (Flat.len _) ?_)))); intro a hE
  obtain ⟨r8,e9,hF⟩:=bind_some hF
  refine Zw hE Za ld rfl cb18 (U4 _ p0.Key p1.Key r8 e9) ?_
  rintro v w a ⟨rfl,hK⟩ hE
  have hM:=hM.keep hK
  refine Wp hE Za ld rfl fun a hE=>Zf ?_
  refine Zp hE rfl ?_ ?_
  ·intro hb10
   have hF:=Zz hF hb10
   refine Zc (Ze hE Za ld rfl fun a hE=>Zf ?_)
   have hr:=Option.some.inj hF
   subst hr
   have hM:=M.fst (l:=[]) hM
   exact wp_ret (Zq (Zt hE rfl (Zs hE rfl) ⟨_,rfl,rfl,hM.kept⟩))
  ·intro hb10
   have hF:=Zy hF hb10
   refine wp_skip (Zu (wp_seq (Zc (Zh hE Za ld rfl (yA) fun a hE=>Zo (cs:=enc p0.Start) hE Za ld rfl ZG rfl (At.cat (pre:=[cat [[vI p0.Cipher.Field],enc p0.Cipher.Box,enc p0.Cipher.Mix,enc p0.Cipher.Places,[vI p0.Cipher.Rounds]],enc p0.Key]) (hM.rawAt (pre:=[_])) (cl1 (n:=290) (m:=16) (Zg (cl1 (n:=1) (m:=289) rfl (cl1 (n:=256) (m:=33) (Flat.len _) (cl1 (n:=16) (m:=17) (Flat.len _) (cl1 (n:=16) (m:=1) (Flat.len _) (cl1 (n:=1) (m:=0) rfl cl0)))))) (cl1 (n:=16) (m:=0) (Flat.len _) cl0))) (Flat.len _) fun a hE=>Zh hE Za ld rfl (yA) fun a hE=>Zo (cs:=enc p1.Start) hE Za ld rfl ZG rfl (At.cat (pre:=[cat [[vI p1.Cipher.Field],enc p1.Cipher.Box,enc p1.Cipher.Mix,enc p1.Cipher.Places,[vI p1.Cipher.Rounds]],enc p1.Key]) (hM.rawAt (pre:=[])) (cl1 (n:=290) (m:=16) (Zg (cl1 (n:=1) (m:=289) rfl (cl1 (n:=256) (m:=33) (Flat.len _) (cl1 (n:=16) (m:=17) (Flat.len _) (cl1 (n:=16) (m:=1) (Flat.len _) (cl1 (n:=1) (m:=0) rfl cl0)))))) (cl1 (n:=16) (m:=0) (Flat.len _) cl0))) (Flat.len _) ?_)))); intro a hE
   obtain ⟨r11,e12,hF⟩:=bind_some hF
   refine Zw hE Za ld rfl cb18 (U4 _ p0.Start p1.Start r11 e12) ?_
   rintro v w a ⟨rfl,hK⟩ hE
   have hM:=hM.keep hK
   refine Wp hE Za ld rfl fun a hE=>Zf ?_
   refine Zp hE rfl ?_ ?_
   ·intro hb13
    have hF:=Zz hF hb13
    refine Zc (Ze hE Za ld rfl fun a hE=>Zf ?_)
    have hr:=Option.some.inj hF
    subst hr
    have hM:=M.fst (l:=[]) hM
    exact wp_ret (Zq (Zt hE rfl (Zs hE rfl) ⟨_,rfl,rfl,hM.kept⟩))
   ·intro hb13
    have hF:=Zy hF hb13
    refine wp_skip (Zu (wp_seq (Zc (Zh hE Za ld rfl (BU) fun a hE=>ZA (v:=v0_1) hE Za ld rfl UU rfl (At.cat (pre:=[cat [[vI p0.Cipher.Field],enc p0.Cipher.Box,enc p0.Cipher.Mix,enc p0.Cipher.Places,[vI p0.Cipher.Rounds]],enc p0.Key,enc p0.Start]) (hM.rawAt (pre:=[_])) (cl1 (n:=290) (m:=32) (Zg (cl1 (n:=1) (m:=289) rfl (cl1 (n:=256) (m:=33) (Flat.len _) (cl1 (n:=16) (m:=17) (Flat.len _) (cl1 (n:=16) (m:=1) (Flat.len _) (cl1 (n:=1) (m:=0) rfl cl0)))))) (cl1 (n:=16) (m:=16) (Flat.len _) (cl1 (n:=16) (m:=0) (Flat.len _) cl0)))) fun a hE=>Zh hE Za ld rfl (BU) fun a hE=>ZA (v:=v1_1) hE Za ld rfl UU rfl (At.cat (pre:=[cat [[vI p1.Cipher.Field],enc p1.Cipher.Box,enc p1.Cipher.Mix,enc p1.Cipher.Places,[vI p1.Cipher.Rounds]],enc p1.Key,enc p1.Start]) (hM.rawAt (pre:=[])) (cl1 (n:=290) (m:=32) (Zg (cl1 (n:=1) (m:=289) rfl (cl1 (n:=256) (m:=33) (Flat.len _) (cl1 (n:=16) (m:=17) (Flat.len _) (cl1 (n:=16) (m:=1) (Flat.len _) (cl1 (n:=1) (m:=0) rfl cl0)))))) (cl1 (n:=16) (m:=16) (Flat.len _) (cl1 (n:=16) (m:=0) (Flat.len _) cl0)))) ?_)))); intro a hE
    obtain ⟨r14,e15,hF⟩:=bind_some hF
    refine Zw hE Za ld rfl cb19 (U7 _ p0.Data v0_1 (hM.rdo hv0_1) p1.Data v1_1 (hM.rdo hv1_1) r14 e15) ?_
    rintro v w a ⟨rfl,hK⟩ hE
    have hM:=hM.keep hK
    refine Wp hE Za ld rfl fun a hE=>Zf ?_
    refine Zp hE rfl ?_ ?_
    ·intro hb16
     have hF:=Zz hF hb16
     refine Zc (Ze hE Za ld rfl fun a hE=>Zf ?_)
     have hr:=Option.some.inj hF
     subst hr
     have hM:=M.fst (l:=[]) hM
     exact wp_ret (Zq (Zt hE rfl (Zs hE rfl) ⟨_,rfl,rfl,hM.kept⟩))
    ·intro hb16
     have hF:=Zy hF hb16
     refine wp_skip (Zu (wp_seq (Zc (Zh hE Za ld rfl (BD) fun a hE=>Zo (cs:=cat [[v0_2],[vI p0.Vault.Next],[v0_3],[v0_4],enc p0.Vault.Head]) hE Za ld rfl Qj rfl (At.cat (pre:=[cat [[vI p0.Cipher.Field],enc p0.Cipher.Box,enc p0.Cipher.Mix,enc p0.Cipher.Places,[vI p0.Cipher.Rounds]],enc p0.Key,enc p0.Start,[v0_1]]) (hM.rawAt (pre:=[_])) (cl1 (n:=290) (m:=33) (Zg (cl1 (n:=1) (m:=289) rfl (cl1 (n:=256) (m:=33) (Flat.len _) (cl1 (n:=16) (m:=17) (Flat.len _) (cl1 (n:=16) (m:=1) (Flat.len _) (cl1 (n:=1) (m:=0) rfl cl0)))))) (cl1 (n:=16) (m:=17) (Flat.len _) (cl1 (n:=16) (m:=1) (Flat.len _) (cl1 (n:=1) (m:=0) rfl cl0))))) (Zg (cl1 (n:=1) (m:=35) rfl (cl1 (n:=1) (m:=34) rfl (cl1 (n:=1) (m:=33) rfl (cl1 (n:=1) (m:=32) rfl (cl1 (n:=32) (m:=0) (Flat.len _) cl0)))))) fun a hE=>Zh hE Za ld rfl (BD) fun a hE=>Zo (cs:=cat [[v1_2],[vI p1.Vault.Next],[v1_3],[v1_4],enc p1.Vault.Head]) hE Za ld rfl Qj rfl (At.cat (pre:=[cat [[vI p1.Cipher.Field],enc p1.Cipher.Box,enc p1.Cipher.Mix,enc p1.Cipher.Places,[vI p1.Cipher.Rounds]],enc p1.Key,enc p1.Start,[v1_1]]) (hM.rawAt (pre:=[])) (cl1 (n:=290) (m:=33) (Zg (cl1 (n:=1) (m:=289) rfl (cl1 (n:=256) (m:=33) (Flat.len _) (cl1 (n:=16) (m:=17) (Flat.len _) (cl1 (n:=16) (m:=1) (Flat.len _) (cl1 (n:=1) (m:=0) rfl cl0)))))) (cl1 (n:=16) (m:=17) (Flat.len _) (cl1 (n:=16) (m:=1) (Flat.len _) (cl1 (n:=1) (m:=0) rfl cl0))))) (Zg (cl1 (n:=1) (m:=35) rfl (cl1 (n:=1) (m:=34) rfl (cl1 (n:=1) (m:=33) rfl (cl1 (n:=1) (m:=32) rfl (cl1 (n:=32) (m:=0) (Flat.len _) cl0)))))) ?_)))); intro a hE
     obtain ⟨r17,e18,hF⟩:=bind_some hF
     refine Zw hE Za ld rfl cb20 (HF _ p0.Vault v0_2 (hM.rdo hv0_2) v0_3 (hM.rdo hv0_3) v0_4 (hM.rdo hv0_4) p1.Vault v1_2 (hM.rdo hv1_2) v1_3 (hM.rdo hv1_3) v1_4 (hM.rdo hv1_4) r17 e18) ?_
     rintro v w a ⟨rfl,hK⟩ hE
     have hM:=hM.keep hK
     refine Wp hE Za ld rfl fun a hE=>Zf ?_
     refine Zp hE rfl ?_ ?_
     ·intro hb19
      have hF:=Zz hF hb19
      refine Zc (Ze hE Za ld rfl fun a hE=>Zf ?_)
      have hr:=Option.some.inj hF
      subst hr
      have hM:=M.fst (l:=[]) hM
      exact wp_ret (Zq (Zt hE rfl (Zs hE rfl) ⟨_,rfl,rfl,hM.kept⟩))
     ·intro hb19
      have hF:=Zy hF hb19
      refine wp_skip (Zu (wp_seq (Zc (Zh hE Za ld rfl (BN) fun a hE=>Zo (cs:=cat [[v0_5],[v0_6],[v0_7]]) hE Za ld rfl B3 rfl (At.cat (pre:=[cat [[vI p0.Cipher.Field],enc p0.Cipher.Box,enc p0.Cipher.Mix,enc p0.Cipher.Places,[vI p0.Cipher.Rounds]],enc p0.Key,enc p0.Start,[v0_1],cat [[v0_2],[vI p0.Vault.Next],[v0_3],[v0_4],enc p0.Vault.Head]]) (hM.rawAt (pre:=[_])) (cl1 (n:=290) (m:=69) (Zg (cl1 (n:=1) (m:=289) rfl (cl1 (n:=256) (m:=33) (Flat.len _) (cl1 (n:=16) (m:=17) (Flat.len _) (cl1 (n:=16) (m:=1) (Flat.len _) (cl1 (n:=1) (m:=0) rfl cl0)))))) (cl1 (n:=16) (m:=53) (Flat.len _) (cl1 (n:=16) (m:=37) (Flat.len _) (cl1 (n:=1) (m:=36) rfl (cl1 (n:=36) (m:=0) (Zg (cl1 (n:=1) (m:=35) rfl (cl1 (n:=1) (m:=34) rfl (cl1 (n:=1) (m:=33) rfl (cl1 (n:=1) (m:=32) rfl (cl1 (n:=32) (m:=0) (Flat.len _) cl0)))))) cl0)))))) (Zg (cl1 (n:=1) (m:=2) rfl (cl1 (n:=1) (m:=1) rfl (cl1 (n:=1) (m:=0) rfl cl0)))) fun a hE=>Zh hE Za ld rfl (BN) fun a hE=>Zo (cs:=cat [[v1_5],[v1_6],[v1_7]]) hE Za ld rfl B3 rfl (At.cat (pre:=[cat [[vI p1.Cipher.Field],enc p1.Cipher.Box,enc p1.Cipher.Mix,enc p1.Cipher.Places,[vI p1.Cipher.Rounds]],enc p1.Key,enc p1.Start,[v1_1],cat [[v1_2],[vI p1.Vault.Next],[v1_3],[v1_4],enc p1.Vault.Head]]) (hM.rawAt (pre:=[])) (cl1 (n:=290) (m:=69) (Zg (cl1 (n:=1) (m:=289) rfl (cl1 (n:=256) (m:=33) (Flat.len _) (cl1 (n:=16) (m:=17) (Flat.len _) (cl1 (n:=16) (m:=1) (Flat.len _) (cl1 (n:=1) (m:=0) rfl cl0)))))) (cl1 (n:=16) (m:=53) (Flat.len _) (cl1 (n:=16) (m:=37) (Flat.len _) (cl1 (n:=1) (m:=36) rfl (cl1 (n:=36) (m:=0) (Zg (cl1 (n:=1) (m:=35) rfl (cl1 (n:=1) (m:=34) rfl (cl1 (n:=1) (m:=33) rfl (cl1 (n:=1) (m:=32) rfl (cl1 (n:=32) (m:=0) (Flat.len _) cl0)))))) cl0)))))) (Zg (cl1 (n:=1) (m:=2) rfl (cl1 (n:=1) (m:=1) rfl (cl1 (n:=1) (m:=0) rfl cl0)))) ?_)))); intro a hE
      obtain ⟨r20,e21,hF⟩:=bind_some hF
      refine Zw hE Za ld rfl cb21 (J4 _ p0.Blobs v0_5 (hM.rdo hv0_5) v0_6 (hM.rdo hv0_6) v0_7 (hM.rdo hv0_7) p1.Blobs v1_5 (hM.rdo hv1_5) v1_6 (hM.rdo hv1_6) v1_7 (hM.rdo hv1_7) r20 e21) ?_
      rintro v w a ⟨rfl,hK⟩ hE
      have hM:=hM.keep hK
      refine Wp hE Za ld rfl fun a hE=>Zf ?_
      refine Zp hE rfl ?_ ?_
      ·intro hb22
       have hF:=Zz hF hb22
       refine Zc (Ze hE Za ld rfl fun a hE=>Zf ?_)
       have hr:=Option.some.inj hF
       subst hr
       have hM:=M.fst (l:=[]) hM
       exact wp_ret (Zq (Zt hE rfl (Zs hE rfl) ⟨_,rfl,rfl,hM.kept⟩))
      ·intro hb22
       have hF:=Zy hF hb22
       refine wp_skip (Zu (Zc (Ze hE Za ld rfl fun a hE=>Zf ?_)))
       have hr:=Option.some.inj hF
       subst hr
       have hM:=M.fst (l:=[]) hM
       exact wp_ret (Zt hE rfl (Zs hE rfl) ⟨_,rfl,rfl,hM.kept⟩)
def Xu (s4 : (List UInt8) × Int × Int) : Option (Fl ((List UInt8) × Int × Int) ((List UInt8) × Int)) :=
 if (decide (s4.2.2 < (s4.1.length : Int))) = true then ((idx s4.1 s4.2.2).bind fun x9=>some (Fl.nx ((s4.1.set (s4.2.2).toNat (Zx s4.2.1)),wr (s4.2.1 + 1),wr (s4.2.2 + 1)))) else (some (Fl.ex (s4.1,s4.2.1)))
def Z9 (p0 : (List UInt8)) (p1 : Int) : Option ((List UInt8) × Int) :=
 (ZE (Xu) (p0,p1,0)).bind fun j1=>some (j1.1,j1.2)
theorem Un (St : Nat → Prop) (W w0 : World) (its : List Item) (p0 : (List UInt8)) (v0_1 : Value) (p1 : Int) (hM : M St W w0 (own NoB (p0 : (List UInt8)) [v0_1] :: its)) (r : (List UInt8) × Int) (hF : Z9 p0 p1 = some r) :
  Calls Tryz.prog 22 [v0_1,vI p1].toArray w0 (fun en w'=>∃ v,en = .returned v ∧ (v = (vI r.2) ∧ M St W w' (own NoB (r.1 : (List UInt8)) [v0_1] :: its))):=by
 refine ZB (n:=20) Tryz.func22 rfl rfl (nbl rfl) rfl ?_
 intro a hE
 unfold Z9 at hF
 refine Zc (Ze hE Za ld rfl fun a hE=>Zf (wp_seq (Zc (Ze hE Za ld rfl fun a hE=>Zf ?_))))
 obtain ⟨j1,hl2,hF3⟩:=bind_some hF
 refine ZL (fun a w=>Env 20 a [(0,v0_1),(1,vI j1.2)] ∧ M St W w (own NoB (j1.1 : (List UInt8)) [v0_1] :: its)) ?_ ?_
 ·skip
  refine wp_block ?_
  refine ZC (fun (s4 : (List UInt8) × Int × Int) a w=>Env 20 a [(0,v0_1),(1,vI s4.2.1),(5,vI s4.2.2)] ∧ M St W w (own NoB (s4.1 : (List UInt8)) [v0_1] :: its)) hl2 ⟨hE.sub ⟨rfl,rfl,rfl,trivial⟩,hM⟩ ?_
  rintro s4 a w ⟨hE,hM⟩ o7 hs5 hx6
  unfold Xu at hs5
  refine wp_seq (Zc (Zd hE Za ld rfl fun a hE=>Zd hE Za ld rfl fun a hE=>Yf hE Za ld rfl Tryz.underlying32 (hM.ro (pre:=[]) noB) fun a hE=>Zi hE Za ld rfl rfl rfl fun a hE=>Zf ?_))
  refine Zp hE rfl ?_ ?_
  ·intro hb8
   have hs5:=Zz hs5 hb8
   refine wp_skip (Zu (wp_seq (wp_block (Zc (Zd hE Za ld rfl fun a hE=>Zd hE Za ld rfl fun a hE=>Zd hE Za ld rfl fun a hE=>Yb hE Za ld rfl Tryz.underlying3 Tryz.underlying5 ?_))))); intro a hE
   rw [ZN] at hE
   obtain ⟨x9,hi11,hs5⟩:=bix hs5
   refine ZK hE Za ld rfl rfl Tryz.underlying32 ty5 (hM.ro (pre:=[]) noB) hi11.1 ?_; intro a hE
   have hM:=hM.toOsl (List.getElem?_eq_some_iff.1 hi11.2).1
   refine TA (i:=(s4.2.2).toNat) (k0:=0) (seg:=[(vB (Zx s4.2.1))]) (xo:=x9) (xn:=Zx s4.2.1) hE hM Za rfl rfl rfl ty5 rfl (Flat.cell (Zx s4.2.1 : UInt8)) hi11.2 (QO (m:=1) rfl (by decide)) (Zr rfl) ?_; intro w a hM hE
   have hM:=hM.toOwn noB
   refine Zf (wp_region_lit (Zd hE Za ld rfl fun a hE=>Zi hE Za ld rfl rfl rfl fun a hE=>Ze hE Za ld rfl fun a hE=>Zj (ZZ (Zu (wp_region_lit (Zd hE Za ld rfl fun a hE=>Zi hE Za ld rfl rfl rfl fun a hE=>Ze hE Za ld rfl fun a hE=>Zj (Zl ?_)))))))
   exact ⟨_,(ois hs5),hE.sub ⟨rfl,rfl,rfl,trivial⟩,hM⟩
  ·intro hb8
   have hs5:=Zy hs5 hb8
   refine wp_exit (Zm (Zm (Z0 ?_)))
   have ht12:=hx6 _ (ois hs5)
   subst ht12
   refine Zl ?_
   exact ⟨hE.sub ⟨rfl,rfl,trivial⟩,hM⟩
 ·skip
  rintro a w ⟨hE,hM⟩
  refine Zu (Zc (Zd hE Za ld rfl fun a hE=>Ze hE Za ld rfl fun a hE=>Zf ?_))
  have hr:=Option.some.inj hF3
  subst hr
  exact wp_ret (Zt hE (by rfl) (Zs hE rfl) ⟨_,rfl,rfl,hM⟩)
def Vi (s4 : (List (Vector UInt8 16)) × Int × Int) (s12 : (List (Vector UInt8 16)) × Int × Int) : Option (Fl ((List (Vector UInt8 16)) × Int × Int) ((List (Vector UInt8 16)) × Int)) :=
 if (decide (s12.2.2 < 16)) = true then ((idx s12.1 s4.2.2).bind fun x17=>(ZI x17 s12.2.2).bind fun x21=>some (Fl.nx ((s12.1.set (s4.2.2).toNat (x17.setIfInBounds (s12.2.2).toNat (Zx s12.2.1))),wr (s12.2.1 + 1),wr (s12.2.2 + 1)))) else (some (Fl.ex (s12.1,s12.2.1)))
def Y8 (s4 : (List (Vector UInt8 16)) × Int × Int) : Option (Fl ((List (Vector UInt8 16)) × Int × Int) ((List (Vector UInt8 16)) × Int)) :=
 if (decide (s4.2.2 < (s4.1.length : Int))) = true then ((ZE (Vi s4) (s4.1,s4.2.1,0)).bind fun j9=>some (Fl.nx (j9.1,j9.2,wr (s4.2.2 + 1)))) else (some (Fl.ex (s4.1,s4.2.1)))
def Wx (p0 : (List (Vector UInt8 16))) (p1 : Int) : Option ((List (Vector UInt8 16)) × Int) :=
 (ZE (Y8) (p0,p1,0)).bind fun j1=>some (j1.1,j1.2)
theorem KT (St : Nat → Prop) (W w0 : World) (its : List Item) (p0 : (List (Vector UInt8 16))) (v0_1 : Value) (p1 : Int) (hM : M St W w0 (own NoB (p0 : (List (Vector UInt8 16))) [v0_1] :: its)) (r : (List (Vector UInt8 16)) × Int) (hF : Wx p0 p1 = some r) :
  Calls Tryz.prog 58 [v0_1,vI p1].toArray w0 (fun en w'=>∃ v,en = .returned v ∧ (v = (vI r.2) ∧ M St W w' (own NoB (r.1 : (List (Vector UInt8 16))) [v0_1] :: its))):=by
 refine ZB (n:=27) Tryz.func58 rfl rfl (nbl rfl) rfl ?_
 intro a hE
 unfold Wx at hF
 refine Zc (Ze hE Za ld rfl fun a hE=>Zf (wp_seq (Zc (Ze hE Za ld rfl fun a hE=>Zf ?_))))
 obtain ⟨j1,hl2,hF3⟩:=bind_some hF
 refine ZL (fun a w=>Env 27 a [(0,v0_1),(1,vI j1.2)] ∧ M St W w (own NoB (j1.1 : (List (Vector UInt8 16))) [v0_1] :: its)) ?_ ?_
 ·skip
  refine wp_block ?_
  refine ZC (fun (s4 : (List (Vector UInt8 16)) × Int × Int) a w=>Env 27 a [(0,v0_1),(1,vI s4.2.1),(5,vI s4.2.2)] ∧ M St W w (own NoB (s4.1 : (List (Vector UInt8 16))) [v0_1] :: its)) hl2 ⟨hE.sub ⟨rfl,rfl,rfl,trivial⟩,hM⟩ ?_
  rintro s4 a w ⟨hE,hM⟩ o7 hs5 hx6
  unfold Y8 at hs5
  refine wp_seq (Zc (Zd hE Za ld rfl fun a hE=>Zd hE Za ld rfl fun a hE=>Yf hE Za ld rfl Tryz.underlying33 (hM.ro (pre:=[]) noB) fun a hE=>Zi hE Za ld rfl rfl rfl fun a hE=>Zf ?_))
  refine Zp hE rfl ?_ ?_
  ·intro hb8
   have hs5:=Zz hs5 hb8
   refine wp_skip (Zu (wp_seq (wp_block (Zc (Ze hE Za ld rfl fun a hE=>Zf ?_)))))
   obtain ⟨j9,hl10,hF11⟩:=bind_some hs5
   refine ZL (fun a w=>Env 27 a [(0,v0_1),(1,vI j9.2),(5,vI s4.2.2)] ∧ M St W w (own NoB (j9.1 : (List (Vector UInt8 16))) [v0_1] :: its)) ?_ ?_
   ·skip
    refine wp_block ?_
    refine ZC (fun (s12 : (List (Vector UInt8 16)) × Int × Int) a w=>Env 27 a [(0,v0_1),(1,vI s12.2.1),(5,vI s4.2.2),(6,vI s12.2.2)] ∧ M St W w (own NoB (s12.1 : (List (Vector UInt8 16))) [v0_1] :: its)) hl10 ⟨hE.sub ⟨rfl,rfl,rfl,rfl,trivial⟩,hM⟩ ?_
    rintro s12 a w ⟨hE,hM⟩ o15 hs13 hx14
    unfold Vi at hs13
    refine wp_seq (Zc (Zd hE Za ld rfl fun a hE=>Zi hE Za ld rfl rfl rfl fun a hE=>Zf ?_))
    refine Zp hE rfl ?_ ?_
    ·intro hb16
     have hs13:=Zz hs13 hb16
     refine wp_skip (Zu (wp_seq (wp_block (Zc (Zd hE Za ld rfl fun a hE=>Zd hE Za ld rfl fun a hE=>Zd hE Za ld rfl fun a hE=>Zd hE Za ld rfl fun a hE=>Yb hE Za ld rfl Tryz.underlying3 Tryz.underlying5 ?_))))); intro a hE
     rw [ZN] at hE
     obtain ⟨x17,hi19,hs13⟩:=bix hs13
     refine ZK hE Za ld rfl rfl Tryz.underlying33 ZG (hM.ro (pre:=[]) noB) hi19.1 ?_; intro a hE
     obtain ⟨x21,hi20,hs13⟩:=bvx hs13
     refine Zk hE Za ld rfl rfl Tryz.underlying31 ty5 hi20.1 ?_; intro a hE
     have hM:=hM.toOsl (List.getElem?_eq_some_iff.1 hi19.2).1
     refine TA (i:=(s4.2.2).toNat) (k0:=0 + (s12.2.2).toNat * 1) (seg:=[(vB (Zx s12.2.1))]) (xo:=x17) (xn:=(x17.setIfInBounds (s12.2.2).toNat (Zx s12.2.1))) hE hM Za (KO rfl (by show _ = _ + _ * 16 + _; omega)) rfl rfl ty5 rfl (Flat.cell (Zx s12.2.1 : UInt8)) hi19.2 (B9 (x:=Zx s12.2.1) hi20.1) (ZD (v:=x17) (x:=Zx s12.2.1) hi20.1) ?_; intro w a hM hE
     have hM:=hM.toOwn noB
     refine Zf (wp_region_lit (Zd hE Za ld rfl fun a hE=>Zi hE Za ld rfl rfl rfl fun a hE=>Ze hE Za ld rfl fun a hE=>Zj (ZZ (Zu (wp_region_lit (Zd hE Za ld rfl fun a hE=>Zi hE Za ld rfl rfl rfl fun a hE=>Ze hE Za ld rfl fun a hE=>Zj (Zl ?_)))))))
     exact ⟨_,(ois hs13),hE.sub ⟨rfl,rfl,rfl,rfl,trivial⟩,hM⟩
    ·intro hb16
     have hs13:=Zy hs13 hb16
     refine wp_exit (Zm (Zm (Z0 ?_)))
     have ht23:=hx14 _ (ois hs13)
     subst ht23
     refine Zl ?_
     exact ⟨hE.sub ⟨rfl,rfl,rfl,trivial⟩,hM⟩
   ·skip
    rintro a w ⟨hE,hM⟩
    refine ZZ (Zu (wp_region_lit (Zd hE Za ld rfl fun a hE=>Zi hE Za ld rfl rfl rfl fun a hE=>Ze hE Za ld rfl fun a hE=>Zj (Zl ?_))))
    exact ⟨_,(ois hF11),hE.sub ⟨rfl,rfl,rfl,trivial⟩,hM⟩
  ·intro hb8
   have hs5:=Zy hs5 hb8
   refine wp_exit (Zm (Zm (Z0 ?_)))
   have ht24:=hx6 _ (ois hs5)
   subst ht24
   refine Zl ?_
   exact ⟨hE.sub ⟨rfl,rfl,trivial⟩,hM⟩
 ·skip
  rintro a w ⟨hE,hM⟩
  refine Zu (Zc (Zd hE Za ld rfl fun a hE=>Ze hE Za ld rfl fun a hE=>Zf ?_))
  have hr:=Option.some.inj hF3
  subst hr
  exact wp_ret (Zt hE (by rfl) (Zs hE rfl) ⟨_,rfl,rfl,hM⟩)
def WI (s4 : (List GRecord) × Int × Int) (s18 : (List GRecord) × Int × Int) : Option (Fl ((List GRecord) × Int × Int) ((List GRecord) × Int)) :=
 if (decide (s18.2.2 < 16)) = true then ((idx s18.1 s4.2.2).bind fun x23=>(ZI x23.Nonce s18.2.2).bind fun x27=>some (Fl.nx ((s18.1.set (s4.2.2).toNat (⟨x23.Number,x23.Version,(x23.Nonce.setIfInBounds (s18.2.2).toNat (Zx s18.2.1)),x23.Label,x23.Body,x23.Tag⟩ : GRecord)),wr (s18.2.1 + 1),wr (s18.2.2 + 1)))) else (some (Fl.ex (s18.1,s18.2.1)))
def WK (s4 : (List GRecord) × Int × Int) (s55 : (List GRecord) × Int × Int) : Option (Fl ((List GRecord) × Int × Int) ((List GRecord) × Int)) :=
 if (decide (s55.2.2 < 32)) = true then ((idx s55.1 s4.2.2).bind fun x60=>(ZI x60.Tag s55.2.2).bind fun x64=>some (Fl.nx ((s55.1.set (s4.2.2).toNat (⟨x60.Number,x60.Version,x60.Nonce,x60.Label,x60.Body,(x60.Tag.setIfInBounds (s55.2.2).toNat (Zx s55.2.1))⟩ : GRecord)),wr (s55.2.1 + 1),wr (s55.2.2 + 1)))) else (some (Fl.ex (s55.1,s55.2.1)))
def Y0 (s4 : (List GRecord) × Int × Int) : Option (Fl ((List GRecord) × Int × Int) ((List GRecord) × Int)) :=
 if (decide (s4.2.2 < (s4.1.length : Int))) = true then ((idx s4.1 s4.2.2).bind fun x9=>(idx (s4.1.set (s4.2.2).toNat (⟨s4.2.1,x9.Version,x9.Nonce,x9.Label,x9.Body,x9.Tag⟩ : GRecord)) s4.2.2).bind fun x12=>(ZE (WI s4) (((s4.1.set (s4.2.2).toNat (⟨s4.2.1,x9.Version,x9.Nonce,x9.Label,x9.Body,x9.Tag⟩ : GRecord)).set (s4.2.2).toNat (⟨x12.Number,wr (s4.2.1 + 1),x12.Nonce,x12.Label,x12.Body,x12.Tag⟩ : GRecord)),wr ((wr (s4.2.1 + 1)) + 1),0)).bind fun j15=>(idx j15.1 s4.2.2).bind fun x30=>(Z9 x30.Label j15.2).bind fun r39=>(idx (j15.1.set (s4.2.2).toNat (⟨x30.Number,x30.Version,x30.Nonce,r39.1,x30.Body,x30.Tag⟩ : GRecord)) s4.2.2).bind fun x41=>(Z9 x41.Body r39.2).bind fun r50=>(ZE (WK s4) (((j15.1.set (s4.2.2).toNat (⟨x30.Number,x30.Version,x30.Nonce,r39.1,x30.Body,x30.Tag⟩ : GRecord)).set (s4.2.2).toNat (⟨x41.Number,x41.Version,x41.Nonce,x41.Label,r50.1,x41.Tag⟩ : GRecord)),r50.2,0)).bind fun j52=>some (Fl.nx (j52.1,j52.2,wr (s4.2.2 + 1)))) else (some (Fl.ex (s4.1,s4.2.1)))
def X0 (p0 : (List GRecord)) (p1 : Int) : Option ((List GRecord) × Int) :=
 (ZE (Y0) (p0,p1,0)).bind fun j1=>some (j1.1,j1.2)
theorem Q4 (St : Nat → Prop) (W w0 : World) (its : List Item) (p0 : (List GRecord)) (v0_1 : Value) (p1 : Int) (hM : M St W w0 (own NoB (p0 : (List GRecord)) [v0_1] :: its)) (r : (List GRecord) × Int) (hF : X0 p0 p1 = some r) :
  Calls Tryz.prog 59 [v0_1,vI p1].toArray w0 (fun en w'=>∃ v,en = .returned v ∧ (v = (vI r.2) ∧ M St W w' (own NoB (r.1 : (List GRecord)) [v0_1] :: its))):=by
 refine ZB (n:=71) Tryz.func59 rfl rfl (nbl rfl) rfl ?_
 intro a hE
 unfold X0 at hF
 refine Zc (Ze hE Za ld rfl fun a hE=>Zf (wp_seq (Zc (Ze hE Za ld rfl fun a hE=>Zf ?_))))
 obtain ⟨j1,hl2,hF3⟩:=bind_some hF
 refine ZL (fun a w=>Env 71 a [(0,v0_1),(1,vI j1.2)] ∧ M St W w (own NoB (j1.1 : (List GRecord)) [v0_1] :: its)) ?_ ?_
 ·skip
  refine wp_block ?_
  refine ZC (fun (s4 : (List GRecord) × Int × Int) a w=>Env 71 a [(0,v0_1),(1,vI s4.2.1),(5,vI s4.2.2)] ∧ M St W w (own NoB (s4.1 : (List GRecord)) [v0_1] :: its)) hl2 ⟨hE.sub ⟨rfl,rfl,rfl,trivial⟩,hM⟩ ?_
  rintro s4 a w ⟨hE,hM⟩ o7 hs5 hx6
  unfold Y0 at hs5
  refine wp_seq (Zc (Zd hE Za ld rfl fun a hE=>Zd hE Za ld rfl fun a hE=>Yf hE Za ld rfl Tryz.underlying34 (hM.ro (pre:=[]) noB) fun a hE=>Zi hE Za ld rfl rfl rfl fun a hE=>Zf ?_))
  refine Zp hE rfl ?_ ?_
  ·intro hb8
   have hs5:=Zz hs5 hb8
   refine wp_skip (Zu (wp_seq (wp_block (Zc (Zd hE Za ld rfl fun a hE=>Zd hE Za ld rfl fun a hE=>Zd hE Za ld rfl ?_))))); intro a hE
   obtain ⟨x9,hi11,hs5⟩:=bix hs5
   refine ZK hE Za ld rfl rfl Tryz.underlying34 Ur (hM.ro (pre:=[]) noB) hi11.1 fun a hE=>Zh hE Za ld rfl (J2) ?_; intro a hE
   have hM:=hM.toOsl (List.getElem?_eq_some_iff.1 hi11.2).1
   refine QH (i:=(s4.2.2).toNat) (k0:=0 + 0) (seg:=[vI s4.2.1]) (xo:=x9) (xn:=(⟨s4.2.1,x9.Version,x9.Nonce,x9.Label,x9.Body,x9.Tag⟩ : GRecord)) hE hM noB Za rfl rfl rfl ty2 rfl (Flat.cell (s4.2.1 : Int)) hi11.2 (QO (m:=1) rfl (by decide)) (fun S w cs f h=>by obtain ⟨y1,y2,_,_,rfl,rfl,s1,s2⟩:=VZ h; exact Ks (Tb (pre:=[]) cl0 rfl) (UJ s1 s2 (by simp))) ?_; intro w a hM hE
   have hM:=hM.toOwn noB
   refine Zf (Zc (Zd hE Za ld rfl fun a hE=>Zi hE Za ld rfl rfl rfl fun a hE=>Ze hE Za ld rfl fun a hE=>Zf (Zc (Zd hE Za ld rfl fun a hE=>Zd hE Za ld rfl fun a hE=>Zd hE Za ld rfl ?_)))); intro a hE
   obtain ⟨x12,hi14,hs5⟩:=bix hs5
   refine ZK hE Za ld rfl rfl Tryz.underlying34 Ur (hM.ro (pre:=[]) noB) hi14.1 fun a hE=>Zh hE Za ld rfl (JW) ?_; intro a hE
   have hM:=hM.toOsl (List.getElem?_eq_some_iff.1 hi14.2).1
   refine QH (i:=(s4.2.2).toNat) (k0:=0 + 1) (seg:=[(vI (wr (s4.2.1 + 1)))]) (xo:=x12) (xn:=(⟨x12.Number,wr (s4.2.1 + 1),x12.Nonce,x12.Label,x12.Body,x12.Tag⟩ : GRecord)) hE hM noB Za rfl rfl rfl ty2 rfl (Flat.cell (wr (s4.2.1 + 1) : Int)) hi14.2 (QO (m:=1) rfl (by decide)) (fun S w cs f h=>by obtain ⟨y1,y2,_,_,rfl,rfl,s1,s2⟩:=VZ h; exact Ks (Tb (pre:=[[vI x12.Number]]) (cl1 (n:=1) (m:=0) rfl cl0) rfl) (UJ s1 s2 (by simp))) ?_; intro w a hM hE
   have hM:=hM.toOwn noB
   refine Zf (Zc (Zd hE Za ld rfl fun a hE=>Zi hE Za ld rfl rfl rfl fun a hE=>Ze hE Za ld rfl fun a hE=>Zf (wp_seq (Zc (Ze hE Za ld rfl fun a hE=>Zf ?_)))))
   obtain ⟨j15,hl16,hF17⟩:=bind_some hs5
   refine ZL (fun a w=>Env 71 a [(0,v0_1),(1,vI j15.2),(5,vI s4.2.2)] ∧ M St W w (own NoB (j15.1 : (List GRecord)) [v0_1] :: its)) ?_ ?_
   ·skip
    refine wp_block ?_
    refine ZC (fun (s18 : (List GRecord) × Int × Int) a w=>Env 71 a [(0,v0_1),(1,vI s18.2.1),(5,vI s4.2.2),(6,vI s18.2.2)] ∧ M St W w (own NoB (s18.1 : (List GRecord)) [v0_1] :: its)) hl16 ⟨hE.sub ⟨rfl,rfl,rfl,rfl,trivial⟩,hM⟩ ?_
    rintro s18 a w ⟨hE,hM⟩ o21 hs19 hx20
    unfold WI at hs19
    refine wp_seq (Zc (Zd hE Za ld rfl fun a hE=>Zi hE Za ld rfl rfl rfl fun a hE=>Zf ?_))
    refine Zp hE rfl ?_ ?_
    ·intro hb22
     have hs19:=Zz hs19 hb22
     refine wp_skip (Zu (wp_seq (wp_block (Zc (Zd hE Za ld rfl fun a hE=>Zd hE Za ld rfl fun a hE=>Zd hE Za ld rfl fun a hE=>Zd hE Za ld rfl fun a hE=>Yb hE Za ld rfl Tryz.underlying3 Tryz.underlying5 ?_))))); intro a hE
     rw [ZN] at hE
     obtain ⟨x23,hi25,hs19⟩:=bix hs19
     refine ZK hE Za ld rfl rfl Tryz.underlying34 Ur (hM.ro (pre:=[]) noB) hi25.1 fun a hE=>Zh hE Za ld rfl (JU) ?_; intro a hE
     obtain ⟨x27,hi26,hs19⟩:=bvx hs19
     refine Zk hE Za ld rfl rfl Tryz.underlying31 ty5 hi26.1 ?_; intro a hE
     have hM:=hM.toOsl (List.getElem?_eq_some_iff.1 hi25.2).1
     refine QH (i:=(s4.2.2).toNat) (k0:=0 + 2 + (s18.2.2).toNat * 1) (seg:=[(vB (Zx s18.2.1))]) (xo:=x23) (xn:=(⟨x23.Number,x23.Version,(x23.Nonce.setIfInBounds (s18.2.2).toNat (Zx s18.2.1)),x23.Label,x23.Body,x23.Tag⟩ : GRecord)) hE hM noB Za (KO rfl (by show _ = _ + _ * 52 + _; omega)) rfl rfl ty5 rfl (Flat.cell (Zx s18.2.1 : UInt8)) hi25.2 (Hw (m:=1) hi26.1 rfl (by decide)) (fun S w cs f h=>by obtain ⟨y1,y2,_,_,rfl,rfl,s1,s2⟩:=VZ h; exact Ks (W8 (o':=0 + (s18.2.2).toNat * 1) (pre:=[[vI x23.Number],[vI x23.Version]]) (seg:=enc x23.Nonce) (post:=[[y1],[y2],enc x23.Tag]) (cl1 (n:=1) (m:=1) rfl (cl1 (n:=1) (m:=0) rfl cl0)) (ZM (v:=x23.Nonce) (x:=Zx s18.2.1) hi26.1) (ZD (v:=x23.Nonce) (x:=Zx s18.2.1) hi26.1) (by first | omega | (simp only [Flat.n] <;> omega))) (UJ s1 s2 (by simp))) ?_; intro w a hM hE
     have hM:=hM.toOwn noB
     refine Zf (wp_region_lit (Zd hE Za ld rfl fun a hE=>Zi hE Za ld rfl rfl rfl fun a hE=>Ze hE Za ld rfl fun a hE=>Zj (ZZ (Zu (wp_region_lit (Zd hE Za ld rfl fun a hE=>Zi hE Za ld rfl rfl rfl fun a hE=>Ze hE Za ld rfl fun a hE=>Zj (Zl ?_)))))))
     exact ⟨_,(ois hs19),hE.sub ⟨rfl,rfl,rfl,rfl,trivial⟩,hM⟩
    ·intro hb22
     have hs19:=Zy hs19 hb22
     refine wp_exit (Zm (Zm (Z0 ?_)))
     have ht29:=hx20 _ (ois hs19)
     subst ht29
     refine Zl ?_
     exact ⟨hE.sub ⟨rfl,rfl,rfl,trivial⟩,hM⟩
   ·skip
    rintro a w ⟨hE,hM⟩
    refine Zu (Zc (Zd hE Za ld rfl fun a hE=>Zd hE Za ld rfl ?_)); intro a hE
    obtain ⟨x30,hi32,hF17⟩:=bix hF17
    refine ZK hE Za ld rfl rfl Tryz.underlying34 Ur (hM.ro (pre:=[]) noB) hi32.1 fun a hE=>Zh hE Za ld rfl (J0) ?_; intro a hE
    have hM:=(hM.toOsl (List.getElem?_eq_some_iff.1 hi32.2).1).open1 noB hi32.2
    obtain ⟨cs33,hM,hA34⟩:=hM
    obtain ⟨_,hx,_⟩:=hM.head
    obtain ⟨u35,u36,_,_,rfl,_,_,_⟩:=VZ hx
    have hM:=hM.unpackL (m:=[own NoB (x30.Label : (List UInt8)) [u35],own NoB (x30.Body : (List UInt8)) [u36]]) (fun fp h=>by obtain ⟨_,_,rfl,s1,s2⟩:=Jq h; exact (XB.cons (UC noB) s1 (XB.one (UC noB) s2)))
    simp only [List.cons_append,List.nil_append] at hM
    refine ZA (v:=u35) hE Za ld rfl UU rfl (At.cat (pre:=[[vI x30.Number],[vI x30.Version],enc x30.Nonce]) hA34 (cl1 (n:=1) (m:=17) rfl (cl1 (n:=1) (m:=16) rfl (cl1 (n:=16) (m:=0) (Flat.len _) cl0)))) fun a hE=>Zd hE Za ld rfl ?_; intro a hE
    obtain ⟨r39,e40,hF17⟩:=bind_some hF17
    refine Zw hE Za ld rfl cb22 (Un _ _ _ _ x30.Label u35 j15.2 hM r39 e40) ?_
    rintro v w a ⟨rfl,hM⟩ hE
    have hM:=((hM.pull (pre:=[_,_])).pull (pre:=[_,_])).pull (pre:=[_,_])
    have hM:=hM.packL (m:=[own NoB (r39.1 : (List UInt8)) [u35],own NoB (x30.Body : (List UInt8)) [u36]]) (it:=own NoB (⟨x30.Number,x30.Version,x30.Nonce,r39.1,x30.Body,x30.Tag⟩ : GRecord) (cat [[vI x30.Number],[vI x30.Version],enc x30.Nonce,[u35],[u36],enc x30.Tag])) (UC noB) (fun fp h=>by obtain ⟨_,_,rfl,_,s1,_,_,rfl,_,s2,rfl⟩:=h; exact UJ s1 s2 (by simp))
    have hM:=(hM.close1 noB).toOwn noB
    refine Ze hE Za ld rfl fun a hE=>Zf (Zc (Zd hE Za ld rfl fun a hE=>Zd hE Za ld rfl ?_)); intro a hE
    obtain ⟨x41,hi43,hF17⟩:=bix hF17
    refine ZK hE Za ld rfl rfl Tryz.underlying34 Ur (hM.ro (pre:=[]) noB) hi43.1 fun a hE=>Zh hE Za ld rfl (JQ) ?_; intro a hE
    have hM:=(hM.toOsl (List.getElem?_eq_some_iff.1 hi43.2).1).open1 noB hi43.2
    obtain ⟨cs44,hM,hA45⟩:=hM
    obtain ⟨_,hx,_⟩:=hM.head
    obtain ⟨u46,u47,_,_,rfl,_,_,_⟩:=VZ hx
    have hM:=hM.unpackL (m:=[own NoB (x41.Label : (List UInt8)) [u46],own NoB (x41.Body : (List UInt8)) [u47]]) (fun fp h=>by obtain ⟨_,_,rfl,s1,s2⟩:=Jq h; exact (XB.cons (UC noB) s1 (XB.one (UC noB) s2)))
    simp only [List.cons_append,List.nil_append] at hM
    refine ZA (v:=u47) hE Za ld rfl UU rfl (At.cat (pre:=[[vI x41.Number],[vI x41.Version],enc x41.Nonce,[u46]]) hA45 (cl1 (n:=1) (m:=18) rfl (cl1 (n:=1) (m:=17) rfl (cl1 (n:=16) (m:=1) (Flat.len _) (cl1 (n:=1) (m:=0) rfl cl0))))) fun a hE=>Zd hE Za ld rfl ?_; intro a hE
    have hM:=hM.pull (pre:=[_])
    obtain ⟨r50,e51,hF17⟩:=bind_some hF17
    refine Zw hE Za ld rfl cb22 (Un _ _ _ _ x41.Body u47 r39.2 hM r50 e51) ?_
    rintro v w a ⟨rfl,hM⟩ hE
    have hM:=((hM.pull (pre:=[_,_])).pull (pre:=[_])).pull (pre:=[_,_])
    have hM:=hM.packL (m:=[own NoB (x41.Label : (List UInt8)) [u46],own NoB (r50.1 : (List UInt8)) [u47]]) (it:=own NoB (⟨x41.Number,x41.Version,x41.Nonce,x41.Label,r50.1,x41.Tag⟩ : GRecord) (cat [[vI x41.Number],[vI x41.Version],enc x41.Nonce,[u46],[u47],enc x41.Tag])) (UC noB) (fun fp h=>by obtain ⟨_,_,rfl,_,s1,_,_,rfl,_,s2,rfl⟩:=h; exact UJ s1 s2 (by simp))
    have hM:=(hM.close1 noB).toOwn noB
    refine Ze hE Za ld rfl fun a hE=>Zf (Zc (Ze hE Za ld rfl fun a hE=>Zf ?_))
    obtain ⟨j52,hl53,hF54⟩:=bind_some hF17
    refine ZL (fun a w=>Env 71 a [(0,v0_1),(1,vI j52.2),(5,vI s4.2.2)] ∧ M St W w (own NoB (j52.1 : (List GRecord)) [v0_1] :: its)) ?_ ?_
    ·skip
     refine wp_block ?_
     refine ZC (fun (s55 : (List GRecord) × Int × Int) a w=>Env 71 a [(0,v0_1),(1,vI s55.2.1),(5,vI s4.2.2),(7,vI s55.2.2)] ∧ M St W w (own NoB (s55.1 : (List GRecord)) [v0_1] :: its)) hl53 ⟨hE.sub ⟨rfl,rfl,rfl,rfl,trivial⟩,hM⟩ ?_
     rintro s55 a w ⟨hE,hM⟩ o58 hs56 hx57
     unfold WK at hs56
     refine wp_seq (Zc (Zd hE Za ld rfl fun a hE=>Zi hE Za ld rfl rfl rfl fun a hE=>Zf ?_))
     refine Zp hE rfl ?_ ?_
     ·intro hb59
      have hs56:=Zz hs56 hb59
      refine wp_skip (Zu (wp_seq (wp_block (Zc (Zd hE Za ld rfl fun a hE=>Zd hE Za ld rfl fun a hE=>Zd hE Za ld rfl fun a hE=>Zd hE Za ld rfl fun a hE=>Yb hE Za ld rfl Tryz.underlying3 Tryz.underlying5 ?_))))); intro a hE
      rw [ZN] at hE
      obtain ⟨x60,hi62,hs56⟩:=bix hs56
      refine ZK hE Za ld rfl rfl Tryz.underlying34 Ur (hM.ro (pre:=[]) noB) hi62.1 fun a hE=>Zh hE Za ld rfl (JX) ?_; intro a hE
      obtain ⟨x64,hi63,hs56⟩:=bvx hs56
      refine Zk hE Za ld rfl rfl Tryz.underlying37 ty5 hi63.1 ?_; intro a hE
      have hM:=hM.toOsl (List.getElem?_eq_some_iff.1 hi62.2).1
      refine QH (i:=(s4.2.2).toNat) (k0:=0 + 20 + (s55.2.2).toNat * 1) (seg:=[(vB (Zx s55.2.1))]) (xo:=x60) (xn:=(⟨x60.Number,x60.Version,x60.Nonce,x60.Label,x60.Body,(x60.Tag.setIfInBounds (s55.2.2).toNat (Zx s55.2.1))⟩ : GRecord)) hE hM noB Za (KO rfl (by show _ = _ + _ * 52 + _; omega)) rfl rfl ty5 rfl (Flat.cell (Zx s55.2.1 : UInt8)) hi62.2 (Hw (m:=1) hi63.1 rfl (by decide)) (fun S w cs f h=>by obtain ⟨y1,y2,_,_,rfl,rfl,s1,s2⟩:=VZ h; exact Ks (W8 (o':=0 + (s55.2.2).toNat * 1) (pre:=[[vI x60.Number],[vI x60.Version],enc x60.Nonce,[y1],[y2]]) (seg:=enc x60.Tag) (post:=[]) (cl1 (n:=1) (m:=19) rfl (cl1 (n:=1) (m:=18) rfl (cl1 (n:=16) (m:=2) (Flat.len _) (cl1 (n:=1) (m:=1) rfl (cl1 (n:=1) (m:=0) rfl cl0))))) (ZM (v:=x60.Tag) (x:=Zx s55.2.1) hi63.1) (ZD (v:=x60.Tag) (x:=Zx s55.2.1) hi63.1) (by first | omega | (simp only [Flat.n] <;> omega))) (UJ s1 s2 (by simp))) ?_; intro w a hM hE
      have hM:=hM.toOwn noB
      refine Zf (wp_region_lit (Zd hE Za ld rfl fun a hE=>Zi hE Za ld rfl rfl rfl fun a hE=>Ze hE Za ld rfl fun a hE=>Zj (ZZ (Zu (wp_region_lit (Zd hE Za ld rfl fun a hE=>Zi hE Za ld rfl rfl rfl fun a hE=>Ze hE Za ld rfl fun a hE=>Zj (Zl ?_)))))))
      exact ⟨_,(ois hs56),hE.sub ⟨rfl,rfl,rfl,rfl,trivial⟩,hM⟩
     ·intro hb59
      have hs56:=Zy hs56 hb59
      refine wp_exit (Zm (Zm (Z0 ?_)))
      have ht66:=hx57 _ (ois hs56)
      subst ht66
      refine Zl ?_
      exact ⟨hE.sub ⟨rfl,rfl,rfl,trivial⟩,hM⟩
    ·skip
     rintro a w ⟨hE,hM⟩
     refine ZZ (Zu (wp_region_lit (Zd hE Za ld rfl fun a hE=>Zi hE Za ld rfl rfl rfl fun a hE=>Ze hE Za ld rfl fun a hE=>Zj (Zl ?_))))
     exact ⟨_,(ois hF54),hE.sub ⟨rfl,rfl,rfl,trivial⟩,hM⟩
  ·intro hb8
   have hs5:=Zy hs5 hb8
   refine wp_exit (Zm (Zm (Z0 ?_)))
   have ht67:=hx6 _ (ois hs5)
   subst ht67
   refine Zl ?_
   exact ⟨hE.sub ⟨rfl,rfl,trivial⟩,hM⟩
 ·skip
  rintro a w ⟨hE,hM⟩
  refine Zu (Zc (Zd hE Za ld rfl fun a hE=>Ze hE Za ld rfl fun a hE=>Zf ?_))
  have hr:=Option.some.inj hF3
  subst hr
  exact wp_ret (Zt hE (by rfl) (Zs hE rfl) ⟨_,rfl,rfl,hM⟩)
def Vf (s4 : (List GEvent) × Int × Int) (s18 : (List GEvent) × Int × Int) : Option (Fl ((List GEvent) × Int × Int) ((List GEvent) × Int)) :=
 if (decide (s18.2.2 < 32)) = true then ((idx s18.1 s4.2.2).bind fun x23=>(ZI x23.Tag s18.2.2).bind fun x27=>some (Fl.nx ((s18.1.set (s4.2.2).toNat (⟨x23.Kind,x23.Number,(x23.Tag.setIfInBounds (s18.2.2).toNat (Zx s18.2.1))⟩ : GEvent)),wr (s18.2.1 + 1),wr (s18.2.2 + 1)))) else (some (Fl.ex (s18.1,s18.2.1)))
def Y9 (s4 : (List GEvent) × Int × Int) : Option (Fl ((List GEvent) × Int × Int) ((List GEvent) × Int)) :=
 if (decide (s4.2.2 < (s4.1.length : Int))) = true then ((idx s4.1 s4.2.2).bind fun x9=>(idx (s4.1.set (s4.2.2).toNat (⟨s4.2.1,x9.Number,x9.Tag⟩ : GEvent)) s4.2.2).bind fun x12=>(ZE (Vf s4) (((s4.1.set (s4.2.2).toNat (⟨s4.2.1,x9.Number,x9.Tag⟩ : GEvent)).set (s4.2.2).toNat (⟨x12.Kind,wr (s4.2.1 + 1),x12.Tag⟩ : GEvent)),wr ((wr (s4.2.1 + 1)) + 1),0)).bind fun j15=>some (Fl.nx (j15.1,j15.2,wr (s4.2.2 + 1)))) else (some (Fl.ex (s4.1,s4.2.1)))
def Wo (p0 : (List GEvent)) (p1 : Int) : Option ((List GEvent) × Int) :=
 (ZE (Y9) (p0,p1,0)).bind fun j1=>some (j1.1,j1.2)
theorem Kt (St : Nat → Prop) (W w0 : World) (its : List Item) (p0 : (List GEvent)) (v0_1 : Value) (p1 : Int) (hM : M St W w0 (own NoB (p0 : (List GEvent)) [v0_1] :: its)) (r : (List GEvent) × Int) (hF : Wo p0 p1 = some r) :
  Calls Tryz.prog 60 [v0_1,vI p1].toArray w0 (fun en w'=>∃ v,en = .returned v ∧ (v = (vI r.2) ∧ M St W w' (own NoB (r.1 : (List GEvent)) [v0_1] :: its))):=by
 refine ZB (n:=42) Tryz.func60 rfl rfl (nbl rfl) rfl ?_
 intro a hE
 unfold Wo at hF
 refine Zc (Ze hE Za ld rfl fun a hE=>Zf (wp_seq (Zc (Ze hE Za ld rfl fun a hE=>Zf ?_))))
 obtain ⟨j1,hl2,hF3⟩:=bind_some hF
 refine ZL (fun a w=>Env 42 a [(0,v0_1),(1,vI j1.2)] ∧ M St W w (own NoB (j1.1 : (List GEvent)) [v0_1] :: its)) ?_ ?_
 ·skip
  refine wp_block ?_
  refine ZC (fun (s4 : (List GEvent) × Int × Int) a w=>Env 42 a [(0,v0_1),(1,vI s4.2.1),(5,vI s4.2.2)] ∧ M St W w (own NoB (s4.1 : (List GEvent)) [v0_1] :: its)) hl2 ⟨hE.sub ⟨rfl,rfl,rfl,trivial⟩,hM⟩ ?_
  rintro s4 a w ⟨hE,hM⟩ o7 hs5 hx6
  unfold Y9 at hs5
  refine wp_seq (Zc (Zd hE Za ld rfl fun a hE=>Zd hE Za ld rfl fun a hE=>Yf hE Za ld rfl Tryz.underlying35 (hM.ro (pre:=[]) noB) fun a hE=>Zi hE Za ld rfl rfl rfl fun a hE=>Zf ?_))
  refine Zp hE rfl ?_ ?_
  ·intro hb8
   have hs5:=Zz hs5 hb8
   refine wp_skip (Zu (wp_seq (wp_block (Zc (Zd hE Za ld rfl fun a hE=>Zd hE Za ld rfl fun a hE=>Zd hE Za ld rfl ?_))))); intro a hE
   obtain ⟨x9,hi11,hs5⟩:=bix hs5
   refine ZK hE Za ld rfl rfl Tryz.underlying35 U2 (hM.ro (pre:=[]) noB) hi11.1 fun a hE=>Zh hE Za ld rfl (QC) ?_; intro a hE
   have hM:=hM.toOsl (List.getElem?_eq_some_iff.1 hi11.2).1
   refine TA (i:=(s4.2.2).toNat) (k0:=0 + 0) (seg:=[vI s4.2.1]) (xo:=x9) (xn:=(⟨s4.2.1,x9.Number,x9.Tag⟩ : GEvent)) hE hM Za rfl rfl rfl ty2 rfl (Flat.cell (s4.2.1 : Int)) hi11.2 (QO (m:=1) rfl (by decide)) (Tb (pre:=[]) cl0 rfl) ?_; intro w a hM hE
   have hM:=hM.toOwn noB
   refine Zf (Zc (Zd hE Za ld rfl fun a hE=>Zi hE Za ld rfl rfl rfl fun a hE=>Ze hE Za ld rfl fun a hE=>Zf (Zc (Zd hE Za ld rfl fun a hE=>Zd hE Za ld rfl fun a hE=>Zd hE Za ld rfl ?_)))); intro a hE
   obtain ⟨x12,hi14,hs5⟩:=bix hs5
   refine ZK hE Za ld rfl rfl Tryz.underlying35 U2 (hM.ro (pre:=[]) noB) hi14.1 fun a hE=>Zh hE Za ld rfl (QJ) ?_; intro a hE
   have hM:=hM.toOsl (List.getElem?_eq_some_iff.1 hi14.2).1
   refine TA (i:=(s4.2.2).toNat) (k0:=0 + 1) (seg:=[(vI (wr (s4.2.1 + 1)))]) (xo:=x12) (xn:=(⟨x12.Kind,wr (s4.2.1 + 1),x12.Tag⟩ : GEvent)) hE hM Za rfl rfl rfl ty2 rfl (Flat.cell (wr (s4.2.1 + 1) : Int)) hi14.2 (QO (m:=1) rfl (by decide)) (Tb (pre:=[[vI x12.Kind]]) (cl1 (n:=1) (m:=0) rfl cl0) rfl) ?_; intro w a hM hE
   have hM:=hM.toOwn noB
   refine Zf (Zc (Zd hE Za ld rfl fun a hE=>Zi hE Za ld rfl rfl rfl fun a hE=>Ze hE Za ld rfl fun a hE=>Zf (Zc (Ze hE Za ld rfl fun a hE=>Zf ?_))))
   obtain ⟨j15,hl16,hF17⟩:=bind_some hs5
   refine ZL (fun a w=>Env 42 a [(0,v0_1),(1,vI j15.2),(5,vI s4.2.2)] ∧ M St W w (own NoB (j15.1 : (List GEvent)) [v0_1] :: its)) ?_ ?_
   ·skip
    refine wp_block ?_
    refine ZC (fun (s18 : (List GEvent) × Int × Int) a w=>Env 42 a [(0,v0_1),(1,vI s18.2.1),(5,vI s4.2.2),(6,vI s18.2.2)] ∧ M St W w (own NoB (s18.1 : (List GEvent)) [v0_1] :: its)) hl16 ⟨hE.sub ⟨rfl,rfl,rfl,rfl,trivial⟩,hM⟩ ?_
    rintro s18 a w ⟨hE,hM⟩ o21 hs19 hx20
    unfold Vf at hs19
    refine wp_seq (Zc (Zd hE Za ld rfl fun a hE=>Zi hE Za ld rfl rfl rfl fun a hE=>Zf ?_))
    refine Zp hE rfl ?_ ?_
    ·intro hb22
     have hs19:=Zz hs19 hb22
     refine wp_skip (Zu (wp_seq (wp_block (Zc (Zd hE Za ld rfl fun a hE=>Zd hE Za ld rfl fun a hE=>Zd hE Za ld rfl fun a hE=>Zd hE Za ld rfl fun a hE=>Yb hE Za ld rfl Tryz.underlying3 Tryz.underlying5 ?_))))); intro a hE
     rw [ZN] at hE
     obtain ⟨x23,hi25,hs19⟩:=bix hs19
     refine ZK hE Za ld rfl rfl Tryz.underlying35 U2 (hM.ro (pre:=[]) noB) hi25.1 fun a hE=>Zh hE Za ld rfl (QD) ?_; intro a hE
     obtain ⟨x27,hi26,hs19⟩:=bvx hs19
     refine Zk hE Za ld rfl rfl Tryz.underlying37 ty5 hi26.1 ?_; intro a hE
     have hM:=hM.toOsl (List.getElem?_eq_some_iff.1 hi25.2).1
     refine TA (i:=(s4.2.2).toNat) (k0:=0 + 2 + (s18.2.2).toNat * 1) (seg:=[(vB (Zx s18.2.1))]) (xo:=x23) (xn:=(⟨x23.Kind,x23.Number,(x23.Tag.setIfInBounds (s18.2.2).toNat (Zx s18.2.1))⟩ : GEvent)) hE hM Za (KO rfl (by show _ = _ + _ * 34 + _; omega)) rfl rfl ty5 rfl (Flat.cell (Zx s18.2.1 : UInt8)) hi25.2 (Hw (m:=1) hi26.1 rfl (by decide)) (W8 (o':=0 + (s18.2.2).toNat * 1) (pre:=[[vI x23.Kind],[vI x23.Number]]) (seg:=enc x23.Tag) (post:=[]) (cl1 (n:=1) (m:=1) rfl (cl1 (n:=1) (m:=0) rfl cl0)) (ZM (v:=x23.Tag) (x:=Zx s18.2.1) hi26.1) (ZD (v:=x23.Tag) (x:=Zx s18.2.1) hi26.1) (by first | omega | (simp only [Flat.n] <;> omega))) ?_; intro w a hM hE
     have hM:=hM.toOwn noB
     refine Zf (wp_region_lit (Zd hE Za ld rfl fun a hE=>Zi hE Za ld rfl rfl rfl fun a hE=>Ze hE Za ld rfl fun a hE=>Zj (ZZ (Zu (wp_region_lit (Zd hE Za ld rfl fun a hE=>Zi hE Za ld rfl rfl rfl fun a hE=>Ze hE Za ld rfl fun a hE=>Zj (Zl ?_)))))))
     exact ⟨_,(ois hs19),hE.sub ⟨rfl,rfl,rfl,rfl,trivial⟩,hM⟩
    ·intro hb22
     have hs19:=Zy hs19 hb22
     refine wp_exit (Zm (Zm (Z0 ?_)))
     have ht29:=hx20 _ (ois hs19)
     subst ht29
     refine Zl ?_
     exact ⟨hE.sub ⟨rfl,rfl,rfl,trivial⟩,hM⟩
   ·skip
    rintro a w ⟨hE,hM⟩
    refine ZZ (Zu (wp_region_lit (Zd hE Za ld rfl fun a hE=>Zi hE Za ld rfl rfl rfl fun a hE=>Ze hE Za ld rfl fun a hE=>Zj (Zl ?_))))
    exact ⟨_,(ois hF17),hE.sub ⟨rfl,rfl,rfl,trivial⟩,hM⟩
  ·intro hb8
   have hs5:=Zy hs5 hb8
   refine wp_exit (Zm (Zm (Z0 ?_)))
   have ht30:=hx6 _ (ois hs5)
   subst ht30
   refine Zl ?_
   exact ⟨hE.sub ⟨rfl,rfl,trivial⟩,hM⟩
 ·skip
  rintro a w ⟨hE,hM⟩
  refine Zu (Zc (Zd hE Za ld rfl fun a hE=>Ze hE Za ld rfl fun a hE=>Zf ?_))
  have hr:=Option.some.inj hF3
  subst hr
  exact wp_ret (Zt hE (by rfl) (Zs hE rfl) ⟨_,rfl,rfl,hM⟩)
def W4 (p0 : GVault) (p1 : Int) : Option (GVault × Int) :=
 (Wx p0.Keys p1).bind fun r3=>(X0 p0.Records r3.2).bind fun r5=>(Wo p0.Events r5.2).bind fun r7=>some ((⟨r3.1,p0.Next,r5.1,r7.1,p0.Head⟩ : GVault),r7.2)
theorem K2 (St : Nat → Prop) (W w0 : World) (its : List Item) (p0 : GVault) (v0_1 : Value) (v0_2 : Value) (v0_3 : Value) (p1 : Int) (hM : M St W w0 (own NoB (p0.Keys : (List (Vector UInt8 16))) [v0_1] :: own NoB (p0.Records : (List GRecord)) [v0_2] :: own NoB (p0.Events : (List GEvent)) [v0_3] :: its)) (r : GVault × Int) (hF : W4 p0 p1 = some r) :
  Calls Tryz.prog 23 [(Value.agg (cat [[v0_1],[vI p0.Next],[v0_2],[v0_3],enc p0.Head]).toArray),vI p1].toArray w0 (fun en w'=>∃ v,en = .returned v ∧ (v = (vI r.2) ∧ M St W w' (own NoB (r.1.Keys : (List (Vector UInt8 16))) [v0_1] :: own NoB (r.1.Records : (List GRecord)) [v0_2] :: own NoB (r.1.Events : (List GEvent)) [v0_3] :: its))):=by
 refine ZB (n:=18) Tryz.func23 rfl rfl (nbl rfl) rfl ?_
 intro a hE
 unfold W4 at hF
 refine Zc (ZT (cs:=cat [[v0_1],[vI p0.Next],[v0_2],[v0_3],enc p0.Head]) hE hM Za ld rfl rfl fun b1 w a hM hE=>Ze hE Za ld rfl fun a hE=>Zf (Zc (Zh hE Za ld rfl (BZ) fun a hE=>ZA (v:=v0_1) hE Za ld rfl ty33 rfl (At.cat (pre:=[]) (hM.rawAt (pre:=[])) cl0) fun a hE=>Zd hE Za ld rfl ?_))); intro a hE
 have hM:=hM.pull (pre:=[_])
 obtain ⟨r3,e4,hF⟩:=bind_some hF
 refine Zw hE Za ld rfl cb58 (KT _ _ _ _ p0.Keys v0_1 p1 hM r3 e4) ?_
 rintro v w a ⟨rfl,hM⟩ hE
 refine Ze hE Za ld rfl fun a hE=>Zf (Zc (Zh hE Za ld rfl (BO) fun a hE=>ZA (v:=v0_2) hE Za ld rfl ty34 rfl (At.cat (pre:=[[v0_1],[vI p0.Next]]) (hM.rawAt (pre:=[_])) (cl1 (n:=1) (m:=1) rfl (cl1 (n:=1) (m:=0) rfl cl0))) fun a hE=>Zd hE Za ld rfl ?_)); intro a hE
 have hM:=hM.pull (pre:=[_,_])
 obtain ⟨r5,e6,hF⟩:=bind_some hF
 refine Zw hE Za ld rfl cb59 (Q4 _ _ _ _ p0.Records v0_2 r3.2 hM r5 e6) ?_
 rintro v w a ⟨rfl,hM⟩ hE
 refine Ze hE Za ld rfl fun a hE=>Zf (Zc (Zh hE Za ld rfl (Bz) fun a hE=>ZA (v:=v0_3) hE Za ld rfl ty35 rfl (At.cat (pre:=[[v0_1],[vI p0.Next],[v0_2]]) (hM.rawAt (pre:=[_,_])) (cl1 (n:=1) (m:=2) rfl (cl1 (n:=1) (m:=1) rfl (cl1 (n:=1) (m:=0) rfl cl0)))) fun a hE=>Zd hE Za ld rfl ?_)); intro a hE
 have hM:=hM.pull (pre:=[_,_,_])
 obtain ⟨r7,e8,hF⟩:=bind_some hF
 refine Zw hE Za ld rfl cb60 (Kt _ _ _ _ p0.Events v0_3 r5.2 hM r7 e8) ?_
 rintro v w a ⟨rfl,hM⟩ hE
 refine Ze hE Za ld rfl fun a hE=>Zf (Zc (Zd hE Za ld rfl fun a hE=>Ze hE Za ld rfl fun a hE=>Zf ?_))
 have hr:=Option.some.inj hF
 subst hr
 have hM:=(((hM.pull (pre:=[_])).pull (pre:=[_,_])).pull (pre:=[_,_,_])).drop
 exact wp_ret (Zt hE (by rfl) (Zs hE rfl) ⟨_,rfl,rfl,hM⟩)
def Tk (s4 : (List (Vector UInt8 32)) × Int × Int) (s12 : (List (Vector UInt8 32)) × Int × Int) : Option (Fl ((List (Vector UInt8 32)) × Int × Int) ((List (Vector UInt8 32)) × Int)) :=
 if (decide (s12.2.2 < 32)) = true then ((idx s12.1 s4.2.2).bind fun x17=>(ZI x17 s12.2.2).bind fun x21=>some (Fl.nx ((s12.1.set (s4.2.2).toNat (x17.setIfInBounds (s12.2.2).toNat (Zx s12.2.1))),wr (s12.2.1 + 1),wr (s12.2.2 + 1)))) else (some (Fl.ex (s12.1,s12.2.1)))
def Ut (s4 : (List (Vector UInt8 32)) × Int × Int) : Option (Fl ((List (Vector UInt8 32)) × Int × Int) ((List (Vector UInt8 32)) × Int)) :=
 if (decide (s4.2.2 < (s4.1.length : Int))) = true then ((ZE (Tk s4) (s4.1,s4.2.1,0)).bind fun j9=>some (Fl.nx (j9.1,j9.2,wr (s4.2.2 + 1)))) else (some (Fl.ex (s4.1,s4.2.1)))
def XU (p0 : (List (Vector UInt8 32))) (p1 : Int) : Option ((List (Vector UInt8 32)) × Int) :=
 (ZE (Ut) (p0,p1,0)).bind fun j1=>some (j1.1,j1.2)
theorem QY (St : Nat → Prop) (W w0 : World) (its : List Item) (p0 : (List (Vector UInt8 32))) (v0_1 : Value) (p1 : Int) (hM : M St W w0 (own NoB (p0 : (List (Vector UInt8 32))) [v0_1] :: its)) (r : (List (Vector UInt8 32)) × Int) (hF : XU p0 p1 = some r) :
  Calls Tryz.prog 61 [v0_1,vI p1].toArray w0 (fun en w'=>∃ v,en = .returned v ∧ (v = (vI r.2) ∧ M St W w' (own NoB (r.1 : (List (Vector UInt8 32))) [v0_1] :: its))):=by
 refine ZB (n:=27) Tryz.func61 rfl rfl (nbl rfl) rfl ?_
 intro a hE
 unfold XU at hF
 refine Zc (Ze hE Za ld rfl fun a hE=>Zf (wp_seq (Zc (Ze hE Za ld rfl fun a hE=>Zf ?_))))
 obtain ⟨j1,hl2,hF3⟩:=bind_some hF
 refine ZL (fun a w=>Env 27 a [(0,v0_1),(1,vI j1.2)] ∧ M St W w (own NoB (j1.1 : (List (Vector UInt8 32))) [v0_1] :: its)) ?_ ?_
 ·skip
  refine wp_block ?_
  refine ZC (fun (s4 : (List (Vector UInt8 32)) × Int × Int) a w=>Env 27 a [(0,v0_1),(1,vI s4.2.1),(5,vI s4.2.2)] ∧ M St W w (own NoB (s4.1 : (List (Vector UInt8 32))) [v0_1] :: its)) hl2 ⟨hE.sub ⟨rfl,rfl,rfl,trivial⟩,hM⟩ ?_
  rintro s4 a w ⟨hE,hM⟩ o7 hs5 hx6
  unfold Ut at hs5
  refine wp_seq (Zc (Zd hE Za ld rfl fun a hE=>Zd hE Za ld rfl fun a hE=>Yf hE Za ld rfl Tryz.underlying40 (hM.ro (pre:=[]) noB) fun a hE=>Zi hE Za ld rfl rfl rfl fun a hE=>Zf ?_))
  refine Zp hE rfl ?_ ?_
  ·intro hb8
   have hs5:=Zz hs5 hb8
   refine wp_skip (Zu (wp_seq (wp_block (Zc (Ze hE Za ld rfl fun a hE=>Zf ?_)))))
   obtain ⟨j9,hl10,hF11⟩:=bind_some hs5
   refine ZL (fun a w=>Env 27 a [(0,v0_1),(1,vI j9.2),(5,vI s4.2.2)] ∧ M St W w (own NoB (j9.1 : (List (Vector UInt8 32))) [v0_1] :: its)) ?_ ?_
   ·skip
    refine wp_block ?_
    refine ZC (fun (s12 : (List (Vector UInt8 32)) × Int × Int) a w=>Env 27 a [(0,v0_1),(1,vI s12.2.1),(5,vI s4.2.2),(6,vI s12.2.2)] ∧ M St W w (own NoB (s12.1 : (List (Vector UInt8 32))) [v0_1] :: its)) hl10 ⟨hE.sub ⟨rfl,rfl,rfl,rfl,trivial⟩,hM⟩ ?_
    rintro s12 a w ⟨hE,hM⟩ o15 hs13 hx14
    unfold Tk at hs13
    refine wp_seq (Zc (Zd hE Za ld rfl fun a hE=>Zi hE Za ld rfl rfl rfl fun a hE=>Zf ?_))
    refine Zp hE rfl ?_ ?_
    ·intro hb16
     have hs13:=Zz hs13 hb16
     refine wp_skip (Zu (wp_seq (wp_block (Zc (Zd hE Za ld rfl fun a hE=>Zd hE Za ld rfl fun a hE=>Zd hE Za ld rfl fun a hE=>Zd hE Za ld rfl fun a hE=>Yb hE Za ld rfl Tryz.underlying3 Tryz.underlying5 ?_))))); intro a hE
     rw [ZN] at hE
     obtain ⟨x17,hi19,hs13⟩:=bix hs13
     refine ZK hE Za ld rfl rfl Tryz.underlying40 Yi (hM.ro (pre:=[]) noB) hi19.1 ?_; intro a hE
     obtain ⟨x21,hi20,hs13⟩:=bvx hs13
     refine Zk hE Za ld rfl rfl Tryz.underlying37 ty5 hi20.1 ?_; intro a hE
     have hM:=hM.toOsl (List.getElem?_eq_some_iff.1 hi19.2).1
     refine TA (i:=(s4.2.2).toNat) (k0:=0 + (s12.2.2).toNat * 1) (seg:=[(vB (Zx s12.2.1))]) (xo:=x17) (xn:=(x17.setIfInBounds (s12.2.2).toNat (Zx s12.2.1))) hE hM Za (KO rfl (by show _ = _ + _ * 32 + _; omega)) rfl rfl ty5 rfl (Flat.cell (Zx s12.2.1 : UInt8)) hi19.2 (B9 (x:=Zx s12.2.1) hi20.1) (ZD (v:=x17) (x:=Zx s12.2.1) hi20.1) ?_; intro w a hM hE
     have hM:=hM.toOwn noB
     refine Zf (wp_region_lit (Zd hE Za ld rfl fun a hE=>Zi hE Za ld rfl rfl rfl fun a hE=>Ze hE Za ld rfl fun a hE=>Zj (ZZ (Zu (wp_region_lit (Zd hE Za ld rfl fun a hE=>Zi hE Za ld rfl rfl rfl fun a hE=>Ze hE Za ld rfl fun a hE=>Zj (Zl ?_)))))))
     exact ⟨_,(ois hs13),hE.sub ⟨rfl,rfl,rfl,rfl,trivial⟩,hM⟩
    ·intro hb16
     have hs13:=Zy hs13 hb16
     refine wp_exit (Zm (Zm (Z0 ?_)))
     have ht23:=hx14 _ (ois hs13)
     subst ht23
     refine Zl ?_
     exact ⟨hE.sub ⟨rfl,rfl,rfl,trivial⟩,hM⟩
   ·skip
    rintro a w ⟨hE,hM⟩
    refine ZZ (Zu (wp_region_lit (Zd hE Za ld rfl fun a hE=>Zi hE Za ld rfl rfl rfl fun a hE=>Ze hE Za ld rfl fun a hE=>Zj (Zl ?_))))
    exact ⟨_,(ois hF11),hE.sub ⟨rfl,rfl,rfl,trivial⟩,hM⟩
  ·intro hb8
   have hs5:=Zy hs5 hb8
   refine wp_exit (Zm (Zm (Z0 ?_)))
   have ht24:=hx6 _ (ois hs5)
   subst ht24
   refine Zl ?_
   exact ⟨hE.sub ⟨rfl,rfl,trivial⟩,hM⟩
 ·skip
  rintro a w ⟨hE,hM⟩
  refine Zu (Zc (Zd hE Za ld rfl fun a hE=>Ze hE Za ld rfl fun a hE=>Zf ?_))
  have hr:=Option.some.inj hF3
  subst hr
  exact wp_ret (Zt hE (by rfl) (Zs hE rfl) ⟨_,rfl,rfl,hM⟩)
def UN (s4 : (List (List UInt8)) × Int × Int) : Option (Fl ((List (List UInt8)) × Int × Int) ((List (List UInt8)) × Int)) :=
 if (decide (s4.2.2 < (s4.1.length : Int))) = true then ((idx s4.1 s4.2.2).bind fun x9=>(Z9 x9 s4.2.1).bind fun r16=>some (Fl.nx ((s4.1.set (s4.2.2).toNat r16.1),r16.2,wr (s4.2.2 + 1)))) else (some (Fl.ex (s4.1,s4.2.1)))
def Wr (p0 : (List (List UInt8))) (p1 : Int) : Option ((List (List UInt8)) × Int) :=
 (ZE (UN) (p0,p1,0)).bind fun j1=>some (j1.1,j1.2)
theorem KI (St : Nat → Prop) (W w0 : World) (its : List Item) (p0 : (List (List UInt8))) (v0_1 : Value) (p1 : Int) (hM : M St W w0 (own NoB (p0 : (List (List UInt8))) [v0_1] :: its)) (r : (List (List UInt8)) × Int) (hF : Wr p0 p1 = some r) :
  Calls Tryz.prog 62 [v0_1,vI p1].toArray w0 (fun en w'=>∃ v,en = .returned v ∧ (v = (vI r.2) ∧ M St W w' (own NoB (r.1 : (List (List UInt8))) [v0_1] :: its))):=by
 refine ZB (n:=19) Tryz.func62 rfl rfl (nbl rfl) rfl ?_
 intro a hE
 unfold Wr at hF
 refine Zc (Ze hE Za ld rfl fun a hE=>Zf (wp_seq (Zc (Ze hE Za ld rfl fun a hE=>Zf ?_))))
 obtain ⟨j1,hl2,hF3⟩:=bind_some hF
 refine ZL (fun a w=>Env 19 a [(0,v0_1),(1,vI j1.2)] ∧ M St W w (own NoB (j1.1 : (List (List UInt8))) [v0_1] :: its)) ?_ ?_
 ·skip
  refine wp_block ?_
  refine ZC (fun (s4 : (List (List UInt8)) × Int × Int) a w=>Env 19 a [(0,v0_1),(1,vI s4.2.1),(5,vI s4.2.2)] ∧ M St W w (own NoB (s4.1 : (List (List UInt8))) [v0_1] :: its)) hl2 ⟨hE.sub ⟨rfl,rfl,rfl,trivial⟩,hM⟩ ?_
  rintro s4 a w ⟨hE,hM⟩ o7 hs5 hx6
  unfold UN at hs5
  refine wp_seq (Zc (Zd hE Za ld rfl fun a hE=>Zd hE Za ld rfl fun a hE=>Yf hE Za ld rfl Tryz.underlying41 (hM.ro (pre:=[]) noB) fun a hE=>Zi hE Za ld rfl rfl rfl fun a hE=>Zf ?_))
  refine Zp hE rfl ?_ ?_
  ·intro hb8
   have hs5:=Zz hs5 hb8
   refine wp_skip (Zu (wp_seq (wp_block (wp_region_lit (Zd hE Za ld rfl fun a hE=>Zd hE Za ld rfl ?_))))); intro a hE
   obtain ⟨x9,hi11,hs5⟩:=bix hs5
   refine ZK hE Za ld rfl rfl Tryz.underlying41 UU (hM.ro (pre:=[]) noB) hi11.1 ?_; intro a hE
   have hM:=(hM.toOsl (List.getElem?_eq_some_iff.1 hi11.2).1).open1 noB hi11.2
   obtain ⟨cs12,hM,hA13⟩:=hM
   obtain ⟨_,hx,_⟩:=hM.head
   obtain ⟨u14,rfl⟩:=XE hx
   refine ZA (v:=u14) hE Za ld rfl UU rfl hA13 fun a hE=>Zd hE Za ld rfl ?_; intro a hE
   obtain ⟨r16,e17,hs5⟩:=bind_some hs5
   refine Zw hE Za ld rfl cb22 (Un _ _ _ _ x9 u14 s4.2.1 hM r16 e17) ?_
   rintro v w a ⟨rfl,hM⟩ hE
   have hM:=(((hM.pull (pre:=[_])).pull (pre:=[_])).close1 noB).toOwn noB
   refine Ze hE Za ld rfl fun a hE=>Zj (ZZ (Zu (wp_region_lit (Zd hE Za ld rfl fun a hE=>Zi hE Za ld rfl rfl rfl fun a hE=>Ze hE Za ld rfl fun a hE=>Zj (Zl ?_)))))
   exact ⟨_,(ois hs5),hE.sub ⟨rfl,rfl,rfl,trivial⟩,hM⟩
  ·intro hb8
   have hs5:=Zy hs5 hb8
   refine wp_exit (Zm (Zm (Z0 ?_)))
   have ht18:=hx6 _ (ois hs5)
   subst ht18
   refine Zl ?_
   exact ⟨hE.sub ⟨rfl,rfl,trivial⟩,hM⟩
 ·skip
  rintro a w ⟨hE,hM⟩
  refine Zu (Zc (Zd hE Za ld rfl fun a hE=>Ze hE Za ld rfl fun a hE=>Zf ?_))
  have hr:=Option.some.inj hF3
  subst hr
  exact wp_ret (Zt hE (by rfl) (Zs hE rfl) ⟨_,rfl,rfl,hM⟩)
def UH (s4 : (List Int) × Int × Int) : Option (Fl ((List Int) × Int × Int) ((List Int) × Int)) :=
 if (decide (s4.2.2 < (s4.1.length : Int))) = true then ((idx s4.1 s4.2.2).bind fun x9=>some (Fl.nx ((s4.1.set (s4.2.2).toNat s4.2.1),wr (s4.2.1 + 1),wr (s4.2.2 + 1)))) else (some (Fl.ex (s4.1,s4.2.1)))
def Wu (p0 : (List Int)) (p1 : Int) : Option ((List Int) × Int) :=
 (ZE (UH) (p0,p1,0)).bind fun j1=>some (j1.1,j1.2)
theorem KA (St : Nat → Prop) (W w0 : World) (its : List Item) (p0 : (List Int)) (v0_1 : Value) (p1 : Int) (hM : M St W w0 (own NoB (p0 : (List Int)) [v0_1] :: its)) (r : (List Int) × Int) (hF : Wu p0 p1 = some r) :
  Calls Tryz.prog 63 [v0_1,vI p1].toArray w0 (fun en w'=>∃ v,en = .returned v ∧ (v = (vI r.2) ∧ M St W w' (own NoB (r.1 : (List Int)) [v0_1] :: its))):=by
 refine ZB (n:=19) Tryz.func63 rfl rfl (nbl rfl) rfl ?_
 intro a hE
 unfold Wu at hF
 refine Zc (Ze hE Za ld rfl fun a hE=>Zf (wp_seq (Zc (Ze hE Za ld rfl fun a hE=>Zf ?_))))
 obtain ⟨j1,hl2,hF3⟩:=bind_some hF
 refine ZL (fun a w=>Env 19 a [(0,v0_1),(1,vI j1.2)] ∧ M St W w (own NoB (j1.1 : (List Int)) [v0_1] :: its)) ?_ ?_
 ·skip
  refine wp_block ?_
  refine ZC (fun (s4 : (List Int) × Int × Int) a w=>Env 19 a [(0,v0_1),(1,vI s4.2.1),(5,vI s4.2.2)] ∧ M St W w (own NoB (s4.1 : (List Int)) [v0_1] :: its)) hl2 ⟨hE.sub ⟨rfl,rfl,rfl,trivial⟩,hM⟩ ?_
  rintro s4 a w ⟨hE,hM⟩ o7 hs5 hx6
  unfold UH at hs5
  refine wp_seq (Zc (Zd hE Za ld rfl fun a hE=>Zd hE Za ld rfl fun a hE=>Yf hE Za ld rfl Tryz.underlying42 (hM.ro (pre:=[]) noB) fun a hE=>Zi hE Za ld rfl rfl rfl fun a hE=>Zf ?_))
  refine Zp hE rfl ?_ ?_
  ·intro hb8
   have hs5:=Zz hs5 hb8
   refine wp_skip (Zu (wp_seq (wp_block (Zc (Zd hE Za ld rfl fun a hE=>Zd hE Za ld rfl fun a hE=>Zd hE Za ld rfl ?_))))); intro a hE
   obtain ⟨x9,hi11,hs5⟩:=bix hs5
   refine ZK hE Za ld rfl rfl Tryz.underlying42 ty2 (hM.ro (pre:=[]) noB) hi11.1 ?_; intro a hE
   have hM:=hM.toOsl (List.getElem?_eq_some_iff.1 hi11.2).1
   refine TA (i:=(s4.2.2).toNat) (k0:=0) (seg:=[vI s4.2.1]) (xo:=x9) (xn:=s4.2.1) hE hM Za rfl rfl rfl ty2 rfl (Flat.cell (s4.2.1 : Int)) hi11.2 (QO (m:=1) rfl (by decide)) (Zr rfl) ?_; intro w a hM hE
   have hM:=hM.toOwn noB
   refine Zf (wp_region_lit (Zd hE Za ld rfl fun a hE=>Zi hE Za ld rfl rfl rfl fun a hE=>Ze hE Za ld rfl fun a hE=>Zj (ZZ (Zu (wp_region_lit (Zd hE Za ld rfl fun a hE=>Zi hE Za ld rfl rfl rfl fun a hE=>Ze hE Za ld rfl fun a hE=>Zj (Zl ?_)))))))
   exact ⟨_,(ois hs5),hE.sub ⟨rfl,rfl,rfl,trivial⟩,hM⟩
  ·intro hb8
   have hs5:=Zy hs5 hb8
   refine wp_exit (Zm (Zm (Z0 ?_)))
   have ht12:=hx6 _ (ois hs5)
   subst ht12
   refine Zl ?_
   exact ⟨hE.sub ⟨rfl,rfl,trivial⟩,hM⟩
 ·skip
  rintro a w ⟨hE,hM⟩
  refine Zu (Zc (Zd hE Za ld rfl fun a hE=>Ze hE Za ld rfl fun a hE=>Zf ?_))
  have hr:=Option.some.inj hF3
  subst hr
  exact wp_ret (Zt hE (by rfl) (Zs hE rfl) ⟨_,rfl,rfl,hM⟩)
def Ue (p0 : GBlobs) (p1 : Int) : Option (GBlobs × Int) :=
 (XU p0.Keys p1).bind fun r3=>(Wr p0.Data r3.2).bind fun r5=>(Wu p0.Counts r5.2).bind fun r7=>some ((⟨r3.1,r5.1,r7.1⟩ : GBlobs),r7.2)
theorem K3 (St : Nat → Prop) (W w0 : World) (its : List Item) (p0 : GBlobs) (v0_1 : Value) (v0_2 : Value) (v0_3 : Value) (p1 : Int) (hM : M St W w0 (own NoB (p0.Keys : (List (Vector UInt8 32))) [v0_1] :: own NoB (p0.Data : (List (List UInt8))) [v0_2] :: own NoB (p0.Counts : (List Int)) [v0_3] :: its)) (r : GBlobs × Int) (hF : Ue p0 p1 = some r) :
  Calls Tryz.prog 24 [(Value.agg (cat [[v0_1],[v0_2],[v0_3]]).toArray),vI p1].toArray w0 (fun en w'=>∃ v,en = .returned v ∧ (v = (vI r.2) ∧ M St W w' (own NoB (r.1.Keys : (List (Vector UInt8 32))) [v0_1] :: own NoB (r.1.Data : (List (List UInt8))) [v0_2] :: own NoB (r.1.Counts : (List Int)) [v0_3] :: its))):=by
 refine ZB (n:=18) Tryz.func24 rfl rfl (nbl rfl) rfl ?_
 intro a hE
 unfold Ue at hF
 refine Zc (ZT (cs:=cat [[v0_1],[v0_2],[v0_3]]) hE hM Za ld rfl rfl fun b1 w a hM hE=>Ze hE Za ld rfl fun a hE=>Zf (Zc (Zh hE Za ld rfl (BG) fun a hE=>ZA (v:=v0_1) hE Za ld rfl ty40 rfl (At.cat (pre:=[]) (hM.rawAt (pre:=[])) cl0) fun a hE=>Zd hE Za ld rfl ?_))); intro a hE
 have hM:=hM.pull (pre:=[_])
 obtain ⟨r3,e4,hF⟩:=bind_some hF
 refine Zw hE Za ld rfl cb61 (QY _ _ _ _ p0.Keys v0_1 p1 hM r3 e4) ?_
 rintro v w a ⟨rfl,hM⟩ hE
 refine Ze hE Za ld rfl fun a hE=>Zf (Zc (Zh hE Za ld rfl (BS) fun a hE=>ZA (v:=v0_2) hE Za ld rfl ty41 rfl (At.cat (pre:=[[v0_1]]) (hM.rawAt (pre:=[_])) (cl1 (n:=1) (m:=0) rfl cl0)) fun a hE=>Zd hE Za ld rfl ?_)); intro a hE
 have hM:=hM.pull (pre:=[_,_])
 obtain ⟨r5,e6,hF⟩:=bind_some hF
 refine Zw hE Za ld rfl cb62 (KI _ _ _ _ p0.Data v0_2 r3.2 hM r5 e6) ?_
 rintro v w a ⟨rfl,hM⟩ hE
 refine Ze hE Za ld rfl fun a hE=>Zf (Zc (Zh hE Za ld rfl (B0) fun a hE=>ZA (v:=v0_3) hE Za ld rfl ty42 rfl (At.cat (pre:=[[v0_1],[v0_2]]) (hM.rawAt (pre:=[_,_])) (cl1 (n:=1) (m:=1) rfl (cl1 (n:=1) (m:=0) rfl cl0))) fun a hE=>Zd hE Za ld rfl ?_)); intro a hE
 have hM:=hM.pull (pre:=[_,_,_])
 obtain ⟨r7,e8,hF⟩:=bind_some hF
 refine Zw hE Za ld rfl cb63 (KA _ _ _ _ p0.Counts v0_3 r5.2 hM r7 e8) ?_
 rintro v w a ⟨rfl,hM⟩ hE
 refine Ze hE Za ld rfl fun a hE=>Zf (Zc (Zd hE Za ld rfl fun a hE=>Ze hE Za ld rfl fun a hE=>Zf ?_))
 have hr:=Option.some.inj hF
 subst hr
 have hM:=(((hM.pull (pre:=[_])).pull (pre:=[_,_])).pull (pre:=[_,_,_])).drop
 exact wp_ret (Zt hE (by rfl) (Zs hE rfl) ⟨_,rfl,rfl,hM⟩)
def VA (p0 : GDesk) (p1 : Int) : Option (GDesk × Int) :=
 (Z9 p0.Data p1).bind fun r3=>(W4 p0.Vault r3.2).bind fun r5=>(Ue p0.Blobs r5.2).bind fun r7=>some ((⟨p0.Cipher,p0.Key,p0.Start,r3.1,(⟨r5.1.Keys,p0.Vault.Next,r5.1.Records,r5.1.Events,p0.Vault.Head⟩ : GVault),r7.1⟩ : GDesk),r7.2)
theorem JI (St : Nat → Prop) (W w0 : World) (its : List Item) (p0 : GDesk) (v0_1 : Value) (v0_2 : Value) (v0_3 : Value) (v0_4 : Value) (v0_5 : Value) (v0_6 : Value) (v0_7 : Value) (p1 : Int) (hM : M St W w0 (own NoB (p0.Data : (List UInt8)) [v0_1] :: own NoB (p0.Vault.Keys : (List (Vector UInt8 16))) [v0_2] :: own NoB (p0.Vault.Records : (List GRecord)) [v0_3] :: own NoB (p0.Vault.Events : (List GEvent)) [v0_4] :: own NoB (p0.Blobs.Keys : (List (Vector UInt8 32))) [v0_5] :: own NoB (p0.Blobs.Data : (List (List UInt8))) [v0_6] :: own NoB (p0.Blobs.Counts : (List Int)) [v0_7] :: its)) (r : GDesk × Int) (hF : VA p0 p1 = some r) :
  Calls Tryz.prog 8 [(Value.agg (cat [cat [[vI p0.Cipher.Field],enc p0.Cipher.Box,enc p0.Cipher.Mix,enc p0.Cipher.Places,[vI p0.Cipher.Rounds]],enc p0.Key,enc p0.Start,[v0_1],cat [[v0_2],[vI p0.Vault.Next],[v0_3],[v0_4],enc p0.Vault.Head],cat [[v0_5],[v0_6],[v0_7]]]).toArray),vI p1].toArray w0 (fun en w'=>∃ v,en = .returned v ∧ (v = (vI r.2) ∧ M St W w' (own NoB (r.1.Data : (List UInt8)) [v0_1] :: own NoB (r.1.Vault.Keys : (List (Vector UInt8 16))) [v0_2] :: own NoB (r.1.Vault.Records : (List GRecord)) [v0_3] :: own NoB (r.1.Vault.Events : (List GEvent)) [v0_4] :: own NoB (r.1.Blobs.Keys : (List (Vector UInt8 32))) [v0_5] :: own NoB (r.1.Blobs.Data : (List (List UInt8))) [v0_6] :: own NoB (r.1.Blobs.Counts : (List Int)) [v0_7] :: its))):=by
 refine ZB (n:=18) Tryz.func8 rfl rfl (nbl rfl) rfl ?_
 intro a hE
 unfold VA at hF
 refine Zc (ZT (cs:=cat [cat [[vI p0.Cipher.Field],enc p0.Cipher.Box,enc p0.Cipher.Mix,enc p0.Cipher.Places,[vI p0.Cipher.Rounds]],enc p0.Key,enc p0.Start,[v0_1],cat [[v0_2],[vI p0.Vault.Next],[v0_3],[v0_4],enc p0.Vault.Head],cat [[v0_5],[v0_6],[v0_7]]]) hE hM Za ld rfl rfl fun b1 w a hM hE=>Ze hE Za ld rfl fun a hE=>Zf (Zc (Zh hE Za ld rfl (BU) fun a hE=>ZA (v:=v0_1) hE Za ld rfl UU rfl (At.cat (pre:=[cat [[vI p0.Cipher.Field],enc p0.Cipher.Box,enc p0.Cipher.Mix,enc p0.Cipher.Places,[vI p0.Cipher.Rounds]],enc p0.Key,enc p0.Start]) (hM.rawAt (pre:=[])) (cl1 (n:=290) (m:=32) (Zg (cl1 (n:=1) (m:=289) rfl (cl1 (n:=256) (m:=33) (Flat.len _) (cl1 (n:=16) (m:=17) (Flat.len _) (cl1 (n:=16) (m:=1) (Flat.len _) (cl1 (n:=1) (m:=0) rfl cl0)))))) (cl1 (n:=16) (m:=16) (Flat.len _) (cl1 (n:=16) (m:=0) (Flat.len _) cl0)))) fun a hE=>Zd hE Za ld rfl ?_))); intro a hE
 have hM:=hM.pull (pre:=[_])
 obtain ⟨r3,e4,hF⟩:=bind_some hF
 refine Zw hE Za ld rfl cb22 (Un _ _ _ _ p0.Data v0_1 p1 hM r3 e4) ?_
 rintro v w a ⟨rfl,hM⟩ hE
 refine Ze hE Za ld rfl fun a hE=>Zf (Zc (Zh hE Za ld rfl (BD) fun a hE=>Zo (cs:=cat [[v0_2],[vI p0.Vault.Next],[v0_3],[v0_4],enc p0.Vault.Head]) hE Za ld rfl Qj rfl (At.cat (pre:=[cat [[vI p0.Cipher.Field],enc p0.Cipher.Box,enc p0.Cipher.Mix,enc p0.Cipher.Places,[vI p0.Cipher.Rounds]],enc p0.Key,enc p0.Start,[v0_1]]) (hM.rawAt (pre:=[_])) (cl1 (n:=290) (m:=33) (Zg (cl1 (n:=1) (m:=289) rfl (cl1 (n:=256) (m:=33) (Flat.len _) (cl1 (n:=16) (m:=17) (Flat.len _) (cl1 (n:=16) (m:=1) (Flat.len _) (cl1 (n:=1) (m:=0) rfl cl0)))))) (cl1 (n:=16) (m:=17) (Flat.len _) (cl1 (n:=16) (m:=1) (Flat.len _) (cl1 (n:=1) (m:=0) rfl cl0))))) (Zg (cl1 (n:=1) (m:=35) rfl (cl1 (n:=1) (m:=34) rfl (cl1 (n:=1) (m:=33) rfl (cl1 (n:=1) (m:=32) rfl (cl1 (n:=32) (m:=0) (Flat.len _) cl0)))))) fun a hE=>Zd hE Za ld rfl ?_)); intro a hE
 have hM:=((hM.pull (pre:=[_,_,_,_])).pull (pre:=[_,_,_,_])).pull (pre:=[_,_,_,_])
 obtain ⟨r5,e6,hF⟩:=bind_some hF
 refine Zw hE Za ld rfl cb23 (K2 _ _ _ _ p0.Vault v0_2 v0_3 v0_4 r3.2 hM r5 e6) ?_
 rintro v w a ⟨rfl,hM⟩ hE
 refine Ze hE Za ld rfl fun a hE=>Zf (Zc (Zh hE Za ld rfl (BN) fun a hE=>Zo (cs:=cat [[v0_5],[v0_6],[v0_7]]) hE Za ld rfl B3 rfl (At.cat (pre:=[cat [[vI p0.Cipher.Field],enc p0.Cipher.Box,enc p0.Cipher.Mix,enc p0.Cipher.Places,[vI p0.Cipher.Rounds]],enc p0.Key,enc p0.Start,[v0_1],cat [[v0_2],[vI p0.Vault.Next],[v0_3],[v0_4],enc p0.Vault.Head]]) (hM.rawAt (pre:=[_,_,_,_])) (cl1 (n:=290) (m:=69) (Zg (cl1 (n:=1) (m:=289) rfl (cl1 (n:=256) (m:=33) (Flat.len _) (cl1 (n:=16) (m:=17) (Flat.len _) (cl1 (n:=16) (m:=1) (Flat.len _) (cl1 (n:=1) (m:=0) rfl cl0)))))) (cl1 (n:=16) (m:=53) (Flat.len _) (cl1 (n:=16) (m:=37) (Flat.len _) (cl1 (n:=1) (m:=36) rfl (cl1 (n:=36) (m:=0) (Zg (cl1 (n:=1) (m:=35) rfl (cl1 (n:=1) (m:=34) rfl (cl1 (n:=1) (m:=33) rfl (cl1 (n:=1) (m:=32) rfl (cl1 (n:=32) (m:=0) (Flat.len _) cl0)))))) cl0)))))) (Zg (cl1 (n:=1) (m:=2) rfl (cl1 (n:=1) (m:=1) rfl (cl1 (n:=1) (m:=0) rfl cl0)))) fun a hE=>Zd hE Za ld rfl ?_)); intro a hE
 have hM:=((hM.pull (pre:=[_,_,_,_,_,_,_])).pull (pre:=[_,_,_,_,_,_,_])).pull (pre:=[_,_,_,_,_,_,_])
 obtain ⟨r7,e8,hF⟩:=bind_some hF
 refine Zw hE Za ld rfl cb24 (K3 _ _ _ _ p0.Blobs v0_5 v0_6 v0_7 r5.2 hM r7 e8) ?_
 rintro v w a ⟨rfl,hM⟩ hE
 refine Ze hE Za ld rfl fun a hE=>Zf (Zc (Zd hE Za ld rfl fun a hE=>Ze hE Za ld rfl fun a hE=>Zf ?_))
 have hr:=Option.some.inj hF
 subst hr
 have hM:=((((((((hM.pull (pre:=[_,_])).pull (pre:=[_,_])).pull (pre:=[_,_])).pull (pre:=[_,_,_,_,_])).pull (pre:=[_,_,_,_,_])).pull (pre:=[_,_,_,_,_])).pull (pre:=[_,_,_,_,_,_])).pull (pre:=[_,_,_,_,_,_,_])).drop
 exact wp_ret (Zt hE (by rfl) (Zs hE rfl) ⟨_,rfl,rfl,hM⟩)
def Xx (p0 : (List UInt8)) (s5 : Int × Int) : Option (Fl (Int × Int) (Fl Int Int)) :=
 if (decide (s5.2 < (p0.length : Int))) = true then ((idx p0 s5.2).bind fun x10=>if (x10 != (Zx s5.1)) = true then (some (Fl.ex (Fl.ex (-1)))) else (some (Fl.nx (wr (s5.1 + 1),wr (s5.2 + 1))))) else (some (Fl.ex (Fl.nx s5.1)))
def Yk (p0 : (List UInt8)) (p1 : Int) : Option (Int) :=
 (ZE (Xx p0) (p1,0)).bind fun j1=>j1.el (fun s4=>some s4) (fun r=>some r)
theorem Up (w0 : World) (p0 : (List UInt8)) (v0_1 : Value) (hv0_1 : Ro w0 p0 [v0_1]) (p1 : Int) (r : Int) (hF : Yk p0 p1 = some r) :
  Calls Tryz.prog 25 [v0_1,vI p1].toArray w0 (fun en w'=>∃ v,en = .returned v ∧ (v = (vI r) ∧ Kept (Old w0) w0 w')):=by
 refine ZB (n:=22) Tryz.func25 rfl rfl (nbl rfl) rfl ?_
 intro a hE
 have hM:=M.start w0
 unfold Yk at hF
 refine Zc (Ze hE Za ld rfl fun a hE=>Zf (wp_seq (Zc (Ze hE Za ld rfl fun a hE=>Zf ?_))))
 obtain ⟨j1,hl2,hF3⟩:=bind_some hF
 refine ZL (fun a w=>∃ s4 : Int,j1 = Fl.nx s4 ∧ Env 22 a [(1,vI s4)] ∧ M (Old w0) w0 w []) ?_ ?_
 ·skip
  refine wp_block ?_
  refine ZC (fun (s5 : Int × Int) a w=>Env 22 a [(0,v0_1),(1,vI s5.1),(5,vI s5.2)] ∧ M (Old w0) w0 w []) hl2 ⟨hE.sub ⟨rfl,rfl,rfl,trivial⟩,hM⟩ ?_
  rintro s5 a w ⟨hE,hM⟩ o8 hs6 hx7
  unfold Xx at hs6
  refine wp_seq (Zc (Zd hE Za ld rfl fun a hE=>Zd hE Za ld rfl fun a hE=>Yf hE Za ld rfl Tryz.underlying32 (hM.rd hv0_1) fun a hE=>Zi hE Za ld rfl rfl rfl fun a hE=>Zf ?_))
  refine Zp hE rfl ?_ ?_
  ·intro hb9
   have hs6:=Zz hs6 hb9
   refine wp_skip (Zu (wp_seq (wp_block (wp_seq (Zc (Zd hE Za ld rfl fun a hE=>Zd hE Za ld rfl ?_)))))); intro a hE
   obtain ⟨x10,hi12,hs6⟩:=bix hs6
   refine ZK hE Za ld rfl rfl Tryz.underlying32 ty5 (hM.rd hv0_1) hi12.1 fun a hE=>ZA (v:=(vB x10)) hE Za ld rfl ty5 rfl (Xc (hM.rd hv0_1) hi12.2) fun a hE=>Zd hE Za ld rfl fun a hE=>Yb hE Za ld rfl Tryz.underlying3 Tryz.underlying5 ?_; intro a hE
   rw [ZN] at hE
   refine Zi hE Za ld rfl rfl (U8 x10 (Zx s5.1)) fun a hE=>Zf ?_
   refine Zp hE rfl ?_ ?_
   ·intro hb13
    have hs6:=Zz hs6 hb13
    refine Zc (Ze hE Za ld rfl fun a hE=>Zf ?_)
    have ht14:=hx7 _ (ois hs6)
    subst ht14
    have hr:=Option.some.inj hF3
    subst hr
    exact wp_ret (Zq (Z1 (Zq (Zq (Z1 (Zq (Zq (Zt hE rfl (Zs hE rfl) ⟨_,rfl,rfl,hM.kept⟩))))))))
   ·intro hb13
    have hs6:=Zy hs6 hb13
    refine wp_skip (Zu (wp_region_lit (Zd hE Za ld rfl fun a hE=>Zi hE Za ld rfl rfl rfl fun a hE=>Ze hE Za ld rfl fun a hE=>Zj (ZZ (Zu (wp_region_lit (Zd hE Za ld rfl fun a hE=>Zi hE Za ld rfl rfl rfl fun a hE=>Ze hE Za ld rfl fun a hE=>Zj (Zl ?_))))))))
    exact ⟨_,(ois hs6),hE.sub ⟨rfl,rfl,rfl,trivial⟩,hM⟩
  ·intro hb9
   have hs6:=Zy hs6 hb9
   refine wp_exit (Zm (Zm (Z0 ?_)))
   have ht15:=hx7 _ (ois hs6)
   subst ht15
   refine Zl ?_
   exact ⟨s5.1,rfl,hE.sub ⟨rfl,trivial⟩,hM⟩
 ·skip
  rintro a w ⟨s4,ht,hE,hM⟩
  subst ht
  have hF3:=Va hF3
  refine Zu (Zc (Zd hE Za ld rfl fun a hE=>Ze hE Za ld rfl fun a hE=>Zf ?_))
  have hr:=Option.some.inj hF3
  subst hr
  exact wp_ret (Zt hE rfl (Zs hE rfl) ⟨_,rfl,rfl,hM.kept⟩)
def Vj (p0 : (List (Vector UInt8 16))) (s5 : Int × Int) (s14 : Int × Int) : Option (Fl (Int × Int) (Fl Int Int)) :=
 if (decide (s14.2 < 16)) = true then ((idx p0 s5.2).bind fun x19=>(ZI x19 s14.2).bind fun x23=>if (x23 != (Zx s14.1)) = true then (some (Fl.ex (Fl.ex (-1)))) else (some (Fl.nx (wr (s14.1 + 1),wr (s14.2 + 1))))) else (some (Fl.ex (Fl.nx s14.1)))
def XT (p0 : (List (Vector UInt8 16))) (s5 : Int × Int) : Option (Fl (Int × Int) (Fl Int Int)) :=
 if (decide (s5.2 < (p0.length : Int))) = true then ((ZE (Vj p0 s5) (s5.1,0)).bind fun j10=>j10.el (fun s13=>some (Fl.nx (s13,wr (s5.2 + 1)))) (fun r=>some (Fl.ex (Fl.ex r)))) else (some (Fl.ex (Fl.nx s5.1)))
def WA (p0 : (List (Vector UInt8 16))) (p1 : Int) : Option (Int) :=
 (ZE (XT p0) (p1,0)).bind fun j1=>j1.el (fun s4=>some s4) (fun r=>some r)
theorem Kx (w0 : World) (p0 : (List (Vector UInt8 16))) (v0_1 : Value) (hv0_1 : Ro w0 p0 [v0_1]) (p1 : Int) (r : Int) (hF : WA p0 p1 = some r) :
  Calls Tryz.prog 64 [v0_1,vI p1].toArray w0 (fun en w'=>∃ v,en = .returned v ∧ (v = (vI r) ∧ Kept (Old w0) w0 w')):=by
 refine ZB (n:=29) Tryz.func64 rfl rfl (nbl rfl) rfl ?_
 intro a hE
 have hM:=M.start w0
 unfold WA at hF
 refine Zc (Ze hE Za ld rfl fun a hE=>Zf (wp_seq (Zc (Ze hE Za ld rfl fun a hE=>Zf ?_))))
 obtain ⟨j1,hl2,hF3⟩:=bind_some hF
 refine ZL (fun a w=>∃ s4 : Int,j1 = Fl.nx s4 ∧ Env 29 a [(1,vI s4)] ∧ M (Old w0) w0 w []) ?_ ?_
 ·skip
  refine wp_block ?_
  refine ZC (fun (s5 : Int × Int) a w=>Env 29 a [(0,v0_1),(1,vI s5.1),(5,vI s5.2)] ∧ M (Old w0) w0 w []) hl2 ⟨hE.sub ⟨rfl,rfl,rfl,trivial⟩,hM⟩ ?_
  rintro s5 a w ⟨hE,hM⟩ o8 hs6 hx7
  unfold XT at hs6
  refine wp_seq (Zc (Zd hE Za ld rfl fun a hE=>Zd hE Za ld rfl fun a hE=>Yf hE Za ld rfl Tryz.underlying33 (hM.rd hv0_1) fun a hE=>Zi hE Za ld rfl rfl rfl fun a hE=>Zf ?_))
  refine Zp hE rfl ?_ ?_
  ·intro hb9
   have hs6:=Zz hs6 hb9
   refine wp_skip (Zu (wp_seq (wp_block (Zc (Ze hE Za ld rfl fun a hE=>Zf ?_)))))
   obtain ⟨j10,hl11,hF12⟩:=bind_some hs6
   refine ZL (fun a w=>∃ s13 : Int,j10 = Fl.nx s13 ∧ Env 29 a [(0,v0_1),(1,vI s13),(5,vI s5.2)] ∧ M (Old w0) w0 w []) ?_ ?_
   ·skip
    refine wp_block ?_
    refine ZC (fun (s14 : Int × Int) a w=>Env 29 a [(0,v0_1),(1,vI s14.1),(5,vI s5.2),(6,vI s14.2)] ∧ M (Old w0) w0 w []) hl11 ⟨hE.sub ⟨rfl,rfl,rfl,rfl,trivial⟩,hM⟩ ?_
    rintro s14 a w ⟨hE,hM⟩ o17 hs15 hx16
    unfold Vj at hs15
    refine wp_seq (Zc (Zd hE Za ld rfl fun a hE=>Zi hE Za ld rfl rfl rfl fun a hE=>Zf ?_))
    refine Zp hE rfl ?_ ?_
    ·intro hb18
     have hs15:=Zz hs15 hb18
     refine wp_skip (Zu (wp_seq (wp_block (wp_seq (Zc (Zd hE Za ld rfl fun a hE=>Zd hE Za ld rfl fun a hE=>Zd hE Za ld rfl ?_)))))); intro a hE
     obtain ⟨x19,hi21,hs15⟩:=bix hs15
     refine ZK hE Za ld rfl rfl Tryz.underlying33 ZG (hM.rd hv0_1) hi21.1 ?_; intro a hE
     obtain ⟨x23,hi22,hs15⟩:=bvx hs15
     refine Zk hE Za ld rfl rfl Tryz.underlying31 ty5 hi22.1 fun a hE=>ZA (v:=(vB x23)) hE Za ld rfl ty5 rfl (At.vec (Xc (hM.rd hv0_1) hi21.2) hi22.2) fun a hE=>Zd hE Za ld rfl fun a hE=>Yb hE Za ld rfl Tryz.underlying3 Tryz.underlying5 ?_; intro a hE
     rw [ZN] at hE
     refine Zi hE Za ld rfl rfl (U8 x23 (Zx s14.1)) fun a hE=>Zf ?_
     refine Zp hE rfl ?_ ?_
     ·intro hb25
      have hs15:=Zz hs15 hb25
      refine Zc (Ze hE Za ld rfl fun a hE=>Zf ?_)
      have ht26:=hx16 _ (ois hs15)
      subst ht26
      have ht27:=hx7 _ (ois hF12)
      subst ht27
      have hr:=Option.some.inj hF3
      subst hr
      exact wp_ret (Zq (Z1 (Zq (Zq (Z1 (Zq (Z1 (Zq (Zq (Z1 (Zq (Zq (Zt hE rfl (Zs hE rfl) ⟨_,rfl,rfl,hM.kept⟩)))))))))))))
     ·intro hb25
      have hs15:=Zy hs15 hb25
      refine wp_skip (Zu (wp_region_lit (Zd hE Za ld rfl fun a hE=>Zi hE Za ld rfl rfl rfl fun a hE=>Ze hE Za ld rfl fun a hE=>Zj (ZZ (Zu (wp_region_lit (Zd hE Za ld rfl fun a hE=>Zi hE Za ld rfl rfl rfl fun a hE=>Ze hE Za ld rfl fun a hE=>Zj (Zl ?_))))))))
      exact ⟨_,(ois hs15),hE.sub ⟨rfl,rfl,rfl,rfl,trivial⟩,hM⟩
    ·intro hb18
     have hs15:=Zy hs15 hb18
     refine wp_exit (Zm (Zm (Z0 ?_)))
     have ht28:=hx16 _ (ois hs15)
     subst ht28
     refine Zl ?_
     exact ⟨s14.1,rfl,hE.sub ⟨rfl,rfl,rfl,trivial⟩,hM⟩
   ·skip
    rintro a w ⟨s13,ht,hE,hM⟩
    subst ht
    have hF12:=Va hF12
    refine ZZ (Zu (wp_region_lit (Zd hE Za ld rfl fun a hE=>Zi hE Za ld rfl rfl rfl fun a hE=>Ze hE Za ld rfl fun a hE=>Zj (Zl ?_))))
    exact ⟨_,(ois hF12),hE.sub ⟨rfl,rfl,rfl,trivial⟩,hM⟩
  ·intro hb9
   have hs6:=Zy hs6 hb9
   refine wp_exit (Zm (Zm (Z0 ?_)))
   have ht29:=hx7 _ (ois hs6)
   subst ht29
   refine Zl ?_
   exact ⟨s5.1,rfl,hE.sub ⟨rfl,trivial⟩,hM⟩
 ·skip
  rintro a w ⟨s4,ht,hE,hM⟩
  subst ht
  have hF3:=Va hF3
  refine Zu (Zc (Zd hE Za ld rfl fun a hE=>Ze hE Za ld rfl fun a hE=>Zf ?_))
  have hr:=Option.some.inj hF3
  subst hr
  exact wp_ret (Zt hE rfl (Zs hE rfl) ⟨_,rfl,rfl,hM.kept⟩)
def WG (p0 : (List GRecord)) (s5 : Int × Int) (s38 : Int × Int) : Option (Fl (Int × Int) (Fl Int Int)) :=
 if (decide (s38.2 < 16)) = true then ((idx p0 s5.2).bind fun x43=>(ZI x43.Nonce s38.2).bind fun x54=>if (x54 != (Zx s38.1)) = true then (some (Fl.ex (Fl.ex (-1)))) else (some (Fl.nx (wr (s38.1 + 1),wr (s38.2 + 1))))) else (some (Fl.ex (Fl.nx s38.1)))
def WH (p0 : (List GRecord)) (s5 : Int × Int) (s92 : Int × Int) : Option (Fl (Int × Int) (Fl Int Int)) :=
 if (decide (s92.2 < 32)) = true then ((idx p0 s5.2).bind fun x97=>(ZI x97.Tag s92.2).bind fun x108=>if (x108 != (Zx s92.1)) = true then (some (Fl.ex (Fl.ex (-1)))) else (some (Fl.nx (wr (s92.1 + 1),wr (s92.2 + 1))))) else (some (Fl.ex (Fl.nx s92.1)))
def XC (p0 : (List GRecord)) (s5 : Int × Int) : Option (Fl (Int × Int) (Fl Int Int)) :=
 if (decide (s5.2 < (p0.length : Int))) = true then ((idx p0 s5.2).bind fun x10=>if (x10.Number != s5.1) = true then (some (Fl.ex (Fl.ex (-1)))) else ((idx p0 s5.2).bind fun x22=>if (x22.Version != (wr (s5.1 + 1))) = true then (some (Fl.ex (Fl.ex (-1)))) else ((ZE (WG p0 s5) (wr ((wr (s5.1 + 1)) + 1),0)).bind fun j34=>j34.el (fun s37=>(idx p0 s5.2).bind fun x60=>(Yk x60.Label s37).bind fun r70=>if (decide (r70 < 0)) = true then (some (Fl.ex (Fl.ex (-1)))) else ((idx p0 s5.2).bind fun x74=>(Yk x74.Body r70).bind fun r84=>if (decide (r84 < 0)) = true then (some (Fl.ex (Fl.ex (-1)))) else ((ZE (WH p0 s5) (r84,0)).bind fun j88=>j88.el (fun s91=>some (Fl.nx (s91,wr (s5.2 + 1)))) (fun r=>some (Fl.ex (Fl.ex r)))))) (fun r=>some (Fl.ex (Fl.ex r)))))) else (some (Fl.ex (Fl.nx s5.1)))
def X2 (p0 : (List GRecord)) (p1 : Int) : Option (Int) :=
 (ZE (XC p0) (p1,0)).bind fun j1=>j1.el (fun s4=>some s4) (fun r=>some r)
theorem Ke (w0 : World) (p0 : (List GRecord)) (v0_1 : Value) (hv0_1 : Ro w0 p0 [v0_1]) (p1 : Int) (r : Int) (hF : X2 p0 p1 = some r) :
  Calls Tryz.prog 65 [v0_1,vI p1].toArray w0 (fun en w'=>∃ v,en = .returned v ∧ (v = (vI r) ∧ Kept (Old w0) w0 w')):=by
 refine ZB (n:=83) Tryz.func65 rfl rfl (nbl rfl) rfl ?_
 intro a hE
 have hM:=M.start w0
 unfold X2 at hF
 refine Zc (Ze hE Za ld rfl fun a hE=>Zf (wp_seq (Zc (Ze hE Za ld rfl fun a hE=>Zf ?_))))
 obtain ⟨j1,hl2,hF3⟩:=bind_some hF
 refine ZL (fun a w=>∃ s4 : Int,j1 = Fl.nx s4 ∧ Env 83 a [(1,vI s4)] ∧ M (Old w0) w0 w []) ?_ ?_
 ·skip
  refine wp_block ?_
  refine ZC (fun (s5 : Int × Int) a w=>Env 83 a [(0,v0_1),(1,vI s5.1),(5,vI s5.2)] ∧ M (Old w0) w0 w []) hl2 ⟨hE.sub ⟨rfl,rfl,rfl,trivial⟩,hM⟩ ?_
  rintro s5 a w ⟨hE,hM⟩ o8 hs6 hx7
  unfold XC at hs6
  refine wp_seq (Zc (Zd hE Za ld rfl fun a hE=>Zd hE Za ld rfl fun a hE=>Yf hE Za ld rfl Tryz.underlying34 (hM.rd hv0_1) fun a hE=>Zi hE Za ld rfl rfl rfl fun a hE=>Zf ?_))
  refine Zp hE rfl ?_ ?_
  ·intro hb9
   have hs6:=Zz hs6 hb9
   refine wp_skip (Zu (wp_seq (wp_block (wp_seq (Zc (Zd hE Za ld rfl fun a hE=>Zd hE Za ld rfl ?_)))))); intro a hE
   obtain ⟨x10,hi12,hs6⟩:=bix hs6
   refine ZK hE Za ld rfl rfl Tryz.underlying34 Ur (hM.rd hv0_1) hi12.1 fun a hE=>Zh hE Za ld rfl (J2) ?_; intro a hE
   obtain ⟨cs13,hs14,hA15⟩:=Uq hv0_1 hi12.2 -- ^
   obtain ⟨u16,u18,rfl,h17,h19⟩:=VS hs14 -- ^
   refine ZA (v:=(vI x10.Number)) hE Za ld rfl ty2 rfl (At.cat (pre:=[]) (hM.atk hA15 (Ta hv0_1 hi12.2)) cl0) fun a hE=>Zd hE Za ld rfl fun a hE=>Zi hE Za ld rfl rfl rfl fun a hE=>Zf ?_
   refine Zp hE rfl ?_ ?_
   ·intro hb20
    have hs6:=Zz hs6 hb20
    refine Zc (Ze hE Za ld rfl fun a hE=>Zf ?_)
    have ht21:=hx7 _ (ois hs6)
    subst ht21
    have hr:=Option.some.inj hF3
    subst hr
    exact wp_ret (Zq (Z1 (Zq (Zq (Z1 (Zq (Zq (Zt hE rfl (Zs hE rfl) ⟨_,rfl,rfl,hM.kept⟩))))))))
   ·intro hb20
    have hs6:=Zy hs6 hb20
    refine wp_skip (Zu (Zc (Zd hE Za ld rfl fun a hE=>Zi hE Za ld rfl rfl rfl fun a hE=>Ze hE Za ld rfl fun a hE=>Zf (wp_seq (Zc (Zd hE Za ld rfl fun a hE=>Zd hE Za ld rfl ?_)))))); intro a hE
    obtain ⟨x22,hi24,hs6⟩:=bix hs6
    refine ZK hE Za ld rfl rfl Tryz.underlying34 Ur (hM.rd hv0_1) hi24.1 fun a hE=>Zh hE Za ld rfl (JW) ?_; intro a hE
    obtain ⟨cs25,hs26,hA27⟩:=Uq hv0_1 hi24.2 -- ^
    obtain ⟨u28,u30,rfl,h29,h31⟩:=VS hs26 -- ^
    refine ZA (v:=(vI x22.Version)) hE Za ld rfl ty2 rfl (At.cat (pre:=[[vI x22.Number]]) (hM.atk hA27 (Ta hv0_1 hi24.2)) (cl1 (n:=1) (m:=0) rfl cl0)) fun a hE=>Zd hE Za ld rfl fun a hE=>Zi hE Za ld rfl rfl rfl fun a hE=>Zf ?_
    refine Zp hE rfl ?_ ?_
    ·intro hb32
     have hs6:=Zz hs6 hb32
     refine Zc (Ze hE Za ld rfl fun a hE=>Zf ?_)
     have ht33:=hx7 _ (ois hs6)
     subst ht33
     have hr:=Option.some.inj hF3
     subst hr
     exact wp_ret (Zq (Z1 (Zq (Zq (Z1 (Zq (Zq (Zt hE rfl (Zs hE rfl) ⟨_,rfl,rfl,hM.kept⟩))))))))
    ·intro hb32
     have hs6:=Zy hs6 hb32
     refine wp_skip (Zu (Zc (Zd hE Za ld rfl fun a hE=>Zi hE Za ld rfl rfl rfl fun a hE=>Ze hE Za ld rfl fun a hE=>Zf (wp_seq (Zc (Ze hE Za ld rfl fun a hE=>Zf ?_))))))
     obtain ⟨j34,hl35,hF36⟩:=bind_some hs6
     refine ZL (fun a w=>∃ s37 : Int,j34 = Fl.nx s37 ∧ Env 83 a [(0,v0_1),(1,vI s37),(5,vI s5.2)] ∧ M (Old w0) w0 w []) ?_ ?_
     ·skip
      refine wp_block ?_
      refine ZC (fun (s38 : Int × Int) a w=>Env 83 a [(0,v0_1),(1,vI s38.1),(5,vI s5.2),(6,vI s38.2)] ∧ M (Old w0) w0 w []) hl35 ⟨hE.sub ⟨rfl,rfl,rfl,rfl,trivial⟩,hM⟩ ?_
      rintro s38 a w ⟨hE,hM⟩ o41 hs39 hx40
      unfold WG at hs39
      refine wp_seq (Zc (Zd hE Za ld rfl fun a hE=>Zi hE Za ld rfl rfl rfl fun a hE=>Zf ?_))
      refine Zp hE rfl ?_ ?_
      ·intro hb42
       have hs39:=Zz hs39 hb42
       refine wp_skip (Zu (wp_seq (wp_block (wp_seq (Zc (Zd hE Za ld rfl fun a hE=>Zd hE Za ld rfl fun a hE=>Zd hE Za ld rfl ?_)))))); intro a hE
       obtain ⟨x43,hi45,hs39⟩:=bix hs39
       refine ZK hE Za ld rfl rfl Tryz.underlying34 Ur (hM.rd hv0_1) hi45.1 fun a hE=>Zh hE Za ld rfl (JU) ?_; intro a hE
       obtain ⟨cs46,hs47,hA48⟩:=Uq hv0_1 hi45.2 -- ^
       obtain ⟨u49,u51,rfl,h50,h52⟩:=VS hs47 -- ^
       obtain ⟨x54,hi53,hs39⟩:=bvx hs39
       refine Zk hE Za ld rfl rfl Tryz.underlying31 ty5 hi53.1 fun a hE=>ZA (v:=(vB x54)) hE Za ld rfl ty5 rfl (At.vec (At.cat (pre:=[[vI x43.Number],[vI x43.Version]]) (hM.atk hA48 (Ta hv0_1 hi45.2)) (cl1 (n:=1) (m:=1) rfl (cl1 (n:=1) (m:=0) rfl cl0))) hi53.2) fun a hE=>Zd hE Za ld rfl fun a hE=>Yb hE Za ld rfl Tryz.underlying3 Tryz.underlying5 ?_; intro a hE
       rw [ZN] at hE
       refine Zi hE Za ld rfl rfl (U8 x54 (Zx s38.1)) fun a hE=>Zf ?_
       refine Zp hE rfl ?_ ?_
       ·intro hb56
        have hs39:=Zz hs39 hb56
        refine Zc (Ze hE Za ld rfl fun a hE=>Zf ?_)
        have ht57:=hx40 _ (ois hs39)
        subst ht57
        have ht58:=hx7 _ (ois hF36)
        subst ht58
        have hr:=Option.some.inj hF3
        subst hr
        exact wp_ret (Zq (Z1 (Zq (Zq (Z1 (Zq (Zq (Z1 (Zq (Zq (Z1 (Zq (Zq (Zt hE rfl (Zs hE rfl) ⟨_,rfl,rfl,hM.kept⟩))))))))))))))
       ·intro hb56
        have hs39:=Zy hs39 hb56
        refine wp_skip (Zu (wp_region_lit (Zd hE Za ld rfl fun a hE=>Zi hE Za ld rfl rfl rfl fun a hE=>Ze hE Za ld rfl fun a hE=>Zj (ZZ (Zu (wp_region_lit (Zd hE Za ld rfl fun a hE=>Zi hE Za ld rfl rfl rfl fun a hE=>Ze hE Za ld rfl fun a hE=>Zj (Zl ?_))))))))
        exact ⟨_,(ois hs39),hE.sub ⟨rfl,rfl,rfl,rfl,trivial⟩,hM⟩
      ·intro hb42
       have hs39:=Zy hs39 hb42
       refine wp_exit (Zm (Zm (Z0 ?_)))
       have ht59:=hx40 _ (ois hs39)
       subst ht59
       refine Zl ?_
       exact ⟨s38.1,rfl,hE.sub ⟨rfl,rfl,rfl,trivial⟩,hM⟩
     ·skip
      rintro a w ⟨s37,ht,hE,hM⟩
      subst ht
      have hF36:=Va hF36
      refine Zu (Zc (Zd hE Za ld rfl fun a hE=>Zd hE Za ld rfl ?_)); intro a hE
      obtain ⟨x60,hi62,hF36⟩:=bix hF36
      refine ZK hE Za ld rfl rfl Tryz.underlying34 Ur (hM.rd hv0_1) hi62.1 fun a hE=>Zh hE Za ld rfl (J0) ?_; intro a hE
      obtain ⟨cs63,hs64,hA65⟩:=Uq hv0_1 hi62.2 -- ^
      obtain ⟨u66,u68,rfl,h67,h69⟩:=VS hs64 -- ^
      refine ZA (v:=u66) hE Za ld rfl UU rfl (At.cat (pre:=[[vI x60.Number],[vI x60.Version],enc x60.Nonce]) (hM.atk hA65 (Ta hv0_1 hi62.2)) (cl1 (n:=1) (m:=17) rfl (cl1 (n:=1) (m:=16) rfl (cl1 (n:=16) (m:=0) (Flat.len _) cl0)))) fun a hE=>Zd hE Za ld rfl ?_; intro a hE
      obtain ⟨r70,e71,hF36⟩:=bind_some hF36
      refine Zw hE Za ld rfl cb25 (Up _ x60.Label u66 (hM.rdo h67) s37 r70 e71) ?_
      rintro v w a ⟨rfl,hK⟩ hE
      have hM:=hM.keep hK
      refine Ze hE Za ld rfl fun a hE=>Zf (wp_seq (Zc (Zd hE Za ld rfl fun a hE=>Zi hE Za ld rfl rfl rfl fun a hE=>Zf ?_)))
      refine Zp hE rfl ?_ ?_
      ·intro hb72
       have hF36:=Zz hF36 hb72
       refine Zc (Ze hE Za ld rfl fun a hE=>Zf ?_)
       have ht73:=hx7 _ (ois hF36)
       subst ht73
       have hr:=Option.some.inj hF3
       subst hr
       exact wp_ret (Zq (Z1 (Zq (Zq (Z1 (Zq (Zq (Zt hE rfl (Zs hE rfl) ⟨_,rfl,rfl,hM.kept⟩))))))))
      ·intro hb72
       have hF36:=Zy hF36 hb72
       refine wp_skip (Zu (Zc (Zd hE Za ld rfl fun a hE=>Zd hE Za ld rfl ?_))); intro a hE
       obtain ⟨x74,hi76,hF36⟩:=bix hF36
       refine ZK hE Za ld rfl rfl Tryz.underlying34 Ur (hM.rd hv0_1) hi76.1 fun a hE=>Zh hE Za ld rfl (JQ) ?_; intro a hE
       obtain ⟨cs77,hs78,hA79⟩:=Uq hv0_1 hi76.2 -- ^
       obtain ⟨u80,u82,rfl,h81,h83⟩:=VS hs78 -- ^
       refine ZA (v:=u82) hE Za ld rfl UU rfl (At.cat (pre:=[[vI x74.Number],[vI x74.Version],enc x74.Nonce,[u80]]) (hM.atk hA79 (Ta hv0_1 hi76.2)) (cl1 (n:=1) (m:=18) rfl (cl1 (n:=1) (m:=17) rfl (cl1 (n:=16) (m:=1) (Flat.len _) (cl1 (n:=1) (m:=0) rfl cl0))))) fun a hE=>Zd hE Za ld rfl ?_; intro a hE
       obtain ⟨r84,e85,hF36⟩:=bind_some hF36
       refine Zw hE Za ld rfl cb25 (Up _ x74.Body u82 (hM.rdo h83) r70 r84 e85) ?_
       rintro v w a ⟨rfl,hK⟩ hE
       have hM:=hM.keep hK
       refine Ze hE Za ld rfl fun a hE=>Zf (wp_seq (Zc (Zd hE Za ld rfl fun a hE=>Zi hE Za ld rfl rfl rfl fun a hE=>Zf ?_)))
       refine Zp hE rfl ?_ ?_
       ·intro hb86
        have hF36:=Zz hF36 hb86
        refine Zc (Ze hE Za ld rfl fun a hE=>Zf ?_)
        have ht87:=hx7 _ (ois hF36)
        subst ht87
        have hr:=Option.some.inj hF3
        subst hr
        exact wp_ret (Zq (Z1 (Zq (Zq (Z1 (Zq (Zq (Zt hE rfl (Zs hE rfl) ⟨_,rfl,rfl,hM.kept⟩))))))))
       ·intro hb86
        have hF36:=Zy hF36 hb86
        refine wp_skip (Zu (Zc (Ze hE Za ld rfl fun a hE=>Zf ?_)))
        obtain ⟨j88,hl89,hF90⟩:=bind_some hF36
        refine ZL (fun a w=>∃ s91 : Int,j88 = Fl.nx s91 ∧ Env 83 a [(0,v0_1),(1,vI s91),(5,vI s5.2)] ∧ M (Old w0) w0 w []) ?_ ?_
        ·skip
         refine wp_block ?_
         refine ZC (fun (s92 : Int × Int) a w=>Env 83 a [(0,v0_1),(1,vI s92.1),(5,vI s5.2),(7,vI s92.2)] ∧ M (Old w0) w0 w []) hl89 ⟨hE.sub ⟨rfl,rfl,rfl,rfl,trivial⟩,hM⟩ ?_
         rintro s92 a w ⟨hE,hM⟩ o95 hs93 hx94
         unfold WH at hs93
         refine wp_seq (Zc (Zd hE Za ld rfl fun a hE=>Zi hE Za ld rfl rfl rfl fun a hE=>Zf ?_))
         refine Zp hE rfl ?_ ?_
         ·intro hb96
          have hs93:=Zz hs93 hb96
          refine wp_skip (Zu (wp_seq (wp_block (wp_seq (Zc (Zd hE Za ld rfl fun a hE=>Zd hE Za ld rfl fun a hE=>Zd hE Za ld rfl ?_)))))); intro a hE
          obtain ⟨x97,hi99,hs93⟩:=bix hs93
          refine ZK hE Za ld rfl rfl Tryz.underlying34 Ur (hM.rd hv0_1) hi99.1 fun a hE=>Zh hE Za ld rfl (JX) ?_; intro a hE
          obtain ⟨cs100,hs101,hA102⟩:=Uq hv0_1 hi99.2 -- ^
          obtain ⟨u103,u105,rfl,h104,h106⟩:=VS hs101 -- ^
          obtain ⟨x108,hi107,hs93⟩:=bvx hs93
          refine Zk hE Za ld rfl rfl Tryz.underlying37 ty5 hi107.1 fun a hE=>ZA (v:=(vB x108)) hE Za ld rfl ty5 rfl (At.vec (At.cat (pre:=[[vI x97.Number],[vI x97.Version],enc x97.Nonce,[u103],[u105]]) (hM.atk hA102 (Ta hv0_1 hi99.2)) (cl1 (n:=1) (m:=19) rfl (cl1 (n:=1) (m:=18) rfl (cl1 (n:=16) (m:=2) (Flat.len _) (cl1 (n:=1) (m:=1) rfl (cl1 (n:=1) (m:=0) rfl cl0)))))) hi107.2) fun a hE=>Zd hE Za ld rfl fun a hE=>Yb hE Za ld rfl Tryz.underlying3 Tryz.underlying5 ?_; intro a hE
          rw [ZN] at hE
          refine Zi hE Za ld rfl rfl (U8 x108 (Zx s92.1)) fun a hE=>Zf ?_
          refine Zp hE rfl ?_ ?_
          ·intro hb110
           have hs93:=Zz hs93 hb110
           refine Zc (Ze hE Za ld rfl fun a hE=>Zf ?_)
           have ht111:=hx94 _ (ois hs93)
           subst ht111
           have ht112:=hx7 _ (ois hF90)
           subst ht112
           have hr:=Option.some.inj hF3
           subst hr
           exact wp_ret (Zq (Z1 (Zq (Zq (Z1 (Zq (Z1 (Zq (Zq (Z1 (Zq (Zq (Zt hE rfl (Zs hE rfl) ⟨_,rfl,rfl,hM.kept⟩)))))))))))))
          ·intro hb110
           have hs93:=Zy hs93 hb110
           refine wp_skip (Zu (wp_region_lit (Zd hE Za ld rfl fun a hE=>Zi hE Za ld rfl rfl rfl fun a hE=>Ze hE Za ld rfl fun a hE=>Zj (ZZ (Zu (wp_region_lit (Zd hE Za ld rfl fun a hE=>Zi hE Za ld rfl rfl rfl fun a hE=>Ze hE Za ld rfl fun a hE=>Zj (Zl ?_))))))))
           exact ⟨_,(ois hs93),hE.sub ⟨rfl,rfl,rfl,rfl,trivial⟩,hM⟩
         ·intro hb96
          have hs93:=Zy hs93 hb96
          refine wp_exit (Zm (Zm (Z0 ?_)))
          have ht113:=hx94 _ (ois hs93)
          subst ht113
          refine Zl ?_
          exact ⟨s92.1,rfl,hE.sub ⟨rfl,rfl,rfl,trivial⟩,hM⟩
        ·skip
         rintro a w ⟨s91,ht,hE,hM⟩
         subst ht
         have hF90:=Va hF90
         refine ZZ (Zu (wp_region_lit (Zd hE Za ld rfl fun a hE=>Zi hE Za ld rfl rfl rfl fun a hE=>Ze hE Za ld rfl fun a hE=>Zj (Zl ?_))))
         exact ⟨_,(ois hF90),hE.sub ⟨rfl,rfl,rfl,trivial⟩,hM⟩
  ·intro hb9
   have hs6:=Zy hs6 hb9
   refine wp_exit (Zm (Zm (Z0 ?_)))
   have ht114:=hx7 _ (ois hs6)
   subst ht114
   refine Zl ?_
   exact ⟨s5.1,rfl,hE.sub ⟨rfl,trivial⟩,hM⟩
 ·skip
  rintro a w ⟨s4,ht,hE,hM⟩
  subst ht
  have hF3:=Va hF3
  refine Zu (Zc (Zd hE Za ld rfl fun a hE=>Ze hE Za ld rfl fun a hE=>Zf ?_))
  have hr:=Option.some.inj hF3
  subst hr
  exact wp_ret (Zt hE rfl (Zs hE rfl) ⟨_,rfl,rfl,hM.kept⟩)
def Vc (p0 : (List GEvent)) (s5 : Int × Int) (s24 : Int × Int) : Option (Fl (Int × Int) (Fl Int Int)) :=
 if (decide (s24.2 < 32)) = true then ((idx p0 s5.2).bind fun x29=>(ZI x29.Tag s24.2).bind fun x33=>if (x33 != (Zx s24.1)) = true then (some (Fl.ex (Fl.ex (-1)))) else (some (Fl.nx (wr (s24.1 + 1),wr (s24.2 + 1))))) else (some (Fl.ex (Fl.nx s24.1)))
def XZ (p0 : (List GEvent)) (s5 : Int × Int) : Option (Fl (Int × Int) (Fl Int Int)) :=
 if (decide (s5.2 < (p0.length : Int))) = true then ((idx p0 s5.2).bind fun x10=>if (x10.Kind != s5.1) = true then (some (Fl.ex (Fl.ex (-1)))) else ((idx p0 s5.2).bind fun x15=>if (x15.Number != (wr (s5.1 + 1))) = true then (some (Fl.ex (Fl.ex (-1)))) else ((ZE (Vc p0 s5) (wr ((wr (s5.1 + 1)) + 1),0)).bind fun j20=>j20.el (fun s23=>some (Fl.nx (s23,wr (s5.2 + 1)))) (fun r=>some (Fl.ex (Fl.ex r)))))) else (some (Fl.ex (Fl.nx s5.1)))
def Wy (p0 : (List GEvent)) (p1 : Int) : Option (Int) :=
 (ZE (XZ p0) (p1,0)).bind fun j1=>j1.el (fun s4=>some s4) (fun r=>some r)
theorem KC (w0 : World) (p0 : (List GEvent)) (v0_1 : Value) (hv0_1 : Ro w0 p0 [v0_1]) (p1 : Int) (r : Int) (hF : Wy p0 p1 = some r) :
  Calls Tryz.prog 66 [v0_1,vI p1].toArray w0 (fun en w'=>∃ v,en = .returned v ∧ (v = (vI r) ∧ Kept (Old w0) w0 w')):=by
 refine ZB (n:=48) Tryz.func66 rfl rfl (nbl rfl) rfl ?_
 intro a hE
 have hM:=M.start w0
 unfold Wy at hF
 refine Zc (Ze hE Za ld rfl fun a hE=>Zf (wp_seq (Zc (Ze hE Za ld rfl fun a hE=>Zf ?_))))
 obtain ⟨j1,hl2,hF3⟩:=bind_some hF
 refine ZL (fun a w=>∃ s4 : Int,j1 = Fl.nx s4 ∧ Env 48 a [(1,vI s4)] ∧ M (Old w0) w0 w []) ?_ ?_
 ·skip
  refine wp_block ?_
  refine ZC (fun (s5 : Int × Int) a w=>Env 48 a [(0,v0_1),(1,vI s5.1),(5,vI s5.2)] ∧ M (Old w0) w0 w []) hl2 ⟨hE.sub ⟨rfl,rfl,rfl,trivial⟩,hM⟩ ?_
  rintro s5 a w ⟨hE,hM⟩ o8 hs6 hx7
  unfold XZ at hs6
  refine wp_seq (Zc (Zd hE Za ld rfl fun a hE=>Zd hE Za ld rfl fun a hE=>Yf hE Za ld rfl Tryz.underlying35 (hM.rd hv0_1) fun a hE=>Zi hE Za ld rfl rfl rfl fun a hE=>Zf ?_))
  refine Zp hE rfl ?_ ?_
  ·intro hb9
   have hs6:=Zz hs6 hb9
   refine wp_skip (Zu (wp_seq (wp_block (wp_seq (Zc (Zd hE Za ld rfl fun a hE=>Zd hE Za ld rfl ?_)))))); intro a hE
   obtain ⟨x10,hi12,hs6⟩:=bix hs6
   refine ZK hE Za ld rfl rfl Tryz.underlying35 U2 (hM.rd hv0_1) hi12.1 fun a hE=>Zh hE Za ld rfl (QC) fun a hE=>ZA (v:=(vI x10.Kind)) hE Za ld rfl ty2 rfl (At.cat (pre:=[]) (Xc (hM.rd hv0_1) hi12.2) cl0) fun a hE=>Zd hE Za ld rfl fun a hE=>Zi hE Za ld rfl rfl rfl fun a hE=>Zf ?_
   refine Zp hE rfl ?_ ?_
   ·intro hb13
    have hs6:=Zz hs6 hb13
    refine Zc (Ze hE Za ld rfl fun a hE=>Zf ?_)
    have ht14:=hx7 _ (ois hs6)
    subst ht14
    have hr:=Option.some.inj hF3
    subst hr
    exact wp_ret (Zq (Z1 (Zq (Zq (Z1 (Zq (Zq (Zt hE rfl (Zs hE rfl) ⟨_,rfl,rfl,hM.kept⟩))))))))
   ·intro hb13
    have hs6:=Zy hs6 hb13
    refine wp_skip (Zu (Zc (Zd hE Za ld rfl fun a hE=>Zi hE Za ld rfl rfl rfl fun a hE=>Ze hE Za ld rfl fun a hE=>Zf (wp_seq (Zc (Zd hE Za ld rfl fun a hE=>Zd hE Za ld rfl ?_)))))); intro a hE
    obtain ⟨x15,hi17,hs6⟩:=bix hs6
    refine ZK hE Za ld rfl rfl Tryz.underlying35 U2 (hM.rd hv0_1) hi17.1 fun a hE=>Zh hE Za ld rfl (QJ) fun a hE=>ZA (v:=(vI x15.Number)) hE Za ld rfl ty2 rfl (At.cat (pre:=[[vI x15.Kind]]) (Xc (hM.rd hv0_1) hi17.2) (cl1 (n:=1) (m:=0) rfl cl0)) fun a hE=>Zd hE Za ld rfl fun a hE=>Zi hE Za ld rfl rfl rfl fun a hE=>Zf ?_
    refine Zp hE rfl ?_ ?_
    ·intro hb18
     have hs6:=Zz hs6 hb18
     refine Zc (Ze hE Za ld rfl fun a hE=>Zf ?_)
     have ht19:=hx7 _ (ois hs6)
     subst ht19
     have hr:=Option.some.inj hF3
     subst hr
     exact wp_ret (Zq (Z1 (Zq (Zq (Z1 (Zq (Zq (Zt hE rfl (Zs hE rfl) ⟨_,rfl,rfl,hM.kept⟩))))))))
    ·intro hb18
     have hs6:=Zy hs6 hb18
     refine wp_skip (Zu (Zc (Zd hE Za ld rfl fun a hE=>Zi hE Za ld rfl rfl rfl fun a hE=>Ze hE Za ld rfl fun a hE=>Zf (Zc (Ze hE Za ld rfl fun a hE=>Zf ?_)))))
     obtain ⟨j20,hl21,hF22⟩:=bind_some hs6
     refine ZL (fun a w=>∃ s23 : Int,j20 = Fl.nx s23 ∧ Env 48 a [(0,v0_1),(1,vI s23),(5,vI s5.2)] ∧ M (Old w0) w0 w []) ?_ ?_
     ·skip
      refine wp_block ?_
      refine ZC (fun (s24 : Int × Int) a w=>Env 48 a [(0,v0_1),(1,vI s24.1),(5,vI s5.2),(6,vI s24.2)] ∧ M (Old w0) w0 w []) hl21 ⟨hE.sub ⟨rfl,rfl,rfl,rfl,trivial⟩,hM⟩ ?_
      rintro s24 a w ⟨hE,hM⟩ o27 hs25 hx26
      unfold Vc at hs25
      refine wp_seq (Zc (Zd hE Za ld rfl fun a hE=>Zi hE Za ld rfl rfl rfl fun a hE=>Zf ?_))
      refine Zp hE rfl ?_ ?_
      ·intro hb28
       have hs25:=Zz hs25 hb28
       refine wp_skip (Zu (wp_seq (wp_block (wp_seq (Zc (Zd hE Za ld rfl fun a hE=>Zd hE Za ld rfl fun a hE=>Zd hE Za ld rfl ?_)))))); intro a hE
       obtain ⟨x29,hi31,hs25⟩:=bix hs25
       refine ZK hE Za ld rfl rfl Tryz.underlying35 U2 (hM.rd hv0_1) hi31.1 fun a hE=>Zh hE Za ld rfl (QD) ?_; intro a hE
       obtain ⟨x33,hi32,hs25⟩:=bvx hs25
       refine Zk hE Za ld rfl rfl Tryz.underlying37 ty5 hi32.1 fun a hE=>ZA (v:=(vB x33)) hE Za ld rfl ty5 rfl (At.vec (At.cat (pre:=[[vI x29.Kind],[vI x29.Number]]) (Xc (hM.rd hv0_1) hi31.2) (cl1 (n:=1) (m:=1) rfl (cl1 (n:=1) (m:=0) rfl cl0))) hi32.2) fun a hE=>Zd hE Za ld rfl fun a hE=>Yb hE Za ld rfl Tryz.underlying3 Tryz.underlying5 ?_; intro a hE
       rw [ZN] at hE
       refine Zi hE Za ld rfl rfl (U8 x33 (Zx s24.1)) fun a hE=>Zf ?_
       refine Zp hE rfl ?_ ?_
       ·intro hb35
        have hs25:=Zz hs25 hb35
        refine Zc (Ze hE Za ld rfl fun a hE=>Zf ?_)
        have ht36:=hx26 _ (ois hs25)
        subst ht36
        have ht37:=hx7 _ (ois hF22)
        subst ht37
        have hr:=Option.some.inj hF3
        subst hr
        exact wp_ret (Zq (Z1 (Zq (Zq (Z1 (Zq (Z1 (Zq (Zq (Z1 (Zq (Zq (Zt hE rfl (Zs hE rfl) ⟨_,rfl,rfl,hM.kept⟩)))))))))))))
       ·intro hb35
        have hs25:=Zy hs25 hb35
        refine wp_skip (Zu (wp_region_lit (Zd hE Za ld rfl fun a hE=>Zi hE Za ld rfl rfl rfl fun a hE=>Ze hE Za ld rfl fun a hE=>Zj (ZZ (Zu (wp_region_lit (Zd hE Za ld rfl fun a hE=>Zi hE Za ld rfl rfl rfl fun a hE=>Ze hE Za ld rfl fun a hE=>Zj (Zl ?_))))))))
        exact ⟨_,(ois hs25),hE.sub ⟨rfl,rfl,rfl,rfl,trivial⟩,hM⟩
      ·intro hb28
       have hs25:=Zy hs25 hb28
       refine wp_exit (Zm (Zm (Z0 ?_)))
       have ht38:=hx26 _ (ois hs25)
       subst ht38
       refine Zl ?_
       exact ⟨s24.1,rfl,hE.sub ⟨rfl,rfl,rfl,trivial⟩,hM⟩
     ·skip
      rintro a w ⟨s23,ht,hE,hM⟩
      subst ht
      have hF22:=Va hF22
      refine ZZ (Zu (wp_region_lit (Zd hE Za ld rfl fun a hE=>Zi hE Za ld rfl rfl rfl fun a hE=>Ze hE Za ld rfl fun a hE=>Zj (Zl ?_))))
      exact ⟨_,(ois hF22),hE.sub ⟨rfl,rfl,rfl,trivial⟩,hM⟩
  ·intro hb9
   have hs6:=Zy hs6 hb9
   refine wp_exit (Zm (Zm (Z0 ?_)))
   have ht39:=hx7 _ (ois hs6)
   subst ht39
   refine Zl ?_
   exact ⟨s5.1,rfl,hE.sub ⟨rfl,trivial⟩,hM⟩
 ·skip
  rintro a w ⟨s4,ht,hE,hM⟩
  subst ht
  have hF3:=Va hF3
  refine Zu (Zc (Zd hE Za ld rfl fun a hE=>Ze hE Za ld rfl fun a hE=>Zf ?_))
  have hr:=Option.some.inj hF3
  subst hr
  exact wp_ret (Zt hE rfl (Zs hE rfl) ⟨_,rfl,rfl,hM.kept⟩)
def WQ (p0 : GVault) (p1 : Int) : Option (Int) :=
 (WA p0.Keys p1).bind fun r3=>if (decide (r3 < 0)) = true then (some (-1)) else ((X2 p0.Records r3).bind fun r6=>if (decide (r6 < 0)) = true then (some (-1)) else ((Wy p0.Events r6).bind fun r9=>if (decide (r9 < 0)) = true then (some (-1)) else (some r9)))
theorem K0 (w0 : World) (p0 : GVault) (v0_1 : Value) (hv0_1 : Ro w0 p0.Keys [v0_1]) (v0_2 : Value) (hv0_2 : Ro w0 p0.Records [v0_2]) (v0_3 : Value) (hv0_3 : Ro w0 p0.Events [v0_3]) (p1 : Int) (r : Int) (hF : WQ p0 p1 = some r) :
  Calls Tryz.prog 26 [(Value.agg (cat [[v0_1],[vI p0.Next],[v0_2],[v0_3],enc p0.Head]).toArray),vI p1].toArray w0 (fun en w'=>∃ v,en = .returned v ∧ (v = (vI r) ∧ Kept (Old w0) w0 w')):=by
 refine ZB (n:=24) Tryz.func26 rfl rfl (nbl rfl) rfl ?_
 intro a hE
 have hM:=M.start w0
 unfold WQ at hF
 refine Zc (ZT (cs:=cat [[v0_1],[vI p0.Next],[v0_2],[v0_3],enc p0.Head]) hE hM Za ld rfl rfl fun b1 w a hM hE=>Ze hE Za ld rfl fun a hE=>Zf (Zc (Zh hE Za ld rfl (BZ) fun a hE=>ZA (v:=v0_1) hE Za ld rfl ty33 rfl (At.cat (pre:=[]) (hM.rawAt (pre:=[])) cl0) fun a hE=>Zd hE Za ld rfl ?_))); intro a hE
 obtain ⟨r3,e4,hF⟩:=bind_some hF
 refine Zw hE Za ld rfl cb64 (Kx _ p0.Keys v0_1 (hM.rdo hv0_1) p1 r3 e4) ?_
 rintro v w a ⟨rfl,hK⟩ hE
 have hM:=hM.keep hK
 refine Ze hE Za ld rfl fun a hE=>Zf (wp_seq (Zc (Zd hE Za ld rfl fun a hE=>Zi hE Za ld rfl rfl rfl fun a hE=>Zf ?_)))
 refine Zp hE rfl ?_ ?_
 ·intro hb5
  have hF:=Zz hF hb5
  refine Zc (Ze hE Za ld rfl fun a hE=>Zf ?_)
  have hr:=Option.some.inj hF
  subst hr
  have hM:=M.fst (l:=[]) hM
  exact wp_ret (Zq (Zt hE rfl (Zs hE rfl) ⟨_,rfl,rfl,hM.kept⟩))
 ·intro hb5
  have hF:=Zy hF hb5
  refine wp_skip (Zu (Zc (Zh hE Za ld rfl (BO) fun a hE=>ZA (v:=v0_2) hE Za ld rfl ty34 rfl (At.cat (pre:=[[v0_1],[vI p0.Next]]) (hM.rawAt (pre:=[])) (cl1 (n:=1) (m:=1) rfl (cl1 (n:=1) (m:=0) rfl cl0))) fun a hE=>Zd hE Za ld rfl ?_))); intro a hE
  obtain ⟨r6,e7,hF⟩:=bind_some hF
  refine Zw hE Za ld rfl cb65 (Ke _ p0.Records v0_2 (hM.rdo hv0_2) r3 r6 e7) ?_
  rintro v w a ⟨rfl,hK⟩ hE
  have hM:=hM.keep hK
  refine Ze hE Za ld rfl fun a hE=>Zf (wp_seq (Zc (Zd hE Za ld rfl fun a hE=>Zi hE Za ld rfl rfl rfl fun a hE=>Zf ?_)))
  refine Zp hE rfl ?_ ?_
  ·intro hb8
   have hF:=Zz hF hb8
   refine Zc (Ze hE Za ld rfl fun a hE=>Zf ?_)
   have hr:=Option.some.inj hF
   subst hr
   have hM:=M.fst (l:=[]) hM
   exact wp_ret (Zq (Zt hE rfl (Zs hE rfl) ⟨_,rfl,rfl,hM.kept⟩))
  ·intro hb8
   have hF:=Zy hF hb8
   refine wp_skip (Zu (Zc (Zh hE Za ld rfl (Bz) fun a hE=>ZA (v:=v0_3) hE Za ld rfl ty35 rfl (At.cat (pre:=[[v0_1],[vI p0.Next],[v0_2]]) (hM.rawAt (pre:=[])) (cl1 (n:=1) (m:=2) rfl (cl1 (n:=1) (m:=1) rfl (cl1 (n:=1) (m:=0) rfl cl0)))) fun a hE=>Zd hE Za ld rfl ?_))); intro a hE
   obtain ⟨r9,e10,hF⟩:=bind_some hF
   refine Zw hE Za ld rfl cb66 (KC _ p0.Events v0_3 (hM.rdo hv0_3) r6 r9 e10) ?_
   rintro v w a ⟨rfl,hK⟩ hE
   have hM:=hM.keep hK
   refine Ze hE Za ld rfl fun a hE=>Zf (wp_seq (Zc (Zd hE Za ld rfl fun a hE=>Zi hE Za ld rfl rfl rfl fun a hE=>Zf ?_)))
   refine Zp hE rfl ?_ ?_
   ·intro hb11
    have hF:=Zz hF hb11
    refine Zc (Ze hE Za ld rfl fun a hE=>Zf ?_)
    have hr:=Option.some.inj hF
    subst hr
    have hM:=M.fst (l:=[]) hM
    exact wp_ret (Zq (Zt hE rfl (Zs hE rfl) ⟨_,rfl,rfl,hM.kept⟩))
   ·intro hb11
    have hF:=Zy hF hb11
    refine wp_skip (Zu (Zc (Zd hE Za ld rfl fun a hE=>Ze hE Za ld rfl fun a hE=>Zf ?_)))
    have hr:=Option.some.inj hF
    subst hr
    have hM:=M.fst (l:=[]) hM
    exact wp_ret (Zt hE rfl (Zs hE rfl) ⟨_,rfl,rfl,hM.kept⟩)
def Tm (p0 : (List (Vector UInt8 32))) (s5 : Int × Int) (s14 : Int × Int) : Option (Fl (Int × Int) (Fl Int Int)) :=
 if (decide (s14.2 < 32)) = true then ((idx p0 s5.2).bind fun x19=>(ZI x19 s14.2).bind fun x23=>if (x23 != (Zx s14.1)) = true then (some (Fl.ex (Fl.ex (-1)))) else (some (Fl.nx (wr (s14.1 + 1),wr (s14.2 + 1))))) else (some (Fl.ex (Fl.nx s14.1)))
def Uv (p0 : (List (Vector UInt8 32))) (s5 : Int × Int) : Option (Fl (Int × Int) (Fl Int Int)) :=
 if (decide (s5.2 < (p0.length : Int))) = true then ((ZE (Tm p0 s5) (s5.1,0)).bind fun j10=>j10.el (fun s13=>some (Fl.nx (s13,wr (s5.2 + 1)))) (fun r=>some (Fl.ex (Fl.ex r)))) else (some (Fl.ex (Fl.nx s5.1)))
def XW (p0 : (List (Vector UInt8 32))) (p1 : Int) : Option (Int) :=
 (ZE (Uv p0) (p1,0)).bind fun j1=>j1.el (fun s4=>some s4) (fun r=>some r)
theorem Kf (w0 : World) (p0 : (List (Vector UInt8 32))) (v0_1 : Value) (hv0_1 : Ro w0 p0 [v0_1]) (p1 : Int) (r : Int) (hF : XW p0 p1 = some r) :
  Calls Tryz.prog 67 [v0_1,vI p1].toArray w0 (fun en w'=>∃ v,en = .returned v ∧ (v = (vI r) ∧ Kept (Old w0) w0 w')):=by
 refine ZB (n:=29) Tryz.func67 rfl rfl (nbl rfl) rfl ?_
 intro a hE
 have hM:=M.start w0
 unfold XW at hF
 refine Zc (Ze hE Za ld rfl fun a hE=>Zf (wp_seq (Zc (Ze hE Za ld rfl fun a hE=>Zf ?_))))
 obtain ⟨j1,hl2,hF3⟩:=bind_some hF
 refine ZL (fun a w=>∃ s4 : Int,j1 = Fl.nx s4 ∧ Env 29 a [(1,vI s4)] ∧ M (Old w0) w0 w []) ?_ ?_
 ·skip
  refine wp_block ?_
  refine ZC (fun (s5 : Int × Int) a w=>Env 29 a [(0,v0_1),(1,vI s5.1),(5,vI s5.2)] ∧ M (Old w0) w0 w []) hl2 ⟨hE.sub ⟨rfl,rfl,rfl,trivial⟩,hM⟩ ?_
  rintro s5 a w ⟨hE,hM⟩ o8 hs6 hx7
  unfold Uv at hs6
  refine wp_seq (Zc (Zd hE Za ld rfl fun a hE=>Zd hE Za ld rfl fun a hE=>Yf hE Za ld rfl Tryz.underlying40 (hM.rd hv0_1) fun a hE=>Zi hE Za ld rfl rfl rfl fun a hE=>Zf ?_))
  refine Zp hE rfl ?_ ?_
  ·intro hb9
   have hs6:=Zz hs6 hb9
   refine wp_skip (Zu (wp_seq (wp_block (Zc (Ze hE Za ld rfl fun a hE=>Zf ?_)))))
   obtain ⟨j10,hl11,hF12⟩:=bind_some hs6
   refine ZL (fun a w=>∃ s13 : Int,j10 = Fl.nx s13 ∧ Env 29 a [(0,v0_1),(1,vI s13),(5,vI s5.2)] ∧ M (Old w0) w0 w []) ?_ ?_
   ·skip
    refine wp_block ?_
    refine ZC (fun (s14 : Int × Int) a w=>Env 29 a [(0,v0_1),(1,vI s14.1),(5,vI s5.2),(6,vI s14.2)] ∧ M (Old w0) w0 w []) hl11 ⟨hE.sub ⟨rfl,rfl,rfl,rfl,trivial⟩,hM⟩ ?_
    rintro s14 a w ⟨hE,hM⟩ o17 hs15 hx16
    unfold Tm at hs15
    refine wp_seq (Zc (Zd hE Za ld rfl fun a hE=>Zi hE Za ld rfl rfl rfl fun a hE=>Zf ?_))
    refine Zp hE rfl ?_ ?_
    ·intro hb18
     have hs15:=Zz hs15 hb18
     refine wp_skip (Zu (wp_seq (wp_block (wp_seq (Zc (Zd hE Za ld rfl fun a hE=>Zd hE Za ld rfl fun a hE=>Zd hE Za ld rfl ?_)))))); intro a hE
     obtain ⟨x19,hi21,hs15⟩:=bix hs15
     refine ZK hE Za ld rfl rfl Tryz.underlying40 Yi (hM.rd hv0_1) hi21.1 ?_; intro a hE
     obtain ⟨x23,hi22,hs15⟩:=bvx hs15
     refine Zk hE Za ld rfl rfl Tryz.underlying37 ty5 hi22.1 fun a hE=>ZA (v:=(vB x23)) hE Za ld rfl ty5 rfl (At.vec (Xc (hM.rd hv0_1) hi21.2) hi22.2) fun a hE=>Zd hE Za ld rfl fun a hE=>Yb hE Za ld rfl Tryz.underlying3 Tryz.underlying5 ?_; intro a hE
     rw [ZN] at hE
     refine Zi hE Za ld rfl rfl (U8 x23 (Zx s14.1)) fun a hE=>Zf ?_
     refine Zp hE rfl ?_ ?_
     ·intro hb25
      have hs15:=Zz hs15 hb25
      refine Zc (Ze hE Za ld rfl fun a hE=>Zf ?_)
      have ht26:=hx16 _ (ois hs15)
      subst ht26
      have ht27:=hx7 _ (ois hF12)
      subst ht27
      have hr:=Option.some.inj hF3
      subst hr
      exact wp_ret (Zq (Z1 (Zq (Zq (Z1 (Zq (Z1 (Zq (Zq (Z1 (Zq (Zq (Zt hE rfl (Zs hE rfl) ⟨_,rfl,rfl,hM.kept⟩)))))))))))))
     ·intro hb25
      have hs15:=Zy hs15 hb25
      refine wp_skip (Zu (wp_region_lit (Zd hE Za ld rfl fun a hE=>Zi hE Za ld rfl rfl rfl fun a hE=>Ze hE Za ld rfl fun a hE=>Zj (ZZ (Zu (wp_region_lit (Zd hE Za ld rfl fun a hE=>Zi hE Za ld rfl rfl rfl fun a hE=>Ze hE Za ld rfl fun a hE=>Zj (Zl ?_))))))))
      exact ⟨_,(ois hs15),hE.sub ⟨rfl,rfl,rfl,rfl,trivial⟩,hM⟩
    ·intro hb18
     have hs15:=Zy hs15 hb18
     refine wp_exit (Zm (Zm (Z0 ?_)))
     have ht28:=hx16 _ (ois hs15)
     subst ht28
     refine Zl ?_
     exact ⟨s14.1,rfl,hE.sub ⟨rfl,rfl,rfl,trivial⟩,hM⟩
   ·skip
    rintro a w ⟨s13,ht,hE,hM⟩
    subst ht
    have hF12:=Va hF12
    refine ZZ (Zu (wp_region_lit (Zd hE Za ld rfl fun a hE=>Zi hE Za ld rfl rfl rfl fun a hE=>Ze hE Za ld rfl fun a hE=>Zj (Zl ?_))))
    exact ⟨_,(ois hF12),hE.sub ⟨rfl,rfl,rfl,trivial⟩,hM⟩
  ·intro hb9
   have hs6:=Zy hs6 hb9
   refine wp_exit (Zm (Zm (Z0 ?_)))
   have ht29:=hx7 _ (ois hs6)
   subst ht29
   refine Zl ?_
   exact ⟨s5.1,rfl,hE.sub ⟨rfl,trivial⟩,hM⟩
 ·skip
  rintro a w ⟨s4,ht,hE,hM⟩
  subst ht
  have hF3:=Va hF3
  refine Zu (Zc (Zd hE Za ld rfl fun a hE=>Ze hE Za ld rfl fun a hE=>Zf ?_))
  have hr:=Option.some.inj hF3
  subst hr
  exact wp_ret (Zt hE rfl (Zs hE rfl) ⟨_,rfl,rfl,hM.kept⟩)
def UM (p0 : (List (List UInt8))) (s5 : Int × Int) : Option (Fl (Int × Int) (Fl Int Int)) :=
 if (decide (s5.2 < (p0.length : Int))) = true then ((idx p0 s5.2).bind fun x10=>(Yk x10 s5.1).bind fun r18=>if (decide (r18 < 0)) = true then (some (Fl.ex (Fl.ex (-1)))) else (some (Fl.nx (r18,wr (s5.2 + 1))))) else (some (Fl.ex (Fl.nx s5.1)))
def Wv (p0 : (List (List UInt8))) (p1 : Int) : Option (Int) :=
 (ZE (UM p0) (p1,0)).bind fun j1=>j1.el (fun s4=>some s4) (fun r=>some r)
theorem KK (w0 : World) (p0 : (List (List UInt8))) (v0_1 : Value) (hv0_1 : Ro w0 p0 [v0_1]) (p1 : Int) (r : Int) (hF : Wv p0 p1 = some r) :
  Calls Tryz.prog 68 [v0_1,vI p1].toArray w0 (fun en w'=>∃ v,en = .returned v ∧ (v = (vI r) ∧ Kept (Old w0) w0 w')):=by
 refine ZB (n:=21) Tryz.func68 rfl rfl (nbl rfl) rfl ?_
 intro a hE
 have hM:=M.start w0
 unfold Wv at hF
 refine Zc (Ze hE Za ld rfl fun a hE=>Zf (wp_seq (Zc (Ze hE Za ld rfl fun a hE=>Zf ?_))))
 obtain ⟨j1,hl2,hF3⟩:=bind_some hF
 refine ZL (fun a w=>∃ s4 : Int,j1 = Fl.nx s4 ∧ Env 21 a [(1,vI s4)] ∧ M (Old w0) w0 w []) ?_ ?_
 ·skip
  refine wp_block ?_
  refine ZC (fun (s5 : Int × Int) a w=>Env 21 a [(0,v0_1),(1,vI s5.1),(5,vI s5.2)] ∧ M (Old w0) w0 w []) hl2 ⟨hE.sub ⟨rfl,rfl,rfl,trivial⟩,hM⟩ ?_
  rintro s5 a w ⟨hE,hM⟩ o8 hs6 hx7
  unfold UM at hs6
  refine wp_seq (Zc (Zd hE Za ld rfl fun a hE=>Zd hE Za ld rfl fun a hE=>Yf hE Za ld rfl Tryz.underlying41 (hM.rd hv0_1) fun a hE=>Zi hE Za ld rfl rfl rfl fun a hE=>Zf ?_))
  refine Zp hE rfl ?_ ?_
  ·intro hb9
   have hs6:=Zz hs6 hb9
   refine wp_skip (Zu (wp_seq (wp_block (Zc (Zd hE Za ld rfl fun a hE=>Zd hE Za ld rfl ?_))))); intro a hE
   obtain ⟨x10,hi12,hs6⟩:=bix hs6
   refine ZK hE Za ld rfl rfl Tryz.underlying41 UU (hM.rd hv0_1) hi12.1 ?_; intro a hE
   obtain ⟨cs13,hs14,hA15⟩:=Uq hv0_1 hi12.2 -- ^
   obtain ⟨u16,rfl⟩:=XE hs14 -- ^
   have h17:=hs14 -- ^
   refine ZA (v:=u16) hE Za ld rfl UU rfl (hM.atk hA15 (Ta hv0_1 hi12.2)) fun a hE=>Zd hE Za ld rfl ?_; intro a hE
   obtain ⟨r18,e19,hs6⟩:=bind_some hs6
   refine Zw hE Za ld rfl cb25 (Up _ x10 u16 (hM.rdo h17) s5.1 r18 e19) ?_
   rintro v w a ⟨rfl,hK⟩ hE
   have hM:=hM.keep hK
   refine Ze hE Za ld rfl fun a hE=>Zf (Zc (Zd hE Za ld rfl fun a hE=>Zi hE Za ld rfl rfl rfl fun a hE=>Zf ?_))
   refine Zp hE rfl ?_ ?_
   ·intro hb20
    have hs6:=Zz hs6 hb20
    refine Zc (Ze hE Za ld rfl fun a hE=>Zf ?_)
    have ht21:=hx7 _ (ois hs6)
    subst ht21
    have hr:=Option.some.inj hF3
    subst hr
    exact wp_ret (Z1 (Zq (Zq (Z1 (Zq (Zq (Zt hE rfl (Zs hE rfl) ⟨_,rfl,rfl,hM.kept⟩)))))))
   ·intro hb20
    have hs6:=Zy hs6 hb20
    refine wp_skip (ZZ (Zu (wp_region_lit (Zd hE Za ld rfl fun a hE=>Zi hE Za ld rfl rfl rfl fun a hE=>Ze hE Za ld rfl fun a hE=>Zj (Zl ?_)))))
    exact ⟨_,(ois hs6),hE.sub ⟨rfl,rfl,rfl,trivial⟩,hM⟩
  ·intro hb9
   have hs6:=Zy hs6 hb9
   refine wp_exit (Zm (Zm (Z0 ?_)))
   have ht22:=hx7 _ (ois hs6)
   subst ht22
   refine Zl ?_
   exact ⟨s5.1,rfl,hE.sub ⟨rfl,trivial⟩,hM⟩
 ·skip
  rintro a w ⟨s4,ht,hE,hM⟩
  subst ht
  have hF3:=Va hF3
  refine Zu (Zc (Zd hE Za ld rfl fun a hE=>Ze hE Za ld rfl fun a hE=>Zf ?_))
  have hr:=Option.some.inj hF3
  subst hr
  exact wp_ret (Zt hE rfl (Zs hE rfl) ⟨_,rfl,rfl,hM.kept⟩)
def UP (p0 : (List Int)) (s5 : Int × Int) : Option (Fl (Int × Int) (Fl Int Int)) :=
 if (decide (s5.2 < (p0.length : Int))) = true then ((idx p0 s5.2).bind fun x10=>if (x10 != s5.1) = true then (some (Fl.ex (Fl.ex (-1)))) else (some (Fl.nx (wr (s5.1 + 1),wr (s5.2 + 1))))) else (some (Fl.ex (Fl.nx s5.1)))
def Wq (p0 : (List Int)) (p1 : Int) : Option (Int) :=
 (ZE (UP p0) (p1,0)).bind fun j1=>j1.el (fun s4=>some s4) (fun r=>some r)
theorem KD (w0 : World) (p0 : (List Int)) (v0_1 : Value) (hv0_1 : Ro w0 p0 [v0_1]) (p1 : Int) (r : Int) (hF : Wq p0 p1 = some r) :
  Calls Tryz.prog 69 [v0_1,vI p1].toArray w0 (fun en w'=>∃ v,en = .returned v ∧ (v = (vI r) ∧ Kept (Old w0) w0 w')):=by
 refine ZB (n:=21) Tryz.func69 rfl rfl (nbl rfl) rfl ?_
 intro a hE
 have hM:=M.start w0
 unfold Wq at hF
 refine Zc (Ze hE Za ld rfl fun a hE=>Zf (wp_seq (Zc (Ze hE Za ld rfl fun a hE=>Zf ?_))))
 obtain ⟨j1,hl2,hF3⟩:=bind_some hF
 refine ZL (fun a w=>∃ s4 : Int,j1 = Fl.nx s4 ∧ Env 21 a [(1,vI s4)] ∧ M (Old w0) w0 w []) ?_ ?_
 ·skip
  refine wp_block ?_
  refine ZC (fun (s5 : Int × Int) a w=>Env 21 a [(0,v0_1),(1,vI s5.1),(5,vI s5.2)] ∧ M (Old w0) w0 w []) hl2 ⟨hE.sub ⟨rfl,rfl,rfl,trivial⟩,hM⟩ ?_
  rintro s5 a w ⟨hE,hM⟩ o8 hs6 hx7
  unfold UP at hs6
  refine wp_seq (Zc (Zd hE Za ld rfl fun a hE=>Zd hE Za ld rfl fun a hE=>Yf hE Za ld rfl Tryz.underlying42 (hM.rd hv0_1) fun a hE=>Zi hE Za ld rfl rfl rfl fun a hE=>Zf ?_))
  refine Zp hE rfl ?_ ?_
  ·intro hb9
   have hs6:=Zz hs6 hb9
   refine wp_skip (Zu (wp_seq (wp_block (wp_seq (Zc (Zd hE Za ld rfl fun a hE=>Zd hE Za ld rfl ?_)))))); intro a hE
   obtain ⟨x10,hi12,hs6⟩:=bix hs6
   refine ZK hE Za ld rfl rfl Tryz.underlying42 ty2 (hM.rd hv0_1) hi12.1 fun a hE=>ZA (v:=(vI x10)) hE Za ld rfl ty2 rfl (Xc (hM.rd hv0_1) hi12.2) fun a hE=>Zd hE Za ld rfl fun a hE=>Zi hE Za ld rfl rfl rfl fun a hE=>Zf ?_
   refine Zp hE rfl ?_ ?_
   ·intro hb13
    have hs6:=Zz hs6 hb13
    refine Zc (Ze hE Za ld rfl fun a hE=>Zf ?_)
    have ht14:=hx7 _ (ois hs6)
    subst ht14
    have hr:=Option.some.inj hF3
    subst hr
    exact wp_ret (Zq (Z1 (Zq (Zq (Z1 (Zq (Zq (Zt hE rfl (Zs hE rfl) ⟨_,rfl,rfl,hM.kept⟩))))))))
   ·intro hb13
    have hs6:=Zy hs6 hb13
    refine wp_skip (Zu (wp_region_lit (Zd hE Za ld rfl fun a hE=>Zi hE Za ld rfl rfl rfl fun a hE=>Ze hE Za ld rfl fun a hE=>Zj (ZZ (Zu (wp_region_lit (Zd hE Za ld rfl fun a hE=>Zi hE Za ld rfl rfl rfl fun a hE=>Ze hE Za ld rfl fun a hE=>Zj (Zl ?_))))))))
    exact ⟨_,(ois hs6),hE.sub ⟨rfl,rfl,rfl,trivial⟩,hM⟩
  ·intro hb9
   have hs6:=Zy hs6 hb9
   refine wp_exit (Zm (Zm (Z0 ?_)))
   have ht15:=hx7 _ (ois hs6)
   subst ht15
   refine Zl ?_
   exact ⟨s5.1,rfl,hE.sub ⟨rfl,trivial⟩,hM⟩
 ·skip
  rintro a w ⟨s4,ht,hE,hM⟩
  subst ht
  have hF3:=Va hF3
  refine Zu (Zc (Zd hE Za ld rfl fun a hE=>Ze hE Za ld rfl fun a hE=>Zf ?_))
  have hr:=Option.some.inj hF3
  subst hr
  exact wp_ret (Zt hE rfl (Zs hE rfl) ⟨_,rfl,rfl,hM.kept⟩)
def Ub (p0 : GBlobs) (p1 : Int) : Option (Int) :=
 (XW p0.Keys p1).bind fun r3=>if (decide (r3 < 0)) = true then (some (-1)) else ((Wv p0.Data r3).bind fun r6=>if (decide (r6 < 0)) = true then (some (-1)) else ((Wq p0.Counts r6).bind fun r9=>if (decide (r9 < 0)) = true then (some (-1)) else (some r9)))
theorem K5 (w0 : World) (p0 : GBlobs) (v0_1 : Value) (hv0_1 : Ro w0 p0.Keys [v0_1]) (v0_2 : Value) (hv0_2 : Ro w0 p0.Data [v0_2]) (v0_3 : Value) (hv0_3 : Ro w0 p0.Counts [v0_3]) (p1 : Int) (r : Int) (hF : Ub p0 p1 = some r) :
  Calls Tryz.prog 27 [(Value.agg (cat [[v0_1],[v0_2],[v0_3]]).toArray),vI p1].toArray w0 (fun en w'=>∃ v,en = .returned v ∧ (v = (vI r) ∧ Kept (Old w0) w0 w')):=by
 refine ZB (n:=24) Tryz.func27 rfl rfl (nbl rfl) rfl ?_
 intro a hE
 have hM:=M.start w0
 unfold Ub at hF
 refine Zc (ZT (cs:=cat [[v0_1],[v0_2],[v0_3]]) hE hM Za ld rfl rfl fun b1 w a hM hE=>Ze hE Za ld rfl fun a hE=>Zf (Zc (Zh hE Za ld rfl (BG) fun a hE=>ZA (v:=v0_1) hE Za ld rfl ty40 rfl (At.cat (pre:=[]) (hM.rawAt (pre:=[])) cl0) fun a hE=>Zd hE Za ld rfl ?_))); intro a hE
 obtain ⟨r3,e4,hF⟩:=bind_some hF
 refine Zw hE Za ld rfl cb67 (Kf _ p0.Keys v0_1 (hM.rdo hv0_1) p1 r3 e4) ?_
 rintro v w a ⟨rfl,hK⟩ hE
 have hM:=hM.keep hK
 refine Ze hE Za ld rfl fun a hE=>Zf (wp_seq (Zc (Zd hE Za ld rfl fun a hE=>Zi hE Za ld rfl rfl rfl fun a hE=>Zf ?_)))
 refine Zp hE rfl ?_ ?_
 ·intro hb5
  have hF:=Zz hF hb5
  refine Zc (Ze hE Za ld rfl fun a hE=>Zf ?_)
  have hr:=Option.some.inj hF
  subst hr
  have hM:=M.fst (l:=[]) hM
  exact wp_ret (Zq (Zt hE rfl (Zs hE rfl) ⟨_,rfl,rfl,hM.kept⟩))
 ·intro hb5
  have hF:=Zy hF hb5
  refine wp_skip (Zu (Zc (Zh hE Za ld rfl (BS) fun a hE=>ZA (v:=v0_2) hE Za ld rfl ty41 rfl (At.cat (pre:=[[v0_1]]) (hM.rawAt (pre:=[])) (cl1 (n:=1) (m:=0) rfl cl0)) fun a hE=>Zd hE Za ld rfl ?_))); intro a hE
  obtain ⟨r6,e7,hF⟩:=bind_some hF
  refine Zw hE Za ld rfl cb68 (KK _ p0.Data v0_2 (hM.rdo hv0_2) r3 r6 e7) ?_
  rintro v w a ⟨rfl,hK⟩ hE
  have hM:=hM.keep hK
  refine Ze hE Za ld rfl fun a hE=>Zf (wp_seq (Zc (Zd hE Za ld rfl fun a hE=>Zi hE Za ld rfl rfl rfl fun a hE=>Zf ?_)))
  refine Zp hE rfl ?_ ?_
  ·intro hb8
   have hF:=Zz hF hb8
   refine Zc (Ze hE Za ld rfl fun a hE=>Zf ?_)
   have hr:=Option.some.inj hF
   subst hr
   have hM:=M.fst (l:=[]) hM
   exact wp_ret (Zq (Zt hE rfl (Zs hE rfl) ⟨_,rfl,rfl,hM.kept⟩))
  ·intro hb8
   have hF:=Zy hF hb8
   refine wp_skip (Zu (Zc (Zh hE Za ld rfl (B0) fun a hE=>ZA (v:=v0_3) hE Za ld rfl ty42 rfl (At.cat (pre:=[[v0_1],[v0_2]]) (hM.rawAt (pre:=[])) (cl1 (n:=1) (m:=1) rfl (cl1 (n:=1) (m:=0) rfl cl0))) fun a hE=>Zd hE Za ld rfl ?_))); intro a hE
   obtain ⟨r9,e10,hF⟩:=bind_some hF
   refine Zw hE Za ld rfl cb69 (KD _ p0.Counts v0_3 (hM.rdo hv0_3) r6 r9 e10) ?_
   rintro v w a ⟨rfl,hK⟩ hE
   have hM:=hM.keep hK
   refine Ze hE Za ld rfl fun a hE=>Zf (wp_seq (Zc (Zd hE Za ld rfl fun a hE=>Zi hE Za ld rfl rfl rfl fun a hE=>Zf ?_)))
   refine Zp hE rfl ?_ ?_
   ·intro hb11
    have hF:=Zz hF hb11
    refine Zc (Ze hE Za ld rfl fun a hE=>Zf ?_)
    have hr:=Option.some.inj hF
    subst hr
    have hM:=M.fst (l:=[]) hM
    exact wp_ret (Zq (Zt hE rfl (Zs hE rfl) ⟨_,rfl,rfl,hM.kept⟩))
   ·intro hb11
    have hF:=Zy hF hb11
    refine wp_skip (Zu (Zc (Zd hE Za ld rfl fun a hE=>Ze hE Za ld rfl fun a hE=>Zf ?_)))
    have hr:=Option.some.inj hF
    subst hr
    have hM:=M.fst (l:=[]) hM
    exact wp_ret (Zt hE rfl (Zs hE rfl) ⟨_,rfl,rfl,hM.kept⟩)
def Wa (p0 : GDesk) (p1 : Int) : Option (Int) :=
 (Yk p0.Data p1).bind fun r3=>if (decide (r3 < 0)) = true then (some (-1)) else ((WQ p0.Vault r3).bind fun r6=>if (decide (r6 < 0)) = true then (some (-1)) else ((Ub p0.Blobs r6).bind fun r9=>if (decide (r9 < 0)) = true then (some (-1)) else (some r9)))
theorem Qb (w0 : World) (p0 : GDesk) (v0_1 : Value) (hv0_1 : Ro w0 p0.Data [v0_1]) (v0_2 : Value) (hv0_2 : Ro w0 p0.Vault.Keys [v0_2]) (v0_3 : Value) (hv0_3 : Ro w0 p0.Vault.Records [v0_3]) (v0_4 : Value) (hv0_4 : Ro w0 p0.Vault.Events [v0_4]) (v0_5 : Value) (hv0_5 : Ro w0 p0.Blobs.Keys [v0_5]) (v0_6 : Value) (hv0_6 : Ro w0 p0.Blobs.Data [v0_6]) (v0_7 : Value) (hv0_7 : Ro w0 p0.Blobs.Counts [v0_7]) (p1 : Int) (r : Int) (hF : Wa p0 p1 = some r) :
  Calls Tryz.prog 9 [(Value.agg (cat [cat [[vI p0.Cipher.Field],enc p0.Cipher.Box,enc p0.Cipher.Mix,enc p0.Cipher.Places,[vI p0.Cipher.Rounds]],enc p0.Key,enc p0.Start,[v0_1],cat [[v0_2],[vI p0.Vault.Next],[v0_3],[v0_4],enc p0.Vault.Head],cat [[v0_5],[v0_6],[v0_7]]]).toArray),vI p1].toArray w0 (fun en w'=>∃ v,en = .returned v ∧ (v = (vI r) ∧ Kept (Old w0) w0 w')):=by
 refine ZB (n:=24) Tryz.func9 rfl rfl (nbl rfl) rfl ?_
 intro a hE
 have hM:=M.start w0
 unfold Wa at hF
 refine Zc (ZT (cs:=cat [cat [[vI p0.Cipher.Field],enc p0.Cipher.Box,enc p0.Cipher.Mix,enc p0.Cipher.Places,[vI p0.Cipher.Rounds]],enc p0.Key,enc p0.Start,[v0_1],cat [[v0_2],[vI p0.Vault.Next],[v0_3],[v0_4],enc p0.Vault.Head],cat [[v0_5],[v0_6],[v0_7]]]) hE hM Za ld rfl rfl fun b1 w a hM hE=>Ze hE Za ld rfl fun a hE=>Zf (Zc (Zh hE Za ld rfl (BU) fun a hE=>ZA (v:=v0_1) hE Za ld rfl UU rfl (At.cat (pre:=[cat [[vI p0.Cipher.Field],enc p0.Cipher.Box,enc p0.Cipher.Mix,enc p0.Cipher.Places,[vI p0.Cipher.Rounds]],enc p0.Key,enc p0.Start]) (hM.rawAt (pre:=[])) (cl1 (n:=290) (m:=32) (Zg (cl1 (n:=1) (m:=289) rfl (cl1 (n:=256) (m:=33) (Flat.len _) (cl1 (n:=16) (m:=17) (Flat.len _) (cl1 (n:=16) (m:=1) (Flat.len _) (cl1 (n:=1) (m:=0) rfl cl0)))))) (cl1 (n:=16) (m:=16) (Flat.len _) (cl1 (n:=16) (m:=0) (Flat.len _) cl0)))) fun a hE=>Zd hE Za ld rfl ?_))); intro a hE
 obtain ⟨r3,e4,hF⟩:=bind_some hF
 refine Zw hE Za ld rfl cb25 (Up _ p0.Data v0_1 (hM.rdo hv0_1) p1 r3 e4) ?_
 rintro v w a ⟨rfl,hK⟩ hE
 have hM:=hM.keep hK
 refine Ze hE Za ld rfl fun a hE=>Zf (wp_seq (Zc (Zd hE Za ld rfl fun a hE=>Zi hE Za ld rfl rfl rfl fun a hE=>Zf ?_)))
 refine Zp hE rfl ?_ ?_
 ·intro hb5
  have hF:=Zz hF hb5
  refine Zc (Ze hE Za ld rfl fun a hE=>Zf ?_)
  have hr:=Option.some.inj hF
  subst hr
  have hM:=M.fst (l:=[]) hM
  exact wp_ret (Zq (Zt hE rfl (Zs hE rfl) ⟨_,rfl,rfl,hM.kept⟩))
 ·intro hb5
  have hF:=Zy hF hb5
  refine wp_skip (Zu (Zc (Zh hE Za ld rfl (BD) fun a hE=>Zo (cs:=cat [[v0_2],[vI p0.Vault.Next],[v0_3],[v0_4],enc p0.Vault.Head]) hE Za ld rfl Qj rfl (At.cat (pre:=[cat [[vI p0.Cipher.Field],enc p0.Cipher.Box,enc p0.Cipher.Mix,enc p0.Cipher.Places,[vI p0.Cipher.Rounds]],enc p0.Key,enc p0.Start,[v0_1]]) (hM.rawAt (pre:=[])) (cl1 (n:=290) (m:=33) (Zg (cl1 (n:=1) (m:=289) rfl (cl1 (n:=256) (m:=33) (Flat.len _) (cl1 (n:=16) (m:=17) (Flat.len _) (cl1 (n:=16) (m:=1) (Flat.len _) (cl1 (n:=1) (m:=0) rfl cl0)))))) (cl1 (n:=16) (m:=17) (Flat.len _) (cl1 (n:=16) (m:=1) (Flat.len _) (cl1 (n:=1) (m:=0) rfl cl0))))) (Zg (cl1 (n:=1) (m:=35) rfl (cl1 (n:=1) (m:=34) rfl (cl1 (n:=1) (m:=33) rfl (cl1 (n:=1) (m:=32) rfl (cl1 (n:=32) (m:=0) (Flat.len _) cl0)))))) fun a hE=>Zd hE Za ld rfl ?_))); intro a hE
  obtain ⟨r6,e7,hF⟩:=bind_some hF
  refine Zw hE Za ld rfl cb26 (K0 _ p0.Vault v0_2 (hM.rdo hv0_2) v0_3 (hM.rdo hv0_3) v0_4 (hM.rdo hv0_4) r3 r6 e7) ?_
  rintro v w a ⟨rfl,hK⟩ hE
  have hM:=hM.keep hK
  refine Ze hE Za ld rfl fun a hE=>Zf (wp_seq (Zc (Zd hE Za ld rfl fun a hE=>Zi hE Za ld rfl rfl rfl fun a hE=>Zf ?_)))
  refine Zp hE rfl ?_ ?_
  ·intro hb8
   have hF:=Zz hF hb8
   refine Zc (Ze hE Za ld rfl fun a hE=>Zf ?_)
   have hr:=Option.some.inj hF
   subst hr
   have hM:=M.fst (l:=[]) hM
   exact wp_ret (Zq (Zt hE rfl (Zs hE rfl) ⟨_,rfl,rfl,hM.kept⟩))
  ·intro hb8
   have hF:=Zy hF hb8
   refine wp_skip (Zu (Zc (Zh hE Za ld rfl (BN) fun a hE=>Zo (cs:=cat [[v0_5],[v0_6],[v0_7]]) hE Za ld rfl B3 rfl (At.cat (pre:=[cat [[vI p0.Cipher.Field],enc p0.Cipher.Box,enc p0.Cipher.Mix,enc p0.Cipher.Places,[vI p0.Cipher.Rounds]],enc p0.Key,enc p0.Start,[v0_1],cat [[v0_2],[vI p0.Vault.Next],[v0_3],[v0_4],enc p0.Vault.Head]]) (hM.rawAt (pre:=[])) (cl1 (n:=290) (m:=69) (Zg (cl1 (n:=1) (m:=289) rfl (cl1 (n:=256) (m:=33) (Flat.len _) (cl1 (n:=16) (m:=17) (Flat.len _) (cl1 (n:=16) (m:=1) (Flat.len _) (cl1 (n:=1) (m:=0) rfl cl0)))))) (cl1 (n:=16) (m:=53) (Flat.len _) (cl1 (n:=16) (m:=37) (Flat.len _) (cl1 (n:=1) (m:=36) rfl (cl1 (n:=36) (m:=0) (Zg (cl1 (n:=1) (m:=35) rfl (cl1 (n:=1) (m:=34) rfl (cl1 (n:=1) (m:=33) rfl (cl1 (n:=1) (m:=32) rfl (cl1 (n:=32) (m:=0) (Flat.len _) cl0)))))) cl0)))))) (Zg (cl1 (n:=1) (m:=2) rfl (cl1 (n:=1) (m:=1) rfl (cl1 (n:=1) (m:=0) rfl cl0)))) fun a hE=>Zd hE Za ld rfl ?_))); intro a hE
   obtain ⟨r9,e10,hF⟩:=bind_some hF
   refine Zw hE Za ld rfl cb27 (K5 _ p0.Blobs v0_5 (hM.rdo hv0_5) v0_6 (hM.rdo hv0_6) v0_7 (hM.rdo hv0_7) r6 r9 e10) ?_
   rintro v w a ⟨rfl,hK⟩ hE
   have hM:=hM.keep hK
   refine Ze hE Za ld rfl fun a hE=>Zf (wp_seq (Zc (Zd hE Za ld rfl fun a hE=>Zi hE Za ld rfl rfl rfl fun a hE=>Zf ?_)))
   refine Zp hE rfl ?_ ?_
   ·intro hb11
    have hF:=Zz hF hb11
    refine Zc (Ze hE Za ld rfl fun a hE=>Zf ?_)
    have hr:=Option.some.inj hF
    subst hr
    have hM:=M.fst (l:=[]) hM
    exact wp_ret (Zq (Zt hE rfl (Zs hE rfl) ⟨_,rfl,rfl,hM.kept⟩))
   ·intro hb11
    have hF:=Zy hF hb11
    refine wp_skip (Zu (Zc (Zd hE Za ld rfl fun a hE=>Ze hE Za ld rfl fun a hE=>Zf ?_)))
    have hr:=Option.some.inj hF
    subst hr
    have hM:=M.fst (l:=[]) hM
    exact wp_ret (Zt hE rfl (Zs hE rfl) ⟨_,rfl,rfl,hM.kept⟩)
def X6 : Option (Bool) :=
 (VP).bind fun r1=>(WS).bind fun r12=>(WB r12 r1).bind fun r23=>if (!r23) = true then (some false) else ((VA r12 1).bind fun r26=>(Wa (⟨r12.Cipher,r12.Key,r12.Start,r26.1.Data,(⟨r26.1.Vault.Keys,r12.Vault.Next,r26.1.Vault.Records,r26.1.Vault.Events,r12.Vault.Head⟩ : GVault),r26.1.Blobs⟩ : GDesk) 1).bind fun r28=>if (decide (r28 < 0)) = true then (some false) else (if (r28 != r26.2) = true then (some false) else ((WS).bind fun r32=>(WB r32 r1).bind fun r43=>if (!r43) = true then (some false) else ((Wa (⟨r12.Cipher,r12.Key,r12.Start,r26.1.Data,(⟨r26.1.Vault.Keys,r12.Vault.Next,r26.1.Vault.Records,r26.1.Vault.Events,r12.Vault.Head⟩ : GVault),r26.1.Blobs⟩ : GDesk) 1).bind fun r46=>if (decide (r46 < 0)) = true then (some false) else (if (r46 != r26.2) = true then (some false) else (some true))))))
end

end Go.Proofs.YtlpppjjlffgkmaaGreat
