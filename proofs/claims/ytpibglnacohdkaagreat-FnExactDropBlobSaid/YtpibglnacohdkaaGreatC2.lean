/- The walk of what the law reaches: contracts of functions. -/
import Derived.Test.YtpibglnacohdkaaGreatC1
set_option linter.unusedVariables false
set_option linter.unusedSimpArgs false
set_option maxRecDepth 20000
set_option maxHeartbeats 400000
namespace Go.Proofs.YtpibglnacohdkaaGreat
open Go
open Flat (enc)
noncomputable section
theorem Kv (w0 : World) (p0 : Int) (r : GCipher) (hF : WK p0 = some r) :
  Calls Tryz.prog 180 [vI p0].toArray w0 (Rt w0 (Value.agg (enc r).toArray)):=by
 refine ce Tryz.func180 ?_
 intro a hE
 have hM:=M.start w0
 unfold WK at hF
 refine Zb (ZC hE hM V7 fun b1 w a hM hE=>Ze (Zb (Zd hE rfl fun a hE=>VB (parts:=[(0,.const (vI 285)),(4,.tmp 9)]) (vs:=[(0,vI 285),(4,vI p0)]) (cs:=cat [[vI 285],enc (Vector.replicate 256 (0 : UInt8)),enc (Vector.replicate 4 (Vector.replicate 4 (0 : UInt8))),enc (Vector.replicate 16 (0 : UInt8)),[vI p0]]) hE Za ld rfl rfl V7 pl163 (Xh (pre:=[]) (seg:=[vI 0]) (seg':=[vI 285]) (post:=[enc (Vector.replicate 256 (0 : UInt8)),enc (Vector.replicate 4 (Vector.replicate 4 (0 : UInt8))),enc (Vector.replicate 16 (0 : UInt8)),[vI 0]]) rfl cl0 rfl rfl rfl (Xh (pre:=[[vI 285],enc (Vector.replicate 256 (0 : UInt8)),enc (Vector.replicate 4 (Vector.replicate 4 (0 : UInt8))),enc (Vector.replicate 16 (0 : UInt8))]) (seg:=[vI 0]) (seg':=[vI p0]) (post:=[]) rfl ck rfl rfl rfl U6)) fun a hE=>ZC hE hM V7 fun b3 w a hM hE=>Zn (seg:=cat [[vI 285],enc (Vector.replicate 256 (0 : UInt8)),enc (Vector.replicate 4 (Vector.replicate 4 (0 : UInt8))),enc (Vector.replicate 16 (0 : UInt8)),[vI p0]]) (cs':=cat [[vI 285],enc (Vector.replicate 256 (0 : UInt8)),enc (Vector.replicate 4 (Vector.replicate 4 (0 : UInt8))),enc (Vector.replicate 16 (0 : UInt8)),[vI p0]]) hE hM Za rfl rfl rfl V7 cq (Nat.le_of_eq ((Nat.zero_add _).trans (Eq.trans cq (Eq.symm cq)))) (YC (cc1 (Flat.cell (285 : Int)) (cc1 (Flat.cell _) (cc1 (Flat.cell _) (cc1 (Flat.cell _) (cc1 (Flat.cell (p0 : Int)) cc0)))))) (Zk (Eq.trans cq (Eq.symm cq))) fun w a hM hE=>Ze (wp_seq (Zb (Zd hE rfl fun a hE=>Ze ?_))))))
 obtain ⟨j5,hl6,hF7⟩:=bind_some hF
 refine ZM (fun a w=>Env 61 a [(2,(ptr b1 0)),(3,(ptr b3 0))] ∧ M (Old w0) w0 w [raw b3 (cat [[vI 285],enc j5,enc (Vector.replicate 4 (Vector.replicate 4 (0 : UInt8))),enc (Vector.replicate 16 (0 : UInt8)),[vI p0]]),raw b1 (cat [[vI 0],enc (Vector.replicate 256 (0 : UInt8)),enc (Vector.replicate 4 (Vector.replicate 4 (0 : UInt8))),enc (Vector.replicate 16 (0 : UInt8)),[vI 0]])]) ?_ ?_
 ·skip
  refine wp_block ?_
  refine ZE (fun (s8 : (Vector UInt8 256) × Int) a w=>Env 61 a [(2,(ptr b1 0)),(3,(ptr b3 0)),(11,vI s8.2)] ∧ M (Old w0) w0 w [raw b3 (cat [[vI 285],enc s8.1,enc (Vector.replicate 4 (Vector.replicate 4 (0 : UInt8))),enc (Vector.replicate 16 (0 : UInt8)),[vI p0]]),raw b1 (cat [[vI 0],enc (Vector.replicate 256 (0 : UInt8)),enc (Vector.replicate 4 (Vector.replicate 4 (0 : UInt8))),enc (Vector.replicate 16 (0 : UInt8)),[vI 0]])]) hl6 ⟨hE.sub ⟨rfl,rfl,rfl,trivial⟩,hM⟩ ?_
  rintro s8 a w ⟨hE,hM⟩ o11 hs9 hx10
  unfold X8 at hs9
  refine Zb (Zg hE rfl rfl rfl fun a hE=>Ze (wp_seq ?_))
  refine Zo hE rfl ?_ ?_
  ·intro hb12
   have hs9:=Zs hs9 hb12
   refine wp_skip (Zp (wp_seq (wp_block (Zb (Zd hE rfl fun a hE=>Zc hE rfl fun a hE=>Ze (Zb (Zd hE rfl fun a hE=>Xb hE Za ld rfl Tryz.underlying3 Tryz.underlying5 ?_))))))); intro a hE
   obtain ⟨r13,e14,hs9⟩:=bind_some hs9
   refine Zy hE rfl jG (V8 _ 285 (ZG s8.2) r13 e14) ?_
   rintro v w a ⟨rfl,hK⟩ hE
   have hM:=hM.keep hK
   refine Zc hE rfl fun a hE=>Ze (wp_region_lit (Zd hE rfl fun a hE=>Zd hE rfl fun a hE=>Zd hE rfl ?_)); intro a hE
   obtain ⟨r15,e16,hs9⟩:=bind_some hs9
   refine Zy hE rfl (cbm Tryz.func216) (UX _ r13 1 r15 e16) ?_
   rintro v w a ⟨rfl,hK⟩ hE
   have hM:=hM.keep hK
   refine Zg hE rfl rfl (VV r13 r15) fun a hE=>Zd hE rfl ?_; intro a hE
   obtain ⟨r17,e18,hs9⟩:=bind_some hs9
   refine Zy hE rfl (cbm Tryz.func216) (UX _ r13 4 r17 e18) ?_
   rintro v w a ⟨rfl,hK⟩ hE
   have hM:=hM.keep hK
   refine Zg hE rfl rfl (VV (r13 ^^^ r15) r17) fun a hE=>Zg hE rfl rfl (VV ((r13 ^^^ r15) ^^^ r17) 90) fun a hE=>Zw hE rfl (Q6) ?_; intro a hE
   obtain ⟨x20,hi19,hs9⟩:=bvx hs9
   refine ZF hE rfl rfl Tryz.underlying157 ty5 hi19.1 fun a hE=>Zn (seg:=[(vB (((r13 ^^^ r15) ^^^ r17) ^^^ 90))]) (cs':=cat [[vI 285],enc (s8.1.setIfInBounds (s8.2).toNat (((r13 ^^^ r15) ^^^ r17) ^^^ 90)),enc (Vector.replicate 4 (Vector.replicate 4 (0 : UInt8))),enc (Vector.replicate 16 (0 : UInt8)),[vI p0]]) hE hM Za rfl rfl rfl ty5 rfl (QU (o':=0 + (s8.2).toNat * 1) (pre:=[[vI 285]]) (seg:=enc s8.1) (post:=[enc (Vector.replicate 4 (Vector.replicate 4 (0 : UInt8))),enc (Vector.replicate 16 (0 : UInt8)),[vI p0]]) ck (ZN (v:=s8.1) (x:=((r13 ^^^ r15) ^^^ r17) ^^^ 90) hi19.1) (by first | omega | (simp only [Flat.n] <;> omega))) (Flat.cell (((r13 ^^^ r15) ^^^ r17) ^^^ 90 : UInt8)) (Tt (o':=0 + (s8.2).toNat * 1) (pre:=[[vI 285]]) (seg:=enc s8.1) (post:=[enc (Vector.replicate 4 (Vector.replicate 4 (0 : UInt8))),enc (Vector.replicate 16 (0 : UInt8)),[vI p0]]) ck (ZN (v:=s8.1) (x:=((r13 ^^^ r15) ^^^ r17) ^^^ 90) hi19.1) (ZD (v:=s8.1) (x:=((r13 ^^^ r15) ^^^ r17) ^^^ 90) hi19.1) (by first | omega | (simp only [Flat.n] <;> omega))) fun w a hM hE=>Zf (Yc (Zp (wp_region_lit (Zg hE rfl rfl rfl fun a hE=>Zd hE rfl fun a hE=>Zf (Zh ?_)))))
   exact ⟨_,(ois hs9),hE.sub ⟨rfl,rfl,rfl,trivial⟩,hM⟩
  ·intro hb12
   have hs9:=Zt hs9 hb12
   refine wp_exit (Zm (Zm (Yb ?_)))
   obtain rfl:=hx10 _ (ois hs9)
   refine Zh ?_
   exact ⟨hE.sub ⟨rfl,rfl,trivial⟩,hM⟩
 ·skip
  rintro a w ⟨hE,hM⟩
  refine Zp (wp_seq (Zb (Zd hE rfl fun a hE=>Ze ?_)))
  obtain ⟨j23,hl24,hF25⟩:=bind_some hF7
  refine ZM (fun a w=>Env 61 a [(2,(ptr b1 0)),(3,(ptr b3 0))] ∧ M (Old w0) w0 w [raw b3 (cat [[vI 285],enc j5,enc j23,enc (Vector.replicate 16 (0 : UInt8)),[vI p0]]),raw b1 (cat [[vI 0],enc (Vector.replicate 256 (0 : UInt8)),enc (Vector.replicate 4 (Vector.replicate 4 (0 : UInt8))),enc (Vector.replicate 16 (0 : UInt8)),[vI 0]])]) ?_ ?_
  ·skip
   refine wp_block ?_
   refine ZE (fun (s26 : (Vector (Vector UInt8 4) 4) × Int) a w=>Env 61 a [(2,(ptr b1 0)),(3,(ptr b3 0)),(29,vI s26.2)] ∧ M (Old w0) w0 w [raw b3 (cat [[vI 285],enc j5,enc s26.1,enc (Vector.replicate 16 (0 : UInt8)),[vI p0]]),raw b1 (cat [[vI 0],enc (Vector.replicate 256 (0 : UInt8)),enc (Vector.replicate 4 (Vector.replicate 4 (0 : UInt8))),enc (Vector.replicate 16 (0 : UInt8)),[vI 0]])]) hl24 ⟨hE.sub ⟨rfl,rfl,rfl,trivial⟩,hM⟩ ?_
   rintro s26 a w ⟨hE,hM⟩ o29 hs27 hx28
   unfold W5 at hs27
   refine Zb (Zg hE rfl rfl rfl fun a hE=>Ze (wp_seq ?_))
   refine Zo hE rfl ?_ ?_
   ·intro hb30
    have hs27:=Zs hs27 hb30
    refine wp_skip (Zp (wp_seq (wp_block (Zb (Zd hE rfl fun a hE=>Zc hE rfl fun a hE=>Ze (Zb (Zd hE rfl fun a hE=>Ze ?_)))))))
    obtain ⟨j31,hl32,hF33⟩:=bind_some hs27
    refine ZM (fun a w=>Env 61 a [(2,(ptr b1 0)),(3,(ptr b3 0)),(29,vI s26.2)] ∧ M (Old w0) w0 w [raw b3 (cat [[vI 285],enc j5,enc j31,enc (Vector.replicate 16 (0 : UInt8)),[vI p0]]),raw b1 (cat [[vI 0],enc (Vector.replicate 256 (0 : UInt8)),enc (Vector.replicate 4 (Vector.replicate 4 (0 : UInt8))),enc (Vector.replicate 16 (0 : UInt8)),[vI 0]])]) ?_ ?_
    ·skip
     refine wp_block ?_
     refine ZE (fun (s34 : (Vector (Vector UInt8 4) 4) × Int) a w=>Env 61 a [(2,(ptr b1 0)),(3,(ptr b3 0)),(6,vI s26.2),(29,vI s26.2),(32,vI s34.2)] ∧ M (Old w0) w0 w [raw b3 (cat [[vI 285],enc j5,enc s34.1,enc (Vector.replicate 16 (0 : UInt8)),[vI p0]]),raw b1 (cat [[vI 0],enc (Vector.replicate 256 (0 : UInt8)),enc (Vector.replicate 4 (Vector.replicate 4 (0 : UInt8))),enc (Vector.replicate 16 (0 : UInt8)),[vI 0]])]) hl32 ⟨hE.sub ⟨rfl,rfl,rfl,rfl,rfl,trivial⟩,hM⟩ ?_
     rintro s34 a w ⟨hE,hM⟩ o37 hs35 hx36
     unfold W9 at hs35
     refine Zb (Zg hE rfl rfl rfl fun a hE=>Ze (wp_seq ?_))
     refine Zo hE rfl ?_ ?_
     ·intro hb38
      have hs35:=Zs hs35 hb38
      refine wp_skip (Zp (wp_seq (wp_block (Zb (Zd hE rfl fun a hE=>Zc hE rfl fun a hE=>Ze ?_)))))
      obtain ⟨r40,e41,hs35⟩:=bind_some hs35
      obtain ⟨x43,hi42,hs35⟩:=bvx hs35
      obtain ⟨x46,hi45,hs35⟩:=bvx hs35
      refine ZV [35,36,37,38,39,40,41,42,43,44,45] Yq rfl rfl (by decide) rfl hE hM (qsP (fun z=>Zi z.E Za ld rfl (kr0 rfl)) (qsP (fun z=>Zi z.E Za ld rfl (kr0 rfl)) (qsP (fun z=>Zi z.E Za ld rfl (kr0 rfl)) (qsP (fun z=>Zi z.E Za ld rfl (kr0 rfl)) (qsP (v:=(vI (wr (4 + s34.2)))) (fun z=>Yd z.E Za ld rfl rfl rfl (kr0 rfl)) (qsP (v:=(vI (JF s26.2 (wr (4 + s34.2))))) (fun z=>Yd z.E Za ld rfl rfl rfl (kr0 rfl)) (qsP (fun z=>Xb z.E Za ld rfl Tryz.underlying3 Tryz.underlying5 (kr0 rfl)) (qsP (fun z=>Yg z.E Za ld rfl jG (V8 _ 285 (ZG (JF s26.2 (wr (4 + s34.2)))) r40 e41) (kc rfl)) (qsP (fun z=>Zr z.E Za ld rfl (KO) (kr0 rfl)) (qsP (fun z=>ZB z.E Za ld rfl rfl Tryz.underlying160 Xq hi42.1 (kr0 rfl)) (qsP (fun z=>ZB z.E Za ld rfl rfl Tryz.underlying158 ty5 hi45.1 (kr0 rfl)) qs0))))))))))) ?_
      ·intro a w u hE hM
       refine Zn (seg:=[vB r40]) (cs':=cat [[vI 285],enc j5,enc (s34.1.setIfInBounds (s26.2).toNat (x43.setIfInBounds (s34.2).toNat r40)),enc (Vector.replicate 16 (0 : UInt8)),[vI p0]]) hE hM Za rfl rfl rfl ty5 rfl (QU (o':=(s26.2).toNat * 4 + (0 + (s34.2).toNat * 1)) (pre:=[[vI 285],enc j5]) (seg:=enc s34.1) (post:=[enc (Vector.replicate 16 (0 : UInt8)),[vI p0]]) ck (VI (o':=0 + (s34.2).toNat * 1) hi42 (ZN (v:=x43) (x:=r40) hi45.1) (by first | omega | (simp only [Flat.n] <;> omega))) (by first | omega | (simp only [Flat.n] <;> omega))) (Flat.cell (r40 : UInt8)) (Tt (o':=(s26.2).toNat * 4 + (0 + (s34.2).toNat * 1)) (pre:=[[vI 285],enc j5]) (seg:=enc s34.1) (post:=[enc (Vector.replicate 16 (0 : UInt8)),[vI p0]]) ck (VI (o':=0 + (s34.2).toNat * 1) hi42 (ZN (v:=x43) (x:=r40) hi45.1) (by first | omega | (simp only [Flat.n] <;> omega))) (WZ (o':=0 + (s34.2).toNat * 1) hi42 (ZN (v:=x43) (x:=r40) hi45.1) (ZD (v:=x43) (x:=r40) hi45.1) (by first | omega | (simp only [Flat.n] <;> omega))) (by first | omega | (simp only [Flat.n] <;> omega))) fun w a hM hE=>Zf (Yc (Zp (wp_region_lit (Zg hE rfl rfl rfl fun a hE=>Zd hE rfl fun a hE=>Zf (Zh ?_)))))
       exact ⟨_,(ois hs35),hE.sub ⟨rfl,rfl,rfl,rfl,rfl,trivial⟩,hM⟩
     ·intro hb38
      have hs35:=Zt hs35 hb38
      refine wp_exit (Zm (Zm (Yb ?_)))
      obtain rfl:=hx36 _ (ois hs35)
      refine Zh ?_
      exact ⟨hE.sub ⟨rfl,rfl,rfl,trivial⟩,hM⟩
    ·skip
     rintro a w ⟨hE,hM⟩
     refine Yc (Zp (wp_region_lit (Zg hE rfl rfl rfl fun a hE=>Zd hE rfl fun a hE=>Zf (Zh ?_))))
     exact ⟨_,(ois hF33),hE.sub ⟨rfl,rfl,rfl,trivial⟩,hM⟩
   ·intro hb30
    have hs27:=Zt hs27 hb30
    refine wp_exit (Zm (Zm (Yb ?_)))
    obtain rfl:=hx28 _ (ois hs27)
    refine Zh ?_
    exact ⟨hE.sub ⟨rfl,rfl,trivial⟩,hM⟩
  ·skip
   rintro a w ⟨hE,hM⟩
   refine Zp (wp_seq (Zb (Zd hE rfl fun a hE=>Ze ?_)))
   obtain ⟨j50,hl51,hF52⟩:=bind_some hF25
   refine ZM (fun a w=>Env 61 a [(2,(ptr b1 0)),(3,(ptr b3 0))] ∧ M (Old w0) w0 w [raw b3 (cat [[vI 285],enc j5,enc j23,enc j50,[vI p0]]),raw b1 (cat [[vI 0],enc (Vector.replicate 256 (0 : UInt8)),enc (Vector.replicate 4 (Vector.replicate 4 (0 : UInt8))),enc (Vector.replicate 16 (0 : UInt8)),[vI 0]])]) ?_ ?_
   ·skip
    refine wp_block ?_
    refine ZE (fun (s53 : (Vector UInt8 16) × Int) a w=>Env 61 a [(2,(ptr b1 0)),(3,(ptr b3 0)),(48,vI s53.2)] ∧ M (Old w0) w0 w [raw b3 (cat [[vI 285],enc j5,enc j23,enc s53.1,[vI p0]]),raw b1 (cat [[vI 0],enc (Vector.replicate 256 (0 : UInt8)),enc (Vector.replicate 4 (Vector.replicate 4 (0 : UInt8))),enc (Vector.replicate 16 (0 : UInt8)),[vI 0]])]) hl51 ⟨hE.sub ⟨rfl,rfl,rfl,trivial⟩,hM⟩ ?_
    rintro s53 a w ⟨hE,hM⟩ o56 hs54 hx55
    unfold W8 at hs54
    refine Zb (Zg hE rfl rfl rfl fun a hE=>Ze (wp_seq ?_))
    refine Zo hE rfl ?_ ?_
    ·intro hb57
     have hs54:=Zs hs54 hb57
     refine wp_skip (Zp (wp_seq (wp_block (Zb (Zd hE rfl fun a hE=>Zc hE rfl fun a hE=>Ze (wp_region_lit (Zd hE rfl fun a hE=>Zd hE rfl fun a hE=>Zg hE rfl rfl rfl fun a hE=>Zg hE rfl rfl rfl fun a hE=>Zg hE rfl rfl (T8 _ _ (by decide)) fun a hE=>Xb hE Za ld rfl Tryz.underlying3 Tryz.underlying5 fun a hE=>Zw hE rfl (KH) ?_))))))); intro a hE
     obtain ⟨x59,hi58,hs54⟩:=bvx hs54
     refine ZF hE rfl rfl Tryz.underlying161 ty5 hi58.1 fun a hE=>Zn (seg:=[(vB (ZG (Int.tmod (wr ((wr (13 * s53.2)) + 4)) 16)))]) (cs':=cat [[vI 285],enc j5,enc j23,enc (s53.1.setIfInBounds (s53.2).toNat (ZG (Int.tmod (wr ((wr (13 * s53.2)) + 4)) 16))),[vI p0]]) hE hM Za rfl rfl rfl ty5 rfl (QU (o':=0 + (s53.2).toNat * 1) (pre:=[[vI 285],enc j5,enc j23]) (seg:=enc s53.1) (post:=[[vI p0]]) ck (ZN (v:=s53.1) (x:=ZG (Int.tmod (wr ((wr (13 * s53.2)) + 4)) 16)) hi58.1) (by first | omega | (simp only [Flat.n] <;> omega))) (Flat.cell (ZG (Int.tmod (wr ((wr (13 * s53.2)) + 4)) 16) : UInt8)) (Tt (o':=0 + (s53.2).toNat * 1) (pre:=[[vI 285],enc j5,enc j23]) (seg:=enc s53.1) (post:=[[vI p0]]) ck (ZN (v:=s53.1) (x:=ZG (Int.tmod (wr ((wr (13 * s53.2)) + 4)) 16)) hi58.1) (ZD (v:=s53.1) (x:=ZG (Int.tmod (wr ((wr (13 * s53.2)) + 4)) 16)) hi58.1) (by first | omega | (simp only [Flat.n] <;> omega))) fun w a hM hE=>Zf (Yc (Zp (wp_region_lit (Zg hE rfl rfl rfl fun a hE=>Zd hE rfl fun a hE=>Zf (Zh ?_)))))
     exact ⟨_,(ois hs54),hE.sub ⟨rfl,rfl,rfl,trivial⟩,hM⟩
    ·intro hb57
     have hs54:=Zt hs54 hb57
     refine wp_exit (Zm (Zm (Yb ?_)))
     obtain rfl:=hx55 _ (ois hs54)
     refine Zh ?_
     exact ⟨hE.sub ⟨rfl,rfl,trivial⟩,hM⟩
   ·skip
    rintro a w ⟨hE,hM⟩
    refine Zp (Zb (Zq hE rfl V7 rfl hM.rawAt0 cq ?_)); intro a hE
    have hM:=hM.pull1
    refine Zn (seg:=cat [[(vI ((⟨285,j5,j23,j50,p0⟩ : GCipher).Field))],enc ((⟨285,j5,j23,j50,p0⟩ : GCipher).Box),enc ((⟨285,j5,j23,j50,p0⟩ : GCipher).Mix),enc ((⟨285,j5,j23,j50,p0⟩ : GCipher).Places),[(vI ((⟨285,j5,j23,j50,p0⟩ : GCipher).Rounds))]]) (cs':=cat [[(vI ((⟨285,j5,j23,j50,p0⟩ : GCipher).Field))],enc ((⟨285,j5,j23,j50,p0⟩ : GCipher).Box),enc ((⟨285,j5,j23,j50,p0⟩ : GCipher).Mix),enc ((⟨285,j5,j23,j50,p0⟩ : GCipher).Places),[(vI ((⟨285,j5,j23,j50,p0⟩ : GCipher).Rounds))]]) hE hM Za rfl rfl rfl V7 cq (Nat.le_of_eq ((Nat.zero_add _).trans (Eq.trans cq (Eq.symm cq)))) (YC (cc1 (Flat.cell ((⟨285,j5,j23,j50,p0⟩ : GCipher).Field : Int)) (cc1 (Flat.cell _) (cc1 (Flat.cell _) (cc1 (Flat.cell _) (cc1 (Flat.cell ((⟨285,j5,j23,j50,p0⟩ : GCipher).Rounds : Int)) cc0)))))) (Zk (Eq.trans cq (Eq.symm cq))) fun w a hM hE=>Ze ?_
    obtain rfl:=Option.some.inj hF52
    have hq62 : Yz Tryz.prog _ _ (.cell 2 163) _:=ZS hE rfl V7 rfl hM.rawAt0 cq rfl
    exact wp_ret (ZP hE rfl hq62 ⟨_,rfl,rfl,hM.kept⟩)
def UW (s8 : (Vector (Vector UInt8 4) 4) × Int) : Option (Fl ((Vector (Vector UInt8 4) 4) × Int) (Vector (Vector UInt8 4) 4)) :=
 if (decide (s8.2 < 4)) = true then ((ZI s8.1 s8.2).bind fun x14=>(ZI x14 s8.2).bind fun x17=>some (Fl.nx ((s8.1.setIfInBounds (s8.2).toNat (x14.setIfInBounds (s8.2).toNat 1)),wr (s8.2 + 1)))) else (some (Fl.ex s8.1))
def WX : Option ((Vector (Vector UInt8 4) 4)) :=
 (Zz (UW) ((Vector.replicate 4 (Vector.replicate 4 (0 : UInt8))),0)).bind fun j5=>some j5
theorem KX (w0 : World)  (r : (Vector (Vector UInt8 4) 4)) (hF : WX  = some r) :
  Calls Tryz.prog 232 [].toArray w0 (Rt w0 (Value.agg (enc r).toArray)):=by
 refine ce Tryz.func232 ?_
 intro a hE
 have hM:=M.start w0
 unfold WX at hF
 refine Zb (ZC hE hM Uc fun b1 w a hM hE=>Ze (Zb (XP (parts:=[]) (vs:=[]) (cs:=enc (Vector.replicate 4 (Vector.replicate 4 (0 : UInt8)))) hE Za ld rfl rfl Uc rfl Xq Y1 fun a hE=>ZC hE hM Uc fun b3 w a hM hE=>Zn (seg:=enc (Vector.replicate 4 (Vector.replicate 4 (0 : UInt8)))) (cs':=enc (Vector.replicate 4 (Vector.replicate 4 (0 : UInt8)))) hE hM Za rfl rfl rfl Uc (Flat.len _) (zle flq) (Flat.cell _) (Zk flq) fun w a hM hE=>Ze (wp_seq (Zb (Zd hE rfl fun a hE=>Ze ?_))))))
 obtain ⟨j5,hl6,hF7⟩:=bind_some hF
 refine ZM (fun a w=>Env 13 a [(0,(ptr b1 0)),(1,(ptr b3 0))] ∧ M (Old w0) w0 w [raw b3 (enc j5),raw b1 (enc (Vector.replicate 4 (Vector.replicate 4 (0 : UInt8))))]) ?_ ?_
 ·skip
  refine wp_block ?_
  refine ZE (fun (s8 : (Vector (Vector UInt8 4) 4) × Int) a w=>Env 13 a [(0,(ptr b1 0)),(1,(ptr b3 0)),(4,vI s8.2)] ∧ M (Old w0) w0 w [raw b3 (enc s8.1),raw b1 (enc (Vector.replicate 4 (Vector.replicate 4 (0 : UInt8))))]) hl6 ⟨hE.sub ⟨rfl,rfl,rfl,trivial⟩,hM⟩ ?_
  rintro s8 a w ⟨hE,hM⟩ o11 hs9 hx10
  unfold UW at hs9
  refine Zb (Zg hE rfl rfl rfl fun a hE=>Ze (wp_seq ?_))
  refine Zo hE rfl ?_ ?_
  ·intro hb12
   have hs9:=Zs hs9 hb12
   refine wp_skip (Zp (wp_seq (wp_block (Zb (Zd hE rfl fun a hE=>Zc hE rfl fun a hE=>Ze (wp_region_lit (Zd hE rfl fun a hE=>Zd hE rfl ?_))))))); intro a hE
   obtain ⟨x14,hi13,hs9⟩:=bvx hs9
   refine ZF hE rfl rfl Tryz.underlying160 Xq hi13.1 ?_; intro a hE
   obtain ⟨x17,hi16,hs9⟩:=bvx hs9
   refine ZF hE rfl rfl Tryz.underlying158 ty5 hi16.1 fun a hE=>Zn (seg:=[vB 1]) (cs':=enc (s8.1.setIfInBounds (s8.2).toNat (x14.setIfInBounds (s8.2).toNat 1))) hE hM Za rfl rfl rfl ty5 rfl (VI (o':=0 + (s8.2).toNat * 1) hi13 (ZN (v:=x14) (x:=1) hi16.1) (by first | omega | (simp only [Flat.n] <;> omega))) (Flat.cell (1 : UInt8)) (WZ (o':=0 + (s8.2).toNat * 1) hi13 (ZN (v:=x14) (x:=1) hi16.1) (ZD (v:=x14) (x:=1) hi16.1) (by first | omega | (simp only [Flat.n] <;> omega))) fun w a hM hE=>Zf (Yc (Zp (wp_region_lit (Zg hE rfl rfl rfl fun a hE=>Zd hE rfl fun a hE=>Zf (Zh ?_)))))
   exact ⟨_,(ois hs9),hE.sub ⟨rfl,rfl,rfl,trivial⟩,hM⟩
  ·intro hb12
   have hs9:=Zt hs9 hb12
   refine wp_exit (Zm (Zm (Yb ?_)))
   obtain rfl:=hx10 _ (ois hs9)
   refine Zh ?_
   exact ⟨hE.sub ⟨rfl,rfl,trivial⟩,hM⟩
 ·skip
  rintro a w ⟨hE,hM⟩
  refine Zp (Zb (Zq hE rfl Uc rfl hM.rawAt0 (Flat.len _) ?_)); intro a hE
  have hM:=hM.pull1
  refine Zn (seg:=enc j5) (cs':=enc j5) hE hM Za rfl rfl rfl Uc (Flat.len _) (zle flq) (Flat.cell _) (Zk flq) fun w a hM hE=>Ze ?_
  obtain rfl:=Option.some.inj hF7
  have hq20 : Yz Tryz.prog _ _ (.cell 0 160) _:=ZS hE rfl Uc rfl hM.rawAt0 (Flat.len _) rfl
  exact wp_ret (ZP hE rfl hq20 ⟨_,rfl,rfl,hM.kept⟩)
def Ug (s13 : (Vector (Vector UInt8 4) 4) × (Vector (Vector UInt8 4) 4) × Int × UInt8) (s21 : Int) : Option (Fl Int Int) :=
 (if (decide (s21 < 4)) = true then ((ZI s13.1 s21).bind fun x30=>(ZI x30 s13.2.2.1).bind fun x33=>some (x33 == 0)) else (some false) : Option (Bool)).bind fun j25=>if j25 = true then (some (Fl.nx (wr (s21 + 1)))) else (some (Fl.ex s21))
def XK (p0 : Int) (s13 : (Vector (Vector UInt8 4) 4) × (Vector (Vector UInt8 4) 4) × Int × UInt8) (r90 : UInt8) (s95 : (Vector (Vector UInt8 4) 4) × (Vector (Vector UInt8 4) 4) × Int) : Option (Fl ((Vector (Vector UInt8 4) 4) × (Vector (Vector UInt8 4) 4) × Int) ((Vector (Vector UInt8 4) 4) × (Vector (Vector UInt8 4) 4))) :=
 if (decide (s95.2.2 < 4)) = true then ((ZI s95.1 s13.2.2.1).bind fun x102=>(ZI x102 s95.2.2).bind fun x105=>(Z1 p0 x105 r90).bind fun r107=>(ZI s95.2.1 s13.2.2.1).bind fun x110=>(ZI x110 s95.2.2).bind fun x113=>(Z1 p0 x113 r90).bind fun r115=>(ZI s95.1 s13.2.2.1).bind fun x118=>(ZI x118 s95.2.2).bind fun x121=>(ZI s95.2.1 s13.2.2.1).bind fun x124=>(ZI x124 s95.2.2).bind fun x127=>some (Fl.nx ((s95.1.setIfInBounds (s13.2.2.1).toNat (x118.setIfInBounds (s95.2.2).toNat r107)),(s95.2.1.setIfInBounds (s13.2.2.1).toNat (x124.setIfInBounds (s95.2.2).toNat r115)),wr (s95.2.2 + 1)))) else (some (Fl.ex (s95.1,s95.2.1)))
def XJ (p0 : Int) (s13 : (Vector (Vector UInt8 4) 4) × (Vector (Vector UInt8 4) 4) × Int × UInt8) (s133 : (Vector (Vector UInt8 4) 4) × (Vector (Vector UInt8 4) 4) × Int) (x145 : UInt8) (s160 : (Vector (Vector UInt8 4) 4) × (Vector (Vector UInt8 4) 4) × Int) : Option (Fl ((Vector (Vector UInt8 4) 4) × (Vector (Vector UInt8 4) 4) × Int) ((Vector (Vector UInt8 4) 4) × (Vector (Vector UInt8 4) 4))) :=
 if (decide (s160.2.2 < 4)) = true then (((ZI s160.1 s133.2.2).bind fun x170=>(ZI x170 s160.2.2).bind fun x173=>(ZI s160.1 s13.2.2.1).bind fun x176=>(ZI x176 s160.2.2).bind fun x179=>(Z1 p0 x145 x179).bind fun r181=>(ZI s160.1 s133.2.2).bind fun x184=>(ZI x184 s160.2.2).bind fun x187=>some (s160.1.setIfInBounds (s133.2.2).toNat (x184.setIfInBounds (s160.2.2).toNat (x173 ^^^ r181))) : Option ((Vector (Vector UInt8 4) 4))).bind fun j165=>(ZI s160.2.1 s133.2.2).bind fun x192=>(ZI x192 s160.2.2).bind fun x195=>(ZI s160.2.1 s13.2.2.1).bind fun x198=>(ZI x198 s160.2.2).bind fun x201=>(Z1 p0 x145 x201).bind fun r203=>(ZI s160.2.1 s133.2.2).bind fun x206=>(ZI x206 s160.2.2).bind fun x209=>some (Fl.nx (j165,(s160.2.1.setIfInBounds (s133.2.2).toNat (x206.setIfInBounds (s160.2.2).toNat (x195 ^^^ r203))),wr (s160.2.2 + 1)))) else (some (Fl.ex (s160.1,s160.2.1)))
def XN (p0 : Int) (s13 : (Vector (Vector UInt8 4) 4) × (Vector (Vector UInt8 4) 4) × Int × UInt8) (s133 : (Vector (Vector UInt8 4) 4) × (Vector (Vector UInt8 4) 4) × Int) : Option (Fl ((Vector (Vector UInt8 4) 4) × (Vector (Vector UInt8 4) 4) × Int) ((Vector (Vector UInt8 4) 4) × (Vector (Vector UInt8 4) 4))) :=
 if (decide (s133.2.2 < 4)) = true then (((ZI s133.1 s133.2.2).bind fun x142=>(ZI x142 s13.2.2.1).bind fun x145=>(if (s133.2.2 != s13.2.2.1) = true then (some (x145 != 0)) else (some false) : Option (Bool)).bind fun j147=>(if j147 = true then ((Zz (XJ p0 s13 s133 x145) (s133.1,s133.2.1,0)).bind fun j157=>some (j157.1,j157.2)) else (some (s133.1,s133.2.1)) : Option ((Vector (Vector UInt8 4) 4) × (Vector (Vector UInt8 4) 4))).bind fun j153=>some (j153.1,j153.2) : Option ((Vector (Vector UInt8 4) 4) × (Vector (Vector UInt8 4) 4))).bind fun j138=>some (Fl.nx (j138.1,j138.2,wr (s133.2.2 + 1)))) else (some (Fl.ex (s133.1,s133.2.1)))
def YE (p0 : Int) (s13 : (Vector (Vector UInt8 4) 4) × (Vector (Vector UInt8 4) 4) × Int × UInt8) : Option (Fl ((Vector (Vector UInt8 4) 4) × (Vector (Vector UInt8 4) 4) × Int × UInt8) (Fl ((Vector (Vector UInt8 4) 4) × UInt8) (UInt8 × (Vector (Vector UInt8 4) 4)))) :=
 if (decide (s13.2.2.1 < 4)) = true then ((Zz (Ug s13) s13.2.2.1).bind fun j18=>if (j18 == 4) = true then (some (Fl.ex (Fl.ex (0,(Vector.replicate 4 (Vector.replicate 4 (0 : UInt8))))))) else (((ZI s13.1 s13.2.2.1).bind fun x47=>(ZI s13.1 j18).bind fun x50=>(ZI s13.1 j18).bind fun x53=>(ZI (s13.1.setIfInBounds (j18).toNat x47) s13.2.2.1).bind fun x56=>some ((s13.1.setIfInBounds (j18).toNat x47).setIfInBounds (s13.2.2.1).toNat x50) : Option ((Vector (Vector UInt8 4) 4))).bind fun j42=>((ZI s13.2.1 s13.2.2.1).bind fun x64=>(ZI s13.2.1 j18).bind fun x67=>(ZI s13.2.1 j18).bind fun x70=>(ZI (s13.2.1.setIfInBounds (j18).toNat x64) s13.2.2.1).bind fun x73=>some ((s13.2.1.setIfInBounds (j18).toNat x64).setIfInBounds (s13.2.2.1).toNat x67) : Option ((Vector (Vector UInt8 4) 4))).bind fun j59=>(ZI j42 s13.2.2.1).bind fun x77=>(ZI x77 s13.2.2.1).bind fun x80=>(Z1 p0 s13.2.2.2 x80).bind fun r82=>(ZI j42 s13.2.2.1).bind fun x85=>(ZI x85 s13.2.2.1).bind fun x88=>(Yf p0 x88).bind fun r90=>(Zz (XK p0 s13 r90) (j42,j59,0)).bind fun j92=>(Zz (XN p0 s13) (j92.1,j92.2,0)).bind fun j130=>some (Fl.nx (j130.1,j130.2,wr (s13.2.2.1 + 1),r82)))) else (some (Fl.ex (Fl.nx (s13.2.1,s13.2.2.2))))
def Xi (p0 : Int) (p1 : (Vector (Vector UInt8 4) 4)) : Option (UInt8 × (Vector (Vector UInt8 4) 4)) :=
 (WX).bind fun r5=>(Zz (YE p0) (p1,r5,0,1)).bind fun j9=>j9.el (fun s12=>(some (s12.1,s12.2) : Option ((Vector (Vector UInt8 4) 4) × UInt8)).bind fun j217=>some (j217.2,j217.1)) (fun r=>some r)
theorem Q9 (w0 : World) (p0 : Int) (p1 : (Vector (Vector UInt8 4) 4)) (r : UInt8 × (Vector (Vector UInt8 4) 4)) (hF : Xi p0 p1 = some r) :
  Calls Tryz.prog 211 [vI p0,(Value.agg (enc p1).toArray)].toArray w0 (Rt w0 (Value.tuple [vB r.1,(Value.agg (enc r.2).toArray)].toArray)):=by
 refine ce Tryz.func211 ?_
 intro a hE
 have hM:=M.start w0
 unfold Xi at hF
 refine Zb (ZZ (cs:=enc p1) hE hM Za ld rfl rfl fun b1 w a hM hE=>Zc hE rfl fun a hE=>ZC hE hM Uc fun b3 w a hM hE=>Ze (Zb ?_))
 obtain ⟨r5,e6,hF⟩:=bind_some hF
 refine Zy hE rfl (cbm Tryz.func232) (KX _  r5 e6) ?_
 rintro v w a ⟨rfl,hK⟩ hE
 have hM:=hM.keep hK
 refine ZC hE hM Uc fun b7 w a hM hE=>Zn (seg:=enc r5) (cs':=enc r5) hE hM Za rfl rfl rfl Uc (Flat.len _) (zle flq) (Flat.cell _) (Zk flq) fun w a hM hE=>Zc hE rfl fun a hE=>Ze (wp_seq (Zb (Zd hE rfl fun a hE=>Ze ?_)))
 obtain ⟨j9,hl10,hF11⟩:=bind_some hF
 refine ZM (fun a w=>∃ s12 : (Vector (Vector UInt8 4) 4) × UInt8,j9 = Fl.nx s12 ∧ Env 153 a [(5,(ptr b3 0)),(6,(ptr b7 0)),(7,vB s12.2)] ∧ M (Old w0) w0 w [raw b7 (enc s12.1),raw b3 (enc (Vector.replicate 4 (Vector.replicate 4 (0 : UInt8))))]) ?_ ?_
 ·skip
  refine wp_block ?_
  refine ZE (fun (s13 : (Vector (Vector UInt8 4) 4) × (Vector (Vector UInt8 4) 4) × Int × UInt8) a w=>Env 153 a [(0,vI p0),(3,(ptr b1 0)),(5,(ptr b3 0)),(6,(ptr b7 0)),(7,vB s13.2.2.2),(16,vI s13.2.2.1)] ∧ M (Old w0) w0 w [raw b7 (enc s13.2.1),raw b3 (enc (Vector.replicate 4 (Vector.replicate 4 (0 : UInt8)))),raw b1 (enc s13.1)]) hl10 ⟨hE.sub ⟨rfl,rfl,rfl,rfl,rfl,rfl,trivial⟩,hM⟩ ?_
  rintro s13 a w ⟨hE,hM⟩ o16 hs14 hx15
  unfold YE at hs14
  refine Zb (Zg hE rfl rfl rfl fun a hE=>Ze (wp_seq ?_))
  refine Zo hE rfl ?_ ?_
  ·intro hb17
   have hs14:=Zs hs14 hb17
   refine wp_skip (Zp (wp_seq (wp_block (Zb (Zd hE rfl fun a hE=>Zc hE rfl fun a hE=>Ze (Zb (Zd hE rfl fun a hE=>Zc hE rfl fun a hE=>Ze ?_)))))))
   obtain ⟨j18,hl19,hF20⟩:=bind_some hs14
   refine ZK (fun a w=>Env 153 a [(0,vI p0),(3,(ptr b1 0)),(5,(ptr b3 0)),(6,(ptr b7 0)),(7,vB s13.2.2.2),(8,vI s13.2.2.1),(9,vI j18),(16,vI s13.2.2.1)] ∧ M (Old w0) w0 w [raw b7 (enc s13.2.1),raw b3 (enc (Vector.replicate 4 (Vector.replicate 4 (0 : UInt8)))),raw b1 (enc s13.1)]) ?_ ?_
   ·skip
    refine wp_block ?_
    refine ZE (fun (s21 : Int) a w=>Env 153 a [(0,vI p0),(3,(ptr b1 0)),(5,(ptr b3 0)),(6,(ptr b7 0)),(7,vB s13.2.2.2),(8,vI s13.2.2.1),(9,vI s21),(16,vI s13.2.2.1)] ∧ M (Old w0) w0 w [raw b7 (enc s13.2.1),raw b3 (enc (Vector.replicate 4 (Vector.replicate 4 (0 : UInt8)))),raw b1 (enc s13.1)]) hl19 ⟨hE.sub ⟨rfl,rfl,rfl,rfl,rfl,rfl,rfl,rfl,trivial⟩,hM⟩ ?_
    rintro s21 a w ⟨hE,hM⟩ o24 hs22 hx23
    unfold Ug at hs22
    refine wp_seq ?_
    obtain ⟨j25,hl26,hF27⟩:=bind_some hs22
    refine ZK (fun a w=>Env 153 a [(0,vI p0),(3,(ptr b1 0)),(5,(ptr b3 0)),(6,(ptr b7 0)),(7,vB s13.2.2.2),(8,vI s13.2.2.1),(9,vI s21),(16,vI s13.2.2.1),(29,vT j25)] ∧ M (Old w0) w0 w [raw b7 (enc s13.2.1),raw b3 (enc (Vector.replicate 4 (Vector.replicate 4 (0 : UInt8)))),raw b1 (enc s13.1)]) ?_ ?_
    ·skip
     refine wp_region_lit (Zd hE rfl fun a hE=>Zg hE rfl rfl rfl fun a hE=>Zd hE rfl ?_); intro a hE
     refine Vs (decide (s21 < 4)) (fun hb28=>?_) (fun hb28=>?_)
     ·have hl26:=Zs hl26 hb28
      refine Zi hE (Zj hE rfl (lkb rfl hb28)) (by decide) rfl fun a hE=>Zi hE (Zj hE rfl (lkb rfl hb28)) (by decide) rfl ?_; intro a hE
      obtain ⟨x30,hi29,hl26⟩:=bvx hl26
      refine ZB hE (Zj hE rfl (lkb rfl hb28)) (by decide) rfl rfl Tryz.underlying160 Xq hi29.1 ?_; intro a hE
      obtain ⟨x33,hi32,hl26⟩:=bvx hl26
      refine ZB hE (Zj hE rfl (lkb rfl hb28)) (by decide) rfl rfl Tryz.underlying158 ty5 hi32.1 fun a hE=>ZL (v:=(vB x33)) hE (Zj hE rfl (lkb rfl hb28)) (by decide) rfl ty5 rfl (At.vec (At.vec hM.rawAt2 hi29.2) hi32.2) fun a hE=>Yd hE (Zj hE rfl (lkb rfl hb28)) (by decide) rfl rfl (kJ x33 0) fun a hE=>Xr hE (lkb rfl hb28) rfl fun a hE=>Zf ?_
      obtain rfl:=Option.some.inj hl26
      refine Zh ?_
      exact ⟨hE.sub ⟨rfl,rfl,rfl,rfl,rfl,rfl,rfl,rfl,rfl,trivial⟩,hM⟩
     ·have hl26:=Zt hl26 hb28
      refine Zl hE rfl (lkb rfl hb28) rfl (by decide) fun a hE=>Zl hE rfl (lkb rfl hb28) rfl (by decide) fun a hE=>Zl hE rfl (lkb rfl hb28) rfl (by decide) fun a hE=>Zl hE rfl (lkb rfl hb28) rfl (by decide) fun a hE=>Zl hE rfl (lkb rfl hb28) rfl (by decide) fun a hE=>Zl hE rfl (lkb rfl hb28) rfl (by decide) fun a hE=>VX hE (lkb rfl hb28) rfl fun a hE=>Zf ?_
      obtain rfl:=Option.some.inj hl26
      refine Zh ?_
      exact ⟨hE.sub ⟨rfl,rfl,rfl,rfl,rfl,rfl,rfl,rfl,rfl,trivial⟩,hM⟩
    ·skip
     rintro a w ⟨hE,hM⟩
     refine Zo hE rfl ?_ ?_
     ·intro hb37
      have hF27:=Zs hF27 hb37
      refine wp_skip (Zp (wp_block (wp_region_lit (Zd hE rfl fun a hE=>Zg hE rfl rfl rfl fun a hE=>Zc hE rfl fun a hE=>Zf (Yc (Zh ?_))))))
      exact ⟨_,(ois hF27),hE.sub ⟨rfl,rfl,rfl,rfl,rfl,rfl,rfl,rfl,trivial⟩,hM⟩
     ·intro hb37
      have hF27:=Zt hF27 hb37
      refine wp_exit (Zm (Zm (Yb ?_)))
      obtain rfl:=hx23 _ (ois hF27)
      refine Zh ?_
      exact ⟨hE.sub ⟨rfl,rfl,rfl,rfl,rfl,rfl,rfl,rfl,trivial⟩,hM⟩
   ·skip
    rintro a w ⟨hE,hM⟩
    refine wp_seq (Zb (Zd hE rfl fun a hE=>Zg hE rfl rfl rfl fun a hE=>Ze ?_))
    refine Zo hE rfl ?_ ?_
    ·intro hb39
     have hF20:=Zs hF20 hb39
     refine Zb (XP (parts:=[]) (vs:=[]) (cs:=enc (Vector.replicate 4 (Vector.replicate 4 (0 : UInt8)))) hE Za ld rfl rfl Uc rfl Xq Y1 fun a hE=>Zc hE rfl ?_); intro a hE
     have hM:=hM.pull1
     refine Zn (seg:=enc (Vector.replicate 4 (Vector.replicate 4 (0 : UInt8)))) (cs':=enc (Vector.replicate 4 (Vector.replicate 4 (0 : UInt8)))) hE hM Za rfl rfl rfl Uc (Flat.len _) (zle flq) (Flat.cell _) (Zk flq) fun w a hM hE=>Ze ?_
     obtain rfl:=hx15 _ (ois hF20)
     obtain rfl:=Option.some.inj hF11
     have hq41 : Yz Tryz.prog _ _ (.cell 5 160) _:=ZS hE rfl Uc rfl hM.rawAt0 (Flat.len _) rfl
     exact wp_ret (Zx (XW (Zx (Zx (XW (Zx (Zx (To hE rfl (ZR hE rfl) hq41 ⟨_,rfl,rfl,hM.kept⟩))))))))
    ·intro hb39
     have hF20:=Zt hF20 hb39
     refine wp_skip (Zp ?_)
     obtain ⟨j42,hl43,hF44⟩:=bind_some hF20
     refine ZK (fun a w=>Env 153 a [(0,vI p0),(3,(ptr b1 0)),(5,(ptr b3 0)),(6,(ptr b7 0)),(7,vB s13.2.2.2),(8,vI s13.2.2.1),(9,vI j18),(16,vI s13.2.2.1)] ∧ M (Old w0) w0 w [raw b7 (enc s13.2.1),raw b3 (enc (Vector.replicate 4 (Vector.replicate 4 (0 : UInt8)))),raw b1 (enc j42)]) ?_ ?_
     ·skip
      have hM:=hM.pull2
      obtain ⟨x47,hi46,hl43⟩:=bvx hl43
      obtain ⟨x50,hi49,hl43⟩:=bvx hl43
      obtain ⟨x53,hi52,hl43⟩:=bvx hl43
      refine Yv (its:=[raw b7 (enc s13.2.1),raw b3 (enc (Vector.replicate 4 (Vector.replicate 4 (0 : UInt8))))]) (mk:=([mkT 9 (raw b1 (enc s13.1)) (raw b1 (enc (s13.1.setIfInBounds (j18).toNat x47)))] : Mk)) [35,36,37,38,39,40,41,42,43,162] Yq rfl rfl (by decide) rfl hE (fun u=>M.qT (M.q0 hM.drew u)) (qsP (fun z=>Zi z.E Za ld rfl (kr0 rfl)) (qsP (fun z=>Zi z.E Za ld rfl (kr0 rfl)) (qsP (fun z=>Zi z.E Za ld rfl (kr0 rfl)) (qsP (fun z=>ZB z.E Za ld rfl rfl Tryz.underlying160 Xq hi46.1 (kr0 rfl)) (qsP (v:=(Value.agg (enc x47).toArray)) ?_ (qsP (fun z=>Zi z.E Za ld rfl (kr0 rfl)) (qsP (fun z=>ZB z.E Za ld rfl rfl Tryz.underlying160 Xq hi49.1 (kr0 rfl)) (qsP (v:=(Value.agg (enc x50).toArray)) ?_ (qsP (fun z=>ZB z.E Za ld rfl rfl Tryz.underlying160 Xq hi52.1 (kr0 rfl)) (qsM (pr:=fun v=>True) ?_ qs0)))))))))) ?_
      ·intro a w ux45 D z
       have hE:=z.E
       have hD : D 4 = false:=z.F
       have hM:=z.M.togA (pre:=[_,_]) (QE (j:=9) (k:=1) z.c rfl rfl rfl hD)
       exact Zq hE rfl Xq rfl (At.vec hM.rawAt2 hi46.2) (Flat.len _) fun a hE=>⟨Kept.refl _ _,_,rfl,hE⟩
      ·intro a w ux45 D z
       have hE:=z.E
       have hD : D 7 = false:=z.F
       have hM:=z.M.togA (pre:=[_,_]) (QE (j:=9) (k:=9) z.c rfl rfl rfl hD)
       exact Zq hE rfl Xq rfl (At.vec hM.rawAt2 hi49.2) (Flat.len _) fun a hE=>⟨Kept.refl _ _,_,rfl,hE⟩
      ·intro a w ux45 D z
       have hE:=z.E
       have hD : D 9 = false:=z.F
       have hM:=(z.M.togA (pre:=[_,_]) hD).pull2
       exact Zn (seg:=enc x47) (cs':=enc (s13.1.setIfInBounds (j18).toNat x47)) hE hM Za rfl rfl rfl Xq (Flat.len _) (ZN (v:=s13.1) (x:=x47) hi52.1) (Flat.cell _) (ZD (v:=s13.1) (x:=x47) hi52.1) fun w a hM hE=>⟨undef,_,rfl,Env.dummy hE (by decide),M.qTog (mk1:=[]) (mk2:=[]) hM rfl,trivial⟩
      ·intro a w ux45 D hE hM hG hall
       have d9:=hall 9 (by decide)
       have hM:=hM.togB (pre:=[_,_]) d9
       obtain ⟨x56,hi55,hl43⟩:=bvx hl43
       refine ZF hE rfl rfl Tryz.underlying160 Xq hi55.1 ?_; intro a hE
       have hM:=hM.pull2
       refine Zn (seg:=enc x50) (cs':=enc ((s13.1.setIfInBounds (j18).toNat x47).setIfInBounds (s13.2.2.1).toNat x50)) hE hM Za rfl rfl rfl Xq (Flat.len _) (ZN (v:=(s13.1.setIfInBounds (j18).toNat x47)) (x:=x50) hi55.1) (Flat.cell _) (ZD (v:=(s13.1.setIfInBounds (j18).toNat x47)) (x:=x50) hi55.1) fun w a hM hE=>Zf ?_
       obtain rfl:=Option.some.inj hl43
       refine Zh ?_
       have hM:=hM.pull2.pull2
       exact ⟨hE.sub ⟨rfl,rfl,rfl,rfl,rfl,rfl,rfl,rfl,trivial⟩,hM⟩
     ·skip
      rintro a w ⟨hE,hM⟩
      obtain ⟨j59,hl60,hF61⟩:=bind_some hF44
      refine ZK (fun a w=>Env 153 a [(0,vI p0),(3,(ptr b1 0)),(5,(ptr b3 0)),(6,(ptr b7 0)),(7,vB s13.2.2.2),(8,vI s13.2.2.1),(16,vI s13.2.2.1)] ∧ M (Old w0) w0 w [raw b7 (enc j59),raw b3 (enc (Vector.replicate 4 (Vector.replicate 4 (0 : UInt8)))),raw b1 (enc j42)]) ?_ ?_
      ·skip
       obtain ⟨x64,hi63,hl60⟩:=bvx hl60
       obtain ⟨x67,hi66,hl60⟩:=bvx hl60
       obtain ⟨x70,hi69,hl60⟩:=bvx hl60
       refine Yv (its:=[raw b3 (enc (Vector.replicate 4 (Vector.replicate 4 (0 : UInt8)))),raw b1 (enc j42)]) (mk:=([mkT 9 (raw b7 (enc s13.2.1)) (raw b7 (enc (s13.2.1.setIfInBounds (j18).toNat x64)))] : Mk)) [45,46,47,48,49,50,51,52,53,162] Yq rfl rfl (by decide) rfl hE (fun u=>M.qT (M.q0 hM.drew u)) (qsP (fun z=>Zi z.E Za ld rfl (kr0 rfl)) (qsP (fun z=>Zi z.E Za ld rfl (kr0 rfl)) (qsP (fun z=>Zi z.E Za ld rfl (kr0 rfl)) (qsP (fun z=>ZB z.E Za ld rfl rfl Tryz.underlying160 Xq hi63.1 (kr0 rfl)) (qsP (v:=(Value.agg (enc x64).toArray)) ?_ (qsP (fun z=>Zi z.E Za ld rfl (kr0 rfl)) (qsP (fun z=>ZB z.E Za ld rfl rfl Tryz.underlying160 Xq hi66.1 (kr0 rfl)) (qsP (v:=(Value.agg (enc x67).toArray)) ?_ (qsP (fun z=>ZB z.E Za ld rfl rfl Tryz.underlying160 Xq hi69.1 (kr0 rfl)) (qsM (pr:=fun v=>True) ?_ qs0)))))))))) ?_
       ·intro a w ux62 D z
        have hE:=z.E
        have hD : D 4 = false:=z.F
        have hM:=z.M.togA (pre:=[_,_]) (QE (j:=9) (k:=1) z.c rfl rfl rfl hD)
        exact Zq hE rfl Xq rfl (At.vec hM.rawAt2 hi63.2) (Flat.len _) fun a hE=>⟨Kept.refl _ _,_,rfl,hE⟩
       ·intro a w ux62 D z
        have hE:=z.E
        have hD : D 7 = false:=z.F
        have hM:=z.M.togA (pre:=[_,_]) (QE (j:=9) (k:=9) z.c rfl rfl rfl hD)
        exact Zq hE rfl Xq rfl (At.vec hM.rawAt2 hi66.2) (Flat.len _) fun a hE=>⟨Kept.refl _ _,_,rfl,hE⟩
       ·intro a w ux62 D z
        have hE:=z.E
        have hD : D 9 = false:=z.F
        have hM:=(z.M.togA (pre:=[_,_]) hD).pull2
        exact Zn (seg:=enc x64) (cs':=enc (s13.2.1.setIfInBounds (j18).toNat x64)) hE hM Za rfl rfl rfl Xq (Flat.len _) (ZN (v:=s13.2.1) (x:=x64) hi69.1) (Flat.cell _) (ZD (v:=s13.2.1) (x:=x64) hi69.1) fun w a hM hE=>⟨undef,_,rfl,Env.dummy hE (by decide),M.qTog (mk1:=[]) (mk2:=[]) hM rfl,trivial⟩
       ·intro a w ux62 D hE hM hG hall
        have d9:=hall 9 (by decide)
        have hM:=hM.togB (pre:=[_,_]) d9
        obtain ⟨x73,hi72,hl60⟩:=bvx hl60
        refine ZF hE rfl rfl Tryz.underlying160 Xq hi72.1 ?_; intro a hE
        have hM:=hM.pull2
        refine Zn (seg:=enc x67) (cs':=enc ((s13.2.1.setIfInBounds (j18).toNat x64).setIfInBounds (s13.2.2.1).toNat x67)) hE hM Za rfl rfl rfl Xq (Flat.len _) (ZN (v:=(s13.2.1.setIfInBounds (j18).toNat x64)) (x:=x67) hi72.1) (Flat.cell _) (ZD (v:=(s13.2.1.setIfInBounds (j18).toNat x64)) (x:=x67) hi72.1) fun w a hM hE=>Zf ?_
        obtain rfl:=Option.some.inj hl60
        refine Zh ?_
        exact ⟨hE.sub ⟨rfl,rfl,rfl,rfl,rfl,rfl,rfl,trivial⟩,hM⟩
      ·skip
       rintro a w ⟨hE,hM⟩
       refine Zb (Zd hE rfl fun a hE=>Zd hE rfl fun a hE=>Zd hE rfl fun a hE=>Zd hE rfl ?_); intro a hE
       obtain ⟨x77,hi76,hF61⟩:=bvx hF61
       refine ZF hE rfl rfl Tryz.underlying160 Xq hi76.1 ?_; intro a hE
       obtain ⟨x80,hi79,hF61⟩:=bvx hF61
       refine ZF hE rfl rfl Tryz.underlying158 ty5 hi79.1 fun a hE=>ZA (v:=(vB x80)) hE rfl ty5 rfl (At.vec (At.vec hM.rawAt2 hi76.2) hi79.2) ?_; intro a hE
       obtain ⟨r82,e83,hF61⟩:=bind_some hF61
       refine Zy hE rfl JQ (YB _ p0 s13.2.2.2 x80 r82 e83) ?_
       rintro v w a ⟨rfl,hK⟩ hE
       have hM:=hM.keep hK
       refine Zc hE rfl fun a hE=>Ze (Zb (Zd hE rfl fun a hE=>Zd hE rfl fun a hE=>Zd hE rfl ?_)); intro a hE
       obtain ⟨x85,hi84,hF61⟩:=bvx hF61
       refine ZF hE rfl rfl Tryz.underlying160 Xq hi84.1 ?_; intro a hE
       obtain ⟨x88,hi87,hF61⟩:=bvx hF61
       refine ZF hE rfl rfl Tryz.underlying158 ty5 hi87.1 fun a hE=>ZA (v:=(vB x88)) hE rfl ty5 rfl (At.vec (At.vec hM.rawAt2 hi84.2) hi87.2) ?_; intro a hE
       obtain ⟨r90,e91,hF61⟩:=bind_some hF61
       refine Zy hE rfl jG (V8 _ p0 x88 r90 e91) ?_
       rintro v w a ⟨rfl,hK⟩ hE
       have hM:=hM.keep hK
       refine Zc hE rfl fun a hE=>Ze (wp_seq (Zb (Zd hE rfl fun a hE=>Ze ?_)))
       obtain ⟨j92,hl93,hF94⟩:=bind_some hF61
       refine ZM (fun a w=>Env 153 a [(0,vI p0),(3,(ptr b1 0)),(5,(ptr b3 0)),(6,(ptr b7 0)),(7,vB r82),(8,vI s13.2.2.1),(16,vI s13.2.2.1)] ∧ M (Old w0) w0 w [raw b7 (enc j92.2),raw b3 (enc (Vector.replicate 4 (Vector.replicate 4 (0 : UInt8)))),raw b1 (enc j92.1)]) ?_ ?_
       ·skip
        refine wp_block ?_
        refine ZE (fun (s95 : (Vector (Vector UInt8 4) 4) × (Vector (Vector UInt8 4) 4) × Int) a w=>Env 153 a [(0,vI p0),(3,(ptr b1 0)),(5,(ptr b3 0)),(6,(ptr b7 0)),(7,vB r82),(8,vI s13.2.2.1),(10,vB r90),(16,vI s13.2.2.1),(70,vI s95.2.2)] ∧ M (Old w0) w0 w [raw b7 (enc s95.2.1),raw b3 (enc (Vector.replicate 4 (Vector.replicate 4 (0 : UInt8)))),raw b1 (enc s95.1)]) hl93 ⟨hE.sub ⟨rfl,rfl,rfl,rfl,rfl,rfl,rfl,rfl,rfl,trivial⟩,hM⟩ ?_
        rintro s95 a w ⟨hE,hM⟩ o98 hs96 hx97
        unfold XK at hs96
        refine Zb (Zg hE rfl rfl rfl fun a hE=>Ze (wp_seq ?_))
        refine Zo hE rfl ?_ ?_
        ·intro hb99
         have hs96:=Zs hs96 hb99
         refine wp_skip (Zp (wp_seq (wp_block (Zb (Zd hE rfl fun a hE=>Zc hE rfl fun a hE=>Ze ?_)))))
         have hM:=hM.pull2
         obtain ⟨x102,hi101,hs96⟩:=bvx hs96
         obtain ⟨x105,hi104,hs96⟩:=bvx hs96
         obtain ⟨r107,e108,hs96⟩:=bind_some hs96
         obtain ⟨x110,hi109,hs96⟩:=bvx hs96
         obtain ⟨x113,hi112,hs96⟩:=bvx hs96
         obtain ⟨r115,e116,hs96⟩:=bind_some hs96
         obtain ⟨x118,hi117,hs96⟩:=bvx hs96
         obtain ⟨x121,hi120,hs96⟩:=bvx hs96
         obtain ⟨x124,hi123,hs96⟩:=bvx hs96
         refine Yv (its:=[raw b7 (enc s95.2.1),raw b3 (enc (Vector.replicate 4 (Vector.replicate 4 (0 : UInt8))))]) (mk:=([mkT 22 (raw b1 (enc s95.1)) (raw b1 (enc (s95.1.setIfInBounds (s13.2.2.1).toNat (x118.setIfInBounds (s95.2.2).toNat r107))))] : Mk)) [73,74,75,76,77,78,79,80,81,82,83,84,85,86,87,88,89,90,91,92,93,94,175,95] Yq rfl rfl (by decide) rfl hE (fun u=>M.qT (M.q0 hM.drew u)) (qsP (fun z=>Zi z.E Za ld rfl (kr0 rfl)) (qsP (fun z=>Zi z.E Za ld rfl (kr0 rfl)) (qsP (fun z=>Zi z.E Za ld rfl (kr0 rfl)) (qsP (fun z=>Zi z.E Za ld rfl (kr0 rfl)) (qsP (fun z=>Zi z.E Za ld rfl (kr0 rfl)) (qsP (fun z=>Zi z.E Za ld rfl (kr0 rfl)) (qsP (fun z=>Zi z.E Za ld rfl (kr0 rfl)) (qsP (fun z=>ZB z.E Za ld rfl rfl Tryz.underlying160 Xq hi101.1 (kr0 rfl)) (qsP (fun z=>ZB z.E Za ld rfl rfl Tryz.underlying158 ty5 hi104.1 (kr0 rfl)) (qsP (v:=(vB x105)) ?_ (qsP (fun z=>Zi z.E Za ld rfl (kr0 rfl)) (qsP (fun z=>Yg z.E Za ld rfl JQ (YB _ p0 x105 r90 r107 e108) (kc rfl)) (qsP (fun z=>Zi z.E Za ld rfl (kr0 rfl)) (qsP (fun z=>Zi z.E Za ld rfl (kr0 rfl)) (qsP (fun z=>Zi z.E Za ld rfl (kr0 rfl)) (qsP (fun z=>ZB z.E Za ld rfl rfl Tryz.underlying160 Xq hi109.1 (kr0 rfl)) (qsP (fun z=>ZB z.E Za ld rfl rfl Tryz.underlying158 ty5 hi112.1 (kr0 rfl)) (qsP (v:=(vB x113)) ?_ (qsP (fun z=>Zi z.E Za ld rfl (kr0 rfl)) (qsP (fun z=>Yg z.E Za ld rfl JQ (YB _ p0 x113 r90 r115 e116) (kc rfl)) (qsP (fun z=>ZB z.E Za ld rfl rfl Tryz.underlying160 Xq hi117.1 (kr0 rfl)) (qsP (fun z=>ZB z.E Za ld rfl rfl Tryz.underlying158 ty5 hi120.1 (kr0 rfl)) (qsM (pr:=fun v=>True) ?_ (qsP (fun z=>ZB z.E Za ld rfl rfl Tryz.underlying160 Xq hi123.1 (kr0 rfl)) qs0)))))))))))))))))))))))) ?_
         ·intro a w ux100 D z
          have hE:=z.E
          have hD : D 9 = false:=z.F
          have hM:=z.M.togA (pre:=[_,_]) (QE (j:=22) (k:=12) z.c rfl rfl rfl hD)
          exact ZA (v:=(vB x105)) hE rfl ty5 rfl (At.vec (At.vec hM.rawAt2 hi101.2) hi104.2) fun a hE=>⟨Kept.refl _ _,_,rfl,hE⟩
         ·intro a w ux100 D z
          have hE:=z.E
          have hM:=z.M
          exact ZA (v:=(vB x113)) hE rfl ty5 rfl (At.vec (At.vec hM.rawAt0 hi109.2) hi112.2) fun a hE=>⟨Kept.refl _ _,_,rfl,hE⟩
         ·intro a w ux100 D z
          have hE:=z.E
          have hD : D 22 = false:=z.F
          have hM:=(z.M.togA (pre:=[_,_]) hD).pull2
          exact Zn (seg:=[vB r107]) (cs':=enc (s95.1.setIfInBounds (s13.2.2.1).toNat (x118.setIfInBounds (s95.2.2).toNat r107))) hE hM Za rfl rfl rfl ty5 rfl (VI (o':=0 + (s95.2.2).toNat * 1) hi117 (ZN (v:=x118) (x:=r107) hi120.1) (by first | omega | (simp only [Flat.n] <;> omega))) (Flat.cell (r107 : UInt8)) (WZ (o':=0 + (s95.2.2).toNat * 1) hi117 (ZN (v:=x118) (x:=r107) hi120.1) (ZD (v:=x118) (x:=r107) hi120.1) (by first | omega | (simp only [Flat.n] <;> omega))) fun w a hM hE=>⟨undef,_,rfl,Env.dummy hE (by decide),M.qTog (mk1:=[]) (mk2:=[]) hM rfl,trivial⟩
         ·intro a w ux100 D hE hM hG hall
          have d22:=hall 22 (by decide)
          have hM:=hM.togB (pre:=[_,_]) d22
          obtain ⟨x127,hi126,hs96⟩:=bvx hs96
          refine ZF hE rfl rfl Tryz.underlying158 ty5 hi126.1 fun a hE=>Zn (seg:=[vB r115]) (cs':=enc (s95.2.1.setIfInBounds (s13.2.2.1).toNat (x124.setIfInBounds (s95.2.2).toNat r115))) hE hM Za rfl rfl rfl ty5 rfl (VI (o':=0 + (s95.2.2).toNat * 1) hi123 (ZN (v:=x124) (x:=r115) hi126.1) (by first | omega | (simp only [Flat.n] <;> omega))) (Flat.cell (r115 : UInt8)) (WZ (o':=0 + (s95.2.2).toNat * 1) hi123 (ZN (v:=x124) (x:=r115) hi126.1) (ZD (v:=x124) (x:=r115) hi126.1) (by first | omega | (simp only [Flat.n] <;> omega))) fun w a hM hE=>Zf (Yc (Zp (wp_region_lit (Zg hE rfl rfl rfl fun a hE=>Zd hE rfl fun a hE=>Zf (Zh ?_)))))
          exact ⟨_,(ois hs96),hE.sub ⟨rfl,rfl,rfl,rfl,rfl,rfl,rfl,rfl,rfl,trivial⟩,hM⟩
        ·intro hb99
         have hs96:=Zt hs96 hb99
         refine wp_exit (Zm (Zm (Yb ?_)))
         obtain rfl:=hx97 _ (ois hs96)
         refine Zh ?_
         exact ⟨hE.sub ⟨rfl,rfl,rfl,rfl,rfl,rfl,rfl,trivial⟩,hM⟩
       ·skip
        rintro a w ⟨hE,hM⟩
        refine Zp (Zb (Zd hE rfl fun a hE=>Ze ?_))
        obtain ⟨j130,hl131,hF132⟩:=bind_some hF94
        refine ZM (fun a w=>Env 153 a [(0,vI p0),(3,(ptr b1 0)),(5,(ptr b3 0)),(6,(ptr b7 0)),(7,vB r82),(16,vI s13.2.2.1)] ∧ M (Old w0) w0 w [raw b7 (enc j130.2),raw b3 (enc (Vector.replicate 4 (Vector.replicate 4 (0 : UInt8)))),raw b1 (enc j130.1)]) ?_ ?_
        ·skip
         refine wp_block ?_
         refine ZE (fun (s133 : (Vector (Vector UInt8 4) 4) × (Vector (Vector UInt8 4) 4) × Int) a w=>Env 153 a [(0,vI p0),(3,(ptr b1 0)),(5,(ptr b3 0)),(6,(ptr b7 0)),(7,vB r82),(8,vI s13.2.2.1),(16,vI s13.2.2.1),(98,vI s133.2.2)] ∧ M (Old w0) w0 w [raw b7 (enc s133.2.1),raw b3 (enc (Vector.replicate 4 (Vector.replicate 4 (0 : UInt8)))),raw b1 (enc s133.1)]) hl131 ⟨hE.sub ⟨rfl,rfl,rfl,rfl,rfl,rfl,rfl,rfl,trivial⟩,hM⟩ ?_
         rintro s133 a w ⟨hE,hM⟩ o136 hs134 hx135
         unfold XN at hs134
         refine Zb (Zg hE rfl rfl rfl fun a hE=>Ze (wp_seq ?_))
         refine Zo hE rfl ?_ ?_
         ·intro hb137
          have hs134:=Zs hs134 hb137
          refine wp_skip (Zp ?_)
          obtain ⟨j138,hl139,hF140⟩:=bind_some hs134
          refine ZK (fun a w=>Env 153 a [(0,vI p0),(3,(ptr b1 0)),(5,(ptr b3 0)),(6,(ptr b7 0)),(7,vB r82),(8,vI s13.2.2.1),(16,vI s13.2.2.1),(98,vI s133.2.2)] ∧ M (Old w0) w0 w [raw b7 (enc j138.2),raw b3 (enc (Vector.replicate 4 (Vector.replicate 4 (0 : UInt8)))),raw b1 (enc j138.1)]) ?_ ?_
          ·skip
           refine wp_block (Zb (Zd hE rfl fun a hE=>Zc hE rfl fun a hE=>Ze (Zb (Zd hE rfl fun a hE=>Zd hE rfl ?_)))); intro a hE
           obtain ⟨x142,hi141,hl139⟩:=bvx hl139
           refine ZF hE rfl rfl Tryz.underlying160 Xq hi141.1 ?_; intro a hE
           obtain ⟨x145,hi144,hl139⟩:=bvx hl139
           refine ZF hE rfl rfl Tryz.underlying158 ty5 hi144.1 fun a hE=>ZA (v:=(vB x145)) hE rfl ty5 rfl (At.vec (At.vec hM.rawAt2 hi141.2) hi144.2) fun a hE=>Zc hE rfl fun a hE=>Ze ?_
           obtain ⟨j147,hl148,hF149⟩:=bind_some hl139
           refine ZK (fun a w=>Env 153 a [(0,vI p0),(3,(ptr b1 0)),(5,(ptr b3 0)),(6,(ptr b7 0)),(7,vB r82),(8,vI s13.2.2.1),(12,vI s133.2.2),(13,vB x145),(16,vI s13.2.2.1),(98,vI s133.2.2),(112,vT j147)] ∧ M (Old w0) w0 w [raw b7 (enc s133.2.1),raw b3 (enc (Vector.replicate 4 (Vector.replicate 4 (0 : UInt8)))),raw b1 (enc s133.1)]) ?_ ?_
           ·skip
            refine wp_region_lit (Zd hE rfl fun a hE=>Zd hE rfl fun a hE=>Zg hE rfl rfl rfl fun a hE=>Zd hE rfl ?_); intro a hE
            refine Vs (s133.2.2 != s13.2.2.1) (fun hb150=>?_) (fun hb150=>?_)
            ·have hl148:=Zs hl148 hb150
             refine Zi hE (Zj hE rfl (lkb rfl hb150)) (by decide) rfl fun a hE=>Yd hE (Zj hE rfl (lkb rfl hb150)) (by decide) rfl rfl (Jh x145 0) fun a hE=>Xr hE (lkb rfl hb150) rfl fun a hE=>Zf ?_
             obtain rfl:=Option.some.inj hl148
             refine Zh ?_
             exact ⟨hE.sub ⟨rfl,rfl,rfl,rfl,rfl,rfl,rfl,rfl,rfl,rfl,rfl,trivial⟩,hM⟩
            ·have hl148:=Zt hl148 hb150
             refine Zl hE rfl (lkb rfl hb150) rfl (by decide) fun a hE=>Zl hE rfl (lkb rfl hb150) rfl (by decide) fun a hE=>VX hE (lkb rfl hb150) rfl fun a hE=>Zf ?_
             obtain rfl:=Option.some.inj hl148
             refine Zh ?_
             exact ⟨hE.sub ⟨rfl,rfl,rfl,rfl,rfl,rfl,rfl,rfl,rfl,rfl,rfl,trivial⟩,hM⟩
           ·skip
            rintro a w ⟨hE,hM⟩
            obtain ⟨j153,hl154,hF155⟩:=bind_some hF149
            refine ZM (fun a w=>Env 153 a [(0,vI p0),(3,(ptr b1 0)),(5,(ptr b3 0)),(6,(ptr b7 0)),(7,vB r82),(8,vI s13.2.2.1),(16,vI s13.2.2.1),(98,vI s133.2.2)] ∧ M (Old w0) w0 w [raw b7 (enc j153.2),raw b3 (enc (Vector.replicate 4 (Vector.replicate 4 (0 : UInt8)))),raw b1 (enc j153.1)]) ?_ ?_
            ·skip
             refine Zo hE rfl ?_ ?_
             ·intro hb156
              have hl154:=Zs hl154 hb156
              refine Zb (Zd hE rfl fun a hE=>Ze ?_)
              obtain ⟨j157,hl158,hF159⟩:=bind_some hl154
              refine ZM (fun a w=>Env 153 a [(0,vI p0),(3,(ptr b1 0)),(5,(ptr b3 0)),(6,(ptr b7 0)),(7,vB r82),(8,vI s13.2.2.1),(16,vI s13.2.2.1),(98,vI s133.2.2)] ∧ M (Old w0) w0 w [raw b7 (enc j157.2),raw b3 (enc (Vector.replicate 4 (Vector.replicate 4 (0 : UInt8)))),raw b1 (enc j157.1)]) ?_ ?_
              ·skip
               refine wp_block ?_
               refine ZE (fun (s160 : (Vector (Vector UInt8 4) 4) × (Vector (Vector UInt8 4) 4) × Int) a w=>Env 153 a [(0,vI p0),(3,(ptr b1 0)),(5,(ptr b3 0)),(6,(ptr b7 0)),(7,vB r82),(8,vI s13.2.2.1),(12,vI s133.2.2),(13,vB x145),(16,vI s13.2.2.1),(98,vI s133.2.2),(113,vI s160.2.2)] ∧ M (Old w0) w0 w [raw b7 (enc s160.2.1),raw b3 (enc (Vector.replicate 4 (Vector.replicate 4 (0 : UInt8)))),raw b1 (enc s160.1)]) hl158 ⟨hE.sub ⟨rfl,rfl,rfl,rfl,rfl,rfl,rfl,rfl,rfl,rfl,rfl,trivial⟩,hM⟩ ?_
               rintro s160 a w ⟨hE,hM⟩ o163 hs161 hx162
               unfold XJ at hs161
               refine Zb (Zg hE rfl rfl rfl fun a hE=>Ze (wp_seq ?_))
               refine Zo hE rfl ?_ ?_
               ·intro hb164
                have hs161:=Zs hs161 hb164
                refine wp_skip (Zp (wp_seq (wp_block (Zb (Zd hE rfl fun a hE=>Zc hE rfl fun a hE=>Ze ?_)))))
                obtain ⟨j165,hl166,hF167⟩:=bind_some hs161
                refine ZK (fun a w=>Env 153 a [(0,vI p0),(3,(ptr b1 0)),(5,(ptr b3 0)),(6,(ptr b7 0)),(7,vB r82),(8,vI s13.2.2.1),(12,vI s133.2.2),(13,vB x145),(14,vI s160.2.2),(16,vI s13.2.2.1),(98,vI s133.2.2),(113,vI s160.2.2)] ∧ M (Old w0) w0 w [raw b7 (enc s160.2.1),raw b3 (enc (Vector.replicate 4 (Vector.replicate 4 (0 : UInt8)))),raw b1 (enc j165)]) ?_ ?_
                ·skip
                 obtain ⟨x170,hi169,hl166⟩:=bvx hl166
                 obtain ⟨x173,hi172,hl166⟩:=bvx hl166
                 obtain ⟨x176,hi175,hl166⟩:=bvx hl166
                 obtain ⟨x179,hi178,hl166⟩:=bvx hl166
                 obtain ⟨r181,e182,hl166⟩:=bind_some hl166
                 obtain ⟨x184,hi183,hl166⟩:=bvx hl166
                 obtain ⟨x187,hi186,hl166⟩:=bvx hl166
                 refine ZV [116,117,118,119,120,121,122,123,124,125,126,127,128,129,130,131] Yq rfl rfl (by decide) rfl hE hM (qsP (fun z=>Zi z.E Za ld rfl (kr0 rfl)) (qsP (fun z=>Zi z.E Za ld rfl (kr0 rfl)) (qsP (fun z=>ZB z.E Za ld rfl rfl Tryz.underlying160 Xq hi169.1 (kr0 rfl)) (qsP (fun z=>ZB z.E Za ld rfl rfl Tryz.underlying158 ty5 hi172.1 (kr0 rfl)) (qsP (fun z=>ZL (v:=(vB x173)) z.E Za ld rfl ty5 rfl (At.vec (At.vec (z.M.rawAt2) hi169.2) hi172.2) (kr0 rfl)) (qsP (fun z=>Zi z.E Za ld rfl (kr0 rfl)) (qsP (fun z=>Zi z.E Za ld rfl (kr0 rfl)) (qsP (fun z=>Zi z.E Za ld rfl (kr0 rfl)) (qsP (fun z=>Zi z.E Za ld rfl (kr0 rfl)) (qsP (fun z=>ZB z.E Za ld rfl rfl Tryz.underlying160 Xq hi175.1 (kr0 rfl)) (qsP (fun z=>ZB z.E Za ld rfl rfl Tryz.underlying158 ty5 hi178.1 (kr0 rfl)) (qsP (fun z=>ZL (v:=(vB x179)) z.E Za ld rfl ty5 rfl (At.vec (At.vec (z.M.rawAt2) hi175.2) hi178.2) (kr0 rfl)) (qsP (fun z=>Yg z.E Za ld rfl JQ (YB _ p0 x145 x179 r181 e182) (kc rfl)) (qsP (v:=(vB (x173 ^^^ r181))) (fun z=>Yd z.E Za ld rfl rfl (VV x173 r181) (kr0 rfl)) (qsP (fun z=>ZB z.E Za ld rfl rfl Tryz.underlying160 Xq hi183.1 (kr0 rfl)) (qsP (fun z=>ZB z.E Za ld rfl rfl Tryz.underlying158 ty5 hi186.1 (kr0 rfl)) qs0)))))))))))))))) ?_
                 ·intro a w u hE hM
                  have hM:=hM.pull2
                  refine Zn (seg:=[(vB (x173 ^^^ r181))]) (cs':=enc (s160.1.setIfInBounds (s133.2.2).toNat (x184.setIfInBounds (s160.2.2).toNat (x173 ^^^ r181)))) hE hM Za rfl rfl rfl ty5 rfl (VI (o':=0 + (s160.2.2).toNat * 1) hi183 (ZN (v:=x184) (x:=x173 ^^^ r181) hi186.1) (by first | omega | (simp only [Flat.n] <;> omega))) (Flat.cell (x173 ^^^ r181 : UInt8)) (WZ (o':=0 + (s160.2.2).toNat * 1) hi183 (ZN (v:=x184) (x:=x173 ^^^ r181) hi186.1) (ZD (v:=x184) (x:=x173 ^^^ r181) hi186.1) (by first | omega | (simp only [Flat.n] <;> omega))) fun w a hM hE=>Zf ?_
                  obtain rfl:=Option.some.inj hl166
                  refine Zh ?_
                  have hM:=hM.pull2.pull2
                  exact ⟨hE.sub ⟨rfl,rfl,rfl,rfl,rfl,rfl,rfl,rfl,rfl,rfl,rfl,rfl,trivial⟩,hM⟩
                ·skip
                 rintro a w ⟨hE,hM⟩
                 obtain ⟨x192,hi191,hF167⟩:=bvx hF167
                 obtain ⟨x195,hi194,hF167⟩:=bvx hF167
                 obtain ⟨x198,hi197,hF167⟩:=bvx hF167
                 obtain ⟨x201,hi200,hF167⟩:=bvx hF167
                 obtain ⟨r203,e204,hF167⟩:=bind_some hF167
                 obtain ⟨x206,hi205,hF167⟩:=bvx hF167
                 obtain ⟨x209,hi208,hF167⟩:=bvx hF167
                 refine ZV [132,133,134,135,136,137,138,139,140,141,142,143,144,145,146,147] Yq rfl rfl (by decide) rfl hE hM (qsP (fun z=>Zi z.E Za ld rfl (kr0 rfl)) (qsP (fun z=>Zi z.E Za ld rfl (kr0 rfl)) (qsP (fun z=>ZB z.E Za ld rfl rfl Tryz.underlying160 Xq hi191.1 (kr0 rfl)) (qsP (fun z=>ZB z.E Za ld rfl rfl Tryz.underlying158 ty5 hi194.1 (kr0 rfl)) (qsP (fun z=>ZL (v:=(vB x195)) z.E Za ld rfl ty5 rfl (At.vec (At.vec (z.M.rawAt0) hi191.2) hi194.2) (kr0 rfl)) (qsP (fun z=>Zi z.E Za ld rfl (kr0 rfl)) (qsP (fun z=>Zi z.E Za ld rfl (kr0 rfl)) (qsP (fun z=>Zi z.E Za ld rfl (kr0 rfl)) (qsP (fun z=>Zi z.E Za ld rfl (kr0 rfl)) (qsP (fun z=>ZB z.E Za ld rfl rfl Tryz.underlying160 Xq hi197.1 (kr0 rfl)) (qsP (fun z=>ZB z.E Za ld rfl rfl Tryz.underlying158 ty5 hi200.1 (kr0 rfl)) (qsP (fun z=>ZL (v:=(vB x201)) z.E Za ld rfl ty5 rfl (At.vec (At.vec (z.M.rawAt0) hi197.2) hi200.2) (kr0 rfl)) (qsP (fun z=>Yg z.E Za ld rfl JQ (YB _ p0 x145 x201 r203 e204) (kc rfl)) (qsP (v:=(vB (x195 ^^^ r203))) (fun z=>Yd z.E Za ld rfl rfl (VV x195 r203) (kr0 rfl)) (qsP (fun z=>ZB z.E Za ld rfl rfl Tryz.underlying160 Xq hi205.1 (kr0 rfl)) (qsP (fun z=>ZB z.E Za ld rfl rfl Tryz.underlying158 ty5 hi208.1 (kr0 rfl)) qs0)))))))))))))))) ?_
                 ·intro a w u hE hM
                  refine Zn (seg:=[(vB (x195 ^^^ r203))]) (cs':=enc (s160.2.1.setIfInBounds (s133.2.2).toNat (x206.setIfInBounds (s160.2.2).toNat (x195 ^^^ r203)))) hE hM Za rfl rfl rfl ty5 rfl (VI (o':=0 + (s160.2.2).toNat * 1) hi205 (ZN (v:=x206) (x:=x195 ^^^ r203) hi208.1) (by first | omega | (simp only [Flat.n] <;> omega))) (Flat.cell (x195 ^^^ r203 : UInt8)) (WZ (o':=0 + (s160.2.2).toNat * 1) hi205 (ZN (v:=x206) (x:=x195 ^^^ r203) hi208.1) (ZD (v:=x206) (x:=x195 ^^^ r203) hi208.1) (by first | omega | (simp only [Flat.n] <;> omega))) fun w a hM hE=>Zf (Yc (Zp (wp_region_lit (Zg hE rfl rfl rfl fun a hE=>Zd hE rfl fun a hE=>Zf (Zh ?_)))))
                  exact ⟨_,(ois hF167),hE.sub ⟨rfl,rfl,rfl,rfl,rfl,rfl,rfl,rfl,rfl,rfl,rfl,trivial⟩,hM⟩
               ·intro hb164
                have hs161:=Zt hs161 hb164
                refine wp_exit (Zm (Zm (Yb ?_)))
                obtain rfl:=hx162 _ (ois hs161)
                refine Zh ?_
                exact ⟨hE.sub ⟨rfl,rfl,rfl,rfl,rfl,rfl,rfl,rfl,trivial⟩,hM⟩
              ·skip
               rintro a w ⟨hE,hM⟩
               obtain rfl:=Option.some.inj hF159
               refine Zh ?_
               exact ⟨hE.sub ⟨rfl,rfl,rfl,rfl,rfl,rfl,rfl,rfl,trivial⟩,hM⟩
             ·intro hb156
              have hl154:=Zt hl154 hb156
              refine wp_skip ?_
              obtain rfl:=Option.some.inj hl154
              refine Zh ?_
              exact ⟨hE.sub ⟨rfl,rfl,rfl,rfl,rfl,rfl,rfl,rfl,trivial⟩,hM⟩
            ·skip
             rintro a w ⟨hE,hM⟩
             refine Yc ?_
             obtain rfl:=Option.some.inj hF155
             refine Zh ?_
             exact ⟨hE.sub ⟨rfl,rfl,rfl,rfl,rfl,rfl,rfl,rfl,trivial⟩,hM⟩
          ·skip
           rintro a w ⟨hE,hM⟩
           refine wp_region_lit (Zg hE rfl rfl rfl fun a hE=>Zd hE rfl fun a hE=>Zf (Zh ?_))
           exact ⟨_,(ois hF140),hE.sub ⟨rfl,rfl,rfl,rfl,rfl,rfl,rfl,rfl,trivial⟩,hM⟩
         ·intro hb137
          have hs134:=Zt hs134 hb137
          refine wp_exit (Zm (Zm (Yb ?_)))
          obtain rfl:=hx135 _ (ois hs134)
          refine Zh ?_
          exact ⟨hE.sub ⟨rfl,rfl,rfl,rfl,rfl,rfl,trivial⟩,hM⟩
        ·skip
         rintro a w ⟨hE,hM⟩
         refine Yc (Zp (wp_region_lit (Zg hE rfl rfl rfl fun a hE=>Zd hE rfl fun a hE=>Zf (Zh ?_))))
         exact ⟨_,(ois hF132),hE.sub ⟨rfl,rfl,rfl,rfl,rfl,rfl,trivial⟩,hM⟩
  ·intro hb17
   have hs14:=Zt hs14 hb17
   refine wp_exit (Zm (Zm (Yb ?_)))
   obtain rfl:=hx15 _ (ois hs14)
   refine Zh ?_
   have hM:=M.fst (l:=[_,_]) hM.pull1.pull1
   exact ⟨(s13.2.1,s13.2.2.2),rfl,hE.sub ⟨rfl,rfl,rfl,trivial⟩,hM⟩
 ·skip
  rintro a w ⟨s12,ht,hE,hM⟩
  subst ht
  have hF11:=Tw hF11
  refine Zp ?_
  obtain ⟨j217,hl218,hF219⟩:=bind_some hF11
  refine ZK (fun a w=>Env 153 a [(4,vB j217.2),(5,(ptr b3 0))] ∧ M (Old w0) w0 w [raw b3 (enc j217.1)]) ?_ ?_
  ·skip
   refine ZV [151,152,4] Yq rfl rfl (by decide) rfl hE hM (qsP (fun z=>Zi z.E Za ld rfl (kr0 rfl)) (qsP (fun z=>Z0 z.E Za ld rfl Uc rfl (z.M.rawAt0) (Flat.len _) (kr0 rfl)) (qsP (fun z=>Qd z.E Za ld rfl (kr0 rfl)) qs0))) ?_
   ·intro a w u hE hM
    have hM:=hM.pull1
    refine Zn (seg:=enc s12.1) (cs':=enc s12.1) hE hM Za rfl rfl rfl Uc (Flat.len _) (zle flq) (Flat.cell _) (Zk flq) fun w a hM hE=>Zf ?_
    obtain rfl:=Option.some.inj hl218
    refine Zh ?_
    have hM:=M.fst (l:=[_]) hM
    exact ⟨hE.sub ⟨rfl,rfl,trivial⟩,hM⟩
  ·skip
   rintro a w ⟨hE,hM⟩
   obtain rfl:=Option.some.inj hF219
   have hq222 : Yz Tryz.prog _ _ (.cell 5 160) _:=ZS hE rfl Uc rfl hM.rawAt0 (Flat.len _) rfl
   exact wp_ret (To hE rfl (ZR hE rfl) hq222 ⟨_,rfl,rfl,hM.kept⟩)
def Xk (p0 : (Vector UInt8 256)) (s10 : (Vector UInt8 256) × Int) : Option (Fl ((Vector UInt8 256) × Int) (Vector UInt8 256)) :=
 if (decide (s10.2 < 256)) = true then ((ZI p0 s10.2).bind fun x15=>(ZI s10.1 (bI x15)).bind fun x19=>some (Fl.nx ((s10.1.setIfInBounds ((bI x15)).toNat (ZG s10.2)),wr (s10.2 + 1)))) else (some (Fl.ex s10.1))
def WL (p0 : (Vector UInt8 256)) : Option ((Vector UInt8 256)) :=
 (Zz (Xk p0) ((Vector.replicate 256 (0 : UInt8)),0)).bind fun j7=>some j7
theorem Kr (w0 : World) (p0 : (Vector UInt8 256)) (r : (Vector UInt8 256)) (hF : WL p0 = some r) :
  Calls Tryz.prog 212 [(Value.agg (enc p0).toArray)].toArray w0 (Rt w0 (Value.agg (enc r).toArray)):=by
 refine ce Tryz.func212 ?_
 intro a hE
 have hM:=M.start w0
 unfold WL at hF
 refine Zb (ZZ (cs:=enc p0) hE hM Za ld rfl rfl fun b1 w a hM hE=>ZC hE hM Xw fun b3 w a hM hE=>Ze (Zb (XP (parts:=[]) (vs:=[]) (cs:=enc (Vector.replicate 256 (0 : UInt8))) hE Za ld rfl rfl Xw rfl ty5 Y1 fun a hE=>ZC hE hM Xw fun b5 w a hM hE=>Zn (seg:=enc (Vector.replicate 256 (0 : UInt8))) (cs':=enc (Vector.replicate 256 (0 : UInt8))) hE hM Za rfl rfl rfl Xw (Flat.len _) (zle flq) (Flat.cell _) (Zk flq) fun w a hM hE=>Ze (wp_seq (Zb (Zq hE rfl Xw rfl hM.rawAt2 (Flat.len _) fun a hE=>Zd hE rfl fun a hE=>Ze ?_))))))
 obtain ⟨j7,hl8,hF9⟩:=bind_some hF
 refine ZM (fun a w=>Env 18 a [(2,(ptr b3 0)),(3,(ptr b5 0))] ∧ M (Old w0) w0 w [raw b5 (enc j7),raw b3 (enc (Vector.replicate 256 (0 : UInt8)))]) ?_ ?_
 ·skip
  refine wp_block ?_
  have hM:=M.fst (l:=[_,_]) hM.pull1.pull1
  refine ZE (fun (s10 : (Vector UInt8 256) × Int) a w=>Env 18 a [(2,(ptr b3 0)),(3,(ptr b5 0)),(7,(Value.agg (enc p0).toArray)),(8,vI s10.2)] ∧ M (Old w0) w0 w [raw b5 (enc s10.1),raw b3 (enc (Vector.replicate 256 (0 : UInt8)))]) hl8 ⟨hE.sub ⟨rfl,rfl,rfl,rfl,trivial⟩,hM⟩ ?_
  rintro s10 a w ⟨hE,hM⟩ o13 hs11 hx12
  unfold Xk at hs11
  refine Zb (Zg hE rfl rfl rfl fun a hE=>Ze (wp_seq ?_))
  refine Zo hE rfl ?_ ?_
  ·intro hb14
   have hs11:=Zs hs11 hb14
   refine wp_skip (Zp (wp_seq (wp_block (Zb (Zd hE rfl ?_))))); intro a hE
   obtain ⟨x15,hi17,hs11⟩:=bvx hs11
   refine QW hE Za ld rfl rfl Tryz.underlying157 ty5 rfl rfl hi17 rfl fun a hE=>Zc hE rfl fun a hE=>Zc hE rfl fun a hE=>Ze (wp_region_lit (Zd hE rfl fun a hE=>Zd hE rfl fun a hE=>Xb hE Za ld rfl Tryz.underlying3 Tryz.underlying5 ?_)); intro a hE
   obtain ⟨x19,hi18,hs11⟩:=bvx hs11
   refine ZF hE rfl rfl Tryz.underlying157 ty5 hi18.1 fun a hE=>Zn (seg:=[(vB (ZG s10.2))]) (cs':=enc (s10.1.setIfInBounds ((bI x15)).toNat (ZG s10.2))) hE hM Za rfl rfl rfl ty5 rfl (ZN (v:=s10.1) (x:=ZG s10.2) hi18.1) (Flat.cell (ZG s10.2 : UInt8)) (ZD (v:=s10.1) (x:=ZG s10.2) hi18.1) fun w a hM hE=>Zf (Yc (Zp (wp_region_lit (Zg hE rfl rfl rfl fun a hE=>Zd hE rfl fun a hE=>Zf (Zh ?_)))))
   exact ⟨_,(ois hs11),hE.sub ⟨rfl,rfl,rfl,rfl,trivial⟩,hM⟩
  ·intro hb14
   have hs11:=Zt hs11 hb14
   refine wp_exit (Zm (Zm (Yb ?_)))
   obtain rfl:=hx12 _ (ois hs11)
   refine Zh ?_
   exact ⟨hE.sub ⟨rfl,rfl,trivial⟩,hM⟩
 ·skip
  rintro a w ⟨hE,hM⟩
  refine Zp (Zb (Zq hE rfl Xw rfl hM.rawAt0 (Flat.len _) ?_)); intro a hE
  have hM:=hM.pull1
  refine Zn (seg:=enc j7) (cs':=enc j7) hE hM Za rfl rfl rfl Xw (Flat.len _) (zle flq) (Flat.cell _) (Zk flq) fun w a hM hE=>Ze ?_
  obtain rfl:=Option.some.inj hF9
  have hq22 : Yz Tryz.prog _ _ (.cell 2 157) _:=ZS hE rfl Xw rfl hM.rawAt0 (Flat.len _) rfl
  exact wp_ret (ZP hE rfl hq22 ⟨_,rfl,rfl,hM.kept⟩)
def YM (p0 : (Vector UInt8 16)) (s10 : (Vector UInt8 16) × Int) : Option (Fl ((Vector UInt8 16) × Int) (Vector UInt8 16)) :=
 if (decide (s10.2 < 16)) = true then ((ZI p0 s10.2).bind fun x15=>(ZI s10.1 (bI x15)).bind fun x19=>some (Fl.nx ((s10.1.setIfInBounds ((bI x15)).toNat (ZG s10.2)),wr (s10.2 + 1)))) else (some (Fl.ex s10.1))
def Xv (p0 : (Vector UInt8 16)) : Option ((Vector UInt8 16)) :=
 (Zz (YM p0) ((Vector.replicate 16 (0 : UInt8)),0)).bind fun j7=>some j7
theorem QH (w0 : World) (p0 : (Vector UInt8 16)) (r : (Vector UInt8 16)) (hF : Xv p0 = some r) :
  Calls Tryz.prog 213 [(Value.agg (enc p0).toArray)].toArray w0 (Rt w0 (Value.agg (enc r).toArray)):=by
 refine ce Tryz.func213 ?_
 intro a hE
 have hM:=M.start w0
 unfold Xv at hF
 refine Zb (ZZ (cs:=enc p0) hE hM Za ld rfl rfl fun b1 w a hM hE=>ZC hE hM TF fun b3 w a hM hE=>Ze (Zb (XP (parts:=[]) (vs:=[]) (cs:=enc (Vector.replicate 16 (0 : UInt8))) hE Za ld rfl rfl TF rfl ty5 Y1 fun a hE=>ZC hE hM TF fun b5 w a hM hE=>Zn (seg:=enc (Vector.replicate 16 (0 : UInt8))) (cs':=enc (Vector.replicate 16 (0 : UInt8))) hE hM Za rfl rfl rfl TF (Flat.len _) (zle flq) (Flat.cell _) (Zk flq) fun w a hM hE=>Ze (wp_seq (Zb (Zq hE rfl TF rfl hM.rawAt2 (Flat.len _) fun a hE=>Zd hE rfl fun a hE=>Ze ?_))))))
 obtain ⟨j7,hl8,hF9⟩:=bind_some hF
 refine ZM (fun a w=>Env 18 a [(2,(ptr b3 0)),(3,(ptr b5 0))] ∧ M (Old w0) w0 w [raw b5 (enc j7),raw b3 (enc (Vector.replicate 16 (0 : UInt8)))]) ?_ ?_
 ·skip
  refine wp_block ?_
  have hM:=M.fst (l:=[_,_]) hM.pull1.pull1
  refine ZE (fun (s10 : (Vector UInt8 16) × Int) a w=>Env 18 a [(2,(ptr b3 0)),(3,(ptr b5 0)),(7,(Value.agg (enc p0).toArray)),(8,vI s10.2)] ∧ M (Old w0) w0 w [raw b5 (enc s10.1),raw b3 (enc (Vector.replicate 16 (0 : UInt8)))]) hl8 ⟨hE.sub ⟨rfl,rfl,rfl,rfl,trivial⟩,hM⟩ ?_
  rintro s10 a w ⟨hE,hM⟩ o13 hs11 hx12
  unfold YM at hs11
  refine Zb (Zg hE rfl rfl rfl fun a hE=>Ze (wp_seq ?_))
  refine Zo hE rfl ?_ ?_
  ·intro hb14
   have hs11:=Zs hs11 hb14
   refine wp_skip (Zp (wp_seq (wp_block (Zb (Zd hE rfl ?_))))); intro a hE
   obtain ⟨x15,hi17,hs11⟩:=bvx hs11
   refine QW hE Za ld rfl rfl Tryz.underlying161 ty5 rfl rfl hi17 rfl fun a hE=>Zc hE rfl fun a hE=>Zc hE rfl fun a hE=>Ze (wp_region_lit (Zd hE rfl fun a hE=>Zd hE rfl fun a hE=>Xb hE Za ld rfl Tryz.underlying3 Tryz.underlying5 ?_)); intro a hE
   obtain ⟨x19,hi18,hs11⟩:=bvx hs11
   refine ZF hE rfl rfl Tryz.underlying161 ty5 hi18.1 fun a hE=>Zn (seg:=[(vB (ZG s10.2))]) (cs':=enc (s10.1.setIfInBounds ((bI x15)).toNat (ZG s10.2))) hE hM Za rfl rfl rfl ty5 rfl (ZN (v:=s10.1) (x:=ZG s10.2) hi18.1) (Flat.cell (ZG s10.2 : UInt8)) (ZD (v:=s10.1) (x:=ZG s10.2) hi18.1) fun w a hM hE=>Zf (Yc (Zp (wp_region_lit (Zg hE rfl rfl rfl fun a hE=>Zd hE rfl fun a hE=>Zf (Zh ?_)))))
   exact ⟨_,(ois hs11),hE.sub ⟨rfl,rfl,rfl,rfl,trivial⟩,hM⟩
  ·intro hb14
   have hs11:=Zt hs11 hb14
   refine wp_exit (Zm (Zm (Yb ?_)))
   obtain rfl:=hx12 _ (ois hs11)
   refine Zh ?_
   exact ⟨hE.sub ⟨rfl,rfl,trivial⟩,hM⟩
 ·skip
  rintro a w ⟨hE,hM⟩
  refine Zp (Zb (Zq hE rfl TF rfl hM.rawAt0 (Flat.len _) ?_)); intro a hE
  have hM:=hM.pull1
  refine Zn (seg:=enc j7) (cs':=enc j7) hE hM Za rfl rfl rfl TF (Flat.len _) (zle flq) (Flat.cell _) (Zk flq) fun w a hM hE=>Ze ?_
  obtain rfl:=Option.some.inj hF9
  have hq22 : Yz Tryz.prog _ _ (.cell 2 161) _:=ZS hE rfl TF rfl hM.rawAt0 (Flat.len _) rfl
  exact wp_ret (ZP hE rfl hq22 ⟨_,rfl,rfl,hM.kept⟩)
def Wu (s8 : (Vector (Vector (Vector UInt8 256) 4) 4) × Int) (s19 : (Vector (Vector (Vector UInt8 256) 4) 4) × Int) (s30 : (Vector (Vector (Vector UInt8 256) 4) 4) × Int) (r35 : UInt8) (s40 : (Vector (Vector (Vector UInt8 256) 4) 4) × Int) : Option (Fl ((Vector (Vector (Vector UInt8 256) 4) 4) × Int) (Vector (Vector (Vector UInt8 256) 4) 4)) :=
 if (decide (s40.2 < s30.2)) = true then ((ZI s40.1 s8.2).bind fun x47=>(ZI x47 s19.2).bind fun x50=>(ZI x50 s40.2).bind fun x53=>(ZI s40.1 s8.2).bind fun x56=>(ZI x56 s19.2).bind fun x59=>(ZI x59 (orI s30.2 s40.2)).bind fun x62=>some (Fl.nx ((s40.1.setIfInBounds (s8.2).toNat (x56.setIfInBounds (s19.2).toNat (x59.setIfInBounds ((orI s30.2 s40.2)).toNat (r35 ^^^ x53)))),wr (s40.2 + 1)))) else (some (Fl.ex s40.1))
def Wp (p0 : Int) (s8 : (Vector (Vector (Vector UInt8 256) 4) 4) × Int) (s19 : (Vector (Vector (Vector UInt8 256) 4) 4) × Int) (x24 : UInt8) (s30 : (Vector (Vector (Vector UInt8 256) 4) 4) × Int) : Option (Fl ((Vector (Vector (Vector UInt8 256) 4) 4) × Int) (Vector (Vector (Vector UInt8 256) 4) 4)) :=
 if (decide (s30.2 < 256)) = true then ((Z1 p0 x24 (ZG s30.2)).bind fun r35=>(Zz (Wu s8 s19 s30 r35) (s30.1,0)).bind fun j37=>some (Fl.nx (j37,wr (s30.2 * 2)))) else (some (Fl.ex s30.1))
def Wq (p0 : Int) (s8 : (Vector (Vector (Vector UInt8 256) 4) 4) × Int) (x14 : (Vector UInt8 4)) (s19 : (Vector (Vector (Vector UInt8 256) 4) 4) × Int) : Option (Fl ((Vector (Vector (Vector UInt8 256) 4) 4) × Int) (Vector (Vector (Vector UInt8 256) 4) 4)) :=
 if (decide (s19.2 < 4)) = true then ((ZI x14 s19.2).bind fun x24=>(Zz (Wp p0 s8 s19 x24) (s19.1,1)).bind fun j27=>some (Fl.nx (j27,wr (s19.2 + 1)))) else (some (Fl.ex s19.1))
def Wz (p0 : Int) (p1 : (Vector (Vector UInt8 4) 4)) (s8 : (Vector (Vector (Vector UInt8 256) 4) 4) × Int) : Option (Fl ((Vector (Vector (Vector UInt8 256) 4) 4) × Int) (Vector (Vector (Vector UInt8 256) 4) 4)) :=
 if (decide (s8.2 < 4)) = true then ((ZI p1 s8.2).bind fun x14=>(Zz (Wq p0 s8 x14) (s8.1,0)).bind fun j16=>some (Fl.nx (j16,wr (s8.2 + 1)))) else (some (Fl.ex s8.1))
def WR (p0 : Int) (p1 : (Vector (Vector UInt8 4) 4)) : Option ((Ref (Vector (Vector (Vector UInt8 256) 4) 4))) :=
 (Zz (Wz p0 p1) ((Vector.replicate 4 (Vector.replicate 4 (Vector.replicate 256 (0 : UInt8)))),0)).bind fun j5=>some (⟨j5⟩ : (Ref (Vector (Vector (Vector UInt8 256) 4) 4)))
theorem QB (w0 : World) (p0 : Int) (p1 : (Vector (Vector UInt8 4) 4)) (r : (Ref (Vector (Vector (Vector UInt8 256) 4) 4))) (hF : WR p0 p1 = some r) :
  Calls Tryz.prog 214 [vI p0,(Value.agg (enc p1).toArray)].toArray w0 (fun en w'=>∃ v,en = .returned v ∧ (∃ (y1 : Value),v = y1 ∧ Fr w0 w' [own NoB (r : (Ref (Vector (Vector (Vector UInt8 256) 4) 4))) [y1]] ∧ Kept (Old w0) w0 w')):=by
 refine ce Tryz.func214 ?_
 intro a hE
 have hM:=M.start w0
 unfold WR at hF
 refine Zb (ZZ (cs:=enc p1) hE hM Za ld rfl rfl fun b1 w a hM hE=>Zc hE rfl fun a hE=>Ze (Zb (XP (parts:=[]) (vs:=[]) (cs:=enc (Vector.replicate 4 (Vector.replicate 4 (Vector.replicate 256 (0 : UInt8))))) hE Za ld rfl rfl ty265 rfl HO Y1 fun a hE=>ZZ (cs:=enc (Vector.replicate 4 (Vector.replicate 4 (Vector.replicate 256 (0 : UInt8))))) hE hM Za ld rfl rfl fun b3 w a hM hE=>Zc hE rfl fun a hE=>Ze (wp_seq (Zb (Zd hE rfl fun a hE=>Ze ?_))))))
 obtain ⟨j5,hl6,hF7⟩:=bind_some hF
 refine ZM (fun a w=>Env 62 a [(5,(ptr b3 0))] ∧ M (Old w0) w0 w [raw b3 (enc j5)]) ?_ ?_
 ·skip
  refine wp_block ?_
  refine ZE (fun (s8 : (Vector (Vector (Vector UInt8 256) 4) 4) × Int) a w=>Env 62 a [(0,vI p0),(3,(ptr b1 0)),(5,(ptr b3 0)),(14,vI s8.2)] ∧ M (Old w0) w0 w [raw b3 (enc s8.1),raw b1 (enc p1)]) hl6 ⟨hE.sub ⟨rfl,rfl,rfl,rfl,trivial⟩,hM⟩ ?_
  rintro s8 a w ⟨hE,hM⟩ o11 hs9 hx10
  unfold Wz at hs9
  refine Zb (Zg hE rfl rfl rfl fun a hE=>Ze (wp_seq ?_))
  refine Zo hE rfl ?_ ?_
  ·intro hb12
   have hs9:=Zs hs9 hb12
   refine wp_skip (Zp (wp_seq (wp_block (Zb (Zd hE rfl fun a hE=>Zc hE rfl fun a hE=>Ze (Zb (Zd hE rfl ?_))))))); intro a hE
   obtain ⟨x14,hi13,hs9⟩:=bvx hs9
   refine ZF hE rfl rfl Tryz.underlying160 Xq hi13.1 fun a hE=>Zq hE rfl Xq rfl (At.vec hM.rawAt1 hi13.2) (Flat.len _) fun a hE=>Zd hE rfl fun a hE=>Ze ?_
   obtain ⟨j16,hl17,hF18⟩:=bind_some hs9
   refine ZM (fun a w=>Env 62 a [(0,vI p0),(3,(ptr b1 0)),(5,(ptr b3 0)),(14,vI s8.2)] ∧ M (Old w0) w0 w [raw b3 (enc j16),raw b1 (enc p1)]) ?_ ?_
   ·skip
    refine wp_block ?_
    refine ZE (fun (s19 : (Vector (Vector (Vector UInt8 256) 4) 4) × Int) a w=>Env 62 a [(0,vI p0),(3,(ptr b1 0)),(5,(ptr b3 0)),(6,vI s8.2),(14,vI s8.2),(19,(Value.agg (enc x14).toArray)),(20,vI s19.2)] ∧ M (Old w0) w0 w [raw b3 (enc s19.1),raw b1 (enc p1)]) hl17 ⟨hE.sub ⟨rfl,rfl,rfl,rfl,rfl,rfl,rfl,trivial⟩,hM⟩ ?_
    rintro s19 a w ⟨hE,hM⟩ o22 hs20 hx21
    unfold Wq at hs20
    refine Zb (Zg hE rfl rfl rfl fun a hE=>Ze (wp_seq ?_))
    refine Zo hE rfl ?_ ?_
    ·intro hb23
     have hs20:=Zs hs20 hb23
     refine wp_skip (Zp (wp_seq (wp_block (Zb (Zd hE rfl ?_))))); intro a hE
     obtain ⟨x24,hi26,hs20⟩:=bvx hs20
     refine QW hE Za ld rfl rfl Tryz.underlying158 ty5 rfl rfl hi26 rfl fun a hE=>Zc hE rfl fun a hE=>Zc hE rfl fun a hE=>Ze (Zb (Zc hE rfl fun a hE=>Ze ?_))
     obtain ⟨j27,hl28,hF29⟩:=bind_some hs20
     refine ZM (fun a w=>Env 62 a [(0,vI p0),(3,(ptr b1 0)),(5,(ptr b3 0)),(6,vI s8.2),(14,vI s8.2),(19,(Value.agg (enc x14).toArray)),(20,vI s19.2)] ∧ M (Old w0) w0 w [raw b3 (enc j27),raw b1 (enc p1)]) ?_ ?_
     ·skip
      refine wp_block ?_
      refine ZE (fun (s30 : (Vector (Vector (Vector UInt8 256) 4) 4) × Int) a w=>Env 62 a [(0,vI p0),(3,(ptr b1 0)),(5,(ptr b3 0)),(6,vI s8.2),(7,vI s19.2),(8,vB x24),(9,vI s30.2),(14,vI s8.2),(19,(Value.agg (enc x14).toArray)),(20,vI s19.2)] ∧ M (Old w0) w0 w [raw b3 (enc s30.1),raw b1 (enc p1)]) hl28 ⟨hE.sub ⟨rfl,rfl,rfl,rfl,rfl,rfl,rfl,rfl,rfl,rfl,trivial⟩,hM⟩ ?_
      rintro s30 a w ⟨hE,hM⟩ o33 hs31 hx32
      unfold Wp at hs31
      refine wp_seq (Zb (Zd hE rfl fun a hE=>Zg hE rfl rfl rfl fun a hE=>Ze ?_))
      refine Zo hE rfl ?_ ?_
      ·intro hb34
       have hs31:=Zs hs31 hb34
       refine wp_skip (Zp (wp_seq (wp_block (Zb (Zd hE rfl fun a hE=>Zd hE rfl fun a hE=>Zd hE rfl fun a hE=>Xb hE Za ld rfl Tryz.underlying3 Tryz.underlying5 ?_))))); intro a hE
       obtain ⟨r35,e36,hs31⟩:=bind_some hs31
       refine Zy hE rfl JQ (YB _ p0 x24 (ZG s30.2) r35 e36) ?_
       rintro v w a ⟨rfl,hK⟩ hE
       have hM:=hM.keep hK
       refine Zc hE rfl fun a hE=>Ze (Zb (Zd hE rfl fun a hE=>Zd hE rfl fun a hE=>Ze ?_))
       obtain ⟨j37,hl38,hF39⟩:=bind_some hs31
       refine ZM (fun a w=>Env 62 a [(0,vI p0),(3,(ptr b1 0)),(5,(ptr b3 0)),(6,vI s8.2),(7,vI s19.2),(8,vB x24),(9,vI s30.2),(14,vI s8.2),(19,(Value.agg (enc x14).toArray)),(20,vI s19.2)] ∧ M (Old w0) w0 w [raw b3 (enc j37),raw b1 (enc p1)]) ?_ ?_
       ·skip
        refine wp_block ?_
        refine ZE (fun (s40 : (Vector (Vector (Vector UInt8 256) 4) 4) × Int) a w=>Env 62 a [(0,vI p0),(3,(ptr b1 0)),(5,(ptr b3 0)),(6,vI s8.2),(7,vI s19.2),(8,vB x24),(9,vI s30.2),(10,vB r35),(14,vI s8.2),(19,(Value.agg (enc x14).toArray)),(20,vI s19.2),(33,vI s30.2),(34,vI s40.2)] ∧ M (Old w0) w0 w [raw b3 (enc s40.1),raw b1 (enc p1)]) hl38 ⟨hE.sub ⟨rfl,rfl,rfl,rfl,rfl,rfl,rfl,rfl,rfl,rfl,rfl,rfl,rfl,trivial⟩,hM⟩ ?_
        rintro s40 a w ⟨hE,hM⟩ o43 hs41 hx42
        unfold Wu at hs41
        refine Zb (Zg hE rfl rfl rfl fun a hE=>Ze (wp_seq ?_))
        refine Zo hE rfl ?_ ?_
        ·intro hb44
         have hs41:=Zs hs41 hb44
         refine wp_skip (Zp (wp_seq (wp_block (Zb (Zd hE rfl fun a hE=>Zc hE rfl fun a hE=>Ze ?_)))))
         obtain ⟨x47,hi46,hs41⟩:=bvx hs41
         obtain ⟨x50,hi49,hs41⟩:=bvx hs41
         obtain ⟨x53,hi52,hs41⟩:=bvx hs41
         obtain ⟨x56,hi55,hs41⟩:=bvx hs41
         obtain ⟨x59,hi58,hs41⟩:=bvx hs41
         obtain ⟨x62,hi61,hs41⟩:=bvx hs41
         refine ZV [37,38,39,40,41,42,43,44,45,46,47,48,49,50,51,52,53,54,55,56,57] Yq rfl rfl (by decide) rfl hE hM (qsP (fun z=>Zi z.E Za ld rfl (kr0 rfl)) (qsP (fun z=>Zi z.E Za ld rfl (kr0 rfl)) (qsP (fun z=>Zi z.E Za ld rfl (kr0 rfl)) (qsP (fun z=>Zi z.E Za ld rfl (kr0 rfl)) (qsP (fun z=>Zi z.E Za ld rfl (kr0 rfl)) (qsP (v:=(vI (orI s30.2 s40.2))) (fun z=>Yd z.E Za ld rfl rfl rfl (kr0 rfl)) (qsP (fun z=>Zi z.E Za ld rfl (kr0 rfl)) (qsP (fun z=>Zi z.E Za ld rfl (kr0 rfl)) (qsP (fun z=>Zi z.E Za ld rfl (kr0 rfl)) (qsP (fun z=>Zi z.E Za ld rfl (kr0 rfl)) (qsP (fun z=>Zi z.E Za ld rfl (kr0 rfl)) (qsP (fun z=>X4 z.E Za ld rfl (kr0 rfl)) (qsP (fun z=>ZB z.E Za ld rfl rfl Tryz.underlying265 HO hi46.1 (kr0 rfl)) (qsP (fun z=>ZB z.E Za ld rfl rfl Tryz.underlying263 BV hi49.1 (kr0 rfl)) (qsP (fun z=>ZB z.E Za ld rfl rfl Tryz.underlying156 ty5 hi52.1 (kr0 rfl)) (qsP (fun z=>ZL (v:=(vB x53)) z.E Za ld rfl ty5 rfl (At.vec (At.vec (At.vec (z.M.rawAt0) hi46.2) hi49.2) hi52.2) (kr0 rfl)) (qsP (v:=(vB (r35 ^^^ x53))) (fun z=>Yd z.E Za ld rfl rfl (VV r35 x53) (kr0 rfl)) (qsP (fun z=>X4 z.E Za ld rfl (kr0 rfl)) (qsP (fun z=>ZB z.E Za ld rfl rfl Tryz.underlying265 HO hi55.1 (kr0 rfl)) (qsP (fun z=>ZB z.E Za ld rfl rfl Tryz.underlying263 BV hi58.1 (kr0 rfl)) (qsP (fun z=>ZB z.E Za ld rfl rfl Tryz.underlying156 ty5 hi61.1 (kr0 rfl)) qs0))))))))))))))))))))) ?_
         ·intro a w u hE hM
          refine Zn (seg:=[(vB (r35 ^^^ x53))]) (cs':=enc (s40.1.setIfInBounds (s8.2).toNat (x56.setIfInBounds (s19.2).toNat (x59.setIfInBounds ((orI s30.2 s40.2)).toNat (r35 ^^^ x53))))) hE hM Za rfl rfl rfl ty5 rfl (VI (o':=(s19.2).toNat * 256 + (0 + ((orI s30.2 s40.2)).toNat * 1)) hi55 (VI (o':=0 + ((orI s30.2 s40.2)).toNat * 1) hi58 (ZN (v:=x59) (x:=r35 ^^^ x53) hi61.1) (by first | omega | (simp only [Flat.n] <;> omega))) (by first | omega | (simp only [Flat.n] <;> omega))) (Flat.cell (r35 ^^^ x53 : UInt8)) (WZ (o':=(s19.2).toNat * 256 + (0 + ((orI s30.2 s40.2)).toNat * 1)) hi55 (VI (o':=0 + ((orI s30.2 s40.2)).toNat * 1) hi58 (ZN (v:=x59) (x:=r35 ^^^ x53) hi61.1) (by first | omega | (simp only [Flat.n] <;> omega))) (WZ (o':=0 + ((orI s30.2 s40.2)).toNat * 1) hi58 (ZN (v:=x59) (x:=r35 ^^^ x53) hi61.1) (ZD (v:=x59) (x:=r35 ^^^ x53) hi61.1) (by first | omega | (simp only [Flat.n] <;> omega))) (by first | omega | (simp only [Flat.n] <;> omega))) fun w a hM hE=>Zf (Yc (Zp (wp_region_lit (Zg hE rfl rfl rfl fun a hE=>Zd hE rfl fun a hE=>Zf (Zh ?_)))))
          exact ⟨_,(ois hs41),hE.sub ⟨rfl,rfl,rfl,rfl,rfl,rfl,rfl,rfl,rfl,rfl,rfl,rfl,rfl,trivial⟩,hM⟩
        ·intro hb44
         have hs41:=Zt hs41 hb44
         refine wp_exit (Zm (Zm (Yb ?_)))
         obtain rfl:=hx42 _ (ois hs41)
         refine Zh ?_
         exact ⟨hE.sub ⟨rfl,rfl,rfl,rfl,rfl,rfl,rfl,rfl,rfl,rfl,trivial⟩,hM⟩
       ·skip
        rintro a w ⟨hE,hM⟩
        refine Yc (Zp (wp_region_lit (Zd hE rfl fun a hE=>Zg hE rfl rfl rfl fun a hE=>Zc hE rfl fun a hE=>Zf (Zh ?_))))
        exact ⟨_,(ois hF39),hE.sub ⟨rfl,rfl,rfl,rfl,rfl,rfl,rfl,rfl,rfl,rfl,trivial⟩,hM⟩
      ·intro hb34
       have hs31:=Zt hs31 hb34
       refine wp_exit (Zm (Zm (Yb ?_)))
       obtain rfl:=hx32 _ (ois hs31)
       refine Zh ?_
       exact ⟨hE.sub ⟨rfl,rfl,rfl,rfl,rfl,rfl,rfl,trivial⟩,hM⟩
     ·skip
      rintro a w ⟨hE,hM⟩
      refine Yc (Zp (wp_region_lit (Zg hE rfl rfl rfl fun a hE=>Zd hE rfl fun a hE=>Zf (Zh ?_))))
      exact ⟨_,(ois hF29),hE.sub ⟨rfl,rfl,rfl,rfl,rfl,rfl,rfl,trivial⟩,hM⟩
    ·intro hb23
     have hs20:=Zt hs20 hb23
     refine wp_exit (Zm (Zm (Yb ?_)))
     obtain rfl:=hx21 _ (ois hs20)
     refine Zh ?_
     exact ⟨hE.sub ⟨rfl,rfl,rfl,rfl,trivial⟩,hM⟩
   ·skip
    rintro a w ⟨hE,hM⟩
    refine Yc (Zp (wp_region_lit (Zg hE rfl rfl rfl fun a hE=>Zd hE rfl fun a hE=>Zf (Zh ?_))))
    exact ⟨_,(ois hF18),hE.sub ⟨rfl,rfl,rfl,rfl,trivial⟩,hM⟩
  ·intro hb12
   have hs9:=Zt hs9 hb12
   refine wp_exit (Zm (Zm (Yb ?_)))
   obtain rfl:=hx10 _ (ois hs9)
   refine Zh ?_
   have hM:=M.fst (l:=[_]) hM
   exact ⟨hE.sub ⟨rfl,trivial⟩,hM⟩
 ·skip
  rintro a w ⟨hE,hM⟩
  refine Zp (Zb (Zd hE rfl fun a hE=>Zc hE rfl fun a hE=>Ze ?_))
  have hM:=M.toRefF (x:=j5) hM
  obtain rfl:=Option.some.inj hF7
  exact wp_ret (ZP hE rfl (ZR hE rfl) ⟨_,rfl,(ptr b3 0),rfl,hM.outF (yR XD),hM.kept⟩)
def Vg (p0 : GCipher) : Option ((Ref Gengine)) :=
 (Xi p0.Field p0.Mix).bind fun r3=>(WL p0.Box).bind fun r8=>(Xv p0.Places).bind fun r10=>(WR p0.Field p0.Mix).bind fun r12=>(WR p0.Field r3.2).bind fun r15=>some (⟨(⟨p0.Box,r8,p0.Places,r10,r12,r15,p0.Rounds⟩ : Gengine)⟩ : (Ref Gengine))
theorem JD (w0 : World) (p0 : GCipher) (r : (Ref Gengine)) (hF : Vg p0 = some r) :
  Calls Tryz.prog 179 [(Value.agg (enc p0).toArray)].toArray w0 (fun en w'=>∃ v,en = .returned v ∧ (∃ (y1 : Value),v = y1 ∧ Fr w0 w' [own NoB (r : (Ref Gengine)) [y1]] ∧ Kept (Old w0) w0 w')):=by
 refine ce Tryz.func179 ?_
 intro a hE
 have hM:=M.start w0
 unfold Vg at hF
 refine Zb (ZZ (cs:=cat [[vI p0.Field],enc p0.Box,enc p0.Mix,enc p0.Places,[vI p0.Rounds]]) hE hM Za ld rfl rfl fun b1 w a hM hE=>Zc hE rfl fun a hE=>Ze (Zb (Zw hE rfl (Hm) fun a hE=>ZA (v:=(vI p0.Field)) hE rfl ty2 rfl (At.cat (pre:=[]) hM.rawAt0 cl0) fun a hE=>Zw hE rfl (KO) fun a hE=>Zq hE rfl Uc rfl (At.cat (pre:=[[vI p0.Field],enc p0.Box]) hM.rawAt0 ck) (Flat.len _) ?_))); intro a hE
 obtain ⟨r3,e4,hF⟩:=bind_some hF
 refine Zy hE rfl (cbm Tryz.func211) (Q9 _ p0.Field p0.Mix r3 e4) ?_
 rintro v w a ⟨rfl,hK⟩ hE
 have hM:=hM.keep hK
 refine Zd hE rfl fun a hE=>XS hE Za ld rfl rfl fun a hE=>XS hE Za ld rfl rfl fun a hE=>ZC hE hM Uc fun b5 w a hM hE=>Zc hE rfl fun a hE=>Zn (seg:=enc r3.2) (cs':=enc r3.2) hE hM Za rfl rfl rfl Uc (Flat.len _) (zle flq) (Flat.cell _) (Zk flq) fun w a hM hE=>Ze (wp_seq ?_)
 obtain ⟨r8,e9,hF⟩:=bind_some hF
 obtain ⟨r10,e11,hF⟩:=bind_some hF
 obtain ⟨r12,e13,hF⟩:=bind_some hF
 obtain ⟨r15,e16,hF⟩:=bind_some hF
 refine Yv (its:=[raw b5 (enc r3.2),raw b1 (cat [[vI p0.Field],enc p0.Box,enc p0.Mix,enc p0.Places,[vI p0.Rounds]])]) (mk:=([mkO 14 (fun v=>own NoB (r12 : (Ref (Vector (Vector (Vector UInt8 256) 4) 4))) [v]),mkO 18 (fun v=>own NoB (r15 : (Ref (Vector (Vector (Vector UInt8 256) 4) 4))) [v])] : Mk)) [13,14,15,16,17,18,19,20,21,22,23,24,25,26,27,28,29,30,31,32,33] Yq rfl rfl (by decide) rfl hE (fun u=>M.qE (M.qE (M.q0 hM.drew u) emO) emO) (qsP (fun z=>Zr z.E Za ld rfl (Q6) (kr0 rfl)) (qsP (v:=(Value.agg (enc p0.Box).toArray)) ?_ (qsP (fun z=>Zr z.E Za ld rfl (Q6) (kr0 rfl)) (qsP (v:=(Value.agg (enc p0.Box).toArray)) ?_ (qsP (fun z=>Yg z.E Za ld rfl (cbm Tryz.func212) (Kr _ p0.Box r8 e9) (kc rfl)) (qsP (fun z=>Zr z.E Za ld rfl (KH) (kr0 rfl)) (qsP (v:=(Value.agg (enc p0.Places).toArray)) ?_ (qsP (fun z=>Zr z.E Za ld rfl (KH) (kr0 rfl)) (qsP (v:=(Value.agg (enc p0.Places).toArray)) ?_ (qsP (fun z=>Yg z.E Za ld rfl (cbm Tryz.func213) (QH _ p0.Places r10 e11) (kc rfl)) (qsP (fun z=>Zr z.E Za ld rfl (Hm) (kr0 rfl)) (qsP (v:=(vI p0.Field)) ?_ (qsP (fun z=>Zr z.E Za ld rfl (KO) (kr0 rfl)) (qsP (v:=(Value.agg (enc p0.Mix).toArray)) ?_ (qsM (pr:=fun v=>True) ?_ (qsP (fun z=>Zr z.E Za ld rfl (Hm) (kr0 rfl)) (qsP (v:=(vI p0.Field)) ?_ (qsP (v:=(Value.agg (enc r3.2).toArray)) ?_ (qsM (pr:=fun v=>True) ?_ (qsP (fun z=>Zr z.E Za ld rfl (Az) (kr0 rfl)) (qsP (v:=(vI p0.Rounds)) ?_ qs0))))))))))))))))))))) ?_
 ·intro a w ux7 D z
  have hE:=z.E
  have hM:=z.M
  exact Zq hE rfl Xw rfl (At.cat (pre:=[[vI p0.Field]]) hM.rawAt1 ck) (Flat.len _) fun a hE=>⟨Kept.refl _ _,_,rfl,hE⟩
 ·intro a w ux7 D z
  have hE:=z.E
  have hM:=z.M
  exact Zq hE rfl Xw rfl (At.cat (pre:=[[vI p0.Field]]) hM.rawAt1 ck) (Flat.len _) fun a hE=>⟨Kept.refl _ _,_,rfl,hE⟩
 ·intro a w ux7 D z
  have hE:=z.E
  have hM:=z.M
  exact Zq hE rfl TF rfl (At.cat (pre:=[[vI p0.Field],enc p0.Box,enc p0.Mix]) hM.rawAt1 ck) (Flat.len _) fun a hE=>⟨Kept.refl _ _,_,rfl,hE⟩
 ·intro a w ux7 D z
  have hE:=z.E
  have hM:=z.M
  exact Zq hE rfl TF rfl (At.cat (pre:=[[vI p0.Field],enc p0.Box,enc p0.Mix]) hM.rawAt1 ck) (Flat.len _) fun a hE=>⟨Kept.refl _ _,_,rfl,hE⟩
 ·intro a w ux7 D z
  have hE:=z.E
  have hM:=z.M
  exact ZA (v:=(vI p0.Field)) hE rfl ty2 rfl (At.cat (pre:=[]) hM.rawAt1 cl0) fun a hE=>⟨Kept.refl _ _,_,rfl,hE⟩
 ·intro a w ux7 D z
  have hE:=z.E
  have hM:=z.M
  exact Zq hE rfl Uc rfl (At.cat (pre:=[[vI p0.Field],enc p0.Box]) hM.rawAt1 ck) (Flat.len _) fun a hE=>⟨Kept.refl _ _,_,rfl,hE⟩
 ·intro a w ux7 D z
  have hE:=z.E
  have hD : D 14 = false:=z.F
  have hM0:=z.M
  have hM:=z.M
  refine Zy hE rfl (cbm Tryz.func214) (QB _ p0.Field p0.Mix r12 e13) ?_
  rintro _ w a ⟨_,rfl,hFr,hK⟩ hE
  have hM:=hM0.add hK hFr
  exact ⟨_,_,rfl,hE,M.qFill (mk1:=[]) (mk2:=[_]) (f:=(fun v=>own NoB (r12 : (Ref (Vector (Vector (Vector UInt8 256) 4) 4))) [v])) hM rfl hD,trivial⟩
 ·intro a w ux7 D z
  have hE:=z.E
  have hM:=z.M
  exact ZA (v:=(vI p0.Field)) hE rfl ty2 rfl (At.cat (pre:=[]) hM.rawAt1 cl0) fun a hE=>⟨Kept.refl _ _,_,rfl,hE⟩
 ·intro a w ux7 D z
  have hE:=z.E
  have hM:=z.M
  exact Zq hE rfl Uc rfl hM.rawAt0 (Flat.len _) fun a hE=>⟨Kept.refl _ _,_,rfl,hE⟩
 ·intro a w ux7 D z
  have hE:=z.E
  have hD : D 18 = false:=z.F
  have hM0:=z.M
  have hM:=z.M
  refine Zy hE rfl (cbm Tryz.func214) (QB _ p0.Field r3.2 r15 e16) ?_
  rintro _ w a ⟨_,rfl,hFr,hK⟩ hE
  have hM:=hM0.add hK hFr
  exact ⟨_,_,rfl,hE,M.qFill (mk1:=[_]) (mk2:=[]) (f:=(fun v=>own NoB (r15 : (Ref (Vector (Vector (Vector UInt8 256) 4) 4))) [v])) hM rfl hD,trivial⟩
 ·intro a w ux7 D z
  have hE:=z.E
  have hM:=z.M
  exact ZA (v:=(vI p0.Rounds)) hE rfl ty2 rfl (At.cat (pre:=[[vI p0.Field],enc p0.Box,enc p0.Mix,enc p0.Places]) hM.rawAt1 ck) fun a hE=>⟨Kept.refl _ _,_,rfl,hE⟩
 ·intro a w ux7 D hE hM hG hall
  have d14:=hall 14 (by decide)
  have d18:=hall 18 (by decide)
  have hM:=(hM.sure (pre:=[_,_]) d14).sure (pre:=[_,_,_]) d18
  refine VB (parts:=[(0,.tmp 14),(1,.tmp 17),(2,.tmp 19),(3,.tmp 22),(4,.tmp 27),(5,.tmp 31),(6,.tmp 33)]) (vs:=[(0,(Value.agg (enc p0.Box).toArray)),(1,(Value.agg (enc r8).toArray)),(2,(Value.agg (enc p0.Places).toArray)),(3,(Value.agg (enc r10).toArray)),(4,(ux7 14)),(5,(ux7 18)),(6,vI p0.Rounds)]) (cs:=cat [enc p0.Box,enc r8,enc p0.Places,enc r10,[(ux7 14)],[(ux7 18)],[vI p0.Rounds]]) hE Za ld rfl rfl JN pl244 (Xh (pre:=[]) (seg:=enc (Vector.replicate 256 (0 : UInt8))) (seg':=enc p0.Box) (post:=[enc (Vector.replicate 256 (0 : UInt8)),enc (Vector.replicate 16 (0 : UInt8)),enc (Vector.replicate 16 (0 : UInt8)),[(Value.pointer none)],[(Value.pointer none)],[vI 0]]) rfl cl0 (Flat.len _) (Flat.len _) rfl (Xh (pre:=[enc p0.Box]) (seg:=enc (Vector.replicate 256 (0 : UInt8))) (seg':=enc r8) (post:=[enc (Vector.replicate 16 (0 : UInt8)),enc (Vector.replicate 16 (0 : UInt8)),[(Value.pointer none)],[(Value.pointer none)],[vI 0]]) rfl ck (Flat.len _) (Flat.len _) rfl (Xh (pre:=[enc p0.Box,enc r8]) (seg:=enc (Vector.replicate 16 (0 : UInt8))) (seg':=enc p0.Places) (post:=[enc (Vector.replicate 16 (0 : UInt8)),[(Value.pointer none)],[(Value.pointer none)],[vI 0]]) rfl ck (Flat.len _) (Flat.len _) rfl (Xh (pre:=[enc p0.Box,enc r8,enc p0.Places]) (seg:=enc (Vector.replicate 16 (0 : UInt8))) (seg':=enc r10) (post:=[[(Value.pointer none)],[(Value.pointer none)],[vI 0]]) rfl ck (Flat.len _) (Flat.len _) rfl (Xh (pre:=[enc p0.Box,enc r8,enc p0.Places,enc r10]) (seg:=[(Value.pointer none)]) (seg':=[(ux7 14)]) (post:=[[(Value.pointer none)],[vI 0]]) rfl ck rfl rfl (JG (hM.ro (pre:=[_,_]) noB)) (Xh (pre:=[enc p0.Box,enc r8,enc p0.Places,enc r10,[(ux7 14)]]) (seg:=[(Value.pointer none)]) (seg':=[(ux7 18)]) (post:=[[vI 0]]) rfl ck rfl rfl (JG (hM.ro (pre:=[_,_,_]) noB)) (Xh (pre:=[enc p0.Box,enc r8,enc p0.Places,enc r10,[(ux7 14)],[(ux7 18)]]) (seg:=[vI 0]) (seg':=[vI p0.Rounds]) (post:=[]) rfl ck rfl rfl rfl U6))))))) fun a hE=>ZZ (cs:=cat [enc p0.Box,enc r8,enc p0.Places,enc r10,[(ux7 14)],[(ux7 18)],[vI p0.Rounds]]) hE hM Za ld rfl rfl fun b18 w a hM hE=>Zc hE rfl fun a hE=>Zf (Zp ?_)
  have hM:=hM.pull4.pull4
  have hM:=(((hM.pack2 (it:=own NoB (⟨p0.Box,r8,p0.Places,r10,r12,r15,p0.Rounds⟩ : Gengine) (cat [enc p0.Box,enc r8,enc p0.Places,enc r10,[(ux7 14)],[(ux7 18)],[vI p0.Rounds]])) (Vw noB) (fun f0 f1 q0 q1=>(yC q0 q1 (by simp)))).pull1).pull1).pull1
  have hM:=M.toRef hM noB
  obtain rfl:=Option.some.inj hF
  have hM:=M.fst (l:=[_]) hM
  exact wp_ret (ZP hE rfl (ZR hE rfl) ⟨_,rfl,(ptr b18 0),rfl,hM.outF (yR XD),hM.kept⟩)
def U8 (p0 : Int) : Option ((Ref Gengine)) :=
 (WK p0).bind fun r1=>(Vg r1).bind fun r3=>some r3
theorem AC (w0 : World) (p0 : Int) (r : (Ref Gengine)) (hF : U8 p0 = some r) :
  Calls Tryz.prog 127 [vI p0].toArray w0 (fun en w'=>∃ v,en = .returned v ∧ (∃ (y1 : Value),v = y1 ∧ Fr w0 w' [own NoB (r : (Ref Gengine)) [y1]] ∧ Kept (Old w0) w0 w')):=by
 refine ce Tryz.func127 ?_
 intro a hE
 have hM:=M.start w0
 unfold U8 at hF
 refine Zb (Zc hE rfl fun a hE=>Ze (Zb (Zd hE rfl ?_))); intro a hE
 obtain ⟨r1,e2,hF⟩:=bind_some hF
 refine Zy hE rfl (cbm Tryz.func180) (Kv _ p0 r1 e2) ?_
 rintro v w a ⟨rfl,hK⟩ hE
 have hM:=hM.keep hK
 obtain ⟨r3,e4,hF⟩:=bind_some hF
 refine Zy hE rfl (cbm Tryz.func179) (JD _ r1 r3 e4) ?_
 rintro u5 w a ⟨_,rfl,hFr,hK⟩ hE
 have hM:=hM.add hK hFr
 refine Zc hE rfl fun a hE=>Ze ?_
 obtain rfl:=Option.some.inj hF
 exact wp_ret (ZP hE rfl (ZR hE rfl) ⟨_,rfl,u5,rfl,hM.outF (yR XD),hM.kept⟩)
def Uo : Option (Ghasher) :=
 (U8 8).bind fun r3=>some (⟨r3⟩ : Ghasher)
theorem JK (w0 : World)  (r : Ghasher) (hF : Uo  = some r) :
  Calls Tryz.prog 66 [].toArray w0 (fun en w'=>∃ v,en = .returned v ∧ (∃ (y1 : Value),v = (Value.agg (cat [[y1]]).toArray) ∧ Fr w0 w' [own NoB (r.engine : (Ref Gengine)) [y1]] ∧ Kept (Old w0) w0 w')):=by
 refine ce Tryz.func66 ?_
 intro a hE
 have hM:=M.start w0
 unfold Uo at hF
 refine Zb (ZC hE hM zu fun b1 w a hM hE=>Ze (Zb ?_))
 obtain ⟨r3,e4,hF⟩:=bind_some hF
 refine Zy hE rfl (cbm Tryz.func127) (AC _ 8 r3 e4) ?_
 rintro u5 w a ⟨_,rfl,hFr,hK⟩ hE
 have hM:=hM.add hK hFr
 refine VB (parts:=[(0,.tmp 1)]) (vs:=[(0,u5)]) (cs:=cat [[u5]]) hE Za ld rfl rfl zu pl102 (Xh (pre:=[]) (seg:=[(Value.pointer none)]) (seg':=[u5]) (post:=[]) rfl cl0 rfl rfl (JG (hM.ro (pre:=[]) noB)) U6) ?_; intro a hE
 have hM:=hM.pull1
 refine Zn (seg:=cat [[u5]]) (cs':=cat [[u5]]) hE hM Za rfl rfl rfl zu cq (Nat.le_of_eq ((Nat.zero_add _).trans (Eq.trans cq (Eq.symm cq)))) (YC (cc1 (Rep.cell (hM.ro (pre:=[_]) noB)) cc0)) (Zk (Eq.trans cq (Eq.symm cq))) fun w a hM hE=>Ze ?_
 obtain rfl:=Option.some.inj hF
 have hq6 : Yz Tryz.prog _ _ (.cell 0 102) _:=ZS hE rfl zu rfl hM.rawAt0 cq rfl
 have hM:=M.fst (l:=[_]) hM.pull1
 exact wp_ret (ZP hE rfl hq6 ⟨_,rfl,u5,rfl,hM.outF (yR XD),hM.kept⟩)
def UM (p0 : (List UInt8)) (p1 : (List UInt8)) : Option (Int) :=
 some (UF p0 p1)
theorem J8 (w0 : World) (p0 : (List UInt8)) (v0_1 : Value) (hv0_1 : Ro w0 p0 [v0_1]) (p1 : (List UInt8)) (v1_1 : Value) (hv1_1 : Ro w0 p1 [v1_1]) (r : Int) (hF : UM p0 p1 = some r) :
  Calls Tryz.prog 135 [v0_1,v1_1].toArray w0 (Rt w0 (vI r)):=by
 refine ce Tryz.func135 ?_
 intro a hE
 have hM:=M.start w0
 unfold UM at hF
 refine Zb (Zc hE rfl fun a hE=>Ze (Zb (Zd hE rfl fun a hE=>Zd hE rfl fun a hE=>Bm (xs:=[.tmp 5,.tmp 6]) hE Za ld rfl Tryz.func184 rfl (by decide) (by kernel_rfl) (by kernel_rfl) (hM.rd hv0_1) (hM.rd hv1_1) fun a hE=>Zc hE rfl fun a hE=>Ze ?_)))
 obtain rfl:=Option.some.inj hF
 exact wp_ret (kr1 hE rfl rfl hM.kept)
def ZT (p0 : (Vector UInt8 32)) (p1 : (Vector UInt8 32)) : Option (Int) :=
 ((slc p0.toList (0 : Int) (32 : Int)).bind fun l9=>(slc p1.toList (0 : Int) (32 : Int)).bind fun l12=>(UM l9 l12).bind fun r15=>some r15 : Option (Int)).bind fun j5=>some j5
theorem Tj (w0 : World) (p0 : (Vector UInt8 32)) (p1 : (Vector UInt8 32)) (r : Int) (hF : ZT p0 p1 = some r) :
  Calls Tryz.prog 71 [(Value.agg (enc p0).toArray),(Value.agg (enc p1).toArray)].toArray w0 (Rt w0 (vI r)):=by
 refine ce Tryz.func71 ?_
 intro a hE
 have hM:=M.start w0
 unfold ZT at hF
 refine Zb (ZZ (cs:=enc p0) hE hM Za ld rfl rfl fun b1 w a hM hE=>ZZ (cs:=enc p1) hE hM Za ld rfl rfl fun b3 w a hM hE=>Zc hE rfl fun a hE=>Ze ?_)
 obtain ⟨j5,hl6,hF7⟩:=bind_some hF
 refine ZK (fun a w=>Env 8 a [(4,vI j5)] ∧ M (Old w0) w0 w []) ?_ ?_
 ·skip
  obtain ⟨l9,e10,hl6⟩:=bind_some hl6
  have hb11:=Qp e10 -- ^
  obtain ⟨l12,e13,hl6⟩:=bind_some hl6
  have hb14:=Qp e13 -- ^
  obtain ⟨r15,e16,hl6⟩:=bind_some hl6
  refine ZV [5,6,7,4] Yq rfl rfl (by decide) rfl hE hM (qsP (fun z=>UV (N:=32) z.E Za ld rfl rfl rfl rfl rfl Tryz.underlying35 ty5 hb11 (kr0 rfl)) (qsP (fun z=>UV (N:=32) z.E Za ld rfl rfl rfl rfl rfl Tryz.underlying35 ty5 hb14 (kr0 rfl)) (qsP (fun z=>Yg z.E Za ld rfl (cbm Tryz.func135) (J8 _ l9 (Ym (.slice (some ⟨b1,0,none⟩) 32 32) ((0 : Int)).toNat ((32 : Int)).toNat 1) (Xx (At.sat (z.M.rawAt1) (by simp) (by decide)) e10) l12 (Ym (.slice (some ⟨b3,0,none⟩) 32 32) ((0 : Int)).toNat ((32 : Int)).toNat 1) (Xx (At.sat (z.M.rawAt0) (by simp) (by decide)) e13) r15 e16) (kc rfl)) (qsP (fun z=>Qd z.E Za ld rfl (kr0 rfl)) qs0)))) ?_
  ·intro a w u hE hM
   refine Zf ?_
   obtain rfl:=Option.some.inj hl6
   refine Zh ?_
   have hM:=M.fst (l:=[]) hM
   exact ⟨hE.sub ⟨rfl,trivial⟩,hM⟩
 ·skip
  rintro a w ⟨hE,hM⟩
  obtain rfl:=Option.some.inj hF7
  exact wp_ret (kr1 hE rfl rfl hM.kept)
def TE (p0 : (List (Vector UInt8 32))) (s5 : Int) : Option (Fl Int (Fl Unit Bool)) :=
 if (decide (s5 < (p0.length : Int))) = true then (((idx p0 (wr (s5 - 1))).bind fun x14=>(idx p0 s5).bind fun x17=>(ZT x14 x17).bind fun r20=>some (decide (r20 ≥ 0)) : Option (Bool)).bind fun j10=>if j10 = true then (some (Fl.ex (Fl.ex false))) else (some (Fl.nx (wr (s5 + 1))))) else (some (Fl.ex (Fl.nx ())))
def Ud (p0 : (List (Vector UInt8 32))) : Option (Bool) :=
 (Zz (TE p0) 1).bind fun j1=>j1.el (fun s4=>some true) (fun r=>some r)
theorem H3 (w0 : World) (p0 : (List (Vector UInt8 32))) (v0_1 : Value) (hv0_1 : Ro w0 p0 [v0_1]) (r : Bool) (hF : Ud p0 = some r) :
  Calls Tryz.prog 128 [v0_1].toArray w0 (Rt w0 (vT r)):=by
 refine ce Tryz.func128 ?_
 intro a hE
 have hM:=M.start w0
 unfold Ud at hF
 refine Zb (Zc hE rfl fun a hE=>Ze (wp_seq (Zb (Zc hE rfl fun a hE=>Ze ?_))))
 obtain ⟨j1,hl2,hF3⟩:=bind_some hF
 refine ZM (fun a w=>∃ s4 : Unit,j1 = Fl.nx s4 ∧ Env 21 a [] ∧ M (Old w0) w0 w []) ?_ ?_
 ·skip
  refine wp_block ?_
  refine ZE (fun (s5 : Int) a w=>Env 21 a [(0,v0_1),(3,vI s5)] ∧ M (Old w0) w0 w []) hl2 ⟨hE.sub ⟨rfl,rfl,trivial⟩,hM⟩ ?_
  rintro s5 a w ⟨hE,hM⟩ o8 hs6 hx7
  unfold TE at hs6
  refine wp_seq (Zb (Zd hE rfl fun a hE=>Zd hE rfl fun a hE=>Z7 hE rfl Tryz.underlying29 (hM.rd hv0_1) fun a hE=>Zg hE rfl rfl rfl fun a hE=>Ze ?_))
  refine Zo hE rfl ?_ ?_
  ·intro hb9
   have hs6:=Zs hs6 hb9
   refine wp_skip (Zp (wp_seq (wp_block ?_)))
   obtain ⟨j10,hl11,hF12⟩:=bind_some hs6
   refine ZK (fun a w=>Env 21 a [(0,v0_1),(3,vI s5),(20,vT j10)] ∧ M (Old w0) w0 w []) ?_ ?_
   ·skip
    obtain ⟨x14,hi16,hl11⟩:=bix hl11
    obtain ⟨x17,hi19,hl11⟩:=bix hl11
    obtain ⟨r20,e21,hl11⟩:=bind_some hl11
    refine ZV [10,11,12,13,14,15,16,17,18,19,20] Yq rfl rfl (by decide) rfl hE hM (qsP (fun z=>Zi z.E Za ld rfl (kr0 rfl)) (qsP (fun z=>Zi z.E Za ld rfl (kr0 rfl)) (qsP (v:=(vI (wr (s5 - 1)))) (fun z=>Yd z.E Za ld rfl rfl rfl (kr0 rfl)) (qsP (fun z=>ZX z.E Za ld rfl rfl Tryz.underlying29 Z3 (z.M.rd hv0_1) hi16.1 (kr0 rfl)) (qsP (fun z=>Z0 z.E Za ld rfl Z3 rfl (Yl (z.M.rd hv0_1) hi16.2) (Flat.len _) (kr0 rfl)) (qsP (fun z=>Zi z.E Za ld rfl (kr0 rfl)) (qsP (fun z=>Zi z.E Za ld rfl (kr0 rfl)) (qsP (fun z=>ZX z.E Za ld rfl rfl Tryz.underlying29 Z3 (z.M.rd hv0_1) hi19.1 (kr0 rfl)) (qsP (fun z=>Z0 z.E Za ld rfl Z3 rfl (Yl (z.M.rd hv0_1) hi19.2) (Flat.len _) (kr0 rfl)) (qsP (fun z=>Yg z.E Za ld rfl (cbm Tryz.func71) (Tj _ x14 x17 r20 e21) (kc rfl)) (qsP (fun z=>Yd z.E Za ld rfl rfl rfl (kr0 rfl)) qs0))))))))))) ?_
    ·intro a w u hE hM
     refine Zf ?_
     obtain rfl:=Option.some.inj hl11
     refine Zh ?_
     exact ⟨hE.sub ⟨rfl,rfl,rfl,trivial⟩,hM⟩
   ·skip
    rintro a w ⟨hE,hM⟩
    refine Zo hE rfl ?_ ?_
    ·intro hb23
     have hF12:=Zs hF12 hb23
     refine Zb (Zc hE rfl fun a hE=>Ze ?_)
     obtain rfl:=hx7 _ (ois hF12)
     obtain rfl:=Option.some.inj hF3
     exact wp_ret (XW (Zx (Zx (XW (Zx (Zx (kr1 hE rfl rfl hM.kept)))))))
    ·intro hb23
     have hF12:=Zt hF12 hb23
     refine wp_skip (Yc (Zp (wp_region_lit (Zd hE rfl fun a hE=>Zg hE rfl rfl rfl fun a hE=>Zc hE rfl fun a hE=>Zf (Zh ?_)))))
     exact ⟨_,(ois hF12),hE.sub ⟨rfl,rfl,trivial⟩,hM⟩
  ·intro hb9
   have hs6:=Zt hs6 hb9
   refine wp_exit (Zm (Zm (Yb ?_)))
   obtain rfl:=hx7 _ (ois hs6)
   refine Zh ?_
   exact ⟨(),rfl,hE.sub trivial,hM⟩
 ·skip
  rintro a w ⟨s4,ht,hE,hM⟩
  subst ht
  have hF3:=Tw hF3
  refine Zp (Zb (Zc hE rfl fun a hE=>Ze ?_))
  obtain rfl:=Option.some.inj hF3
  exact wp_ret (kr1 hE rfl rfl hM.kept)
def Tq (p0 : (List UInt8)) : Option (Bool) :=
 some (decide ((p0.length : Int) ≤ 2000))
theorem Qb (w0 : World) (p0 : (List UInt8)) (v0_1 : Value) (hv0_1 : Ro w0 p0 [v0_1]) (r : Bool) (hF : Tq p0 = some r) :
  Calls Tryz.prog 68 [v0_1].toArray w0 (Rt w0 (vT r)):=by
 refine ce Tryz.func68 ?_
 intro a hE
 have hM:=M.start w0
 unfold Tq at hF
 refine Zb (Zc hE rfl fun a hE=>Ze (Zb (Zd hE rfl fun a hE=>Z7 hE rfl Tryz.underlying40 (hM.rd hv0_1) fun a hE=>Zg hE rfl rfl rfl fun a hE=>Zc hE rfl fun a hE=>Ze ?_)))
 obtain rfl:=Option.some.inj hF
 exact wp_ret (kr1 hE rfl rfl hM.kept)
def Uf (p0 : Int) (p1 : Int) (p2 : Int) : Option (Bool) :=
 (if (decide (p1 ≤ p0)) = true then (some (decide (p0 ≤ p2))) else (some false) : Option (Bool)).bind fun j1=>some j1
theorem QT (w0 : World) (p0 : Int) (p1 : Int) (p2 : Int) (r : Bool) (hF : Uf p0 p1 p2 = some r) :
  Calls Tryz.prog 129 [vI p0,vI p1,vI p2].toArray w0 (Rt w0 (vT r)):=by
 refine ce Tryz.func129 ?_
 intro a hE
 have hM:=M.start w0
 unfold Uf at hF
 refine Zb (Zc hE rfl fun a hE=>Ze ?_)
 obtain ⟨j1,hl2,hF3⟩:=bind_some hF
 refine ZK (fun a w=>Env 15 a [(6,vT j1)] ∧ M (Old w0) w0 w []) ?_ ?_
 ·skip
  refine wp_region_lit (Zd hE rfl fun a hE=>Zd hE rfl fun a hE=>Zg hE rfl rfl rfl fun a hE=>Zd hE rfl ?_); intro a hE
  refine Vs (decide (p1 ≤ p0)) (fun hb4=>?_) (fun hb4=>?_)
  ·have hl2:=Zs hl2 hb4
   refine Zi hE (Zj hE rfl (lkb rfl hb4)) (by decide) rfl fun a hE=>Zi hE (Zj hE rfl (lkb rfl hb4)) (by decide) rfl fun a hE=>Yd hE (Zj hE rfl (lkb rfl hb4)) (by decide) rfl rfl rfl fun a hE=>Xr hE (lkb rfl hb4) rfl fun a hE=>Zc hE rfl fun a hE=>Zf ?_
   obtain rfl:=Option.some.inj hl2
   refine Zh ?_
   exact ⟨hE.sub ⟨rfl,trivial⟩,hM⟩
  ·have hl2:=Zt hl2 hb4
   refine Zl hE rfl (lkb rfl hb4) rfl (by decide) fun a hE=>Zl hE rfl (lkb rfl hb4) rfl (by decide) fun a hE=>Zl hE rfl (lkb rfl hb4) rfl (by decide) fun a hE=>VX hE (lkb rfl hb4) rfl fun a hE=>Zc hE rfl fun a hE=>Zf ?_
   obtain rfl:=Option.some.inj hl2
   refine Zh ?_
   exact ⟨hE.sub ⟨rfl,trivial⟩,hM⟩
 ·skip
  rintro a w ⟨hE,hM⟩
  obtain rfl:=Option.some.inj hF3
  exact wp_ret (kr1 hE rfl rfl hM.kept)
def YQ (s8 : (Vector UInt8 32) × Int) : Option (Fl ((Vector UInt8 32) × Int) (Vector UInt8 32)) :=
 if (decide (s8.2 < 32)) = true then ((ZI s8.1 s8.2).bind fun x14=>some (Fl.nx ((s8.1.setIfInBounds (s8.2).toNat (ZG (wr (17 * s8.2)))),wr (s8.2 + 1)))) else (some (Fl.ex s8.1))
def XI : Option ((Vector UInt8 32)) :=
 (Zz (YQ) ((Vector.replicate 32 (0 : UInt8)),0)).bind fun j5=>some j5
theorem QO (w0 : World)  (r : (Vector UInt8 32)) (hF : XI  = some r) :
  Calls Tryz.prog 130 [].toArray w0 (Rt w0 (Value.agg (enc r).toArray)):=by
 refine ce Tryz.func130 ?_
 intro a hE
 have hM:=M.start w0
 unfold XI at hF
 refine Zb (ZC hE hM Z3 fun b1 w a hM hE=>Ze (Zb (XP (parts:=[]) (vs:=[]) (cs:=enc (Vector.replicate 32 (0 : UInt8))) hE Za ld rfl rfl Z3 rfl ty5 Y1 fun a hE=>ZC hE hM Z3 fun b3 w a hM hE=>Zn (seg:=enc (Vector.replicate 32 (0 : UInt8))) (cs':=enc (Vector.replicate 32 (0 : UInt8))) hE hM Za rfl rfl rfl Z3 (Flat.len _) (zle flq) (Flat.cell _) (Zk flq) fun w a hM hE=>Ze (wp_seq (Zb (Zd hE rfl fun a hE=>Ze ?_))))))
 obtain ⟨j5,hl6,hF7⟩:=bind_some hF
 refine ZM (fun a w=>Env 14 a [(0,(ptr b1 0)),(1,(ptr b3 0))] ∧ M (Old w0) w0 w [raw b3 (enc j5),raw b1 (enc (Vector.replicate 32 (0 : UInt8)))]) ?_ ?_
 ·skip
  refine wp_block ?_
  refine ZE (fun (s8 : (Vector UInt8 32) × Int) a w=>Env 14 a [(0,(ptr b1 0)),(1,(ptr b3 0)),(4,vI s8.2)] ∧ M (Old w0) w0 w [raw b3 (enc s8.1),raw b1 (enc (Vector.replicate 32 (0 : UInt8)))]) hl6 ⟨hE.sub ⟨rfl,rfl,rfl,trivial⟩,hM⟩ ?_
  rintro s8 a w ⟨hE,hM⟩ o11 hs9 hx10
  unfold YQ at hs9
  refine Zb (Zg hE rfl rfl rfl fun a hE=>Ze (wp_seq ?_))
  refine Zo hE rfl ?_ ?_
  ·intro hb12
   have hs9:=Zs hs9 hb12
   refine wp_skip (Zp (wp_seq (wp_block (Zb (Zd hE rfl fun a hE=>Zc hE rfl fun a hE=>Ze (wp_region_lit (Zd hE rfl fun a hE=>Zd hE rfl fun a hE=>Zg hE rfl rfl rfl fun a hE=>Xb hE Za ld rfl Tryz.underlying3 Tryz.underlying5 ?_))))))); intro a hE
   obtain ⟨x14,hi13,hs9⟩:=bvx hs9
   refine ZF hE rfl rfl Tryz.underlying35 ty5 hi13.1 fun a hE=>Zn (seg:=[(vB (ZG (wr (17 * s8.2))))]) (cs':=enc (s8.1.setIfInBounds (s8.2).toNat (ZG (wr (17 * s8.2))))) hE hM Za rfl rfl rfl ty5 rfl (ZN (v:=s8.1) (x:=ZG (wr (17 * s8.2))) hi13.1) (Flat.cell (ZG (wr (17 * s8.2)) : UInt8)) (ZD (v:=s8.1) (x:=ZG (wr (17 * s8.2))) hi13.1) fun w a hM hE=>Zf (Yc (Zp (wp_region_lit (Zg hE rfl rfl rfl fun a hE=>Zd hE rfl fun a hE=>Zf (Zh ?_)))))
   exact ⟨_,(ois hs9),hE.sub ⟨rfl,rfl,rfl,trivial⟩,hM⟩
  ·intro hb12
   have hs9:=Zt hs9 hb12
   refine wp_exit (Zm (Zm (Yb ?_)))
   obtain rfl:=hx10 _ (ois hs9)
   refine Zh ?_
   exact ⟨hE.sub ⟨rfl,rfl,trivial⟩,hM⟩
 ·skip
  rintro a w ⟨hE,hM⟩
  refine Zp (Zb (Zq hE rfl Z3 rfl hM.rawAt0 (Flat.len _) ?_)); intro a hE
  have hM:=hM.pull1
  refine Zn (seg:=enc j5) (cs':=enc j5) hE hM Za rfl rfl rfl Z3 (Flat.len _) (zle flq) (Flat.cell _) (Zk flq) fun w a hM hE=>Ze ?_
  obtain rfl:=Option.some.inj hF7
  have hq17 : Yz Tryz.prog _ _ (.cell 0 35) _:=ZS hE rfl Z3 rfl hM.rawAt0 (Flat.len _) rfl
  exact wp_ret (ZP hE rfl hq17 ⟨_,rfl,rfl,hM.kept⟩)
def Yw (p1 : Int) : Option ((List UInt8)) :=
 (if (decide (p1 < 0)) = true then (none) else (some ()) : Option (Unit)).bind fun j1=>(if (decide ((wr (p1 - (wr (0 - 0)))) > 0)) = true then ((mkS 1 (0 : UInt8) (wr (p1 - (wr (0 - 0))))).bind fun l14=>(slc l14 (0 : Int) (0 : Int)).bind fun l16=>some l16) else (some ([])) : Option ((List UInt8))).bind fun j6=>some j6
theorem TK (w0 : World) (p1 : Int) (r : (List UInt8)) (hF : Yw p1 = some r) :
  Calls Tryz.prog 181 [(Value.slice none 0 0),vI p1].toArray w0 (fun en w'=>∃ v,en = .returned v ∧ (∃ (y1 : Value),v = y1 ∧ Fr w0 w' [osl NoB (r : List UInt8) y1] ∧ Kept (Old w0) w0 w')):=by
 refine ce Tryz.func181 ?_
 intro a hE
 have hM:=M.start w0
 unfold Yw at hF
 refine Zb (Zc hE rfl fun a hE=>Ze ?_)
 obtain ⟨j1,hl2,hF3⟩:=bind_some hF
 refine ZK (fun a w=>Env 27 a [(0,(Value.slice none 0 0)),(1,vI p1)] ∧ M (Old w0) w0 w []) ?_ ?_
 ·skip
  refine Zb (Zd hE rfl fun a hE=>Zg hE rfl rfl rfl fun a hE=>Ze ?_)
  refine Zo hE rfl ?_ ?_
  ·intro hb4
   have hl2:=Zs hl2 hb4
   cases hl2
  ·intro hb4
   have hl2:=Zt hl2 hb4
   refine wp_skip ?_
   obtain rfl:=Option.some.inj hl2
   refine Zh ?_
   exact ⟨hE.sub ⟨rfl,rfl,trivial⟩,hM⟩
 ·skip
  rintro a w ⟨hE,hM⟩
  obtain ⟨j6,hl7,hF8⟩:=bind_some hF3
  refine ZK (fun a w=>∃ (u9 : Value),Env 27 a [(0,u9)] ∧ M (Old w0) w0 w [osl NoB (j6 : List UInt8) u9]) ?_ ?_
  ·skip
   refine Zb (Zd hE rfl fun a hE=>Zd hE rfl fun a hE=>A5 hE Za ld rfl Tryz.underlying40 fun a hE=>Zd hE rfl fun a hE=>zj hE Za ld rfl Tryz.underlying40 fun a hE=>Zg hE rfl rfl rfl fun a hE=>Zg hE rfl rfl rfl fun a hE=>Zc hE rfl fun a hE=>Ze (Zb (Zd hE rfl fun a hE=>Zg hE rfl rfl rfl fun a hE=>Ze ?_)))
   refine Zo hE rfl ?_ ?_
   ·intro hb11
    have hl7:=Zs hl7 hb11
    refine wp_region_lit (Zd hE rfl fun a hE=>Zd hE rfl fun a hE=>A5 hE Za ld rfl Tryz.underlying40 fun a hE=>yo hE Za ld rfl rfl Tryz.underlying40 ty5 fun a hE=>Zd hE rfl ?_); intro a hE
    obtain ⟨l14,e15,hl7⟩:=bind_some hl7
    refine jp hE hM Za ld rfl rfl Tryz.underlying40 Tryz.underlying3 ty5 rfl (by decide) (by decide) (fun _=>Tz.2 ⟨rfl,rfl⟩) e15 fun u12 w a hM hE=>Zd hE rfl fun a hE=>zj hE Za ld rfl Tryz.underlying40 ?_; intro a hE
    obtain ⟨l16,e17,hl7⟩:=bind_some hl7
    refine Vz hE Za ld rfl rfl rfl rfl rfl Tryz.underlying40 ty5 (hM.sl (pre:=[]) noB) e17 ?_; intro a hE
    have hM:=hM.cut noB e17
    refine Zc hE rfl fun a hE=>Zf ?_
    obtain rfl:=Option.some.inj hl7
    refine Zh ?_
    exact ⟨(Ym u12 ((0 : Int)).toNat ((0 : Int)).toNat 1),hE.sub ⟨rfl,trivial⟩,hM⟩
   ·intro hb11
    have hl7:=Zt hl7 hb11
    refine wp_skip ?_
    obtain rfl:=Option.some.inj hl7
    refine Zh ?_
    have hM:=M.nilS (α:=UInt8) NoB noB hM
    exact ⟨(Value.slice none 0 0),hE.sub ⟨rfl,trivial⟩,hM⟩
  ·skip
   rintro a w ⟨u9,hE,hM⟩
   refine Zb (Zd hE rfl fun a hE=>Zc hE rfl fun a hE=>Ze ?_)
   obtain rfl:=Option.some.inj hF8
   exact wp_ret (ZP hE rfl (ZR hE rfl) ⟨_,rfl,u9,rfl,hM.outF (Yu XD),hM.kept⟩)
def Xc (p0 : (List (List UInt8))) (s4 : Int × Int) : Option (Fl (Int × Int) Int) :=
 if (decide (s4.1 < (p0.length : Int))) = true then (((idx p0 s4.1).bind fun x12=>(if (decide ((wr (s4.2 + (x12.length : Int))) < 0)) = true then (none) else (some ()) : Option (Unit)).bind fun j20=>some (wr (s4.2 + (x12.length : Int))) : Option (Int)).bind fun j9=>some (Fl.nx (wr (s4.1 + 1),j9))) else (some (Fl.ex s4.2))
def Y7 (p0 : (List (List UInt8))) (s35 : Int × (List UInt8)) : Option (Fl (Int × (List UInt8)) (List UInt8)) :=
 if (decide (s35.1 < (p0.length : Int))) = true then ((idx p0 s35.1).bind fun x42=>(app 1 s35.2 x42).bind fun l50=>some (Fl.nx (wr (s35.1 + 1),(s35.2 ++ x42)))) else (some (Fl.ex s35.2))
def Z2 (p0 : (List (List UInt8))) : Option ((List UInt8)) :=
 (Zz (Xc p0) (0,0)).bind fun j1=>(Yw j1).bind fun r27=>(Zz (Y7 p0) (0,r27)).bind fun j30=>some j30
theorem UC (w0 : World) (p0 : (List (List UInt8))) (v0_1 : Value) (hv0_1 : Ro w0 p0 [v0_1]) (r : (List UInt8)) (hF : Z2 p0 = some r) :
  Calls Tryz.prog 133 [v0_1].toArray w0 (fun en w'=>∃ v,en = .returned v ∧ (∃ (y1 : Value),v = y1 ∧ Fr w0 w' [osl NoB (r : List UInt8) y1] ∧ Kept (Old w0) w0 w')):=by
 refine ce Tryz.func133 ?_
 intro a hE
 have hM:=M.start w0
 unfold Z2 at hF
 refine Zb (Zc hE rfl fun a hE=>Ze (Zb (Zc hE rfl fun a hE=>Ze (wp_seq (Zb (Zd hE rfl fun a hE=>Z7 hE rfl Tryz.underlying23 (hM.rd hv0_1) fun a hE=>Zd hE rfl fun a hE=>Ze ?_))))))
 obtain ⟨j1,hl2,hF3⟩:=bind_some hF
 refine ZM (fun a w=>Env 36 a [(0,v0_1),(3,vI j1)] ∧ M (Old w0) w0 w []) ?_ ?_
 ·skip
  refine wp_block ?_
  refine ZE (fun (s4 : Int × Int) a w=>Env 36 a [(0,v0_1),(3,vI s4.2),(9,v0_1),(10,(vI (p0.length : Int))),(11,vI s4.1)] ∧ M (Old w0) w0 w []) hl2 ⟨hE.sub ⟨rfl,rfl,rfl,rfl,rfl,trivial⟩,hM⟩ ?_
  rintro s4 a w ⟨hE,hM⟩ o7 hs5 hx6
  unfold Xc at hs5
  refine Zb (Zg hE rfl rfl rfl fun a hE=>Ze (wp_seq ?_))
  refine Zo hE rfl ?_ ?_
  ·intro hb8
   have hs5:=Zs hs5 hb8
   refine wp_skip (Zp ?_)
   obtain ⟨j9,hl10,hF11⟩:=bind_some hs5
   refine ZK (fun a w=>Env 36 a [(0,v0_1),(3,vI j9),(9,v0_1),(10,(vI (p0.length : Int))),(11,vI s4.1)] ∧ M (Old w0) w0 w []) ?_ ?_
   ·skip
    refine wp_block (Zb ?_)
    obtain ⟨x12,hi14,hl10⟩:=bix hl10
    refine Z9 hE rfl rfl Tryz.underlying23 XQ (hM.rd hv0_1) hi14.1 ?_; intro a hE
    obtain ⟨cs15,hs16,hA17⟩:=UO hv0_1 hi14.2 -- ^
    obtain ⟨u18,rfl⟩:=Vx hs16 -- ^
    have h19:=hs16 -- ^
    refine ZA (v:=u18) hE rfl XQ rfl (hM.atk hA17 (US hv0_1 hi14.2)) fun a hE=>Zc hE rfl fun a hE=>Ze (Zb (Zd hE rfl fun a hE=>Zd hE rfl fun a hE=>Z7 hE rfl Tryz.underlying40 (hM.rd h19) fun a hE=>Zg hE rfl rfl rfl fun a hE=>Zc hE rfl fun a hE=>Ze (Zb (Zd hE rfl fun a hE=>Zg hE rfl rfl rfl fun a hE=>Ze ?_))))
    obtain ⟨j20,hl21,hF22⟩:=bind_some hl10
    refine ZM (fun a w=>Env 36 a [(0,v0_1),(3,(vI (wr (s4.2 + (x12.length : Int))))),(9,v0_1),(10,(vI (p0.length : Int))),(11,vI s4.1)] ∧ M (Old w0) w0 w []) ?_ ?_
    ·skip
     refine Zo hE rfl ?_ ?_
     ·intro hb23
      have hl21:=Zs hl21 hb23
      cases hl21
     ·intro hb23
      have hl21:=Zt hl21 hb23
      refine wp_skip ?_
      obtain rfl:=Option.some.inj hl21
      refine Zh ?_
      exact ⟨hE.sub ⟨rfl,rfl,rfl,rfl,rfl,trivial⟩,hM⟩
    ·skip
     rintro a w ⟨hE,hM⟩
     refine Yc ?_
     obtain rfl:=Option.some.inj hF22
     refine Zh ?_
     exact ⟨hE.sub ⟨rfl,rfl,rfl,rfl,rfl,trivial⟩,hM⟩
   ·skip
    rintro a w ⟨hE,hM⟩
    refine wp_region_lit (Zg hE rfl rfl rfl fun a hE=>Zd hE rfl fun a hE=>Zf (Zh ?_))
    exact ⟨_,(ois hF11),hE.sub ⟨rfl,rfl,rfl,rfl,rfl,trivial⟩,hM⟩
  ·intro hb8
   have hs5:=Zt hs5 hb8
   refine wp_exit (Zm (Zm (Yb ?_)))
   obtain rfl:=hx6 _ (ois hs5)
   refine Zh ?_
   exact ⟨hE.sub ⟨rfl,rfl,trivial⟩,hM⟩
 ·skip
  rintro a w ⟨hE,hM⟩
  refine Zp (Zb (Zd hE rfl ?_)); intro a hE
  obtain ⟨r27,e28,hF3⟩:=bind_some hF3
  refine Zy hE rfl (cbm Tryz.func181) (TK _ j1 r27 e28) ?_
  rintro u29 w a ⟨_,rfl,hFr,hK⟩ hE
  have hM:=hM.add hK hFr
  refine Zc hE rfl fun a hE=>Ze (wp_seq (Zb (Zd hE rfl fun a hE=>Z7 hE rfl Tryz.underlying23 (hM.rd hv0_1) fun a hE=>Zd hE rfl fun a hE=>Ze ?_)))
  obtain ⟨j30,hl31,hF32⟩:=bind_some hF3
  refine ZM (fun a w=>∃ (u33 : Value),Env 36 a [(6,u33)] ∧ M (Old w0) w0 w [osl NoB (j30 : List UInt8) u33]) ?_ ?_
  ·skip
   refine wp_block ?_
   refine ZE (fun (s35 : Int × (List UInt8)) a w=>∃ (u36 : Value),Env 36 a [(6,u36),(25,v0_1),(26,(vI (p0.length : Int))),(27,vI s35.1)] ∧ M (Old w0) w0 w [osl NoB (s35.2 : List UInt8) u36]) hl31 ⟨u29,hE.sub ⟨rfl,rfl,rfl,rfl,trivial⟩,hM⟩ ?_
   rintro s35 a w ⟨u36,hE,hM⟩ o40 hs38 hx39
   unfold Y7 at hs38
   refine Zb (Zg hE rfl rfl rfl fun a hE=>Ze (wp_seq ?_))
   refine Zo hE rfl ?_ ?_
   ·intro hb41
    have hs38:=Zs hs38 hb41
    refine wp_skip (Zp (wp_seq (wp_block (Zb ?_))))
    obtain ⟨x42,hi44,hs38⟩:=bix hs38
    refine Z9 hE rfl rfl Tryz.underlying23 XQ (hM.rd hv0_1) hi44.1 ?_; intro a hE
    obtain ⟨cs45,hs46,hA47⟩:=UO hv0_1 hi44.2 -- ^
    obtain ⟨u48,rfl⟩:=Vx hs46 -- ^
    have h49:=hs46 -- ^
    refine ZA (v:=u48) hE rfl XQ rfl (hM.atk hA47 (US hv0_1 hi44.2)) fun a hE=>Zc hE rfl fun a hE=>Ze (wp_region_lit (Zd hE rfl fun a hE=>Zd hE rfl ?_)); intro a hE
    obtain ⟨l50,e51,hs38⟩:=bind_some hs38
    obtain ⟨e54,rfl⟩:=Yo e51
    refine Yi hE hM Za ld rfl rfl (hM.rd h49) Tryz.underlying40 ty5 rfl (by decide) e54 fun u52 w a hM hE=>Zc hE rfl fun a hE=>Zf (Yc (Zp (wp_region_lit (Zg hE rfl rfl rfl fun a hE=>Zd hE rfl fun a hE=>Zf (Zh ?_)))))
    exact ⟨_,(ois hs38),u52,hE.sub ⟨rfl,rfl,rfl,rfl,trivial⟩,hM⟩
   ·intro hb41
    have hs38:=Zt hs38 hb41
    refine wp_exit (Zm (Zm (Yb ?_)))
    obtain rfl:=hx39 _ (ois hs38)
    refine Zh ?_
    exact ⟨u36,hE.sub ⟨rfl,trivial⟩,hM⟩
  ·skip
   rintro a w ⟨u33,hE,hM⟩
   refine Zp (Zb (Zd hE rfl fun a hE=>Zc hE rfl fun a hE=>Ze ?_))
   obtain rfl:=Option.some.inj hF32
   exact wp_ret (ZP hE rfl (ZR hE rfl) ⟨_,rfl,u33,rfl,hM.outF (Yu XD),hM.kept⟩)
def Ys (p0 : (List UInt8)) : Option ((List UInt8)) :=
 (app 1 ([] : List UInt8) p0).bind fun l7=>some (([] : List UInt8) ++ p0)
theorem UJ (w0 : World) (p0 : (List UInt8)) (v0_1 : Value) (hv0_1 : Ro w0 p0 [v0_1]) (r : (List UInt8)) (hF : Ys p0 = some r) :
  Calls Tryz.prog 75 [v0_1].toArray w0 (fun en w'=>∃ v,en = .returned v ∧ (∃ (y1 : Value),v = y1 ∧ Fr w0 w' [osl NoB (r : List UInt8) y1] ∧ Kept (Old w0) w0 w')):=by
 refine ce Tryz.func75 ?_
 intro a hE
 have hM:=M.start w0
 unfold Ys at hF
 refine Zb (Zc hE rfl fun a hE=>Ze (wp_seq (Zb (Zd hE rfl fun a hE=>AK hE Za ld rfl rfl Tryz.underlying40 (hM.rd hv0_1) fun bn1 a hn2 hE=>Ze ?_))))
 refine Zo hE rfl ?_ ?_
 ·intro hb3
  have h0:=hn2 hb3
  have hF : some ([]) = some r:=by rw [h0] at hF; simpa [app] using hF
  refine Zb (Zc hE rfl fun a hE=>Ze ?_)
  have hM:=M.nilS (α:=UInt8) NoB noB hM
  obtain rfl:=Option.some.inj hF
  exact wp_ret (Zx (ZP hE rfl (ZR hE rfl) ⟨_,rfl,(Value.slice none 0 0),rfl,hM.outF (Yu XD),hM.kept⟩))
 ·intro hb3
  refine wp_skip (Zp (Zb (Yr (xs:=[]) (l:=([] : List UInt8)) (vs:=[]) hE hM Za ld rfl rfl Tryz.underlying40 ty5 rfl (by decide) rfl fun u5 w a hM hE=>Zd hE rfl ?_))); intro a hE
  obtain ⟨l7,e8,hF⟩:=bind_some hF
  have e11:=(Yo e8).1
  refine Yi hE hM Za ld rfl rfl (hM.rd hv0_1) Tryz.underlying40 ty5 rfl (by decide) e11 fun u9 w a hM hE=>Zc hE rfl fun a hE=>Ze ?_
  obtain rfl:=Option.some.inj hF
  exact wp_ret (ZP hE rfl (ZR hE rfl) ⟨_,rfl,u9,rfl,hM.outF (Yu XD),hM.kept⟩)
def WW (p0 : Int) (s8 : (List UInt8) × Int) : Option (Fl ((List UInt8) × Int) (List UInt8)) :=
 if (decide (s8.2 ≥ 0)) = true then ((Xd (wr (8 * s8.2))).bind fun _=>(app 1 s8.1 ([ZG (TC p0 (wr (8 * s8.2)))] : List UInt8)).bind fun l18=>some (Fl.nx ((s8.1 ++ ([ZG (TC p0 (wr (8 * s8.2)))] : List UInt8)),wr (s8.2 - 1)))) else (some (Fl.ex s8.1))
def Ww (p0 : Int) (p1 : Int) : Option ((List UInt8)) :=
 (Zz (WW p0) (([] : List UInt8),wr (p1 - 1))).bind fun j3=>some j3
theorem JE (w0 : World) (p0 : Int) (p1 : Int) (r : (List UInt8)) (hF : Ww p0 p1 = some r) :
  Calls Tryz.prog 166 [vI p0,vI p1].toArray w0 (fun en w'=>∃ v,en = .returned v ∧ (∃ (y1 : Value),v = y1 ∧ Fr w0 w' [osl NoB (r : List UInt8) y1] ∧ Kept (Old w0) w0 w')):=by
 refine ce Tryz.func166 ?_
 intro a hE
 have hM:=M.start w0
 unfold Ww at hF
 refine Zb (Zc hE rfl fun a hE=>Ze (Zb (Yr (xs:=[]) (l:=([] : List UInt8)) (vs:=[]) hE hM Za ld rfl rfl Tryz.underlying40 ty5 rfl (by decide) rfl fun u1 w a hM hE=>Zc hE rfl fun a hE=>Ze (wp_seq (Zb (Zd hE rfl fun a hE=>Zg hE rfl rfl rfl fun a hE=>Zc hE rfl fun a hE=>Ze ?_))))))
 obtain ⟨j3,hl4,hF5⟩:=bind_some hF
 refine ZM (fun a w=>∃ (u6 : Value),Env 23 a [(5,u6)] ∧ M (Old w0) w0 w [osl NoB (j3 : List UInt8) u6]) ?_ ?_
 ·skip
  refine wp_block ?_
  refine ZE (fun (s8 : (List UInt8) × Int) a w=>∃ (u9 : Value),Env 23 a [(0,vI p0),(5,u9),(6,vI s8.2)] ∧ M (Old w0) w0 w [osl NoB (s8.1 : List UInt8) u9]) hl4 ⟨u1,hE.sub ⟨rfl,rfl,rfl,trivial⟩,hM⟩ ?_
  rintro s8 a w ⟨u9,hE,hM⟩ o13 hs11 hx12
  unfold WW at hs11
  refine wp_seq (Zb (Zd hE rfl fun a hE=>Zg hE rfl rfl rfl fun a hE=>Ze ?_))
  refine Zo hE rfl ?_ ?_
  ·intro hb14
   have hs11:=Zs hs11 hb14
   refine wp_skip (Zp (wp_seq (wp_block (wp_region_lit (Zd hE rfl fun a hE=>Zd hE rfl fun a hE=>Zd hE rfl fun a hE=>Zg hE rfl rfl rfl ?_))))); intro a hE
   obtain ⟨_,e15,hs11⟩:=bind_some hs11
   have e15:=Wi e15
   refine HT hE Za ld rfl rfl (As _ _ e15) fun a hE=>Xb hE Za ld rfl Tryz.underlying2 Tryz.underlying5 fun a hE=>Yr (xs:=[.tmp 19]) (l:=([ZG (TC p0 (wr (8 * s8.2)))] : List UInt8)) (vs:=[(vB (ZG (TC p0 (wr (8 * s8.2)))))]) hE hM Za ld rfl rfl Tryz.underlying40 ty5 rfl (by decide) rfl ?_; intro u16 w a hM hE
   obtain ⟨l18,e19,hs11⟩:=bind_some hs11
   obtain ⟨e22,rfl⟩:=Yo e19
   have hM:=hM.pull1
   refine Yi hE hM Za ld rfl rfl (hM.sl (pre:=[_]) noB) Tryz.underlying40 ty5 rfl (by decide) e22 fun u20 w a hM hE=>Zc hE rfl fun a hE=>Zf (Yc (Zp (wp_region_lit (Zd hE rfl fun a hE=>Zg hE rfl rfl rfl fun a hE=>Zc hE rfl fun a hE=>Zf (Zh ?_)))))
   have hM:=M.fst (l:=[_]) hM
   exact ⟨_,(ois hs11),u20,hE.sub ⟨rfl,rfl,rfl,trivial⟩,hM⟩
  ·intro hb14
   have hs11:=Zt hs11 hb14
   refine wp_exit (Zm (Zm (Yb ?_)))
   obtain rfl:=hx12 _ (ois hs11)
   refine Zh ?_
   exact ⟨u9,hE.sub ⟨rfl,trivial⟩,hM⟩
 ·skip
  rintro a w ⟨u6,hE,hM⟩
  refine Zp (Zb (Zd hE rfl fun a hE=>Zc hE rfl fun a hE=>Ze ?_))
  obtain rfl:=Option.some.inj hF5
  exact wp_ret (ZP hE rfl (ZR hE rfl) ⟨_,rfl,u6,rfl,hM.outF (Yu XD),hM.kept⟩)
def Vy (s16 : (List UInt8)) : Option (Fl (List UInt8) (List UInt8)) :=
 if ((Int.tmod (s16.length : Int) 16) != 8) = true then ((app 1 s16 ([0] : List UInt8)).bind fun l25=>some (Fl.nx (s16 ++ ([0] : List UInt8)))) else (some (Fl.ex s16))
def WY (p0 : (List UInt8)) : Option ((List UInt8)) :=
 (Ys p0).bind fun r1=>(app 1 r1 ([128] : List UInt8)).bind fun l6=>(Zz (Vy) (r1 ++ ([128] : List UInt8))).bind fun j11=>(Ww (p0.length : Int) 8).bind fun r31=>(app 1 j11 r31).bind fun l34=>some (j11 ++ r31)
theorem KR (w0 : World) (p0 : (List UInt8)) (v0_1 : Value) (hv0_1 : Ro w0 p0 [v0_1]) (r : (List UInt8)) (hF : WY p0 = some r) :
  Calls Tryz.prog 132 [v0_1].toArray w0 (fun en w'=>∃ v,en = .returned v ∧ (∃ (y1 : Value),v = y1 ∧ Fr w0 w' [osl NoB (r : List UInt8) y1] ∧ Kept (Old w0) w0 w')):=by
 refine ce Tryz.func132 ?_
 intro a hE
 have hM:=M.start w0
 unfold WY at hF
 refine Zb (Zc hE rfl fun a hE=>Ze (Zb (Zd hE rfl ?_))); intro a hE
 obtain ⟨r1,e2,hF⟩:=bind_some hF
 refine Zy hE rfl (cbm Tryz.func75) (UJ _ p0 v0_1 (hM.rdo hv0_1) r1 e2) ?_
 rintro u3 w a ⟨_,rfl,hFr,hK⟩ hE
 have hM:=hM.add hK hFr
 refine Yr (xs:=[.const (vB 128)]) (l:=([128] : List UInt8)) (vs:=[vB 128]) hE hM Za ld rfl rfl Tryz.underlying40 ty5 rfl (by decide) rfl ?_; intro u4 w a hM hE
 obtain ⟨l6,e7,hF⟩:=bind_some hF
 obtain ⟨e10,rfl⟩:=Yo e7
 have hM:=hM.pull1
 refine Yi hE hM Za ld rfl rfl (hM.sl (pre:=[_]) noB) Tryz.underlying40 ty5 rfl (by decide) e10 fun u8 w a hM hE=>Zc hE rfl fun a hE=>Ze ?_
 obtain ⟨j11,hl12,hF13⟩:=bind_some hF
 refine ZK (fun a w=>∃ (u14 : Value),Env 20 a [(0,v0_1),(3,u14)] ∧ M (Old w0) w0 w [osl NoB (j11 : List UInt8) u14]) ?_ ?_
 ·skip
  refine wp_block ?_
  have hM:=M.fst (l:=[_]) hM
  refine ZE (fun (s16 : (List UInt8)) a w=>∃ (u17 : Value),Env 20 a [(0,v0_1),(3,u17)] ∧ M (Old w0) w0 w [osl NoB (s16 : List UInt8) u17]) hl12 ⟨u8,hE.sub ⟨rfl,rfl,trivial⟩,hM⟩ ?_
  rintro s16 a w ⟨u17,hE,hM⟩ o21 hs19 hx20
  unfold Vy at hs19
  refine wp_seq (Zb (Zd hE rfl fun a hE=>Z7 hE rfl Tryz.underlying40 (hM.sl (pre:=[]) noB) fun a hE=>Zg hE rfl rfl (T8 _ _ (by decide)) fun a hE=>Zg hE rfl rfl rfl fun a hE=>Ze ?_))
  refine Zo hE rfl ?_ ?_
  ·intro hb22
   have hs19:=Zs hs19 hb22
   refine wp_skip (Zp (wp_block (wp_region_lit (Zd hE rfl fun a hE=>Yr (xs:=[.const (vB 0)]) (l:=([0] : List UInt8)) (vs:=[vB 0]) hE hM Za ld rfl rfl Tryz.underlying40 ty5 rfl (by decide) rfl ?_)))); intro u23 w a hM hE
   obtain ⟨l25,e26,hs19⟩:=bind_some hs19
   obtain ⟨e29,rfl⟩:=Yo e26
   have hM:=hM.pull1
   refine Yi hE hM Za ld rfl rfl (hM.sl (pre:=[_]) noB) Tryz.underlying40 ty5 rfl (by decide) e29 fun u27 w a hM hE=>Zc hE rfl fun a hE=>Zf (Yc (Zh ?_))
   have hM:=M.fst (l:=[_]) hM
   exact ⟨_,(ois hs19),u27,hE.sub ⟨rfl,rfl,trivial⟩,hM⟩
  ·intro hb22
   have hs19:=Zt hs19 hb22
   refine wp_exit (Zm (Zm (Yb ?_)))
   obtain rfl:=hx20 _ (ois hs19)
   refine Zh ?_
   exact ⟨u17,hE.sub ⟨rfl,rfl,trivial⟩,hM⟩
 ·skip
  rintro a w ⟨u14,hE,hM⟩
  refine Zb (Zd hE rfl fun a hE=>Zd hE rfl fun a hE=>Z7 hE rfl Tryz.underlying40 (hM.rd hv0_1) ?_); intro a hE
  obtain ⟨r31,e32,hF13⟩:=bind_some hF13
  refine Zy hE rfl (cbm Tryz.func166) (JE _ (p0.length : Int) 8 r31 e32) ?_
  rintro u33 w a ⟨_,rfl,hFr,hK⟩ hE
  have hM:=hM.add hK hFr
  obtain ⟨l34,e35,hF13⟩:=bind_some hF13
  obtain ⟨e38,rfl⟩:=Yo e35
  have hM:=hM.pull1
  refine Yi hE hM Za ld rfl rfl (hM.sl (pre:=[_]) noB) Tryz.underlying40 ty5 rfl (by decide) e38 fun u36 w a hM hE=>Zc hE rfl fun a hE=>Ze ?_
  obtain rfl:=Option.some.inj hF13
  have hM:=M.fst (l:=[_]) hM
  exact wp_ret (ZP hE rfl (ZR hE rfl) ⟨_,rfl,u36,rfl,hM.outF (Yu XD),hM.kept⟩)
def Wk (p0 : (List UInt8)) (s8 : (List (Vector UInt8 16)) × Int) : Option (Fl ((List (Vector UInt8 16)) × Int) (List (Vector UInt8 16))) :=
 if (decide (s8.2 < (p0.length : Int))) = true then ((slc p0 s8.2 (wr (s8.2 + 16))).bind fun l15=>(TY 16 l15).bind fun x18=>(app 16 s8.1 ([x18] : List (Vector UInt8 16))).bind fun l22=>some (Fl.nx ((s8.1 ++ ([x18] : List (Vector UInt8 16))),wr (s8.2 + 16)))) else (some (Fl.ex s8.1))
def VD (p0 : (List UInt8)) : Option ((List (Vector UInt8 16))) :=
 (Zz (Wk p0) (([] : List (Vector UInt8 16)),0)).bind fun j3=>some j3
theorem Hb (w0 : World) (p0 : (List UInt8)) (v0_1 : Value) (hv0_1 : Ro w0 p0 [v0_1]) (r : (List (Vector UInt8 16))) (hF : VD p0 = some r) :
  Calls Tryz.prog 131 [v0_1].toArray w0 (fun en w'=>∃ v,en = .returned v ∧ (∃ (y1 : Value),v = y1 ∧ Fr w0 w' [osl NoB (r : List (Vector UInt8 16)) y1] ∧ Kept (Old w0) w0 w')):=by
 refine ce Tryz.func131 ?_
 intro a hE
 have hM:=M.start w0
 unfold VD at hF
 refine Zb (Zc hE rfl fun a hE=>Ze (Zb (Yr (xs:=[]) (l:=([] : List (Vector UInt8 16))) (vs:=[]) hE hM Za ld rfl rfl Tryz.underlying54 ZJ rfl (by decide) rfl fun u1 w a hM hE=>Zc hE rfl fun a hE=>Ze (wp_seq (Zb (Zc hE rfl fun a hE=>Ze ?_))))))
 obtain ⟨j3,hl4,hF5⟩:=bind_some hF
 refine ZM (fun a w=>∃ (u6 : Value),Env 23 a [(3,u6)] ∧ M (Old w0) w0 w [osl NoB (j3 : List (Vector UInt8 16)) u6]) ?_ ?_
 ·skip
  refine wp_block ?_
  refine ZE (fun (s8 : (List (Vector UInt8 16)) × Int) a w=>∃ (u9 : Value),Env 23 a [(0,v0_1),(3,u9),(4,vI s8.2)] ∧ M (Old w0) w0 w [osl NoB (s8.1 : List (Vector UInt8 16)) u9]) hl4 ⟨u1,hE.sub ⟨rfl,rfl,rfl,trivial⟩,hM⟩ ?_
  rintro s8 a w ⟨u9,hE,hM⟩ o13 hs11 hx12
  unfold Wk at hs11
  refine wp_seq (Zb (Zd hE rfl fun a hE=>Zd hE rfl fun a hE=>Z7 hE rfl Tryz.underlying40 (hM.rd hv0_1) fun a hE=>Zg hE rfl rfl rfl fun a hE=>Ze ?_))
  refine Zo hE rfl ?_ ?_
  ·intro hb14
   have hs11:=Zs hs11 hb14
   refine wp_skip (Zp (wp_seq (wp_block (wp_region_lit (Zd hE rfl fun a hE=>Zd hE rfl fun a hE=>Zd hE rfl fun a hE=>Zd hE rfl fun a hE=>Zg hE rfl rfl rfl ?_))))); intro a hE
   obtain ⟨l15,e16,hs11⟩:=bind_some hs11
   refine Vz hE Za ld rfl rfl rfl rfl rfl Tryz.underlying40 ty5 (hM.rd hv0_1) e16 ?_; intro a hE
   have h17 : Rep.sat (Old w0) w0 l15 [(Ym v0_1 (s8.2).toNat ((wr (s8.2 + 16))).toNat 1)] []:=Xx hv0_1 e16 -- ^
   obtain ⟨x18,e19,hs11⟩:=bind_some hs11
   refine Hn hE Za ld rfl Tryz.underlying68 (hM.rd h17) (TZ e19).1 (by decide) fun a hE=>Zq hE rfl ZJ rfl (Ay (hM.rd h17) e19 (by decide)) (Flat.len _) fun a hE=>Yr (xs:=[.tmp 19]) (l:=([x18] : List (Vector UInt8 16))) (vs:=[(Value.agg (enc x18).toArray)]) hE hM Za ld rfl rfl Tryz.underlying54 ZJ rfl (by decide) rfl ?_; intro u20 w a hM hE
   obtain ⟨l22,e23,hs11⟩:=bind_some hs11
   obtain ⟨e26,rfl⟩:=Yo e23
   have hM:=hM.pull1
   refine Yi hE hM Za ld rfl rfl (hM.sl (pre:=[_]) noB) Tryz.underlying54 ZJ rfl (by decide) e26 fun u24 w a hM hE=>Zc hE rfl fun a hE=>Zf (Yc (Zp (wp_region_lit (Zd hE rfl fun a hE=>Zg hE rfl rfl rfl fun a hE=>Zc hE rfl fun a hE=>Zf (Zh ?_)))))
   have hM:=M.fst (l:=[_]) hM
   exact ⟨_,(ois hs11),u24,hE.sub ⟨rfl,rfl,rfl,trivial⟩,hM⟩
  ·intro hb14
   have hs11:=Zt hs11 hb14
   refine wp_exit (Zm (Zm (Yb ?_)))
   obtain rfl:=hx12 _ (ois hs11)
   refine Zh ?_
   exact ⟨u9,hE.sub ⟨rfl,trivial⟩,hM⟩
 ·skip
  rintro a w ⟨u6,hE,hM⟩
  refine Zp (Zb (Zd hE rfl fun a hE=>Zc hE rfl fun a hE=>Ze ?_))
  obtain rfl:=Option.some.inj hF5
  exact wp_ret (ZP hE rfl (ZR hE rfl) ⟨_,rfl,u6,rfl,hM.outF (Yu XD),hM.kept⟩)
def XV (p1 : (Vector UInt8 16)) (s10 : (Vector UInt8 16) × Int) : Option (Fl ((Vector UInt8 16) × Int) (Vector UInt8 16)) :=
 if (decide (s10.2 < 16)) = true then ((ZI s10.1 s10.2).bind fun x17=>(ZI p1 s10.2).bind fun x20=>(ZI s10.1 s10.2).bind fun x23=>some (Fl.nx ((s10.1.setIfInBounds (s10.2).toNat (x17 ^^^ x20)),wr (s10.2 + 1)))) else (some (Fl.ex s10.1))
def Yn (p0 : (Vector UInt8 16)) (p1 : (Vector UInt8 16)) : Option ((Vector UInt8 16)) :=
 (Zz (XV p1) (p0,0)).bind fun j7=>some j7
theorem Wv (w0 : World) (p0 : (Vector UInt8 16)) (p1 : (Vector UInt8 16)) (r : (Vector UInt8 16)) (hF : Yn p0 p1 = some r) :
  Calls Tryz.prog 182 [(Value.agg (enc p0).toArray),(Value.agg (enc p1).toArray)].toArray w0 (Rt w0 (Value.agg (enc r).toArray)):=by
 refine ce Tryz.func182 ?_
 intro a hE
 have hM:=M.start w0
 unfold Yn at hF
 refine Zb (ZZ (cs:=enc p0) hE hM Za ld rfl rfl fun b1 w a hM hE=>ZZ (cs:=enc p1) hE hM Za ld rfl rfl fun b3 w a hM hE=>ZC hE hM ZJ fun b5 w a hM hE=>Ze (wp_seq (Zb (Zd hE rfl fun a hE=>Ze ?_))))
 obtain ⟨j7,hl8,hF9⟩:=bind_some hF
 refine ZM (fun a w=>Env 19 a [(2,(ptr b1 0)),(4,(ptr b5 0))] ∧ M (Old w0) w0 w [raw b5 (enc (Vector.replicate 16 (0 : UInt8))),raw b1 (enc j7)]) ?_ ?_
 ·skip
  refine wp_block ?_
  refine ZE (fun (s10 : (Vector UInt8 16) × Int) a w=>Env 19 a [(2,(ptr b1 0)),(3,(ptr b3 0)),(4,(ptr b5 0)),(6,vI s10.2)] ∧ M (Old w0) w0 w [raw b5 (enc (Vector.replicate 16 (0 : UInt8))),raw b3 (enc p1),raw b1 (enc s10.1)]) hl8 ⟨hE.sub ⟨rfl,rfl,rfl,rfl,trivial⟩,hM⟩ ?_
  rintro s10 a w ⟨hE,hM⟩ o13 hs11 hx12
  unfold XV at hs11
  refine Zb (Zg hE rfl rfl rfl fun a hE=>Ze (wp_seq ?_))
  refine Zo hE rfl ?_ ?_
  ·intro hb14
   have hs11:=Zs hs11 hb14
   refine wp_skip (Zp (wp_seq (wp_block (Zb (Zd hE rfl fun a hE=>Zc hE rfl fun a hE=>Ze ?_)))))
   obtain ⟨x17,hi16,hs11⟩:=bvx hs11
   obtain ⟨x20,hi19,hs11⟩:=bvx hs11
   obtain ⟨x23,hi22,hs11⟩:=bvx hs11
   refine ZV [9,10,11,12,13,14,15,16] Yq rfl rfl (by decide) rfl hE hM (qsP (fun z=>Zi z.E Za ld rfl (kr0 rfl)) (qsP (fun z=>ZB z.E Za ld rfl rfl Tryz.underlying68 ty5 hi16.1 (kr0 rfl)) (qsP (fun z=>ZL (v:=(vB x17)) z.E Za ld rfl ty5 rfl (At.vec (z.M.rawAt2) hi16.2) (kr0 rfl)) (qsP (fun z=>Zi z.E Za ld rfl (kr0 rfl)) (qsP (fun z=>ZB z.E Za ld rfl rfl Tryz.underlying68 ty5 hi19.1 (kr0 rfl)) (qsP (fun z=>ZL (v:=(vB x20)) z.E Za ld rfl ty5 rfl (At.vec (z.M.rawAt1) hi19.2) (kr0 rfl)) (qsP (v:=(vB (x17 ^^^ x20))) (fun z=>Yd z.E Za ld rfl rfl (VV x17 x20) (kr0 rfl)) (qsP (fun z=>ZB z.E Za ld rfl rfl Tryz.underlying68 ty5 hi22.1 (kr0 rfl)) qs0)))))))) ?_
   ·intro a w u hE hM
    have hM:=hM.pull2
    refine Zn (seg:=[(vB (x17 ^^^ x20))]) (cs':=enc (s10.1.setIfInBounds (s10.2).toNat (x17 ^^^ x20))) hE hM Za rfl rfl rfl ty5 rfl (ZN (v:=s10.1) (x:=x17 ^^^ x20) hi22.1) (Flat.cell (x17 ^^^ x20 : UInt8)) (ZD (v:=s10.1) (x:=x17 ^^^ x20) hi22.1) fun w a hM hE=>Zf (Yc (Zp (wp_region_lit (Zg hE rfl rfl rfl fun a hE=>Zd hE rfl fun a hE=>Zf (Zh ?_)))))
    have hM:=hM.pull2.pull2
    exact ⟨_,(ois hs11),hE.sub ⟨rfl,rfl,rfl,rfl,trivial⟩,hM⟩
  ·intro hb14
   have hs11:=Zt hs11 hb14
   refine wp_exit (Zm (Zm (Yb ?_)))
   obtain rfl:=hx12 _ (ois hs11)
   refine Zh ?_
   have hM:=M.fst (l:=[_,_]) hM.pull2.pull1
   exact ⟨hE.sub ⟨rfl,rfl,trivial⟩,hM⟩
 ·skip
  rintro a w ⟨hE,hM⟩
  refine Zp (Zb (Zq hE rfl ZJ rfl hM.rawAt1 (Flat.len _) fun a hE=>Zn (seg:=enc j7) (cs':=enc j7) hE hM Za rfl rfl rfl ZJ (Flat.len _) (zle flq) (Flat.cell _) (Zk flq) fun w a hM hE=>Ze ?_))
  obtain rfl:=Option.some.inj hF9
  have hq26 : Yz Tryz.prog _ _ (.cell 4 68) _:=ZS hE rfl ZJ rfl hM.rawAt0 (Flat.len _) rfl
  exact wp_ret (ZP hE rfl hq26 ⟨_,rfl,rfl,hM.kept⟩)
def YK (p0 : (Ref Gengine)) (s35 : (Vector UInt8 16) × Int) : Option (Fl ((Vector UInt8 16) × Int) (Vector UInt8 16)) :=
 if (decide (s35.2 < 16)) = true then ((ZI s35.1 s35.2).bind fun x42=>(ZI s35.1 (wr (s35.2 - 1))).bind fun x45=>(ZI p0.v.box (bI x45)).bind fun x58=>(ZI s35.1 s35.2).bind fun x61=>some (Fl.nx ((s35.1.setIfInBounds (s35.2).toNat (x42 ^^^ x58)),wr (s35.2 + 1)))) else (some (Fl.ex s35.1))
def Xu (p0 : (Ref Gengine)) (p1 : (Vector UInt8 16)) (p2 : Int) : Option ((Vector UInt8 16)) :=
 ((ZI p1 (0 : Int)).bind fun x10=>(ZI p1 (15 : Int)).bind fun x13=>(ZI p0.v.box (bI (x13 ^^^ (ZG p2)))).bind fun x26=>(ZI p1 (0 : Int)).bind fun x29=>some (p1.setIfInBounds ((0 : Int)).toNat (x10 ^^^ x26)) : Option ((Vector UInt8 16))).bind fun j5=>(Zz (YK p0) (j5,1)).bind fun j32=>some j32
theorem QI (w0 : World) (p0 : (Ref Gengine)) (v0_1 : Value) (hv0_1 : Ro w0 p0 [v0_1]) (p1 : (Vector UInt8 16)) (p2 : Int) (r : (Vector UInt8 16)) (hF : Xu p0 p1 p2 = some r) :
  Calls Tryz.prog 237 [v0_1,(Value.agg (enc p1).toArray),vI p2].toArray w0 (Rt w0 (Value.agg (enc r).toArray)):=by
 refine ce Tryz.func237 ?_
 intro a hE
 have hM:=M.start w0
 unfold Xu at hF
 refine Zb (ZZ (cs:=enc p1) hE hM Za ld rfl rfl fun b1 w a hM hE=>ZC hE hM ZJ fun b3 w a hM hE=>Ze ?_)
 obtain ⟨j5,hl6,hF7⟩:=bind_some hF
 refine ZK (fun a w=>Env 41 a [(0,v0_1),(4,(ptr b1 0)),(6,(ptr b3 0))] ∧ M (Old w0) w0 w [raw b3 (enc (Vector.replicate 16 (0 : UInt8))),raw b1 (enc j5)]) ?_ ?_
 ·skip
  obtain ⟨x10,hi9,hl6⟩:=bvx hl6
  obtain ⟨x13,hi12,hl6⟩:=bvx hl6
  obtain ⟨pb15,ds16,hv17,hx18,hA19,hB20⟩:=UG hv0_1 -- ^
  obtain ⟨u21,u23,rfl,h22,h24⟩:=Tl hx18 -- ^
  obtain ⟨x26,hi25,hl6⟩:=bvx hl6
  obtain ⟨x29,hi28,hl6⟩:=bvx hl6
  refine ZV [8,9,10,11,12,13,14,15,16,17,18,19,20,21] Yq rfl rfl (by decide) rfl hE hM (qsP (fun z=>ZB z.E Za ld rfl rfl Tryz.underlying68 ty5 hi9.1 (kr0 rfl)) (qsP (fun z=>ZL (v:=(vB x10)) z.E Za ld rfl ty5 rfl (At.vec (z.M.rawAt1) hi9.2) (kr0 rfl)) (qsP (fun z=>Zi z.E Za ld rfl (kr0 rfl)) (qsP (fun z=>ZB z.E Za ld rfl rfl Tryz.underlying68 ty5 hi12.1 (kr0 rfl)) (qsP (fun z=>ZL (v:=(vB x13)) z.E Za ld rfl ty5 rfl (At.vec (z.M.rawAt1) hi12.2) (kr0 rfl)) (qsP (fun z=>Zi z.E Za ld rfl (kr0 rfl)) (qsP (fun z=>Xb z.E Za ld rfl Tryz.underlying2 Tryz.underlying5 (kr0 rfl)) (qsP (v:=(vB (x13 ^^^ (ZG p2)))) (fun z=>Yd z.E Za ld rfl rfl (VV x13 (ZG p2)) (kr0 rfl)) (qsP (fun z=>X4 z.E Za ld (lk rfl hv17) (kr0 rfl)) (qsP (fun z=>Zr z.E Za ld rfl (AD) (kr0 rfl)) (qsP (fun z=>ZB z.E Za ld rfl rfl Tryz.underlying157 ty5 hi25.1 (kr0 rfl)) (qsP (fun z=>ZL (v:=(vB x26)) z.E Za ld rfl ty5 rfl (At.vec (At.cat (pre:=[]) (z.M.atk hA19 hB20) cl0) hi25.2) (kr0 rfl)) (qsP (v:=(vB (x10 ^^^ x26))) (fun z=>Yd z.E Za ld rfl rfl (VV x10 x26) (kr0 rfl)) (qsP (fun z=>ZB z.E Za ld rfl rfl Tryz.underlying68 ty5 hi28.1 (kr0 rfl)) qs0)))))))))))))) ?_
  ·intro a w u hE hM
   have hM:=hM.pull1
   refine Zn (seg:=[(vB (x10 ^^^ x26))]) (cs':=enc (p1.setIfInBounds ((0 : Int)).toNat (x10 ^^^ x26))) hE hM Za rfl rfl rfl ty5 rfl (ZN (v:=p1) (x:=x10 ^^^ x26) hi28.1) (Flat.cell (x10 ^^^ x26 : UInt8)) (ZD (v:=p1) (x:=x10 ^^^ x26) hi28.1) fun w a hM hE=>Zf ?_
   obtain rfl:=Option.some.inj hl6
   refine Zh ?_
   have hM:=hM.pull1
   exact ⟨hE.sub ⟨rfl,rfl,rfl,trivial⟩,hM⟩
 ·skip
  rintro a w ⟨hE,hM⟩
  refine wp_seq (Zb (Zc hE rfl fun a hE=>Ze ?_))
  obtain ⟨j32,hl33,hF34⟩:=bind_some hF7
  refine ZM (fun a w=>Env 41 a [(4,(ptr b1 0)),(6,(ptr b3 0))] ∧ M (Old w0) w0 w [raw b3 (enc (Vector.replicate 16 (0 : UInt8))),raw b1 (enc j32)]) ?_ ?_
  ·skip
   refine wp_block ?_
   refine ZE (fun (s35 : (Vector UInt8 16) × Int) a w=>Env 41 a [(0,v0_1),(4,(ptr b1 0)),(6,(ptr b3 0)),(7,vI s35.2)] ∧ M (Old w0) w0 w [raw b3 (enc (Vector.replicate 16 (0 : UInt8))),raw b1 (enc s35.1)]) hl33 ⟨hE.sub ⟨rfl,rfl,rfl,rfl,trivial⟩,hM⟩ ?_
   rintro s35 a w ⟨hE,hM⟩ o38 hs36 hx37
   unfold YK at hs36
   refine wp_seq (Zb (Zd hE rfl fun a hE=>Zg hE rfl rfl rfl fun a hE=>Ze ?_))
   refine Zo hE rfl ?_ ?_
   ·intro hb39
    have hs36:=Zs hs36 hb39
    refine wp_skip (Zp (wp_seq (wp_block ?_)))
    obtain ⟨x42,hi41,hs36⟩:=bvx hs36
    obtain ⟨x45,hi44,hs36⟩:=bvx hs36
    obtain ⟨pb47,ds48,hv49,hx50,hA51,hB52⟩:=UG hv0_1 -- ^
    obtain ⟨u53,u55,rfl,h54,h56⟩:=Tl hx50 -- ^
    obtain ⟨x58,hi57,hs36⟩:=bvx hs36
    obtain ⟨x61,hi60,hs36⟩:=bvx hs36
    refine ZV [26,27,28,29,30,31,32,33,34,35,36,37,38,39] Yq rfl rfl (by decide) rfl hE hM (qsP (fun z=>Zi z.E Za ld rfl (kr0 rfl)) (qsP (fun z=>ZB z.E Za ld rfl rfl Tryz.underlying68 ty5 hi41.1 (kr0 rfl)) (qsP (fun z=>ZL (v:=(vB x42)) z.E Za ld rfl ty5 rfl (At.vec (z.M.rawAt1) hi41.2) (kr0 rfl)) (qsP (fun z=>Zi z.E Za ld rfl (kr0 rfl)) (qsP (fun z=>Zi z.E Za ld rfl (kr0 rfl)) (qsP (v:=(vI (wr (s35.2 - 1)))) (fun z=>Yd z.E Za ld rfl rfl rfl (kr0 rfl)) (qsP (fun z=>ZB z.E Za ld rfl rfl Tryz.underlying68 ty5 hi44.1 (kr0 rfl)) (qsP (fun z=>ZL (v:=(vB x45)) z.E Za ld rfl ty5 rfl (At.vec (z.M.rawAt1) hi44.2) (kr0 rfl)) (qsP (fun z=>X4 z.E Za ld (lk rfl hv49) (kr0 rfl)) (qsP (fun z=>Zr z.E Za ld rfl (AD) (kr0 rfl)) (qsP (fun z=>ZB z.E Za ld rfl rfl Tryz.underlying157 ty5 hi57.1 (kr0 rfl)) (qsP (fun z=>ZL (v:=(vB x58)) z.E Za ld rfl ty5 rfl (At.vec (At.cat (pre:=[]) (z.M.atk hA51 hB52) cl0) hi57.2) (kr0 rfl)) (qsP (v:=(vB (x42 ^^^ x58))) (fun z=>Yd z.E Za ld rfl rfl (VV x42 x58) (kr0 rfl)) (qsP (fun z=>ZB z.E Za ld rfl rfl Tryz.underlying68 ty5 hi60.1 (kr0 rfl)) qs0)))))))))))))) ?_
    ·intro a w u hE hM
     have hM:=hM.pull1
     refine Zn (seg:=[(vB (x42 ^^^ x58))]) (cs':=enc (s35.1.setIfInBounds (s35.2).toNat (x42 ^^^ x58))) hE hM Za rfl rfl rfl ty5 rfl (ZN (v:=s35.1) (x:=x42 ^^^ x58) hi60.1) (Flat.cell (x42 ^^^ x58 : UInt8)) (ZD (v:=s35.1) (x:=x42 ^^^ x58) hi60.1) fun w a hM hE=>Zf (Yc (Zp (wp_region_lit (Zd hE rfl fun a hE=>Zg hE rfl rfl rfl fun a hE=>Zc hE rfl fun a hE=>Zf (Zh ?_)))))
     have hM:=hM.pull1
     exact ⟨_,(ois hs36),hE.sub ⟨rfl,rfl,rfl,rfl,trivial⟩,hM⟩
   ·intro hb39
    have hs36:=Zt hs36 hb39
    refine wp_exit (Zm (Zm (Yb ?_)))
    obtain rfl:=hx37 _ (ois hs36)
    refine Zh ?_
    exact ⟨hE.sub ⟨rfl,rfl,trivial⟩,hM⟩
  ·skip
   rintro a w ⟨hE,hM⟩
   refine Zp (Zb (Zq hE rfl ZJ rfl hM.rawAt1 (Flat.len _) fun a hE=>Zn (seg:=enc j32) (cs':=enc j32) hE hM Za rfl rfl rfl ZJ (Flat.len _) (zle flq) (Flat.cell _) (Zk flq) fun w a hM hE=>Ze ?_))
   obtain rfl:=Option.some.inj hF34
   have hq64 : Yz Tryz.prog _ _ (.cell 6 68) _:=ZS hE rfl ZJ rfl hM.rawAt0 (Flat.len _) rfl
   exact wp_ret (ZP hE rfl hq64 ⟨_,rfl,rfl,hM.kept⟩)
def Xm (p0 : (Ref Gengine)) (p2 : Int) (s10 : (Vector UInt8 16) × (List (Vector UInt8 16)) × Int) : Option (Fl ((Vector UInt8 16) × (List (Vector UInt8 16)) × Int) (List (Vector UInt8 16))) :=
 if (decide (s10.2.2 ≤ p2)) = true then ((Xu p0 s10.1 s10.2.2).bind fun r17=>(app 16 s10.2.1 ([r17] : List (Vector UInt8 16))).bind fun l21=>some (Fl.nx (r17,(s10.2.1 ++ ([r17] : List (Vector UInt8 16))),wr (s10.2.2 + 1)))) else (some (Fl.ex s10.2.1))
def WJ (p0 : (Ref Gengine)) (p1 : (Vector UInt8 16)) (p2 : Int) : Option ((List (Vector UInt8 16))) :=
 (Zz (Xm p0 p2) (p1,([p1] : List (Vector UInt8 16)),1)).bind fun j5=>some j5
theorem Kq (w0 : World) (p0 : (Ref Gengine)) (v0_1 : Value) (hv0_1 : Ro w0 p0 [v0_1]) (p1 : (Vector UInt8 16)) (p2 : Int) (r : (List (Vector UInt8 16))) (hF : WJ p0 p1 p2 = some r) :
  Calls Tryz.prog 218 [v0_1,(Value.agg (enc p1).toArray),vI p2].toArray w0 (fun en w'=>∃ v,en = .returned v ∧ (∃ (y1 : Value),v = y1 ∧ Fr w0 w' [osl NoB (r : List (Vector UInt8 16)) y1] ∧ Kept (Old w0) w0 w')):=by
 refine ce Tryz.func218 ?_
 intro a hE
 have hM:=M.start w0
 unfold WJ at hF
 refine Zb (ZZ (cs:=enc p1) hE hM Za ld rfl rfl fun b1 w a hM hE=>Zc hE rfl fun a hE=>Ze (Zb (Zq hE rfl ZJ rfl hM.rawAt0 (Flat.len _) fun a hE=>Yr (xs:=[.tmp 9]) (l:=([p1] : List (Vector UInt8 16))) (vs:=[(Value.agg (enc p1).toArray)]) hE hM Za ld rfl rfl Tryz.underlying54 ZJ rfl (by decide) rfl fun u3 w a hM hE=>Zc hE rfl fun a hE=>Ze (wp_seq (Zb (Zc hE rfl fun a hE=>Ze ?_))))))
 obtain ⟨j5,hl6,hF7⟩:=bind_some hF
 refine ZM (fun a w=>∃ (u8 : Value),Env 25 a [(7,u8)] ∧ M (Old w0) w0 w [osl NoB (j5 : List (Vector UInt8 16)) u8]) ?_ ?_
 ·skip
  refine wp_block ?_
  have hM:=hM.pull1
  refine ZE (fun (s10 : (Vector UInt8 16) × (List (Vector UInt8 16)) × Int) a w=>∃ (u11 : Value),Env 25 a [(0,v0_1),(2,vI p2),(4,(ptr b1 0)),(7,u11),(8,vI s10.2.2)] ∧ M (Old w0) w0 w [raw b1 (enc s10.1),osl NoB (s10.2.1 : List (Vector UInt8 16)) u11]) hl6 ⟨u3,hE.sub ⟨rfl,rfl,rfl,rfl,rfl,trivial⟩,hM⟩ ?_
  rintro s10 a w ⟨u11,hE,hM⟩ o15 hs13 hx14
  unfold Xm at hs13
  refine wp_seq (Zb (Zd hE rfl fun a hE=>Zd hE rfl fun a hE=>Zg hE rfl rfl rfl fun a hE=>Ze ?_))
  refine Zo hE rfl ?_ ?_
  ·intro hb16
   have hs13:=Zs hs13 hb16
   refine wp_skip (Zp (wp_seq (wp_block (Zb (Zd hE rfl fun a hE=>Zq hE rfl ZJ rfl hM.rawAt0 (Flat.len _) fun a hE=>Zd hE rfl ?_))))); intro a hE
   obtain ⟨r17,e18,hs13⟩:=bind_some hs13
   refine Zy hE rfl (cbm Tryz.func237) (QI _ p0 v0_1 (hM.rdo hv0_1) s10.1 s10.2.2 r17 e18) ?_
   rintro v w a ⟨rfl,hK⟩ hE
   have hM:=hM.keep hK
   refine Zn (seg:=enc r17) (cs':=enc r17) hE hM Za rfl rfl rfl ZJ (Flat.len _) (zle flq) (Flat.cell _) (Zk flq) fun w a hM hE=>Ze (wp_region_lit (Zd hE rfl fun a hE=>Zq hE rfl ZJ rfl hM.rawAt0 (Flat.len _) fun a hE=>Yr (xs:=[.tmp 21]) (l:=([r17] : List (Vector UInt8 16))) (vs:=[(Value.agg (enc r17).toArray)]) hE hM Za ld rfl rfl Tryz.underlying54 ZJ rfl (by decide) rfl ?_)); intro u19 w a hM hE
   obtain ⟨l21,e22,hs13⟩:=bind_some hs13
   obtain ⟨e25,rfl⟩:=Yo e22
   have hM:=hM.pull2
   refine Yi hE hM Za ld rfl rfl (hM.sl (pre:=[_]) noB) Tryz.underlying54 ZJ rfl (by decide) e25 fun u23 w a hM hE=>Zc hE rfl fun a hE=>Zf (Yc (Zp (wp_region_lit (Zd hE rfl fun a hE=>Zg hE rfl rfl rfl fun a hE=>Zc hE rfl fun a hE=>Zf (Zh ?_)))))
   have hM:=M.fst (l:=[_,_]) hM.pull2
   exact ⟨_,(ois hs13),u23,hE.sub ⟨rfl,rfl,rfl,rfl,rfl,trivial⟩,hM⟩
  ·intro hb16
   have hs13:=Zt hs13 hb16
   refine wp_exit (Zm (Zm (Yb ?_)))
   obtain rfl:=hx14 _ (ois hs13)
   refine Zh ?_
   have hM:=M.fst (l:=[_]) hM.pull1
   exact ⟨u11,hE.sub ⟨rfl,trivial⟩,hM⟩
 ·skip
  rintro a w ⟨u8,hE,hM⟩
  refine Zp (Zb (Zd hE rfl fun a hE=>Zc hE rfl fun a hE=>Ze ?_))
  obtain rfl:=Option.some.inj hF7
  exact wp_ret (ZP hE rfl (ZR hE rfl) ⟨_,rfl,u8,rfl,hM.outF (Yu XD),hM.kept⟩)
def Xj (p0 : (Vector UInt8 16)) (p1 : (Vector UInt8 16)) (s12 : (Vector UInt8 16) × Int) : Option (Fl ((Vector UInt8 16) × Int) (Vector UInt8 16)) :=
 if (decide (s12.2 < 16)) = true then ((ZI p0 s12.2).bind fun x17=>(ZI p1 (bI x17)).bind fun x21=>(ZI s12.1 s12.2).bind fun x24=>some (Fl.nx ((s12.1.setIfInBounds (s12.2).toNat x21),wr (s12.2 + 1)))) else (some (Fl.ex s12.1))
def WD (p0 : (Vector UInt8 16)) (p1 : (Vector UInt8 16)) : Option ((Vector UInt8 16)) :=
 (Zz (Xj p0 p1) ((Vector.replicate 16 (0 : UInt8)),0)).bind fun j9=>some j9
theorem Kh (w0 : World) (p0 : (Vector UInt8 16)) (p1 : (Vector UInt8 16)) (r : (Vector UInt8 16)) (hF : WD p0 p1 = some r) :
  Calls Tryz.prog 235 [(Value.agg (enc p0).toArray),(Value.agg (enc p1).toArray)].toArray w0 (Rt w0 (Value.agg (enc r).toArray)):=by
 refine ce Tryz.func235 ?_
 intro a hE
 have hM:=M.start w0
 unfold WD at hF
 refine Zb (ZZ (cs:=enc p0) hE hM Za ld rfl rfl fun b1 w a hM hE=>ZZ (cs:=enc p1) hE hM Za ld rfl rfl fun b3 w a hM hE=>ZC hE hM ZJ fun b5 w a hM hE=>Ze (Zb (XP (parts:=[]) (vs:=[]) (cs:=enc (Vector.replicate 16 (0 : UInt8))) hE Za ld rfl rfl ZJ rfl ty5 Y1 fun a hE=>ZC hE hM ZJ fun b7 w a hM hE=>Zn (seg:=enc (Vector.replicate 16 (0 : UInt8))) (cs':=enc (Vector.replicate 16 (0 : UInt8))) hE hM Za rfl rfl rfl ZJ (Flat.len _) (zle flq) (Flat.cell _) (Zk flq) fun w a hM hE=>Ze (wp_seq (Zb (Zq hE rfl TF rfl hM.rawAt3 (Flat.len _) fun a hE=>Zd hE rfl fun a hE=>Ze ?_))))))
 obtain ⟨j9,hl10,hF11⟩:=bind_some hF
 refine ZM (fun a w=>Env 21 a [(4,(ptr b5 0)),(5,(ptr b7 0))] ∧ M (Old w0) w0 w [raw b7 (enc j9),raw b5 (enc (Vector.replicate 16 (0 : UInt8)))]) ?_ ?_
 ·skip
  refine wp_block ?_
  have hM:=M.fst (l:=[_,_,_]) hM.pull2.pull2.pull2
  refine ZE (fun (s12 : (Vector UInt8 16) × Int) a w=>Env 21 a [(3,(ptr b3 0)),(4,(ptr b5 0)),(5,(ptr b7 0)),(9,(Value.agg (enc p0).toArray)),(10,vI s12.2)] ∧ M (Old w0) w0 w [raw b7 (enc s12.1),raw b5 (enc (Vector.replicate 16 (0 : UInt8))),raw b3 (enc p1)]) hl10 ⟨hE.sub ⟨rfl,rfl,rfl,rfl,rfl,trivial⟩,hM⟩ ?_
  rintro s12 a w ⟨hE,hM⟩ o15 hs13 hx14
  unfold Xj at hs13
  refine Zb (Zg hE rfl rfl rfl fun a hE=>Ze (wp_seq ?_))
  refine Zo hE rfl ?_ ?_
  ·intro hb16
   have hs13:=Zs hs13 hb16
   refine wp_skip (Zp (wp_seq (wp_block (Zb (Zd hE rfl ?_))))); intro a hE
   obtain ⟨x17,hi19,hs13⟩:=bvx hs13
   refine QW hE Za ld rfl rfl Tryz.underlying161 ty5 rfl rfl hi19 rfl fun a hE=>Zc hE rfl fun a hE=>Zc hE rfl fun a hE=>Ze (wp_region_lit (Zd hE rfl fun a hE=>Zd hE rfl ?_)); intro a hE
   obtain ⟨x21,hi20,hs13⟩:=bvx hs13
   refine ZF hE rfl rfl Tryz.underlying68 ty5 hi20.1 fun a hE=>ZA (v:=(vB x21)) hE rfl ty5 rfl (At.vec hM.rawAt2 hi20.2) ?_; intro a hE
   obtain ⟨x24,hi23,hs13⟩:=bvx hs13
   refine ZF hE rfl rfl Tryz.underlying68 ty5 hi23.1 fun a hE=>Zn (seg:=[vB x21]) (cs':=enc (s12.1.setIfInBounds (s12.2).toNat x21)) hE hM Za rfl rfl rfl ty5 rfl (ZN (v:=s12.1) (x:=x21) hi23.1) (Flat.cell (x21 : UInt8)) (ZD (v:=s12.1) (x:=x21) hi23.1) fun w a hM hE=>Zf (Yc (Zp (wp_region_lit (Zg hE rfl rfl rfl fun a hE=>Zd hE rfl fun a hE=>Zf (Zh ?_)))))
   exact ⟨_,(ois hs13),hE.sub ⟨rfl,rfl,rfl,rfl,rfl,trivial⟩,hM⟩
  ·intro hb16
   have hs13:=Zt hs13 hb16
   refine wp_exit (Zm (Zm (Yb ?_)))
   obtain rfl:=hx14 _ (ois hs13)
   refine Zh ?_
   have hM:=M.fst (l:=[_,_]) hM.pull1.pull1
   exact ⟨hE.sub ⟨rfl,rfl,trivial⟩,hM⟩
 ·skip
  rintro a w ⟨hE,hM⟩
  refine Zp (Zb (Zq hE rfl ZJ rfl hM.rawAt0 (Flat.len _) ?_)); intro a hE
  have hM:=hM.pull1
  refine Zn (seg:=enc j9) (cs':=enc j9) hE hM Za rfl rfl rfl ZJ (Flat.len _) (zle flq) (Flat.cell _) (Zk flq) fun w a hM hE=>Ze ?_
  obtain rfl:=Option.some.inj hF11
  have hq27 : Yz Tryz.prog _ _ (.cell 4 68) _:=ZS hE rfl ZJ rfl hM.rawAt0 (Flat.len _) rfl
  exact wp_ret (ZP hE rfl hq27 ⟨_,rfl,rfl,hM.kept⟩)
def XR (p0 : (Ref (Vector (Vector (Vector UInt8 256) 4) 4))) (s4 : (Vector UInt8 16) × Int) (j9 : UInt8 × UInt8 × UInt8 × UInt8) (s29 : (Vector UInt8 16) × Int) : Option (Fl ((Vector UInt8 16) × Int) (Vector UInt8 16)) :=
 if (decide (s29.2 < 4)) = true then ((ZI p0.v s29.2).bind fun x42=>(ZI x42 (0 : Int)).bind fun x45=>(ZI x45 (bI j9.1)).bind fun x48=>(ZI p0.v s29.2).bind fun x57=>(ZI x57 (1 : Int)).bind fun x60=>(ZI x60 (bI j9.2.1)).bind fun x63=>(ZI p0.v s29.2).bind fun x72=>(ZI x72 (2 : Int)).bind fun x75=>(ZI x75 (bI j9.2.2.1)).bind fun x78=>(ZI p0.v s29.2).bind fun x87=>(ZI x87 (3 : Int)).bind fun x90=>(ZI x90 (bI j9.2.2.2)).bind fun x93=>(ZI s29.1 (wr (s4.2 + s29.2))).bind fun x95=>some (Fl.nx ((s29.1.setIfInBounds ((wr (s4.2 + s29.2))).toNat (((x48 ^^^ x63) ^^^ x78) ^^^ x93)),wr (s29.2 + 1)))) else (some (Fl.ex s29.1))
def XU (p0 : (Ref (Vector (Vector (Vector UInt8 256) 4) 4))) (s4 : (Vector UInt8 16) × Int) : Option (Fl ((Vector UInt8 16) × Int) (Vector UInt8 16)) :=
 if (decide (s4.2 < (s4.1.toList.length : Int))) = true then (((ZI s4.1 s4.2).bind fun x13=>(ZI s4.1 (wr (s4.2 + 1))).bind fun x16=>(ZI s4.1 (wr (s4.2 + 2))).bind fun x19=>(ZI s4.1 (wr (s4.2 + 3))).bind fun x22=>some (x13,x16,x19,x22) : Option (UInt8 × UInt8 × UInt8 × UInt8)).bind fun j9=>(Zz (XR p0 s4 j9) (s4.1,0)).bind fun j26=>some (Fl.nx (j26,wr (s4.2 + 4)))) else (some (Fl.ex s4.1))
def Vf (p0 : (Ref (Vector (Vector (Vector UInt8 256) 4) 4))) (p1 : (Vector UInt8 16)) : Option ((Vector UInt8 16)) :=
 (Zz (XU p0) (p1,0)).bind fun j1=>some j1
theorem Js (St : Nat → Prop) (W w0 : World) (its : List Item) (p0 : (Ref (Vector (Vector (Vector UInt8 256) 4) 4))) (v0_1 : Value) (hv0_1 : Rep.sat St W p0 [v0_1] []) (pb1 : Nat) (p1 : (Vector UInt8 16)) (hM : M St W w0 (raw pb1 (enc p1) :: its)) (r : (Vector UInt8 16)) (hF : Vf p0 p1 = some r) :
  Calls Tryz.prog 236 [v0_1,(Value.slice (some ⟨pb1,0,none⟩) 16 16)].toArray w0 (fun en w'=>∃ v,en = .returned v ∧ (v = (Value.tuple [].toArray) ∧ M St W w' (raw pb1 (enc r) :: its))):=by
 refine ce Tryz.func236 ?_
 intro a hE
 unfold Vf at hF
 refine Zb (Zc hE rfl fun a hE=>Ze ?_)
 obtain ⟨j1,hl2,hF3⟩:=bind_some hF
 refine ZM (fun a w=>Env 79 a [(1,(Value.slice (some ⟨pb1,0,none⟩) 16 16))] ∧ M St W w (raw pb1 (enc j1) :: its)) ?_ ?_
 ·skip
  refine wp_block ?_
  refine ZE (fun (s4 : (Vector UInt8 16) × Int) a w=>Env 79 a [(0,v0_1),(1,(Value.slice (some ⟨pb1,0,none⟩) 16 16)),(4,vI s4.2)] ∧ M St W w (raw pb1 (enc s4.1) :: its)) hl2 ⟨hE.sub ⟨rfl,rfl,rfl,trivial⟩,hM⟩ ?_
  rintro s4 a w ⟨hE,hM⟩ o7 hs5 hx6
  unfold XU at hs5
  refine wp_seq (Zb (Zd hE rfl fun a hE=>Zd hE rfl fun a hE=>Z7 hE rfl Tryz.underlying40 (kR hM.rawAt0) fun a hE=>Zg hE rfl rfl rfl fun a hE=>Ze ?_))
  refine Zo hE rfl ?_ ?_
  ·intro hb8
   have hs5:=Zs hs5 hb8
   refine wp_skip (Zp (wp_seq (wp_block ?_)))
   obtain ⟨j9,hl10,hF11⟩:=bind_some hs5
   refine ZK (fun a w=>Env 79 a [(0,v0_1),(1,(Value.slice (some ⟨pb1,0,none⟩) 16 16)),(4,vI s4.2),(5,vB j9.1),(6,vB j9.2.1),(7,vB j9.2.2.1),(8,vB j9.2.2.2)] ∧ M St W w (raw pb1 (enc s4.1) :: its)) ?_ ?_
   ·skip
    obtain ⟨x13,hi15,hl10⟩:=bvx hl10
    obtain ⟨x16,hi18,hl10⟩:=bvx hl10
    obtain ⟨x19,hi21,hl10⟩:=bvx hl10
    obtain ⟨x22,hi24,hl10⟩:=bvx hl10
    refine jI (n:=79) (hd:=[_,_,_,_,_,_,_,_,_,_,_,_,_,_,_,_,_,_,_,_,_,_,_]) (tl:=[]) Yq rfl rfl [16,17,18,19,20,21,22,23,24,25,26,27,28,29,30,31,32,33,34,5,6,7,8] (by decide) (fun w=>M St W w (raw pb1 (enc s4.1) :: its)) (fun j=>([fun v _=>v = (Value.slice (some ⟨pb1,0,none⟩) 16 16),fun v _=>v = (vI s4.2),fun v _=>v = (ptr pb1 (0 + (s4.2).toNat * 1)),fun v _=>v = (vB x13),fun v _=>v = (Value.slice (some ⟨pb1,0,none⟩) 16 16),fun v _=>v = (vI s4.2),fun v _=>v = (vI (wr (s4.2 + 1))),fun v _=>v = (ptr pb1 (0 + ((wr (s4.2 + 1))).toNat * 1)),fun v _=>v = (vB x16),fun v _=>v = (Value.slice (some ⟨pb1,0,none⟩) 16 16),fun v _=>v = (vI s4.2),fun v _=>v = (vI (wr (s4.2 + 2))),fun v _=>v = (ptr pb1 (0 + ((wr (s4.2 + 2))).toNat * 1)),fun v _=>v = (vB x19),fun v _=>v = (Value.slice (some ⟨pb1,0,none⟩) 16 16),fun v _=>v = (vI s4.2),fun v _=>v = (vI (wr (s4.2 + 3))),fun v _=>v = (ptr pb1 (0 + ((wr (s4.2 + 3))).toNat * 1)),fun v _=>v = (vB x22),fun v _=>v = (vB x13),fun v _=>v = (vB x16),fun v _=>v = (vB x19),fun v _=>v = (vB x22)] : List (Value → World → Prop)).getD j (fun _ _=>True)) (fun _ _ h hk=>h.keep hk) (gup gu23) hE hM.drew (st23 ?_ ?_ ?_ ?_ ?_ ?_ ?_ ?_ ?_ ?_ ?_ ?_ ?_ ?_ ?_ ?_ ?_ ?_ ?_ ?_ ?_ ?_ ?_) ?_
    ·exact qm
    ·exact qm
    ·intro a w ux12 hE hM hp
     have f0 : ux12 0 = (Value.slice (some ⟨pb1,0,none⟩) 16 16):=hp 0 _ rfl rfl
     have f1 : ux12 1 = (vI s4.2):=hp 1 _ rfl rfl
     exact Tx hE Za ld (lk rfl f0) (lk rfl f1) Tryz.underlying40 ty5 hi15.1 fun a hE=>kq rfl hE rfl
    ·intro a w ux12 hE hM hp
     have f2 : ux12 2 = (ptr pb1 (0 + (s4.2).toNat * 1)):=hp 0 _ rfl rfl
     exact ZA (v:=(vB x13)) hE (lk rfl f2) ty5 rfl (At.vec hM.rawAt0 hi15.2) fun a hE=>kq rfl hE rfl
    ·exact qm
    ·exact qm
    ·intro a w ux12 hE hM hp
     have f5 : ux12 5 = (vI s4.2):=hp 0 _ rfl rfl
     exact Zg hE (lk rfl f5) rfl rfl fun a hE=>kq rfl hE rfl
    ·intro a w ux12 hE hM hp
     have f4 : ux12 4 = (Value.slice (some ⟨pb1,0,none⟩) 16 16):=hp 0 _ rfl rfl
     have f6 : ux12 6 = (vI (wr (s4.2 + 1))):=hp 1 _ rfl rfl
     exact Tx hE Za ld (lk rfl f4) (lk rfl f6) Tryz.underlying40 ty5 hi18.1 fun a hE=>kq rfl hE rfl
    ·intro a w ux12 hE hM hp
     have f7 : ux12 7 = (ptr pb1 (0 + ((wr (s4.2 + 1))).toNat * 1)):=hp 0 _ rfl rfl
     exact ZA (v:=(vB x16)) hE (lk rfl f7) ty5 rfl (At.vec hM.rawAt0 hi18.2) fun a hE=>kq rfl hE rfl
    ·exact qm
    ·exact qm
    ·intro a w ux12 hE hM hp
     have f10 : ux12 10 = (vI s4.2):=hp 0 _ rfl rfl
     exact Zg hE (lk rfl f10) rfl rfl fun a hE=>kq rfl hE rfl
    ·intro a w ux12 hE hM hp
     have f9 : ux12 9 = (Value.slice (some ⟨pb1,0,none⟩) 16 16):=hp 0 _ rfl rfl
     have f11 : ux12 11 = (vI (wr (s4.2 + 2))):=hp 1 _ rfl rfl
     exact Tx hE Za ld (lk rfl f9) (lk rfl f11) Tryz.underlying40 ty5 hi21.1 fun a hE=>kq rfl hE rfl
    ·intro a w ux12 hE hM hp
     have f12 : ux12 12 = (ptr pb1 (0 + ((wr (s4.2 + 2))).toNat * 1)):=hp 0 _ rfl rfl
     exact ZA (v:=(vB x19)) hE (lk rfl f12) ty5 rfl (At.vec hM.rawAt0 hi21.2) fun a hE=>kq rfl hE rfl
    ·exact qm
    ·exact qm
    ·intro a w ux12 hE hM hp
     have f15 : ux12 15 = (vI s4.2):=hp 0 _ rfl rfl
     exact Zg hE (lk rfl f15) rfl rfl fun a hE=>kq rfl hE rfl
    ·intro a w ux12 hE hM hp
     have f14 : ux12 14 = (Value.slice (some ⟨pb1,0,none⟩) 16 16):=hp 0 _ rfl rfl
     have f16 : ux12 16 = (vI (wr (s4.2 + 3))):=hp 1 _ rfl rfl
     exact Tx hE Za ld (lk rfl f14) (lk rfl f16) Tryz.underlying40 ty5 hi24.1 fun a hE=>kq rfl hE rfl
    ·intro a w ux12 hE hM hp
     have f17 : ux12 17 = (ptr pb1 (0 + ((wr (s4.2 + 3))).toNat * 1)):=hp 0 _ rfl rfl
     exact ZA (v:=(vB x22)) hE (lk rfl f17) ty5 rfl (At.vec hM.rawAt0 hi24.2) fun a hE=>kq rfl hE rfl
    ·intro a w ux12 hE hM hp
     have f3 : ux12 3 = (vB x13):=hp 0 _ rfl rfl
     exact Zc hE (lk rfl f3) fun a hE=>kq rfl hE rfl
    ·intro a w ux12 hE hM hp
     have f8 : ux12 8 = (vB x16):=hp 0 _ rfl rfl
     exact Zc hE (lk rfl f8) fun a hE=>kq rfl hE rfl
    ·intro a w ux12 hE hM hp
     have f13 : ux12 13 = (vB x19):=hp 0 _ rfl rfl
     exact Zc hE (lk rfl f13) fun a hE=>kq rfl hE rfl
    ·intro a w ux12 hE hM hp
     have f18 : ux12 18 = (vB x22):=hp 0 _ rfl rfl
     exact Zc hE (lk rfl f18) fun a hE=>kq rfl hE rfl
    ·intro a w ux12 hE hM hg
     have hE:=hE.sub (e':=[(5,vB x13),(6,vB x16),(7,vB x19),(8,vB x22),(0,v0_1),(1,(Value.slice (some ⟨pb1,0,none⟩) 16 16)),(4,vI s4.2),(10,vI s4.2),(11,(Value.slice (some ⟨pb1,0,none⟩) 16 16)),(12,(vI (s4.1.toList.length : Int))),(13,(vT (decide (s4.2 < (s4.1.toList.length : Int)))))]) ⟨lk rfl (hg 19 (by decide)),lk rfl (hg 20 (by decide)),lk rfl (hg 21 (by decide)),lk rfl (hg 22 (by decide)),rfl,rfl,rfl,rfl,rfl,rfl,rfl,trivial⟩
     refine Zf ?_
     obtain rfl:=Option.some.inj hl10
     refine Zh ?_
     exact ⟨hE.sub ⟨rfl,rfl,rfl,rfl,rfl,rfl,rfl,trivial⟩,hM⟩
   ·skip
    rintro a w ⟨hE,hM⟩
    refine Zb (Zd hE rfl fun a hE=>Ze ?_)
    obtain ⟨j26,hl27,hF28⟩:=bind_some hF11
    refine ZM (fun a w=>Env 79 a [(0,v0_1),(1,(Value.slice (some ⟨pb1,0,none⟩) 16 16)),(4,vI s4.2)] ∧ M St W w (raw pb1 (enc j26) :: its)) ?_ ?_
    ·skip
     refine wp_block ?_
     refine ZE (fun (s29 : (Vector UInt8 16) × Int) a w=>Env 79 a [(0,v0_1),(1,(Value.slice (some ⟨pb1,0,none⟩) 16 16)),(4,vI s4.2),(5,vB j9.1),(6,vB j9.2.1),(7,vB j9.2.2.1),(8,vB j9.2.2.2),(35,vI s29.2)] ∧ M St W w (raw pb1 (enc s29.1) :: its)) hl27 ⟨hE.sub ⟨rfl,rfl,rfl,rfl,rfl,rfl,rfl,rfl,trivial⟩,hM⟩ ?_
     rintro s29 a w ⟨hE,hM⟩ o32 hs30 hx31
     unfold XR at hs30
     refine Zb (Zg hE rfl rfl rfl fun a hE=>Ze (wp_seq ?_))
     refine Zo hE rfl ?_ ?_
     ·intro hb33
      have hs30:=Zs hs30 hb33
      refine wp_skip (Zp (wp_seq (wp_block (Zb (Zd hE rfl fun a hE=>Zc hE rfl fun a hE=>Ze ?_)))))
      obtain ⟨pb35,ds36,hv37,hx38,hA39,hB40⟩:=UG hv0_1 -- ^
      obtain ⟨rfl,_⟩:=Tz.1 hx38 -- ^
      obtain ⟨x42,hi41,hs30⟩:=bvx hs30
      obtain ⟨x45,hi44,hs30⟩:=bvx hs30
      obtain ⟨x48,hi47,hs30⟩:=bvx hs30
      obtain ⟨pb50,ds51,hv52,hx53,hA54,hB55⟩:=UG hv0_1 -- ^
      obtain ⟨rfl,_⟩:=Tz.1 hx53 -- ^
      obtain ⟨x57,hi56,hs30⟩:=bvx hs30
      obtain ⟨x60,hi59,hs30⟩:=bvx hs30
      obtain ⟨x63,hi62,hs30⟩:=bvx hs30
      obtain ⟨pb65,ds66,hv67,hx68,hA69,hB70⟩:=UG hv0_1 -- ^
      obtain ⟨rfl,_⟩:=Tz.1 hx68 -- ^
      obtain ⟨x72,hi71,hs30⟩:=bvx hs30
      obtain ⟨x75,hi74,hs30⟩:=bvx hs30
      obtain ⟨x78,hi77,hs30⟩:=bvx hs30
      obtain ⟨pb80,ds81,hv82,hx83,hA84,hB85⟩:=UG hv0_1 -- ^
      obtain ⟨rfl,_⟩:=Tz.1 hx83 -- ^
      obtain ⟨x87,hi86,hs30⟩:=bvx hs30
      obtain ⟨x90,hi89,hs30⟩:=bvx hs30
      obtain ⟨x93,hi92,hs30⟩:=bvx hs30
      obtain ⟨x95,hi97,hs30⟩:=bvx hs30
      refine jI (n:=79) (hd:=[_,_,_,_,_,_,_,_,_,_,_,_,_,_,_,_,_,_,_,_,_,_,_,_,_,_,_,_,_,_,_,_,_,_,_,_,_,_,_,_]) (tl:=[_]) Yq rfl rfl [38,39,40,41,42,43,44,45,46,47,48,49,50,51,52,53,54,55,56,57,58,59,60,61,62,63,64,65,66,67,68,69,70,71,72,73,74,75,76,77] (by decide) (fun w=>M St W w (raw pb1 (enc s29.1) :: its)) (fun j=>([fun v _=>v = (Value.slice (some ⟨pb1,0,none⟩) 16 16),fun v _=>v = (vI s4.2),fun v _=>v = (vI s29.2),fun v _=>v = (vI (wr (s4.2 + s29.2))),fun v _=>v = v0_1,fun v _=>v = (vI s29.2),fun v _=>v = (vB j9.1),fun v _=>v = (ptr pb35 0),fun v _=>v = (ptr pb35 (0 + (s29.2).toNat * 1024)),fun v _=>v = (ptr pb35 (0 + (s29.2).toNat * 1024 + ((0 : Int)).toNat * 256)),fun v _=>v = (ptr pb35 (0 + (s29.2).toNat * 1024 + ((0 : Int)).toNat * 256 + ((bI j9.1)).toNat * 1)),fun v _=>v = (vB x48),fun v _=>v = v0_1,fun v _=>v = (vI s29.2),fun v _=>v = (vB j9.2.1),fun v _=>v = (ptr pb50 0),fun v _=>v = (ptr pb50 (0 + (s29.2).toNat * 1024)),fun v _=>v = (ptr pb50 (0 + (s29.2).toNat * 1024 + ((1 : Int)).toNat * 256)),fun v _=>v = (ptr pb50 (0 + (s29.2).toNat * 1024 + ((1 : Int)).toNat * 256 + ((bI j9.2.1)).toNat * 1)),fun v _=>v = (vB x63),fun v _=>v = (vB (x48 ^^^ x63)),fun v _=>v = v0_1,fun v _=>v = (vI s29.2),fun v _=>v = (vB j9.2.2.1),fun v _=>v = (ptr pb65 0),fun v _=>v = (ptr pb65 (0 + (s29.2).toNat * 1024)),fun v _=>v = (ptr pb65 (0 + (s29.2).toNat * 1024 + ((2 : Int)).toNat * 256)),fun v _=>v = (ptr pb65 (0 + (s29.2).toNat * 1024 + ((2 : Int)).toNat * 256 + ((bI j9.2.2.1)).toNat * 1)),fun v _=>v = (vB x78),fun v _=>v = (vB ((x48 ^^^ x63) ^^^ x78)),fun v _=>v = v0_1,fun v _=>v = (vI s29.2),fun v _=>v = (vB j9.2.2.2),fun v _=>v = (ptr pb80 0),fun v _=>v = (ptr pb80 (0 + (s29.2).toNat * 1024)),fun v _=>v = (ptr pb80 (0 + (s29.2).toNat * 1024 + ((3 : Int)).toNat * 256)),fun v _=>v = (ptr pb80 (0 + (s29.2).toNat * 1024 + ((3 : Int)).toNat * 256 + ((bI j9.2.2.2)).toNat * 1)),fun v _=>v = (vB x93),fun v _=>v = (vB (((x48 ^^^ x63) ^^^ x78) ^^^ x93)),fun v _=>v = (ptr pb1 (0 + ((wr (s4.2 + s29.2))).toNat * 1))] : List (Value → World → Prop)).getD j (fun _ _=>True)) (fun _ _ h hk=>h.keep hk) (gup (YY (YY (YY (YY (YY (YY (YY (YY (YY (YY (YY (YY (YY (YY (YY (YY (YY (YY (YY (YY (YY (YY (YY (YY (YY (YY (YY (YY (YY (YY (YY (YY (YY (YY (YY (YY (YY (YY (YY (YY gupN))))))))))))))))))))))))))))))))))))))))) hE hM.drew (zo (Zu ?_ (Zu ?_ (Zu ?_ (Zu ?_ (Zu ?_ (Zu ?_ (Zu ?_ (Zu ?_ (Zu ?_ (Zu ?_ (Zu ?_ (Zu ?_ (Zu ?_ (Zu ?_ (Zu ?_ (Zu ?_ (Zu ?_ (Zu ?_ (Zu ?_ (Zu ?_ (Zu ?_ (Zu ?_ (Zu ?_ (Zu ?_ (Zu ?_ (Zu ?_ (Zu ?_ (Zu ?_ (Zu ?_ (Zu ?_ (Zu ?_ (Zu ?_ (Zu ?_ (Zu ?_ (Zu ?_ (Zu ?_ (Zu ?_ (Zu ?_ (Zu ?_ (Zu ?_ BQ))))))))))))))))))))))))))))))))))))))))) ?_
      ·exact qm
      ·exact qm
      ·exact qm
      ·intro a w ux34 hE hM hp
       have f1 : ux34 1 = (vI s4.2):=hp 0 _ rfl rfl
       have f2 : ux34 2 = (vI s29.2):=hp 1 _ rfl rfl
       exact Zg hE (lk rfl f1) (lk rfl f2) rfl fun a hE=>kq rfl hE rfl
      ·exact qm
      ·exact qm
      ·exact qm
      ·intro a w ux34 hE hM hp
       have f4 : ux34 4 = v0_1:=hp 0 _ rfl rfl
       exact X4 hE Za ld (lk (lk rfl f4) hv37) fun a hE=>kq rfl hE rfl
      ·intro a w ux34 hE hM hp
       have f5 : ux34 5 = (vI s29.2):=hp 1 _ rfl rfl
       have f7 : ux34 7 = (ptr pb35 0):=hp 0 _ rfl rfl
       exact ZF hE (lk rfl f7) (lk rfl f5) Tryz.underlying265 HO hi41.1 fun a hE=>kq rfl hE rfl
      ·intro a w ux34 hE hM hp
       have f8 : ux34 8 = (ptr pb35 (0 + (s29.2).toNat * 1024)):=hp 0 _ rfl rfl
       exact ZF hE (lk rfl f8) rfl Tryz.underlying263 BV hi44.1 fun a hE=>kq rfl hE rfl
      ·intro a w ux34 hE hM hp
       have f6 : ux34 6 = (vB j9.1):=hp 1 _ rfl rfl
       have f9 : ux34 9 = (ptr pb35 (0 + (s29.2).toNat * 1024 + ((0 : Int)).toNat * 256)):=hp 0 _ rfl rfl
       exact ZF hE (lk rfl f9) (lk rfl f6) Tryz.underlying156 ty5 hi47.1 fun a hE=>kq rfl hE rfl
      ·intro a w ux34 hE hM hp
       have f10 : ux34 10 = (ptr pb35 (0 + (s29.2).toNat * 1024 + ((0 : Int)).toNat * 256 + ((bI j9.1)).toNat * 1)):=hp 0 _ rfl rfl
       exact ZA (v:=(vB x48)) hE (lk rfl f10) ty5 rfl (At.vec (At.vec (At.vec (hM.atk hA39 hB40) hi41.2) hi44.2) hi47.2) fun a hE=>kq rfl hE rfl
      ·exact qm
      ·exact qm
      ·exact qm
      ·intro a w ux34 hE hM hp
       have f12 : ux34 12 = v0_1:=hp 0 _ rfl rfl
       exact X4 hE Za ld (lk (lk rfl f12) hv52) fun a hE=>kq rfl hE rfl
      ·intro a w ux34 hE hM hp
       have f13 : ux34 13 = (vI s29.2):=hp 1 _ rfl rfl
       have f15 : ux34 15 = (ptr pb50 0):=hp 0 _ rfl rfl
       exact ZF hE (lk rfl f15) (lk rfl f13) Tryz.underlying265 HO hi56.1 fun a hE=>kq rfl hE rfl
      ·intro a w ux34 hE hM hp
       have f16 : ux34 16 = (ptr pb50 (0 + (s29.2).toNat * 1024)):=hp 0 _ rfl rfl
       exact ZF hE (lk rfl f16) rfl Tryz.underlying263 BV hi59.1 fun a hE=>kq rfl hE rfl
      ·intro a w ux34 hE hM hp
       have f14 : ux34 14 = (vB j9.2.1):=hp 1 _ rfl rfl
       have f17 : ux34 17 = (ptr pb50 (0 + (s29.2).toNat * 1024 + ((1 : Int)).toNat * 256)):=hp 0 _ rfl rfl
       exact ZF hE (lk rfl f17) (lk rfl f14) Tryz.underlying156 ty5 hi62.1 fun a hE=>kq rfl hE rfl
      ·intro a w ux34 hE hM hp
       have f18 : ux34 18 = (ptr pb50 (0 + (s29.2).toNat * 1024 + ((1 : Int)).toNat * 256 + ((bI j9.2.1)).toNat * 1)):=hp 0 _ rfl rfl
       exact ZA (v:=(vB x63)) hE (lk rfl f18) ty5 rfl (At.vec (At.vec (At.vec (hM.atk hA54 hB55) hi56.2) hi59.2) hi62.2) fun a hE=>kq rfl hE rfl
      ·intro a w ux34 hE hM hp
       have f11 : ux34 11 = (vB x48):=hp 0 _ rfl rfl
       have f19 : ux34 19 = (vB x63):=hp 1 _ rfl rfl
       exact Zg hE (lk rfl f11) (lk rfl f19) (VV x48 x63) fun a hE=>kq rfl hE rfl
      ·exact qm
      ·exact qm
      ·exact qm
      ·intro a w ux34 hE hM hp
       have f21 : ux34 21 = v0_1:=hp 0 _ rfl rfl
       exact X4 hE Za ld (lk (lk rfl f21) hv67) fun a hE=>kq rfl hE rfl
      ·intro a w ux34 hE hM hp
       have f22 : ux34 22 = (vI s29.2):=hp 1 _ rfl rfl
       have f24 : ux34 24 = (ptr pb65 0):=hp 0 _ rfl rfl
       exact ZF hE (lk rfl f24) (lk rfl f22) Tryz.underlying265 HO hi71.1 fun a hE=>kq rfl hE rfl
      ·intro a w ux34 hE hM hp
       have f25 : ux34 25 = (ptr pb65 (0 + (s29.2).toNat * 1024)):=hp 0 _ rfl rfl
       exact ZF hE (lk rfl f25) rfl Tryz.underlying263 BV hi74.1 fun a hE=>kq rfl hE rfl
      ·intro a w ux34 hE hM hp
       have f23 : ux34 23 = (vB j9.2.2.1):=hp 1 _ rfl rfl
       have f26 : ux34 26 = (ptr pb65 (0 + (s29.2).toNat * 1024 + ((2 : Int)).toNat * 256)):=hp 0 _ rfl rfl
       exact ZF hE (lk rfl f26) (lk rfl f23) Tryz.underlying156 ty5 hi77.1 fun a hE=>kq rfl hE rfl
      ·intro a w ux34 hE hM hp
       have f27 : ux34 27 = (ptr pb65 (0 + (s29.2).toNat * 1024 + ((2 : Int)).toNat * 256 + ((bI j9.2.2.1)).toNat * 1)):=hp 0 _ rfl rfl
       exact ZA (v:=(vB x78)) hE (lk rfl f27) ty5 rfl (At.vec (At.vec (At.vec (hM.atk hA69 hB70) hi71.2) hi74.2) hi77.2) fun a hE=>kq rfl hE rfl
      ·intro a w ux34 hE hM hp
       have f20 : ux34 20 = (vB (x48 ^^^ x63)):=hp 0 _ rfl rfl
       have f28 : ux34 28 = (vB x78):=hp 1 _ rfl rfl
       exact Zg hE (lk rfl f20) (lk rfl f28) (VV (x48 ^^^ x63) x78) fun a hE=>kq rfl hE rfl
      ·exact qm
      ·exact qm
      ·exact qm
      ·intro a w ux34 hE hM hp
       have f30 : ux34 30 = v0_1:=hp 0 _ rfl rfl
       exact X4 hE Za ld (lk (lk rfl f30) hv82) fun a hE=>kq rfl hE rfl
      ·intro a w ux34 hE hM hp
       have f31 : ux34 31 = (vI s29.2):=hp 1 _ rfl rfl
       have f33 : ux34 33 = (ptr pb80 0):=hp 0 _ rfl rfl
       exact ZF hE (lk rfl f33) (lk rfl f31) Tryz.underlying265 HO hi86.1 fun a hE=>kq rfl hE rfl
      ·intro a w ux34 hE hM hp
       have f34 : ux34 34 = (ptr pb80 (0 + (s29.2).toNat * 1024)):=hp 0 _ rfl rfl
       exact ZF hE (lk rfl f34) rfl Tryz.underlying263 BV hi89.1 fun a hE=>kq rfl hE rfl
      ·intro a w ux34 hE hM hp
       have f32 : ux34 32 = (vB j9.2.2.2):=hp 1 _ rfl rfl
       have f35 : ux34 35 = (ptr pb80 (0 + (s29.2).toNat * 1024 + ((3 : Int)).toNat * 256)):=hp 0 _ rfl rfl
       exact ZF hE (lk rfl f35) (lk rfl f32) Tryz.underlying156 ty5 hi92.1 fun a hE=>kq rfl hE rfl
      ·intro a w ux34 hE hM hp
       have f36 : ux34 36 = (ptr pb80 (0 + (s29.2).toNat * 1024 + ((3 : Int)).toNat * 256 + ((bI j9.2.2.2)).toNat * 1)):=hp 0 _ rfl rfl
       exact ZA (v:=(vB x93)) hE (lk rfl f36) ty5 rfl (At.vec (At.vec (At.vec (hM.atk hA84 hB85) hi86.2) hi89.2) hi92.2) fun a hE=>kq rfl hE rfl
      ·intro a w ux34 hE hM hp
       have f29 : ux34 29 = (vB ((x48 ^^^ x63) ^^^ x78)):=hp 0 _ rfl rfl
       have f37 : ux34 37 = (vB x93):=hp 1 _ rfl rfl
       exact Zg hE (lk rfl f29) (lk rfl f37) (VV ((x48 ^^^ x63) ^^^ x78) x93) fun a hE=>kq rfl hE rfl
      ·intro a w ux34 hE hM hp
       have f0 : ux34 0 = (Value.slice (some ⟨pb1,0,none⟩) 16 16):=hp 0 _ rfl rfl
       have f3 : ux34 3 = (vI (wr (s4.2 + s29.2))):=hp 1 _ rfl rfl
       exact Tx hE Za ld (lk rfl f0) (lk rfl f3) Tryz.underlying40 ty5 hi97.1 fun a hE=>kq rfl hE rfl
      ·intro a w ux34 hE hM hg
       have hE:=hE.sub (e':=[(76,(vB (((x48 ^^^ x63) ^^^ x78) ^^^ x93))),(77,(ptr pb1 (0 + ((wr (s4.2 + s29.2))).toNat * 1))),(0,v0_1),(1,(Value.slice (some ⟨pb1,0,none⟩) 16 16)),(4,vI s4.2),(5,vB j9.1),(6,vB j9.2.1),(7,vB j9.2.2.1),(8,vB j9.2.2.2),(9,vI s29.2),(35,vI s29.2),(36,(vT (decide (s29.2 < 4)))),(37,vI s29.2)]) ⟨lk rfl (hg 38 (by decide)),lk rfl (hg 39 (by decide)),rfl,rfl,rfl,rfl,rfl,rfl,rfl,rfl,rfl,rfl,rfl,trivial⟩
       refine Zn (seg:=[(vB (((x48 ^^^ x63) ^^^ x78) ^^^ x93))]) (cs':=enc (s29.1.setIfInBounds ((wr (s4.2 + s29.2))).toNat (((x48 ^^^ x63) ^^^ x78) ^^^ x93))) hE hM Za rfl rfl rfl ty5 rfl (ZN (v:=s29.1) (x:=((x48 ^^^ x63) ^^^ x78) ^^^ x93) hi97.1) (Flat.cell (((x48 ^^^ x63) ^^^ x78) ^^^ x93 : UInt8)) (ZD (v:=s29.1) (x:=((x48 ^^^ x63) ^^^ x78) ^^^ x93) hi97.1) fun w a hM hE=>Zf (Yc (Zp (wp_region_lit (Zg hE rfl rfl rfl fun a hE=>Zd hE rfl fun a hE=>Zf (Zh ?_)))))
       exact ⟨_,(ois hs30),hE.sub ⟨rfl,rfl,rfl,rfl,rfl,rfl,rfl,rfl,trivial⟩,hM⟩
     ·intro hb33
      have hs30:=Zt hs30 hb33
      refine wp_exit (Zm (Zm (Yb ?_)))
      obtain rfl:=hx31 _ (ois hs30)
      refine Zh ?_
      exact ⟨hE.sub ⟨rfl,rfl,rfl,trivial⟩,hM⟩
    ·skip
     rintro a w ⟨hE,hM⟩
     refine Yc (Zp (wp_region_lit (Zd hE rfl fun a hE=>Zg hE rfl rfl rfl fun a hE=>Zc hE rfl fun a hE=>Zf (Zh ?_))))
     exact ⟨_,(ois hF28),hE.sub ⟨rfl,rfl,rfl,trivial⟩,hM⟩
  ·intro hb8
   have hs5:=Zt hs5 hb8
   refine wp_exit (Zm (Zm (Yb ?_)))
   obtain rfl:=hx6 _ (ois hs5)
   refine Zh ?_
   exact ⟨hE.sub ⟨rfl,trivial⟩,hM⟩
 ·skip
  rintro a w ⟨hE,hM⟩
  obtain rfl:=Option.some.inj hF3
  exact k9 hE (by rfl) ⟨_,rfl,rfl,hM⟩
def Yj (p0 : (Ref Gengine)) (s18 : (Vector UInt8 16) × Int) (s29 : (Vector UInt8 16) × Int) : Option (Fl ((Vector UInt8 16) × Int) (Vector UInt8 16)) :=
 if (decide (s29.2 < 16)) = true then ((ZI s18.1 s29.2).bind fun x34=>(ZI p0.v.box (bI x34)).bind fun x48=>(ZI s29.1 s29.2).bind fun x51=>some (Fl.nx ((s29.1.setIfInBounds (s29.2).toNat x48),wr (s29.2 + 1)))) else (some (Fl.ex s29.1))
def Yk (p0 : (Ref Gengine)) (p1 : (List (Vector UInt8 16))) (s18 : (Vector UInt8 16) × Int) : Option (Fl ((Vector UInt8 16) × Int) (Vector UInt8 16)) :=
 if (decide (s18.2 < (p1.length : Int))) = true then (((Zz (Yj p0 s18) (s18.1,0)).bind fun j26=>((WD p0.v.places j26).bind fun r68=>some r68 : Option ((Vector UInt8 16))).bind fun j54=>(if (decide (s18.2 < (wr ((p1.length : Int) - 1)))) = true then ((slc j54.toList (0 : Int) (16 : Int)).bind fun l86=>(Vf p0.v.mixer j54).bind fun r89=>some r89) else (some j54) : Option ((Vector UInt8 16))).bind fun j71=>(idx p1 s18.2).bind fun x94=>(Yn j71 x94).bind fun r97=>some r97 : Option ((Vector UInt8 16))).bind fun j23=>some (Fl.nx (j23,wr (s18.2 + 1)))) else (some (Fl.ex s18.1))
def YH (p0 : (Ref Gengine)) (p1 : (List (Vector UInt8 16))) (p2 : (Vector UInt8 16)) : Option ((Vector UInt8 16)) :=
 ((idx p1 (0 : Int)).bind fun x9=>(Yn p2 x9).bind fun r12=>some r12 : Option ((Vector UInt8 16))).bind fun j5=>(Zz (Yk p0 p1) (j5,1)).bind fun j15=>some j15
theorem TW (w0 : World) (p0 : (Ref Gengine)) (v0_1 : Value) (hv0_1 : Ro w0 p0 [v0_1]) (p1 : (List (Vector UInt8 16))) (v1_1 : Value) (hv1_1 : Ro w0 p1 [v1_1]) (p2 : (Vector UInt8 16)) (r : (Vector UInt8 16)) (hF : YH p0 p1 p2 = some r) :
  Calls Tryz.prog 217 [v0_1,v1_1,(Value.agg (enc p2).toArray)].toArray w0 (Rt w0 (Value.agg (enc r).toArray)):=by
 refine ce Tryz.func217 ?_
 intro a hE
 have hM:=M.start w0
 unfold YH at hF
 refine Zb (ZZ (cs:=enc p2) hE hM Za ld rfl rfl fun b1 w a hM hE=>ZC hE hM ZJ fun b3 w a hM hE=>Ze ?_)
 obtain ⟨j5,hl6,hF7⟩:=bind_some hF
 refine ZK (fun a w=>Env 59 a [(0,v0_1),(1,v1_1),(5,(ptr b1 0)),(6,(ptr b3 0))] ∧ M (Old w0) w0 w [raw b3 (enc (Vector.replicate 16 (0 : UInt8))),raw b1 (enc j5)]) ?_ ?_
 ·skip
  obtain ⟨x9,hi11,hl6⟩:=bix hl6
  obtain ⟨r12,e13,hl6⟩:=bind_some hl6
  refine ZV [10,11,12,13,14] Yq rfl rfl (by decide) rfl hE hM (qsP (fun z=>Z0 z.E Za ld rfl ZJ rfl (z.M.rawAt1) (Flat.len _) (kr0 rfl)) (qsP (fun z=>Zi z.E Za ld rfl (kr0 rfl)) (qsP (fun z=>ZX z.E Za ld rfl rfl Tryz.underlying54 ZJ (z.M.rd hv1_1) hi11.1 (kr0 rfl)) (qsP (fun z=>Z0 z.E Za ld rfl ZJ rfl (Yl (z.M.rd hv1_1) hi11.2) (Flat.len _) (kr0 rfl)) (qsP (fun z=>Yg z.E Za ld rfl BU (Wv _ p2 x9 r12 e13) (kc rfl)) qs0))))) ?_
  ·intro a w u hE hM
   have hM:=hM.pull1
   refine Zn (seg:=enc r12) (cs':=enc r12) hE hM Za rfl rfl rfl ZJ (Flat.len _) (zle flq) (Flat.cell _) (Zk flq) fun w a hM hE=>Zf ?_
   obtain rfl:=Option.some.inj hl6
   refine Zh ?_
   have hM:=hM.pull1
   exact ⟨hE.sub ⟨rfl,rfl,rfl,rfl,trivial⟩,hM⟩
 ·skip
  rintro a w ⟨hE,hM⟩
  refine wp_seq (Zb (Zc hE rfl fun a hE=>Ze ?_))
  obtain ⟨j15,hl16,hF17⟩:=bind_some hF7
  refine ZM (fun a w=>Env 59 a [(5,(ptr b1 0)),(6,(ptr b3 0))] ∧ M (Old w0) w0 w [raw b3 (enc (Vector.replicate 16 (0 : UInt8))),raw b1 (enc j15)]) ?_ ?_
  ·skip
   refine wp_block ?_
   refine ZE (fun (s18 : (Vector UInt8 16) × Int) a w=>Env 59 a [(0,v0_1),(1,v1_1),(5,(ptr b1 0)),(6,(ptr b3 0)),(7,vI s18.2)] ∧ M (Old w0) w0 w [raw b3 (enc (Vector.replicate 16 (0 : UInt8))),raw b1 (enc s18.1)]) hl16 ⟨hE.sub ⟨rfl,rfl,rfl,rfl,rfl,trivial⟩,hM⟩ ?_
   rintro s18 a w ⟨hE,hM⟩ o21 hs19 hx20
   unfold Yk at hs19
   refine wp_seq (Zb (Zd hE rfl fun a hE=>Zd hE rfl fun a hE=>Z7 hE rfl Tryz.underlying54 (hM.rd hv1_1) fun a hE=>Zg hE rfl rfl rfl fun a hE=>Ze ?_))
   refine Zo hE rfl ?_ ?_
   ·intro hb22
    have hs19:=Zs hs19 hb22
    refine wp_skip (Zp ?_)
    obtain ⟨j23,hl24,hF25⟩:=bind_some hs19
    refine ZK (fun a w=>Env 59 a [(0,v0_1),(1,v1_1),(5,(ptr b1 0)),(6,(ptr b3 0)),(7,vI s18.2)] ∧ M (Old w0) w0 w [raw b3 (enc (Vector.replicate 16 (0 : UInt8))),raw b1 (enc j23)]) ?_ ?_
    ·skip
     refine wp_block (wp_seq (Zb (Zq hE rfl ZJ rfl hM.rawAt1 (Flat.len _) fun a hE=>Zd hE rfl fun a hE=>Ze ?_)))
     obtain ⟨j26,hl27,hF28⟩:=bind_some hl24
     refine ZM (fun a w=>Env 59 a [(0,v0_1),(1,v1_1),(5,(ptr b1 0)),(6,(ptr b3 0)),(7,vI s18.2)] ∧ M (Old w0) w0 w [raw b3 (enc (Vector.replicate 16 (0 : UInt8))),raw b1 (enc j26)]) ?_ ?_
     ·skip
      refine wp_block ?_
      refine ZE (fun (s29 : (Vector UInt8 16) × Int) a w=>Env 59 a [(0,v0_1),(1,v1_1),(5,(ptr b1 0)),(6,(ptr b3 0)),(7,vI s18.2),(21,(Value.agg (enc s18.1).toArray)),(22,vI s29.2)] ∧ M (Old w0) w0 w [raw b3 (enc (Vector.replicate 16 (0 : UInt8))),raw b1 (enc s29.1)]) hl27 ⟨hE.sub ⟨rfl,rfl,rfl,rfl,rfl,rfl,rfl,trivial⟩,hM⟩ ?_
      rintro s29 a w ⟨hE,hM⟩ o32 hs30 hx31
      unfold Yj at hs30
      refine Zb (Zg hE rfl rfl rfl fun a hE=>Ze (wp_seq ?_))
      refine Zo hE rfl ?_ ?_
      ·intro hb33
       have hs30:=Zs hs30 hb33
       refine wp_skip (Zp (wp_seq (wp_block (Zb (Zd hE rfl ?_))))); intro a hE
       obtain ⟨x34,hi36,hs30⟩:=bvx hs30
       refine QW hE Za ld rfl rfl Tryz.underlying68 ty5 rfl rfl hi36 rfl fun a hE=>Zc hE rfl fun a hE=>Zc hE rfl fun a hE=>Ze (wp_region_lit (Zd hE rfl fun a hE=>Zd hE rfl fun a hE=>Zd hE rfl ?_)); intro a hE
       obtain ⟨pb37,ds38,hv39,hx40,hA41,hB42⟩:=UG hv0_1 -- ^
       obtain ⟨u43,u45,rfl,h44,h46⟩:=Tl hx40 -- ^
       refine X4 hE Za ld (lk rfl hv39) fun a hE=>Zw hE rfl (AD) ?_; intro a hE
       obtain ⟨x48,hi47,hs30⟩:=bvx hs30
       refine ZF hE rfl rfl Tryz.underlying157 ty5 hi47.1 fun a hE=>ZA (v:=(vB x48)) hE rfl ty5 rfl (At.vec (At.cat (pre:=[]) (hM.atk hA41 hB42) cl0) hi47.2) ?_; intro a hE
       obtain ⟨x51,hi50,hs30⟩:=bvx hs30
       refine ZF hE rfl rfl Tryz.underlying68 ty5 hi50.1 ?_; intro a hE
       have hM:=hM.pull1
       refine Zn (seg:=[vB x48]) (cs':=enc (s29.1.setIfInBounds (s29.2).toNat x48)) hE hM Za rfl rfl rfl ty5 rfl (ZN (v:=s29.1) (x:=x48) hi50.1) (Flat.cell (x48 : UInt8)) (ZD (v:=s29.1) (x:=x48) hi50.1) fun w a hM hE=>Zf (Yc (Zp (wp_region_lit (Zg hE rfl rfl rfl fun a hE=>Zd hE rfl fun a hE=>Zf (Zh ?_)))))
       have hM:=hM.pull1
       exact ⟨_,(ois hs30),hE.sub ⟨rfl,rfl,rfl,rfl,rfl,rfl,rfl,trivial⟩,hM⟩
      ·intro hb33
       have hs30:=Zt hs30 hb33
       refine wp_exit (Zm (Zm (Yb ?_)))
       obtain rfl:=hx31 _ (ois hs30)
       refine Zh ?_
       exact ⟨hE.sub ⟨rfl,rfl,rfl,rfl,rfl,trivial⟩,hM⟩
     ·skip
      rintro a w ⟨hE,hM⟩
      refine Zp ?_
      obtain ⟨j54,hl55,hF56⟩:=bind_some hF28
      refine ZK (fun a w=>Env 59 a [(0,v0_1),(1,v1_1),(5,(ptr b1 0)),(6,(ptr b3 0)),(7,vI s18.2)] ∧ M (Old w0) w0 w [raw b3 (enc (Vector.replicate 16 (0 : UInt8))),raw b1 (enc j54)]) ?_ ?_
      ·skip
       obtain ⟨pb58,ds59,hv60,hx61,hA62,hB63⟩:=UG hv0_1 -- ^
       obtain ⟨u64,u66,rfl,h65,h67⟩:=Tl hx61 -- ^
       obtain ⟨r68,e69,hl55⟩:=bind_some hl55
       refine ZV [35,36,37,38,39,40] Yq rfl rfl (by decide) rfl hE hM (qsP (fun z=>Zi z.E Za ld rfl (kr0 rfl)) (qsP (fun z=>X4 z.E Za ld (lk rfl hv60) (kr0 rfl)) (qsP (fun z=>Zr z.E Za ld rfl (kZ) (kr0 rfl)) (qsP (fun z=>Z0 z.E Za ld rfl TF rfl (At.cat (pre:=[enc p0.v.box,enc p0.v.backBox]) (z.M.atk hA62 hB63) ck) (Flat.len _) (kr0 rfl)) (qsP (fun z=>Z0 z.E Za ld rfl ZJ rfl (z.M.rawAt1) (Flat.len _) (kr0 rfl)) (qsP (fun z=>Yg z.E Za ld rfl (cbm Tryz.func235) (Kh _ p0.v.places j26 r68 e69) (kc rfl)) qs0)))))) ?_
       ·intro a w u hE hM
        have hM:=hM.pull1
        refine Zn (seg:=enc r68) (cs':=enc r68) hE hM Za rfl rfl rfl ZJ (Flat.len _) (zle flq) (Flat.cell _) (Zk flq) fun w a hM hE=>Zf ?_
        obtain rfl:=Option.some.inj hl55
        refine Zh ?_
        have hM:=hM.pull1
        exact ⟨hE.sub ⟨rfl,rfl,rfl,rfl,rfl,trivial⟩,hM⟩
      ·skip
       rintro a w ⟨hE,hM⟩
       obtain ⟨j71,hl72,hF73⟩:=bind_some hF56
       refine ZK (fun a w=>Env 59 a [(0,v0_1),(1,v1_1),(5,(ptr b1 0)),(6,(ptr b3 0)),(7,vI s18.2)] ∧ M (Old w0) w0 w [raw b3 (enc (Vector.replicate 16 (0 : UInt8))),raw b1 (enc j71)]) ?_ ?_
       ·skip
        refine Zb (Zd hE rfl fun a hE=>Zd hE rfl fun a hE=>Z7 hE rfl Tryz.underlying54 (hM.rd hv1_1) fun a hE=>Zg hE rfl rfl rfl fun a hE=>Zg hE rfl rfl rfl fun a hE=>Ze ?_)
        refine Zo hE rfl ?_ ?_
        ·intro hb74
         have hl72:=Zs hl72 hb74
         obtain ⟨pb76,ds77,hv78,hx79,hA80,hB81⟩:=UG hv0_1 -- ^
         obtain ⟨u82,u84,rfl,h83,h85⟩:=Tl hx79 -- ^
         obtain ⟨l86,e87,hl72⟩:=bind_some hl72
         have hb88:=Qp e87 -- ^
         refine ZV [46,47,48,49,50] Yq rfl rfl (by decide) rfl hE hM (qsP (fun z=>Zi z.E Za ld rfl (kr0 rfl)) (qsP (fun z=>X4 z.E Za ld (lk rfl hv78) (kr0 rfl)) (qsP (fun z=>Zr z.E Za ld rfl (qt) (kr0 rfl)) (qsP (fun z=>ZL (v:=u82) z.E Za ld rfl kp rfl (At.cat (pre:=[enc p0.v.box,enc p0.v.backBox,enc p0.v.places,enc p0.v.backPlaces]) (z.M.atk hA80 hB81) ck) (kr0 rfl)) (qsP (fun z=>UV (N:=16) z.E Za ld rfl rfl rfl rfl rfl Tryz.underlying68 ty5 hb88 (kr0 rfl)) qs0))))) ?_
         ·intro a w u hE hM
          have hM:=hM.pull1
          obtain ⟨r89,e90,hl72⟩:=bind_some hl72
          refine Zy hE rfl (cbm Tryz.func236) (Js _ _ _ _ p0.v.mixer u82 h83 b1 j54 hM r89 e90) ?_
          rintro v w a ⟨rfl,hM⟩ hE
          refine Zf ?_
          obtain rfl:=Option.some.inj hl72
          refine Zh ?_
          have hM:=hM.pull1
          exact ⟨hE.sub ⟨rfl,rfl,rfl,rfl,rfl,trivial⟩,hM⟩
        ·intro hb74
         have hl72:=Zt hl72 hb74
         refine wp_skip ?_
         obtain rfl:=Option.some.inj hl72
         refine Zh ?_
         exact ⟨hE.sub ⟨rfl,rfl,rfl,rfl,rfl,trivial⟩,hM⟩
       ·skip
        rintro a w ⟨hE,hM⟩
        obtain ⟨x94,hi96,hF73⟩:=bix hF73
        obtain ⟨r97,e98,hF73⟩:=bind_some hF73
        refine ZV [52,53,54,55,56,57] Yq rfl rfl (by decide) rfl hE hM (qsP (fun z=>Z0 z.E Za ld rfl ZJ rfl (z.M.rawAt1) (Flat.len _) (kr0 rfl)) (qsP (fun z=>Zi z.E Za ld rfl (kr0 rfl)) (qsP (fun z=>Zi z.E Za ld rfl (kr0 rfl)) (qsP (fun z=>ZX z.E Za ld rfl rfl Tryz.underlying54 ZJ (z.M.rd hv1_1) hi96.1 (kr0 rfl)) (qsP (fun z=>Z0 z.E Za ld rfl ZJ rfl (Yl (z.M.rd hv1_1) hi96.2) (Flat.len _) (kr0 rfl)) (qsP (fun z=>Yg z.E Za ld rfl BU (Wv _ j71 x94 r97 e98) (kc rfl)) qs0)))))) ?_
        ·intro a w u hE hM
         have hM:=hM.pull1
         refine Zn (seg:=enc r97) (cs':=enc r97) hE hM Za rfl rfl rfl ZJ (Flat.len _) (zle flq) (Flat.cell _) (Zk flq) fun w a hM hE=>Zf (Yc ?_)
         obtain rfl:=Option.some.inj hF73
         refine Zh ?_
         have hM:=hM.pull1
         exact ⟨hE.sub ⟨rfl,rfl,rfl,rfl,rfl,trivial⟩,hM⟩
    ·skip
     rintro a w ⟨hE,hM⟩
     refine wp_region_lit (Zd hE rfl fun a hE=>Zg hE rfl rfl rfl fun a hE=>Zc hE rfl fun a hE=>Zf (Zh ?_))
     exact ⟨_,(ois hF25),hE.sub ⟨rfl,rfl,rfl,rfl,rfl,trivial⟩,hM⟩
   ·intro hb22
    have hs19:=Zt hs19 hb22
    refine wp_exit (Zm (Zm (Yb ?_)))
    obtain rfl:=hx20 _ (ois hs19)
    refine Zh ?_
    exact ⟨hE.sub ⟨rfl,rfl,trivial⟩,hM⟩
  ·skip
   rintro a w ⟨hE,hM⟩
   refine Zp (Zb (Zq hE rfl ZJ rfl hM.rawAt1 (Flat.len _) fun a hE=>Zn (seg:=enc j15) (cs':=enc j15) hE hM Za rfl rfl rfl ZJ (Flat.len _) (zle flq) (Flat.cell _) (Zk flq) fun w a hM hE=>Ze ?_))
   obtain rfl:=Option.some.inj hF17
   have hq101 : Yz Tryz.prog _ _ (.cell 6 68) _:=ZS hE rfl ZJ rfl hM.rawAt0 (Flat.len _) rfl
   exact wp_ret (ZP hE rfl hq101 ⟨_,rfl,rfl,hM.kept⟩)
def Yp (p0 : (Ref Gengine)) (p1 : (Vector UInt8 16)) (p2 : (Vector UInt8 16)) : Option ((Vector UInt8 16)) :=
 ((WJ p0 p1 p0.v.rounds).bind fun r21=>(YH p0 r21 p2).bind fun r24=>some r24 : Option ((Vector UInt8 16))).bind fun j7=>some j7
theorem U4 (w0 : World) (p0 : (Ref Gengine)) (v0_1 : Value) (hv0_1 : Ro w0 p0 [v0_1]) (p1 : (Vector UInt8 16)) (p2 : (Vector UInt8 16)) (r : (Vector UInt8 16)) (hF : Yp p0 p1 p2 = some r) :
  Calls Tryz.prog 183 [v0_1,(Value.agg (enc p1).toArray),(Value.agg (enc p2).toArray)].toArray w0 (Rt w0 (Value.agg (enc r).toArray)):=by
 refine ce Tryz.func183 ?_
 intro a hE
 have hM:=M.start w0
 unfold Yp at hF
 refine Zb (ZZ (cs:=enc p1) hE hM Za ld rfl rfl fun b1 w a hM hE=>ZZ (cs:=enc p2) hE hM Za ld rfl rfl fun b3 w a hM hE=>ZC hE hM ZJ fun b5 w a hM hE=>Ze ?_)
 obtain ⟨j7,hl8,hF9⟩:=bind_some hF
 refine ZK (fun a w=>Env 17 a [(6,(ptr b5 0))] ∧ M (Old w0) w0 w [raw b5 (enc j7)]) ?_ ?_
 ·skip
  obtain ⟨pb11,ds12,hv13,hx14,hA15,hB16⟩:=UG hv0_1 -- ^
  obtain ⟨u17,u19,rfl,h18,h20⟩:=Tl hx14 -- ^
  obtain ⟨r21,e22,hl8⟩:=bind_some hl8
  refine Yv (its:=[raw b5 (enc (Vector.replicate 16 (0 : UInt8))),raw b3 (enc p2),raw b1 (enc p1)]) (mk:=([mkO 7 (fun v=>osl NoB (r21 : List (Vector UInt8 16)) v)] : Mk)) [7,8,9,10,11,12,13,14,15] Yq rfl rfl (by decide) rfl hE (fun u=>M.qE (M.q0 hM.drew u) emO) (qsP (fun z=>Zi z.E Za ld rfl (kr0 rfl)) (qsP (fun z=>Zi z.E Za ld rfl (kr0 rfl)) (qsP (v:=(Value.agg (enc p1).toArray)) ?_ (qsP (fun z=>Zi z.E Za ld rfl (kr0 rfl)) (qsP (fun z=>X4 z.E Za ld (lk rfl hv13) (kr0 rfl)) (qsP (fun z=>Zr z.E Za ld rfl (qh) (kr0 rfl)) (qsP (v:=(vI p0.v.rounds)) ?_ (qsM (pr:=fun v=>True) ?_ (qsP (v:=(Value.agg (enc p2).toArray)) ?_ qs0))))))))) ?_
  ·intro a w ux10 D z
   have hE:=z.E
   have hM:=z.M
   exact Zq hE rfl ZJ rfl hM.rawAt2 (Flat.len _) fun a hE=>⟨Kept.refl _ _,_,rfl,hE⟩
  ·intro a w ux10 D z
   have hE:=z.E
   have hM:=z.M
   exact ZA (v:=(vI p0.v.rounds)) hE rfl ty2 rfl (At.cat (pre:=[enc p0.v.box,enc p0.v.backBox,enc p0.v.places,enc p0.v.backPlaces,[u17],[u19]]) (hM.atk hA15 hB16) ck) fun a hE=>⟨Kept.refl _ _,_,rfl,hE⟩
  ·intro a w ux10 D z
   have hE:=z.E
   have hD : D 7 = false:=z.F
   have hM0:=z.M
   have hM:=z.M
   refine Zy hE rfl (cbm Tryz.func218) (Kq _ p0 v0_1 (hM.rdo hv0_1) p1 p0.v.rounds r21 e22) ?_
   rintro _ w a ⟨_,rfl,hFr,hK⟩ hE
   have hM:=hM0.add hK hFr
   exact ⟨_,_,rfl,hE,M.qFill (mk1:=[]) (mk2:=[]) (f:=(fun v=>osl NoB (r21 : List (Vector UInt8 16)) v)) hM rfl hD,trivial⟩
  ·intro a w ux10 D z
   have hE:=z.E
   have hM:=z.M
   exact Zq hE rfl ZJ rfl hM.rawAt1 (Flat.len _) fun a hE=>⟨Kept.refl _ _,_,rfl,hE⟩
  ·intro a w ux10 D hE hM hG hall
   have d7:=hall 7 (by decide)
   have hM:=hM.sure (pre:=[_,_,_]) d7
   obtain ⟨r24,e25,hl8⟩:=bind_some hl8
   refine Zy hE rfl (cbm Tryz.func217) (TW _ p0 v0_1 (hM.rdo hv0_1) r21 (ux10 7) (hM.sl (pre:=[_,_,_]) noB) p2 r24 e25) ?_
   rintro v w a ⟨rfl,hK⟩ hE
   have hM:=hM.keep hK
   refine Zn (seg:=enc r24) (cs':=enc r24) hE hM Za rfl rfl rfl ZJ (Flat.len _) (zle flq) (Flat.cell _) (Zk flq) fun w a hM hE=>Zf ?_
   obtain rfl:=Option.some.inj hl8
   refine Zh ?_
   have hM:=M.fst (l:=[_]) hM
   exact ⟨hE.sub ⟨rfl,trivial⟩,hM⟩
 ·skip
  rintro a w ⟨hE,hM⟩
  obtain rfl:=Option.some.inj hF9
  have hq27 : Yz Tryz.prog _ _ (.cell 6 68) _:=ZS hE rfl ZJ rfl hM.rawAt0 (Flat.len _) rfl
  exact wp_ret (ZP hE rfl hq27 ⟨_,rfl,rfl,hM.kept⟩)
def Y0 (p0 : (Ref Gengine)) (p1 : (Vector UInt8 32)) (p2 : (Vector UInt8 16)) : Option ((Vector UInt8 32)) :=
 (slc p1.toList (0 : Int) (16 : Int)).bind fun l8=>(TY 16 l8).bind fun x11=>(slc p1.toList (16 : Int) (32 : Int)).bind fun l13=>(TY 16 l13).bind fun x16=>(Yn x11 p2).bind fun r26=>((Yp p0 x16 r26).bind fun r34=>(Yn r34 r26).bind fun r36=>some r36 : Option ((Vector UInt8 16))).bind fun j30=>(Yn x16 p2).bind fun r39=>((Yp p0 j30 r39).bind fun r47=>(Yn r47 r39).bind fun r49=>some r49 : Option ((Vector UInt8 16))).bind fun j43=>((slc j30.toList (0 : Int) (16 : Int)).bind fun l56=>(slc j43.toList (0 : Int) (16 : Int)).bind fun l59=>(Z2 ([l56,l59] : (List (List UInt8)))).bind fun r64=>(TY 32 r64).bind fun x67=>some x67 : Option ((Vector UInt8 32))).bind fun j52=>some j52
theorem QM (w0 : World) (p0 : (Ref Gengine)) (v0_1 : Value) (hv0_1 : Ro w0 p0 [v0_1]) (p1 : (Vector UInt8 32)) (p2 : (Vector UInt8 16)) (r : (Vector UInt8 32)) (hF : Y0 p0 p1 p2 = some r) :
  Calls Tryz.prog 134 [v0_1,(Value.agg (enc p1).toArray),(Value.agg (enc p2).toArray)].toArray w0 (Rt w0 (Value.agg (enc r).toArray)):=by
 refine ce Tryz.func134 ?_
 intro a hE
 have hM:=M.start w0
 unfold Y0 at hF
 refine Zb (ZZ (cs:=enc p1) hE hM Za ld rfl rfl fun b1 w a hM hE=>ZZ (cs:=enc p2) hE hM Za ld rfl rfl fun b3 w a hM hE=>ZC hE hM Z3 fun b5 w a hM hE=>Ze (wp_seq ?_))
 obtain ⟨l8,e9,hF⟩:=bind_some hF
 have hb10:=Qp e9 -- ^
 obtain ⟨x11,e12,hF⟩:=bind_some hF
 obtain ⟨l13,e14,hF⟩:=bind_some hF
 have hb15:=Qp e14 -- ^
 obtain ⟨x16,e17,hF⟩:=bind_some hF
 refine Yv (its:=[raw b5 (enc (Vector.replicate 32 (0 : UInt8))),raw b3 (enc p2),raw b1 (enc p1)]) (mk:=([mkO 6 (fun v=>UR v (enc (Vector.replicate 16 (0 : UInt8)))),mkO 7 (fun v=>UR v (enc (Vector.replicate 16 (0 : UInt8))))] : Mk)) [11,12,13,14,15,16,7,8] Yq rfl rfl (by decide) rfl hE (fun u=>M.qE (M.qE (M.q0 hM.drew u) emO) emO) (qsP (fun z=>UV (N:=32) z.E Za ld rfl rfl rfl rfl rfl Tryz.underlying35 ty5 hb10 (kr0 rfl)) (qsP (v:=(ptr (sb (Ym (.slice (some ⟨b1,0,none⟩) 32 32) ((0 : Int)).toNat ((16 : Int)).toNat 1)) (so (Ym (.slice (some ⟨b1,0,none⟩) 32 32) ((0 : Int)).toNat ((16 : Int)).toNat 1)))) ?_ (qsP (v:=(Value.agg (enc x11).toArray)) ?_ (qsP (fun z=>UV (N:=32) z.E Za ld rfl rfl rfl rfl rfl Tryz.underlying35 ty5 hb15 (kr0 rfl)) (qsP (v:=(ptr (sb (Ym (.slice (some ⟨b1,0,none⟩) 32 32) ((16 : Int)).toNat ((32 : Int)).toNat 1)) (so (Ym (.slice (some ⟨b1,0,none⟩) 32 32) ((16 : Int)).toNat ((32 : Int)).toNat 1)))) ?_ (qsP (v:=(Value.agg (enc x16).toArray)) ?_ (qsM (pr:=fun v=>True) ?_ (qsM (pr:=fun v=>True) ?_ qs0)))))))) ?_
 ·intro a w ux7 D z
  have hE:=z.E
  have hM:=z.M
  exact Hn hE Za ld rfl Tryz.underlying68 (Xx (At.sat hM.rawAt2 (by simp) (by decide)) e9) (TZ e12).1 (by decide) fun a hE=>⟨Kept.refl _ _,_,rfl,hE⟩
 ·intro a w ux7 D z
  have hE:=z.E
  have hM:=z.M
  exact Zq hE rfl ZJ rfl (Ay (Xx (At.sat hM.rawAt2 (by simp) (by decide)) e9) e12 (by decide)) (Flat.len _) fun a hE=>⟨Kept.refl _ _,_,rfl,hE⟩
 ·intro a w ux7 D z
  have hE:=z.E
  have hM:=z.M
  exact Hn hE Za ld rfl Tryz.underlying68 (Xx (At.sat hM.rawAt2 (by simp) (by decide)) e14) (TZ e17).1 (by decide) fun a hE=>⟨Kept.refl _ _,_,rfl,hE⟩
 ·intro a w ux7 D z
  have hE:=z.E
  have hM:=z.M
  exact Zq hE rfl ZJ rfl (Ay (Xx (At.sat hM.rawAt2 (by simp) (by decide)) e14) e17 (by decide)) (Flat.len _) fun a hE=>⟨Kept.refl _ _,_,rfl,hE⟩
 ·intro a w ux7 D z
  have hE:=z.E
  have hD : D 6 = false:=z.F
  have hM:=z.M
  refine ZC hE hM ZJ ?_; intro b18 w a hM hE
  have hM:=hM.pack1 (it:=UR _ (enc (Vector.replicate 16 (0 : UInt8)))) (fun w w' fp ⟨b',e,k⟩ hb=>⟨b',e,Y9 w w' fp k hb⟩) (fun fp k=>⟨_,rfl,k⟩)
  exact ⟨_,_,rfl,hE,M.qFill (mk1:=[]) (mk2:=[_]) (f:=fun v=>UR v (enc (Vector.replicate 16 (0 : UInt8)))) hM rfl hD,trivial⟩
 ·intro a w ux7 D z
  have hE:=z.E
  have hD : D 7 = false:=z.F
  have hM:=z.M
  refine ZC hE hM ZJ ?_; intro b20 w a hM hE
  have hM:=hM.pack1 (it:=UR _ (enc (Vector.replicate 16 (0 : UInt8)))) (fun w w' fp ⟨b',e,k⟩ hb=>⟨b',e,Y9 w w' fp k hb⟩) (fun fp k=>⟨_,rfl,k⟩)
  exact ⟨_,_,rfl,hE,M.qFill (mk1:=[_]) (mk2:=[]) (f:=fun v=>UR v (enc (Vector.replicate 16 (0 : UInt8)))) hM rfl hD,trivial⟩
 ·intro a w ux7 D hE hM hG hall
  have d6:=hall 6 (by decide)
  have d7:=hall 7 (by decide)
  have hM:=(hM.sure (pre:=[_,_,_]) d6).pull
  obtain ⟨_,⟨b22,f23,_⟩,_⟩:=hM.head
  have hM:=((hM.pack1 Y9 (it:=raw b22 (enc (Vector.replicate 16 (0 : UInt8)))) (fun fp ⟨b2,e2,k2⟩=>by rw [f23] at e2; simp [ptr] at e2; subst e2; exact k2)).sure (pre:=[_,_,_,_]) d7).pull
  obtain ⟨_,⟨b24,f25,_⟩,_⟩:=hM.head
  have hM:=hM.pack1 Y9 (it:=raw b24 (enc (Vector.replicate 16 (0 : UInt8)))) (fun fp ⟨b2,e2,k2⟩=>by rw [f25] at e2; simp [ptr] at e2; subst e2; exact k2)
  have hE:=hE.setq (t:=7) rfl f23
  have hE:=hE.setq (t:=8) rfl f25
  have hM:=hM.pull1
  refine Zn (seg:=enc x11) (cs':=enc x11) hE hM Za rfl rfl rfl ZJ (Flat.len _) (zle flq) (Flat.cell _) (Zk flq) ?_; intro w a hM hE
  have hM:=hM.pull1
  refine Zn (seg:=enc x16) (cs':=enc x16) hE hM Za rfl rfl rfl ZJ (Flat.len _) (zle flq) (Flat.cell _) (Zk flq) fun w a hM hE=>Zf (Zp (Zb (Zq hE rfl ZJ rfl hM.rawAt1 (Flat.len _) fun a hE=>Zq hE rfl ZJ rfl hM.rawAt3 (Flat.len _) ?_))); intro a hE
  obtain ⟨r26,e27,hF⟩:=bind_some hF
  refine Zy hE rfl BU (Wv _ x11 p2 r26 e27) ?_
  rintro v w a ⟨rfl,hK⟩ hE
  have hM:=hM.keep hK
  refine ZC hE hM ZJ fun b28 w a hM hE=>Zn (seg:=enc r26) (cs':=enc r26) hE hM Za rfl rfl rfl ZJ (Flat.len _) (zle flq) (Flat.cell _) (Zk flq) fun w a hM hE=>Ze ?_
  obtain ⟨j30,hl31,hF32⟩:=bind_some hF
  refine ZK (fun a w=>Env 41 a [(0,v0_1),(5,(ptr b3 0)),(6,(ptr b5 0)),(7,(ptr b22 0)),(8,(ptr b24 0))] ∧ M (Old w0) w0 w [raw b24 (enc x16),raw b22 (enc j30),raw b5 (enc (Vector.replicate 32 (0 : UInt8))),raw b3 (enc p2)]) ?_ ?_
  ·skip
   obtain ⟨r34,e35,hl31⟩:=bind_some hl31
   obtain ⟨r36,e37,hl31⟩:=bind_some hl31
   refine ZV [20,21,22,23,24,25] Yq rfl rfl (by decide) rfl hE hM (qsP (fun z=>Zi z.E Za ld rfl (kr0 rfl)) (qsP (fun z=>Z0 z.E Za ld rfl ZJ rfl (z.M.rawAt1) (Flat.len _) (kr0 rfl)) (qsP (fun z=>Z0 z.E Za ld rfl ZJ rfl (z.M.rawAt0) (Flat.len _) (kr0 rfl)) (qsP (fun z=>Yg z.E Za ld rfl (cbm Tryz.func183) (U4 _ p0 v0_1 (z.M.rdo hv0_1) x16 r26 r34 e35) (kc rfl)) (qsP (fun z=>Z0 z.E Za ld rfl ZJ rfl (z.M.rawAt0) (Flat.len _) (kr0 rfl)) (qsP (fun z=>Yg z.E Za ld rfl BU (Wv _ r34 r26 r36 e37) (kc rfl)) qs0)))))) ?_
   ·intro a w u hE hM
    have hM:=hM.pull2
    refine Zn (seg:=enc r36) (cs':=enc r36) hE hM Za rfl rfl rfl ZJ (Flat.len _) (zle flq) (Flat.cell _) (Zk flq) fun w a hM hE=>Zf ?_
    obtain rfl:=Option.some.inj hl31
    refine Zh ?_
    have hM:=M.fst (l:=[_,_,_,_]) hM.pull4.pull4.pull2.pull4
    exact ⟨hE.sub ⟨rfl,rfl,rfl,rfl,rfl,trivial⟩,hM⟩
  ·skip
   rintro a w ⟨hE,hM⟩
   refine Zb (Zq hE rfl ZJ rfl hM.rawAt0 (Flat.len _) fun a hE=>Zq hE rfl ZJ rfl hM.rawAt3 (Flat.len _) ?_); intro a hE
   obtain ⟨r39,e40,hF32⟩:=bind_some hF32
   refine Zy hE rfl BU (Wv _ x16 p2 r39 e40) ?_
   rintro v w a ⟨rfl,hK⟩ hE
   have hM:=hM.keep hK
   refine ZC hE hM ZJ fun b41 w a hM hE=>Zn (seg:=enc r39) (cs':=enc r39) hE hM Za rfl rfl rfl ZJ (Flat.len _) (zle flq) (Flat.cell _) (Zk flq) fun w a hM hE=>Ze ?_
   obtain ⟨j43,hl44,hF45⟩:=bind_some hF32
   refine ZK (fun a w=>Env 41 a [(6,(ptr b5 0)),(7,(ptr b22 0)),(8,(ptr b24 0))] ∧ M (Old w0) w0 w [raw b24 (enc j43),raw b22 (enc j30),raw b5 (enc (Vector.replicate 32 (0 : UInt8)))]) ?_ ?_
   ·skip
    obtain ⟨r47,e48,hl44⟩:=bind_some hl44
    obtain ⟨r49,e50,hl44⟩:=bind_some hl44
    refine ZV [29,30,31,32,33,34] Yq rfl rfl (by decide) rfl hE hM (qsP (fun z=>Zi z.E Za ld rfl (kr0 rfl)) (qsP (fun z=>Z0 z.E Za ld rfl ZJ rfl (z.M.rawAt2) (Flat.len _) (kr0 rfl)) (qsP (fun z=>Z0 z.E Za ld rfl ZJ rfl (z.M.rawAt0) (Flat.len _) (kr0 rfl)) (qsP (fun z=>Yg z.E Za ld rfl (cbm Tryz.func183) (U4 _ p0 v0_1 (z.M.rdo hv0_1) j30 r39 r47 e48) (kc rfl)) (qsP (fun z=>Z0 z.E Za ld rfl ZJ rfl (z.M.rawAt0) (Flat.len _) (kr0 rfl)) (qsP (fun z=>Yg z.E Za ld rfl BU (Wv _ r47 r39 r49 e50) (kc rfl)) qs0)))))) ?_
    ·intro a w u hE hM
     have hM:=hM.pull1
     refine Zn (seg:=enc r49) (cs':=enc r49) hE hM Za rfl rfl rfl ZJ (Flat.len _) (zle flq) (Flat.cell _) (Zk flq) fun w a hM hE=>Zf ?_
     obtain rfl:=Option.some.inj hl44
     refine Zh ?_
     have hM:=M.fst (l:=[_,_,_]) hM.pull3.pull3.pull2
     exact ⟨hE.sub ⟨rfl,rfl,rfl,trivial⟩,hM⟩
   ·skip
    rintro a w ⟨hE,hM⟩
    obtain ⟨j52,hl53,hF54⟩:=bind_some hF45
    refine ZK (fun a w=>Env 41 a [(6,(ptr b5 0))] ∧ M (Old w0) w0 w [raw b5 (enc j52)]) ?_ ?_
    ·skip
     obtain ⟨l56,e57,hl53⟩:=bind_some hl53
     have hb58:=Qp e57 -- ^
     obtain ⟨l59,e60,hl53⟩:=bind_some hl53
     have hb61:=Qp e60 -- ^
     refine ZV [35,36] Yq rfl rfl (by decide) rfl hE hM (qsP (fun z=>UV (N:=16) z.E Za ld rfl rfl rfl rfl rfl Tryz.underlying68 ty5 hb58 (kr0 rfl)) (qsP (fun z=>UV (N:=16) z.E Za ld rfl rfl rfl rfl rfl Tryz.underlying68 ty5 hb61 (kr0 rfl)) qs0)) ?_
     ·intro a w u hE hM
      refine H4 (xs:=[.tmp 35,.tmp 36]) (vs:=[(Ym (.slice (some ⟨b22,0,none⟩) 16 16) ((0 : Int)).toNat ((16 : Int)).toNat 1),(Ym (.slice (some ⟨b24,0,none⟩) 16 16) ((0 : Int)).toNat ((16 : Int)).toNat 1)]) hE hM Za ld rfl rfl Tryz.underlying23 XQ (by decide) (Ak (YS (Xx (At.sat hM.rawAt1 (by simp) (by decide)) e57)) (Ak (YS (Xx (At.sat hM.rawAt0 (by simp) (by decide)) e60)) jV)) ?_; intro b62 w a hM hE
      obtain ⟨r64,e65,hl53⟩:=bind_some hl53
      refine Zy hE rfl (cbm Tryz.func133) (UC _ ([l56,l59] : (List (List UInt8))) (Value.slice (some ⟨b62,0,none⟩) 2 2) (kC hM.rawAt0 (hM.rawLt (pre:=[])) ⟨(Xx (At.sat hM.rawAt2 (by simp) (by decide)) e57),(Xx (At.sat hM.rawAt1 (by simp) (by decide)) e60),trivial⟩ rfl) r64 e65) ?_
      rintro u66 w a ⟨_,rfl,hFr,hK⟩ hE
      have hM:=hM.add hK hFr
      obtain ⟨x67,e68,hl53⟩:=bind_some hl53
      refine Hn hE Za ld rfl Tryz.underlying35 (hM.sl (pre:=[]) noB) (TZ e68).1 (by decide) fun a hE=>Zq hE rfl Z3 rfl (Ay (hM.sl (pre:=[]) noB) e68 (by decide)) (Flat.len _) ?_; intro a hE
      have hM:=hM.pull4
      refine Zn (seg:=enc x67) (cs':=enc x67) hE hM Za rfl rfl rfl Z3 (Flat.len _) (zle flq) (Flat.cell _) (Zk flq) fun w a hM hE=>Zf ?_
      obtain rfl:=Option.some.inj hl53
      refine Zh ?_
      have hM:=M.fst (l:=[_]) hM
      exact ⟨hE.sub ⟨rfl,trivial⟩,hM⟩
    ·skip
     rintro a w ⟨hE,hM⟩
     obtain rfl:=Option.some.inj hF54
     have hq70 : Yz Tryz.prog _ _ (.cell 6 35) _:=ZS hE rfl Z3 rfl hM.rawAt0 (Flat.len _) rfl
     exact wp_ret (ZP hE rfl hq70 ⟨_,rfl,rfl,hM.kept⟩)
def YR (p0 : (Ref Gengine)) (r13 : (List (Vector UInt8 16))) (s19 : (Vector UInt8 32) × Int) : Option (Fl ((Vector UInt8 32) × Int) (Vector UInt8 32)) :=
 if (decide (s19.2 < (r13.length : Int))) = true then ((idx r13 s19.2).bind fun x24=>(Y0 p0 s19.1 x24).bind fun r29=>some (Fl.nx (r29,wr (s19.2 + 1)))) else (some (Fl.ex s19.1))
def XF (p0 : (Ref Gengine)) (p1 : (List (List UInt8))) : Option ((Vector UInt8 32)) :=
 (XI).bind fun r3=>(Z2 p1).bind fun r7=>(WY r7).bind fun r10=>(VD r10).bind fun r13=>(Zz (YR p0 r13) (r3,0)).bind fun j16=>some j16
theorem QK (w0 : World) (p0 : (Ref Gengine)) (v0_1 : Value) (hv0_1 : Ro w0 p0 [v0_1]) (p1 : (List (List UInt8))) (v1_1 : Value) (hv1_1 : Ro w0 p1 [v1_1]) (r : (Vector UInt8 32)) (hF : XF p0 p1 = some r) :
  Calls Tryz.prog 69 [v0_1,v1_1].toArray w0 (Rt w0 (Value.agg (enc r).toArray)):=by
 refine ce Tryz.func69 ?_
 intro a hE
 have hM:=M.start w0
 unfold XF at hF
 refine Zb (ZC hE hM Z3 fun b1 w a hM hE=>Ze (Zb ?_))
 obtain ⟨r3,e4,hF⟩:=bind_some hF
 refine Zy hE rfl (cbm Tryz.func130) (QO _  r3 e4) ?_
 rintro v w a ⟨rfl,hK⟩ hE
 have hM:=hM.keep hK
 refine ZC hE hM Z3 fun b5 w a hM hE=>Zn (seg:=enc r3) (cs':=enc r3) hE hM Za rfl rfl rfl Z3 (Flat.len _) (zle flq) (Flat.cell _) (Zk flq) fun w a hM hE=>Ze (wp_seq (Zb (Zd hE rfl ?_))); intro a hE
 obtain ⟨r7,e8,hF⟩:=bind_some hF
 refine Zy hE rfl (cbm Tryz.func133) (UC _ p1 v1_1 (hM.rdo hv1_1) r7 e8) ?_
 rintro u9 w a ⟨_,rfl,hFr,hK⟩ hE
 have hM:=hM.add hK hFr
 obtain ⟨r10,e11,hF⟩:=bind_some hF
 refine Zy hE rfl (cbm Tryz.func132) (KR _ r7 u9 (hM.sl (pre:=[]) noB) r10 e11) ?_
 rintro u12 w a ⟨_,rfl,hFr,hK⟩ hE
 have hM:=hM.add hK hFr
 obtain ⟨r13,e14,hF⟩:=bind_some hF
 refine Zy hE rfl (cbm Tryz.func131) (Hb _ r10 u12 (hM.sl (pre:=[]) noB) r13 e14) ?_
 rintro u15 w a ⟨_,rfl,hFr,hK⟩ hE
 have hM:=hM.add hK hFr
 refine Z7 hE rfl Tryz.underlying54 (hM.sl (pre:=[]) noB) fun a hE=>Zd hE rfl fun a hE=>Ze ?_
 obtain ⟨j16,hl17,hF18⟩:=bind_some hF
 refine ZM (fun a w=>Env 24 a [(4,(ptr b1 0)),(5,(ptr b5 0))] ∧ M (Old w0) w0 w [raw b5 (enc j16),raw b1 (enc (Vector.replicate 32 (0 : UInt8)))]) ?_ ?_
 ·skip
  refine wp_block ?_
  have hM:=M.fst (l:=[_,_,_]) hM.pull4.pull4.pull2
  refine ZE (fun (s19 : (Vector UInt8 32) × Int) a w=>Env 24 a [(0,v0_1),(4,(ptr b1 0)),(5,(ptr b5 0)),(12,u15),(13,(vI (r13.length : Int))),(14,vI s19.2)] ∧ M (Old w0) w0 w [osl NoB (r13 : List (Vector UInt8 16)) u15,raw b5 (enc s19.1),raw b1 (enc (Vector.replicate 32 (0 : UInt8)))]) hl17 ⟨hE.sub ⟨rfl,rfl,rfl,rfl,rfl,rfl,trivial⟩,hM⟩ ?_
  rintro s19 a w ⟨hE,hM⟩ o22 hs20 hx21
  unfold YR at hs20
  refine Zb (Zg hE rfl rfl rfl fun a hE=>Ze (wp_seq ?_))
  refine Zo hE rfl ?_ ?_
  ·intro hb23
   have hs20:=Zs hs20 hb23
   refine wp_skip (Zp (wp_seq (wp_block (Zb ?_))))
   obtain ⟨x24,hi26,hs20⟩:=bix hs20
   refine Z9 hE rfl rfl Tryz.underlying54 ZJ (hM.sl (pre:=[]) noB) hi26.1 fun a hE=>Zq hE rfl ZJ rfl (Yl (hM.sl (pre:=[]) noB) hi26.2) (Flat.len _) fun a hE=>ZC hE hM ZJ fun b27 w a hM hE=>Zn (seg:=enc x24) (cs':=enc x24) hE hM Za rfl rfl rfl ZJ (Flat.len _) (zle flq) (Flat.cell _) (Zk flq) fun w a hM hE=>Ze (wp_region_lit (Zd hE rfl fun a hE=>Zq hE rfl Z3 rfl hM.rawAt2 (Flat.len _) fun a hE=>Zq hE rfl ZJ rfl hM.rawAt0 (Flat.len _) ?_)); intro a hE
   obtain ⟨r29,e30,hs20⟩:=bind_some hs20
   refine Zy hE rfl (cbm Tryz.func134) (QM _ p0 v0_1 (hM.rdo hv0_1) s19.1 x24 r29 e30) ?_
   rintro v w a ⟨rfl,hK⟩ hE
   have hM:=(hM.keep hK).pull2
   refine Zn (seg:=enc r29) (cs':=enc r29) hE hM Za rfl rfl rfl Z3 (Flat.len _) (zle flq) (Flat.cell _) (Zk flq) fun w a hM hE=>Zf (Yc (Zp (wp_region_lit (Zg hE rfl rfl rfl fun a hE=>Zd hE rfl fun a hE=>Zf (Zh ?_)))))
   have hM:=M.fst (l:=[_,_,_]) hM.pull3.pull1.pull3
   exact ⟨_,(ois hs20),hE.sub ⟨rfl,rfl,rfl,rfl,rfl,rfl,trivial⟩,hM⟩
  ·intro hb23
   have hs20:=Zt hs20 hb23
   refine wp_exit (Zm (Zm (Yb ?_)))
   obtain rfl:=hx21 _ (ois hs20)
   refine Zh ?_
   have hM:=M.fst (l:=[_,_]) hM.pull2.pull2
   exact ⟨hE.sub ⟨rfl,rfl,trivial⟩,hM⟩
 ·skip
  rintro a w ⟨hE,hM⟩
  refine Zp (Zb (Zq hE rfl Z3 rfl hM.rawAt0 (Flat.len _) ?_)); intro a hE
  have hM:=hM.pull1
  refine Zn (seg:=enc j16) (cs':=enc j16) hE hM Za rfl rfl rfl Z3 (Flat.len _) (zle flq) (Flat.cell _) (Zk flq) fun w a hM hE=>Ze ?_
  obtain rfl:=Option.some.inj hF18
  have hq32 : Yz Tryz.prog _ _ (.cell 4 35) _:=ZS hE rfl Z3 rfl hM.rawAt0 (Flat.len _) rfl
  exact wp_ret (ZP hE rfl hq32 ⟨_,rfl,rfl,hM.kept⟩)
def YJ (p0 : Ghasher) (p1 : GBlobs) (s22 : Int) : Option (Fl Int (Fl Unit Bool)) :=
 if (decide (s22 < (p1.Data.length : Int))) = true then ((idx p1.Data s22).bind fun x27=>((Tq x27).bind fun r39=>if (!r39) = true then (some true) else ((idx p1.Counts s22).bind fun x43=>(Uf x43 1 1000000).bind fun r46=>if (!r46) = true then (some true) else ((XF p0.engine ([x27] : (List (List UInt8)))).bind fun r54=>(idx p1.Keys s22).bind fun x56=>some (!decide (r54 = x56)))) : Option (Bool)).bind fun j35=>if j35 = true then (some (Fl.ex (Fl.ex false))) else (some (Fl.nx (wr (s22 + 1))))) else (some (Fl.ex (Fl.nx ())))
def Xs (p0 : Ghasher) (p1 : GBlobs) : Option (Bool) :=
 (if (decide ((p1.Keys.length : Int) > 32)) = true then (some true) else (if ((p1.Data.length : Int) != (p1.Keys.length : Int)) = true then (some true) else (if ((p1.Counts.length : Int) != (p1.Keys.length : Int)) = true then (some true) else ((Ud p1.Keys).bind fun r14=>some (!r14)))) : Option (Bool)).bind fun j5=>if j5 = true then (some false) else ((Zz (YJ p0 p1) 0).bind fun j18=>j18.el (fun s21=>some true) (fun r=>some r))
theorem QG (w0 : World) (p0 : Ghasher) (v0_1 : Value) (hv0_1 : Ro w0 p0.engine [v0_1]) (p1 : GBlobs) (v1_1 : Value) (hv1_1 : Ro w0 p1.Keys [v1_1]) (v1_2 : Value) (hv1_2 : Ro w0 p1.Data [v1_2]) (v1_3 : Value) (hv1_3 : Ro w0 p1.Counts [v1_3]) (r : Bool) (hF : Xs p0 p1 = some r) :
  Calls Tryz.prog 67 [(Value.agg (cat [[v0_1]]).toArray),(Value.agg (cat [[v1_1],[v1_2],[v1_3]]).toArray)].toArray w0 (Rt w0 (vT r)):=by
 refine ce Tryz.func67 ?_
 intro a hE
 have hM:=M.start w0
 unfold Xs at hF
 refine Zb (ZZ (cs:=cat [[v0_1]]) hE hM Za ld rfl rfl fun b1 w a hM hE=>ZZ (cs:=cat [[v1_1],[v1_2],[v1_3]]) hE hM Za ld rfl rfl fun b3 w a hM hE=>Zc hE rfl fun a hE=>Ze (wp_seq ?_))
 obtain ⟨j5,hl6,hF7⟩:=bind_some hF
 refine ZK (fun a w=>Env 69 a [(2,(ptr b1 0)),(3,(ptr b3 0)),(34,vT j5)] ∧ M (Old w0) w0 w [raw b3 (cat [[v1_1],[v1_2],[v1_3]]),raw b1 (cat [[v0_1]])]) ?_ ?_
 ·skip
  refine wp_region_lit (Zw hE rfl (X1) fun a hE=>ZA (v:=v1_1) hE rfl Tu rfl (At.cat (pre:=[]) hM.rawAt0 cl0) fun a hE=>Z7 hE rfl Tryz.underlying29 (hM.rd hv1_1) fun a hE=>Zg hE rfl rfl rfl fun a hE=>Zd hE rfl ?_); intro a hE
  refine Vs (decide ((p1.Keys.length : Int) > 32)) (fun hb8=>?_) (fun hb8=>?_)
  ·have hl6:=Zs hl6 hb8
   refine Zl hE rfl (lkb rfl hb8) rfl (by decide) fun a hE=>Zl hE rfl (lkb rfl hb8) rfl (by decide) fun a hE=>Zl hE rfl (lkb rfl hb8) rfl (by decide) fun a hE=>Zl hE rfl (lkb rfl hb8) rfl (by decide) fun a hE=>Zl hE rfl (lkb rfl hb8) rfl (by decide) fun a hE=>Zl hE rfl (lkb rfl hb8) rfl (by decide) fun a hE=>Zl hE rfl (lkb rfl hb8) rfl (by decide) fun a hE=>Xr hE (lkb rfl hb8) rfl fun a hE=>Zd hE rfl fun a hE=>Zl hE rfl rfl rfl (by decide) fun a hE=>Zl hE rfl rfl rfl (by decide) fun a hE=>Zl hE rfl rfl rfl (by decide) ?_; intro a hE
   refine Zl hE rfl rfl rfl (by decide) fun a hE=>Zl hE rfl rfl rfl (by decide) fun a hE=>Zl hE rfl rfl rfl (by decide) fun a hE=>Zl hE rfl rfl rfl (by decide) fun a hE=>Xr hE rfl rfl fun a hE=>Zd hE rfl fun a hE=>Zl hE rfl rfl rfl (by decide) fun a hE=>Zl hE rfl rfl rfl (by decide) fun a hE=>Zl hE rfl rfl rfl (by decide) fun a hE=>Zl hE rfl rfl rfl (by decide) fun a hE=>Xr hE rfl rfl fun a hE=>Zf ?_
   obtain rfl:=Option.some.inj hl6
   refine Zh ?_
   exact ⟨hE.sub ⟨rfl,rfl,rfl,trivial⟩,hM⟩
  ·have hl6:=Zt hl6 hb8
   refine Zr hE (Zj hE rfl (lkb rfl hb8)) (by decide) rfl (X5) fun a hE=>ZL (v:=v1_2) hE (Zj hE rfl (lkb rfl hb8)) (by decide) rfl Tg rfl (At.cat (pre:=[[v1_1]]) hM.rawAt0 ck) fun a hE=>TS hE (Zj hE rfl (lkb rfl hb8)) (by decide) rfl Tryz.underlying23 (hM.rd hv1_2) fun a hE=>Zr hE (Zj hE rfl (lkb rfl hb8)) (by decide) rfl (X1) fun a hE=>ZL (v:=v1_1) hE (Zj hE rfl (lkb rfl hb8)) (by decide) rfl Tu rfl (At.cat (pre:=[]) hM.rawAt0 cl0) fun a hE=>TS hE (Zj hE rfl (lkb rfl hb8)) (by decide) rfl Tryz.underlying29 (hM.rd hv1_1) fun a hE=>Yd hE (Zj hE rfl (lkb rfl hb8)) (by decide) rfl rfl rfl fun a hE=>VX hE (lkb rfl hb8) rfl fun a hE=>Zd hE rfl ?_; intro a hE
   refine Vs ((p1.Data.length : Int) != (p1.Keys.length : Int)) (fun hb10=>?_) (fun hb10=>?_)
   ·have hl6:=Zs hl6 hb10
    refine Zl hE rfl (lkb rfl hb10) rfl (by decide) fun a hE=>Zl hE rfl (lkb rfl hb10) rfl (by decide) fun a hE=>Zl hE rfl (lkb rfl hb10) rfl (by decide) fun a hE=>Zl hE rfl (lkb rfl hb10) rfl (by decide) fun a hE=>Zl hE rfl (lkb rfl hb10) rfl (by decide) fun a hE=>Zl hE rfl (lkb rfl hb10) rfl (by decide) fun a hE=>Zl hE rfl (lkb rfl hb10) rfl (by decide) fun a hE=>Xr hE (lkb rfl hb10) rfl fun a hE=>Zd hE rfl fun a hE=>Zl hE rfl rfl rfl (by decide) fun a hE=>Zl hE rfl rfl rfl (by decide) fun a hE=>Zl hE rfl rfl rfl (by decide) ?_; intro a hE
    refine Zl hE rfl rfl rfl (by decide) fun a hE=>Xr hE rfl rfl fun a hE=>Zf ?_
    obtain rfl:=Option.some.inj hl6
    refine Zh ?_
    exact ⟨hE.sub ⟨rfl,rfl,rfl,trivial⟩,hM⟩
   ·have hl6:=Zt hl6 hb10
    refine Zr hE (Zj hE rfl (lkb rfl hb10)) (by decide) rfl (X2) fun a hE=>ZL (v:=v1_3) hE (Zj hE rfl (lkb rfl hb10)) (by decide) rfl U3 rfl (At.cat (pre:=[[v1_1],[v1_2]]) hM.rawAt0 ck) fun a hE=>TS hE (Zj hE rfl (lkb rfl hb10)) (by decide) rfl Tryz.underlying24 (hM.rd hv1_3) fun a hE=>Zr hE (Zj hE rfl (lkb rfl hb10)) (by decide) rfl (X1) fun a hE=>ZL (v:=v1_1) hE (Zj hE rfl (lkb rfl hb10)) (by decide) rfl Tu rfl (At.cat (pre:=[]) hM.rawAt0 cl0) fun a hE=>TS hE (Zj hE rfl (lkb rfl hb10)) (by decide) rfl Tryz.underlying29 (hM.rd hv1_1) fun a hE=>Yd hE (Zj hE rfl (lkb rfl hb10)) (by decide) rfl rfl rfl fun a hE=>VX hE (lkb rfl hb10) rfl fun a hE=>Zd hE rfl ?_; intro a hE
    refine Vs ((p1.Counts.length : Int) != (p1.Keys.length : Int)) (fun hb12=>?_) (fun hb12=>?_)
    ·have hl6:=Zs hl6 hb12
     refine Zl hE rfl (lkb rfl hb12) rfl (by decide) fun a hE=>Zl hE rfl (lkb rfl hb12) rfl (by decide) fun a hE=>Zl hE rfl (lkb rfl hb12) rfl (by decide) fun a hE=>Zl hE rfl (lkb rfl hb12) rfl (by decide) fun a hE=>Xr hE (lkb rfl hb12) rfl fun a hE=>Zf ?_
     obtain rfl:=Option.some.inj hl6
     refine Zh ?_
     exact ⟨hE.sub ⟨rfl,rfl,rfl,trivial⟩,hM⟩
    ·have hl6:=Zt hl6 hb12
     refine Zr hE (Zj hE rfl (lkb rfl hb12)) (by decide) rfl (X1) fun a hE=>ZL (v:=v1_1) hE (Zj hE rfl (lkb rfl hb12)) (by decide) rfl Tu rfl (At.cat (pre:=[]) hM.rawAt0 cl0) ?_; intro a hE
     obtain ⟨r14,e15,hl6⟩:=bind_some hl6
     refine Yg hE (Zj hE rfl (lkb rfl hb12)) (by decide) rfl (cbm Tryz.func128) (H3 _ p1.Keys v1_1 (hM.rdo hv1_1) r14 e15) ?_
     rintro v w a ⟨rfl,hK⟩ hE
     have hM:=hM.keep hK
     refine QA hE (Zj hE rfl (lkb rfl hb12)) (by decide) rfl fun a hE=>VX hE (lkb rfl hb12) rfl fun a hE=>Zf ?_
     obtain rfl:=Option.some.inj hl6
     refine Zh ?_
     exact ⟨hE.sub ⟨rfl,rfl,rfl,trivial⟩,hM⟩
 ·skip
  rintro a w ⟨hE,hM⟩
  refine Zo hE rfl ?_ ?_
  ·intro hb17
   have hF7:=Zs hF7 hb17
   refine Zb (Zc hE rfl fun a hE=>Ze ?_)
   obtain rfl:=Option.some.inj hF7
   exact wp_ret (Zx (kr1 hE rfl rfl hM.kept))
  ·intro hb17
   have hF7:=Zt hF7 hb17
   refine wp_skip (Zp (wp_seq (Zb (Zw hE rfl (X5) fun a hE=>ZA (v:=v1_2) hE rfl Tg rfl (At.cat (pre:=[[v1_1]]) hM.rawAt0 ck) fun a hE=>Z7 hE rfl Tryz.underlying23 (hM.rd hv1_2) fun a hE=>Zd hE rfl fun a hE=>Ze ?_))))
   obtain ⟨j18,hl19,hF20⟩:=bind_some hF7
   refine ZM (fun a w=>∃ s21 : Unit,j18 = Fl.nx s21 ∧ Env 69 a [] ∧ M (Old w0) w0 w []) ?_ ?_
   ·skip
    refine wp_block ?_
    refine ZE (fun (s22 : Int) a w=>Env 69 a [(2,(ptr b1 0)),(3,(ptr b3 0)),(36,v1_2),(37,(vI (p1.Data.length : Int))),(38,vI s22)] ∧ M (Old w0) w0 w [raw b3 (cat [[v1_1],[v1_2],[v1_3]]),raw b1 (cat [[v0_1]])]) hl19 ⟨hE.sub ⟨rfl,rfl,rfl,rfl,rfl,trivial⟩,hM⟩ ?_
    rintro s22 a w ⟨hE,hM⟩ o25 hs23 hx24
    unfold YJ at hs23
    refine Zb (Zg hE rfl rfl rfl fun a hE=>Ze (wp_seq ?_))
    refine Zo hE rfl ?_ ?_
    ·intro hb26
     have hs23:=Zs hs23 hb26
     refine wp_skip (Zp (wp_seq (wp_block (Zb (Zd hE rfl ?_))))); intro a hE
     obtain ⟨x27,hi29,hs23⟩:=bix hs23
     refine Z9 hE rfl rfl Tryz.underlying23 XQ (hM.rd hv1_2) hi29.1 ?_; intro a hE
     obtain ⟨cs30,hs31,hA32⟩:=UO hv1_2 hi29.2 -- ^
     obtain ⟨u33,rfl⟩:=Vx hs31 -- ^
     have h34:=hs31 -- ^
     refine ZA (v:=u33) hE rfl XQ rfl (hM.atk hA32 (US hv1_2 hi29.2)) fun a hE=>Zc hE rfl fun a hE=>Zc hE rfl fun a hE=>Ze ?_
     obtain ⟨j35,hl36,hF37⟩:=bind_some hs23
     refine ZK (fun a w=>Env 69 a [(2,(ptr b1 0)),(3,(ptr b3 0)),(36,v1_2),(37,(vI (p1.Data.length : Int))),(38,vI s22),(67,vT j35)] ∧ M (Old w0) w0 w [raw b3 (cat [[v1_1],[v1_2],[v1_3]]),raw b1 (cat [[v0_1]])]) ?_ ?_
     ·skip
      obtain ⟨r39,e40,hl36⟩:=bind_some hl36
      refine Vs (!r39) (fun hb41=>?_) (fun hb41=>?_)
      ·have hl36:=Zs hl36 hb41
       refine Yv (its:=[raw b3 (cat [[v1_1],[v1_2],[v1_3]]),raw b1 (cat [[v0_1]])]) (mk:=([] : Mk)) [43,44,45,46,47,48,49,50,51,52,53,54,55,56,57,58,59,60,61,62,63,64,65] Yq rfl rfl (by decide) rfl hE (fun u=>M.q0 hM.drew u) (qsP (fun z=>Zi z.E Za ld rfl (kr0 rfl)) (qsP (v:=(vT r39)) ?_ (qsP (fun z=>QA z.E Za ld rfl (kr0 rfl)) (qsP (fun z=>Zi z.E Za ld rfl (kr0 rfl)) (qsP (fun z=>Zl z.E rfl (lkb rfl hb41) rfl (by decide) (kr0 rfl)) (qsP (fun z=>Zl z.E rfl (lkb rfl hb41) rfl (by decide) (kr0 rfl)) (qsP (fun z=>Zl z.E rfl (lkb rfl hb41) rfl (by decide) (kr0 rfl)) (qsP (fun z=>Zl z.E rfl (lkb rfl hb41) rfl (by decide) (kr0 rfl)) (qsP (fun z=>Zl z.E rfl (lkb rfl hb41) rfl (by decide) (kr0 rfl)) (qsP (fun z=>Zl z.E rfl (lkb rfl hb41) rfl (by decide) (kr0 rfl)) (qsP (fun z=>Zl z.E rfl (lkb rfl hb41) rfl (by decide) (kr0 rfl)) (qsP (fun z=>Tp z.E Za ld (lkb rfl hb41) rfl (kr0 rfl)) (qsP (fun z=>Zi z.E Za ld rfl (kr0 rfl)) (qsP (fun z=>Zl z.E rfl rfl rfl (by decide) (kr0 rfl)) (qsP (fun z=>Zl z.E rfl rfl rfl (by decide) (kr0 rfl)) (qsP (fun z=>Zl z.E rfl rfl rfl (by decide) (kr0 rfl)) (qsP (fun z=>Zl z.E rfl rfl rfl (by decide) (kr0 rfl)) (qsP (fun z=>Zl z.E rfl rfl rfl (by decide) (kr0 rfl)) (qsP (fun z=>Zl z.E rfl rfl rfl (by decide) (kr0 rfl)) (qsP (fun z=>Zl z.E rfl rfl rfl (by decide) (kr0 rfl)) (qsP (fun z=>Zl z.E rfl rfl rfl (by decide) (kr0 rfl)) (qsP (fun z=>Zl z.E rfl rfl rfl (by decide) (kr0 rfl)) (qsP (fun z=>Zl z.E rfl rfl rfl (by decide) (kr0 rfl)) qs0))))))))))))))))))))))) ?_
       ·intro a w ux38 D z
        have hE:=z.E
        have hM:=z.M
        refine Zy hE rfl cb68 (Qb _ x27 u33 (hM.rdo h34) r39 e40) ?_
        rintro v w a ⟨rfl,hK⟩ hE
        exact ⟨hK,_,rfl,hE⟩
       ·intro a w ux38 D hE hM hG hall
        refine Zl hE rfl rfl rfl (by decide) fun a hE=>Xr hE rfl rfl fun a hE=>Zf ?_
        obtain rfl:=Option.some.inj hl36
        refine Zh ?_
        exact ⟨hE.sub ⟨rfl,rfl,rfl,rfl,rfl,rfl,trivial⟩,hM⟩
      ·have hl36:=Zt hl36 hb41
       obtain ⟨x43,hi45,hl36⟩:=bix hl36
       obtain ⟨r46,e47,hl36⟩:=bind_some hl36
       refine Vs (!r46) (fun hb48=>?_) (fun hb48=>?_)
       ·have hl36:=Zs hl36 hb48
        refine Yv (its:=[raw b3 (cat [[v1_1],[v1_2],[v1_3]]),raw b1 (cat [[v0_1]])]) (mk:=([] : Mk)) [43,44,45,46,47,48,49,50,51,52,53,54,55,56,57,58,59,60,61,62,63,64,65] Yq rfl rfl (by decide) rfl hE (fun u=>M.q0 hM.drew u) (qsP (fun z=>Zi z.E Za ld rfl (kr0 rfl)) (qsP (v:=(vT r39)) ?_ (qsP (fun z=>QA z.E Za ld rfl (kr0 rfl)) (qsP (fun z=>Zi z.E Za ld rfl (kr0 rfl)) (qsP (fun z=>Zr z.E (Zj z.E rfl (lkb rfl hb41)) (by decide) rfl (X2) (kr0 rfl)) (qsP (v:=v1_3) ?_ (qsP (fun z=>Zi z.E (Zj z.E rfl (lkb rfl hb41)) (by decide) rfl (kr0 rfl)) (qsP (v:=(ptr (sb v1_3) (so v1_3 + (s22).toNat * 1))) ?_ (qsP (v:=(vI x43)) ?_ (qsP (fun z=>Yg z.E (Zj z.E rfl (lkb rfl hb41)) (by decide) rfl (cbm Tryz.func129) (QT _ x43 1 1000000 r46 e47) (kc rfl)) (qsP (fun z=>QA z.E (Zj z.E rfl (lkb rfl hb41)) (by decide) rfl (kr0 rfl)) (qsP (fun z=>Th z.E Za ld (lkb rfl hb41) rfl (kr0 rfl)) (qsP (fun z=>Zi z.E Za ld rfl (kr0 rfl)) (qsP (fun z=>Zl z.E rfl (lkb rfl hb48) rfl (by decide) (kr0 rfl)) (qsP (fun z=>Zl z.E rfl (lkb rfl hb48) rfl (by decide) (kr0 rfl)) (qsP (fun z=>Zl z.E rfl (lkb rfl hb48) rfl (by decide) (kr0 rfl)) (qsP (fun z=>Zl z.E rfl (lkb rfl hb48) rfl (by decide) (kr0 rfl)) (qsP (fun z=>Zl z.E rfl (lkb rfl hb48) rfl (by decide) (kr0 rfl)) (qsP (fun z=>Zl z.E rfl (lkb rfl hb48) rfl (by decide) (kr0 rfl)) (qsP (fun z=>Zl z.E rfl (lkb rfl hb48) rfl (by decide) (kr0 rfl)) (qsP (fun z=>Zl z.E rfl (lkb rfl hb48) rfl (by decide) (kr0 rfl)) (qsP (fun z=>Zl z.E rfl (lkb rfl hb48) rfl (by decide) (kr0 rfl)) (qsP (fun z=>Zl z.E rfl (lkb rfl hb48) rfl (by decide) (kr0 rfl)) qs0))))))))))))))))))))))) ?_
        ·intro a w ux38 D z
         have hE:=z.E
         have hM:=z.M
         refine Zy hE rfl cb68 (Qb _ x27 u33 (hM.rdo h34) r39 e40) ?_
         rintro v w a ⟨rfl,hK⟩ hE
         exact ⟨hK,_,rfl,hE⟩
        ·intro a w ux38 D z
         have hE:=z.E
         have hM:=z.M
         exact ZL (v:=v1_3) hE (Zj hE rfl (lkb rfl hb41)) (by decide) rfl U3 rfl (At.cat (pre:=[[v1_1],[v1_2]]) hM.rawAt0 ck) fun a hE=>⟨Kept.refl _ _,_,rfl,hE⟩
        ·intro a w ux38 D z
         have hE:=z.E
         have hM:=z.M
         exact ZX hE (Zj hE rfl (lkb rfl hb41)) (by decide) rfl rfl Tryz.underlying24 ty2 (hM.rd hv1_3) hi45.1 fun a hE=>⟨Kept.refl _ _,_,rfl,hE⟩
        ·intro a w ux38 D z
         have hE:=z.E
         have hM:=z.M
         exact ZL (v:=(vI x43)) hE (Zj hE rfl (lkb rfl hb41)) (by decide) rfl ty2 rfl (Yl (hM.rd hv1_3) hi45.2) fun a hE=>⟨Kept.refl _ _,_,rfl,hE⟩
        ·intro a w ux38 D hE hM hG hall
         refine Zl hE rfl (lkb rfl hb48) rfl (by decide) fun a hE=>Xr hE (lkb rfl hb48) rfl fun a hE=>Zf ?_
         obtain rfl:=Option.some.inj hl36
         refine Zh ?_
         exact ⟨hE.sub ⟨rfl,rfl,rfl,rfl,rfl,rfl,trivial⟩,hM⟩
       ·have hl36:=Zt hl36 hb48
        obtain ⟨r54,e55,hl36⟩:=bind_some hl36
        obtain ⟨x56,hi58,hl36⟩:=bix hl36
        refine Yv (its:=[raw b3 (cat [[v1_1],[v1_2],[v1_3]]),raw b1 (cat [[v0_1]])]) (mk:=([mkL 16 [] 1 (fun us=>[u33])] : Mk)) [43,44,45,46,47,48,49,50,51,52,53,54,55,56,57,58,59,60,61,62,63,64,65] Yq rfl rfl (by decide) rfl hE (fun u=>M.qE (M.q0 hM.drew u) emL) (qsP (fun z=>Zi z.E Za ld rfl (kr0 rfl)) (qsP (v:=(vT r39)) ?_ (qsP (fun z=>QA z.E Za ld rfl (kr0 rfl)) (qsP (fun z=>Zi z.E Za ld rfl (kr0 rfl)) (qsP (fun z=>Zr z.E (Zj z.E rfl (lkb rfl hb41)) (by decide) rfl (X2) (kr0 rfl)) (qsP (v:=v1_3) ?_ (qsP (fun z=>Zi z.E (Zj z.E rfl (lkb rfl hb41)) (by decide) rfl (kr0 rfl)) (qsP (v:=(ptr (sb v1_3) (so v1_3 + (s22).toNat * 1))) ?_ (qsP (v:=(vI x43)) ?_ (qsP (fun z=>Yg z.E (Zj z.E rfl (lkb rfl hb41)) (by decide) rfl (cbm Tryz.func129) (QT _ x43 1 1000000 r46 e47) (kc rfl)) (qsP (fun z=>QA z.E (Zj z.E rfl (lkb rfl hb41)) (by decide) rfl (kr0 rfl)) (qsP (fun z=>Th z.E Za ld (lkb rfl hb41) rfl (kr0 rfl)) (qsP (fun z=>Zi z.E Za ld rfl (kr0 rfl)) (qsP (fun z=>Zr z.E (Zj z.E rfl (lkb rfl hb48)) (by decide) rfl (qc) (kr0 rfl)) (qsP (v:=v0_1) ?_ (qsP (fun z=>Zi z.E (Zj z.E rfl (lkb rfl hb48)) (by decide) rfl (kr0 rfl)) (qsM (pr:=fun v=>True) ?_ (qsP (v:=(Value.agg (enc r54).toArray)) ?_ (qsP (fun z=>Zr z.E (Zj z.E rfl (lkb rfl hb48)) (by decide) rfl (X1) (kr0 rfl)) (qsP (v:=v1_1) ?_ (qsP (fun z=>Zi z.E (Zj z.E rfl (lkb rfl hb48)) (by decide) rfl (kr0 rfl)) (qsP (v:=(ptr (sb v1_1) (so v1_1 + (s22).toNat * 32))) ?_ (qsP (v:=(Value.agg (enc x56).toArray)) ?_ qs0))))))))))))))))))))))) ?_
        ·intro a w ux38 D z
         have hE:=z.E
         have hM:=z.M
         refine Zy hE rfl cb68 (Qb _ x27 u33 (hM.rdo h34) r39 e40) ?_
         rintro v w a ⟨rfl,hK⟩ hE
         exact ⟨hK,_,rfl,hE⟩
        ·intro a w ux38 D z
         have hE:=z.E
         have hM:=z.M
         exact ZL (v:=v1_3) hE (Zj hE rfl (lkb rfl hb41)) (by decide) rfl U3 rfl (At.cat (pre:=[[v1_1],[v1_2]]) hM.rawAt0 ck) fun a hE=>⟨Kept.refl _ _,_,rfl,hE⟩
        ·intro a w ux38 D z
         have hE:=z.E
         have hM:=z.M
         exact ZX hE (Zj hE rfl (lkb rfl hb41)) (by decide) rfl rfl Tryz.underlying24 ty2 (hM.rd hv1_3) hi45.1 fun a hE=>⟨Kept.refl _ _,_,rfl,hE⟩
        ·intro a w ux38 D z
         have hE:=z.E
         have hM:=z.M
         exact ZL (v:=(vI x43)) hE (Zj hE rfl (lkb rfl hb41)) (by decide) rfl ty2 rfl (Yl (hM.rd hv1_3) hi45.2) fun a hE=>⟨Kept.refl _ _,_,rfl,hE⟩
        ·intro a w ux38 D z
         have hE:=z.E
         have hM:=z.M
         exact ZL (v:=v0_1) hE (Zj hE rfl (lkb rfl hb48)) (by decide) rfl ty100 rfl (At.cat (pre:=[]) hM.rawAt1 cl0) fun a hE=>⟨Kept.refl _ _,_,rfl,hE⟩
        ·intro a w ux38 D z
         have hE:=z.E
         have hD : D 16 = false:=z.F
         have hM:=z.M
         exact H4 (xs:=[.tmp 58]) (vs:=[u33]) hE hM (Zj hE rfl (lkb rfl hb48)) (by decide) rfl rfl Tryz.underlying23 XQ (by decide) (Ak (YS (hM.rd h34)) jV) fun b50 w a hM hE=>⟨_,_,rfl,hE,M.litFill (its:=[raw b3 (cat [[v1_1],[v1_2],[v1_3]]),raw b1 (cat [[v0_1]])]) (mk:=([] : Mk)) (i:=16) (ds:=[]) (m:=1) (f:=(fun us=>[u33])) hM rfl hD (by decide),trivial⟩
        ·intro a w ux38 D z
         have hE:=z.E
         have d16 : D 16 = true:=z.p 1 _ rfl rfl
         have hM:=(z.M.sure (pre:=[_,_]) d16).pull
         obtain ⟨b52,f53,hM⟩:=M.litOpen hM
         refine Yg hE (Zj hE rfl (lkb rfl hb48)) (by decide) (yw (evsC rfl (evsC (lk rfl f53) evsN))) (cbm Tryz.func69) (QK _ p0.engine v0_1 (hM.rdo hv0_1) ([x27] : (List (List UInt8))) (Value.slice (some ⟨b52,0,none⟩) 1 1) (kC hM.rawAt0 (hM.rawLt (pre:=[])) ⟨(hM.rdo h34),trivial⟩ rfl) r54 e55) ?_
         rintro v w a ⟨rfl,hK⟩ hE
         exact ⟨hK,_,rfl,hE⟩
        ·intro a w ux38 D z
         have hE:=z.E
         have hM:=z.M
         exact ZL (v:=v1_1) hE (Zj hE rfl (lkb rfl hb48)) (by decide) rfl Tu rfl (At.cat (pre:=[]) hM.rawAt0 cl0) fun a hE=>⟨Kept.refl _ _,_,rfl,hE⟩
        ·intro a w ux38 D z
         have hE:=z.E
         have hM:=z.M
         exact ZX hE (Zj hE rfl (lkb rfl hb48)) (by decide) rfl rfl Tryz.underlying29 Z3 (hM.rd hv1_1) hi58.1 fun a hE=>⟨Kept.refl _ _,_,rfl,hE⟩
        ·intro a w ux38 D z
         have hE:=z.E
         have hM:=z.M
         exact Z0 hE (Zj hE rfl (lkb rfl hb48)) (by decide) rfl Z3 rfl (Yl (hM.rd hv1_1) hi58.2) (Flat.len _) fun a hE=>⟨Kept.refl _ _,_,rfl,hE⟩
        ·intro a w ux38 D hE hM hG hall
         have d16:=hall 16 (by decide)
         have hM:=(hM.sure (pre:=[_,_]) d16).pull
         obtain ⟨b59,f60,hM⟩:=M.litOpen hM
         have hE:=hE.setq (t:=59) rfl f60
         refine s_neA hE (Zj hE rfl (lkb rfl hb48)) (by decide) rfl rfl (HI Tryz.underlying35 ty5 rfl false rfl (by decide) (JJ Tryz.underlying5)) (by decide) (by kernel_rfl) fun a hE=>VX hE (lkb rfl hb48) rfl fun a hE=>Zf ?_
         obtain rfl:=Option.some.inj hl36
         refine Zh ?_
         have hM:=M.fst (l:=[_,_]) hM.pull2.pull2
         exact ⟨hE.sub ⟨rfl,rfl,rfl,rfl,rfl,rfl,trivial⟩,hM⟩
     ·skip
      rintro a w ⟨hE,hM⟩
      refine Zo hE rfl ?_ ?_
      ·intro hb62
       have hF37:=Zs hF37 hb62
       refine Zb (Zc hE rfl fun a hE=>Ze ?_)
       obtain rfl:=hx24 _ (ois hF37)
       obtain rfl:=Option.some.inj hF20
       exact wp_ret (XW (Zx (Zx (XW (Zx (Zx (kr1 hE rfl rfl hM.kept)))))))
      ·intro hb62
       have hF37:=Zt hF37 hb62
       refine wp_skip (Yc (Zp (wp_region_lit (Zg hE rfl rfl rfl fun a hE=>Zd hE rfl fun a hE=>Zf (Zh ?_)))))
       exact ⟨_,(ois hF37),hE.sub ⟨rfl,rfl,rfl,rfl,rfl,trivial⟩,hM⟩
    ·intro hb26
     have hs23:=Zt hs23 hb26
     refine wp_exit (Zm (Zm (Yb ?_)))
     obtain rfl:=hx24 _ (ois hs23)
     refine Zh ?_
     have hM:=M.fst (l:=[]) hM
     exact ⟨(),rfl,hE.sub trivial,hM⟩
   ·skip
    rintro a w ⟨s21,ht,hE,hM⟩
    subst ht
    have hF20:=Tw hF20
    refine Zp (Zb (Zc hE rfl fun a hE=>Ze ?_))
    obtain rfl:=Option.some.inj hF20
    exact wp_ret (kr1 hE rfl rfl hM.kept)
def Ue (p0 : GBlobs) : Option (Bool) :=
 ((Uo).bind fun r7=>(Xs r7 p0).bind fun r12=>some r12 : Option (Bool)).bind fun j3=>some j3
theorem Bi (w0 : World) (p0 : GBlobs) (v0_1 : Value) (hv0_1 : Ro w0 p0.Keys [v0_1]) (v0_2 : Value) (hv0_2 : Ro w0 p0.Data [v0_2]) (v0_3 : Value) (hv0_3 : Ro w0 p0.Counts [v0_3]) (r : Bool) (hF : Ue p0 = some r) :
  Calls Tryz.prog 120 [(Value.agg (cat [[v0_1],[v0_2],[v0_3]]).toArray)].toArray w0 (Rt w0 (vT r)):=by
 refine ce Tryz.func120 ?_
 intro a hE
 have hM:=M.start w0
 unfold Ue at hF
 refine Zb (ZZ (cs:=cat [[v0_1],[v0_2],[v0_3]]) hE hM Za ld rfl rfl fun b1 w a hM hE=>Zc hE rfl fun a hE=>Ze ?_)
 obtain ⟨j3,hl4,hF5⟩:=bind_some hF
 refine ZK (fun a w=>Env 6 a [(2,vT j3)] ∧ M (Old w0) w0 w []) ?_ ?_
 ·skip
  obtain ⟨r7,e8,hl4⟩:=bind_some hl4
  refine Yv (its:=[raw b1 (cat [[v0_1],[v0_2],[v0_3]])]) (mk:=([mkO 0 (fun v=>own NoB r7 (Value.cells v).toList)] : Mk)) [3,4] Yq rfl rfl (by decide) rfl hE (fun u=>M.qE (M.q0 hM.drew u) emO) (qsM (pr:=fun v=>∃ cs,v = .agg cs) ?_ (qsP (v:=(Value.agg (cat [[v0_1],[v0_2],[v0_3]]).toArray)) ?_ qs0)) ?_
  ·intro a w ux6 D z
   have hE:=z.E
   have hD : D 0 = false:=z.F
   have hM0:=z.M
   have hM:=z.M
   refine Zy hE rfl (cbm Tryz.func66) (JK _  r7 e8) ?_
   rintro _ w a ⟨u9,rfl,hFr,hK⟩ hE
   have hM:=hM0.add hK hFr
   have hM:=hM.packL (m:=[own NoB (r7.engine : (Ref Gengine)) [u9]]) (it:=own NoB r7 (cat [[u9]])) (Vw noB) (fun fp h=>by obtain ⟨_,_,rfl,_,s1,rfl⟩:=h; exact yb s1 (by simp))
   exact ⟨_,_,rfl,hE,M.qFill (mk1:=[]) (mk2:=[]) (f:=(fun v=>own NoB r7 (Value.cells v).toList)) hM rfl hD,⟨_,rfl⟩⟩
  ·intro a w ux6 D z
   have hE:=z.E
   have hM:=z.M
   exact Zq hE rfl Yy rfl hM.rawAt0 cq fun a hE=>⟨Kept.refl _ _,_,rfl,hE⟩
  ·intro a w ux6 D hE hM hG hall
   have d0:=hall 0 (by decide)
   have hM:=hM.sure (pre:=[_]) d0
   obtain ⟨q6_0_0_1,hcz,_⟩:=yG (hM.ro (pre:=[_]) noB)
   have qK10 : (ux6 0) = (Value.agg (cat [[q6_0_0_1]]).toArray):=J0 hcz (hG 0 d0 _ rfl).2
   have hM:=hM.pull1
   have hM:=(hM.recown (congrArg (fun v=>(Value.cells v).toList) qK10)).unpackL (m:=[own NoB (r7.engine : (Ref Gengine)) [q6_0_0_1]]) (fun fp h=>by obtain ⟨_,rfl,s1⟩:=zA h; exact XA.one (Vw noB) s1)
   simp only [List.cons_append,List.nil_append] at hM
   have hE:=hE.setq (t:=3) rfl qK10
   obtain ⟨r12,e13,hl4⟩:=bind_some hl4
   refine Zy hE rfl (cbm Tryz.func67) (QG _ r7 q6_0_0_1 (hM.ro (pre:=[]) noB) p0 v0_1 (hM.rdo hv0_1) v0_2 (hM.rdo hv0_2) v0_3 (hM.rdo hv0_3) r12 e13) ?_
   rintro v w a ⟨rfl,hK⟩ hE
   have hM:=hM.keep hK
   refine Zc hE rfl fun a hE=>Zf ?_
   obtain rfl:=Option.some.inj hl4
   refine Zh ?_
   have hM:=M.fst (l:=[]) hM
   exact ⟨hE.sub ⟨rfl,trivial⟩,hM⟩
 ·skip
  rintro a w ⟨hE,hM⟩
  obtain rfl:=Option.some.inj hF5
  exact wp_ret (kr1 hE rfl rfl hM.kept)
def Zv (p0 : (List (Vector UInt8 32))) (p1 : (Vector UInt8 32)) (p2 : (Vector UInt8 32) → (Vector UInt8 32) → Option (Int)) (s6 : Int × Int) : Option (Fl (Int × Int) Int) :=
 if (decide (s6.2 < s6.1)) = true then ((((idx p0 (IntKind.i64.wrap (TC (IntKind.u64.wrap (wr (s6.2 + s6.1))) 1))).bind fun x18=>((p2 x18 p1)).bind fun r21=>some (decide (r21 < 0)) : Option (Bool)).bind fun j14=>(if j14 = true then (some (s6.1,wr ((IntKind.i64.wrap (TC (IntKind.u64.wrap (wr (s6.2 + s6.1))) 1)) + 1))) else (some (IntKind.i64.wrap (TC (IntKind.u64.wrap (wr (s6.2 + s6.1))) 1),s6.2)) : Option (Int × Int)).bind fun j24=>some (j24.1,j24.2) : Option (Int × Int)).bind fun j11=>some (Fl.nx (j11.1,j11.2))) else (some (Fl.ex s6.2))
def ZH (p0 : (List (Vector UInt8 32))) (p1 : (Vector UInt8 32)) (p2 : (Vector UInt8 32) → (Vector UInt8 32) → Option (Int)) : Option (Int × Bool) :=
 (Zz (Zv p0 p1 p2) ((p0.length : Int),0)).bind fun j3=>(if (decide (j3 < (p0.length : Int))) = true then ((idx p0 j3).bind fun x37=>((p2 x37 p1)).bind fun r40=>some (j3,r40 == 0)) else (some (j3,false)) : Option (Int × Bool)).bind fun j32=>some (j32.1,j32.2)
theorem Xo (w0 : World) (p0 : (List (Vector UInt8 32))) (v0_1 : Value) (hv0_1 : Ro w0 p0 [v0_1]) (p1 : (Vector UInt8 32)) (p2 : (Vector UInt8 32) → (Vector UInt8 32) → Option (Int)) (k2 : Nat) (q2 : List Value) (hcb2 : Callable Tryz.prog k2) (hg2 : ∀ (w2 : World),Kept (Old w0) w0 w2 → ∀ (z0 : (Vector UInt8 32)) (z1 : (Vector UInt8 32)) (zr : Int),p2 z0 z1 = some zr → Calls Tryz.prog k2 ([(Value.agg (enc z0).toArray),(Value.agg (enc z1).toArray)] ++ q2).toArray w2 (fun en w3=>∃ v,en = .returned v ∧ (v = (vI zr) ∧ Kept (Old w2) w2 w3))) (r : Int × Bool) (hF : ZH p0 p1 p2 = some r) :
  Calls Tryz.prog 70 [v0_1,(Value.agg (enc p1).toArray),(Value.func (.func k2) #[] q2.toArray)].toArray w0 (Rt w0 (Value.tuple [vI r.1,vT r.2].toArray)):=by
 refine ce Tryz.func70 ?_
 intro a hE
 have hM:=M.start w0
 unfold ZH at hF
 refine Zb (ZZ (cs:=enc p1) hE hM Za ld rfl rfl fun b1 w a hM hE=>Zc hE rfl fun a hE=>Zc hE rfl fun a hE=>Ze (Zb (Zd hE rfl fun a hE=>Z7 hE rfl Tryz.underlying29 (hM.rd hv0_1) fun a hE=>Zc hE rfl fun a hE=>Ze (Zb (Zd hE rfl fun a hE=>Zc hE rfl fun a hE=>Zc hE rfl fun a hE=>Ze ?_)))))
 obtain ⟨j3,hl4,hF5⟩:=bind_some hF
 refine ZK (fun a w=>Env 49 a [(0,v0_1),(2,(Value.func (.func k2) #[] q2.toArray)),(4,(ptr b1 0)),(8,(vI (p0.length : Int))),(9,vI j3)] ∧ M (Old w0) w0 w [raw b1 (enc p1)]) ?_ ?_
 ·skip
  refine wp_block ?_
  refine ZE (fun (s6 : Int × Int) a w=>Env 49 a [(0,v0_1),(2,(Value.func (.func k2) #[] q2.toArray)),(4,(ptr b1 0)),(8,(vI (p0.length : Int))),(9,vI s6.2),(10,vI s6.1)] ∧ M (Old w0) w0 w [raw b1 (enc p1)]) hl4 ⟨hE.sub ⟨rfl,rfl,rfl,rfl,rfl,rfl,trivial⟩,hM⟩ ?_
  rintro s6 a w ⟨hE,hM⟩ o9 hs7 hx8
  unfold Zv at hs7
  refine wp_seq (Zb (Zd hE rfl fun a hE=>Zd hE rfl fun a hE=>Zg hE rfl rfl rfl fun a hE=>Ze ?_))
  refine Zo hE rfl ?_ ?_
  ·intro hb10
   have hs7:=Zs hs7 hb10
   refine wp_skip (Zp ?_)
   obtain ⟨j11,hl12,hF13⟩:=bind_some hs7
   refine ZM (fun a w=>Env 49 a [(0,v0_1),(2,(Value.func (.func k2) #[] q2.toArray)),(4,(ptr b1 0)),(8,(vI (p0.length : Int))),(9,vI j11.2),(10,vI j11.1)] ∧ M (Old w0) w0 w [raw b1 (enc p1)]) ?_ ?_
   ·skip
    refine wp_block (Zb (Zd hE rfl fun a hE=>Zd hE rfl fun a hE=>Zg hE rfl rfl rfl fun a hE=>Ks hE Za ld rfl Tryz.underlying3 Tryz.underlying171 fun a hE=>HT hE Za ld rfl rfl (bU_shr _ _ (by decide)) fun a hE=>Ks hE Za ld rfl Tryz.underlying171 Tryz.underlying3 fun a hE=>Zc hE rfl fun a hE=>Ze ?_))
    obtain ⟨j14,hl15,hF16⟩:=bind_some hl12
    refine ZK (fun a w=>Env 49 a [(0,v0_1),(2,(Value.func (.func k2) #[] q2.toArray)),(4,(ptr b1 0)),(8,(vI (p0.length : Int))),(9,vI s6.2),(10,vI s6.1),(11,(vI (IntKind.i64.wrap (TC (IntKind.u64.wrap (wr (s6.2 + s6.1))) 1)))),(31,vT j14)] ∧ M (Old w0) w0 w [raw b1 (enc p1)]) ?_ ?_
    ·skip
     obtain ⟨x18,hi20,hl15⟩:=bix hl15
     refine ZV [24,25,26,27,28,29] Yq rfl rfl (by decide) rfl hE hM (qsP (fun z=>Zi z.E Za ld rfl (kr0 rfl)) (qsP (fun z=>Zi z.E Za ld rfl (kr0 rfl)) (qsP (fun z=>Zi z.E Za ld rfl (kr0 rfl)) (qsP (fun z=>ZX z.E Za ld rfl rfl Tryz.underlying29 Z3 (z.M.rd hv0_1) hi20.1 (kr0 rfl)) (qsP (fun z=>Z0 z.E Za ld rfl Z3 rfl (Yl (z.M.rd hv0_1) hi20.2) (Flat.len _) (kr0 rfl)) (qsP (fun z=>Z0 z.E Za ld rfl Z3 rfl (z.M.rawAt0) (Flat.len _) (kr0 rfl)) qs0)))))) ?_
     ·intro a w u hE hM
      obtain ⟨r21,e22,hl15⟩:=bind_some hl15
      refine zU (vs:=[(Value.agg (enc x18).toArray),(Value.agg (enc p1).toArray)]) hE Za ld rfl rfl hcb2 (hg2 _ hM.kept x18 p1 r21 e22) ?_
      rintro v w a ⟨rfl,hK⟩ hE
      have hM:=hM.keep hK
      refine Zg hE rfl rfl rfl fun a hE=>Zf ?_
      obtain rfl:=Option.some.inj hl15
      refine Zh ?_
      exact ⟨hE.sub ⟨rfl,rfl,rfl,rfl,rfl,rfl,rfl,rfl,trivial⟩,hM⟩
    ·skip
     rintro a w ⟨hE,hM⟩
     obtain ⟨j24,hl25,hF26⟩:=bind_some hF16
     refine ZM (fun a w=>Env 49 a [(0,v0_1),(2,(Value.func (.func k2) #[] q2.toArray)),(4,(ptr b1 0)),(8,(vI (p0.length : Int))),(9,vI j24.2),(10,vI j24.1)] ∧ M (Old w0) w0 w [raw b1 (enc p1)]) ?_ ?_
     ·skip
      refine Zo hE rfl ?_ ?_
      ·intro hb27
       have hl25:=Zs hl25 hb27
       refine wp_region_lit (Zd hE rfl fun a hE=>Zg hE rfl rfl rfl fun a hE=>Zc hE rfl fun a hE=>Zf ?_)
       obtain rfl:=Option.some.inj hl25
       refine Zh ?_
       exact ⟨hE.sub ⟨rfl,rfl,rfl,rfl,rfl,rfl,trivial⟩,hM⟩
      ·intro hb27
       have hl25:=Zt hl25 hb27
       refine wp_region_lit (Zd hE rfl fun a hE=>Zc hE rfl fun a hE=>Zf ?_)
       obtain rfl:=Option.some.inj hl25
       refine Zh ?_
       exact ⟨hE.sub ⟨rfl,rfl,rfl,rfl,rfl,rfl,trivial⟩,hM⟩
     ·skip
      rintro a w ⟨hE,hM⟩
      refine Yc ?_
      obtain rfl:=Option.some.inj hF26
      refine Zh ?_
      exact ⟨hE.sub ⟨rfl,rfl,rfl,rfl,rfl,rfl,trivial⟩,hM⟩
   ·skip
    rintro a w ⟨hE,hM⟩
    refine Zh ?_
    exact ⟨_,(ois hF13),hE.sub ⟨rfl,rfl,rfl,rfl,rfl,rfl,trivial⟩,hM⟩
  ·intro hb10
   have hs7:=Zt hs7 hb10
   refine wp_exit (Zm (Zm (Yb ?_)))
   obtain rfl:=hx8 _ (ois hs7)
   refine Zh ?_
   exact ⟨hE.sub ⟨rfl,rfl,rfl,rfl,rfl,trivial⟩,hM⟩
 ·skip
  rintro a w ⟨hE,hM⟩
  obtain ⟨j32,hl33,hF34⟩:=bind_some hF5
  refine ZK (fun a w=>Env 49 a [(6,vI j32.1),(7,vT j32.2)] ∧ M (Old w0) w0 w []) ?_ ?_
  ·skip
   refine Vs (decide (j3 < (p0.length : Int))) (fun hb36=>?_) (fun hb36=>?_)
   ·have hl33:=Zs hl33 hb36
    obtain ⟨x37,hi39,hl33⟩:=bix hl33
    obtain ⟨r40,e41,hl33⟩:=bind_some hl33
    refine Yv (its:=[raw b1 (enc p1)]) (mk:=([] : Mk)) [35,36,37,38,39,40,41,42,43,44,45,46,47,48,6] Yq rfl rfl (by decide) rfl hE (fun u=>M.q0 hM.drew u) (qsP (fun z=>Zi z.E Za ld rfl (kr0 rfl)) (qsP (fun z=>Zi z.E Za ld rfl (kr0 rfl)) (qsP (fun z=>Zi z.E Za ld rfl (kr0 rfl)) (qsP (fun z=>Yd z.E Za ld rfl rfl rfl (kr0 rfl)) (qsP (fun z=>Zi z.E Za ld rfl (kr0 rfl)) (qsP (fun z=>Zi z.E (Zj z.E rfl (lkb rfl hb36)) (by decide) rfl (kr0 rfl)) (qsP (fun z=>Zi z.E (Zj z.E rfl (lkb rfl hb36)) (by decide) rfl (kr0 rfl)) (qsP (fun z=>Zi z.E (Zj z.E rfl (lkb rfl hb36)) (by decide) rfl (kr0 rfl)) (qsP (v:=(ptr (sb v0_1) (so v0_1 + (j3).toNat * 32))) ?_ (qsP (v:=(Value.agg (enc x37).toArray)) ?_ (qsP (v:=(Value.agg (enc p1).toArray)) ?_ (qsP (v:=(vI r40)) ?_ (qsP (fun z=>Yd z.E (Zj z.E rfl (lkb rfl hb36)) (by decide) rfl rfl rfl (kr0 rfl)) (qsP (fun z=>Tp z.E Za ld (lkb rfl hb36) rfl (kr0 rfl)) (qsP (fun z=>Qd z.E Za ld rfl (kr0 rfl)) qs0))))))))))))))) ?_
    ·intro a w ux35 D z
     have hE:=z.E
     have hM:=z.M
     exact ZX hE (Zj hE rfl (lkb rfl hb36)) (by decide) rfl rfl Tryz.underlying29 Z3 (hM.rd hv0_1) hi39.1 fun a hE=>⟨Kept.refl _ _,_,rfl,hE⟩
    ·intro a w ux35 D z
     have hE:=z.E
     have hM:=z.M
     exact Z0 hE (Zj hE rfl (lkb rfl hb36)) (by decide) rfl Z3 rfl (Yl (hM.rd hv0_1) hi39.2) (Flat.len _) fun a hE=>⟨Kept.refl _ _,_,rfl,hE⟩
    ·intro a w ux35 D z
     have hE:=z.E
     have hM:=z.M
     exact Z0 hE (Zj hE rfl (lkb rfl hb36)) (by decide) rfl Z3 rfl hM.rawAt0 (Flat.len _) fun a hE=>⟨Kept.refl _ _,_,rfl,hE⟩
    ·intro a w ux35 D z
     have hE:=z.E
     have hM:=z.M
     refine zU (vs:=[(Value.agg (enc x37).toArray),(Value.agg (enc p1).toArray)]) hE (Zj hE rfl (lkb rfl hb36)) (by decide) rfl rfl hcb2 (hg2 _ hM.kept x37 p1 r40 e41) ?_
     rintro v w a ⟨rfl,hK⟩ hE
     exact ⟨hK,_,rfl,hE⟩
    ·intro a w ux35 D hE hM hG hall
     refine Zc hE rfl fun a hE=>Zf ?_
     obtain rfl:=Option.some.inj hl33
     refine Zh ?_
     have hM:=M.fst (l:=[]) hM
     exact ⟨hE.sub ⟨rfl,rfl,trivial⟩,hM⟩
   ·have hl33:=Zt hl33 hb36
    refine Yv (its:=[raw b1 (enc p1)]) (mk:=([] : Mk)) [35,36,37,38,39,40,41,42,43,44,45,46,47,48,6] Yq rfl rfl (by decide) rfl hE (fun u=>M.q0 hM.drew u) (qsP (fun z=>Zi z.E Za ld rfl (kr0 rfl)) (qsP (fun z=>Zi z.E Za ld rfl (kr0 rfl)) (qsP (fun z=>Zi z.E Za ld rfl (kr0 rfl)) (qsP (fun z=>Yd z.E Za ld rfl rfl rfl (kr0 rfl)) (qsP (fun z=>Zi z.E Za ld rfl (kr0 rfl)) (qsP (fun z=>Zl z.E rfl (lkb rfl hb36) rfl (by decide) (kr0 rfl)) (qsP (fun z=>Zl z.E rfl (lkb rfl hb36) rfl (by decide) (kr0 rfl)) (qsP (fun z=>Zl z.E rfl (lkb rfl hb36) rfl (by decide) (kr0 rfl)) (qsP (fun z=>Zl z.E rfl (lkb rfl hb36) rfl (by decide) (kr0 rfl)) (qsP (fun z=>Zl z.E rfl (lkb rfl hb36) rfl (by decide) (kr0 rfl)) (qsP (fun z=>Zl z.E rfl (lkb rfl hb36) rfl (by decide) (kr0 rfl)) (qsP (fun z=>Zl z.E rfl (lkb rfl hb36) rfl (by decide) (kr0 rfl)) (qsP (fun z=>Zl z.E rfl (lkb rfl hb36) rfl (by decide) (kr0 rfl)) (qsP (fun z=>Th z.E Za ld (lkb rfl hb36) rfl (kr0 rfl)) (qsP (fun z=>Qd z.E Za ld rfl (kr0 rfl)) qs0))))))))))))))) ?_
    ·intro a w ux35 D hE hM hG hall
     refine Zc hE rfl fun a hE=>Zf ?_
     obtain rfl:=Option.some.inj hl33
     refine Zh ?_
     have hM:=M.fst (l:=[]) hM
     exact ⟨hE.sub ⟨rfl,rfl,trivial⟩,hM⟩
  ·skip
   rintro a w ⟨hE,hM⟩
   obtain rfl:=Option.some.inj hF34
   exact wp_ret (To hE rfl (ZR hE rfl) (ZR hE rfl) ⟨_,rfl,rfl,hM.kept⟩)
def VZ (p0 : GBlobs) (p1 : (Vector UInt8 32)) : Option (Int × Int) :=
 (Ue p0).bind fun r5=>if (!r5) = true then (some (0,1)) else ((ZH p0.Keys p1 (fun z0 z1=>ZT z0 z1)).bind fun r8=>if (!r8.2) = true then (some (0,4)) else (some (r8.1,0)))
theorem K4 (w0 : World) (p0 : GBlobs) (v0_1 : Value) (hv0_1 : Ro w0 p0.Keys [v0_1]) (v0_2 : Value) (hv0_2 : Ro w0 p0.Data [v0_2]) (v0_3 : Value) (hv0_3 : Ro w0 p0.Counts [v0_3]) (p1 : (Vector UInt8 32)) (r : Int × Int) (hF : VZ p0 p1 = some r) :
  Calls Tryz.prog 49 [(Value.agg (cat [[v0_1],[v0_2],[v0_3]]).toArray),(Value.agg (enc p1).toArray)].toArray w0 (Rt w0 (Value.tuple [vI r.1,vI r.2].toArray)):=by
 refine ce Tryz.func49 ?_
 intro a hE
 have hM:=M.start w0
 unfold VZ at hF
 refine Zb (ZZ (cs:=cat [[v0_1],[v0_2],[v0_3]]) hE hM Za ld rfl rfl fun b1 w a hM hE=>ZZ (cs:=enc p1) hE hM Za ld rfl rfl fun b3 w a hM hE=>Zc hE rfl fun a hE=>Zc hE rfl fun a hE=>Ze (wp_seq (Zb (Zq hE rfl Yy rfl hM.rawAt1 cq ?_)))); intro a hE
 obtain ⟨r5,e6,hF⟩:=bind_some hF
 refine Zy hE rfl (cbm Tryz.func120) (Bi _ p0 v0_1 (hM.rdo hv0_1) v0_2 (hM.rdo hv0_2) v0_3 (hM.rdo hv0_3) r5 e6) ?_
 rintro v w a ⟨rfl,hK⟩ hE
 have hM:=hM.keep hK
 refine KJ hE rfl fun a hE=>Ze ?_
 refine Zo hE rfl ?_ ?_
 ·intro hb7
  have hF:=Zs hF hb7
  refine Zb (Zc hE rfl fun a hE=>Zc hE rfl fun a hE=>Ze ?_)
  obtain rfl:=Option.some.inj hF
  exact wp_ret (Zx (To hE rfl (ZR hE rfl) (ZR hE rfl) ⟨_,rfl,rfl,hM.kept⟩))
 ·intro hb7
  have hF:=Zt hF hb7
  refine wp_skip (Zp (Zb (Zw hE rfl (X1) fun a hE=>ZA (v:=v0_1) hE rfl Tu rfl (At.cat (pre:=[]) hM.rawAt1 cl0) fun a hE=>Zq hE rfl Z3 rfl hM.rawAt0 (Flat.len _) ?_))); intro a hE
  obtain ⟨r8,e9,hF⟩:=bind_some hF
  refine Zy hE rfl (cbm Tryz.func70) (Xo _ p0.Keys v0_1 (hM.rdo hv0_1) p1 (fun z0 z1=>ZT z0 z1) 71 [] (cbm Tryz.func71) (fun w2 hk2 z0 z1 zr zhr=>Tj w2 z0 z1 zr zhr) r8 e9) ?_
  rintro v w a ⟨rfl,hK⟩ hE
  have hM:=hM.keep hK
  refine Zd hE rfl fun a hE=>XS hE Za ld rfl rfl fun a hE=>XS hE Za ld rfl rfl fun a hE=>Zc hE rfl fun a hE=>Zc hE rfl fun a hE=>Ze (wp_seq (Zb (Zd hE rfl fun a hE=>KJ hE rfl fun a hE=>Ze ?_)))
  refine Zo hE rfl ?_ ?_
  ·intro hb10
   have hF:=Zs hF hb10
   refine Zb (Zc hE rfl fun a hE=>Zc hE rfl fun a hE=>Ze ?_)
   obtain rfl:=Option.some.inj hF
   exact wp_ret (Zx (To hE rfl (ZR hE rfl) (ZR hE rfl) ⟨_,rfl,rfl,hM.kept⟩))
  ·intro hb10
   have hF:=Zt hF hb10
   refine wp_skip (Zp (Zb (Zd hE rfl fun a hE=>Zc hE rfl fun a hE=>Zc hE rfl fun a hE=>Ze ?_)))
   obtain rfl:=Option.some.inj hF
   exact wp_ret (To hE rfl (ZR hE rfl) (ZR hE rfl) ⟨_,rfl,rfl,hM.kept⟩)
def Yh (p0 : (List (Vector UInt8 32))) : Option ((List (Vector UInt8 32))) :=
 (app 32 ([] : List (Vector UInt8 32)) p0).bind fun l7=>some (([] : List (Vector UInt8 32)) ++ p0)
theorem Ua (w0 : World) (p0 : (List (Vector UInt8 32))) (v0_1 : Value) (hv0_1 : Ro w0 p0 [v0_1]) (r : (List (Vector UInt8 32))) (hF : Yh p0 = some r) :
  Calls Tryz.prog 121 [v0_1].toArray w0 (fun en w'=>∃ v,en = .returned v ∧ (∃ (y1 : Value),v = y1 ∧ Fr w0 w' [osl NoB (r : List (Vector UInt8 32)) y1] ∧ Kept (Old w0) w0 w')):=by
 refine ce Tryz.func121 ?_
 intro a hE
 have hM:=M.start w0
 unfold Yh at hF
 refine Zb (Zc hE rfl fun a hE=>Ze (wp_seq (Zb (Zd hE rfl fun a hE=>AK hE Za ld rfl rfl Tryz.underlying29 (hM.rd hv0_1) fun bn1 a hn2 hE=>Ze ?_))))
 refine Zo hE rfl ?_ ?_
 ·intro hb3
  have h0:=hn2 hb3
  have hF : some ([]) = some r:=by rw [h0] at hF; simpa [app] using hF
  refine Zb (Zc hE rfl fun a hE=>Ze ?_)
  have hM:=M.nilS (α:=(Vector UInt8 32)) NoB noB hM
  obtain rfl:=Option.some.inj hF
  exact wp_ret (Zx (ZP hE rfl (ZR hE rfl) ⟨_,rfl,(Value.slice none 0 0),rfl,hM.outF (Yu XD),hM.kept⟩))
 ·intro hb3
  refine wp_skip (Zp (Zb (Yr (xs:=[]) (l:=([] : List (Vector UInt8 32))) (vs:=[]) hE hM Za ld rfl rfl Tryz.underlying29 Z3 rfl (by decide) rfl fun u5 w a hM hE=>Zd hE rfl ?_))); intro a hE
  obtain ⟨l7,e8,hF⟩:=bind_some hF
  have e11:=(Yo e8).1
  refine Yi hE hM Za ld rfl rfl (hM.rd hv0_1) Tryz.underlying29 Z3 rfl (by decide) e11 fun u9 w a hM hE=>Zc hE rfl fun a hE=>Ze ?_
  obtain rfl:=Option.some.inj hF
  exact wp_ret (ZP hE rfl (ZR hE rfl) ⟨_,rfl,u9,rfl,hM.outF (Yu XD),hM.kept⟩)
def Xa (p0 : (List Int)) : Option ((List Int)) :=
 (app 8 ([] : List Int) p0).bind fun l7=>some (([] : List Int) ++ p0)
theorem TX (w0 : World) (p0 : (List Int)) (v0_1 : Value) (hv0_1 : Ro w0 p0 [v0_1]) (r : (List Int)) (hF : Xa p0 = some r) :
  Calls Tryz.prog 122 [v0_1].toArray w0 (fun en w'=>∃ v,en = .returned v ∧ (∃ (y1 : Value),v = y1 ∧ Fr w0 w' [osl NoB (r : List Int) y1] ∧ Kept (Old w0) w0 w')):=by
 refine ce Tryz.func122 ?_
 intro a hE
 have hM:=M.start w0
 unfold Xa at hF
 refine Zb (Zc hE rfl fun a hE=>Ze (wp_seq (Zb (Zd hE rfl fun a hE=>AK hE Za ld rfl rfl Tryz.underlying24 (hM.rd hv0_1) fun bn1 a hn2 hE=>Ze ?_))))
 refine Zo hE rfl ?_ ?_
 ·intro hb3
  have h0:=hn2 hb3
  have hF : some ([]) = some r:=by rw [h0] at hF; simpa [app] using hF
  refine Zb (Zc hE rfl fun a hE=>Ze ?_)
  have hM:=M.nilS (α:=Int) NoB noB hM
  obtain rfl:=Option.some.inj hF
  exact wp_ret (Zx (ZP hE rfl (ZR hE rfl) ⟨_,rfl,(Value.slice none 0 0),rfl,hM.outF (Yu XD),hM.kept⟩))
 ·intro hb3
  refine wp_skip (Zp (Zb (Yr (xs:=[]) (l:=([] : List Int)) (vs:=[]) hE hM Za ld rfl rfl Tryz.underlying24 ty2 rfl (by decide) rfl fun u5 w a hM hE=>Zd hE rfl ?_))); intro a hE
  obtain ⟨l7,e8,hF⟩:=bind_some hF
  have e11:=(Yo e8).1
  refine Yi hE hM Za ld rfl rfl (hM.rd hv0_1) Tryz.underlying24 ty2 rfl (by decide) e11 fun u9 w a hM hE=>Zc hE rfl fun a hE=>Ze ?_
  obtain rfl:=Option.some.inj hF
  exact wp_ret (ZP hE rfl (ZR hE rfl) ⟨_,rfl,u9,rfl,hM.outF (Yu XD),hM.kept⟩)
def X9 (p0 : GBlobs) (s21 : (List (List UInt8)) × Int) : Option (Fl ((List (List UInt8)) × Int) (List (List UInt8))) :=
 if (decide (s21.2 < (p0.Data.length : Int))) = true then ((idx p0.Data s21.2).bind fun x29=>(Ys x29).bind fun r38=>(app 24 s21.1 ([r38] : List (List UInt8))).bind fun l44=>some (Fl.nx ((s21.1 ++ ([r38] : List (List UInt8))),wr (s21.2 + 1)))) else (some (Fl.ex s21.1))
def WH (p0 : GBlobs) : Option (GBlobs) :=
 (Yh p0.Keys).bind fun r6=>(Xa p0.Counts).bind fun r9=>(Zz (X9 p0) ([],0)).bind fun j16=>some (⟨r6,j16,r9⟩ : GBlobs)
theorem Kw (w0 : World) (p0 : GBlobs) (v0_1 : Value) (hv0_1 : Ro w0 p0.Keys [v0_1]) (v0_2 : Value) (hv0_2 : Ro w0 p0.Data [v0_2]) (v0_3 : Value) (hv0_3 : Ro w0 p0.Counts [v0_3]) (r : GBlobs) (hF : WH p0 = some r) :
  Calls Tryz.prog 50 [(Value.agg (cat [[v0_1],[v0_2],[v0_3]]).toArray)].toArray w0 (fun en w'=>∃ v,en = .returned v ∧ (∃ (y1 : Value) (y2 : Value) (y3 : Value),v = (Value.agg (cat [[y1],[y2],[y3]]).toArray) ∧ Fr w0 w' [osl NoB (r.Keys : List (Vector UInt8 32)) y1,osl NoB (r.Data : List (List UInt8)) y2,osl NoB (r.Counts : List Int) y3] ∧ Kept (Old w0) w0 w')):=by
 refine ce Tryz.func50 ?_
 intro a hE
 have hM:=M.start w0
 unfold WH at hF
 refine Zb (ZZ (cs:=cat [[v0_1],[v0_2],[v0_3]]) hE hM Za ld rfl rfl fun b1 w a hM hE=>ZC hE hM Yy fun b3 w a hM hE=>Ze (wp_seq ?_))
 obtain ⟨r6,e7,hF⟩:=bind_some hF
 obtain ⟨r9,e10,hF⟩:=bind_some hF
 refine Yv (its:=[raw b3 (cat [[(Value.slice none 0 0)],[(Value.slice none 0 0)],[(Value.slice none 0 0)]]),raw b1 (cat [[v0_1],[v0_2],[v0_3]])]) (mk:=([mkO 2 (fun v=>osl NoB (r6 : List (Vector UInt8 32)) v),mkO 5 (fun v=>osl NoB (r9 : List Int) v),mkO 7 (fun v=>UR v (cat [[(Value.slice none 0 0)],[(Value.slice none 0 0)],[(Value.slice none 0 0)]]))] : Mk)) [6,7,8,9,10,11,12,3] Yq rfl rfl (by decide) rfl hE (fun u=>M.qE (M.qE (M.qE (M.q0 hM.drew u) emO) emO) emO) (qsP (fun z=>Zr z.E Za ld rfl (X1) (kr0 rfl)) (qsP (v:=v0_1) ?_ (qsM (pr:=fun v=>True) ?_ (qsP (fun z=>Zr z.E Za ld rfl (X2) (kr0 rfl)) (qsP (v:=v0_3) ?_ (qsM (pr:=fun v=>True) ?_ (qsD (ds:=[2,5]) (f:=fun us=>(Value.agg (cat [[(us.getD 0 undef)],[(Value.slice none 0 0)],[(us.getD 1 undef)]]).toArray)) ?_ (qsM (pr:=fun v=>True) ?_ qs0)))))))) ?_
 ·intro a w ux5 D z
  have hE:=z.E
  have hM:=z.M
  exact ZA (v:=v0_1) hE rfl Tu rfl (At.cat (pre:=[]) hM.rawAt1 cl0) fun a hE=>⟨Kept.refl _ _,_,rfl,hE⟩
 ·intro a w ux5 D z
  have hE:=z.E
  have hD : D 2 = false:=z.F
  have hM0:=z.M
  have hM:=z.M
  refine Zy hE rfl (cbm Tryz.func121) (Ua _ p0.Keys v0_1 (hM.rdo hv0_1) r6 e7) ?_
  rintro _ w a ⟨_,rfl,hFr,hK⟩ hE
  have hM:=hM0.add hK hFr
  exact ⟨_,_,rfl,hE,M.qFill (mk1:=[]) (mk2:=[_,_]) (f:=(fun v=>osl NoB (r6 : List (Vector UInt8 32)) v)) hM rfl hD,trivial⟩
 ·intro a w ux5 D z
  have hE:=z.E
  have hM:=z.M
  exact ZA (v:=v0_3) hE rfl U3 rfl (At.cat (pre:=[[v0_1],[v0_2]]) hM.rawAt1 ck) fun a hE=>⟨Kept.refl _ _,_,rfl,hE⟩
 ·intro a w ux5 D z
  have hE:=z.E
  have hD : D 5 = false:=z.F
  have hM0:=z.M
  have hM:=z.M
  refine Zy hE rfl (cbm Tryz.func122) (TX _ p0.Counts v0_3 (hM.rdo hv0_3) r9 e10) ?_
  rintro _ w a ⟨_,rfl,hFr,hK⟩ hE
  have hM:=hM0.add hK hFr
  exact ⟨_,_,rfl,hE,M.qFill (mk1:=[_]) (mk2:=[_]) (f:=(fun v=>osl NoB (r9 : List Int) v)) hM rfl hD,trivial⟩
 ·intro a w ux5 D z
  have hE:=z.E
  have d2 : D 2 = true:=z.p 0 _ rfl rfl
  have d5 : D 5 = true:=z.p 1 _ rfl rfl
  have hM:=(z.M.sure (pre:=[_,_]) d2).sure (pre:=[_,_,_]) d5
  exact VB (parts:=[(0,.tmp 8),(2,.tmp 11)]) (vs:=[(0,(ux5 2)),(2,(ux5 5))]) (cs:=cat [[(ux5 2)],[(Value.slice none 0 0)],[(ux5 5)]]) hE Za ld rfl rfl Yy pl31 (Xh (pre:=[]) (seg:=[(Value.slice none 0 0)]) (seg':=[(ux5 2)]) (post:=[[(Value.slice none 0 0)],[(Value.slice none 0 0)]]) rfl cl0 rfl rfl (YS (hM.sl (pre:=[_,_]) noB)) (Xh (pre:=[[(ux5 2)],[(Value.slice none 0 0)]]) (seg:=[(Value.slice none 0 0)]) (seg':=[(ux5 5)]) (post:=[]) rfl ck rfl rfl (YS (hM.sl (pre:=[_,_,_]) noB)) U6)) fun a hE=>⟨Kept.refl _ _,(BE d2 (BE d5 AX)),_,rfl,hE⟩
 ·intro a w ux5 D z
  have hE:=z.E
  have hD : D 7 = false:=z.F
  have hM:=z.M
  refine ZC hE hM Yy ?_; intro b12 w a hM hE
  have hM:=hM.pack1 (it:=UR _ (cat [[(Value.slice none 0 0)],[(Value.slice none 0 0)],[(Value.slice none 0 0)]])) (fun w w' fp ⟨b',e,k⟩ hb=>⟨b',e,Y9 w w' fp k hb⟩) (fun fp k=>⟨_,rfl,k⟩)
  exact ⟨_,_,rfl,hE,M.qFill (mk1:=[_,_]) (mk2:=[]) (f:=fun v=>UR v (cat [[(Value.slice none 0 0)],[(Value.slice none 0 0)],[(Value.slice none 0 0)]])) hM rfl hD,trivial⟩
 ·intro a w ux5 D hE hM hG hall
  have d2:=hall 2 (by decide)
  have d5:=hall 5 (by decide)
  have d7:=hall 7 (by decide)
  have hM:=(((hM.sure (pre:=[_,_]) d2).sure (pre:=[_,_,_]) d5).sure (pre:=[_,_,_,_]) d7).pull
  obtain ⟨_,⟨b14,f15,_⟩,_⟩:=hM.head
  have hM:=hM.pack1 Y9 (it:=raw b14 (cat [[(Value.slice none 0 0)],[(Value.slice none 0 0)],[(Value.slice none 0 0)]])) (fun fp ⟨b2,e2,k2⟩=>by rw [f15] at e2; simp [ptr] at e2; subst e2; exact k2)
  have hE:=hE.setq (t:=3) rfl f15
  refine Zn (seg:=cat [[(ux5 2)],[(Value.slice none 0 0)],[(ux5 5)]]) (cs':=cat [[(ux5 2)],[(Value.slice none 0 0)],[(ux5 5)]]) hE hM Za rfl rfl rfl Yy cq (Nat.le_of_eq ((Nat.zero_add _).trans (Eq.trans cq (Eq.symm cq)))) (YC (cc1 (Rep.cell (hM.sl (pre:=[_,_,_]) noB)) (cc1 Ta (cc1 (Rep.cell (hM.sl (pre:=[_,_,_,_]) noB)) cc0)))) (Zk (Eq.trans cq (Eq.symm cq))) fun w a hM hE=>Zf (Zp (wp_seq (Zb (Zw hE rfl (X5) fun a hE=>ZA (v:=v0_2) hE rfl Tg rfl (At.cat (pre:=[[v0_1]]) hM.rawAt2 ck) fun a hE=>Z7 hE rfl Tryz.underlying23 (hM.rd hv0_2) fun a hE=>Zd hE rfl fun a hE=>Ze ?_))))
  obtain ⟨j16,hl17,hF18⟩:=bind_some hF
  refine ZM (fun a w=>∃ (u19 : Value),Env 29 a [(2,(ptr b3 0)),(3,(ptr b14 0))] ∧ M (Old w0) w0 w [raw b14 (cat [[(ux5 2)],[u19],[(ux5 5)]]),raw b3 (cat [[(Value.slice none 0 0)],[(Value.slice none 0 0)],[(Value.slice none 0 0)]]),osl NoB (r6 : List (Vector UInt8 32)) (ux5 2),osl NoB (r9 : List Int) (ux5 5),osl NoB (j16 : List (List UInt8)) u19]) ?_ ?_
  ·skip
   refine wp_block ?_
   have hM:=M.fst (l:=[_,_,_,_,_]) (((((M.nilS (α:=(List UInt8)) NoB noB hM).pull5).pull5).pull4).pull4)
   refine ZE (fun (s21 : (List (List UInt8)) × Int) a w=>∃ (u22 : Value),Env 29 a [(2,(ptr b3 0)),(3,(ptr b14 0)),(14,v0_2),(15,(vI (p0.Data.length : Int))),(16,vI s21.2)] ∧ M (Old w0) w0 w [raw b14 (cat [[(ux5 2)],[u22],[(ux5 5)]]),raw b3 (cat [[(Value.slice none 0 0)],[(Value.slice none 0 0)],[(Value.slice none 0 0)]]),osl NoB (r6 : List (Vector UInt8 32)) (ux5 2),osl NoB (r9 : List Int) (ux5 5),osl NoB (s21.1 : List (List UInt8)) u22]) hl17 ⟨(Value.slice none 0 0),hE.sub ⟨rfl,rfl,rfl,rfl,rfl,trivial⟩,hM⟩ ?_
   rintro s21 a w ⟨u22,hE,hM⟩ o26 hs24 hx25
   unfold X9 at hs24
   refine Zb (Zg hE rfl rfl rfl fun a hE=>Ze (wp_seq ?_))
   refine Zo hE rfl ?_ ?_
   ·intro hb28
    have hs24:=Zs hs24 hb28
    refine wp_skip (Zp (wp_seq (wp_block (Zb ?_))))
    obtain ⟨x29,hi31,hs24⟩:=bix hs24
    refine Z9 hE rfl rfl Tryz.underlying23 XQ (hM.rd hv0_2) hi31.1 ?_; intro a hE
    obtain ⟨cs32,hs33,hA34⟩:=UO hv0_2 hi31.2 -- ^
    obtain ⟨u35,rfl⟩:=Vx hs33 -- ^
    have h36:=hs33 -- ^
    refine ZA (v:=u35) hE rfl XQ rfl (hM.atk hA34 (US hv0_2 hi31.2)) fun a hE=>Zc hE rfl fun a hE=>Ze ?_
    obtain ⟨r38,e39,hs24⟩:=bind_some hs24
    refine Yv (its:=[raw b14 (cat [[(ux5 2)],[u22],[(ux5 5)]]),raw b3 (cat [[(Value.slice none 0 0)],[(Value.slice none 0 0)],[(Value.slice none 0 0)]]),osl NoB (r6 : List (Vector UInt8 32)) (ux5 2),osl NoB (r9 : List Int) (ux5 5),osl NoB (s21.1 : List (List UInt8)) u22]) (mk:=([mkN [(4,fun v=>osl NoB (([r38] : List (List UInt8)) : List (List UInt8)) v),(3,fun v=>osl NoB (r38 : List UInt8) v)]] : Mk)) [20,21,22,23,24] Yq rfl rfl (by decide) rfl hE (fun u=>M.qE (M.q0 hM.drew u) emN) (qsP (fun z=>Zr z.E Za ld rfl (X5) (kr0 rfl)) (qsP (v:=u22) ?_ (qsP (fun z=>Zi z.E Za ld rfl (kr0 rfl)) (qsM (pr:=fun v=>True) ?_ (qsM (pr:=fun v=>True) ?_ qs0))))) ?_
    ·intro a w ux37 D z
     have hE:=z.E
     have hM:=z.M
     exact ZA (v:=u22) hE rfl Tg rfl (At.cat (pre:=[[(ux5 2)]]) hM.rawAt0 ck) fun a hE=>⟨Kept.refl _ _,_,rfl,hE⟩
    ·intro a w ux37 D z
     have hE:=z.E
     have hD : D 3 = false:=z.F
     have hM0:=z.M
     have hM:=z.M
     refine Zy hE rfl (cbm Tryz.func75) (UJ _ x29 u35 (hM.rdo h36) r38 e39) ?_
     rintro _ w a ⟨_,rfl,hFr,hK⟩ hE
     have hM:=hM0.add hK hFr
     have hq4 : D 4 = false:=QE (j:=4) (k:=0) z.c rfl rfl rfl hD
     exact ⟨_,_,rfl,hE,M.qPut (p:=mkN [(4,fun v=>osl NoB (([r38] : List (List UInt8)) : List (List UInt8)) v),(3,fun v=>osl NoB (r38 : List UInt8) v)]) (its:=[raw b14 (cat [[(ux5 2)],[u22],[(ux5 5)]]),raw b3 (cat [[(Value.slice none 0 0)],[(Value.slice none 0 0)],[(Value.slice none 0 0)]]),osl NoB (r6 : List (Vector UInt8 32)) (ux5 2),osl NoB (r9 : List Int) (ux5 5),osl NoB (s21.1 : List (List UInt8)) u22]) (mk1:=[]) (mk2:=[]) hM rfl (Q3 (QF hq4 (QF hD QJ))) (TA (l:=[_]) (QF hq4 QJ)),trivial⟩
    ·intro a w ux37 D z
     have hE:=z.E
     have hD : D 4 = false:=z.F
     have d3 : D 3 = true:=z.p 0 _ rfl rfl
     have hM:=(z.M.chnF (pre:=[_,_,_,_,_]) hD).chnT (pre:=[_,_,_,_,_]) d3
     have hc43:=YS (hM.sl (pre:=[_,_,_,_,_]) noB)
     have hM:=hM.pull5
     have hM:=hM.pack1 (it:=own NoB r38 ([(ux37 3)])) (Vw noB) (fun f0 q0=>(Wh.sat q0))
     exact za (xs:=[.tmp 23]) (seg:=[(ux37 3)]) hE hM noB Za ld rfl hc43 Tryz.underlying23 XQ rfl (by decide) fun u41 w a hM hE=>⟨_,_,rfl,hE,M.qTogS (p:=mkN [(4,fun v=>osl NoB (([r38] : List (List UInt8)) : List (List UInt8)) v),(3,fun v=>osl NoB (r38 : List UInt8) v)]) (its:=[raw b14 (cat [[(ux5 2)],[u22],[(ux5 5)]]),raw b3 (cat [[(Value.slice none 0 0)],[(Value.slice none 0 0)],[(Value.slice none 0 0)]]),osl NoB (r6 : List (Vector UInt8 32)) (ux5 2),osl NoB (r9 : List Int) (ux5 5),osl NoB (s21.1 : List (List UInt8)) u22]) (mk1:=[]) (mk2:=[]) hM rfl (TA (l:=[]) QJ),trivial⟩
    ·intro a w ux37 D hE hM hG hall
     have d4:=hall 4 (by decide)
     have hM:=hM.chnT (pre:=[_,_,_,_,_]) d4
     obtain ⟨l44,e45,hs24⟩:=bind_some hs24
     obtain ⟨e48,rfl⟩:=Yo e45
     have hM:=hM.pull5.pull5
     refine BR hE hM noB Za ld rfl rfl Tryz.underlying23 XQ rfl (by decide) e48 fun u46 w a hM hE=>Zw hE rfl (X5) ?_; intro a hE
     have hM:=hM.pull1
     refine Zn (seg:=[u46]) hE hM Za rfl rfl (YS (hM.sl (pre:=[_]) noB)) Tg rfl (Ux (pre:=[[(ux5 2)]]) ck rfl) (Rep.cell (hM.sl (pre:=[_]) noB)) (Xy (pre:=[[(ux5 2)]]) ck rfl) fun w a hM hE=>Zf (Yc (Zp (wp_region_lit (Zg hE rfl rfl rfl fun a hE=>Zd hE rfl fun a hE=>Zf (Zh ?_)))))
     have hM:=hM.pull1.pull4.pull4.pull4.pull4
     exact ⟨_,(ois hs24),u46,hE.sub ⟨rfl,rfl,rfl,rfl,rfl,trivial⟩,hM⟩
   ·intro hb28
    have hs24:=Zt hs24 hb28
    refine wp_exit (Zm (Zm (Yb ?_)))
    obtain rfl:=hx25 _ (ois hs24)
    refine Zh ?_
    exact ⟨u22,hE.sub ⟨rfl,rfl,trivial⟩,hM⟩
  ·skip
   rintro a w ⟨u19,hE,hM⟩
   refine Zp (Zb (Zq hE rfl Yy rfl hM.rawAt0 cq ?_)); intro a hE
   have hM:=hM.pull1
   refine Zn (seg:=cat [[(ux5 2)],[u19],[(ux5 5)]]) (cs':=cat [[(ux5 2)],[u19],[(ux5 5)]]) hE hM Za rfl rfl rfl Yy cq (Nat.le_of_eq ((Nat.zero_add _).trans (Eq.trans cq (Eq.symm cq)))) (YC (cc1 (Rep.cell (hM.sl (pre:=[_,_]) noB)) (cc1 (Rep.cell (hM.sl (pre:=[_,_,_,_]) noB)) (cc1 (Rep.cell (hM.sl (pre:=[_,_,_]) noB)) cc0)))) (Zk (Eq.trans cq (Eq.symm cq))) fun w a hM hE=>Ze ?_
   obtain rfl:=Option.some.inj hF18
   have hq50 : Yz Tryz.prog _ _ (.cell 2 31) _:=ZS hE rfl Yy rfl hM.rawAt0 cq rfl
   have hM:=M.fst (l:=[_,_,_]) hM.pull3.pull4.pull4
   exact wp_ret (ZP hE rfl hq50 ⟨_,rfl,(ux5 2),u19,(ux5 5),rfl,hM.outF (Yu (Yu (Yu XD))),hM.kept⟩)
def Yx (p0 : List (Vector UInt8 32)) (p1 : Int) (p2 : Int) : Option (List (Vector UInt8 32)):=zR p0 p1 p2
theorem V3 (St : Nat → Prop) (W w0 : World) (its : List Item) (l : List (Opq 32)) (v : Value) (i j : Nat) (hM : M St W w0 (osl NoB l v :: its)) (hij : i ≤ j) (hj : j ≤ l.length) :
  Calls Tryz.prog 51 [v,vI (i : Int),vI (j : Int)].toArray w0 (fun en w'=>∃ y,en = .returned y ∧ M St W w' (osl NoB (l.take i ++ l.drop j) y :: its)):=by
 refine ce Tryz.func51 ?_
 intro a hE
 refine Zb (Zc hE rfl fun a hE=>Ze (Zb (Zd hE rfl fun a hE=>Zd hE rfl fun a hE=>Zd hE rfl fun a hE=>Zd hE rfl fun a hE=>Z7 hE rfl Tryz.underlying29 (hM.sl (pre:=[]) noB) fun a hE=>HC hE Za ld rfl rfl rfl rfl Tryz.underlying29 Z3 (hM.sl (pre:=[]) noB) hij hj fun u a hE=>Ze (wp_seq (Zb (Zd hE rfl fun a hE=>Zd hE rfl fun a hE=>Zg hE rfl rfl rfl fun a hE=>Ze ?_))))))
 refine Zo hE rfl ?_ ?_
 ·intro hb
  have hb:=eqI hb
  subst hb
  refine Zb (Zd hE rfl fun a hE=>Zc hE rfl fun a hE=>Ze ?_)
  refine wp_ret (Zx (ZP hE rfl (ZR hE rfl) ⟨_,rfl,?_⟩))
  rw [List.take_append_drop]
  exact hM
 ·intro hb
  have hb:=neI hb
  have hlt : i < j:=by omega
  refine wp_skip (Zp (Zb (Zd hE rfl fun a hE=>Z7 hE rfl Tryz.underlying29 (hM.sl (pre:=[]) noB) fun a hE=>Zc hE rfl fun a hE=>Ze (wp_seq ?_))))
  have h1 : slc l 0 (i : Int) = some (l.take i):=by unfold slc; rw [if_pos (by omega)]; simp
  have h2 : slc l (j : Int) (l.length : Int) = some (l.drop j):=by unfold slc; rw [if_pos (by omega)]; simp
  refine ZV [20,21,22,23,24,25] Yq rfl rfl (by decide) rfl hE hM (qsP (fun z=>Zi z.E Za ld rfl (kr0 rfl)) (qsP (fun z=>Zi z.E Za ld rfl (kr0 rfl)) (qsP (fun z=>Vz (lo:=none) (vhi:=some (vI (i : Int))) (i:=0) (j:=(i : Int)) z.E Za ld rfl rfl rfl rfl rfl Tryz.underlying29 Z3 (z.M.sl (pre:=[]) noB) h1 (kr0 rfl)) (qsP (fun z=>Zi z.E Za ld rfl (kr0 rfl)) (qsP (fun z=>Zi z.E Za ld rfl (kr0 rfl)) (qsP (fun z=>Vz (hi:=none) (vlo:=some (vI (j : Int))) (i:=(j : Int)) (j:=(l.length : Int)) z.E Za ld rfl rfl rfl rfl rfl Tryz.underlying29 Z3 (z.M.sl (pre:=[]) noB) h2 (kr0 rfl)) qs0)))))) ?_
  intro a w u hE hM
  refine HB (i:=i) (j:=j) hE hM Za ld rfl rfl Tryz.underlying29 Z3 hlt hj fun w a hM hE=>Zc hE rfl fun a hE=>Zf (Zp ?_)
  have hl2 : (l.take i ++ (l.drop j ++ l.drop (l.length - (j - i)))).length = l.length:=by simp; omega
  refine Zb (Zd hE rfl fun a hE=>Zd hE rfl fun a hE=>HE hE hM Za ld rfl Tryz.underlying29 (by omega) fun a hE=>Zd hE rfl fun a hE=>Jt (m:=l.length) hE hM Za ld rfl rfl rfl Tryz.underlying29 Z3 (by omega) (by omega) fun a hE=>HA hE hM Za (by rw [hl2]; rfl) Tryz.underlying29 Z3 rfl rfl (by omega) fun q w a hM hE=>Ze (Zb (Zd hE rfl fun a hE=>Zc hE rfl fun a hE=>Ze ?_)))
  exact wp_ret (ZP hE rfl (ZR hE rfl) ⟨_,rfl,M.delCut hM hij hj (by simp; omega)⟩)
theorem V1 (St : Nat → Prop) (W w0 : World) (its : List Item) (p0 : List (Vector UInt8 32)) (v0_1 : Value) (p1 : Int) (p2 : Int) (hM : M St W w0 (osl NoB p0 v0_1 :: its)) (r : List (Vector UInt8 32)) (hF : Yx p0 p1 p2 = some r) :
  Calls Tryz.prog 51 [v0_1,vI p1,vI p2].toArray w0 (fun en w'=>∃ v,en = .returned v ∧ (∃ (y1 : Value),v = y1 ∧ M St W w' (osl NoB r y1 :: its))) :=
 Bc (α:=(Vector UInt8 32)) (fun hM h1 h2=>V3 _ _ _ _ _ _ _ _ hM h1 h2) hM hF
def Wf (p0 : List Int) (p1 : Int) (p2 : Int) : Option (List Int):=zR p0 p1 p2
theorem TM (St : Nat → Prop) (W w0 : World) (its : List Item) (l : List (Opq 1)) (v : Value) (i j : Nat) (hM : M St W w0 (osl NoB l v :: its)) (hij : i ≤ j) (hj : j ≤ l.length) :
  Calls Tryz.prog 52 [v,vI (i : Int),vI (j : Int)].toArray w0 (fun en w'=>∃ y,en = .returned y ∧ M St W w' (osl NoB (l.take i ++ l.drop j) y :: its)):=by
 refine ce Tryz.func52 ?_
 intro a hE
 refine Zb (Zc hE rfl fun a hE=>Ze (Zb (Zd hE rfl fun a hE=>Zd hE rfl fun a hE=>Zd hE rfl fun a hE=>Zd hE rfl fun a hE=>Z7 hE rfl Tryz.underlying24 (hM.sl (pre:=[]) noB) fun a hE=>HC hE Za ld rfl rfl rfl rfl Tryz.underlying24 ty2 (hM.sl (pre:=[]) noB) hij hj fun u a hE=>Ze (wp_seq (Zb (Zd hE rfl fun a hE=>Zd hE rfl fun a hE=>Zg hE rfl rfl rfl fun a hE=>Ze ?_))))))
 refine Zo hE rfl ?_ ?_
 ·intro hb
  have hb:=eqI hb
  subst hb
  refine Zb (Zd hE rfl fun a hE=>Zc hE rfl fun a hE=>Ze ?_)
  refine wp_ret (Zx (ZP hE rfl (ZR hE rfl) ⟨_,rfl,?_⟩))
  rw [List.take_append_drop]
  exact hM
 ·intro hb
  have hb:=neI hb
  have hlt : i < j:=by omega
  refine wp_skip (Zp (Zb (Zd hE rfl fun a hE=>Z7 hE rfl Tryz.underlying24 (hM.sl (pre:=[]) noB) fun a hE=>Zc hE rfl fun a hE=>Ze (wp_seq ?_))))
  have h1 : slc l 0 (i : Int) = some (l.take i):=by unfold slc; rw [if_pos (by omega)]; simp
  have h2 : slc l (j : Int) (l.length : Int) = some (l.drop j):=by unfold slc; rw [if_pos (by omega)]; simp
  refine ZV [20,21,22,23,24,25] Yq rfl rfl (by decide) rfl hE hM (qsP (fun z=>Zi z.E Za ld rfl (kr0 rfl)) (qsP (fun z=>Zi z.E Za ld rfl (kr0 rfl)) (qsP (fun z=>Vz (lo:=none) (vhi:=some (vI (i : Int))) (i:=0) (j:=(i : Int)) z.E Za ld rfl rfl rfl rfl rfl Tryz.underlying24 ty2 (z.M.sl (pre:=[]) noB) h1 (kr0 rfl)) (qsP (fun z=>Zi z.E Za ld rfl (kr0 rfl)) (qsP (fun z=>Zi z.E Za ld rfl (kr0 rfl)) (qsP (fun z=>Vz (hi:=none) (vlo:=some (vI (j : Int))) (i:=(j : Int)) (j:=(l.length : Int)) z.E Za ld rfl rfl rfl rfl rfl Tryz.underlying24 ty2 (z.M.sl (pre:=[]) noB) h2 (kr0 rfl)) qs0)))))) ?_
  intro a w u hE hM
  refine HB (i:=i) (j:=j) hE hM Za ld rfl rfl Tryz.underlying24 ty2 hlt hj fun w a hM hE=>Zc hE rfl fun a hE=>Zf (Zp ?_)
  have hl2 : (l.take i ++ (l.drop j ++ l.drop (l.length - (j - i)))).length = l.length:=by simp; omega
  refine Zb (Zd hE rfl fun a hE=>Zd hE rfl fun a hE=>HE hE hM Za ld rfl Tryz.underlying24 (by omega) fun a hE=>Zd hE rfl fun a hE=>Jt (m:=l.length) hE hM Za ld rfl rfl rfl Tryz.underlying24 ty2 (by omega) (by omega) fun a hE=>HA hE hM Za (by rw [hl2]; rfl) Tryz.underlying24 ty2 rfl rfl (by omega) fun q w a hM hE=>Ze (Zb (Zd hE rfl fun a hE=>Zc hE rfl fun a hE=>Ze ?_)))
  exact wp_ret (ZP hE rfl (ZR hE rfl) ⟨_,rfl,M.delCut hM hij hj (by simp; omega)⟩)
theorem TJ (St : Nat → Prop) (W w0 : World) (its : List Item) (p0 : List Int) (v0_1 : Value) (p1 : Int) (p2 : Int) (hM : M St W w0 (osl NoB p0 v0_1 :: its)) (r : List Int) (hF : Wf p0 p1 p2 = some r) :
  Calls Tryz.prog 52 [v0_1,vI p1,vI p2].toArray w0 (fun en w'=>∃ v,en = .returned v ∧ (∃ (y1 : Value),v = y1 ∧ M St W w' (osl NoB r y1 :: its))) :=
 Bc (α:=Int) (fun hM h1 h2=>TM _ _ _ _ _ _ _ _ hM h1 h2) hM hF
def WM (p0 : List (List UInt8)) (p1 : Int) (p2 : Int) : Option (List (List UInt8)):=zR p0 p1 p2
theorem T1 (St : Nat → Prop) (W w0 : World) (its : List Item) (l : List (Opq 1)) (v : Value) (i j : Nat) (hM : M St W w0 (osl NoB l v :: its)) (hij : i ≤ j) (hj : j ≤ l.length) :
  Calls Tryz.prog 53 [v,vI (i : Int),vI (j : Int)].toArray w0 (fun en w'=>∃ y,en = .returned y ∧ M St W w' (osl NoB (l.take i ++ l.drop j) y :: its)):=by
 refine ce Tryz.func53 ?_
 intro a hE
 refine Zb (Zc hE rfl fun a hE=>Ze (Zb (Zd hE rfl fun a hE=>Zd hE rfl fun a hE=>Zd hE rfl fun a hE=>Zd hE rfl fun a hE=>Z7 hE rfl Tryz.underlying23 (hM.sl (pre:=[]) noB) fun a hE=>HC hE Za ld rfl rfl rfl rfl Tryz.underlying23 XQ (hM.sl (pre:=[]) noB) hij hj fun u a hE=>Ze (wp_seq (Zb (Zd hE rfl fun a hE=>Zd hE rfl fun a hE=>Zg hE rfl rfl rfl fun a hE=>Ze ?_))))))
 refine Zo hE rfl ?_ ?_
 ·intro hb
  have hb:=eqI hb
  subst hb
  refine Zb (Zd hE rfl fun a hE=>Zc hE rfl fun a hE=>Ze ?_)
  refine wp_ret (Zx (ZP hE rfl (ZR hE rfl) ⟨_,rfl,?_⟩))
  rw [List.take_append_drop]
  exact hM
 ·intro hb
  have hb:=neI hb
  have hlt : i < j:=by omega
  refine wp_skip (Zp (Zb (Zd hE rfl fun a hE=>Z7 hE rfl Tryz.underlying23 (hM.sl (pre:=[]) noB) fun a hE=>Zc hE rfl fun a hE=>Ze (wp_seq ?_))))
  have h1 : slc l 0 (i : Int) = some (l.take i):=by unfold slc; rw [if_pos (by omega)]; simp
  have h2 : slc l (j : Int) (l.length : Int) = some (l.drop j):=by unfold slc; rw [if_pos (by omega)]; simp
  refine ZV [20,21,22,23,24,25] Yq rfl rfl (by decide) rfl hE hM (qsP (fun z=>Zi z.E Za ld rfl (kr0 rfl)) (qsP (fun z=>Zi z.E Za ld rfl (kr0 rfl)) (qsP (fun z=>Vz (lo:=none) (vhi:=some (vI (i : Int))) (i:=0) (j:=(i : Int)) z.E Za ld rfl rfl rfl rfl rfl Tryz.underlying23 XQ (z.M.sl (pre:=[]) noB) h1 (kr0 rfl)) (qsP (fun z=>Zi z.E Za ld rfl (kr0 rfl)) (qsP (fun z=>Zi z.E Za ld rfl (kr0 rfl)) (qsP (fun z=>Vz (hi:=none) (vlo:=some (vI (j : Int))) (i:=(j : Int)) (j:=(l.length : Int)) z.E Za ld rfl rfl rfl rfl rfl Tryz.underlying23 XQ (z.M.sl (pre:=[]) noB) h2 (kr0 rfl)) qs0)))))) ?_
  intro a w u hE hM
  refine HB (i:=i) (j:=j) hE hM Za ld rfl rfl Tryz.underlying23 XQ hlt hj fun w a hM hE=>Zc hE rfl fun a hE=>Zf (Zp ?_)
  have hl2 : (l.take i ++ (l.drop j ++ l.drop (l.length - (j - i)))).length = l.length:=by simp; omega
  refine Zb (Zd hE rfl fun a hE=>Zd hE rfl fun a hE=>HE hE hM Za ld rfl Tryz.underlying23 (by omega) fun a hE=>Zd hE rfl fun a hE=>Jt (m:=l.length) hE hM Za ld rfl rfl rfl Tryz.underlying23 XQ (by omega) (by omega) fun a hE=>HA hE hM Za (by rw [hl2]; rfl) Tryz.underlying23 XQ rfl rfl (by omega) fun q w a hM hE=>Ze (Zb (Zd hE rfl fun a hE=>Zc hE rfl fun a hE=>Ze ?_)))
  exact wp_ret (ZP hE rfl (ZR hE rfl) ⟨_,rfl,M.delCut hM hij hj (by simp; omega)⟩)
theorem T2 (St : Nat → Prop) (W w0 : World) (its : List Item) (p0 : List (List UInt8)) (v0_1 : Value) (p1 : Int) (p2 : Int) (hM : M St W w0 (osl NoB p0 v0_1 :: its)) (r : List (List UInt8)) (hF : WM p0 p1 p2 = some r) :
  Calls Tryz.prog 53 [v0_1,vI p1,vI p2].toArray w0 (fun en w'=>∃ v,en = .returned v ∧ (∃ (y1 : Value),v = y1 ∧ M St W w' (osl NoB r y1 :: its))) :=
 Bc (α:=(List UInt8)) (fun hM h1 h2=>T1 _ _ _ _ _ _ _ _ hM h1 h2) hM hF
def WP (p0 : GBlobs) (p1 : (Vector UInt8 32)) : Option (GBlobs × Int) :=
 (VZ p0 p1).bind fun r7=>if (r7.2 != 0) = true then (some ((⟨[],[],[]⟩ : GBlobs),r7.2)) else ((WH p0).bind fun r14=>(idx r14.Counts r7.1).bind fun x21=>(idx r14.Counts r7.1).bind fun x24=>((idx (r14.Counts.set (r7.1).toNat (wr (x21 - 1))) r7.1).bind fun x36=>if (x36 == 0) = true then (((Yx r14.Keys r7.1 (wr (r7.1 + 1))).bind fun r50=>(Wf (r14.Counts.set (r7.1).toNat (wr (x21 - 1))) r7.1 (wr (r7.1 + 1))).bind fun r53=>some (r50,r53) : Option ((List (Vector UInt8 32)) × (List Int))).bind fun j40=>(WM r14.Data r7.1 (wr (r7.1 + 1))).bind fun r57=>some (j40.1,r57,j40.2)) else (some (r14.Keys,r14.Data,(r14.Counts.set (r7.1).toNat (wr (x21 - 1))))) : Option ((List (Vector UInt8 32)) × (List (List UInt8)) × (List Int))).bind fun j27=>some ((⟨j27.1,j27.2.1,j27.2.2⟩ : GBlobs),0))
theorem QD (w0 : World) (p0 : GBlobs) (v0_1 : Value) (hv0_1 : Ro w0 p0.Keys [v0_1]) (v0_2 : Value) (hv0_2 : Ro w0 p0.Data [v0_2]) (v0_3 : Value) (hv0_3 : Ro w0 p0.Counts [v0_3]) (p1 : (Vector UInt8 32)) (r : GBlobs × Int) (hF : WP p0 p1 = some r) :
  Calls Tryz.prog 13 [(Value.agg (cat [[v0_1],[v0_2],[v0_3]]).toArray),(Value.agg (enc p1).toArray)].toArray w0 (fun en w'=>∃ v,en = .returned v ∧ (∃ (y1 : Value) (y2 : Value) (y3 : Value),v = (Value.tuple [(Value.agg (cat [[y1],[y2],[y3]]).toArray),vI r.2].toArray) ∧ Fr w0 w' [osl NoB (r.1.Keys : List (Vector UInt8 32)) y1,osl NoB (r.1.Data : List (List UInt8)) y2,osl NoB (r.1.Counts : List Int) y3] ∧ Kept (Old w0) w0 w')):=by
 refine ce Tryz.func13 ?_
 intro a hE
 have hM:=M.start w0
 unfold WP at hF
 refine Zb (ZZ (cs:=cat [[v0_1],[v0_2],[v0_3]]) hE hM Za ld rfl rfl fun b1 w a hM hE=>ZZ (cs:=enc p1) hE hM Za ld rfl rfl fun b3 w a hM hE=>ZC hE hM Yy fun b5 w a hM hE=>Zc hE rfl fun a hE=>Ze (Zb (Zq hE rfl Yy rfl hM.rawAt2 cq fun a hE=>Zq hE rfl Z3 rfl hM.rawAt1 (Flat.len _) ?_))); intro a hE
 obtain ⟨r7,e8,hF⟩:=bind_some hF
 refine Zy hE rfl (cbm Tryz.func49) (K4 _ p0 v0_1 (hM.rdo hv0_1) v0_2 (hM.rdo hv0_2) v0_3 (hM.rdo hv0_3) p1 r7 e8) ?_
 rintro v w a ⟨rfl,hK⟩ hE
 have hM:=hM.keep hK
 refine Zd hE rfl fun a hE=>XS hE Za ld rfl rfl fun a hE=>XS hE Za ld rfl rfl fun a hE=>Zc hE rfl fun a hE=>Zc hE rfl fun a hE=>Ze (wp_seq (Zb (Zd hE rfl fun a hE=>Zg hE rfl rfl rfl fun a hE=>Ze ?_)))
 refine Zo hE rfl ?_ ?_
 ·intro hb9
  have hF:=Zs hF hb9
  refine Zb (VB (parts:=[]) (vs:=[]) (cs:=cat [[(Value.slice none 0 0)],[(Value.slice none 0 0)],[(Value.slice none 0 0)]]) hE Za ld rfl rfl Yy pl31 U6 fun a hE=>Zd hE rfl fun a hE=>Zn (seg:=cat [[(Value.slice none 0 0)],[(Value.slice none 0 0)],[(Value.slice none 0 0)]]) (cs':=cat [[(Value.slice none 0 0)],[(Value.slice none 0 0)],[(Value.slice none 0 0)]]) hE hM Za rfl rfl rfl Yy cq (Nat.le_of_eq ((Nat.zero_add _).trans (Eq.trans cq (Eq.symm cq)))) (YC (cc1 Ta (cc1 Ta (cc1 Ta cc0)))) (Zk (Eq.trans cq (Eq.symm cq))) fun w a hM hE=>Zc hE rfl fun a hE=>Ze ?_)
  have hM:=M.nilS (α:=Int) NoB noB (M.nilS (α:=(List UInt8)) NoB noB (M.nilS (α:=(Vector UInt8 32)) NoB noB hM))
  obtain rfl:=Option.some.inj hF
  have hq13 : Yz Tryz.prog _ _ (.cell 4 31) _:=ZS hE rfl Yy rfl hM.rawAt3 cq rfl
  have hM:=M.fst (l:=[_,_,_]) hM.pull1.pull2
  exact wp_ret (Zx (To hE rfl hq13 (ZR hE rfl) ⟨_,rfl,(Value.slice none 0 0),(Value.slice none 0 0),(Value.slice none 0 0),rfl,hM.outF (Yu (Yu (Yu XD))),hM.kept⟩))
 ·intro hb9
  have hF:=Zt hF hb9
  refine wp_skip (Zp (Zb (Zq hE rfl Yy rfl hM.rawAt2 cq ?_))); intro a hE
  obtain ⟨r14,e15,hF⟩:=bind_some hF
  refine Zy hE rfl (cbm Tryz.func50) (Kw _ p0 v0_1 (hM.rdo hv0_1) v0_2 (hM.rdo hv0_2) v0_3 (hM.rdo hv0_3) r14 e15) ?_
  rintro v w a ⟨u16,u17,u18,rfl,hFr,hK⟩ hE
  have hM:=hM.add hK hFr
  refine ZC hE hM Yy fun b19 w a hM hE=>Zn (seg:=cat [[u16],[u17],[u18]]) (cs':=cat [[u16],[u17],[u18]]) hE hM Za rfl rfl rfl Yy cq (Nat.le_of_eq ((Nat.zero_add _).trans (Eq.trans cq (Eq.symm cq)))) (YC (cc1 (Rep.cell (hM.sl (pre:=[_]) noB)) (cc1 (Rep.cell (hM.sl (pre:=[_,_]) noB)) (cc1 (Rep.cell (hM.sl (pre:=[_,_,_]) noB)) cc0)))) (Zk (Eq.trans cq (Eq.symm cq))) fun w a hM hE=>Ze (Zb (Zw hE rfl (X2) fun a hE=>ZA (v:=u18) hE rfl U3 rfl (At.cat (pre:=[[u16],[u17]]) hM.rawAt0 ck) fun a hE=>Zd hE rfl ?_)); intro a hE
  obtain ⟨x21,hi23,hF⟩:=bix hF
  refine Z9 hE rfl rfl Tryz.underlying24 ty2 (hM.sl (pre:=[_,_,_]) noB) hi23.1 fun a hE=>ZA (v:=(vI x21)) hE rfl ty2 rfl (Yl (hM.sl (pre:=[_,_,_]) noB) hi23.2) fun a hE=>Zg hE rfl rfl rfl ?_; intro a hE
  obtain ⟨x24,hi26,hF⟩:=bix hF
  refine Z9 hE rfl rfl Tryz.underlying24 ty2 (hM.sl (pre:=[_,_,_]) noB) hi26.1 ?_; intro a hE
  have hM:=hM.pull3
  refine Tv (i:=(r7.1).toNat) (k0:=0) (seg:=[(vI (wr (x21 - 1)))]) (xo:=x24) (xn:=wr (x21 - 1)) hE hM Za rfl rfl rfl ty2 rfl (Flat.cell (wr (x21 - 1) : Int)) hi26.2 (Qn (m:=1) rfl (by decide)) (Zk rfl) fun w a hM hE=>Ze ?_
  obtain ⟨j27,hl28,hF29⟩:=bind_some hF
  refine ZK (fun a w=>∃ (u30 : Value) (u32 : Value) (u34 : Value),Env 56 a [(4,(ptr b5 0)),(8,(ptr b19 0))] ∧ M (Old w0) w0 w [raw b19 (cat [[u30],[u32],[u34]]),raw b5 (cat [[(Value.slice none 0 0)],[(Value.slice none 0 0)],[(Value.slice none 0 0)]]),osl NoB (j27.1 : List (Vector UInt8 32)) u30,osl NoB (j27.2.1 : List (List UInt8)) u32,osl NoB (j27.2.2 : List Int) u34]) ?_ ?_
  ·skip
   refine Zb (Zw hE rfl (X2) fun a hE=>ZA (v:=u18) hE rfl U3 rfl (At.cat (pre:=[[u16],[u17]]) hM.rawAt1 ck) fun a hE=>Zd hE rfl ?_); intro a hE
   obtain ⟨x36,hi38,hl28⟩:=bix hl28
   refine Z9 hE rfl rfl Tryz.underlying24 ty2 (hM.sl (pre:=[]) noB) hi38.1 fun a hE=>ZA (v:=(vI x36)) hE rfl ty2 rfl (Yl (hM.sl (pre:=[]) noB) hi38.2) fun a hE=>Zg hE rfl rfl rfl fun a hE=>Ze ?_
   refine Zo hE rfl ?_ ?_
   ·intro hb39
    have hl28:=Zs hl28 hb39
    obtain ⟨j40,hl41,hF42⟩:=bind_some hl28
    refine ZK (fun a w=>∃ (u43 : Value) (u45 : Value),Env 56 a [(4,(ptr b5 0)),(6,vI r7.1),(8,(ptr b19 0))] ∧ M (Old w0) w0 w [raw b19 (cat [[u43],[u17],[u45]]),osl NoB (r14.Data : List (List UInt8)) u17,raw b5 (cat [[(Value.slice none 0 0)],[(Value.slice none 0 0)],[(Value.slice none 0 0)]]),osl NoB (j40.1 : List (Vector UInt8 32)) u43,osl NoB (j40.2 : List Int) u45]) ?_ ?_
    ·skip
     have hM:=hM.pull2
     have hM:=(hM.packL (m:=[_]) (it:=AN NoB [_]) (zX.mono noB) (fun fp h=>XA.reloc h (Yu XD))).pull1
     have hM:=hM.packL (m:=[_]) (it:=AN NoB [_]) (zX.mono noB) (fun fp h=>XA.reloc h (Yu XD))
     obtain ⟨r50,e51,hl41⟩:=bind_some hl41
     obtain ⟨r53,e54,hl41⟩:=bind_some hl41
     refine Yv (its:=[raw b19 (cat [[u16],[u17],[u18]]),osl NoB (r14.Data : List (List UInt8)) u17,raw b5 (cat [[(Value.slice none 0 0)],[(Value.slice none 0 0)],[(Value.slice none 0 0)]]),raw b3 (enc p1),raw b1 (cat [[v0_1],[v0_2],[v0_3]])]) (mk:=([mkU 5 (AN NoB [osl NoB (r14.Keys : List (Vector UInt8 32)) u16]) (fun v=>osl NoB (r50 : List (Vector UInt8 32)) v),mkU 11 (AN NoB [osl NoB ((r14.Counts.set (r7.1).toNat (wr (x21 - 1))) : List Int) u18]) (fun v=>osl NoB (r53 : List Int) v)] : Mk)) [34,35,36,37,38,39,40,41,42,43,44,45,46] Yq rfl rfl (by decide) rfl hE (fun u=>M.qS (M.qS (M.q0 hM.drew u) fun _=>rfl) fun _=>rfl) (qsP (fun z=>Zr z.E Za ld rfl (X1) (kr0 rfl)) (qsP (v:=u16) ?_ (qsP (fun z=>Zi z.E Za ld rfl (kr0 rfl)) (qsP (fun z=>Zi z.E Za ld rfl (kr0 rfl)) (qsP (v:=(vI (wr (r7.1 + 1)))) (fun z=>Yd z.E Za ld rfl rfl rfl (kr0 rfl)) (qsM (pr:=fun v=>True) ?_ (qsP (fun z=>Zr z.E Za ld rfl (X2) (kr0 rfl)) (qsP (v:=u18) ?_ (qsP (fun z=>Zi z.E Za ld rfl (kr0 rfl)) (qsP (fun z=>Zi z.E Za ld rfl (kr0 rfl)) (qsP (v:=(vI (wr (r7.1 + 1)))) (fun z=>Yd z.E Za ld rfl rfl rfl (kr0 rfl)) (qsM (pr:=fun v=>True) ?_ (qsP (fun z=>Zr z.E Za ld rfl (X1) (kr0 rfl)) qs0))))))))))))) ?_
     ·intro a w ux47 D z
      have hE:=z.E
      have hM:=z.M
      exact ZA (v:=u16) hE rfl Tu rfl (At.cat (pre:=[]) hM.rawAt0 cl0) fun a hE=>⟨Kept.refl _ _,_,rfl,hE⟩
     ·intro a w ux47 D z
      have hE:=z.E
      have hD : D 5 = false:=z.F
      have hM:=(z.M.togA (pre:=[_,_,_,_,_]) hD).pull
      have hM:=hM.unpackL (m:=[_]) (fun fp h=>XA.mono h (fun _ h=>h.elim))
      simp only [List.cons_append,List.nil_append] at hM
      refine Zy hE rfl (cbm Tryz.func51) (V1 _ _ _ _ r14.Keys u16 r7.1 (wr (r7.1 + 1)) hM r50 e51) ?_
      rintro u52 w a ⟨_,rfl,hM⟩ hE
      exact ⟨_,_,rfl,hE,M.qTogS (p:=mkU 5 (AN NoB [osl NoB (r14.Keys : List (Vector UInt8 32)) u16]) (fun v=>osl NoB (r50 : List (Vector UInt8 32)) v)) (its:=[raw b19 (cat [[u16],[u17],[u18]]),osl NoB (r14.Data : List (List UInt8)) u17,raw b5 (cat [[(Value.slice none 0 0)],[(Value.slice none 0 0)],[(Value.slice none 0 0)]]),raw b3 (enc p1),raw b1 (cat [[v0_1],[v0_2],[v0_3]])]) (mk1:=([] : Mk)) (mk2:=([mkU 11 (AN NoB [osl NoB ((r14.Counts.set (r7.1).toNat (wr (x21 - 1))) : List Int) u18]) (fun v=>osl NoB (r53 : List Int) v)] : Mk)) hM rfl kG,trivial⟩
     ·intro a w ux47 D z
      have hE:=z.E
      have hM:=z.M
      exact ZA (v:=u18) hE rfl U3 rfl (At.cat (pre:=[[u16],[u17]]) hM.rawAt0 ck) fun a hE=>⟨Kept.refl _ _,_,rfl,hE⟩
     ·intro a w ux47 D z
      have hE:=z.E
      have hD : D 11 = false:=z.F
      have hM:=(z.M.togA (pre:=[_,_,_,_,_,_]) hD).pull
      have hM:=hM.unpackL (m:=[_]) (fun fp h=>XA.mono h (fun _ h=>h.elim))
      simp only [List.cons_append,List.nil_append] at hM
      refine Zy hE rfl (cbm Tryz.func52) (TJ _ _ _ _ (r14.Counts.set (r7.1).toNat (wr (x21 - 1))) u18 r7.1 (wr (r7.1 + 1)) hM r53 e54) ?_
      rintro u55 w a ⟨_,rfl,hM⟩ hE
      exact ⟨_,_,rfl,hE,M.qTogS (p:=mkU 11 (AN NoB [osl NoB ((r14.Counts.set (r7.1).toNat (wr (x21 - 1))) : List Int) u18]) (fun v=>osl NoB (r53 : List Int) v)) (its:=[raw b19 (cat [[u16],[u17],[u18]]),osl NoB (r14.Data : List (List UInt8)) u17,raw b5 (cat [[(Value.slice none 0 0)],[(Value.slice none 0 0)],[(Value.slice none 0 0)]]),raw b3 (enc p1),raw b1 (cat [[v0_1],[v0_2],[v0_3]])]) (mk1:=([mkU 5 (AN NoB [osl NoB (r14.Keys : List (Vector UInt8 32)) u16]) (fun v=>osl NoB (r50 : List (Vector UInt8 32)) v)] : Mk)) (mk2:=([] : Mk)) hM rfl kG,trivial⟩
     ·intro a w ux47 D hE hM hG hall
      have d5:=hall 5 (by decide)
      have d11:=hall 11 (by decide)
      have hM:=(hM.togB (pre:=[_,_,_,_,_]) d5).togB (pre:=[_,_,_,_,_,_]) d11
      refine Zn (seg:=[(ux47 5)]) hE hM Za rfl rfl (YS (hM.sl (pre:=[_,_,_,_,_]) noB)) Tu rfl (Ux (pre:=[]) cl0 rfl) (Rep.cell (hM.sl (pre:=[_,_,_,_,_]) noB)) (Xy (pre:=[]) cl0 rfl) fun w a hM hE=>Zw hE rfl (X2) fun a hE=>Zn (seg:=[(ux47 11)]) hE hM Za rfl rfl (YS (hM.sl (pre:=[_,_,_,_,_,_]) noB)) U3 rfl (Ux (pre:=[[(ux47 5)],[u17]]) ck rfl) (Rep.cell (hM.sl (pre:=[_,_,_,_,_,_]) noB)) (Xy (pre:=[[(ux47 5)],[u17]]) ck rfl) fun w a hM hE=>Zf ?_
      obtain rfl:=Option.some.inj hl41
      refine Zh ?_
      have hM:=M.fst (l:=[_,_,_,_,_]) hM.pull6.pull6.pull4.pull4.pull4
      exact ⟨(ux47 5),(ux47 11),hE.sub ⟨rfl,rfl,rfl,trivial⟩,hM⟩
    ·skip
     rintro a w ⟨u43,u45,hE,hM⟩
     refine wp_region_lit (Zw hE rfl (X5) fun a hE=>ZA (v:=u17) hE rfl Tg rfl (At.cat (pre:=[[u43]]) hM.rawAt0 ck) fun a hE=>Zd hE rfl fun a hE=>Zd hE rfl fun a hE=>Zg hE rfl rfl rfl ?_); intro a hE
     have hM:=hM.pull1
     have hM0:=hM
     obtain ⟨r57,e58,hF42⟩:=bind_some hF42
     refine Zy hE rfl (cbm Tryz.func53) (T2 _ _ _ _ r14.Data u17 r7.1 (wr (r7.1 + 1)) hM r57 e58) ?_
     rintro u59 w a ⟨_,rfl,hM⟩ hE
     refine Zw hE rfl (X5) ?_; intro a hE
     have hM:=hM.pull1
     refine Zn (seg:=[u59]) hE hM Za rfl rfl (YS (hM.sl (pre:=[_]) noB)) Tg rfl (Ux (pre:=[[u43]]) ck rfl) (Rep.cell (hM.sl (pre:=[_]) noB)) (Xy (pre:=[[u43]]) ck rfl) fun w a hM hE=>Zf ?_
     obtain rfl:=Option.some.inj hF42
     refine Zh ?_
     have hM:=hM.pull4.pull2.pull4.pull4.pull4
     exact ⟨u43,u59,u45,hE.sub ⟨rfl,rfl,trivial⟩,hM⟩
   ·intro hb39
    have hl28:=Zt hl28 hb39
    refine wp_skip ?_
    obtain rfl:=Option.some.inj hl28
    refine Zh ?_
    have hM:=M.fst (l:=[_,_,_,_,_]) hM.pull3.pull3.pull4.pull4
    exact ⟨u16,u17,u18,hE.sub ⟨rfl,rfl,trivial⟩,hM⟩
  ·skip
   rintro a w ⟨u30,u32,u34,hE,hM⟩
   refine Zb (Zq hE rfl Yy rfl hM.rawAt0 cq ?_); intro a hE
   have hM:=hM.pull1
   refine Zn (seg:=cat [[u30],[u32],[u34]]) (cs':=cat [[u30],[u32],[u34]]) hE hM Za rfl rfl rfl Yy cq (Nat.le_of_eq ((Nat.zero_add _).trans (Eq.trans cq (Eq.symm cq)))) (YC (cc1 (Rep.cell (hM.sl (pre:=[_,_]) noB)) (cc1 (Rep.cell (hM.sl (pre:=[_,_,_]) noB)) (cc1 (Rep.cell (hM.sl (pre:=[_,_,_,_]) noB)) cc0)))) (Zk (Eq.trans cq (Eq.symm cq))) fun w a hM hE=>Zc hE rfl fun a hE=>Ze ?_
   obtain rfl:=Option.some.inj hF29
   have hq62 : Yz Tryz.prog _ _ (.cell 4 31) _:=ZS hE rfl Yy rfl hM.rawAt0 cq rfl
   have hM:=M.fst (l:=[_,_,_]) hM.pull4.pull4.pull4
   exact wp_ret (To hE rfl hq62 (ZR hE rfl) ⟨_,rfl,u30,u32,u34,rfl,hM.outF (Yu (Yu (Yu XD))),hM.kept⟩)
def Ur (p0 : (Vector UInt8 32)) (p1 : (Vector UInt8 32)) (s9 : Int) : Option (Fl Int (Fl Unit Bool)) :=
 if (decide (s9 < 32)) = true then (((ZI p0 s9).bind fun x19=>(ZI p1 s9).bind fun x22=>some (x19 != x22) : Option (Bool)).bind fun j14=>if j14 = true then (some (Fl.ex (Fl.ex false))) else (some (Fl.nx (wr (s9 + 1))))) else (some (Fl.ex (Fl.nx ())))
def WU (p0 : (Vector UInt8 32)) (p1 : (Vector UInt8 32)) : Option (Bool) :=
 (Zz (Ur p0 p1) 0).bind fun j5=>j5.el (fun s8=>some true) (fun r=>some r)
theorem Hi (w0 : World) (p0 : (Vector UInt8 32)) (p1 : (Vector UInt8 32)) (r : Bool) (hF : WU p0 p1 = some r) :
  Calls Tryz.prog 20 [(Value.agg (enc p0).toArray),(Value.agg (enc p1).toArray)].toArray w0 (Rt w0 (vT r)):=by
 refine ce Tryz.func20 ?_
 intro a hE
 have hM:=M.start w0
 unfold WU at hF
 refine Zb (ZZ (cs:=enc p0) hE hM Za ld rfl rfl fun b1 w a hM hE=>ZZ (cs:=enc p1) hE hM Za ld rfl rfl fun b3 w a hM hE=>Zc hE rfl fun a hE=>Ze (wp_seq (Zb (Zc hE rfl fun a hE=>Ze ?_))))
 obtain ⟨j5,hl6,hF7⟩:=bind_some hF
 refine ZM (fun a w=>∃ s8 : Unit,j5 = Fl.nx s8 ∧ Env 17 a [] ∧ M (Old w0) w0 w []) ?_ ?_
 ·skip
  refine wp_block ?_
  refine ZE (fun (s9 : Int) a w=>Env 17 a [(2,(ptr b1 0)),(3,(ptr b3 0)),(5,vI s9)] ∧ M (Old w0) w0 w [raw b3 (enc p1),raw b1 (enc p0)]) hl6 ⟨hE.sub ⟨rfl,rfl,rfl,trivial⟩,hM⟩ ?_
  rintro s9 a w ⟨hE,hM⟩ o12 hs10 hx11
  unfold Ur at hs10
  refine wp_seq (Zb (Zd hE rfl fun a hE=>Zg hE rfl rfl rfl fun a hE=>Ze ?_))
  refine Zo hE rfl ?_ ?_
  ·intro hb13
   have hs10:=Zs hs10 hb13
   refine wp_skip (Zp (wp_seq (wp_block ?_)))
   obtain ⟨j14,hl15,hF16⟩:=bind_some hs10
   refine ZK (fun a w=>Env 17 a [(2,(ptr b1 0)),(3,(ptr b3 0)),(5,vI s9),(16,vT j14)] ∧ M (Old w0) w0 w [raw b3 (enc p1),raw b1 (enc p0)]) ?_ ?_
   ·skip
    obtain ⟨x19,hi18,hl15⟩:=bvx hl15
    obtain ⟨x22,hi21,hl15⟩:=bvx hl15
    refine ZV [10,11,12,13,14,15,16] Yq rfl rfl (by decide) rfl hE hM (qsP (fun z=>Zi z.E Za ld rfl (kr0 rfl)) (qsP (fun z=>ZB z.E Za ld rfl rfl Tryz.underlying35 ty5 hi18.1 (kr0 rfl)) (qsP (fun z=>ZL (v:=(vB x19)) z.E Za ld rfl ty5 rfl (At.vec (z.M.rawAt1) hi18.2) (kr0 rfl)) (qsP (fun z=>Zi z.E Za ld rfl (kr0 rfl)) (qsP (fun z=>ZB z.E Za ld rfl rfl Tryz.underlying35 ty5 hi21.1 (kr0 rfl)) (qsP (fun z=>ZL (v:=(vB x22)) z.E Za ld rfl ty5 rfl (At.vec (z.M.rawAt0) hi21.2) (kr0 rfl)) (qsP (fun z=>Yd z.E Za ld rfl rfl (Jh x19 x22) (kr0 rfl)) qs0))))))) ?_
    ·intro a w u hE hM
     refine Zf ?_
     obtain rfl:=Option.some.inj hl15
     refine Zh ?_
     exact ⟨hE.sub ⟨rfl,rfl,rfl,rfl,trivial⟩,hM⟩
   ·skip
    rintro a w ⟨hE,hM⟩
    refine Zo hE rfl ?_ ?_
    ·intro hb25
     have hF16:=Zs hF16 hb25
     refine Zb (Zc hE rfl fun a hE=>Ze ?_)
     obtain rfl:=hx11 _ (ois hF16)
     obtain rfl:=Option.some.inj hF7
     exact wp_ret (XW (Zx (Zx (XW (Zx (Zx (kr1 hE rfl rfl hM.kept)))))))
    ·intro hb25
     have hF16:=Zt hF16 hb25
     refine wp_skip (Yc (Zp (wp_region_lit (Zd hE rfl fun a hE=>Zg hE rfl rfl rfl fun a hE=>Zc hE rfl fun a hE=>Zf (Zh ?_)))))
     exact ⟨_,(ois hF16),hE.sub ⟨rfl,rfl,rfl,trivial⟩,hM⟩
  ·intro hb13
   have hs10:=Zt hs10 hb13
   refine wp_exit (Zm (Zm (Yb ?_)))
   obtain rfl:=hx11 _ (ois hs10)
   refine Zh ?_
   have hM:=M.fst (l:=[]) hM
   exact ⟨(),rfl,hE.sub trivial,hM⟩
 ·skip
  rintro a w ⟨s8,ht,hE,hM⟩
  subst ht
  have hF7:=Tw hF7
  refine Zp (Zb (Zc hE rfl fun a hE=>Ze ?_))
  obtain rfl:=Option.some.inj hF7
  exact wp_ret (kr1 hE rfl rfl hM.kept)
def VY (p0 : (List (Vector UInt8 32))) (p1 : (List (Vector UInt8 32))) (s6 : Int) : Option (Fl Int (Fl Unit Bool)) :=
 if (decide (s6 < (p0.length : Int))) = true then (((idx p0 s6).bind fun x15=>(idx p1 s6).bind fun x18=>(WU x15 x18).bind fun r21=>some (!r21) : Option (Bool)).bind fun j11=>if j11 = true then (some (Fl.ex (Fl.ex false))) else (some (Fl.nx (wr (s6 + 1))))) else (some (Fl.ex (Fl.nx ())))
def Vn (p0 : (List (Vector UInt8 32))) (p1 : (List (Vector UInt8 32))) : Option (Bool) :=
 if ((p0.length : Int) != (p1.length : Int)) = true then (some false) else ((Zz (VY p0 p1) 0).bind fun j2=>j2.el (fun s5=>some true) (fun r=>some r))
theorem Jw (w0 : World) (p0 : (List (Vector UInt8 32))) (v0_1 : Value) (hv0_1 : Ro w0 p0 [v0_1]) (p1 : (List (Vector UInt8 32))) (v1_1 : Value) (hv1_1 : Ro w0 p1 [v1_1]) (r : Bool) (hF : Vn p0 p1 = some r) :
  Calls Tryz.prog 54 [v0_1,v1_1].toArray w0 (Rt w0 (vT r)):=by
 refine ce Tryz.func54 ?_
 intro a hE
 have hM:=M.start w0
 unfold Vn at hF
 refine Zb (Zc hE rfl fun a hE=>Ze (wp_seq (Zb (Zd hE rfl fun a hE=>Z7 hE rfl Tryz.underlying29 (hM.rd hv0_1) fun a hE=>Zd hE rfl fun a hE=>Z7 hE rfl Tryz.underlying29 (hM.rd hv1_1) fun a hE=>Zg hE rfl rfl rfl fun a hE=>Ze ?_))))
 refine Zo hE rfl ?_ ?_
 ·intro hb1
  have hF:=Zs hF hb1
  refine Zb (Zc hE rfl fun a hE=>Ze ?_)
  obtain rfl:=Option.some.inj hF
  exact wp_ret (Zx (kr1 hE rfl rfl hM.kept))
 ·intro hb1
  have hF:=Zt hF hb1
  refine wp_skip (Zp (wp_seq (Zb (Zc hE rfl fun a hE=>Ze ?_))))
  obtain ⟨j2,hl3,hF4⟩:=bind_some hF
  refine ZM (fun a w=>∃ s5 : Unit,j2 = Fl.nx s5 ∧ Env 27 a [] ∧ M (Old w0) w0 w []) ?_ ?_
  ·skip
   refine wp_block ?_
   refine ZE (fun (s6 : Int) a w=>Env 27 a [(0,v0_1),(1,v1_1),(5,vI s6)] ∧ M (Old w0) w0 w []) hl3 ⟨hE.sub ⟨rfl,rfl,rfl,trivial⟩,hM⟩ ?_
   rintro s6 a w ⟨hE,hM⟩ o9 hs7 hx8
   unfold VY at hs7
   refine wp_seq (Zb (Zd hE rfl fun a hE=>Zd hE rfl fun a hE=>Z7 hE rfl Tryz.underlying29 (hM.rd hv0_1) fun a hE=>Zg hE rfl rfl rfl fun a hE=>Ze ?_))
   refine Zo hE rfl ?_ ?_
   ·intro hb10
    have hs7:=Zs hs7 hb10
    refine wp_skip (Zp (wp_seq (wp_block ?_)))
    obtain ⟨j11,hl12,hF13⟩:=bind_some hs7
    refine ZK (fun a w=>Env 27 a [(0,v0_1),(1,v1_1),(5,vI s6),(26,vT j11)] ∧ M (Old w0) w0 w []) ?_ ?_
    ·skip
     obtain ⟨x15,hi17,hl12⟩:=bix hl12
     obtain ⟨x18,hi20,hl12⟩:=bix hl12
     obtain ⟨r21,e22,hl12⟩:=bind_some hl12
     refine ZV [17,18,19,20,21,22,23,24,25,26] Yq rfl rfl (by decide) rfl hE hM (qsP (fun z=>Zi z.E Za ld rfl (kr0 rfl)) (qsP (fun z=>Zi z.E Za ld rfl (kr0 rfl)) (qsP (fun z=>ZX z.E Za ld rfl rfl Tryz.underlying29 Z3 (z.M.rd hv0_1) hi17.1 (kr0 rfl)) (qsP (fun z=>Z0 z.E Za ld rfl Z3 rfl (Yl (z.M.rd hv0_1) hi17.2) (Flat.len _) (kr0 rfl)) (qsP (fun z=>Zi z.E Za ld rfl (kr0 rfl)) (qsP (fun z=>Zi z.E Za ld rfl (kr0 rfl)) (qsP (fun z=>ZX z.E Za ld rfl rfl Tryz.underlying29 Z3 (z.M.rd hv1_1) hi20.1 (kr0 rfl)) (qsP (fun z=>Z0 z.E Za ld rfl Z3 rfl (Yl (z.M.rd hv1_1) hi20.2) (Flat.len _) (kr0 rfl)) (qsP (fun z=>Yg z.E Za ld rfl (cbm Tryz.func20) (Hi _ x15 x18 r21 e22) (kc rfl)) (qsP (fun z=>QA z.E Za ld rfl (kr0 rfl)) qs0)))))))))) ?_
     ·intro a w u hE hM
      refine Zf ?_
      obtain rfl:=Option.some.inj hl12
      refine Zh ?_
      exact ⟨hE.sub ⟨rfl,rfl,rfl,rfl,trivial⟩,hM⟩
    ·skip
     rintro a w ⟨hE,hM⟩
     refine Zo hE rfl ?_ ?_
     ·intro hb24
      have hF13:=Zs hF13 hb24
      refine Zb (Zc hE rfl fun a hE=>Ze ?_)
      obtain rfl:=hx8 _ (ois hF13)
      obtain rfl:=Option.some.inj hF4
      exact wp_ret (XW (Zx (Zx (XW (Zx (Zx (kr1 hE rfl rfl hM.kept)))))))
     ·intro hb24
      have hF13:=Zt hF13 hb24
      refine wp_skip (Yc (Zp (wp_region_lit (Zd hE rfl fun a hE=>Zg hE rfl rfl rfl fun a hE=>Zc hE rfl fun a hE=>Zf (Zh ?_)))))
      exact ⟨_,(ois hF13),hE.sub ⟨rfl,rfl,rfl,trivial⟩,hM⟩
   ·intro hb10
    have hs7:=Zt hs7 hb10
    refine wp_exit (Zm (Zm (Yb ?_)))
    obtain rfl:=hx8 _ (ois hs7)
    refine Zh ?_
    exact ⟨(),rfl,hE.sub trivial,hM⟩
  ·skip
   rintro a w ⟨s5,ht,hE,hM⟩
   subst ht
   have hF4:=Tw hF4
   refine Zp (Zb (Zc hE rfl fun a hE=>Ze ?_))
   obtain rfl:=Option.some.inj hF4
   exact wp_ret (kr1 hE rfl rfl hM.kept)
def UP (p0 : (List UInt8)) (p1 : (List UInt8)) (s6 : Int) : Option (Fl Int (Fl Unit Bool)) :=
 if (decide (s6 < (p0.length : Int))) = true then (((idx p0 s6).bind fun x15=>(idx p1 s6).bind fun x18=>some (x15 != x18) : Option (Bool)).bind fun j11=>if j11 = true then (some (Fl.ex (Fl.ex false))) else (some (Fl.nx (wr (s6 + 1))))) else (some (Fl.ex (Fl.nx ())))
def Vj (p0 : (List UInt8)) (p1 : (List UInt8)) : Option (Bool) :=
 if ((p0.length : Int) != (p1.length : Int)) = true then (some false) else ((Zz (UP p0 p1) 0).bind fun j2=>j2.el (fun s5=>some true) (fun r=>some r))
end

end Go.Proofs.YtpibglnacohdkaaGreat
