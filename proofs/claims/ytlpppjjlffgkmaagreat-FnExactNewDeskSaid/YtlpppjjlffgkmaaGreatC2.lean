/- The walk of what the law reaches: contracts of functions. -/
import Derived.Test.YtlpppjjlffgkmaaGreatC1
set_option linter.unusedVariables false
set_option linter.unusedSimpArgs false
set_option maxRecDepth 20000
set_option maxHeartbeats 400000
namespace Go.Proofs.YtlpppjjlffgkmaaGreat
open Go
open Flat (enc)
noncomputable section
def Y7 (p0 : Int) : Option (GCipher) :=
 (ZE (XD) ((Vector.replicate 256 (0 : UInt8)),0)).bind fun j5=>(ZE (WM) ((Vector.replicate 4 (Vector.replicate 4 (0 : UInt8))),0)).bind fun j23=>(ZE (WF) ((Vector.replicate 16 (0 : UInt8)),0)).bind fun j50=>some (⟨285,j5,j23,j50,p0⟩ : GCipher)
theorem TB (w0 : World) (p0 : Int) (r : GCipher) (hF : Y7 p0 = some r) :
  Calls Tryz.prog 15 [vI p0].toArray w0 (fun en w'=>∃ v,en = .returned v ∧ (v = (Value.agg (enc r).toArray) ∧ Kept (Old w0) w0 w')):=by
 refine ZB (n:=61) Tryz.func15 rfl rfl (nbl rfl) rfl ?_
 intro a hE
 have hM:=M.start w0
 unfold Y7 at hF
 refine Zc (ZH hE hM Za ld UW fun b1 w a hM hE=>Zf (Zc (Zd hE Za ld rfl fun a hE=>UI (parts:=[(0,.const (vI 285)),(4,.tmp 9)]) (vs:=[(0,vI 285),(4,vI p0)]) (cs:=cat [[vI 285],enc (Vector.replicate 256 (0 : UInt8)),enc (Vector.replicate 4 (Vector.replicate 4 (0 : UInt8))),enc (Vector.replicate 16 (0 : UInt8)),[vI p0]]) hE Za ld rfl rfl UW pl30 (Yl (pre:=[]) (seg:=[vI 0]) (seg':=[vI 285]) (post:=[enc (Vector.replicate 256 (0 : UInt8)),enc (Vector.replicate 4 (Vector.replicate 4 (0 : UInt8))),enc (Vector.replicate 16 (0 : UInt8)),[vI 0]]) rfl cl0 rfl rfl rfl (Yl (pre:=[[vI 285],enc (Vector.replicate 256 (0 : UInt8)),enc (Vector.replicate 4 (Vector.replicate 4 (0 : UInt8))),enc (Vector.replicate 16 (0 : UInt8))]) (seg:=[vI 0]) (seg':=[vI p0]) (post:=[]) rfl (cl1 (n:=1) (m:=288) rfl (cl1 (n:=256) (m:=32) (Flat.len _) (cl1 (n:=16) (m:=16) (Flat.len _) (cl1 (n:=16) (m:=0) (Flat.len _) cl0)))) rfl rfl rfl TC)) fun a hE=>ZH hE hM Za ld UW fun b3 w a hM hE=>Zv (seg:=cat [[vI 285],enc (Vector.replicate 256 (0 : UInt8)),enc (Vector.replicate 4 (Vector.replicate 4 (0 : UInt8))),enc (Vector.replicate 16 (0 : UInt8)),[vI p0]]) (cs':=cat [[vI 285],enc (Vector.replicate 256 (0 : UInt8)),enc (Vector.replicate 4 (Vector.replicate 4 (0 : UInt8))),enc (Vector.replicate 16 (0 : UInt8)),[vI p0]]) hE hM Za rfl rfl rfl UW (Zg (cl1 (n:=1) (m:=289) rfl (cl1 (n:=256) (m:=33) (Flat.len _) (cl1 (n:=16) (m:=17) (Flat.len _) (cl1 (n:=16) (m:=1) (Flat.len _) (cl1 (n:=1) (m:=0) rfl cl0)))))) (Nat.le_of_eq ((Nat.zero_add _).trans (Eq.trans (Zg (cl1 (n:=1) (m:=289) rfl (cl1 (n:=256) (m:=33) (Flat.len _) (cl1 (n:=16) (m:=17) (Flat.len _) (cl1 (n:=16) (m:=1) (Flat.len _) (cl1 (n:=1) (m:=0) rfl cl0)))))) (Eq.symm (Zg (cl1 (n:=1) (m:=289) rfl (cl1 (n:=256) (m:=33) (Flat.len _) (cl1 (n:=16) (m:=17) (Flat.len _) (cl1 (n:=16) (m:=1) (Flat.len _) (cl1 (n:=1) (m:=0) rfl cl0)))))))))) (ZV (cc1 (Flat.cell (285 : Int)) (cc1 (Flat.cell _) (cc1 (Flat.cell _) (cc1 (Flat.cell _) (cc1 (Flat.cell (p0 : Int)) cc0)))))) (Zr (Eq.trans (Zg (cl1 (n:=1) (m:=289) rfl (cl1 (n:=256) (m:=33) (Flat.len _) (cl1 (n:=16) (m:=17) (Flat.len _) (cl1 (n:=16) (m:=1) (Flat.len _) (cl1 (n:=1) (m:=0) rfl cl0)))))) (Eq.symm (Zg (cl1 (n:=1) (m:=289) rfl (cl1 (n:=256) (m:=33) (Flat.len _) (cl1 (n:=16) (m:=17) (Flat.len _) (cl1 (n:=16) (m:=1) (Flat.len _) (cl1 (n:=1) (m:=0) rfl cl0))))))))) fun w a hM hE=>Zf (wp_seq (Zc (Zd hE Za ld rfl fun a hE=>Zf ?_))))))
 obtain ⟨j5,hl6,hF7⟩:=bind_some hF
 refine ZL (fun a w=>Env 61 a [(2,(ptr b1 0)),(3,(ptr b3 0))] ∧ M (Old w0) w0 w [raw b3 (cat [[vI 285],enc j5,enc (Vector.replicate 4 (Vector.replicate 4 (0 : UInt8))),enc (Vector.replicate 16 (0 : UInt8)),[vI p0]]),raw b1 (cat [[vI 0],enc (Vector.replicate 256 (0 : UInt8)),enc (Vector.replicate 4 (Vector.replicate 4 (0 : UInt8))),enc (Vector.replicate 16 (0 : UInt8)),[vI 0]])]) ?_ ?_
 ·skip
  refine wp_block ?_
  refine ZC (fun (s8 : (Vector UInt8 256) × Int) a w=>Env 61 a [(2,(ptr b1 0)),(3,(ptr b3 0)),(11,vI s8.2)] ∧ M (Old w0) w0 w [raw b3 (cat [[vI 285],enc s8.1,enc (Vector.replicate 4 (Vector.replicate 4 (0 : UInt8))),enc (Vector.replicate 16 (0 : UInt8)),[vI p0]]),raw b1 (cat [[vI 0],enc (Vector.replicate 256 (0 : UInt8)),enc (Vector.replicate 4 (Vector.replicate 4 (0 : UInt8))),enc (Vector.replicate 16 (0 : UInt8)),[vI 0]])]) hl6 ⟨hE.sub ⟨rfl,rfl,rfl,trivial⟩,hM⟩ ?_
  rintro s8 a w ⟨hE,hM⟩ o11 hs9 hx10
  unfold XD at hs9
  refine Zc (Zi hE Za ld rfl rfl rfl fun a hE=>Zf (wp_seq ?_))
  refine Zp hE rfl ?_ ?_
  ·intro hb12
   have hs9:=Zz hs9 hb12
   refine wp_skip (Zu (wp_seq (wp_block (Zc (Zd hE Za ld rfl fun a hE=>Ze hE Za ld rfl fun a hE=>Zf (Zc (Zd hE Za ld rfl fun a hE=>Yb hE Za ld rfl Tryz.underlying3 Tryz.underlying5 ?_))))))); intro a hE
   rw [ZN] at hE
   obtain ⟨r13,e14,hs9⟩:=bind_some hs9
   refine Zw hE Za ld rfl cb44 (VV _ 285 (Zx s8.2) r13 e14) ?_
   rintro v w a ⟨rfl,hK⟩ hE
   have hM:=hM.keep hK
   refine Ze hE Za ld rfl fun a hE=>Zf (wp_region_lit (Zd hE Za ld rfl fun a hE=>Zd hE Za ld rfl fun a hE=>Zd hE Za ld rfl ?_)); intro a hE
   obtain ⟨r15,e16,hs9⟩:=bind_some hs9
   refine Zw hE Za ld rfl cb45 (UR _ r13 1 r15 e16) ?_
   rintro v w a ⟨rfl,hK⟩ hE
   have hM:=hM.keep hK
   refine Zi hE Za ld rfl rfl (VG r13 r15) fun a hE=>Zd hE Za ld rfl ?_; intro a hE
   obtain ⟨r17,e18,hs9⟩:=bind_some hs9
   refine Zw hE Za ld rfl cb45 (UR _ r13 4 r17 e18) ?_
   rintro v w a ⟨rfl,hK⟩ hE
   have hM:=hM.keep hK
   refine Zi hE Za ld rfl rfl (VG (r13 ^^^ r15) r17) fun a hE=>Zi hE Za ld rfl rfl (VG ((r13 ^^^ r15) ^^^ r17) 90) fun a hE=>Zh hE Za ld rfl (Qw) ?_; intro a hE
   obtain ⟨x20,hi19,hs9⟩:=bvx hs9
   refine Zk hE Za ld rfl rfl Tryz.underlying23 ty5 hi19.1 fun a hE=>Zv (seg:=[(vB (((r13 ^^^ r15) ^^^ r17) ^^^ 90))]) (cs':=cat [[vI 285],enc (s8.1.setIfInBounds (s8.2).toNat (((r13 ^^^ r15) ^^^ r17) ^^^ 90)),enc (Vector.replicate 4 (Vector.replicate 4 (0 : UInt8))),enc (Vector.replicate 16 (0 : UInt8)),[vI p0]]) hE hM Za rfl rfl rfl ty5 rfl (Qo (o':=0 + (s8.2).toNat * 1) (pre:=[[vI 285]]) (seg:=enc s8.1) (post:=[enc (Vector.replicate 4 (Vector.replicate 4 (0 : UInt8))),enc (Vector.replicate 16 (0 : UInt8)),[vI p0]]) (cl1 (n:=1) (m:=0) rfl cl0) (ZM (v:=s8.1) (x:=((r13 ^^^ r15) ^^^ r17) ^^^ 90) hi19.1) (by first | omega | (simp only [Flat.n] <;> omega))) (Flat.cell (((r13 ^^^ r15) ^^^ r17) ^^^ 90 : UInt8)) (W8 (o':=0 + (s8.2).toNat * 1) (pre:=[[vI 285]]) (seg:=enc s8.1) (post:=[enc (Vector.replicate 4 (Vector.replicate 4 (0 : UInt8))),enc (Vector.replicate 16 (0 : UInt8)),[vI p0]]) (cl1 (n:=1) (m:=0) rfl cl0) (ZM (v:=s8.1) (x:=((r13 ^^^ r15) ^^^ r17) ^^^ 90) hi19.1) (ZD (v:=s8.1) (x:=((r13 ^^^ r15) ^^^ r17) ^^^ 90) hi19.1) (by first | omega | (simp only [Flat.n] <;> omega))) fun w a hM hE=>Zj (ZZ (Zu (wp_region_lit (Zi hE Za ld rfl rfl rfl fun a hE=>Zd hE Za ld rfl fun a hE=>Zj (Zl ?_)))))
   exact ⟨_,(ois hs9),hE.sub ⟨rfl,rfl,rfl,trivial⟩,hM⟩
  ·intro hb12
   have hs9:=Zy hs9 hb12
   refine wp_exit (Zm (Zm (Z0 ?_)))
   have ht22:=hx10 _ (ois hs9)
   subst ht22
   refine Zl ?_
   exact ⟨hE.sub ⟨rfl,rfl,trivial⟩,hM⟩
 ·skip
  rintro a w ⟨hE,hM⟩
  refine Zu (wp_seq (Zc (Zd hE Za ld rfl fun a hE=>Zf ?_)))
  obtain ⟨j23,hl24,hF25⟩:=bind_some hF7
  refine ZL (fun a w=>Env 61 a [(2,(ptr b1 0)),(3,(ptr b3 0))] ∧ M (Old w0) w0 w [raw b3 (cat [[vI 285],enc j5,enc j23,enc (Vector.replicate 16 (0 : UInt8)),[vI p0]]),raw b1 (cat [[vI 0],enc (Vector.replicate 256 (0 : UInt8)),enc (Vector.replicate 4 (Vector.replicate 4 (0 : UInt8))),enc (Vector.replicate 16 (0 : UInt8)),[vI 0]])]) ?_ ?_
  ·skip
   refine wp_block ?_
   refine ZC (fun (s26 : (Vector (Vector UInt8 4) 4) × Int) a w=>Env 61 a [(2,(ptr b1 0)),(3,(ptr b3 0)),(29,vI s26.2)] ∧ M (Old w0) w0 w [raw b3 (cat [[vI 285],enc j5,enc s26.1,enc (Vector.replicate 16 (0 : UInt8)),[vI p0]]),raw b1 (cat [[vI 0],enc (Vector.replicate 256 (0 : UInt8)),enc (Vector.replicate 4 (Vector.replicate 4 (0 : UInt8))),enc (Vector.replicate 16 (0 : UInt8)),[vI 0]])]) hl24 ⟨hE.sub ⟨rfl,rfl,rfl,trivial⟩,hM⟩ ?_
   rintro s26 a w ⟨hE,hM⟩ o29 hs27 hx28
   unfold WM at hs27
   refine Zc (Zi hE Za ld rfl rfl rfl fun a hE=>Zf (wp_seq ?_))
   refine Zp hE rfl ?_ ?_
   ·intro hb30
    have hs27:=Zz hs27 hb30
    refine wp_skip (Zu (wp_seq (wp_block (Zc (Zd hE Za ld rfl fun a hE=>Ze hE Za ld rfl fun a hE=>Zf (Zc (Zd hE Za ld rfl fun a hE=>Zf ?_)))))))
    obtain ⟨j31,hl32,hF33⟩:=bind_some hs27
    refine ZL (fun a w=>Env 61 a [(2,(ptr b1 0)),(3,(ptr b3 0)),(29,vI s26.2)] ∧ M (Old w0) w0 w [raw b3 (cat [[vI 285],enc j5,enc j31,enc (Vector.replicate 16 (0 : UInt8)),[vI p0]]),raw b1 (cat [[vI 0],enc (Vector.replicate 256 (0 : UInt8)),enc (Vector.replicate 4 (Vector.replicate 4 (0 : UInt8))),enc (Vector.replicate 16 (0 : UInt8)),[vI 0]])]) ?_ ?_
    ·skip
     refine wp_block ?_
     refine ZC (fun (s34 : (Vector (Vector UInt8 4) 4) × Int) a w=>Env 61 a [(2,(ptr b1 0)),(3,(ptr b3 0)),(6,vI s26.2),(29,vI s26.2),(32,vI s34.2)] ∧ M (Old w0) w0 w [raw b3 (cat [[vI 285],enc j5,enc s34.1,enc (Vector.replicate 16 (0 : UInt8)),[vI p0]]),raw b1 (cat [[vI 0],enc (Vector.replicate 256 (0 : UInt8)),enc (Vector.replicate 4 (Vector.replicate 4 (0 : UInt8))),enc (Vector.replicate 16 (0 : UInt8)),[vI 0]])]) hl32 ⟨hE.sub ⟨rfl,rfl,rfl,rfl,rfl,trivial⟩,hM⟩ ?_
     rintro s34 a w ⟨hE,hM⟩ o37 hs35 hx36
     unfold WL at hs35
     refine Zc (Zi hE Za ld rfl rfl rfl fun a hE=>Zf (wp_seq ?_))
     refine Zp hE rfl ?_ ?_
     ·intro hb38
      have hs35:=Zz hs35 hb38
      refine wp_skip (Zu (wp_seq (wp_block (Zc (Zd hE Za ld rfl fun a hE=>Ze hE Za ld rfl fun a hE=>Zf ?_)))))
      obtain ⟨r40,e41,hs35⟩:=bind_some hs35
      obtain ⟨x43,hi42,hs35⟩:=bvx hs35
      obtain ⟨x46,hi45,hs35⟩:=bvx hs35
      refine Yg (n:=61) (hd:=[_,_,_,_,_,_,_,_,_,_,_]) (tl:=[_]) YN rfl rfl [35,36,37,38,39,40,41,42,43,44,45] (by decide) (fun w=>M (Old w0) w0 w [raw b3 (cat [[vI 285],enc j5,enc s34.1,enc (Vector.replicate 16 (0 : UInt8)),[vI p0]]),raw b1 (cat [[vI 0],enc (Vector.replicate 256 (0 : UInt8)),enc (Vector.replicate 4 (Vector.replicate 4 (0 : UInt8))),enc (Vector.replicate 16 (0 : UInt8)),[vI 0]])]) (fun j=>([fun v _=>v = (vI s26.2),fun v _=>v = (vI s34.2),fun v _=>v = (vI s26.2),fun v _=>v = (vI s34.2),fun v _=>v = (vI (wr (4 + s34.2))),fun v _=>v = (vI (T8 s26.2 (wr (4 + s34.2)))),fun v _=>v = (vB (Zx (T8 s26.2 (wr (4 + s34.2))))),fun v _=>v = (vB r40),fun v _=>v = (ptr b3 (0 + 257)),fun v _=>v = (ptr b3 (0 + 257 + (s26.2).toNat * 4)),fun v _=>v = (ptr b3 (0 + 257 + (s26.2).toNat * 4 + (s34.2).toNat * 1))] : List (Value → World → Prop)).getD j (fun _ _=>True)) (fun _ _ h hk=>h.keep hk) (gup (Zn (Zn (Zn (Zn (Zn (Zn (Zn (Zn (Zn (Zn (Zn Vb)))))))))))) hE hM.drew (ZJ (Zb ?_ (Zb ?_ (Zb ?_ (Zb ?_ (Zb ?_ (Zb ?_ (Zb ?_ (Zb ?_ (Zb ?_ (Zb ?_ (Zb ?_ ZF)))))))))))) ?_
      ·exact fun a w ux39 hE hM hp=>Zd hE Za ld rfl fun a hE=>⟨Kept.refl _ _,_,_,rfl,hE,rfl⟩
      ·exact fun a w ux39 hE hM hp=>Zd hE Za ld rfl fun a hE=>⟨Kept.refl _ _,_,_,rfl,hE,rfl⟩
      ·exact fun a w ux39 hE hM hp=>Zd hE Za ld rfl fun a hE=>⟨Kept.refl _ _,_,_,rfl,hE,rfl⟩
      ·exact fun a w ux39 hE hM hp=>Zd hE Za ld rfl fun a hE=>⟨Kept.refl _ _,_,_,rfl,hE,rfl⟩
      ·intro a w ux39 hE hM hp
       have f3 : ux39 3 = (vI s34.2):=hp 0 _ rfl rfl
       exact Zi hE Za ld rfl (lk rfl f3) rfl fun a hE=>⟨Kept.refl _ _,_,_,rfl,hE,rfl⟩
      ·intro a w ux39 hE hM hp
       have f2 : ux39 2 = (vI s26.2):=hp 0 _ rfl rfl
       have f4 : ux39 4 = (vI (wr (4 + s34.2))):=hp 1 _ rfl rfl
       exact Zi hE Za ld (lk rfl f2) (lk rfl f4) rfl fun a hE=>⟨Kept.refl _ _,_,_,rfl,hE,rfl⟩
      ·intro a w ux39 hE hM hp
       have f5 : ux39 5 = (vI (T8 s26.2 (wr (4 + s34.2)))):=hp 0 _ rfl rfl
       refine Yb hE Za ld (lk rfl f5) Tryz.underlying3 Tryz.underlying5 ?_; intro a hE
       rw [ZN] at hE
       exact ⟨Kept.refl _ _,_,_,rfl,hE,rfl⟩
      ·intro a w ux39 hE hM hp
       have f6 : ux39 6 = (vB (Zx (T8 s26.2 (wr (4 + s34.2))))):=hp 0 _ rfl rfl
       refine Zw hE Za ld (Z7 (Z2 rfl (Z2 (lk rfl f6) X8))) cb44 (VV _ 285 (Zx (T8 s26.2 (wr (4 + s34.2)))) r40 e41) ?_
       rintro v w a ⟨rfl,hK⟩ hE
       exact ⟨hK,_,_,rfl,hE,rfl⟩
      ·exact fun a w ux39 hE hM hp=>Zh hE Za ld rfl (Kb) fun a hE=>⟨Kept.refl _ _,_,_,rfl,hE,rfl⟩
      ·intro a w ux39 hE hM hp
       have f0 : ux39 0 = (vI s26.2):=hp 1 _ rfl rfl
       have f8 : ux39 8 = (ptr b3 (0 + 257)):=hp 0 _ rfl rfl
       exact Zk hE Za ld (lk rfl f8) (lk rfl f0) Tryz.underlying26 WE hi42.1 fun a hE=>⟨Kept.refl _ _,_,_,rfl,hE,rfl⟩
      ·intro a w ux39 hE hM hp
       have f1 : ux39 1 = (vI s34.2):=hp 1 _ rfl rfl
       have f9 : ux39 9 = (ptr b3 (0 + 257 + (s26.2).toNat * 4)):=hp 0 _ rfl rfl
       exact Zk hE Za ld (lk rfl f9) (lk rfl f1) Tryz.underlying24 ty5 hi45.1 fun a hE=>⟨Kept.refl _ _,_,_,rfl,hE,rfl⟩
      ·intro a w ux39 hE hM hg
       have hE:=hE.sub (e':=[(42,vB r40),(45,(ptr b3 (0 + 257 + (s26.2).toNat * 4 + (s34.2).toNat * 1))),(2,(ptr b1 0)),(3,(ptr b3 0)),(6,vI s26.2),(7,vI s34.2),(29,vI s26.2),(32,vI s34.2),(33,(vT (decide (s34.2 < 4)))),(34,vI s34.2)]) ⟨lk rfl (hg 7 (by decide)),lk rfl (hg 10 (by decide)),rfl,rfl,rfl,rfl,rfl,rfl,rfl,rfl,trivial⟩
       refine Zv (seg:=[vB r40]) (cs':=cat [[vI 285],enc j5,enc (s34.1.setIfInBounds (s26.2).toNat (x43.setIfInBounds (s34.2).toNat r40)),enc (Vector.replicate 16 (0 : UInt8)),[vI p0]]) hE hM Za rfl rfl rfl ty5 rfl (Qo (o':=(s26.2).toNat * 4 + (0 + (s34.2).toNat * 1)) (pre:=[[vI 285],enc j5]) (seg:=enc s34.1) (post:=[enc (Vector.replicate 16 (0 : UInt8)),[vI p0]]) (cl1 (n:=1) (m:=256) rfl (cl1 (n:=256) (m:=0) (Flat.len _) cl0)) (Vk (o':=0 + (s34.2).toNat * 1) hi42 (ZM (v:=x43) (x:=r40) hi45.1) (by first | omega | (simp only [Flat.n] <;> omega))) (by first | omega | (simp only [Flat.n] <;> omega))) (Flat.cell (r40 : UInt8)) (W8 (o':=(s26.2).toNat * 4 + (0 + (s34.2).toNat * 1)) (pre:=[[vI 285],enc j5]) (seg:=enc s34.1) (post:=[enc (Vector.replicate 16 (0 : UInt8)),[vI p0]]) (cl1 (n:=1) (m:=256) rfl (cl1 (n:=256) (m:=0) (Flat.len _) cl0)) (Vk (o':=0 + (s34.2).toNat * 1) hi42 (ZM (v:=x43) (x:=r40) hi45.1) (by first | omega | (simp only [Flat.n] <;> omega))) (Wl (o':=0 + (s34.2).toNat * 1) hi42 (ZM (v:=x43) (x:=r40) hi45.1) (ZD (v:=x43) (x:=r40) hi45.1) (by first | omega | (simp only [Flat.n] <;> omega))) (by first | omega | (simp only [Flat.n] <;> omega))) fun w a hM hE=>Zj (ZZ (Zu (wp_region_lit (Zi hE Za ld rfl rfl rfl fun a hE=>Zd hE Za ld rfl fun a hE=>Zj (Zl ?_)))))
       exact ⟨_,(ois hs35),hE.sub ⟨rfl,rfl,rfl,rfl,rfl,trivial⟩,hM⟩
     ·intro hb38
      have hs35:=Zy hs35 hb38
      refine wp_exit (Zm (Zm (Z0 ?_)))
      have ht48:=hx36 _ (ois hs35)
      subst ht48
      refine Zl ?_
      exact ⟨hE.sub ⟨rfl,rfl,rfl,trivial⟩,hM⟩
    ·skip
     rintro a w ⟨hE,hM⟩
     refine ZZ (Zu (wp_region_lit (Zi hE Za ld rfl rfl rfl fun a hE=>Zd hE Za ld rfl fun a hE=>Zj (Zl ?_))))
     exact ⟨_,(ois hF33),hE.sub ⟨rfl,rfl,rfl,trivial⟩,hM⟩
   ·intro hb30
    have hs27:=Zy hs27 hb30
    refine wp_exit (Zm (Zm (Z0 ?_)))
    have ht49:=hx28 _ (ois hs27)
    subst ht49
    refine Zl ?_
    exact ⟨hE.sub ⟨rfl,rfl,trivial⟩,hM⟩
  ·skip
   rintro a w ⟨hE,hM⟩
   refine Zu (wp_seq (Zc (Zd hE Za ld rfl fun a hE=>Zf ?_)))
   obtain ⟨j50,hl51,hF52⟩:=bind_some hF25
   refine ZL (fun a w=>Env 61 a [(2,(ptr b1 0)),(3,(ptr b3 0))] ∧ M (Old w0) w0 w [raw b3 (cat [[vI 285],enc j5,enc j23,enc j50,[vI p0]]),raw b1 (cat [[vI 0],enc (Vector.replicate 256 (0 : UInt8)),enc (Vector.replicate 4 (Vector.replicate 4 (0 : UInt8))),enc (Vector.replicate 16 (0 : UInt8)),[vI 0]])]) ?_ ?_
   ·skip
    refine wp_block ?_
    refine ZC (fun (s53 : (Vector UInt8 16) × Int) a w=>Env 61 a [(2,(ptr b1 0)),(3,(ptr b3 0)),(48,vI s53.2)] ∧ M (Old w0) w0 w [raw b3 (cat [[vI 285],enc j5,enc j23,enc s53.1,[vI p0]]),raw b1 (cat [[vI 0],enc (Vector.replicate 256 (0 : UInt8)),enc (Vector.replicate 4 (Vector.replicate 4 (0 : UInt8))),enc (Vector.replicate 16 (0 : UInt8)),[vI 0]])]) hl51 ⟨hE.sub ⟨rfl,rfl,rfl,trivial⟩,hM⟩ ?_
    rintro s53 a w ⟨hE,hM⟩ o56 hs54 hx55
    unfold WF at hs54
    refine Zc (Zi hE Za ld rfl rfl rfl fun a hE=>Zf (wp_seq ?_))
    refine Zp hE rfl ?_ ?_
    ·intro hb57
     have hs54:=Zz hs54 hb57
     refine wp_skip (Zu (wp_seq (wp_block (Zc (Zd hE Za ld rfl fun a hE=>Ze hE Za ld rfl fun a hE=>Zf (wp_region_lit (Zd hE Za ld rfl fun a hE=>Zd hE Za ld rfl fun a hE=>Zi hE Za ld rfl rfl rfl fun a hE=>Zi hE Za ld rfl rfl rfl fun a hE=>Zi hE Za ld rfl rfl (TO _ _ (by decide)) fun a hE=>Yb hE Za ld rfl Tryz.underlying3 Tryz.underlying5 ?_))))))); intro a hE
     rw [ZN] at hE
     refine Zh hE Za ld rfl (Q3) ?_; intro a hE
     obtain ⟨x59,hi58,hs54⟩:=bvx hs54
     refine Zk hE Za ld rfl rfl Tryz.underlying28 ty5 hi58.1 fun a hE=>Zv (seg:=[(vB (Zx (Int.tmod (wr ((wr (13 * s53.2)) + 4)) 16)))]) (cs':=cat [[vI 285],enc j5,enc j23,enc (s53.1.setIfInBounds (s53.2).toNat (Zx (Int.tmod (wr ((wr (13 * s53.2)) + 4)) 16))),[vI p0]]) hE hM Za rfl rfl rfl ty5 rfl (Qo (o':=0 + (s53.2).toNat * 1) (pre:=[[vI 285],enc j5,enc j23]) (seg:=enc s53.1) (post:=[[vI p0]]) (cl1 (n:=1) (m:=272) rfl (cl1 (n:=256) (m:=16) (Flat.len _) (cl1 (n:=16) (m:=0) (Flat.len _) cl0))) (ZM (v:=s53.1) (x:=Zx (Int.tmod (wr ((wr (13 * s53.2)) + 4)) 16)) hi58.1) (by first | omega | (simp only [Flat.n] <;> omega))) (Flat.cell (Zx (Int.tmod (wr ((wr (13 * s53.2)) + 4)) 16) : UInt8)) (W8 (o':=0 + (s53.2).toNat * 1) (pre:=[[vI 285],enc j5,enc j23]) (seg:=enc s53.1) (post:=[[vI p0]]) (cl1 (n:=1) (m:=272) rfl (cl1 (n:=256) (m:=16) (Flat.len _) (cl1 (n:=16) (m:=0) (Flat.len _) cl0))) (ZM (v:=s53.1) (x:=Zx (Int.tmod (wr ((wr (13 * s53.2)) + 4)) 16)) hi58.1) (ZD (v:=s53.1) (x:=Zx (Int.tmod (wr ((wr (13 * s53.2)) + 4)) 16)) hi58.1) (by first | omega | (simp only [Flat.n] <;> omega))) fun w a hM hE=>Zj (ZZ (Zu (wp_region_lit (Zi hE Za ld rfl rfl rfl fun a hE=>Zd hE Za ld rfl fun a hE=>Zj (Zl ?_)))))
     exact ⟨_,(ois hs54),hE.sub ⟨rfl,rfl,rfl,trivial⟩,hM⟩
    ·intro hb57
     have hs54:=Zy hs54 hb57
     refine wp_exit (Zm (Zm (Z0 ?_)))
     have ht61:=hx55 _ (ois hs54)
     subst ht61
     refine Zl ?_
     exact ⟨hE.sub ⟨rfl,rfl,trivial⟩,hM⟩
   ·skip
    rintro a w ⟨hE,hM⟩
    refine Zu (Zc (Zo (cs:=enc (⟨285,j5,j23,j50,p0⟩ : GCipher)) hE Za ld rfl UW rfl (hM.rawAt (pre:=[])) (Zg (cl1 (n:=1) (m:=289) rfl (cl1 (n:=256) (m:=33) (Flat.len _) (cl1 (n:=16) (m:=17) (Flat.len _) (cl1 (n:=16) (m:=1) (Flat.len _) (cl1 (n:=1) (m:=0) rfl cl0)))))) ?_)); intro a hE
    have hM:=hM.pull (pre:=[_])
    refine Zv (seg:=cat [[(vI ((⟨285,j5,j23,j50,p0⟩ : GCipher).Field))],enc ((⟨285,j5,j23,j50,p0⟩ : GCipher).Box),enc ((⟨285,j5,j23,j50,p0⟩ : GCipher).Mix),enc ((⟨285,j5,j23,j50,p0⟩ : GCipher).Places),[(vI ((⟨285,j5,j23,j50,p0⟩ : GCipher).Rounds))]]) (cs':=cat [[(vI ((⟨285,j5,j23,j50,p0⟩ : GCipher).Field))],enc ((⟨285,j5,j23,j50,p0⟩ : GCipher).Box),enc ((⟨285,j5,j23,j50,p0⟩ : GCipher).Mix),enc ((⟨285,j5,j23,j50,p0⟩ : GCipher).Places),[(vI ((⟨285,j5,j23,j50,p0⟩ : GCipher).Rounds))]]) hE hM Za rfl rfl rfl UW (Zg (cl1 (n:=1) (m:=289) rfl (cl1 (n:=256) (m:=33) (Flat.len _) (cl1 (n:=16) (m:=17) (Flat.len _) (cl1 (n:=16) (m:=1) (Flat.len _) (cl1 (n:=1) (m:=0) rfl cl0)))))) (Nat.le_of_eq ((Nat.zero_add _).trans (Eq.trans (Zg (cl1 (n:=1) (m:=289) rfl (cl1 (n:=256) (m:=33) (Flat.len _) (cl1 (n:=16) (m:=17) (Flat.len _) (cl1 (n:=16) (m:=1) (Flat.len _) (cl1 (n:=1) (m:=0) rfl cl0)))))) (Eq.symm (Zg (cl1 (n:=1) (m:=289) rfl (cl1 (n:=256) (m:=33) (Flat.len _) (cl1 (n:=16) (m:=17) (Flat.len _) (cl1 (n:=16) (m:=1) (Flat.len _) (cl1 (n:=1) (m:=0) rfl cl0)))))))))) (ZV (cc1 (Flat.cell ((⟨285,j5,j23,j50,p0⟩ : GCipher).Field : Int)) (cc1 (Flat.cell _) (cc1 (Flat.cell _) (cc1 (Flat.cell _) (cc1 (Flat.cell ((⟨285,j5,j23,j50,p0⟩ : GCipher).Rounds : Int)) cc0)))))) (Zr (Eq.trans (Zg (cl1 (n:=1) (m:=289) rfl (cl1 (n:=256) (m:=33) (Flat.len _) (cl1 (n:=16) (m:=17) (Flat.len _) (cl1 (n:=16) (m:=1) (Flat.len _) (cl1 (n:=1) (m:=0) rfl cl0)))))) (Eq.symm (Zg (cl1 (n:=1) (m:=289) rfl (cl1 (n:=256) (m:=33) (Flat.len _) (cl1 (n:=16) (m:=17) (Flat.len _) (cl1 (n:=16) (m:=1) (Flat.len _) (cl1 (n:=1) (m:=0) rfl cl0))))))))) fun w a hM hE=>Zf ?_
    have hr:=Option.some.inj hF52
    subst hr
    have hq62 : Yx Tryz.prog _ _ (.cell 2 30) _:=ZR hE rfl UW rfl (hM.rawAt (pre:=[])) (Zg (cl1 (n:=1) (m:=289) rfl (cl1 (n:=256) (m:=33) (Flat.len _) (cl1 (n:=16) (m:=17) (Flat.len _) (cl1 (n:=16) (m:=1) (Flat.len _) (cl1 (n:=1) (m:=0) rfl cl0)))))) rfl
    have hM:=M.fst (l:=[]) hM
    exact wp_ret (Zt hE rfl hq62 ⟨_,rfl,rfl,hM.kept⟩)
def UO (s8 : (Vector (Vector UInt8 4) 4) × Int) : Option (Fl ((Vector (Vector UInt8 4) 4) × Int) (Vector (Vector UInt8 4) 4)) :=
 if (decide (s8.2 < 4)) = true then ((ZI s8.1 s8.2).bind fun x14=>(ZI x14 s8.2).bind fun x17=>some (Fl.nx ((s8.1.setIfInBounds (s8.2).toNat (x14.setIfInBounds (s8.2).toNat 1)),wr (s8.2 + 1)))) else (some (Fl.ex s8.1))
def Wz : Option ((Vector (Vector UInt8 4) 4)) :=
 (ZE (UO) ((Vector.replicate 4 (Vector.replicate 4 (0 : UInt8))),0)).bind fun j5=>some j5
theorem KM (w0 : World)  (r : (Vector (Vector UInt8 4) 4)) (hF : Wz  = some r) :
  Calls Tryz.prog 153 [].toArray w0 (fun en w'=>∃ v,en = .returned v ∧ (v = (Value.agg (enc r).toArray) ∧ Kept (Old w0) w0 w')):=by
 refine ZB (n:=13) Tryz.func153 rfl rfl (nbl rfl) rfl ?_
 intro a hE
 have hM:=M.start w0
 unfold Wz at hF
 refine Zc (ZH hE hM Za ld Ti fun b1 w a hM hE=>Zf (Zc (YT (parts:=[]) (vs:=[]) (cs:=enc (Vector.replicate 4 (Vector.replicate 4 (0 : UInt8)))) hE Za ld rfl rfl Ti rfl WE Yw fun a hE=>ZH hE hM Za ld Ti fun b3 w a hM hE=>Zv (seg:=enc (Vector.replicate 4 (Vector.replicate 4 (0 : UInt8)))) (cs':=enc (Vector.replicate 4 (Vector.replicate 4 (0 : UInt8)))) hE hM Za rfl rfl rfl Ti (Flat.len _) (zle flq) (Flat.cell _) (Zr flq) fun w a hM hE=>Zf (wp_seq (Zc (Zd hE Za ld rfl fun a hE=>Zf ?_))))))
 obtain ⟨j5,hl6,hF7⟩:=bind_some hF
 refine ZL (fun a w=>Env 13 a [(0,(ptr b1 0)),(1,(ptr b3 0))] ∧ M (Old w0) w0 w [raw b3 (enc j5),raw b1 (enc (Vector.replicate 4 (Vector.replicate 4 (0 : UInt8))))]) ?_ ?_
 ·skip
  refine wp_block ?_
  refine ZC (fun (s8 : (Vector (Vector UInt8 4) 4) × Int) a w=>Env 13 a [(0,(ptr b1 0)),(1,(ptr b3 0)),(4,vI s8.2)] ∧ M (Old w0) w0 w [raw b3 (enc s8.1),raw b1 (enc (Vector.replicate 4 (Vector.replicate 4 (0 : UInt8))))]) hl6 ⟨hE.sub ⟨rfl,rfl,rfl,trivial⟩,hM⟩ ?_
  rintro s8 a w ⟨hE,hM⟩ o11 hs9 hx10
  unfold UO at hs9
  refine Zc (Zi hE Za ld rfl rfl rfl fun a hE=>Zf (wp_seq ?_))
  refine Zp hE rfl ?_ ?_
  ·intro hb12
   have hs9:=Zz hs9 hb12
   refine wp_skip (Zu (wp_seq (wp_block (Zc (Zd hE Za ld rfl fun a hE=>Ze hE Za ld rfl fun a hE=>Zf (wp_region_lit (Zd hE Za ld rfl fun a hE=>Zd hE Za ld rfl ?_))))))); intro a hE
   obtain ⟨x14,hi13,hs9⟩:=bvx hs9
   refine Zk hE Za ld rfl rfl Tryz.underlying26 WE hi13.1 ?_; intro a hE
   obtain ⟨x17,hi16,hs9⟩:=bvx hs9
   refine Zk hE Za ld rfl rfl Tryz.underlying24 ty5 hi16.1 fun a hE=>Zv (seg:=[vB 1]) (cs':=enc (s8.1.setIfInBounds (s8.2).toNat (x14.setIfInBounds (s8.2).toNat 1))) hE hM Za rfl rfl rfl ty5 rfl (Vk (o':=0 + (s8.2).toNat * 1) hi13 (ZM (v:=x14) (x:=1) hi16.1) (by first | omega | (simp only [Flat.n] <;> omega))) (Flat.cell (1 : UInt8)) (Wl (o':=0 + (s8.2).toNat * 1) hi13 (ZM (v:=x14) (x:=1) hi16.1) (ZD (v:=x14) (x:=1) hi16.1) (by first | omega | (simp only [Flat.n] <;> omega))) fun w a hM hE=>Zj (ZZ (Zu (wp_region_lit (Zi hE Za ld rfl rfl rfl fun a hE=>Zd hE Za ld rfl fun a hE=>Zj (Zl ?_)))))
   exact ⟨_,(ois hs9),hE.sub ⟨rfl,rfl,rfl,trivial⟩,hM⟩
  ·intro hb12
   have hs9:=Zy hs9 hb12
   refine wp_exit (Zm (Zm (Z0 ?_)))
   have ht19:=hx10 _ (ois hs9)
   subst ht19
   refine Zl ?_
   exact ⟨hE.sub ⟨rfl,rfl,trivial⟩,hM⟩
 ·skip
  rintro a w ⟨hE,hM⟩
  refine Zu (Zc (Zo (cs:=enc j5) hE Za ld rfl Ti rfl (hM.rawAt (pre:=[])) (Flat.len _) ?_)); intro a hE
  have hM:=hM.pull (pre:=[_])
  refine Zv (seg:=enc j5) (cs':=enc j5) hE hM Za rfl rfl rfl Ti (Flat.len _) (zle flq) (Flat.cell _) (Zr flq) fun w a hM hE=>Zf ?_
  have hr:=Option.some.inj hF7
  subst hr
  have hq20 : Yx Tryz.prog _ _ (.cell 0 26) _:=ZR hE rfl Ti rfl (hM.rawAt (pre:=[])) (Flat.len _) rfl
  have hM:=M.fst (l:=[]) hM
  exact wp_ret (Zt hE rfl hq20 ⟨_,rfl,rfl,hM.kept⟩)
def VN (s13 : (Vector (Vector UInt8 4) 4) × (Vector (Vector UInt8 4) 4) × Int × UInt8) (s21 : Int) : Option (Fl Int Int) :=
 (if (decide (s21 < 4)) = true then ((ZI s13.1 s21).bind fun x30=>(ZI x30 s13.2.2.1).bind fun x33=>some (x33 == 0)) else (some false) : Option (Bool)).bind fun j25=>if j25 = true then (some (Fl.nx (wr (s21 + 1)))) else (some (Fl.ex s21))
def Xm (p0 : Int) (s13 : (Vector (Vector UInt8 4) 4) × (Vector (Vector UInt8 4) 4) × Int × UInt8) (r90 : UInt8) (s95 : (Vector (Vector UInt8 4) 4) × (Vector (Vector UInt8 4) 4) × Int) : Option (Fl ((Vector (Vector UInt8 4) 4) × (Vector (Vector UInt8 4) 4) × Int) ((Vector (Vector UInt8 4) 4) × (Vector (Vector UInt8 4) 4))) :=
 if (decide (s95.2.2 < 4)) = true then ((ZI s95.1 s13.2.2.1).bind fun x102=>(ZI x102 s95.2.2).bind fun x105=>(ZX p0 x105 r90).bind fun r107=>(ZI s95.2.1 s13.2.2.1).bind fun x110=>(ZI x110 s95.2.2).bind fun x113=>(ZX p0 x113 r90).bind fun r115=>(ZI s95.1 s13.2.2.1).bind fun x118=>(ZI x118 s95.2.2).bind fun x121=>(ZI s95.2.1 s13.2.2.1).bind fun x124=>(ZI x124 s95.2.2).bind fun x127=>some (Fl.nx ((s95.1.setIfInBounds (s13.2.2.1).toNat (x118.setIfInBounds (s95.2.2).toNat r107)),(s95.2.1.setIfInBounds (s13.2.2.1).toNat (x124.setIfInBounds (s95.2.2).toNat r115)),wr (s95.2.2 + 1)))) else (some (Fl.ex (s95.1,s95.2.1)))
def Xg (p0 : Int) (s13 : (Vector (Vector UInt8 4) 4) × (Vector (Vector UInt8 4) 4) × Int × UInt8) (s133 : (Vector (Vector UInt8 4) 4) × (Vector (Vector UInt8 4) 4) × Int) (x145 : UInt8) (s160 : (Vector (Vector UInt8 4) 4) × (Vector (Vector UInt8 4) 4) × Int) : Option (Fl ((Vector (Vector UInt8 4) 4) × (Vector (Vector UInt8 4) 4) × Int) ((Vector (Vector UInt8 4) 4) × (Vector (Vector UInt8 4) 4))) :=
 if (decide (s160.2.2 < 4)) = true then (((ZI s160.1 s133.2.2).bind fun x170=>(ZI x170 s160.2.2).bind fun x173=>(ZI s160.1 s13.2.2.1).bind fun x176=>(ZI x176 s160.2.2).bind fun x179=>(ZX p0 x145 x179).bind fun r181=>(ZI s160.1 s133.2.2).bind fun x184=>(ZI x184 s160.2.2).bind fun x187=>some (s160.1.setIfInBounds (s133.2.2).toNat (x184.setIfInBounds (s160.2.2).toNat (x173 ^^^ r181))) : Option ((Vector (Vector UInt8 4) 4))).bind fun j165=>(ZI s160.2.1 s133.2.2).bind fun x192=>(ZI x192 s160.2.2).bind fun x195=>(ZI s160.2.1 s13.2.2.1).bind fun x198=>(ZI x198 s160.2.2).bind fun x201=>(ZX p0 x145 x201).bind fun r203=>(ZI s160.2.1 s133.2.2).bind fun x206=>(ZI x206 s160.2.2).bind fun x209=>some (Fl.nx (j165,(s160.2.1.setIfInBounds (s133.2.2).toNat (x206.setIfInBounds (s160.2.2).toNat (x195 ^^^ r203))),wr (s160.2.2 + 1)))) else (some (Fl.ex (s160.1,s160.2.1)))
def Xf (p0 : Int) (s13 : (Vector (Vector UInt8 4) 4) × (Vector (Vector UInt8 4) 4) × Int × UInt8) (s133 : (Vector (Vector UInt8 4) 4) × (Vector (Vector UInt8 4) 4) × Int) : Option (Fl ((Vector (Vector UInt8 4) 4) × (Vector (Vector UInt8 4) 4) × Int) ((Vector (Vector UInt8 4) 4) × (Vector (Vector UInt8 4) 4))) :=
 if (decide (s133.2.2 < 4)) = true then (((ZI s133.1 s133.2.2).bind fun x142=>(ZI x142 s13.2.2.1).bind fun x145=>(if (s133.2.2 != s13.2.2.1) = true then (some (x145 != 0)) else (some false) : Option (Bool)).bind fun j147=>(if j147 = true then ((ZE (Xg p0 s13 s133 x145) (s133.1,s133.2.1,0)).bind fun j157=>some (j157.1,j157.2)) else (some (s133.1,s133.2.1)) : Option ((Vector (Vector UInt8 4) 4) × (Vector (Vector UInt8 4) 4))).bind fun j153=>some (j153.1,j153.2) : Option ((Vector (Vector UInt8 4) 4) × (Vector (Vector UInt8 4) 4))).bind fun j138=>some (Fl.nx (j138.1,j138.2,wr (s133.2.2 + 1)))) else (some (Fl.ex (s133.1,s133.2.1)))
def Yq (p0 : Int) (s13 : (Vector (Vector UInt8 4) 4) × (Vector (Vector UInt8 4) 4) × Int × UInt8) : Option (Fl ((Vector (Vector UInt8 4) 4) × (Vector (Vector UInt8 4) 4) × Int × UInt8) (Fl ((Vector (Vector UInt8 4) 4) × UInt8) (UInt8 × (Vector (Vector UInt8 4) 4)))) :=
 if (decide (s13.2.2.1 < 4)) = true then ((ZE (VN s13) s13.2.2.1).bind fun j18=>if (j18 == 4) = true then (some (Fl.ex (Fl.ex (0,(Vector.replicate 4 (Vector.replicate 4 (0 : UInt8))))))) else (((ZI s13.1 s13.2.2.1).bind fun x47=>(ZI s13.1 j18).bind fun x50=>(ZI s13.1 j18).bind fun x53=>(ZI (s13.1.setIfInBounds (j18).toNat x47) s13.2.2.1).bind fun x56=>some ((s13.1.setIfInBounds (j18).toNat x47).setIfInBounds (s13.2.2.1).toNat x50) : Option ((Vector (Vector UInt8 4) 4))).bind fun j42=>((ZI s13.2.1 s13.2.2.1).bind fun x64=>(ZI s13.2.1 j18).bind fun x67=>(ZI s13.2.1 j18).bind fun x70=>(ZI (s13.2.1.setIfInBounds (j18).toNat x64) s13.2.2.1).bind fun x73=>some ((s13.2.1.setIfInBounds (j18).toNat x64).setIfInBounds (s13.2.2.1).toNat x67) : Option ((Vector (Vector UInt8 4) 4))).bind fun j59=>(ZI j42 s13.2.2.1).bind fun x77=>(ZI x77 s13.2.2.1).bind fun x80=>(ZX p0 s13.2.2.2 x80).bind fun r82=>(ZI j42 s13.2.2.1).bind fun x85=>(ZI x85 s13.2.2.1).bind fun x88=>(Ya p0 x88).bind fun r90=>(ZE (Xm p0 s13 r90) (j42,j59,0)).bind fun j92=>(ZE (Xf p0 s13) (j92.1,j92.2,0)).bind fun j130=>some (Fl.nx (j130.1,j130.2,wr (s13.2.2.1 + 1),r82)))) else (some (Fl.ex (Fl.nx (s13.2.1,s13.2.2.2))))
def YY (p0 : Int) (p1 : (Vector (Vector UInt8 4) 4)) : Option (UInt8 × (Vector (Vector UInt8 4) 4)) :=
 (Wz).bind fun r5=>(ZE (Yq p0) (p1,r5,0,1)).bind fun j9=>j9.el (fun s12=>(some (s12.1,s12.2) : Option ((Vector (Vector UInt8 4) 4) × UInt8)).bind fun j217=>some (j217.2,j217.1)) (fun r=>some r)
theorem QQ (w0 : World) (p0 : Int) (p1 : (Vector (Vector UInt8 4) 4)) (r : UInt8 × (Vector (Vector UInt8 4) 4)) (hF : YY p0 p1 = some r) :
  Calls Tryz.prog 128 [vI p0,(Value.agg (enc p1).toArray)].toArray w0 (fun en w'=>∃ v,en = .returned v ∧ (v = (Value.tuple [vB r.1,(Value.agg (enc r.2).toArray)].toArray) ∧ Kept (Old w0) w0 w')):=by
 refine ZB (n:=153) Tryz.func128 rfl rfl (nbl rfl) rfl ?_
 intro a hE
 have hM:=M.start w0
 unfold YY at hF
 refine Zc (ZT (cs:=enc p1) hE hM Za ld rfl rfl fun b1 w a hM hE=>Ze hE Za ld rfl fun a hE=>ZH hE hM Za ld Ti fun b3 w a hM hE=>Zf (Zc ?_))
 obtain ⟨r5,e6,hF⟩:=bind_some hF
 refine Zw hE Za ld rfl cb153 (KM _  r5 e6) ?_
 rintro v w a ⟨rfl,hK⟩ hE
 have hM:=hM.keep hK
 refine ZH hE hM Za ld Ti fun b7 w a hM hE=>Zv (seg:=enc r5) (cs':=enc r5) hE hM Za rfl rfl rfl Ti (Flat.len _) (zle flq) (Flat.cell _) (Zr flq) fun w a hM hE=>Ze hE Za ld rfl fun a hE=>Zf (wp_seq (Zc (Zd hE Za ld rfl fun a hE=>Zf ?_)))
 obtain ⟨j9,hl10,hF11⟩:=bind_some hF
 refine ZL (fun a w=>∃ s12 : (Vector (Vector UInt8 4) 4) × UInt8,j9 = Fl.nx s12 ∧ Env 153 a [(5,(ptr b3 0)),(6,(ptr b7 0)),(7,vB s12.2)] ∧ M (Old w0) w0 w [raw b7 (enc s12.1),raw b3 (enc (Vector.replicate 4 (Vector.replicate 4 (0 : UInt8))))]) ?_ ?_
 ·skip
  refine wp_block ?_
  refine ZC (fun (s13 : (Vector (Vector UInt8 4) 4) × (Vector (Vector UInt8 4) 4) × Int × UInt8) a w=>Env 153 a [(0,vI p0),(3,(ptr b1 0)),(5,(ptr b3 0)),(6,(ptr b7 0)),(7,vB s13.2.2.2),(16,vI s13.2.2.1)] ∧ M (Old w0) w0 w [raw b7 (enc s13.2.1),raw b3 (enc (Vector.replicate 4 (Vector.replicate 4 (0 : UInt8)))),raw b1 (enc s13.1)]) hl10 ⟨hE.sub ⟨rfl,rfl,rfl,rfl,rfl,rfl,trivial⟩,hM⟩ ?_
  rintro s13 a w ⟨hE,hM⟩ o16 hs14 hx15
  unfold Yq at hs14
  refine Zc (Zi hE Za ld rfl rfl rfl fun a hE=>Zf (wp_seq ?_))
  refine Zp hE rfl ?_ ?_
  ·intro hb17
   have hs14:=Zz hs14 hb17
   refine wp_skip (Zu (wp_seq (wp_block (Zc (Zd hE Za ld rfl fun a hE=>Ze hE Za ld rfl fun a hE=>Zf (Zc (Zd hE Za ld rfl fun a hE=>Ze hE Za ld rfl fun a hE=>Zf ?_)))))))
   obtain ⟨j18,hl19,hF20⟩:=bind_some hs14
   refine ZQ (fun a w=>Env 153 a [(0,vI p0),(3,(ptr b1 0)),(5,(ptr b3 0)),(6,(ptr b7 0)),(7,vB s13.2.2.2),(8,vI s13.2.2.1),(9,vI j18),(16,vI s13.2.2.1)] ∧ M (Old w0) w0 w [raw b7 (enc s13.2.1),raw b3 (enc (Vector.replicate 4 (Vector.replicate 4 (0 : UInt8)))),raw b1 (enc s13.1)]) ?_ ?_
   ·skip
    refine wp_block ?_
    refine ZC (fun (s21 : Int) a w=>Env 153 a [(0,vI p0),(3,(ptr b1 0)),(5,(ptr b3 0)),(6,(ptr b7 0)),(7,vB s13.2.2.2),(8,vI s13.2.2.1),(9,vI s21),(16,vI s13.2.2.1)] ∧ M (Old w0) w0 w [raw b7 (enc s13.2.1),raw b3 (enc (Vector.replicate 4 (Vector.replicate 4 (0 : UInt8)))),raw b1 (enc s13.1)]) hl19 ⟨hE.sub ⟨rfl,rfl,rfl,rfl,rfl,rfl,rfl,rfl,trivial⟩,hM⟩ ?_
    rintro s21 a w ⟨hE,hM⟩ o24 hs22 hx23
    unfold VN at hs22
    refine wp_seq ?_
    obtain ⟨j25,hl26,hF27⟩:=bind_some hs22
    refine ZQ (fun a w=>Env 153 a [(0,vI p0),(3,(ptr b1 0)),(5,(ptr b3 0)),(6,(ptr b7 0)),(7,vB s13.2.2.2),(8,vI s13.2.2.1),(9,vI s21),(16,vI s13.2.2.1),(29,vT j25)] ∧ M (Old w0) w0 w [raw b7 (enc s13.2.1),raw b3 (enc (Vector.replicate 4 (Vector.replicate 4 (0 : UInt8)))),raw b1 (enc s13.1)]) ?_ ?_
    ·skip
     refine wp_region_lit (Zd hE Za ld rfl fun a hE=>Zi hE Za ld rfl rfl rfl fun a hE=>Zd hE Za ld rfl ?_); intro a hE
     refine yi (decide (s21 < 4)) (fun hb28=>?_) (fun hb28=>?_)
     ·have hl26:=Zz hl26 hb28
      refine Zd hE (Tf hE rfl (lkb rfl hb28)) (by decide) rfl fun a hE=>Zd hE (Tf hE rfl (lkb rfl hb28)) (by decide) rfl ?_; intro a hE
      obtain ⟨x30,hi29,hl26⟩:=bvx hl26
      refine Zk hE (Tf hE rfl (lkb rfl hb28)) (by decide) rfl rfl Tryz.underlying26 WE hi29.1 ?_; intro a hE
      obtain ⟨x33,hi32,hl26⟩:=bvx hl26
      refine Zk hE (Tf hE rfl (lkb rfl hb28)) (by decide) rfl rfl Tryz.underlying24 ty5 hi32.1 fun a hE=>ZA (v:=(vB x33)) hE (Tf hE rfl (lkb rfl hb28)) (by decide) rfl ty5 rfl (At.vec (At.vec (hM.rawAt (pre:=[_,_])) hi29.2) hi32.2) fun a hE=>Zi hE (Tf hE rfl (lkb rfl hb28)) (by decide) rfl rfl (yC x33 0) fun a hE=>zx hE Za ld (lkb rfl hb28) rfl fun a hE=>Zj ?_
      have ht35:=Option.some.inj hl26
      subst ht35
      refine Zl ?_
      exact ⟨hE.sub ⟨rfl,rfl,rfl,rfl,rfl,rfl,rfl,rfl,rfl,trivial⟩,hM⟩
     ·have hl26:=Zy hl26 hb28
      refine Qt hE rfl (lkb rfl hb28) rfl (by decide) fun a hE=>Qt hE rfl (lkb rfl hb28) rfl (by decide) fun a hE=>Qt hE rfl (lkb rfl hb28) rfl (by decide) fun a hE=>Qt hE rfl (lkb rfl hb28) rfl (by decide) fun a hE=>Qt hE rfl (lkb rfl hb28) rfl (by decide) fun a hE=>Qt hE rfl (lkb rfl hb28) rfl (by decide) fun a hE=>zp hE Za ld (lkb rfl hb28) rfl fun a hE=>Zj ?_
      have ht36:=Option.some.inj hl26
      subst ht36
      refine Zl ?_
      exact ⟨hE.sub ⟨rfl,rfl,rfl,rfl,rfl,rfl,rfl,rfl,rfl,trivial⟩,hM⟩
    ·skip
     rintro a w ⟨hE,hM⟩
     refine Zp hE rfl ?_ ?_
     ·intro hb37
      have hF27:=Zz hF27 hb37
      refine wp_skip (Zu (wp_block (wp_region_lit (Zd hE Za ld rfl fun a hE=>Zi hE Za ld rfl rfl rfl fun a hE=>Ze hE Za ld rfl fun a hE=>Zj (ZZ (Zl ?_))))))
      exact ⟨_,(ois hF27),hE.sub ⟨rfl,rfl,rfl,rfl,rfl,rfl,rfl,rfl,trivial⟩,hM⟩
     ·intro hb37
      have hF27:=Zy hF27 hb37
      refine wp_exit (Zm (Zm (Z0 ?_)))
      have ht38:=hx23 _ (ois hF27)
      subst ht38
      refine Zl ?_
      exact ⟨hE.sub ⟨rfl,rfl,rfl,rfl,rfl,rfl,rfl,rfl,trivial⟩,hM⟩
   ·skip
    rintro a w ⟨hE,hM⟩
    refine wp_seq (Zc (Zd hE Za ld rfl fun a hE=>Zi hE Za ld rfl rfl rfl fun a hE=>Zf ?_))
    refine Zp hE rfl ?_ ?_
    ·intro hb39
     have hF20:=Zz hF20 hb39
     refine Zc (YT (parts:=[]) (vs:=[]) (cs:=enc (Vector.replicate 4 (Vector.replicate 4 (0 : UInt8)))) hE Za ld rfl rfl Ti rfl WE Yw fun a hE=>Ze hE Za ld rfl ?_); intro a hE
     have hM:=hM.pull (pre:=[_])
     refine Zv (seg:=enc (Vector.replicate 4 (Vector.replicate 4 (0 : UInt8)))) (cs':=enc (Vector.replicate 4 (Vector.replicate 4 (0 : UInt8)))) hE hM Za rfl rfl rfl Ti (Flat.len _) (zle flq) (Flat.cell _) (Zr flq) fun w a hM hE=>Zf ?_
     have ht40:=hx15 _ (ois hF20)
     subst ht40
     have hr:=Option.some.inj hF11
     subst hr
     have hq41 : Yx Tryz.prog _ _ (.cell 5 26) _:=ZR hE rfl Ti rfl (hM.rawAt (pre:=[])) (Flat.len _) rfl
     have hM:=M.fst (l:=[]) hM
     exact wp_ret (Zq (Z1 (Zq (Zq (Z1 (Zq (Zq (AQ hE rfl (Zs hE rfl) hq41 ⟨_,rfl,rfl,hM.kept⟩))))))))
    ·intro hb39
     have hF20:=Zy hF20 hb39
     refine wp_skip (Zu ?_)
     obtain ⟨j42,hl43,hF44⟩:=bind_some hF20
     refine ZQ (fun a w=>Env 153 a [(0,vI p0),(3,(ptr b1 0)),(5,(ptr b3 0)),(6,(ptr b7 0)),(7,vB s13.2.2.2),(8,vI s13.2.2.1),(9,vI j18),(16,vI s13.2.2.1)] ∧ M (Old w0) w0 w [raw b7 (enc s13.2.1),raw b3 (enc (Vector.replicate 4 (Vector.replicate 4 (0 : UInt8)))),raw b1 (enc j42)]) ?_ ?_
     ·skip
      have hM:=hM.pull (pre:=[_,_])
      obtain ⟨x47,hi46,hl43⟩:=bvx hl43
      obtain ⟨x50,hi49,hl43⟩:=bvx hl43
      obtain ⟨x53,hi52,hl43⟩:=bvx hl43
      refine Te (n:=153) (hd:=[_,_,_,_,_,_,_,_,_,_]) (tl:=[_,_]) YN rfl rfl [35,36,37,38,39,40,41,42,43,162] (by decide) (fun D u w=>M (Old w0) w0 w ([raw b7 (enc s13.2.1),raw b3 (enc (Vector.replicate 4 (Vector.replicate 4 (0 : UInt8))))] ++ qL ([mkT 9 (raw b1 (enc s13.1)) (raw b1 (enc (s13.1.setIfInBounds (j18).toNat x47)))] : Mk) D u) ∧ GOk ([([],fun us v=>v = (vI j18)),([],fun us v=>v = (vI s13.2.2.1)),([],fun us v=>v = (vI s13.2.2.1)),([],fun us v=>v = (ptr b1 (0 + (s13.2.2.1).toNat * 4))),([],fun us v=>v = (Value.agg (enc x47).toArray)),([],fun us v=>v = (vI j18)),([],fun us v=>v = (ptr b1 (0 + (j18).toNat * 4))),([],fun us v=>v = (Value.agg (enc x50).toArray)),([],fun us v=>v = (ptr b1 (0 + (j18).toNat * 4))),([],fun us v=>True)] : Gs) D u) hE (fun u=>⟨M.qT (M.q0 hM.drew u),HU⟩) (ZJ (Zb ?_ (Zb ?_ (Zb ?_ (Zb ?_ (Zb ?_ (Zb ?_ (Zb ?_ (Zb ?_ (Zb ?_ (Zb ?_ ZF))))))))))) ?_
      ·intro a w ux45 D hE hI hD hdc hp
       have hM0:=hI.1
       have hM:=hI.1
       have hM:=hM.togA (pre:=[_,_]) (Bool.eq_false_iff.2 fun hx=>Bool.noConfusion (hD.symm.trans (hdc 9 _ _ rfl (List.mem_of_getElem? (i:=2) rfl) rfl hx)))
       exact Zd hE Za ld rfl fun a hE=>⟨_,_,rfl,hE,M.qKeep hM0 rfl,hI.2.put hD rfl Z4 rfl⟩
      ·intro a w ux45 D hE hI hD hdc hp
       have hM0:=hI.1
       exact Zd hE Za ld rfl fun a hE=>⟨_,_,rfl,hE,M.qKeep hM0 rfl,hI.2.put hD rfl Z4 rfl⟩
      ·intro a w ux45 D hE hI hD hdc hp
       have hM0:=hI.1
       have hM:=hI.1
       have hM:=hM.togA (pre:=[_,_]) (Bool.eq_false_iff.2 fun hx=>Bool.noConfusion (hD.symm.trans (hdc 9 _ _ rfl (List.mem_of_getElem? (i:=4) rfl) rfl hx)))
       exact Zd hE Za ld rfl fun a hE=>⟨_,_,rfl,hE,M.qKeep hM0 rfl,hI.2.put hD rfl Z4 rfl⟩
      ·intro a w ux45 D hE hI hD hdc hp
       have d2 : D 2 = true:=hp 0 _ rfl rfl
       have g2:=hI.2 2 d2 _ rfl
       have f2 : ux45 2 = (vI s13.2.2.1):=g2.2
       have hM0:=hI.1
       have hM:=hI.1
       have hM:=hM.togA (pre:=[_,_]) (Bool.eq_false_iff.2 fun hx=>Bool.noConfusion (hD.symm.trans (hdc 9 _ _ rfl (List.mem_of_getElem? (i:=5) rfl) rfl hx)))
       exact Zk hE Za ld rfl (lk rfl f2) Tryz.underlying26 WE hi46.1 fun a hE=>⟨_,_,rfl,hE,M.qKeep hM0 rfl,hI.2.put hD rfl Z4 rfl⟩
      ·intro a w ux45 D hE hI hD hdc hp
       have d3 : D 3 = true:=hp 0 _ rfl rfl
       have g3:=hI.2 3 d3 _ rfl
       have f3 : ux45 3 = (ptr b1 (0 + (s13.2.2.1).toNat * 4)):=g3.2
       have hM0:=hI.1
       have hM:=hI.1
       have hM:=hM.togA (pre:=[_,_]) (Bool.eq_false_iff.2 fun hx=>Bool.noConfusion (hD.symm.trans (hdc 9 _ _ rfl (List.mem_of_getElem? (i:=1) rfl) rfl hx)))
       exact Zo (cs:=enc x47) hE Za ld (lk rfl f3) WE rfl (At.vec (hM.rawAt (pre:=[_,_])) hi46.2) (Flat.len _) fun a hE=>⟨_,_,rfl,hE,M.qKeep hM0 rfl,hI.2.put hD rfl Z4 rfl⟩
      ·intro a w ux45 D hE hI hD hdc hp
       have hM0:=hI.1
       exact Zd hE Za ld rfl fun a hE=>⟨_,_,rfl,hE,M.qKeep hM0 rfl,hI.2.put hD rfl Z4 rfl⟩
      ·intro a w ux45 D hE hI hD hdc hp
       have d5 : D 5 = true:=hp 0 _ rfl rfl
       have g5:=hI.2 5 d5 _ rfl
       have f5 : ux45 5 = (vI j18):=g5.2
       have hM0:=hI.1
       have hM:=hI.1
       have hM:=hM.togA (pre:=[_,_]) (Bool.eq_false_iff.2 fun hx=>Bool.noConfusion (hD.symm.trans (hdc 9 _ _ rfl (List.mem_of_getElem? (i:=8) rfl) rfl hx)))
       exact Zk hE Za ld rfl (lk rfl f5) Tryz.underlying26 WE hi49.1 fun a hE=>⟨_,_,rfl,hE,M.qKeep hM0 rfl,hI.2.put hD rfl Z4 rfl⟩
      ·intro a w ux45 D hE hI hD hdc hp
       have d6 : D 6 = true:=hp 0 _ rfl rfl
       have g6:=hI.2 6 d6 _ rfl
       have f6 : ux45 6 = (ptr b1 (0 + (j18).toNat * 4)):=g6.2
       have hM0:=hI.1
       have hM:=hI.1
       have hM:=hM.togA (pre:=[_,_]) (Bool.eq_false_iff.2 fun hx=>Bool.noConfusion (hD.symm.trans (hdc 9 _ _ rfl (List.mem_of_getElem? (i:=9) rfl) rfl hx)))
       exact Zo (cs:=enc x50) hE Za ld (lk rfl f6) WE rfl (At.vec (hM.rawAt (pre:=[_,_])) hi49.2) (Flat.len _) fun a hE=>⟨_,_,rfl,hE,M.qKeep hM0 rfl,hI.2.put hD rfl Z4 rfl⟩
      ·intro a w ux45 D hE hI hD hdc hp
       have d0 : D 0 = true:=hp 0 _ rfl rfl
       have g0:=hI.2 0 d0 _ rfl
       have f0 : ux45 0 = (vI j18):=g0.2
       have hM0:=hI.1
       have hM:=hI.1
       have hM:=hM.togA (pre:=[_,_]) (Bool.eq_false_iff.2 fun hx=>Bool.noConfusion (hD.symm.trans (hdc 9 _ _ rfl (List.mem_of_getElem? (i:=0) rfl) rfl hx)))
       exact Zk hE Za ld rfl (lk rfl f0) Tryz.underlying26 WE hi52.1 fun a hE=>⟨_,_,rfl,hE,M.qKeep hM0 rfl,hI.2.put hD rfl Z4 rfl⟩
      ·intro a w ux45 D hE hI hD hdc hp
       have d4 : D 4 = true:=hp 1 _ rfl rfl
       have g4:=hI.2 4 d4 _ rfl
       have f4 : ux45 4 = (Value.agg (enc x47).toArray):=g4.2
       have d8 : D 8 = true:=hp 0 _ rfl rfl
       have g8:=hI.2 8 d8 _ rfl
       have f8 : ux45 8 = (ptr b1 (0 + (j18).toNat * 4)):=g8.2
       have hM0:=hI.1
       have hM:=(hI.1.togA (pre:=[_,_]) hD).pull (pre:=[_,_])
       exact Zv (seg:=enc x47) (cs':=enc (s13.1.setIfInBounds (j18).toNat x47)) hE hM Za (lk rfl f8) (lk rfl f4) rfl WE (Flat.len _) (ZM (v:=s13.1) (x:=x47) hi52.1) (Flat.cell _) (ZD (v:=s13.1) (x:=x47) hi52.1) fun w a hM hE=>⟨undef,_,rfl,Env.dummy hE (by decide),M.qTog (mk1:=[]) (mk2:=[]) hM rfl,hI.2.put hD rfl Z4 trivial⟩
      ·intro a w ux45 D hE hI hall
       have hM:=hI.1
       have d0 : D 0 = true:=hall 0 (by decide)
       have d1 : D 1 = true:=hall 1 (by decide)
       have d2 : D 2 = true:=hall 2 (by decide)
       have d3 : D 3 = true:=hall 3 (by decide)
       have d4 : D 4 = true:=hall 4 (by decide)
       have d5 : D 5 = true:=hall 5 (by decide)
       have d6 : D 6 = true:=hall 6 (by decide)
       have d7 : D 7 = true:=hall 7 (by decide)
       have d8 : D 8 = true:=hall 8 (by decide)
       have d9 : D 9 = true:=hall 9 (by decide)
       have f0 : ux45 0 = (vI j18):=(hI.2 0 d0 _ rfl).2
       have f1 : ux45 1 = (vI s13.2.2.1):=(hI.2 1 d1 _ rfl).2
       have f2 : ux45 2 = (vI s13.2.2.1):=(hI.2 2 d2 _ rfl).2
       have f3 : ux45 3 = (ptr b1 (0 + (s13.2.2.1).toNat * 4)):=(hI.2 3 d3 _ rfl).2
       have f4 : ux45 4 = (Value.agg (enc x47).toArray):=(hI.2 4 d4 _ rfl).2
       have f5 : ux45 5 = (vI j18):=(hI.2 5 d5 _ rfl).2
       have f6 : ux45 6 = (ptr b1 (0 + (j18).toNat * 4)):=(hI.2 6 d6 _ rfl).2
       have f7 : ux45 7 = (Value.agg (enc x50).toArray):=(hI.2 7 d7 _ rfl).2
       have f8 : ux45 8 = (ptr b1 (0 + (j18).toNat * 4)):=(hI.2 8 d8 _ rfl).2
       have hM:=hM.togB (pre:=[_,_]) d9
       have hE:=hE.sub (e':=[(36,vI s13.2.2.1),(42,(Value.agg (enc x50).toArray)),(0,vI p0),(3,(ptr b1 0)),(5,(ptr b3 0)),(6,(ptr b7 0)),(7,vB s13.2.2.2),(8,vI s13.2.2.1),(9,vI j18),(16,vI s13.2.2.1),(32,vI j18),(33,(vT (j18 == 4)))]) ⟨lk rfl f1,lk rfl f7,rfl,rfl,rfl,rfl,rfl,rfl,rfl,rfl,rfl,rfl,trivial⟩
       obtain ⟨x56,hi55,hl43⟩:=bvx hl43
       refine Zk hE Za ld rfl rfl Tryz.underlying26 WE hi55.1 ?_; intro a hE
       have hM:=hM.pull (pre:=[_,_])
       refine Zv (seg:=enc x50) (cs':=enc ((s13.1.setIfInBounds (j18).toNat x47).setIfInBounds (s13.2.2.1).toNat x50)) hE hM Za rfl rfl rfl WE (Flat.len _) (ZM (v:=(s13.1.setIfInBounds (j18).toNat x47)) (x:=x50) hi55.1) (Flat.cell _) (ZD (v:=(s13.1.setIfInBounds (j18).toNat x47)) (x:=x50) hi55.1) fun w a hM hE=>Zj ?_
       have ht58:=Option.some.inj hl43
       subst ht58
       refine Zl ?_
       have hM:=(hM.pull (pre:=[_,_])).pull (pre:=[_,_])
       exact ⟨hE.sub ⟨rfl,rfl,rfl,rfl,rfl,rfl,rfl,rfl,trivial⟩,hM⟩
     ·skip
      rintro a w ⟨hE,hM⟩
      obtain ⟨j59,hl60,hF61⟩:=bind_some hF44
      refine ZQ (fun a w=>Env 153 a [(0,vI p0),(3,(ptr b1 0)),(5,(ptr b3 0)),(6,(ptr b7 0)),(7,vB s13.2.2.2),(8,vI s13.2.2.1),(16,vI s13.2.2.1)] ∧ M (Old w0) w0 w [raw b7 (enc j59),raw b3 (enc (Vector.replicate 4 (Vector.replicate 4 (0 : UInt8)))),raw b1 (enc j42)]) ?_ ?_
      ·skip
       obtain ⟨x64,hi63,hl60⟩:=bvx hl60
       obtain ⟨x67,hi66,hl60⟩:=bvx hl60
       obtain ⟨x70,hi69,hl60⟩:=bvx hl60
       refine Te (n:=153) (hd:=[_,_,_,_,_,_,_,_,_,_]) (tl:=[_,_]) YN rfl rfl [45,46,47,48,49,50,51,52,53,162] (by decide) (fun D u w=>M (Old w0) w0 w ([raw b3 (enc (Vector.replicate 4 (Vector.replicate 4 (0 : UInt8)))),raw b1 (enc j42)] ++ qL ([mkT 9 (raw b7 (enc s13.2.1)) (raw b7 (enc (s13.2.1.setIfInBounds (j18).toNat x64)))] : Mk) D u) ∧ GOk ([([],fun us v=>v = (vI j18)),([],fun us v=>v = (vI s13.2.2.1)),([],fun us v=>v = (vI s13.2.2.1)),([],fun us v=>v = (ptr b7 (0 + (s13.2.2.1).toNat * 4))),([],fun us v=>v = (Value.agg (enc x64).toArray)),([],fun us v=>v = (vI j18)),([],fun us v=>v = (ptr b7 (0 + (j18).toNat * 4))),([],fun us v=>v = (Value.agg (enc x67).toArray)),([],fun us v=>v = (ptr b7 (0 + (j18).toNat * 4))),([],fun us v=>True)] : Gs) D u) hE (fun u=>⟨M.qT (M.q0 hM.drew u),HU⟩) (ZJ (Zb ?_ (Zb ?_ (Zb ?_ (Zb ?_ (Zb ?_ (Zb ?_ (Zb ?_ (Zb ?_ (Zb ?_ (Zb ?_ ZF))))))))))) ?_
       ·intro a w ux62 D hE hI hD hdc hp
        have hM0:=hI.1
        have hM:=hI.1
        have hM:=hM.togA (pre:=[_,_]) (Bool.eq_false_iff.2 fun hx=>Bool.noConfusion (hD.symm.trans (hdc 9 _ _ rfl (List.mem_of_getElem? (i:=2) rfl) rfl hx)))
        exact Zd hE Za ld rfl fun a hE=>⟨_,_,rfl,hE,M.qKeep hM0 rfl,hI.2.put hD rfl Z4 rfl⟩
       ·intro a w ux62 D hE hI hD hdc hp
        have hM0:=hI.1
        exact Zd hE Za ld rfl fun a hE=>⟨_,_,rfl,hE,M.qKeep hM0 rfl,hI.2.put hD rfl Z4 rfl⟩
       ·intro a w ux62 D hE hI hD hdc hp
        have hM0:=hI.1
        have hM:=hI.1
        have hM:=hM.togA (pre:=[_,_]) (Bool.eq_false_iff.2 fun hx=>Bool.noConfusion (hD.symm.trans (hdc 9 _ _ rfl (List.mem_of_getElem? (i:=4) rfl) rfl hx)))
        exact Zd hE Za ld rfl fun a hE=>⟨_,_,rfl,hE,M.qKeep hM0 rfl,hI.2.put hD rfl Z4 rfl⟩
       ·intro a w ux62 D hE hI hD hdc hp
        have d2 : D 2 = true:=hp 0 _ rfl rfl
        have g2:=hI.2 2 d2 _ rfl
        have f2 : ux62 2 = (vI s13.2.2.1):=g2.2
        have hM0:=hI.1
        have hM:=hI.1
        have hM:=hM.togA (pre:=[_,_]) (Bool.eq_false_iff.2 fun hx=>Bool.noConfusion (hD.symm.trans (hdc 9 _ _ rfl (List.mem_of_getElem? (i:=5) rfl) rfl hx)))
        exact Zk hE Za ld rfl (lk rfl f2) Tryz.underlying26 WE hi63.1 fun a hE=>⟨_,_,rfl,hE,M.qKeep hM0 rfl,hI.2.put hD rfl Z4 rfl⟩
       ·intro a w ux62 D hE hI hD hdc hp
        have d3 : D 3 = true:=hp 0 _ rfl rfl
        have g3:=hI.2 3 d3 _ rfl
        have f3 : ux62 3 = (ptr b7 (0 + (s13.2.2.1).toNat * 4)):=g3.2
        have hM0:=hI.1
        have hM:=hI.1
        have hM:=hM.togA (pre:=[_,_]) (Bool.eq_false_iff.2 fun hx=>Bool.noConfusion (hD.symm.trans (hdc 9 _ _ rfl (List.mem_of_getElem? (i:=1) rfl) rfl hx)))
        exact Zo (cs:=enc x64) hE Za ld (lk rfl f3) WE rfl (At.vec (hM.rawAt (pre:=[_,_])) hi63.2) (Flat.len _) fun a hE=>⟨_,_,rfl,hE,M.qKeep hM0 rfl,hI.2.put hD rfl Z4 rfl⟩
       ·intro a w ux62 D hE hI hD hdc hp
        have hM0:=hI.1
        exact Zd hE Za ld rfl fun a hE=>⟨_,_,rfl,hE,M.qKeep hM0 rfl,hI.2.put hD rfl Z4 rfl⟩
       ·intro a w ux62 D hE hI hD hdc hp
        have d5 : D 5 = true:=hp 0 _ rfl rfl
        have g5:=hI.2 5 d5 _ rfl
        have f5 : ux62 5 = (vI j18):=g5.2
        have hM0:=hI.1
        have hM:=hI.1
        have hM:=hM.togA (pre:=[_,_]) (Bool.eq_false_iff.2 fun hx=>Bool.noConfusion (hD.symm.trans (hdc 9 _ _ rfl (List.mem_of_getElem? (i:=8) rfl) rfl hx)))
        exact Zk hE Za ld rfl (lk rfl f5) Tryz.underlying26 WE hi66.1 fun a hE=>⟨_,_,rfl,hE,M.qKeep hM0 rfl,hI.2.put hD rfl Z4 rfl⟩
       ·intro a w ux62 D hE hI hD hdc hp
        have d6 : D 6 = true:=hp 0 _ rfl rfl
        have g6:=hI.2 6 d6 _ rfl
        have f6 : ux62 6 = (ptr b7 (0 + (j18).toNat * 4)):=g6.2
        have hM0:=hI.1
        have hM:=hI.1
        have hM:=hM.togA (pre:=[_,_]) (Bool.eq_false_iff.2 fun hx=>Bool.noConfusion (hD.symm.trans (hdc 9 _ _ rfl (List.mem_of_getElem? (i:=9) rfl) rfl hx)))
        exact Zo (cs:=enc x67) hE Za ld (lk rfl f6) WE rfl (At.vec (hM.rawAt (pre:=[_,_])) hi66.2) (Flat.len _) fun a hE=>⟨_,_,rfl,hE,M.qKeep hM0 rfl,hI.2.put hD rfl Z4 rfl⟩
       ·intro a w ux62 D hE hI hD hdc hp
        have d0 : D 0 = true:=hp 0 _ rfl rfl
        have g0:=hI.2 0 d0 _ rfl
        have f0 : ux62 0 = (vI j18):=g0.2
        have hM0:=hI.1
        have hM:=hI.1
        have hM:=hM.togA (pre:=[_,_]) (Bool.eq_false_iff.2 fun hx=>Bool.noConfusion (hD.symm.trans (hdc 9 _ _ rfl (List.mem_of_getElem? (i:=0) rfl) rfl hx)))
        exact Zk hE Za ld rfl (lk rfl f0) Tryz.underlying26 WE hi69.1 fun a hE=>⟨_,_,rfl,hE,M.qKeep hM0 rfl,hI.2.put hD rfl Z4 rfl⟩
       ·intro a w ux62 D hE hI hD hdc hp
        have d4 : D 4 = true:=hp 1 _ rfl rfl
        have g4:=hI.2 4 d4 _ rfl
        have f4 : ux62 4 = (Value.agg (enc x64).toArray):=g4.2
        have d8 : D 8 = true:=hp 0 _ rfl rfl
        have g8:=hI.2 8 d8 _ rfl
        have f8 : ux62 8 = (ptr b7 (0 + (j18).toNat * 4)):=g8.2
        have hM0:=hI.1
        have hM:=(hI.1.togA (pre:=[_,_]) hD).pull (pre:=[_,_])
        exact Zv (seg:=enc x64) (cs':=enc (s13.2.1.setIfInBounds (j18).toNat x64)) hE hM Za (lk rfl f8) (lk rfl f4) rfl WE (Flat.len _) (ZM (v:=s13.2.1) (x:=x64) hi69.1) (Flat.cell _) (ZD (v:=s13.2.1) (x:=x64) hi69.1) fun w a hM hE=>⟨undef,_,rfl,Env.dummy hE (by decide),M.qTog (mk1:=[]) (mk2:=[]) hM rfl,hI.2.put hD rfl Z4 trivial⟩
       ·intro a w ux62 D hE hI hall
        have hM:=hI.1
        have d0 : D 0 = true:=hall 0 (by decide)
        have d1 : D 1 = true:=hall 1 (by decide)
        have d2 : D 2 = true:=hall 2 (by decide)
        have d3 : D 3 = true:=hall 3 (by decide)
        have d4 : D 4 = true:=hall 4 (by decide)
        have d5 : D 5 = true:=hall 5 (by decide)
        have d6 : D 6 = true:=hall 6 (by decide)
        have d7 : D 7 = true:=hall 7 (by decide)
        have d8 : D 8 = true:=hall 8 (by decide)
        have d9 : D 9 = true:=hall 9 (by decide)
        have f0 : ux62 0 = (vI j18):=(hI.2 0 d0 _ rfl).2
        have f1 : ux62 1 = (vI s13.2.2.1):=(hI.2 1 d1 _ rfl).2
        have f2 : ux62 2 = (vI s13.2.2.1):=(hI.2 2 d2 _ rfl).2
        have f3 : ux62 3 = (ptr b7 (0 + (s13.2.2.1).toNat * 4)):=(hI.2 3 d3 _ rfl).2
        have f4 : ux62 4 = (Value.agg (enc x64).toArray):=(hI.2 4 d4 _ rfl).2
        have f5 : ux62 5 = (vI j18):=(hI.2 5 d5 _ rfl).2
        have f6 : ux62 6 = (ptr b7 (0 + (j18).toNat * 4)):=(hI.2 6 d6 _ rfl).2
        have f7 : ux62 7 = (Value.agg (enc x67).toArray):=(hI.2 7 d7 _ rfl).2
        have f8 : ux62 8 = (ptr b7 (0 + (j18).toNat * 4)):=(hI.2 8 d8 _ rfl).2
        have hM:=hM.togB (pre:=[_,_]) d9
        have hE:=hE.sub (e':=[(46,vI s13.2.2.1),(52,(Value.agg (enc x67).toArray)),(0,vI p0),(3,(ptr b1 0)),(5,(ptr b3 0)),(6,(ptr b7 0)),(7,vB s13.2.2.2),(8,vI s13.2.2.1),(9,vI j18),(16,vI s13.2.2.1)]) ⟨lk rfl f1,lk rfl f7,rfl,rfl,rfl,rfl,rfl,rfl,rfl,rfl,trivial⟩
        obtain ⟨x73,hi72,hl60⟩:=bvx hl60
        refine Zk hE Za ld rfl rfl Tryz.underlying26 WE hi72.1 ?_; intro a hE
        have hM:=hM.pull (pre:=[_,_])
        refine Zv (seg:=enc x67) (cs':=enc ((s13.2.1.setIfInBounds (j18).toNat x64).setIfInBounds (s13.2.2.1).toNat x67)) hE hM Za rfl rfl rfl WE (Flat.len _) (ZM (v:=(s13.2.1.setIfInBounds (j18).toNat x64)) (x:=x67) hi72.1) (Flat.cell _) (ZD (v:=(s13.2.1.setIfInBounds (j18).toNat x64)) (x:=x67) hi72.1) fun w a hM hE=>Zj ?_
        have ht75:=Option.some.inj hl60
        subst ht75
        refine Zl ?_
        exact ⟨hE.sub ⟨rfl,rfl,rfl,rfl,rfl,rfl,rfl,trivial⟩,hM⟩
      ·skip
       rintro a w ⟨hE,hM⟩
       refine Zc (Zd hE Za ld rfl fun a hE=>Zd hE Za ld rfl fun a hE=>Zd hE Za ld rfl fun a hE=>Zd hE Za ld rfl ?_); intro a hE
       obtain ⟨x77,hi76,hF61⟩:=bvx hF61
       refine Zk hE Za ld rfl rfl Tryz.underlying26 WE hi76.1 ?_; intro a hE
       obtain ⟨x80,hi79,hF61⟩:=bvx hF61
       refine Zk hE Za ld rfl rfl Tryz.underlying24 ty5 hi79.1 fun a hE=>ZA (v:=(vB x80)) hE Za ld rfl ty5 rfl (At.vec (At.vec (hM.rawAt (pre:=[_,_])) hi76.2) hi79.2) ?_; intro a hE
       obtain ⟨r82,e83,hF61⟩:=bind_some hF61
       refine Zw hE Za ld rfl Jk (Yr _ p0 s13.2.2.2 x80 r82 e83) ?_
       rintro v w a ⟨rfl,hK⟩ hE
       have hM:=hM.keep hK
       refine Ze hE Za ld rfl fun a hE=>Zf (Zc (Zd hE Za ld rfl fun a hE=>Zd hE Za ld rfl fun a hE=>Zd hE Za ld rfl ?_)); intro a hE
       obtain ⟨x85,hi84,hF61⟩:=bvx hF61
       refine Zk hE Za ld rfl rfl Tryz.underlying26 WE hi84.1 ?_; intro a hE
       obtain ⟨x88,hi87,hF61⟩:=bvx hF61
       refine Zk hE Za ld rfl rfl Tryz.underlying24 ty5 hi87.1 fun a hE=>ZA (v:=(vB x88)) hE Za ld rfl ty5 rfl (At.vec (At.vec (hM.rawAt (pre:=[_,_])) hi84.2) hi87.2) ?_; intro a hE
       obtain ⟨r90,e91,hF61⟩:=bind_some hF61
       refine Zw hE Za ld rfl cb44 (VV _ p0 x88 r90 e91) ?_
       rintro v w a ⟨rfl,hK⟩ hE
       have hM:=hM.keep hK
       refine Ze hE Za ld rfl fun a hE=>Zf (wp_seq (Zc (Zd hE Za ld rfl fun a hE=>Zf ?_)))
       obtain ⟨j92,hl93,hF94⟩:=bind_some hF61
       refine ZL (fun a w=>Env 153 a [(0,vI p0),(3,(ptr b1 0)),(5,(ptr b3 0)),(6,(ptr b7 0)),(7,vB r82),(8,vI s13.2.2.1),(16,vI s13.2.2.1)] ∧ M (Old w0) w0 w [raw b7 (enc j92.2),raw b3 (enc (Vector.replicate 4 (Vector.replicate 4 (0 : UInt8)))),raw b1 (enc j92.1)]) ?_ ?_
       ·skip
        refine wp_block ?_
        refine ZC (fun (s95 : (Vector (Vector UInt8 4) 4) × (Vector (Vector UInt8 4) 4) × Int) a w=>Env 153 a [(0,vI p0),(3,(ptr b1 0)),(5,(ptr b3 0)),(6,(ptr b7 0)),(7,vB r82),(8,vI s13.2.2.1),(10,vB r90),(16,vI s13.2.2.1),(70,vI s95.2.2)] ∧ M (Old w0) w0 w [raw b7 (enc s95.2.1),raw b3 (enc (Vector.replicate 4 (Vector.replicate 4 (0 : UInt8)))),raw b1 (enc s95.1)]) hl93 ⟨hE.sub ⟨rfl,rfl,rfl,rfl,rfl,rfl,rfl,rfl,rfl,trivial⟩,hM⟩ ?_
        rintro s95 a w ⟨hE,hM⟩ o98 hs96 hx97
        unfold Xm at hs96
        refine Zc (Zi hE Za ld rfl rfl rfl fun a hE=>Zf (wp_seq ?_))
        refine Zp hE rfl ?_ ?_
        ·intro hb99
         have hs96:=Zz hs96 hb99
         refine wp_skip (Zu (wp_seq (wp_block (Zc (Zd hE Za ld rfl fun a hE=>Ze hE Za ld rfl fun a hE=>Zf ?_)))))
         have hM:=hM.pull (pre:=[_,_])
         obtain ⟨x102,hi101,hs96⟩:=bvx hs96
         obtain ⟨x105,hi104,hs96⟩:=bvx hs96
         obtain ⟨r107,e108,hs96⟩:=bind_some hs96
         obtain ⟨x110,hi109,hs96⟩:=bvx hs96
         obtain ⟨x113,hi112,hs96⟩:=bvx hs96
         obtain ⟨r115,e116,hs96⟩:=bind_some hs96
         obtain ⟨x118,hi117,hs96⟩:=bvx hs96
         obtain ⟨x121,hi120,hs96⟩:=bvx hs96
         obtain ⟨x124,hi123,hs96⟩:=bvx hs96
         refine Te (n:=153) (hd:=[_,_,_,_,_,_,_,_,_,_,_,_,_,_,_,_,_,_,_,_,_,_,_,_]) (tl:=[_,_]) YN rfl rfl [73,74,75,76,77,78,79,80,81,82,83,84,85,86,87,88,89,90,91,92,93,94,175,95] (by decide) (fun D u w=>M (Old w0) w0 w ([raw b7 (enc s95.2.1),raw b3 (enc (Vector.replicate 4 (Vector.replicate 4 (0 : UInt8))))] ++ qL ([mkT 22 (raw b1 (enc s95.1)) (raw b1 (enc (s95.1.setIfInBounds (s13.2.2.1).toNat (x118.setIfInBounds (s95.2.2).toNat r107))))] : Mk) D u) ∧ GOk ([([],fun us v=>v = (vI s13.2.2.1)),([],fun us v=>v = (vI s95.2.2)),([],fun us v=>v = (vI s13.2.2.1)),([],fun us v=>v = (vI s95.2.2)),([],fun us v=>v = (vI p0)),([],fun us v=>v = (vI s13.2.2.1)),([],fun us v=>v = (vI s95.2.2)),([],fun us v=>v = (ptr b1 (0 + (s13.2.2.1).toNat * 4))),([],fun us v=>v = (ptr b1 (0 + (s13.2.2.1).toNat * 4 + (s95.2.2).toNat * 1))),([],fun us v=>v = (vB x105)),([],fun us v=>v = (vB r90)),([],fun us v=>v = (vB r107)),([],fun us v=>v = (vI p0)),([],fun us v=>v = (vI s13.2.2.1)),([],fun us v=>v = (vI s95.2.2)),([],fun us v=>v = (ptr b7 (0 + (s13.2.2.1).toNat * 4))),([],fun us v=>v = (ptr b7 (0 + (s13.2.2.1).toNat * 4 + (s95.2.2).toNat * 1))),([],fun us v=>v = (vB x113)),([],fun us v=>v = (vB r90)),([],fun us v=>v = (vB r115)),([],fun us v=>v = (ptr b1 (0 + (s13.2.2.1).toNat * 4))),([],fun us v=>v = (ptr b1 (0 + (s13.2.2.1).toNat * 4 + (s95.2.2).toNat * 1))),([],fun us v=>True),([],fun us v=>v = (ptr b7 (0 + (s13.2.2.1).toNat * 4)))] : Gs) D u) hE (fun u=>⟨M.qT (M.q0 hM.drew u),HU⟩) (ZJ (Zb ?_ (Zb ?_ (Zb ?_ (Zb ?_ (Zb ?_ (Zb ?_ (Zb ?_ (Zb ?_ (Zb ?_ (Zb ?_ (Zb ?_ (Zb ?_ (Zb ?_ (Zb ?_ (Zb ?_ (Zb ?_ (Zb ?_ (Zb ?_ (Zb ?_ (Zb ?_ (Zb ?_ (Zb ?_ (Zb ?_ (Zb ?_ ZF))))))))))))))))))))))))) ?_
         ·intro a w ux100 D hE hI hD hdc hp
          have hM0:=hI.1
          have hM:=hI.1
          have hM:=hM.togA (pre:=[_,_]) (Bool.eq_false_iff.2 fun hx=>Bool.noConfusion (hD.symm.trans (hdc 22 _ _ rfl (List.mem_of_getElem? (i:=3) rfl) rfl hx)))
          exact Zd hE Za ld rfl fun a hE=>⟨_,_,rfl,hE,M.qKeep hM0 rfl,hI.2.put hD rfl Z4 rfl⟩
         ·intro a w ux100 D hE hI hD hdc hp
          have hM0:=hI.1
          have hM:=hI.1
          have hM:=hM.togA (pre:=[_,_]) (Bool.eq_false_iff.2 fun hx=>Bool.noConfusion (hD.symm.trans (hdc 22 _ _ rfl (List.mem_of_getElem? (i:=4) rfl) rfl hx)))
          exact Zd hE Za ld rfl fun a hE=>⟨_,_,rfl,hE,M.qKeep hM0 rfl,hI.2.put hD rfl Z4 rfl⟩
         ·intro a w ux100 D hE hI hD hdc hp
          have hM0:=hI.1
          exact Zd hE Za ld rfl fun a hE=>⟨_,_,rfl,hE,M.qKeep hM0 rfl,hI.2.put hD rfl Z4 rfl⟩
         ·intro a w ux100 D hE hI hD hdc hp
          have hM0:=hI.1
          exact Zd hE Za ld rfl fun a hE=>⟨_,_,rfl,hE,M.qKeep hM0 rfl,hI.2.put hD rfl Z4 rfl⟩
         ·intro a w ux100 D hE hI hD hdc hp
          have hM0:=hI.1
          have hM:=hI.1
          have hM:=hM.togA (pre:=[_,_]) (Bool.eq_false_iff.2 fun hx=>Bool.noConfusion (hD.symm.trans (hdc 22 _ _ rfl (List.mem_of_getElem? (i:=7) rfl) rfl hx)))
          exact Zd hE Za ld rfl fun a hE=>⟨_,_,rfl,hE,M.qKeep hM0 rfl,hI.2.put hD rfl Z4 rfl⟩
         ·intro a w ux100 D hE hI hD hdc hp
          have hM0:=hI.1
          have hM:=hI.1
          have hM:=hM.togA (pre:=[_,_]) (Bool.eq_false_iff.2 fun hx=>Bool.noConfusion (hD.symm.trans (hdc 22 _ _ rfl (List.mem_of_getElem? (i:=8) rfl) rfl hx)))
          exact Zd hE Za ld rfl fun a hE=>⟨_,_,rfl,hE,M.qKeep hM0 rfl,hI.2.put hD rfl Z4 rfl⟩
         ·intro a w ux100 D hE hI hD hdc hp
          have hM0:=hI.1
          have hM:=hI.1
          have hM:=hM.togA (pre:=[_,_]) (Bool.eq_false_iff.2 fun hx=>Bool.noConfusion (hD.symm.trans (hdc 22 _ _ rfl (List.mem_of_getElem? (i:=9) rfl) rfl hx)))
          exact Zd hE Za ld rfl fun a hE=>⟨_,_,rfl,hE,M.qKeep hM0 rfl,hI.2.put hD rfl Z4 rfl⟩
         ·intro a w ux100 D hE hI hD hdc hp
          have d5 : D 5 = true:=hp 0 _ rfl rfl
          have g5:=hI.2 5 d5 _ rfl
          have f5 : ux100 5 = (vI s13.2.2.1):=g5.2
          have hM0:=hI.1
          have hM:=hI.1
          have hM:=hM.togA (pre:=[_,_]) (Bool.eq_false_iff.2 fun hx=>Bool.noConfusion (hD.symm.trans (hdc 22 _ _ rfl (List.mem_of_getElem? (i:=10) rfl) rfl hx)))
          exact Zk hE Za ld rfl (lk rfl f5) Tryz.underlying26 WE hi101.1 fun a hE=>⟨_,_,rfl,hE,M.qKeep hM0 rfl,hI.2.put hD rfl Z4 rfl⟩
         ·intro a w ux100 D hE hI hD hdc hp
          have d6 : D 6 = true:=hp 1 _ rfl rfl
          have g6:=hI.2 6 d6 _ rfl
          have f6 : ux100 6 = (vI s95.2.2):=g6.2
          have d7 : D 7 = true:=hp 0 _ rfl rfl
          have g7:=hI.2 7 d7 _ rfl
          have f7 : ux100 7 = (ptr b1 (0 + (s13.2.2.1).toNat * 4)):=g7.2
          have hM0:=hI.1
          have hM:=hI.1
          have hM:=hM.togA (pre:=[_,_]) (Bool.eq_false_iff.2 fun hx=>Bool.noConfusion (hD.symm.trans (hdc 22 _ _ rfl (List.mem_of_getElem? (i:=11) rfl) rfl hx)))
          exact Zk hE Za ld (lk rfl f7) (lk rfl f6) Tryz.underlying24 ty5 hi104.1 fun a hE=>⟨_,_,rfl,hE,M.qKeep hM0 rfl,hI.2.put hD rfl Z4 rfl⟩
         ·intro a w ux100 D hE hI hD hdc hp
          have d8 : D 8 = true:=hp 0 _ rfl rfl
          have g8:=hI.2 8 d8 _ rfl
          have f8 : ux100 8 = (ptr b1 (0 + (s13.2.2.1).toNat * 4 + (s95.2.2).toNat * 1)):=g8.2
          have hM0:=hI.1
          have hM:=hI.1
          have hM:=hM.togA (pre:=[_,_]) (Bool.eq_false_iff.2 fun hx=>Bool.noConfusion (hD.symm.trans (hdc 22 _ _ rfl (List.mem_of_getElem? (i:=12) rfl) rfl hx)))
          exact ZA (v:=(vB x105)) hE Za ld (lk rfl f8) ty5 rfl (At.vec (At.vec (hM.rawAt (pre:=[_,_])) hi101.2) hi104.2) fun a hE=>⟨_,_,rfl,hE,M.qKeep hM0 rfl,hI.2.put hD rfl Z4 rfl⟩
         ·intro a w ux100 D hE hI hD hdc hp
          have hM0:=hI.1
          have hM:=hI.1
          have hM:=hM.togA (pre:=[_,_]) (Bool.eq_false_iff.2 fun hx=>Bool.noConfusion (hD.symm.trans (hdc 22 _ _ rfl (List.mem_of_getElem? (i:=13) rfl) rfl hx)))
          exact Zd hE Za ld rfl fun a hE=>⟨_,_,rfl,hE,M.qKeep hM0 rfl,hI.2.put hD rfl Z4 rfl⟩
         ·intro a w ux100 D hE hI hD hdc hp
          have d4 : D 4 = true:=hp 0 _ rfl rfl
          have g4:=hI.2 4 d4 _ rfl
          have f4 : ux100 4 = (vI p0):=g4.2
          have d9 : D 9 = true:=hp 1 _ rfl rfl
          have g9:=hI.2 9 d9 _ rfl
          have f9 : ux100 9 = (vB x105):=g9.2
          have d10 : D 10 = true:=hp 2 _ rfl rfl
          have g10:=hI.2 10 d10 _ rfl
          have f10 : ux100 10 = (vB r90):=g10.2
          have hM0:=hI.1
          have hM:=hI.1
          have hM:=hM.togA (pre:=[_,_]) (Bool.eq_false_iff.2 fun hx=>Bool.noConfusion (hD.symm.trans (hdc 22 _ _ rfl (List.mem_of_getElem? (i:=1) rfl) rfl hx)))
          refine Zw hE Za ld (Z7 (Z2 (lk rfl f4) (Z2 (lk rfl f9) (Z2 (lk rfl f10) X8)))) Jk (Yr _ p0 x105 r90 r107 e108) ?_
          rintro v w a ⟨rfl,hK⟩ hE
          exact ⟨_,_,rfl,hE,M.qKeep (hM0.keep hK) rfl,hI.2.put hD rfl Z4 rfl⟩
         ·intro a w ux100 D hE hI hD hdc hp
          have hM0:=hI.1
          exact Zd hE Za ld rfl fun a hE=>⟨_,_,rfl,hE,M.qKeep hM0 rfl,hI.2.put hD rfl Z4 rfl⟩
         ·intro a w ux100 D hE hI hD hdc hp
          have hM0:=hI.1
          exact Zd hE Za ld rfl fun a hE=>⟨_,_,rfl,hE,M.qKeep hM0 rfl,hI.2.put hD rfl Z4 rfl⟩
         ·intro a w ux100 D hE hI hD hdc hp
          have hM0:=hI.1
          exact Zd hE Za ld rfl fun a hE=>⟨_,_,rfl,hE,M.qKeep hM0 rfl,hI.2.put hD rfl Z4 rfl⟩
         ·intro a w ux100 D hE hI hD hdc hp
          have d13 : D 13 = true:=hp 0 _ rfl rfl
          have g13:=hI.2 13 d13 _ rfl
          have f13 : ux100 13 = (vI s13.2.2.1):=g13.2
          have hM0:=hI.1
          exact Zk hE Za ld rfl (lk rfl f13) Tryz.underlying26 WE hi109.1 fun a hE=>⟨_,_,rfl,hE,M.qKeep hM0 rfl,hI.2.put hD rfl Z4 rfl⟩
         ·intro a w ux100 D hE hI hD hdc hp
          have d14 : D 14 = true:=hp 1 _ rfl rfl
          have g14:=hI.2 14 d14 _ rfl
          have f14 : ux100 14 = (vI s95.2.2):=g14.2
          have d15 : D 15 = true:=hp 0 _ rfl rfl
          have g15:=hI.2 15 d15 _ rfl
          have f15 : ux100 15 = (ptr b7 (0 + (s13.2.2.1).toNat * 4)):=g15.2
          have hM0:=hI.1
          exact Zk hE Za ld (lk rfl f15) (lk rfl f14) Tryz.underlying24 ty5 hi112.1 fun a hE=>⟨_,_,rfl,hE,M.qKeep hM0 rfl,hI.2.put hD rfl Z4 rfl⟩
         ·intro a w ux100 D hE hI hD hdc hp
          have d16 : D 16 = true:=hp 0 _ rfl rfl
          have g16:=hI.2 16 d16 _ rfl
          have f16 : ux100 16 = (ptr b7 (0 + (s13.2.2.1).toNat * 4 + (s95.2.2).toNat * 1)):=g16.2
          have hM0:=hI.1
          have hM:=hI.1
          exact ZA (v:=(vB x113)) hE Za ld (lk rfl f16) ty5 rfl (At.vec (At.vec (hM.rawAt (pre:=[])) hi109.2) hi112.2) fun a hE=>⟨_,_,rfl,hE,M.qKeep hM0 rfl,hI.2.put hD rfl Z4 rfl⟩
         ·intro a w ux100 D hE hI hD hdc hp
          have hM0:=hI.1
          exact Zd hE Za ld rfl fun a hE=>⟨_,_,rfl,hE,M.qKeep hM0 rfl,hI.2.put hD rfl Z4 rfl⟩
         ·intro a w ux100 D hE hI hD hdc hp
          have d12 : D 12 = true:=hp 0 _ rfl rfl
          have g12:=hI.2 12 d12 _ rfl
          have f12 : ux100 12 = (vI p0):=g12.2
          have d17 : D 17 = true:=hp 1 _ rfl rfl
          have g17:=hI.2 17 d17 _ rfl
          have f17 : ux100 17 = (vB x113):=g17.2
          have d18 : D 18 = true:=hp 2 _ rfl rfl
          have g18:=hI.2 18 d18 _ rfl
          have f18 : ux100 18 = (vB r90):=g18.2
          have hM0:=hI.1
          have hM:=hI.1
          have hM:=hM.togA (pre:=[_,_]) (Bool.eq_false_iff.2 fun hx=>Bool.noConfusion (hD.symm.trans (hdc 22 _ _ rfl (List.mem_of_getElem? (i:=2) rfl) rfl hx)))
          refine Zw hE Za ld (Z7 (Z2 (lk rfl f12) (Z2 (lk rfl f17) (Z2 (lk rfl f18) X8)))) Jk (Yr _ p0 x113 r90 r115 e116) ?_
          rintro v w a ⟨rfl,hK⟩ hE
          exact ⟨_,_,rfl,hE,M.qKeep (hM0.keep hK) rfl,hI.2.put hD rfl Z4 rfl⟩
         ·intro a w ux100 D hE hI hD hdc hp
          have d0 : D 0 = true:=hp 0 _ rfl rfl
          have g0:=hI.2 0 d0 _ rfl
          have f0 : ux100 0 = (vI s13.2.2.1):=g0.2
          have hM0:=hI.1
          exact Zk hE Za ld rfl (lk rfl f0) Tryz.underlying26 WE hi117.1 fun a hE=>⟨_,_,rfl,hE,M.qKeep hM0 rfl,hI.2.put hD rfl Z4 rfl⟩
         ·intro a w ux100 D hE hI hD hdc hp
          have d1 : D 1 = true:=hp 1 _ rfl rfl
          have g1:=hI.2 1 d1 _ rfl
          have f1 : ux100 1 = (vI s95.2.2):=g1.2
          have d20 : D 20 = true:=hp 0 _ rfl rfl
          have g20:=hI.2 20 d20 _ rfl
          have f20 : ux100 20 = (ptr b1 (0 + (s13.2.2.1).toNat * 4)):=g20.2
          have hM0:=hI.1
          have hM:=hI.1
          have hM:=hM.togA (pre:=[_,_]) (Bool.eq_false_iff.2 fun hx=>Bool.noConfusion (hD.symm.trans (hdc 22 _ _ rfl (List.mem_of_getElem? (i:=0) rfl) rfl hx)))
          exact Zk hE Za ld (lk rfl f20) (lk rfl f1) Tryz.underlying24 ty5 hi120.1 fun a hE=>⟨_,_,rfl,hE,M.qKeep hM0 rfl,hI.2.put hD rfl Z4 rfl⟩
         ·intro a w ux100 D hE hI hD hdc hp
          have d11 : D 11 = true:=hp 1 _ rfl rfl
          have g11:=hI.2 11 d11 _ rfl
          have f11 : ux100 11 = (vB r107):=g11.2
          have d21 : D 21 = true:=hp 0 _ rfl rfl
          have g21:=hI.2 21 d21 _ rfl
          have f21 : ux100 21 = (ptr b1 (0 + (s13.2.2.1).toNat * 4 + (s95.2.2).toNat * 1)):=g21.2
          have hM0:=hI.1
          have hM:=(hI.1.togA (pre:=[_,_]) hD).pull (pre:=[_,_])
          exact Zv (seg:=[vB r107]) (cs':=enc (s95.1.setIfInBounds (s13.2.2.1).toNat (x118.setIfInBounds (s95.2.2).toNat r107))) hE hM Za (lk rfl f21) (lk rfl f11) rfl ty5 rfl (Vk (o':=0 + (s95.2.2).toNat * 1) hi117 (ZM (v:=x118) (x:=r107) hi120.1) (by first | omega | (simp only [Flat.n] <;> omega))) (Flat.cell (r107 : UInt8)) (Wl (o':=0 + (s95.2.2).toNat * 1) hi117 (ZM (v:=x118) (x:=r107) hi120.1) (ZD (v:=x118) (x:=r107) hi120.1) (by first | omega | (simp only [Flat.n] <;> omega))) fun w a hM hE=>⟨undef,_,rfl,Env.dummy hE (by decide),M.qTog (mk1:=[]) (mk2:=[]) hM rfl,hI.2.put hD rfl Z4 trivial⟩
         ·intro a w ux100 D hE hI hD hdc hp
          have d2 : D 2 = true:=hp 0 _ rfl rfl
          have g2:=hI.2 2 d2 _ rfl
          have f2 : ux100 2 = (vI s13.2.2.1):=g2.2
          have hM0:=hI.1
          exact Zk hE Za ld rfl (lk rfl f2) Tryz.underlying26 WE hi123.1 fun a hE=>⟨_,_,rfl,hE,M.qKeep hM0 rfl,hI.2.put hD rfl Z4 rfl⟩
         ·intro a w ux100 D hE hI hall
          have hM:=hI.1
          have d0 : D 0 = true:=hall 0 (by decide)
          have d1 : D 1 = true:=hall 1 (by decide)
          have d2 : D 2 = true:=hall 2 (by decide)
          have d3 : D 3 = true:=hall 3 (by decide)
          have d4 : D 4 = true:=hall 4 (by decide)
          have d5 : D 5 = true:=hall 5 (by decide)
          have d6 : D 6 = true:=hall 6 (by decide)
          have d7 : D 7 = true:=hall 7 (by decide)
          have d8 : D 8 = true:=hall 8 (by decide)
          have d9 : D 9 = true:=hall 9 (by decide)
          have d10 : D 10 = true:=hall 10 (by decide)
          have d11 : D 11 = true:=hall 11 (by decide)
          have d12 : D 12 = true:=hall 12 (by decide)
          have d13 : D 13 = true:=hall 13 (by decide)
          have d14 : D 14 = true:=hall 14 (by decide)
          have d15 : D 15 = true:=hall 15 (by decide)
          have d16 : D 16 = true:=hall 16 (by decide)
          have d17 : D 17 = true:=hall 17 (by decide)
          have d18 : D 18 = true:=hall 18 (by decide)
          have d19 : D 19 = true:=hall 19 (by decide)
          have d20 : D 20 = true:=hall 20 (by decide)
          have d21 : D 21 = true:=hall 21 (by decide)
          have d22 : D 22 = true:=hall 22 (by decide)
          have d23 : D 23 = true:=hall 23 (by decide)
          have f0 : ux100 0 = (vI s13.2.2.1):=(hI.2 0 d0 _ rfl).2
          have f1 : ux100 1 = (vI s95.2.2):=(hI.2 1 d1 _ rfl).2
          have f2 : ux100 2 = (vI s13.2.2.1):=(hI.2 2 d2 _ rfl).2
          have f3 : ux100 3 = (vI s95.2.2):=(hI.2 3 d3 _ rfl).2
          have f4 : ux100 4 = (vI p0):=(hI.2 4 d4 _ rfl).2
          have f5 : ux100 5 = (vI s13.2.2.1):=(hI.2 5 d5 _ rfl).2
          have f6 : ux100 6 = (vI s95.2.2):=(hI.2 6 d6 _ rfl).2
          have f7 : ux100 7 = (ptr b1 (0 + (s13.2.2.1).toNat * 4)):=(hI.2 7 d7 _ rfl).2
          have f8 : ux100 8 = (ptr b1 (0 + (s13.2.2.1).toNat * 4 + (s95.2.2).toNat * 1)):=(hI.2 8 d8 _ rfl).2
          have f9 : ux100 9 = (vB x105):=(hI.2 9 d9 _ rfl).2
          have f10 : ux100 10 = (vB r90):=(hI.2 10 d10 _ rfl).2
          have f11 : ux100 11 = (vB r107):=(hI.2 11 d11 _ rfl).2
          have f12 : ux100 12 = (vI p0):=(hI.2 12 d12 _ rfl).2
          have f13 : ux100 13 = (vI s13.2.2.1):=(hI.2 13 d13 _ rfl).2
          have f14 : ux100 14 = (vI s95.2.2):=(hI.2 14 d14 _ rfl).2
          have f15 : ux100 15 = (ptr b7 (0 + (s13.2.2.1).toNat * 4)):=(hI.2 15 d15 _ rfl).2
          have f16 : ux100 16 = (ptr b7 (0 + (s13.2.2.1).toNat * 4 + (s95.2.2).toNat * 1)):=(hI.2 16 d16 _ rfl).2
          have f17 : ux100 17 = (vB x113):=(hI.2 17 d17 _ rfl).2
          have f18 : ux100 18 = (vB r90):=(hI.2 18 d18 _ rfl).2
          have f19 : ux100 19 = (vB r115):=(hI.2 19 d19 _ rfl).2
          have f20 : ux100 20 = (ptr b1 (0 + (s13.2.2.1).toNat * 4)):=(hI.2 20 d20 _ rfl).2
          have f21 : ux100 21 = (ptr b1 (0 + (s13.2.2.1).toNat * 4 + (s95.2.2).toNat * 1)):=(hI.2 21 d21 _ rfl).2
          have f23 : ux100 23 = (ptr b7 (0 + (s13.2.2.1).toNat * 4)):=(hI.2 23 d23 _ rfl).2
          have hM:=hM.togB (pre:=[_,_]) d22
          have hE:=hE.sub (e':=[(76,vI s95.2.2),(92,vB r115),(95,(ptr b7 (0 + (s13.2.2.1).toNat * 4))),(0,vI p0),(3,(ptr b1 0)),(5,(ptr b3 0)),(6,(ptr b7 0)),(7,vB r82),(8,vI s13.2.2.1),(10,vB r90),(11,vI s95.2.2),(16,vI s13.2.2.1),(70,vI s95.2.2),(71,(vT (decide (s95.2.2 < 4)))),(72,vI s95.2.2)]) ⟨lk rfl f3,lk rfl f19,lk rfl f23,rfl,rfl,rfl,rfl,rfl,rfl,rfl,rfl,rfl,rfl,rfl,rfl,trivial⟩
          obtain ⟨x127,hi126,hs96⟩:=bvx hs96
          refine Zk hE Za ld rfl rfl Tryz.underlying24 ty5 hi126.1 fun a hE=>Zv (seg:=[vB r115]) (cs':=enc (s95.2.1.setIfInBounds (s13.2.2.1).toNat (x124.setIfInBounds (s95.2.2).toNat r115))) hE hM Za rfl rfl rfl ty5 rfl (Vk (o':=0 + (s95.2.2).toNat * 1) hi123 (ZM (v:=x124) (x:=r115) hi126.1) (by first | omega | (simp only [Flat.n] <;> omega))) (Flat.cell (r115 : UInt8)) (Wl (o':=0 + (s95.2.2).toNat * 1) hi123 (ZM (v:=x124) (x:=r115) hi126.1) (ZD (v:=x124) (x:=r115) hi126.1) (by first | omega | (simp only [Flat.n] <;> omega))) fun w a hM hE=>Zj (ZZ (Zu (wp_region_lit (Zi hE Za ld rfl rfl rfl fun a hE=>Zd hE Za ld rfl fun a hE=>Zj (Zl ?_)))))
          exact ⟨_,(ois hs96),hE.sub ⟨rfl,rfl,rfl,rfl,rfl,rfl,rfl,rfl,rfl,trivial⟩,hM⟩
        ·intro hb99
         have hs96:=Zy hs96 hb99
         refine wp_exit (Zm (Zm (Z0 ?_)))
         have ht129:=hx97 _ (ois hs96)
         subst ht129
         refine Zl ?_
         exact ⟨hE.sub ⟨rfl,rfl,rfl,rfl,rfl,rfl,rfl,trivial⟩,hM⟩
       ·skip
        rintro a w ⟨hE,hM⟩
        refine Zu (Zc (Zd hE Za ld rfl fun a hE=>Zf ?_))
        obtain ⟨j130,hl131,hF132⟩:=bind_some hF94
        refine ZL (fun a w=>Env 153 a [(0,vI p0),(3,(ptr b1 0)),(5,(ptr b3 0)),(6,(ptr b7 0)),(7,vB r82),(16,vI s13.2.2.1)] ∧ M (Old w0) w0 w [raw b7 (enc j130.2),raw b3 (enc (Vector.replicate 4 (Vector.replicate 4 (0 : UInt8)))),raw b1 (enc j130.1)]) ?_ ?_
        ·skip
         refine wp_block ?_
         refine ZC (fun (s133 : (Vector (Vector UInt8 4) 4) × (Vector (Vector UInt8 4) 4) × Int) a w=>Env 153 a [(0,vI p0),(3,(ptr b1 0)),(5,(ptr b3 0)),(6,(ptr b7 0)),(7,vB r82),(8,vI s13.2.2.1),(16,vI s13.2.2.1),(98,vI s133.2.2)] ∧ M (Old w0) w0 w [raw b7 (enc s133.2.1),raw b3 (enc (Vector.replicate 4 (Vector.replicate 4 (0 : UInt8)))),raw b1 (enc s133.1)]) hl131 ⟨hE.sub ⟨rfl,rfl,rfl,rfl,rfl,rfl,rfl,rfl,trivial⟩,hM⟩ ?_
         rintro s133 a w ⟨hE,hM⟩ o136 hs134 hx135
         unfold Xf at hs134
         refine Zc (Zi hE Za ld rfl rfl rfl fun a hE=>Zf (wp_seq ?_))
         refine Zp hE rfl ?_ ?_
         ·intro hb137
          have hs134:=Zz hs134 hb137
          refine wp_skip (Zu ?_)
          obtain ⟨j138,hl139,hF140⟩:=bind_some hs134
          refine ZQ (fun a w=>Env 153 a [(0,vI p0),(3,(ptr b1 0)),(5,(ptr b3 0)),(6,(ptr b7 0)),(7,vB r82),(8,vI s13.2.2.1),(16,vI s13.2.2.1),(98,vI s133.2.2)] ∧ M (Old w0) w0 w [raw b7 (enc j138.2),raw b3 (enc (Vector.replicate 4 (Vector.replicate 4 (0 : UInt8)))),raw b1 (enc j138.1)]) ?_ ?_
          ·skip
           refine wp_block (Zc (Zd hE Za ld rfl fun a hE=>Ze hE Za ld rfl fun a hE=>Zf (Zc (Zd hE Za ld rfl fun a hE=>Zd hE Za ld rfl ?_)))); intro a hE
           obtain ⟨x142,hi141,hl139⟩:=bvx hl139
           refine Zk hE Za ld rfl rfl Tryz.underlying26 WE hi141.1 ?_; intro a hE
           obtain ⟨x145,hi144,hl139⟩:=bvx hl139
           refine Zk hE Za ld rfl rfl Tryz.underlying24 ty5 hi144.1 fun a hE=>ZA (v:=(vB x145)) hE Za ld rfl ty5 rfl (At.vec (At.vec (hM.rawAt (pre:=[_,_])) hi141.2) hi144.2) fun a hE=>Ze hE Za ld rfl fun a hE=>Zf ?_
           obtain ⟨j147,hl148,hF149⟩:=bind_some hl139
           refine ZQ (fun a w=>Env 153 a [(0,vI p0),(3,(ptr b1 0)),(5,(ptr b3 0)),(6,(ptr b7 0)),(7,vB r82),(8,vI s13.2.2.1),(12,vI s133.2.2),(13,vB x145),(16,vI s13.2.2.1),(98,vI s133.2.2),(112,vT j147)] ∧ M (Old w0) w0 w [raw b7 (enc s133.2.1),raw b3 (enc (Vector.replicate 4 (Vector.replicate 4 (0 : UInt8)))),raw b1 (enc s133.1)]) ?_ ?_
           ·skip
            refine wp_region_lit (Zd hE Za ld rfl fun a hE=>Zd hE Za ld rfl fun a hE=>Zi hE Za ld rfl rfl rfl fun a hE=>Zd hE Za ld rfl ?_); intro a hE
            refine yi (s133.2.2 != s13.2.2.1) (fun hb150=>?_) (fun hb150=>?_)
            ·have hl148:=Zz hl148 hb150
             refine Zd hE (Tf hE rfl (lkb rfl hb150)) (by decide) rfl fun a hE=>Zi hE (Tf hE rfl (lkb rfl hb150)) (by decide) rfl rfl (U8 x145 0) fun a hE=>zx hE Za ld (lkb rfl hb150) rfl fun a hE=>Zj ?_
             have ht151:=Option.some.inj hl148
             subst ht151
             refine Zl ?_
             exact ⟨hE.sub ⟨rfl,rfl,rfl,rfl,rfl,rfl,rfl,rfl,rfl,rfl,rfl,trivial⟩,hM⟩
            ·have hl148:=Zy hl148 hb150
             refine Qt hE rfl (lkb rfl hb150) rfl (by decide) fun a hE=>Qt hE rfl (lkb rfl hb150) rfl (by decide) fun a hE=>zp hE Za ld (lkb rfl hb150) rfl fun a hE=>Zj ?_
             have ht152:=Option.some.inj hl148
             subst ht152
             refine Zl ?_
             exact ⟨hE.sub ⟨rfl,rfl,rfl,rfl,rfl,rfl,rfl,rfl,rfl,rfl,rfl,trivial⟩,hM⟩
           ·skip
            rintro a w ⟨hE,hM⟩
            obtain ⟨j153,hl154,hF155⟩:=bind_some hF149
            refine ZL (fun a w=>Env 153 a [(0,vI p0),(3,(ptr b1 0)),(5,(ptr b3 0)),(6,(ptr b7 0)),(7,vB r82),(8,vI s13.2.2.1),(16,vI s13.2.2.1),(98,vI s133.2.2)] ∧ M (Old w0) w0 w [raw b7 (enc j153.2),raw b3 (enc (Vector.replicate 4 (Vector.replicate 4 (0 : UInt8)))),raw b1 (enc j153.1)]) ?_ ?_
            ·skip
             refine Zp hE rfl ?_ ?_
             ·intro hb156
              have hl154:=Zz hl154 hb156
              refine Zc (Zd hE Za ld rfl fun a hE=>Zf ?_)
              obtain ⟨j157,hl158,hF159⟩:=bind_some hl154
              refine ZL (fun a w=>Env 153 a [(0,vI p0),(3,(ptr b1 0)),(5,(ptr b3 0)),(6,(ptr b7 0)),(7,vB r82),(8,vI s13.2.2.1),(16,vI s13.2.2.1),(98,vI s133.2.2)] ∧ M (Old w0) w0 w [raw b7 (enc j157.2),raw b3 (enc (Vector.replicate 4 (Vector.replicate 4 (0 : UInt8)))),raw b1 (enc j157.1)]) ?_ ?_
              ·skip
               refine wp_block ?_
               refine ZC (fun (s160 : (Vector (Vector UInt8 4) 4) × (Vector (Vector UInt8 4) 4) × Int) a w=>Env 153 a [(0,vI p0),(3,(ptr b1 0)),(5,(ptr b3 0)),(6,(ptr b7 0)),(7,vB r82),(8,vI s13.2.2.1),(12,vI s133.2.2),(13,vB x145),(16,vI s13.2.2.1),(98,vI s133.2.2),(113,vI s160.2.2)] ∧ M (Old w0) w0 w [raw b7 (enc s160.2.1),raw b3 (enc (Vector.replicate 4 (Vector.replicate 4 (0 : UInt8)))),raw b1 (enc s160.1)]) hl158 ⟨hE.sub ⟨rfl,rfl,rfl,rfl,rfl,rfl,rfl,rfl,rfl,rfl,rfl,trivial⟩,hM⟩ ?_
               rintro s160 a w ⟨hE,hM⟩ o163 hs161 hx162
               unfold Xg at hs161
               refine Zc (Zi hE Za ld rfl rfl rfl fun a hE=>Zf (wp_seq ?_))
               refine Zp hE rfl ?_ ?_
               ·intro hb164
                have hs161:=Zz hs161 hb164
                refine wp_skip (Zu (wp_seq (wp_block (Zc (Zd hE Za ld rfl fun a hE=>Ze hE Za ld rfl fun a hE=>Zf ?_)))))
                obtain ⟨j165,hl166,hF167⟩:=bind_some hs161
                refine ZQ (fun a w=>Env 153 a [(0,vI p0),(3,(ptr b1 0)),(5,(ptr b3 0)),(6,(ptr b7 0)),(7,vB r82),(8,vI s13.2.2.1),(12,vI s133.2.2),(13,vB x145),(14,vI s160.2.2),(16,vI s13.2.2.1),(98,vI s133.2.2),(113,vI s160.2.2)] ∧ M (Old w0) w0 w [raw b7 (enc s160.2.1),raw b3 (enc (Vector.replicate 4 (Vector.replicate 4 (0 : UInt8)))),raw b1 (enc j165)]) ?_ ?_
                ·skip
                 obtain ⟨x170,hi169,hl166⟩:=bvx hl166
                 obtain ⟨x173,hi172,hl166⟩:=bvx hl166
                 obtain ⟨x176,hi175,hl166⟩:=bvx hl166
                 obtain ⟨x179,hi178,hl166⟩:=bvx hl166
                 obtain ⟨r181,e182,hl166⟩:=bind_some hl166
                 obtain ⟨x184,hi183,hl166⟩:=bvx hl166
                 obtain ⟨x187,hi186,hl166⟩:=bvx hl166
                 refine Yg (n:=153) (hd:=[_,_,_,_,_,_,_,_,_,_,_,_,_,_,_,_]) (tl:=[_]) YN rfl rfl [116,117,118,119,120,121,122,123,124,125,126,127,128,129,130,131] (by decide) (fun w=>M (Old w0) w0 w [raw b7 (enc s160.2.1),raw b3 (enc (Vector.replicate 4 (Vector.replicate 4 (0 : UInt8)))),raw b1 (enc s160.1)]) (fun j=>([fun v _=>v = (vI s133.2.2),fun v _=>v = (vI s160.2.2),fun v _=>v = (ptr b1 (0 + (s133.2.2).toNat * 4)),fun v _=>v = (ptr b1 (0 + (s133.2.2).toNat * 4 + (s160.2.2).toNat * 1)),fun v _=>v = (vB x173),fun v _=>v = (vI p0),fun v _=>v = (vB x145),fun v _=>v = (vI s13.2.2.1),fun v _=>v = (vI s160.2.2),fun v _=>v = (ptr b1 (0 + (s13.2.2.1).toNat * 4)),fun v _=>v = (ptr b1 (0 + (s13.2.2.1).toNat * 4 + (s160.2.2).toNat * 1)),fun v _=>v = (vB x179),fun v _=>v = (vB r181),fun v _=>v = (vB (x173 ^^^ r181)),fun v _=>v = (ptr b1 (0 + (s133.2.2).toNat * 4)),fun v _=>v = (ptr b1 (0 + (s133.2.2).toNat * 4 + (s160.2.2).toNat * 1))] : List (Value → World → Prop)).getD j (fun _ _=>True)) (fun _ _ h hk=>h.keep hk) (gup (Zn (Zn (Zn (Zn (Zn (Zn (Zn (Zn (Zn (Zn (Zn (Zn (Zn (Zn (Zn (Zn Vb))))))))))))))))) hE hM.drew (ZJ (Zb ?_ (Zb ?_ (Zb ?_ (Zb ?_ (Zb ?_ (Zb ?_ (Zb ?_ (Zb ?_ (Zb ?_ (Zb ?_ (Zb ?_ (Zb ?_ (Zb ?_ (Zb ?_ (Zb ?_ (Zb ?_ ZF))))))))))))))))) ?_
                 ·exact fun a w ux168 hE hM hp=>Zd hE Za ld rfl fun a hE=>⟨Kept.refl _ _,_,_,rfl,hE,rfl⟩
                 ·exact fun a w ux168 hE hM hp=>Zd hE Za ld rfl fun a hE=>⟨Kept.refl _ _,_,_,rfl,hE,rfl⟩
                 ·intro a w ux168 hE hM hp
                  have f0 : ux168 0 = (vI s133.2.2):=hp 0 _ rfl rfl
                  exact Zk hE Za ld rfl (lk rfl f0) Tryz.underlying26 WE hi169.1 fun a hE=>⟨Kept.refl _ _,_,_,rfl,hE,rfl⟩
                 ·intro a w ux168 hE hM hp
                  have f1 : ux168 1 = (vI s160.2.2):=hp 1 _ rfl rfl
                  have f2 : ux168 2 = (ptr b1 (0 + (s133.2.2).toNat * 4)):=hp 0 _ rfl rfl
                  exact Zk hE Za ld (lk rfl f2) (lk rfl f1) Tryz.underlying24 ty5 hi172.1 fun a hE=>⟨Kept.refl _ _,_,_,rfl,hE,rfl⟩
                 ·intro a w ux168 hE hM hp
                  have f3 : ux168 3 = (ptr b1 (0 + (s133.2.2).toNat * 4 + (s160.2.2).toNat * 1)):=hp 0 _ rfl rfl
                  exact ZA (v:=(vB x173)) hE Za ld (lk rfl f3) ty5 rfl (At.vec (At.vec (hM.rawAt (pre:=[_,_])) hi169.2) hi172.2) fun a hE=>⟨Kept.refl _ _,_,_,rfl,hE,rfl⟩
                 ·exact fun a w ux168 hE hM hp=>Zd hE Za ld rfl fun a hE=>⟨Kept.refl _ _,_,_,rfl,hE,rfl⟩
                 ·exact fun a w ux168 hE hM hp=>Zd hE Za ld rfl fun a hE=>⟨Kept.refl _ _,_,_,rfl,hE,rfl⟩
                 ·exact fun a w ux168 hE hM hp=>Zd hE Za ld rfl fun a hE=>⟨Kept.refl _ _,_,_,rfl,hE,rfl⟩
                 ·exact fun a w ux168 hE hM hp=>Zd hE Za ld rfl fun a hE=>⟨Kept.refl _ _,_,_,rfl,hE,rfl⟩
                 ·intro a w ux168 hE hM hp
                  have f7 : ux168 7 = (vI s13.2.2.1):=hp 0 _ rfl rfl
                  exact Zk hE Za ld rfl (lk rfl f7) Tryz.underlying26 WE hi175.1 fun a hE=>⟨Kept.refl _ _,_,_,rfl,hE,rfl⟩
                 ·intro a w ux168 hE hM hp
                  have f8 : ux168 8 = (vI s160.2.2):=hp 1 _ rfl rfl
                  have f9 : ux168 9 = (ptr b1 (0 + (s13.2.2.1).toNat * 4)):=hp 0 _ rfl rfl
                  exact Zk hE Za ld (lk rfl f9) (lk rfl f8) Tryz.underlying24 ty5 hi178.1 fun a hE=>⟨Kept.refl _ _,_,_,rfl,hE,rfl⟩
                 ·intro a w ux168 hE hM hp
                  have f10 : ux168 10 = (ptr b1 (0 + (s13.2.2.1).toNat * 4 + (s160.2.2).toNat * 1)):=hp 0 _ rfl rfl
                  exact ZA (v:=(vB x179)) hE Za ld (lk rfl f10) ty5 rfl (At.vec (At.vec (hM.rawAt (pre:=[_,_])) hi175.2) hi178.2) fun a hE=>⟨Kept.refl _ _,_,_,rfl,hE,rfl⟩
                 ·intro a w ux168 hE hM hp
                  have f5 : ux168 5 = (vI p0):=hp 0 _ rfl rfl
                  have f6 : ux168 6 = (vB x145):=hp 1 _ rfl rfl
                  have f11 : ux168 11 = (vB x179):=hp 2 _ rfl rfl
                  refine Zw hE Za ld (Z7 (Z2 (lk rfl f5) (Z2 (lk rfl f6) (Z2 (lk rfl f11) X8)))) Jk (Yr _ p0 x145 x179 r181 e182) ?_
                  rintro v w a ⟨rfl,hK⟩ hE
                  exact ⟨hK,_,_,rfl,hE,rfl⟩
                 ·intro a w ux168 hE hM hp
                  have f4 : ux168 4 = (vB x173):=hp 0 _ rfl rfl
                  have f12 : ux168 12 = (vB r181):=hp 1 _ rfl rfl
                  exact Zi hE Za ld (lk rfl f4) (lk rfl f12) (VG x173 r181) fun a hE=>⟨Kept.refl _ _,_,_,rfl,hE,rfl⟩
                 ·intro a w ux168 hE hM hp
                  have f0 : ux168 0 = (vI s133.2.2):=hp 0 _ rfl rfl
                  exact Zk hE Za ld rfl (lk rfl f0) Tryz.underlying26 WE hi183.1 fun a hE=>⟨Kept.refl _ _,_,_,rfl,hE,rfl⟩
                 ·intro a w ux168 hE hM hp
                  have f1 : ux168 1 = (vI s160.2.2):=hp 1 _ rfl rfl
                  have f14 : ux168 14 = (ptr b1 (0 + (s133.2.2).toNat * 4)):=hp 0 _ rfl rfl
                  exact Zk hE Za ld (lk rfl f14) (lk rfl f1) Tryz.underlying24 ty5 hi186.1 fun a hE=>⟨Kept.refl _ _,_,_,rfl,hE,rfl⟩
                 ·intro a w ux168 hE hM hg
                  have hE:=hE.sub (e':=[(129,(vB (x173 ^^^ r181))),(131,(ptr b1 (0 + (s133.2.2).toNat * 4 + (s160.2.2).toNat * 1))),(0,vI p0),(3,(ptr b1 0)),(5,(ptr b3 0)),(6,(ptr b7 0)),(7,vB r82),(8,vI s13.2.2.1),(12,vI s133.2.2),(13,vB x145),(14,vI s160.2.2),(16,vI s13.2.2.1),(98,vI s133.2.2),(113,vI s160.2.2),(114,(vT (decide (s160.2.2 < 4)))),(115,vI s160.2.2)]) ⟨lk rfl (hg 13 (by decide)),lk rfl (hg 15 (by decide)),rfl,rfl,rfl,rfl,rfl,rfl,rfl,rfl,rfl,rfl,rfl,rfl,rfl,rfl,trivial⟩
                  have hM:=hM.pull (pre:=[_,_])
                  refine Zv (seg:=[(vB (x173 ^^^ r181))]) (cs':=enc (s160.1.setIfInBounds (s133.2.2).toNat (x184.setIfInBounds (s160.2.2).toNat (x173 ^^^ r181)))) hE hM Za rfl rfl rfl ty5 rfl (Vk (o':=0 + (s160.2.2).toNat * 1) hi183 (ZM (v:=x184) (x:=x173 ^^^ r181) hi186.1) (by first | omega | (simp only [Flat.n] <;> omega))) (Flat.cell (x173 ^^^ r181 : UInt8)) (Wl (o':=0 + (s160.2.2).toNat * 1) hi183 (ZM (v:=x184) (x:=x173 ^^^ r181) hi186.1) (ZD (v:=x184) (x:=x173 ^^^ r181) hi186.1) (by first | omega | (simp only [Flat.n] <;> omega))) fun w a hM hE=>Zj ?_
                  have ht189:=Option.some.inj hl166
                  subst ht189
                  refine Zl ?_
                  have hM:=(hM.pull (pre:=[_,_])).pull (pre:=[_,_])
                  exact ⟨hE.sub ⟨rfl,rfl,rfl,rfl,rfl,rfl,rfl,rfl,rfl,rfl,rfl,rfl,trivial⟩,hM⟩
                ·skip
                 rintro a w ⟨hE,hM⟩
                 obtain ⟨x192,hi191,hF167⟩:=bvx hF167
                 obtain ⟨x195,hi194,hF167⟩:=bvx hF167
                 obtain ⟨x198,hi197,hF167⟩:=bvx hF167
                 obtain ⟨x201,hi200,hF167⟩:=bvx hF167
                 obtain ⟨r203,e204,hF167⟩:=bind_some hF167
                 obtain ⟨x206,hi205,hF167⟩:=bvx hF167
                 obtain ⟨x209,hi208,hF167⟩:=bvx hF167
                 refine Yg (n:=153) (hd:=[_,_,_,_,_,_,_,_,_,_,_,_,_,_,_,_]) (tl:=[_]) YN rfl rfl [132,133,134,135,136,137,138,139,140,141,142,143,144,145,146,147] (by decide) (fun w=>M (Old w0) w0 w [raw b7 (enc s160.2.1),raw b3 (enc (Vector.replicate 4 (Vector.replicate 4 (0 : UInt8)))),raw b1 (enc j165)]) (fun j=>([fun v _=>v = (vI s133.2.2),fun v _=>v = (vI s160.2.2),fun v _=>v = (ptr b7 (0 + (s133.2.2).toNat * 4)),fun v _=>v = (ptr b7 (0 + (s133.2.2).toNat * 4 + (s160.2.2).toNat * 1)),fun v _=>v = (vB x195),fun v _=>v = (vI p0),fun v _=>v = (vB x145),fun v _=>v = (vI s13.2.2.1),fun v _=>v = (vI s160.2.2),fun v _=>v = (ptr b7 (0 + (s13.2.2.1).toNat * 4)),fun v _=>v = (ptr b7 (0 + (s13.2.2.1).toNat * 4 + (s160.2.2).toNat * 1)),fun v _=>v = (vB x201),fun v _=>v = (vB r203),fun v _=>v = (vB (x195 ^^^ r203)),fun v _=>v = (ptr b7 (0 + (s133.2.2).toNat * 4)),fun v _=>v = (ptr b7 (0 + (s133.2.2).toNat * 4 + (s160.2.2).toNat * 1))] : List (Value → World → Prop)).getD j (fun _ _=>True)) (fun _ _ h hk=>h.keep hk) (gup (Zn (Zn (Zn (Zn (Zn (Zn (Zn (Zn (Zn (Zn (Zn (Zn (Zn (Zn (Zn (Zn Vb))))))))))))))))) hE hM.drew (ZJ (Zb ?_ (Zb ?_ (Zb ?_ (Zb ?_ (Zb ?_ (Zb ?_ (Zb ?_ (Zb ?_ (Zb ?_ (Zb ?_ (Zb ?_ (Zb ?_ (Zb ?_ (Zb ?_ (Zb ?_ (Zb ?_ ZF))))))))))))))))) ?_
                 ·exact fun a w ux190 hE hM hp=>Zd hE Za ld rfl fun a hE=>⟨Kept.refl _ _,_,_,rfl,hE,rfl⟩
                 ·exact fun a w ux190 hE hM hp=>Zd hE Za ld rfl fun a hE=>⟨Kept.refl _ _,_,_,rfl,hE,rfl⟩
                 ·intro a w ux190 hE hM hp
                  have f0 : ux190 0 = (vI s133.2.2):=hp 0 _ rfl rfl
                  exact Zk hE Za ld rfl (lk rfl f0) Tryz.underlying26 WE hi191.1 fun a hE=>⟨Kept.refl _ _,_,_,rfl,hE,rfl⟩
                 ·intro a w ux190 hE hM hp
                  have f1 : ux190 1 = (vI s160.2.2):=hp 1 _ rfl rfl
                  have f2 : ux190 2 = (ptr b7 (0 + (s133.2.2).toNat * 4)):=hp 0 _ rfl rfl
                  exact Zk hE Za ld (lk rfl f2) (lk rfl f1) Tryz.underlying24 ty5 hi194.1 fun a hE=>⟨Kept.refl _ _,_,_,rfl,hE,rfl⟩
                 ·intro a w ux190 hE hM hp
                  have f3 : ux190 3 = (ptr b7 (0 + (s133.2.2).toNat * 4 + (s160.2.2).toNat * 1)):=hp 0 _ rfl rfl
                  exact ZA (v:=(vB x195)) hE Za ld (lk rfl f3) ty5 rfl (At.vec (At.vec (hM.rawAt (pre:=[])) hi191.2) hi194.2) fun a hE=>⟨Kept.refl _ _,_,_,rfl,hE,rfl⟩
                 ·exact fun a w ux190 hE hM hp=>Zd hE Za ld rfl fun a hE=>⟨Kept.refl _ _,_,_,rfl,hE,rfl⟩
                 ·exact fun a w ux190 hE hM hp=>Zd hE Za ld rfl fun a hE=>⟨Kept.refl _ _,_,_,rfl,hE,rfl⟩
                 ·exact fun a w ux190 hE hM hp=>Zd hE Za ld rfl fun a hE=>⟨Kept.refl _ _,_,_,rfl,hE,rfl⟩
                 ·exact fun a w ux190 hE hM hp=>Zd hE Za ld rfl fun a hE=>⟨Kept.refl _ _,_,_,rfl,hE,rfl⟩
                 ·intro a w ux190 hE hM hp
                  have f7 : ux190 7 = (vI s13.2.2.1):=hp 0 _ rfl rfl
                  exact Zk hE Za ld rfl (lk rfl f7) Tryz.underlying26 WE hi197.1 fun a hE=>⟨Kept.refl _ _,_,_,rfl,hE,rfl⟩
                 ·intro a w ux190 hE hM hp
                  have f8 : ux190 8 = (vI s160.2.2):=hp 1 _ rfl rfl
                  have f9 : ux190 9 = (ptr b7 (0 + (s13.2.2.1).toNat * 4)):=hp 0 _ rfl rfl
                  exact Zk hE Za ld (lk rfl f9) (lk rfl f8) Tryz.underlying24 ty5 hi200.1 fun a hE=>⟨Kept.refl _ _,_,_,rfl,hE,rfl⟩
                 ·intro a w ux190 hE hM hp
                  have f10 : ux190 10 = (ptr b7 (0 + (s13.2.2.1).toNat * 4 + (s160.2.2).toNat * 1)):=hp 0 _ rfl rfl
                  exact ZA (v:=(vB x201)) hE Za ld (lk rfl f10) ty5 rfl (At.vec (At.vec (hM.rawAt (pre:=[])) hi197.2) hi200.2) fun a hE=>⟨Kept.refl _ _,_,_,rfl,hE,rfl⟩
                 ·intro a w ux190 hE hM hp
                  have f5 : ux190 5 = (vI p0):=hp 0 _ rfl rfl
                  have f6 : ux190 6 = (vB x145):=hp 1 _ rfl rfl
                  have f11 : ux190 11 = (vB x201):=hp 2 _ rfl rfl
                  refine Zw hE Za ld (Z7 (Z2 (lk rfl f5) (Z2 (lk rfl f6) (Z2 (lk rfl f11) X8)))) Jk (Yr _ p0 x145 x201 r203 e204) ?_
                  rintro v w a ⟨rfl,hK⟩ hE
                  exact ⟨hK,_,_,rfl,hE,rfl⟩
                 ·intro a w ux190 hE hM hp
                  have f4 : ux190 4 = (vB x195):=hp 0 _ rfl rfl
                  have f12 : ux190 12 = (vB r203):=hp 1 _ rfl rfl
                  exact Zi hE Za ld (lk rfl f4) (lk rfl f12) (VG x195 r203) fun a hE=>⟨Kept.refl _ _,_,_,rfl,hE,rfl⟩
                 ·intro a w ux190 hE hM hp
                  have f0 : ux190 0 = (vI s133.2.2):=hp 0 _ rfl rfl
                  exact Zk hE Za ld rfl (lk rfl f0) Tryz.underlying26 WE hi205.1 fun a hE=>⟨Kept.refl _ _,_,_,rfl,hE,rfl⟩
                 ·intro a w ux190 hE hM hp
                  have f1 : ux190 1 = (vI s160.2.2):=hp 1 _ rfl rfl
                  have f14 : ux190 14 = (ptr b7 (0 + (s133.2.2).toNat * 4)):=hp 0 _ rfl rfl
                  exact Zk hE Za ld (lk rfl f14) (lk rfl f1) Tryz.underlying24 ty5 hi208.1 fun a hE=>⟨Kept.refl _ _,_,_,rfl,hE,rfl⟩
                 ·intro a w ux190 hE hM hg
                  have hE:=hE.sub (e':=[(145,(vB (x195 ^^^ r203))),(147,(ptr b7 (0 + (s133.2.2).toNat * 4 + (s160.2.2).toNat * 1))),(0,vI p0),(3,(ptr b1 0)),(5,(ptr b3 0)),(6,(ptr b7 0)),(7,vB r82),(8,vI s13.2.2.1),(12,vI s133.2.2),(13,vB x145),(14,vI s160.2.2),(16,vI s13.2.2.1),(98,vI s133.2.2),(113,vI s160.2.2)]) ⟨lk rfl (hg 13 (by decide)),lk rfl (hg 15 (by decide)),rfl,rfl,rfl,rfl,rfl,rfl,rfl,rfl,rfl,rfl,rfl,rfl,trivial⟩
                  refine Zv (seg:=[(vB (x195 ^^^ r203))]) (cs':=enc (s160.2.1.setIfInBounds (s133.2.2).toNat (x206.setIfInBounds (s160.2.2).toNat (x195 ^^^ r203)))) hE hM Za rfl rfl rfl ty5 rfl (Vk (o':=0 + (s160.2.2).toNat * 1) hi205 (ZM (v:=x206) (x:=x195 ^^^ r203) hi208.1) (by first | omega | (simp only [Flat.n] <;> omega))) (Flat.cell (x195 ^^^ r203 : UInt8)) (Wl (o':=0 + (s160.2.2).toNat * 1) hi205 (ZM (v:=x206) (x:=x195 ^^^ r203) hi208.1) (ZD (v:=x206) (x:=x195 ^^^ r203) hi208.1) (by first | omega | (simp only [Flat.n] <;> omega))) fun w a hM hE=>Zj (ZZ (Zu (wp_region_lit (Zi hE Za ld rfl rfl rfl fun a hE=>Zd hE Za ld rfl fun a hE=>Zj (Zl ?_)))))
                  exact ⟨_,(ois hF167),hE.sub ⟨rfl,rfl,rfl,rfl,rfl,rfl,rfl,rfl,rfl,rfl,rfl,trivial⟩,hM⟩
               ·intro hb164
                have hs161:=Zy hs161 hb164
                refine wp_exit (Zm (Zm (Z0 ?_)))
                have ht211:=hx162 _ (ois hs161)
                subst ht211
                refine Zl ?_
                exact ⟨hE.sub ⟨rfl,rfl,rfl,rfl,rfl,rfl,rfl,rfl,trivial⟩,hM⟩
              ·skip
               rintro a w ⟨hE,hM⟩
               have ht212:=Option.some.inj hF159
               subst ht212
               refine Zl ?_
               exact ⟨hE.sub ⟨rfl,rfl,rfl,rfl,rfl,rfl,rfl,rfl,trivial⟩,hM⟩
             ·intro hb156
              have hl154:=Zy hl154 hb156
              refine wp_skip ?_
              have ht213:=Option.some.inj hl154
              subst ht213
              refine Zl ?_
              exact ⟨hE.sub ⟨rfl,rfl,rfl,rfl,rfl,rfl,rfl,rfl,trivial⟩,hM⟩
            ·skip
             rintro a w ⟨hE,hM⟩
             refine ZZ ?_
             have ht214:=Option.some.inj hF155
             subst ht214
             refine Zl ?_
             exact ⟨hE.sub ⟨rfl,rfl,rfl,rfl,rfl,rfl,rfl,rfl,trivial⟩,hM⟩
          ·skip
           rintro a w ⟨hE,hM⟩
           refine wp_region_lit (Zi hE Za ld rfl rfl rfl fun a hE=>Zd hE Za ld rfl fun a hE=>Zj (Zl ?_))
           exact ⟨_,(ois hF140),hE.sub ⟨rfl,rfl,rfl,rfl,rfl,rfl,rfl,rfl,trivial⟩,hM⟩
         ·intro hb137
          have hs134:=Zy hs134 hb137
          refine wp_exit (Zm (Zm (Z0 ?_)))
          have ht215:=hx135 _ (ois hs134)
          subst ht215
          refine Zl ?_
          exact ⟨hE.sub ⟨rfl,rfl,rfl,rfl,rfl,rfl,trivial⟩,hM⟩
        ·skip
         rintro a w ⟨hE,hM⟩
         refine ZZ (Zu (wp_region_lit (Zi hE Za ld rfl rfl rfl fun a hE=>Zd hE Za ld rfl fun a hE=>Zj (Zl ?_))))
         exact ⟨_,(ois hF132),hE.sub ⟨rfl,rfl,rfl,rfl,rfl,rfl,trivial⟩,hM⟩
  ·intro hb17
   have hs14:=Zy hs14 hb17
   refine wp_exit (Zm (Zm (Z0 ?_)))
   have ht216:=hx15 _ (ois hs14)
   subst ht216
   refine Zl ?_
   have hM:=M.fst (l:=[_,_]) ((hM.pull (pre:=[_])).pull (pre:=[_]))
   exact ⟨(s13.2.1,s13.2.2.2),rfl,hE.sub ⟨rfl,rfl,rfl,trivial⟩,hM⟩
 ·skip
  rintro a w ⟨s12,ht,hE,hM⟩
  subst ht
  have hF11:=Va hF11
  refine Zu ?_
  obtain ⟨j217,hl218,hF219⟩:=bind_some hF11
  refine ZQ (fun a w=>Env 153 a [(4,vB j217.2),(5,(ptr b3 0))] ∧ M (Old w0) w0 w [raw b3 (enc j217.1)]) ?_ ?_
  ·skip
   refine Yg (n:=153) (hd:=[_,_,_]) (tl:=[_]) YN rfl rfl [151,152,4] (by decide) (fun w=>M (Old w0) w0 w [raw b7 (enc s12.1),raw b3 (enc (Vector.replicate 4 (Vector.replicate 4 (0 : UInt8))))]) (fun j=>([fun v _=>v = (vB s12.2),fun v _=>v = (Value.agg (enc s12.1).toArray),fun v _=>v = (vB s12.2)] : List (Value → World → Prop)).getD j (fun _ _=>True)) (fun _ _ h hk=>h.keep hk) (gup (Zn (Zn (Zn Vb)))) hE hM.drew (ZJ (Zb ?_ (Zb ?_ (Zb ?_ ZF)))) ?_
   ·exact fun a w ux220 hE hM hp=>Zd hE Za ld rfl fun a hE=>⟨Kept.refl _ _,_,_,rfl,hE,rfl⟩
   ·exact fun a w ux220 hE hM hp=>Zo (cs:=enc s12.1) hE Za ld rfl Ti rfl (hM.rawAt (pre:=[])) (Flat.len _) fun a hE=>⟨Kept.refl _ _,_,_,rfl,hE,rfl⟩
   ·intro a w ux220 hE hM hp
    have f0 : ux220 0 = (vB s12.2):=hp 0 _ rfl rfl
    exact Ze hE Za ld (lk rfl f0) fun a hE=>⟨Kept.refl _ _,_,_,rfl,hE,rfl⟩
   ·intro a w ux220 hE hM hg
    have hE:=hE.sub (e':=[(152,(Value.agg (enc s12.1).toArray)),(4,vB s12.2),(5,(ptr b3 0))]) ⟨lk rfl (hg 1 (by decide)),lk rfl (hg 2 (by decide)),rfl,trivial⟩
    have hM:=hM.pull (pre:=[_])
    refine Zv (seg:=enc s12.1) (cs':=enc s12.1) hE hM Za rfl rfl rfl Ti (Flat.len _) (zle flq) (Flat.cell _) (Zr flq) fun w a hM hE=>Zj ?_
    have ht221:=Option.some.inj hl218
    subst ht221
    refine Zl ?_
    have hM:=M.fst (l:=[_]) hM
    exact ⟨hE.sub ⟨rfl,rfl,trivial⟩,hM⟩
  ·skip
   rintro a w ⟨hE,hM⟩
   have hr:=Option.some.inj hF219
   subst hr
   have hq222 : Yx Tryz.prog _ _ (.cell 5 26) _:=ZR hE rfl Ti rfl (hM.rawAt (pre:=[])) (Flat.len _) rfl
   have hM:=M.fst (l:=[]) hM
   exact wp_ret (AQ hE rfl (Zs hE rfl) hq222 ⟨_,rfl,rfl,hM.kept⟩)
def YX (p0 : (Vector UInt8 256)) (s10 : (Vector UInt8 256) × Int) : Option (Fl ((Vector UInt8 256) × Int) (Vector UInt8 256)) :=
 if (decide (s10.2 < 256)) = true then ((ZI p0 s10.2).bind fun x15=>(ZI s10.1 (bI x15)).bind fun x19=>some (Fl.nx ((s10.1.setIfInBounds ((bI x15)).toNat (Zx s10.2)),wr (s10.2 + 1)))) else (some (Fl.ex s10.1))
def XV (p0 : (Vector UInt8 256)) : Option ((Vector UInt8 256)) :=
 (ZE (YX p0) ((Vector.replicate 256 (0 : UInt8)),0)).bind fun j7=>some j7
theorem QZ (w0 : World) (p0 : (Vector UInt8 256)) (r : (Vector UInt8 256)) (hF : XV p0 = some r) :
  Calls Tryz.prog 158 [(Value.agg (enc p0).toArray)].toArray w0 (fun en w'=>∃ v,en = .returned v ∧ (v = (Value.agg (enc r).toArray) ∧ Kept (Old w0) w0 w')):=by
 refine ZB (n:=18) Tryz.func158 rfl rfl (nbl rfl) rfl ?_
 intro a hE
 have hM:=M.start w0
 unfold XV at hF
 refine Zc (ZT (cs:=enc p0) hE hM Za ld rfl rfl fun b1 w a hM hE=>ZH hE hM Za ld Ve fun b3 w a hM hE=>Zf (Zc (YT (parts:=[]) (vs:=[]) (cs:=enc (Vector.replicate 256 (0 : UInt8))) hE Za ld rfl rfl Ve rfl ty5 Yw fun a hE=>ZH hE hM Za ld Ve fun b5 w a hM hE=>Zv (seg:=enc (Vector.replicate 256 (0 : UInt8))) (cs':=enc (Vector.replicate 256 (0 : UInt8))) hE hM Za rfl rfl rfl Ve (Flat.len _) (zle flq) (Flat.cell _) (Zr flq) fun w a hM hE=>Zf (wp_seq (Zc (Zo (cs:=enc p0) hE Za ld rfl Ve rfl (hM.rawAt (pre:=[_,_])) (Flat.len _) fun a hE=>Zd hE Za ld rfl fun a hE=>Zf ?_))))))
 obtain ⟨j7,hl8,hF9⟩:=bind_some hF
 refine ZL (fun a w=>Env 18 a [(2,(ptr b3 0)),(3,(ptr b5 0))] ∧ M (Old w0) w0 w [raw b5 (enc j7),raw b3 (enc (Vector.replicate 256 (0 : UInt8)))]) ?_ ?_
 ·skip
  refine wp_block ?_
  have hM:=M.fst (l:=[_,_]) ((hM.pull (pre:=[_])).pull (pre:=[_]))
  refine ZC (fun (s10 : (Vector UInt8 256) × Int) a w=>Env 18 a [(2,(ptr b3 0)),(3,(ptr b5 0)),(7,(Value.agg (enc p0).toArray)),(8,vI s10.2)] ∧ M (Old w0) w0 w [raw b5 (enc s10.1),raw b3 (enc (Vector.replicate 256 (0 : UInt8)))]) hl8 ⟨hE.sub ⟨rfl,rfl,rfl,rfl,trivial⟩,hM⟩ ?_
  rintro s10 a w ⟨hE,hM⟩ o13 hs11 hx12
  unfold YX at hs11
  refine Zc (Zi hE Za ld rfl rfl rfl fun a hE=>Zf (wp_seq ?_))
  refine Zp hE rfl ?_ ?_
  ·intro hb14
   have hs11:=Zz hs11 hb14
   refine wp_skip (Zu (wp_seq (wp_block (Zc (Zd hE Za ld rfl ?_))))); intro a hE
   obtain ⟨x15,hi17,hs11⟩:=bvx hs11
   refine Qr hE Za ld rfl rfl Tryz.underlying23 ty5 rfl rfl hi17 rfl fun a hE=>Ze hE Za ld rfl fun a hE=>Ze hE Za ld rfl fun a hE=>Zf (wp_region_lit (Zd hE Za ld rfl fun a hE=>Zd hE Za ld rfl fun a hE=>Yb hE Za ld rfl Tryz.underlying3 Tryz.underlying5 ?_)); intro a hE
   rw [ZN] at hE
   obtain ⟨x19,hi18,hs11⟩:=bvx hs11
   refine Zk hE Za ld rfl rfl Tryz.underlying23 ty5 hi18.1 fun a hE=>Zv (seg:=[(vB (Zx s10.2))]) (cs':=enc (s10.1.setIfInBounds ((bI x15)).toNat (Zx s10.2))) hE hM Za rfl rfl rfl ty5 rfl (ZM (v:=s10.1) (x:=Zx s10.2) hi18.1) (Flat.cell (Zx s10.2 : UInt8)) (ZD (v:=s10.1) (x:=Zx s10.2) hi18.1) fun w a hM hE=>Zj (ZZ (Zu (wp_region_lit (Zi hE Za ld rfl rfl rfl fun a hE=>Zd hE Za ld rfl fun a hE=>Zj (Zl ?_)))))
   exact ⟨_,(ois hs11),hE.sub ⟨rfl,rfl,rfl,rfl,trivial⟩,hM⟩
  ·intro hb14
   have hs11:=Zy hs11 hb14
   refine wp_exit (Zm (Zm (Z0 ?_)))
   have ht21:=hx12 _ (ois hs11)
   subst ht21
   refine Zl ?_
   exact ⟨hE.sub ⟨rfl,rfl,trivial⟩,hM⟩
 ·skip
  rintro a w ⟨hE,hM⟩
  refine Zu (Zc (Zo (cs:=enc j7) hE Za ld rfl Ve rfl (hM.rawAt (pre:=[])) (Flat.len _) ?_)); intro a hE
  have hM:=hM.pull (pre:=[_])
  refine Zv (seg:=enc j7) (cs':=enc j7) hE hM Za rfl rfl rfl Ve (Flat.len _) (zle flq) (Flat.cell _) (Zr flq) fun w a hM hE=>Zf ?_
  have hr:=Option.some.inj hF9
  subst hr
  have hq22 : Yx Tryz.prog _ _ (.cell 2 23) _:=ZR hE rfl Ve rfl (hM.rawAt (pre:=[])) (Flat.len _) rfl
  have hM:=M.fst (l:=[]) hM
  exact wp_ret (Zt hE rfl hq22 ⟨_,rfl,rfl,hM.kept⟩)
def Yu (p0 : (Vector UInt8 16)) (s10 : (Vector UInt8 16) × Int) : Option (Fl ((Vector UInt8 16) × Int) (Vector UInt8 16)) :=
 if (decide (s10.2 < 16)) = true then ((ZI p0 s10.2).bind fun x15=>(ZI s10.1 (bI x15)).bind fun x19=>some (Fl.nx ((s10.1.setIfInBounds ((bI x15)).toNat (Zx s10.2)),wr (s10.2 + 1)))) else (some (Fl.ex s10.1))
def Y6 (p0 : (Vector UInt8 16)) : Option ((Vector UInt8 16)) :=
 (ZE (Yu p0) ((Vector.replicate 16 (0 : UInt8)),0)).bind fun j7=>some j7
theorem Qk (w0 : World) (p0 : (Vector UInt8 16)) (r : (Vector UInt8 16)) (hF : Y6 p0 = some r) :
  Calls Tryz.prog 159 [(Value.agg (enc p0).toArray)].toArray w0 (fun en w'=>∃ v,en = .returned v ∧ (v = (Value.agg (enc r).toArray) ∧ Kept (Old w0) w0 w')):=by
 refine ZB (n:=18) Tryz.func159 rfl rfl (nbl rfl) rfl ?_
 intro a hE
 have hM:=M.start w0
 unfold Y6 at hF
 refine Zc (ZT (cs:=enc p0) hE hM Za ld rfl rfl fun b1 w a hM hE=>ZH hE hM Za ld Qg fun b3 w a hM hE=>Zf (Zc (YT (parts:=[]) (vs:=[]) (cs:=enc (Vector.replicate 16 (0 : UInt8))) hE Za ld rfl rfl Qg rfl ty5 Yw fun a hE=>ZH hE hM Za ld Qg fun b5 w a hM hE=>Zv (seg:=enc (Vector.replicate 16 (0 : UInt8))) (cs':=enc (Vector.replicate 16 (0 : UInt8))) hE hM Za rfl rfl rfl Qg (Flat.len _) (zle flq) (Flat.cell _) (Zr flq) fun w a hM hE=>Zf (wp_seq (Zc (Zo (cs:=enc p0) hE Za ld rfl Qg rfl (hM.rawAt (pre:=[_,_])) (Flat.len _) fun a hE=>Zd hE Za ld rfl fun a hE=>Zf ?_))))))
 obtain ⟨j7,hl8,hF9⟩:=bind_some hF
 refine ZL (fun a w=>Env 18 a [(2,(ptr b3 0)),(3,(ptr b5 0))] ∧ M (Old w0) w0 w [raw b5 (enc j7),raw b3 (enc (Vector.replicate 16 (0 : UInt8)))]) ?_ ?_
 ·skip
  refine wp_block ?_
  have hM:=M.fst (l:=[_,_]) ((hM.pull (pre:=[_])).pull (pre:=[_]))
  refine ZC (fun (s10 : (Vector UInt8 16) × Int) a w=>Env 18 a [(2,(ptr b3 0)),(3,(ptr b5 0)),(7,(Value.agg (enc p0).toArray)),(8,vI s10.2)] ∧ M (Old w0) w0 w [raw b5 (enc s10.1),raw b3 (enc (Vector.replicate 16 (0 : UInt8)))]) hl8 ⟨hE.sub ⟨rfl,rfl,rfl,rfl,trivial⟩,hM⟩ ?_
  rintro s10 a w ⟨hE,hM⟩ o13 hs11 hx12
  unfold Yu at hs11
  refine Zc (Zi hE Za ld rfl rfl rfl fun a hE=>Zf (wp_seq ?_))
  refine Zp hE rfl ?_ ?_
  ·intro hb14
   have hs11:=Zz hs11 hb14
   refine wp_skip (Zu (wp_seq (wp_block (Zc (Zd hE Za ld rfl ?_))))); intro a hE
   obtain ⟨x15,hi17,hs11⟩:=bvx hs11
   refine Qr hE Za ld rfl rfl Tryz.underlying28 ty5 rfl rfl hi17 rfl fun a hE=>Ze hE Za ld rfl fun a hE=>Ze hE Za ld rfl fun a hE=>Zf (wp_region_lit (Zd hE Za ld rfl fun a hE=>Zd hE Za ld rfl fun a hE=>Yb hE Za ld rfl Tryz.underlying3 Tryz.underlying5 ?_)); intro a hE
   rw [ZN] at hE
   obtain ⟨x19,hi18,hs11⟩:=bvx hs11
   refine Zk hE Za ld rfl rfl Tryz.underlying28 ty5 hi18.1 fun a hE=>Zv (seg:=[(vB (Zx s10.2))]) (cs':=enc (s10.1.setIfInBounds ((bI x15)).toNat (Zx s10.2))) hE hM Za rfl rfl rfl ty5 rfl (ZM (v:=s10.1) (x:=Zx s10.2) hi18.1) (Flat.cell (Zx s10.2 : UInt8)) (ZD (v:=s10.1) (x:=Zx s10.2) hi18.1) fun w a hM hE=>Zj (ZZ (Zu (wp_region_lit (Zi hE Za ld rfl rfl rfl fun a hE=>Zd hE Za ld rfl fun a hE=>Zj (Zl ?_)))))
   exact ⟨_,(ois hs11),hE.sub ⟨rfl,rfl,rfl,rfl,trivial⟩,hM⟩
  ·intro hb14
   have hs11:=Zy hs11 hb14
   refine wp_exit (Zm (Zm (Z0 ?_)))
   have ht21:=hx12 _ (ois hs11)
   subst ht21
   refine Zl ?_
   exact ⟨hE.sub ⟨rfl,rfl,trivial⟩,hM⟩
 ·skip
  rintro a w ⟨hE,hM⟩
  refine Zu (Zc (Zo (cs:=enc j7) hE Za ld rfl Qg rfl (hM.rawAt (pre:=[])) (Flat.len _) ?_)); intro a hE
  have hM:=hM.pull (pre:=[_])
  refine Zv (seg:=enc j7) (cs':=enc j7) hE hM Za rfl rfl rfl Qg (Flat.len _) (zle flq) (Flat.cell _) (Zr flq) fun w a hM hE=>Zf ?_
  have hr:=Option.some.inj hF9
  subst hr
  have hq22 : Yx Tryz.prog _ _ (.cell 2 28) _:=ZR hE rfl Qg rfl (hM.rawAt (pre:=[])) (Flat.len _) rfl
  have hM:=M.fst (l:=[]) hM
  exact wp_ret (Zt hE rfl hq22 ⟨_,rfl,rfl,hM.kept⟩)
def XH (s8 : (Vector (Vector (Vector UInt8 256) 4) 4) × Int) (s19 : (Vector (Vector (Vector UInt8 256) 4) 4) × Int) (s30 : (Vector (Vector (Vector UInt8 256) 4) 4) × Int) (r35 : UInt8) (s40 : (Vector (Vector (Vector UInt8 256) 4) 4) × Int) : Option (Fl ((Vector (Vector (Vector UInt8 256) 4) 4) × Int) (Vector (Vector (Vector UInt8 256) 4) 4)) :=
 if (decide (s40.2 < s30.2)) = true then ((ZI s40.1 s8.2).bind fun x47=>(ZI x47 s19.2).bind fun x50=>(ZI x50 s40.2).bind fun x53=>(ZI s40.1 s8.2).bind fun x56=>(ZI x56 s19.2).bind fun x59=>(ZI x59 (orI s30.2 s40.2)).bind fun x62=>some (Fl.nx ((s40.1.setIfInBounds (s8.2).toNat (x56.setIfInBounds (s19.2).toNat (x59.setIfInBounds ((orI s30.2 s40.2)).toNat (r35 ^^^ x53)))),wr (s40.2 + 1)))) else (some (Fl.ex s40.1))
def XJ (p0 : Int) (s8 : (Vector (Vector (Vector UInt8 256) 4) 4) × Int) (s19 : (Vector (Vector (Vector UInt8 256) 4) 4) × Int) (x24 : UInt8) (s30 : (Vector (Vector (Vector UInt8 256) 4) 4) × Int) : Option (Fl ((Vector (Vector (Vector UInt8 256) 4) 4) × Int) (Vector (Vector (Vector UInt8 256) 4) 4)) :=
 if (decide (s30.2 < 256)) = true then ((ZX p0 x24 (Zx s30.2)).bind fun r35=>(ZE (XH s8 s19 s30 r35) (s30.1,0)).bind fun j37=>some (Fl.nx (j37,wr (s30.2 * 2)))) else (some (Fl.ex s30.1))
def XP (p0 : Int) (s8 : (Vector (Vector (Vector UInt8 256) 4) 4) × Int) (x14 : (Vector UInt8 4)) (s19 : (Vector (Vector (Vector UInt8 256) 4) 4) × Int) : Option (Fl ((Vector (Vector (Vector UInt8 256) 4) 4) × Int) (Vector (Vector (Vector UInt8 256) 4) 4)) :=
 if (decide (s19.2 < 4)) = true then ((ZI x14 s19.2).bind fun x24=>(ZE (XJ p0 s8 s19 x24) (s19.1,1)).bind fun j27=>some (Fl.nx (j27,wr (s19.2 + 1)))) else (some (Fl.ex s19.1))
def XI (p0 : Int) (p1 : (Vector (Vector UInt8 4) 4)) (s8 : (Vector (Vector (Vector UInt8 256) 4) 4) × Int) : Option (Fl ((Vector (Vector (Vector UInt8 256) 4) 4) × Int) (Vector (Vector (Vector UInt8 256) 4) 4)) :=
 if (decide (s8.2 < 4)) = true then ((ZI p1 s8.2).bind fun x14=>(ZE (XP p0 s8 x14) (s8.1,0)).bind fun j16=>some (Fl.nx (j16,wr (s8.2 + 1)))) else (some (Fl.ex s8.1))
def Wg (p0 : Int) (p1 : (Vector (Vector UInt8 4) 4)) : Option ((Ref (Vector (Vector (Vector UInt8 256) 4) 4))) :=
 (ZE (XI p0 p1) ((Vector.replicate 4 (Vector.replicate 4 (Vector.replicate 256 (0 : UInt8)))),0)).bind fun j5=>some (⟨j5⟩ : (Ref (Vector (Vector (Vector UInt8 256) 4) 4)))
theorem Qe (w0 : World) (p0 : Int) (p1 : (Vector (Vector UInt8 4) 4)) (r : (Ref (Vector (Vector (Vector UInt8 256) 4) 4))) (hF : Wg p0 p1 = some r) :
  Calls Tryz.prog 160 [vI p0,(Value.agg (enc p1).toArray)].toArray w0 (fun en w'=>∃ v,en = .returned v ∧ (∃ (y1 : Value),v = y1 ∧ Fr w0 w' [own NoB (r : (Ref (Vector (Vector (Vector UInt8 256) 4) 4))) [y1]] ∧ Kept (Old w0) w0 w')):=by
 refine ZB (n:=62) Tryz.func160 rfl rfl (nbl rfl) rfl ?_
 intro a hE
 have hM:=M.start w0
 unfold Wg at hF
 refine Zc (ZT (cs:=enc p1) hE hM Za ld rfl rfl fun b1 w a hM hE=>Ze hE Za ld rfl fun a hE=>Zf (Zc (YT (parts:=[]) (vs:=[]) (cs:=enc (Vector.replicate 4 (Vector.replicate 4 (Vector.replicate 256 (0 : UInt8))))) hE Za ld rfl rfl ty207 rfl Ha Yw fun a hE=>ZT (cs:=enc (Vector.replicate 4 (Vector.replicate 4 (Vector.replicate 256 (0 : UInt8))))) hE hM Za ld rfl rfl fun b3 w a hM hE=>Ze hE Za ld rfl fun a hE=>Zf (wp_seq (Zc (Zd hE Za ld rfl fun a hE=>Zf ?_))))))
 obtain ⟨j5,hl6,hF7⟩:=bind_some hF
 refine ZL (fun a w=>Env 62 a [(5,(ptr b3 0))] ∧ M (Old w0) w0 w [raw b3 (enc j5)]) ?_ ?_
 ·skip
  refine wp_block ?_
  refine ZC (fun (s8 : (Vector (Vector (Vector UInt8 256) 4) 4) × Int) a w=>Env 62 a [(0,vI p0),(3,(ptr b1 0)),(5,(ptr b3 0)),(14,vI s8.2)] ∧ M (Old w0) w0 w [raw b3 (enc s8.1),raw b1 (enc p1)]) hl6 ⟨hE.sub ⟨rfl,rfl,rfl,rfl,trivial⟩,hM⟩ ?_
  rintro s8 a w ⟨hE,hM⟩ o11 hs9 hx10
  unfold XI at hs9
  refine Zc (Zi hE Za ld rfl rfl rfl fun a hE=>Zf (wp_seq ?_))
  refine Zp hE rfl ?_ ?_
  ·intro hb12
   have hs9:=Zz hs9 hb12
   refine wp_skip (Zu (wp_seq (wp_block (Zc (Zd hE Za ld rfl fun a hE=>Ze hE Za ld rfl fun a hE=>Zf (Zc (Zd hE Za ld rfl ?_))))))); intro a hE
   obtain ⟨x14,hi13,hs9⟩:=bvx hs9
   refine Zk hE Za ld rfl rfl Tryz.underlying26 WE hi13.1 fun a hE=>Zo (cs:=enc x14) hE Za ld rfl WE rfl (At.vec (hM.rawAt (pre:=[_])) hi13.2) (Flat.len _) fun a hE=>Zd hE Za ld rfl fun a hE=>Zf ?_
   obtain ⟨j16,hl17,hF18⟩:=bind_some hs9
   refine ZL (fun a w=>Env 62 a [(0,vI p0),(3,(ptr b1 0)),(5,(ptr b3 0)),(14,vI s8.2)] ∧ M (Old w0) w0 w [raw b3 (enc j16),raw b1 (enc p1)]) ?_ ?_
   ·skip
    refine wp_block ?_
    refine ZC (fun (s19 : (Vector (Vector (Vector UInt8 256) 4) 4) × Int) a w=>Env 62 a [(0,vI p0),(3,(ptr b1 0)),(5,(ptr b3 0)),(6,vI s8.2),(14,vI s8.2),(19,(Value.agg (enc x14).toArray)),(20,vI s19.2)] ∧ M (Old w0) w0 w [raw b3 (enc s19.1),raw b1 (enc p1)]) hl17 ⟨hE.sub ⟨rfl,rfl,rfl,rfl,rfl,rfl,rfl,trivial⟩,hM⟩ ?_
    rintro s19 a w ⟨hE,hM⟩ o22 hs20 hx21
    unfold XP at hs20
    refine Zc (Zi hE Za ld rfl rfl rfl fun a hE=>Zf (wp_seq ?_))
    refine Zp hE rfl ?_ ?_
    ·intro hb23
     have hs20:=Zz hs20 hb23
     refine wp_skip (Zu (wp_seq (wp_block (Zc (Zd hE Za ld rfl ?_))))); intro a hE
     obtain ⟨x24,hi26,hs20⟩:=bvx hs20
     refine Qr hE Za ld rfl rfl Tryz.underlying24 ty5 rfl rfl hi26 rfl fun a hE=>Ze hE Za ld rfl fun a hE=>Ze hE Za ld rfl fun a hE=>Zf (Zc (Ze hE Za ld rfl fun a hE=>Zf ?_))
     obtain ⟨j27,hl28,hF29⟩:=bind_some hs20
     refine ZL (fun a w=>Env 62 a [(0,vI p0),(3,(ptr b1 0)),(5,(ptr b3 0)),(6,vI s8.2),(14,vI s8.2),(19,(Value.agg (enc x14).toArray)),(20,vI s19.2)] ∧ M (Old w0) w0 w [raw b3 (enc j27),raw b1 (enc p1)]) ?_ ?_
     ·skip
      refine wp_block ?_
      refine ZC (fun (s30 : (Vector (Vector (Vector UInt8 256) 4) 4) × Int) a w=>Env 62 a [(0,vI p0),(3,(ptr b1 0)),(5,(ptr b3 0)),(6,vI s8.2),(7,vI s19.2),(8,vB x24),(9,vI s30.2),(14,vI s8.2),(19,(Value.agg (enc x14).toArray)),(20,vI s19.2)] ∧ M (Old w0) w0 w [raw b3 (enc s30.1),raw b1 (enc p1)]) hl28 ⟨hE.sub ⟨rfl,rfl,rfl,rfl,rfl,rfl,rfl,rfl,rfl,rfl,trivial⟩,hM⟩ ?_
      rintro s30 a w ⟨hE,hM⟩ o33 hs31 hx32
      unfold XJ at hs31
      refine wp_seq (Zc (Zd hE Za ld rfl fun a hE=>Zi hE Za ld rfl rfl rfl fun a hE=>Zf ?_))
      refine Zp hE rfl ?_ ?_
      ·intro hb34
       have hs31:=Zz hs31 hb34
       refine wp_skip (Zu (wp_seq (wp_block (Zc (Zd hE Za ld rfl fun a hE=>Zd hE Za ld rfl fun a hE=>Zd hE Za ld rfl fun a hE=>Yb hE Za ld rfl Tryz.underlying3 Tryz.underlying5 ?_))))); intro a hE
       rw [ZN] at hE
       obtain ⟨r35,e36,hs31⟩:=bind_some hs31
       refine Zw hE Za ld rfl Jk (Yr _ p0 x24 (Zx s30.2) r35 e36) ?_
       rintro v w a ⟨rfl,hK⟩ hE
       have hM:=hM.keep hK
       refine Ze hE Za ld rfl fun a hE=>Zf (Zc (Zd hE Za ld rfl fun a hE=>Zd hE Za ld rfl fun a hE=>Zf ?_))
       obtain ⟨j37,hl38,hF39⟩:=bind_some hs31
       refine ZL (fun a w=>Env 62 a [(0,vI p0),(3,(ptr b1 0)),(5,(ptr b3 0)),(6,vI s8.2),(7,vI s19.2),(8,vB x24),(9,vI s30.2),(14,vI s8.2),(19,(Value.agg (enc x14).toArray)),(20,vI s19.2)] ∧ M (Old w0) w0 w [raw b3 (enc j37),raw b1 (enc p1)]) ?_ ?_
       ·skip
        refine wp_block ?_
        refine ZC (fun (s40 : (Vector (Vector (Vector UInt8 256) 4) 4) × Int) a w=>Env 62 a [(0,vI p0),(3,(ptr b1 0)),(5,(ptr b3 0)),(6,vI s8.2),(7,vI s19.2),(8,vB x24),(9,vI s30.2),(10,vB r35),(14,vI s8.2),(19,(Value.agg (enc x14).toArray)),(20,vI s19.2),(33,vI s30.2),(34,vI s40.2)] ∧ M (Old w0) w0 w [raw b3 (enc s40.1),raw b1 (enc p1)]) hl38 ⟨hE.sub ⟨rfl,rfl,rfl,rfl,rfl,rfl,rfl,rfl,rfl,rfl,rfl,rfl,rfl,trivial⟩,hM⟩ ?_
        rintro s40 a w ⟨hE,hM⟩ o43 hs41 hx42
        unfold XH at hs41
        refine Zc (Zi hE Za ld rfl rfl rfl fun a hE=>Zf (wp_seq ?_))
        refine Zp hE rfl ?_ ?_
        ·intro hb44
         have hs41:=Zz hs41 hb44
         refine wp_skip (Zu (wp_seq (wp_block (Zc (Zd hE Za ld rfl fun a hE=>Ze hE Za ld rfl fun a hE=>Zf ?_)))))
         obtain ⟨x47,hi46,hs41⟩:=bvx hs41
         obtain ⟨x50,hi49,hs41⟩:=bvx hs41
         obtain ⟨x53,hi52,hs41⟩:=bvx hs41
         obtain ⟨x56,hi55,hs41⟩:=bvx hs41
         obtain ⟨x59,hi58,hs41⟩:=bvx hs41
         obtain ⟨x62,hi61,hs41⟩:=bvx hs41
         refine Yg (n:=62) (hd:=[_,_,_,_,_,_,_,_,_,_,_,_,_,_,_,_,_,_,_,_,_]) (tl:=[_]) YN rfl rfl [37,38,39,40,41,42,43,44,45,46,47,48,49,50,51,52,53,54,55,56,57] (by decide) (fun w=>M (Old w0) w0 w [raw b3 (enc s40.1),raw b1 (enc p1)]) (fun j=>([fun v _=>v = (ptr b3 0),fun v _=>v = (vI s8.2),fun v _=>v = (vI s19.2),fun v _=>v = (vI s30.2),fun v _=>v = (vI s40.2),fun v _=>v = (vI (orI s30.2 s40.2)),fun v _=>v = (vB r35),fun v _=>v = (ptr b3 0),fun v _=>v = (vI s8.2),fun v _=>v = (vI s19.2),fun v _=>v = (vI s40.2),fun v _=>v = (ptr b3 0),fun v _=>v = (ptr b3 (0 + (s8.2).toNat * 1024)),fun v _=>v = (ptr b3 (0 + (s8.2).toNat * 1024 + (s19.2).toNat * 256)),fun v _=>v = (ptr b3 (0 + (s8.2).toNat * 1024 + (s19.2).toNat * 256 + (s40.2).toNat * 1)),fun v _=>v = (vB x53),fun v _=>v = (vB (r35 ^^^ x53)),fun v _=>v = (ptr b3 0),fun v _=>v = (ptr b3 (0 + (s8.2).toNat * 1024)),fun v _=>v = (ptr b3 (0 + (s8.2).toNat * 1024 + (s19.2).toNat * 256)),fun v _=>v = (ptr b3 (0 + (s8.2).toNat * 1024 + (s19.2).toNat * 256 + ((orI s30.2 s40.2)).toNat * 1))] : List (Value → World → Prop)).getD j (fun _ _=>True)) (fun _ _ h hk=>h.keep hk) (gup (Zn (Zn (Zn (Zn (Zn (Zn (Zn (Zn (Zn (Zn (Zn (Zn (Zn (Zn (Zn (Zn (Zn (Zn (Zn (Zn (Zn Vb)))))))))))))))))))))) hE hM.drew (ZJ (Zb ?_ (Zb ?_ (Zb ?_ (Zb ?_ (Zb ?_ (Zb ?_ (Zb ?_ (Zb ?_ (Zb ?_ (Zb ?_ (Zb ?_ (Zb ?_ (Zb ?_ (Zb ?_ (Zb ?_ (Zb ?_ (Zb ?_ (Zb ?_ (Zb ?_ (Zb ?_ (Zb ?_ ZF)))))))))))))))))))))) ?_
         ·exact fun a w ux45 hE hM hp=>Zd hE Za ld rfl fun a hE=>⟨Kept.refl _ _,_,_,rfl,hE,rfl⟩
         ·exact fun a w ux45 hE hM hp=>Zd hE Za ld rfl fun a hE=>⟨Kept.refl _ _,_,_,rfl,hE,rfl⟩
         ·exact fun a w ux45 hE hM hp=>Zd hE Za ld rfl fun a hE=>⟨Kept.refl _ _,_,_,rfl,hE,rfl⟩
         ·exact fun a w ux45 hE hM hp=>Zd hE Za ld rfl fun a hE=>⟨Kept.refl _ _,_,_,rfl,hE,rfl⟩
         ·exact fun a w ux45 hE hM hp=>Zd hE Za ld rfl fun a hE=>⟨Kept.refl _ _,_,_,rfl,hE,rfl⟩
         ·intro a w ux45 hE hM hp
          have f3 : ux45 3 = (vI s30.2):=hp 0 _ rfl rfl
          have f4 : ux45 4 = (vI s40.2):=hp 1 _ rfl rfl
          exact Zi hE Za ld (lk rfl f3) (lk rfl f4) rfl fun a hE=>⟨Kept.refl _ _,_,_,rfl,hE,rfl⟩
         ·exact fun a w ux45 hE hM hp=>Zd hE Za ld rfl fun a hE=>⟨Kept.refl _ _,_,_,rfl,hE,rfl⟩
         ·exact fun a w ux45 hE hM hp=>Zd hE Za ld rfl fun a hE=>⟨Kept.refl _ _,_,_,rfl,hE,rfl⟩
         ·exact fun a w ux45 hE hM hp=>Zd hE Za ld rfl fun a hE=>⟨Kept.refl _ _,_,_,rfl,hE,rfl⟩
         ·exact fun a w ux45 hE hM hp=>Zd hE Za ld rfl fun a hE=>⟨Kept.refl _ _,_,_,rfl,hE,rfl⟩
         ·exact fun a w ux45 hE hM hp=>Zd hE Za ld rfl fun a hE=>⟨Kept.refl _ _,_,_,rfl,hE,rfl⟩
         ·intro a w ux45 hE hM hp
          have f7 : ux45 7 = (ptr b3 0):=hp 0 _ rfl rfl
          exact Xy hE Za ld (lk rfl f7) fun a hE=>⟨Kept.refl _ _,_,_,rfl,hE,rfl⟩
         ·intro a w ux45 hE hM hp
          have f8 : ux45 8 = (vI s8.2):=hp 1 _ rfl rfl
          have f11 : ux45 11 = (ptr b3 0):=hp 0 _ rfl rfl
          exact Zk hE Za ld (lk rfl f11) (lk rfl f8) Tryz.underlying207 Ha hi46.1 fun a hE=>⟨Kept.refl _ _,_,_,rfl,hE,rfl⟩
         ·intro a w ux45 hE hM hp
          have f9 : ux45 9 = (vI s19.2):=hp 1 _ rfl rfl
          have f12 : ux45 12 = (ptr b3 (0 + (s8.2).toNat * 1024)):=hp 0 _ rfl rfl
          exact Zk hE Za ld (lk rfl f12) (lk rfl f9) Tryz.underlying205 ty22 hi49.1 fun a hE=>⟨Kept.refl _ _,_,_,rfl,hE,rfl⟩
         ·intro a w ux45 hE hM hp
          have f10 : ux45 10 = (vI s40.2):=hp 1 _ rfl rfl
          have f13 : ux45 13 = (ptr b3 (0 + (s8.2).toNat * 1024 + (s19.2).toNat * 256)):=hp 0 _ rfl rfl
          exact Zk hE Za ld (lk rfl f13) (lk rfl f10) Tryz.underlying22 ty5 hi52.1 fun a hE=>⟨Kept.refl _ _,_,_,rfl,hE,rfl⟩
         ·intro a w ux45 hE hM hp
          have f14 : ux45 14 = (ptr b3 (0 + (s8.2).toNat * 1024 + (s19.2).toNat * 256 + (s40.2).toNat * 1)):=hp 0 _ rfl rfl
          exact ZA (v:=(vB x53)) hE Za ld (lk rfl f14) ty5 rfl (At.vec (At.vec (At.vec (hM.rawAt (pre:=[])) hi46.2) hi49.2) hi52.2) fun a hE=>⟨Kept.refl _ _,_,_,rfl,hE,rfl⟩
         ·intro a w ux45 hE hM hp
          have f6 : ux45 6 = (vB r35):=hp 0 _ rfl rfl
          have f15 : ux45 15 = (vB x53):=hp 1 _ rfl rfl
          exact Zi hE Za ld (lk rfl f6) (lk rfl f15) (VG r35 x53) fun a hE=>⟨Kept.refl _ _,_,_,rfl,hE,rfl⟩
         ·intro a w ux45 hE hM hp
          have f0 : ux45 0 = (ptr b3 0):=hp 0 _ rfl rfl
          exact Xy hE Za ld (lk rfl f0) fun a hE=>⟨Kept.refl _ _,_,_,rfl,hE,rfl⟩
         ·intro a w ux45 hE hM hp
          have f1 : ux45 1 = (vI s8.2):=hp 1 _ rfl rfl
          have f17 : ux45 17 = (ptr b3 0):=hp 0 _ rfl rfl
          exact Zk hE Za ld (lk rfl f17) (lk rfl f1) Tryz.underlying207 Ha hi55.1 fun a hE=>⟨Kept.refl _ _,_,_,rfl,hE,rfl⟩
         ·intro a w ux45 hE hM hp
          have f2 : ux45 2 = (vI s19.2):=hp 1 _ rfl rfl
          have f18 : ux45 18 = (ptr b3 (0 + (s8.2).toNat * 1024)):=hp 0 _ rfl rfl
          exact Zk hE Za ld (lk rfl f18) (lk rfl f2) Tryz.underlying205 ty22 hi58.1 fun a hE=>⟨Kept.refl _ _,_,_,rfl,hE,rfl⟩
         ·intro a w ux45 hE hM hp
          have f5 : ux45 5 = (vI (orI s30.2 s40.2)):=hp 1 _ rfl rfl
          have f19 : ux45 19 = (ptr b3 (0 + (s8.2).toNat * 1024 + (s19.2).toNat * 256)):=hp 0 _ rfl rfl
          exact Zk hE Za ld (lk rfl f19) (lk rfl f5) Tryz.underlying22 ty5 hi61.1 fun a hE=>⟨Kept.refl _ _,_,_,rfl,hE,rfl⟩
         ·intro a w ux45 hE hM hg
          have hE:=hE.sub (e':=[(53,(vB (r35 ^^^ x53))),(57,(ptr b3 (0 + (s8.2).toNat * 1024 + (s19.2).toNat * 256 + ((orI s30.2 s40.2)).toNat * 1))),(0,vI p0),(3,(ptr b1 0)),(5,(ptr b3 0)),(6,vI s8.2),(7,vI s19.2),(8,vB x24),(9,vI s30.2),(10,vB r35),(11,vI s40.2),(14,vI s8.2),(19,(Value.agg (enc x14).toArray)),(20,vI s19.2),(33,vI s30.2),(34,vI s40.2),(35,(vT (decide (s40.2 < s30.2)))),(36,vI s40.2)]) ⟨lk rfl (hg 16 (by decide)),lk rfl (hg 20 (by decide)),rfl,rfl,rfl,rfl,rfl,rfl,rfl,rfl,rfl,rfl,rfl,rfl,rfl,rfl,rfl,rfl,trivial⟩
          refine Zv (seg:=[(vB (r35 ^^^ x53))]) (cs':=enc (s40.1.setIfInBounds (s8.2).toNat (x56.setIfInBounds (s19.2).toNat (x59.setIfInBounds ((orI s30.2 s40.2)).toNat (r35 ^^^ x53))))) hE hM Za rfl rfl rfl ty5 rfl (Vk (o':=(s19.2).toNat * 256 + (0 + ((orI s30.2 s40.2)).toNat * 1)) hi55 (Vk (o':=0 + ((orI s30.2 s40.2)).toNat * 1) hi58 (ZM (v:=x59) (x:=r35 ^^^ x53) hi61.1) (by first | omega | (simp only [Flat.n] <;> omega))) (by first | omega | (simp only [Flat.n] <;> omega))) (Flat.cell (r35 ^^^ x53 : UInt8)) (Wl (o':=(s19.2).toNat * 256 + (0 + ((orI s30.2 s40.2)).toNat * 1)) hi55 (Vk (o':=0 + ((orI s30.2 s40.2)).toNat * 1) hi58 (ZM (v:=x59) (x:=r35 ^^^ x53) hi61.1) (by first | omega | (simp only [Flat.n] <;> omega))) (Wl (o':=0 + ((orI s30.2 s40.2)).toNat * 1) hi58 (ZM (v:=x59) (x:=r35 ^^^ x53) hi61.1) (ZD (v:=x59) (x:=r35 ^^^ x53) hi61.1) (by first | omega | (simp only [Flat.n] <;> omega))) (by first | omega | (simp only [Flat.n] <;> omega))) fun w a hM hE=>Zj (ZZ (Zu (wp_region_lit (Zi hE Za ld rfl rfl rfl fun a hE=>Zd hE Za ld rfl fun a hE=>Zj (Zl ?_)))))
          exact ⟨_,(ois hs41),hE.sub ⟨rfl,rfl,rfl,rfl,rfl,rfl,rfl,rfl,rfl,rfl,rfl,rfl,rfl,trivial⟩,hM⟩
        ·intro hb44
         have hs41:=Zy hs41 hb44
         refine wp_exit (Zm (Zm (Z0 ?_)))
         have ht64:=hx42 _ (ois hs41)
         subst ht64
         refine Zl ?_
         exact ⟨hE.sub ⟨rfl,rfl,rfl,rfl,rfl,rfl,rfl,rfl,rfl,rfl,trivial⟩,hM⟩
       ·skip
        rintro a w ⟨hE,hM⟩
        refine ZZ (Zu (wp_region_lit (Zd hE Za ld rfl fun a hE=>Zi hE Za ld rfl rfl rfl fun a hE=>Ze hE Za ld rfl fun a hE=>Zj (Zl ?_))))
        exact ⟨_,(ois hF39),hE.sub ⟨rfl,rfl,rfl,rfl,rfl,rfl,rfl,rfl,rfl,rfl,trivial⟩,hM⟩
      ·intro hb34
       have hs31:=Zy hs31 hb34
       refine wp_exit (Zm (Zm (Z0 ?_)))
       have ht65:=hx32 _ (ois hs31)
       subst ht65
       refine Zl ?_
       exact ⟨hE.sub ⟨rfl,rfl,rfl,rfl,rfl,rfl,rfl,trivial⟩,hM⟩
     ·skip
      rintro a w ⟨hE,hM⟩
      refine ZZ (Zu (wp_region_lit (Zi hE Za ld rfl rfl rfl fun a hE=>Zd hE Za ld rfl fun a hE=>Zj (Zl ?_))))
      exact ⟨_,(ois hF29),hE.sub ⟨rfl,rfl,rfl,rfl,rfl,rfl,rfl,trivial⟩,hM⟩
    ·intro hb23
     have hs20:=Zy hs20 hb23
     refine wp_exit (Zm (Zm (Z0 ?_)))
     have ht66:=hx21 _ (ois hs20)
     subst ht66
     refine Zl ?_
     exact ⟨hE.sub ⟨rfl,rfl,rfl,rfl,trivial⟩,hM⟩
   ·skip
    rintro a w ⟨hE,hM⟩
    refine ZZ (Zu (wp_region_lit (Zi hE Za ld rfl rfl rfl fun a hE=>Zd hE Za ld rfl fun a hE=>Zj (Zl ?_))))
    exact ⟨_,(ois hF18),hE.sub ⟨rfl,rfl,rfl,rfl,trivial⟩,hM⟩
  ·intro hb12
   have hs9:=Zy hs9 hb12
   refine wp_exit (Zm (Zm (Z0 ?_)))
   have ht67:=hx10 _ (ois hs9)
   subst ht67
   refine Zl ?_
   have hM:=M.fst (l:=[_]) hM
   exact ⟨hE.sub ⟨rfl,trivial⟩,hM⟩
 ·skip
  rintro a w ⟨hE,hM⟩
  refine Zu (Zc (Zd hE Za ld rfl fun a hE=>Ze hE Za ld rfl fun a hE=>Zf ?_))
  have hM:=M.toRefF (x:=j5) hM
  have hr:=Option.some.inj hF7
  subst hr
  exact wp_ret (Zt hE rfl (Zs hE rfl) ⟨_,rfl,(ptr b3 0),rfl,hM.outF (zh VT),hM.kept⟩)
def WV (p0 : GCipher) : Option ((Ref Gengine)) :=
 (YY p0.Field p0.Mix).bind fun r3=>(XV p0.Box).bind fun r8=>(Y6 p0.Places).bind fun r10=>(Wg p0.Field p0.Mix).bind fun r12=>(Wg p0.Field r3.2).bind fun r15=>some (⟨(⟨p0.Box,r8,p0.Places,r10,r12,r15,p0.Rounds⟩ : Gengine)⟩ : (Ref Gengine))
theorem K1 (w0 : World) (p0 : GCipher) (r : (Ref Gengine)) (hF : WV p0 = some r) :
  Calls Tryz.prog 140 [(Value.agg (enc p0).toArray)].toArray w0 (fun en w'=>∃ v,en = .returned v ∧ (∃ (y1 : Value),v = y1 ∧ Fr w0 w' [own NoB (r : (Ref Gengine)) [y1]] ∧ Kept (Old w0) w0 w')):=by
 refine ZB (n:=36) Tryz.func140 rfl rfl (nbl rfl) rfl ?_
 intro a hE
 have hM:=M.start w0
 unfold WV at hF
 refine Zc (ZT (cs:=cat [[vI p0.Field],enc p0.Box,enc p0.Mix,enc p0.Places,[vI p0.Rounds]]) hE hM Za ld rfl rfl fun b1 w a hM hE=>Ze hE Za ld rfl fun a hE=>Zf (Zc (Zh hE Za ld rfl (K8) fun a hE=>ZA (v:=(vI p0.Field)) hE Za ld rfl ty2 rfl (At.cat (pre:=[]) (hM.rawAt (pre:=[])) cl0) fun a hE=>Zh hE Za ld rfl (Kb) fun a hE=>Zo (cs:=enc p0.Mix) hE Za ld rfl Ti rfl (At.cat (pre:=[[vI p0.Field],enc p0.Box]) (hM.rawAt (pre:=[])) (cl1 (n:=1) (m:=256) rfl (cl1 (n:=256) (m:=0) (Flat.len _) cl0))) (Flat.len _) ?_))); intro a hE
 obtain ⟨r3,e4,hF⟩:=bind_some hF
 refine Zw hE Za ld rfl cb128 (QQ _ p0.Field p0.Mix r3 e4) ?_
 rintro v w a ⟨rfl,hK⟩ hE
 have hM:=hM.keep hK
 refine Zd hE Za ld rfl fun a hE=>QG hE Za ld rfl rfl fun a hE=>QG hE Za ld rfl rfl fun a hE=>ZH hE hM Za ld Ti fun b5 w a hM hE=>Ze hE Za ld rfl fun a hE=>Zv (seg:=enc r3.2) (cs':=enc r3.2) hE hM Za rfl rfl rfl Ti (Flat.len _) (zle flq) (Flat.cell _) (Zr flq) fun w a hM hE=>Zf (wp_seq ?_)
 obtain ⟨r8,e9,hF⟩:=bind_some hF
 obtain ⟨r10,e11,hF⟩:=bind_some hF
 obtain ⟨r12,e13,hF⟩:=bind_some hF
 obtain ⟨r15,e16,hF⟩:=bind_some hF
 refine QF (n:=36) (hd:=[_,_,_,_,_,_,_,_,_,_,_,_,_,_,_,_,_,_,_,_,_]) (tl:=[_,_,_]) (its:=[raw b5 (enc r3.2),raw b1 (cat [[vI p0.Field],enc p0.Box,enc p0.Mix,enc p0.Places,[vI p0.Rounds]])]) YN rfl rfl [13,14,15,16,17,18,19,20,21,22,23,24,25,26,27,28,29,30,31,32,33] (by decide) [(14,fun v=>own NoB (r12 : (Ref (Vector (Vector (Vector UInt8 256) 4) 4))) [v]),(18,fun v=>own NoB (r15 : (Ref (Vector (Vector (Vector UInt8 256) 4) 4))) [v])] rfl (fun j=>([fun v=>v = (ptr b1 (0 + 1)),fun v=>v = (Value.agg (enc p0.Box).toArray),fun v=>v = (ptr b1 (0 + 1)),fun v=>v = (Value.agg (enc p0.Box).toArray),fun v=>v = (Value.agg (enc r8).toArray),fun v=>v = (ptr b1 (0 + 273)),fun v=>v = (Value.agg (enc p0.Places).toArray),fun v=>v = (ptr b1 (0 + 273)),fun v=>v = (Value.agg (enc p0.Places).toArray),fun v=>v = (Value.agg (enc r10).toArray),fun v=>v = (ptr b1 (0 + 0)),fun v=>v = (vI p0.Field),fun v=>v = (ptr b1 (0 + 257)),fun v=>v = (Value.agg (enc p0.Mix).toArray),fun v=>True,fun v=>v = (ptr b1 (0 + 0)),fun v=>v = (vI p0.Field),fun v=>v = (Value.agg (enc r3.2).toArray),fun v=>True,fun v=>v = (ptr b1 (0 + 289)),fun v=>v = (vI p0.Rounds)] : List (Value → Prop)).getD j (fun _=>True)) hE hM.drew (ZJ (Zb ?_ (Zb ?_ (Zb ?_ (Zb ?_ (Zb ?_ (Zb ?_ (Zb ?_ (Zb ?_ (Zb ?_ (Zb ?_ (Zb ?_ (Zb ?_ (Zb ?_ (Zb ?_ (Zb ?_ (Zb ?_ (Zb ?_ (Zb ?_ (Zb ?_ (Zb ?_ (Zb ?_ ZF)))))))))))))))))))))) ?_
 ·intro a w ux7 D hE hM hD hp
  have hM0:=hM
  exact Zh hE Za ld rfl (Qw) fun a hE=>⟨_,_,rfl,hE,rfl,hM0.optKeep rfl⟩
 ·intro a w ux7 D hE hM hD hp
  have f0 : ux7 0 = (ptr b1 (0 + 1)):=(hp 0 _ rfl rfl).2
  have hM0:=hM
  have hM : M (Old w0) w0 w [raw b5 (enc r3.2),raw b1 (cat [[vI p0.Field],enc p0.Box,enc p0.Mix,enc p0.Places,[vI p0.Rounds]]),opt (D 14) (own NoB (r12 : (Ref (Vector (Vector (Vector UInt8 256) 4) 4))) [(ux7 14)]),opt (D 18) (own NoB (r15 : (Ref (Vector (Vector (Vector UInt8 256) 4) 4))) [(ux7 18)])]:=hM
  exact Zo (cs:=enc p0.Box) hE Za ld (lk rfl f0) Ve rfl (At.cat (pre:=[[vI p0.Field]]) (hM.rawAt (pre:=[_])) (cl1 (n:=1) (m:=0) rfl cl0)) (Flat.len _) fun a hE=>⟨_,_,rfl,hE,rfl,hM0.optKeep rfl⟩
 ·intro a w ux7 D hE hM hD hp
  have hM0:=hM
  exact Zh hE Za ld rfl (Qw) fun a hE=>⟨_,_,rfl,hE,rfl,hM0.optKeep rfl⟩
 ·intro a w ux7 D hE hM hD hp
  have f2 : ux7 2 = (ptr b1 (0 + 1)):=(hp 0 _ rfl rfl).2
  have hM0:=hM
  have hM : M (Old w0) w0 w [raw b5 (enc r3.2),raw b1 (cat [[vI p0.Field],enc p0.Box,enc p0.Mix,enc p0.Places,[vI p0.Rounds]]),opt (D 14) (own NoB (r12 : (Ref (Vector (Vector (Vector UInt8 256) 4) 4))) [(ux7 14)]),opt (D 18) (own NoB (r15 : (Ref (Vector (Vector (Vector UInt8 256) 4) 4))) [(ux7 18)])]:=hM
  exact Zo (cs:=enc p0.Box) hE Za ld (lk rfl f2) Ve rfl (At.cat (pre:=[[vI p0.Field]]) (hM.rawAt (pre:=[_])) (cl1 (n:=1) (m:=0) rfl cl0)) (Flat.len _) fun a hE=>⟨_,_,rfl,hE,rfl,hM0.optKeep rfl⟩
 ·intro a w ux7 D hE hM hD hp
  have f3 : ux7 3 = (Value.agg (enc p0.Box).toArray):=(hp 0 _ rfl rfl).2
  have hM0:=hM
  refine Zw hE Za ld (Z7 (Z2 (lk rfl f3) X8)) cb158 (QZ _ p0.Box r8 e9) ?_
  rintro v w a ⟨rfl,hK⟩ hE
  exact ⟨_,_,rfl,hE,rfl,(hM0.keep hK).optKeep rfl⟩
 ·intro a w ux7 D hE hM hD hp
  have hM0:=hM
  exact Zh hE Za ld rfl (Q3) fun a hE=>⟨_,_,rfl,hE,rfl,hM0.optKeep rfl⟩
 ·intro a w ux7 D hE hM hD hp
  have f5 : ux7 5 = (ptr b1 (0 + 273)):=(hp 0 _ rfl rfl).2
  have hM0:=hM
  have hM : M (Old w0) w0 w [raw b5 (enc r3.2),raw b1 (cat [[vI p0.Field],enc p0.Box,enc p0.Mix,enc p0.Places,[vI p0.Rounds]]),opt (D 14) (own NoB (r12 : (Ref (Vector (Vector (Vector UInt8 256) 4) 4))) [(ux7 14)]),opt (D 18) (own NoB (r15 : (Ref (Vector (Vector (Vector UInt8 256) 4) 4))) [(ux7 18)])]:=hM
  exact Zo (cs:=enc p0.Places) hE Za ld (lk rfl f5) Qg rfl (At.cat (pre:=[[vI p0.Field],enc p0.Box,enc p0.Mix]) (hM.rawAt (pre:=[_])) (cl1 (n:=1) (m:=272) rfl (cl1 (n:=256) (m:=16) (Flat.len _) (cl1 (n:=16) (m:=0) (Flat.len _) cl0)))) (Flat.len _) fun a hE=>⟨_,_,rfl,hE,rfl,hM0.optKeep rfl⟩
 ·intro a w ux7 D hE hM hD hp
  have hM0:=hM
  exact Zh hE Za ld rfl (Q3) fun a hE=>⟨_,_,rfl,hE,rfl,hM0.optKeep rfl⟩
 ·intro a w ux7 D hE hM hD hp
  have f7 : ux7 7 = (ptr b1 (0 + 273)):=(hp 0 _ rfl rfl).2
  have hM0:=hM
  have hM : M (Old w0) w0 w [raw b5 (enc r3.2),raw b1 (cat [[vI p0.Field],enc p0.Box,enc p0.Mix,enc p0.Places,[vI p0.Rounds]]),opt (D 14) (own NoB (r12 : (Ref (Vector (Vector (Vector UInt8 256) 4) 4))) [(ux7 14)]),opt (D 18) (own NoB (r15 : (Ref (Vector (Vector (Vector UInt8 256) 4) 4))) [(ux7 18)])]:=hM
  exact Zo (cs:=enc p0.Places) hE Za ld (lk rfl f7) Qg rfl (At.cat (pre:=[[vI p0.Field],enc p0.Box,enc p0.Mix]) (hM.rawAt (pre:=[_])) (cl1 (n:=1) (m:=272) rfl (cl1 (n:=256) (m:=16) (Flat.len _) (cl1 (n:=16) (m:=0) (Flat.len _) cl0)))) (Flat.len _) fun a hE=>⟨_,_,rfl,hE,rfl,hM0.optKeep rfl⟩
 ·intro a w ux7 D hE hM hD hp
  have f8 : ux7 8 = (Value.agg (enc p0.Places).toArray):=(hp 0 _ rfl rfl).2
  have hM0:=hM
  refine Zw hE Za ld (Z7 (Z2 (lk rfl f8) X8)) cb159 (Qk _ p0.Places r10 e11) ?_
  rintro v w a ⟨rfl,hK⟩ hE
  exact ⟨_,_,rfl,hE,rfl,(hM0.keep hK).optKeep rfl⟩
 ·intro a w ux7 D hE hM hD hp
  have hM0:=hM
  exact Zh hE Za ld rfl (K8) fun a hE=>⟨_,_,rfl,hE,rfl,hM0.optKeep rfl⟩
 ·intro a w ux7 D hE hM hD hp
  have f10 : ux7 10 = (ptr b1 (0 + 0)):=(hp 0 _ rfl rfl).2
  have hM0:=hM
  have hM : M (Old w0) w0 w [raw b5 (enc r3.2),raw b1 (cat [[vI p0.Field],enc p0.Box,enc p0.Mix,enc p0.Places,[vI p0.Rounds]]),opt (D 14) (own NoB (r12 : (Ref (Vector (Vector (Vector UInt8 256) 4) 4))) [(ux7 14)]),opt (D 18) (own NoB (r15 : (Ref (Vector (Vector (Vector UInt8 256) 4) 4))) [(ux7 18)])]:=hM
  exact ZA (v:=(vI p0.Field)) hE Za ld (lk rfl f10) ty2 rfl (At.cat (pre:=[]) (hM.rawAt (pre:=[_])) cl0) fun a hE=>⟨_,_,rfl,hE,rfl,hM0.optKeep rfl⟩
 ·intro a w ux7 D hE hM hD hp
  have hM0:=hM
  exact Zh hE Za ld rfl (Kb) fun a hE=>⟨_,_,rfl,hE,rfl,hM0.optKeep rfl⟩
 ·intro a w ux7 D hE hM hD hp
  have f12 : ux7 12 = (ptr b1 (0 + 257)):=(hp 0 _ rfl rfl).2
  have hM0:=hM
  have hM : M (Old w0) w0 w [raw b5 (enc r3.2),raw b1 (cat [[vI p0.Field],enc p0.Box,enc p0.Mix,enc p0.Places,[vI p0.Rounds]]),opt (D 14) (own NoB (r12 : (Ref (Vector (Vector (Vector UInt8 256) 4) 4))) [(ux7 14)]),opt (D 18) (own NoB (r15 : (Ref (Vector (Vector (Vector UInt8 256) 4) 4))) [(ux7 18)])]:=hM
  exact Zo (cs:=enc p0.Mix) hE Za ld (lk rfl f12) Ti rfl (At.cat (pre:=[[vI p0.Field],enc p0.Box]) (hM.rawAt (pre:=[_])) (cl1 (n:=1) (m:=256) rfl (cl1 (n:=256) (m:=0) (Flat.len _) cl0))) (Flat.len _) fun a hE=>⟨_,_,rfl,hE,rfl,hM0.optKeep rfl⟩
 ·intro a w ux7 D hE hM hD hp
  have f11 : ux7 11 = (vI p0.Field):=(hp 0 _ rfl rfl).2
  have f13 : ux7 13 = (Value.agg (enc p0.Mix).toArray):=(hp 1 _ rfl rfl).2
  have hM0:=hM
  have hM : M (Old w0) w0 w [raw b5 (enc r3.2),raw b1 (cat [[vI p0.Field],enc p0.Box,enc p0.Mix,enc p0.Places,[vI p0.Rounds]]),opt (D 14) (own NoB (r12 : (Ref (Vector (Vector (Vector UInt8 256) 4) 4))) [(ux7 14)]),opt (D 18) (own NoB (r15 : (Ref (Vector (Vector (Vector UInt8 256) 4) 4))) [(ux7 18)])]:=hM
  refine Zw hE Za ld (Z7 (Z2 (lk rfl f11) (Z2 (lk rfl f13) X8))) cb160 (Qe _ p0.Field p0.Mix r12 e13) ?_
  rintro _ w a ⟨_,rfl,hFr,hK⟩ hE
  have hM:=hM0.add hK hFr
  exact ⟨_,_,rfl,hE,trivial,M.optFill (mk1:=[]) (mk2:=[_]) (f:=(fun v=>own NoB (r12 : (Ref (Vector (Vector (Vector UInt8 256) 4) 4))) [v])) hM rfl hD⟩
 ·intro a w ux7 D hE hM hD hp
  have hM0:=hM
  exact Zh hE Za ld rfl (K8) fun a hE=>⟨_,_,rfl,hE,rfl,hM0.optKeep rfl⟩
 ·intro a w ux7 D hE hM hD hp
  have f15 : ux7 15 = (ptr b1 (0 + 0)):=(hp 0 _ rfl rfl).2
  have hM0:=hM
  have hM : M (Old w0) w0 w [raw b5 (enc r3.2),raw b1 (cat [[vI p0.Field],enc p0.Box,enc p0.Mix,enc p0.Places,[vI p0.Rounds]]),opt (D 14) (own NoB (r12 : (Ref (Vector (Vector (Vector UInt8 256) 4) 4))) [(ux7 14)]),opt (D 18) (own NoB (r15 : (Ref (Vector (Vector (Vector UInt8 256) 4) 4))) [(ux7 18)])]:=hM
  exact ZA (v:=(vI p0.Field)) hE Za ld (lk rfl f15) ty2 rfl (At.cat (pre:=[]) (hM.rawAt (pre:=[_])) cl0) fun a hE=>⟨_,_,rfl,hE,rfl,hM0.optKeep rfl⟩
 ·intro a w ux7 D hE hM hD hp
  have hM0:=hM
  have hM : M (Old w0) w0 w [raw b5 (enc r3.2),raw b1 (cat [[vI p0.Field],enc p0.Box,enc p0.Mix,enc p0.Places,[vI p0.Rounds]]),opt (D 14) (own NoB (r12 : (Ref (Vector (Vector (Vector UInt8 256) 4) 4))) [(ux7 14)]),opt (D 18) (own NoB (r15 : (Ref (Vector (Vector (Vector UInt8 256) 4) 4))) [(ux7 18)])]:=hM
  exact Zo (cs:=enc r3.2) hE Za ld rfl Ti rfl (hM.rawAt (pre:=[])) (Flat.len _) fun a hE=>⟨_,_,rfl,hE,rfl,hM0.optKeep rfl⟩
 ·intro a w ux7 D hE hM hD hp
  have f16 : ux7 16 = (vI p0.Field):=(hp 0 _ rfl rfl).2
  have f17 : ux7 17 = (Value.agg (enc r3.2).toArray):=(hp 1 _ rfl rfl).2
  have hM0:=hM
  have hM : M (Old w0) w0 w [raw b5 (enc r3.2),raw b1 (cat [[vI p0.Field],enc p0.Box,enc p0.Mix,enc p0.Places,[vI p0.Rounds]]),opt (D 14) (own NoB (r12 : (Ref (Vector (Vector (Vector UInt8 256) 4) 4))) [(ux7 14)]),opt (D 18) (own NoB (r15 : (Ref (Vector (Vector (Vector UInt8 256) 4) 4))) [(ux7 18)])]:=hM
  refine Zw hE Za ld (Z7 (Z2 (lk rfl f16) (Z2 (lk rfl f17) X8))) cb160 (Qe _ p0.Field r3.2 r15 e16) ?_
  rintro _ w a ⟨_,rfl,hFr,hK⟩ hE
  have hM:=hM0.add hK hFr
  exact ⟨_,_,rfl,hE,trivial,M.optFill (mk1:=[_]) (mk2:=[]) (f:=(fun v=>own NoB (r15 : (Ref (Vector (Vector (Vector UInt8 256) 4) 4))) [v])) hM rfl hD⟩
 ·intro a w ux7 D hE hM hD hp
  have hM0:=hM
  exact Zh hE Za ld rfl (Hx) fun a hE=>⟨_,_,rfl,hE,rfl,hM0.optKeep rfl⟩
 ·intro a w ux7 D hE hM hD hp
  have f19 : ux7 19 = (ptr b1 (0 + 289)):=(hp 0 _ rfl rfl).2
  have hM0:=hM
  have hM : M (Old w0) w0 w [raw b5 (enc r3.2),raw b1 (cat [[vI p0.Field],enc p0.Box,enc p0.Mix,enc p0.Places,[vI p0.Rounds]]),opt (D 14) (own NoB (r12 : (Ref (Vector (Vector (Vector UInt8 256) 4) 4))) [(ux7 14)]),opt (D 18) (own NoB (r15 : (Ref (Vector (Vector (Vector UInt8 256) 4) 4))) [(ux7 18)])]:=hM
  exact ZA (v:=(vI p0.Rounds)) hE Za ld (lk rfl f19) ty2 rfl (At.cat (pre:=[[vI p0.Field],enc p0.Box,enc p0.Mix,enc p0.Places]) (hM.rawAt (pre:=[_])) (cl1 (n:=1) (m:=288) rfl (cl1 (n:=256) (m:=32) (Flat.len _) (cl1 (n:=16) (m:=16) (Flat.len _) (cl1 (n:=16) (m:=0) (Flat.len _) cl0))))) fun a hE=>⟨_,_,rfl,hE,rfl,hM0.optKeep rfl⟩
 ·intro a w ux7 hE hM hg
  have f1 : ux7 1 = (Value.agg (enc p0.Box).toArray):=hg 1 (by decide)
  have hM : M (Old w0) w0 w [raw b5 (enc r3.2),raw b1 (cat [[vI p0.Field],enc p0.Box,enc p0.Mix,enc p0.Places,[vI p0.Rounds]]),own NoB (r12 : (Ref (Vector (Vector (Vector UInt8 256) 4) 4))) [(ux7 14)],own NoB (r15 : (Ref (Vector (Vector (Vector UInt8 256) 4) 4))) [(ux7 18)]]:=hM
  have hE:=hE.sub (e':=[(14,(Value.agg (enc p0.Box).toArray)),(17,(Value.agg (enc r8).toArray)),(19,(Value.agg (enc p0.Places).toArray)),(22,(Value.agg (enc r10).toArray)),(27,(ux7 14)),(31,(ux7 18)),(33,vI p0.Rounds),(2,(Value.pointer none))]) ⟨lk rfl f1,lk rfl (hg 4 (by decide)),lk rfl (hg 6 (by decide)),lk rfl (hg 9 (by decide)),rfl,rfl,lk rfl (hg 20 (by decide)),rfl,trivial⟩
  refine UI (parts:=[(0,.tmp 14),(1,.tmp 17),(2,.tmp 19),(3,.tmp 22),(4,.tmp 27),(5,.tmp 31),(6,.tmp 33)]) (vs:=[(0,(Value.agg (enc p0.Box).toArray)),(1,(Value.agg (enc r8).toArray)),(2,(Value.agg (enc p0.Places).toArray)),(3,(Value.agg (enc r10).toArray)),(4,(ux7 14)),(5,(ux7 18)),(6,vI p0.Rounds)]) (cs:=cat [enc p0.Box,enc r8,enc p0.Places,enc r10,[(ux7 14)],[(ux7 18)],[vI p0.Rounds]]) hE Za ld rfl rfl Jo pl198 (Yl (pre:=[]) (seg:=enc (Vector.replicate 256 (0 : UInt8))) (seg':=enc p0.Box) (post:=[enc (Vector.replicate 256 (0 : UInt8)),enc (Vector.replicate 16 (0 : UInt8)),enc (Vector.replicate 16 (0 : UInt8)),[(Value.pointer none)],[(Value.pointer none)],[vI 0]]) rfl cl0 (Flat.len _) (Flat.len _) rfl (Yl (pre:=[enc p0.Box]) (seg:=enc (Vector.replicate 256 (0 : UInt8))) (seg':=enc r8) (post:=[enc (Vector.replicate 16 (0 : UInt8)),enc (Vector.replicate 16 (0 : UInt8)),[(Value.pointer none)],[(Value.pointer none)],[vI 0]]) rfl (cl1 (n:=256) (m:=0) (Flat.len _) cl0) (Flat.len _) (Flat.len _) rfl (Yl (pre:=[enc p0.Box,enc r8]) (seg:=enc (Vector.replicate 16 (0 : UInt8))) (seg':=enc p0.Places) (post:=[enc (Vector.replicate 16 (0 : UInt8)),[(Value.pointer none)],[(Value.pointer none)],[vI 0]]) rfl (cl1 (n:=256) (m:=256) (Flat.len _) (cl1 (n:=256) (m:=0) (Flat.len _) cl0)) (Flat.len _) (Flat.len _) rfl (Yl (pre:=[enc p0.Box,enc r8,enc p0.Places]) (seg:=enc (Vector.replicate 16 (0 : UInt8))) (seg':=enc r10) (post:=[[(Value.pointer none)],[(Value.pointer none)],[vI 0]]) rfl (cl1 (n:=256) (m:=272) (Flat.len _) (cl1 (n:=256) (m:=16) (Flat.len _) (cl1 (n:=16) (m:=0) (Flat.len _) cl0))) (Flat.len _) (Flat.len _) rfl (Yl (pre:=[enc p0.Box,enc r8,enc p0.Places,enc r10]) (seg:=[(Value.pointer none)]) (seg':=[(ux7 14)]) (post:=[[(Value.pointer none)],[vI 0]]) rfl (cl1 (n:=256) (m:=288) (Flat.len _) (cl1 (n:=256) (m:=32) (Flat.len _) (cl1 (n:=16) (m:=16) (Flat.len _) (cl1 (n:=16) (m:=0) (Flat.len _) cl0)))) rfl rfl (H9 (hM.ro (pre:=[_,_]) noB)) (Yl (pre:=[enc p0.Box,enc r8,enc p0.Places,enc r10,[(ux7 14)]]) (seg:=[(Value.pointer none)]) (seg':=[(ux7 18)]) (post:=[[vI 0]]) rfl (cl1 (n:=256) (m:=289) (Flat.len _) (cl1 (n:=256) (m:=33) (Flat.len _) (cl1 (n:=16) (m:=17) (Flat.len _) (cl1 (n:=16) (m:=1) (Flat.len _) (cl1 (n:=1) (m:=0) rfl cl0))))) rfl rfl (H9 (hM.ro (pre:=[_,_,_]) noB)) (Yl (pre:=[enc p0.Box,enc r8,enc p0.Places,enc r10,[(ux7 14)],[(ux7 18)]]) (seg:=[vI 0]) (seg':=[vI p0.Rounds]) (post:=[]) rfl (cl1 (n:=256) (m:=290) (Flat.len _) (cl1 (n:=256) (m:=34) (Flat.len _) (cl1 (n:=16) (m:=18) (Flat.len _) (cl1 (n:=16) (m:=2) (Flat.len _) (cl1 (n:=1) (m:=1) rfl (cl1 (n:=1) (m:=0) rfl cl0)))))) rfl rfl rfl TC))))))) fun a hE=>ZT (cs:=cat [enc p0.Box,enc r8,enc p0.Places,enc r10,[(ux7 14)],[(ux7 18)],[vI p0.Rounds]]) hE hM Za ld rfl rfl fun b18 w a hM hE=>Ze hE Za ld rfl fun a hE=>Zj (Zu ?_)
  have hM:=(hM.pull (pre:=[_,_,_,_])).pull (pre:=[_,_,_,_])
  have hM:=((hM.pack2 (it:=own NoB (⟨p0.Box,r8,p0.Places,r10,r12,r15,p0.Rounds⟩ : Gengine) (cat [enc p0.Box,enc r8,enc p0.Places,enc r10,[(ux7 14)],[(ux7 18)],[vI p0.Rounds]])) (UC noB) (fun f0 f1 q0 q1=>(AL q0 q1 (by simp)))).pull (pre:=[_])).pull (pre:=[_])
  have hM:=M.toRef (hM.pull (pre:=[_])) noB
  have hr:=Option.some.inj hF
  subst hr
  have hM:=M.fst (l:=[_]) hM
  exact wp_ret (Zt hE rfl (Zs hE rfl) ⟨_,rfl,(ptr b18 0),rfl,hM.outF (zh VT),hM.kept⟩)
def UX (p0 : Int) : Option ((Ref Gengine)) :=
 (Y7 p0).bind fun r1=>(WV r1).bind fun r3=>some r3
theorem BJ (w0 : World) (p0 : Int) (r : (Ref Gengine)) (hF : UX p0 = some r) :
  Calls Tryz.prog 111 [vI p0].toArray w0 (fun en w'=>∃ v,en = .returned v ∧ (∃ (y1 : Value),v = y1 ∧ Fr w0 w' [own NoB (r : (Ref Gengine)) [y1]] ∧ Kept (Old w0) w0 w')):=by
 refine ZB (n:=6) Tryz.func111 rfl rfl (nbl rfl) rfl ?_
 intro a hE
 have hM:=M.start w0
 unfold UX at hF
 refine Zc (Ze hE Za ld rfl fun a hE=>Zf (Zc (Zd hE Za ld rfl ?_))); intro a hE
 obtain ⟨r1,e2,hF⟩:=bind_some hF
 refine Zw hE Za ld rfl cb15 (TB _ p0 r1 e2) ?_
 rintro v w a ⟨rfl,hK⟩ hE
 have hM:=hM.keep hK
 obtain ⟨r3,e4,hF⟩:=bind_some hF
 refine Zw hE Za ld rfl cb140 (K1 _ r1 r3 e4) ?_
 rintro u5 w a ⟨_,rfl,hFr,hK⟩ hE
 have hM:=hM.add hK hFr
 refine Ze hE Za ld rfl fun a hE=>Zf ?_
 have hr:=Option.some.inj hF
 subst hr
 exact wp_ret (Zt hE rfl (Zs hE rfl) ⟨_,rfl,u5,rfl,hM.outF (zh VT),hM.kept⟩)
def X5 : Option ((Ref Gengine)) :=
 (UX 4).bind fun r1=>some r1
theorem Q6 (w0 : World)  (r : (Ref Gengine)) (hF : X5  = some r) :
  Calls Tryz.prog 46 [].toArray w0 (fun en w'=>∃ v,en = .returned v ∧ (∃ (y1 : Value),v = y1 ∧ Fr w0 w' [own NoB (r : (Ref Gengine)) [y1]] ∧ Kept (Old w0) w0 w')):=by
 refine ZB (n:=2) Tryz.func46 rfl rfl (nbl rfl) rfl ?_
 intro a hE
 have hM:=M.start w0
 unfold X5 at hF
 refine Zc (Ze hE Za ld rfl fun a hE=>Zf (Zc ?_))
 obtain ⟨r1,e2,hF⟩:=bind_some hF
 refine Zw hE Za ld rfl cb111 (BJ _ 4 r1 e2) ?_
 rintro u3 w a ⟨_,rfl,hFr,hK⟩ hE
 have hM:=hM.add hK hFr
 refine Ze hE Za ld rfl fun a hE=>Zf ?_
 have hr:=Option.some.inj hF
 subst hr
 exact wp_ret (Zt hE rfl (Zs hE rfl) ⟨_,rfl,u3,rfl,hM.outF (zh VT),hM.kept⟩)
def Yy (s8 : (Vector UInt8 32) × Int) : Option (Fl ((Vector UInt8 32) × Int) (Vector UInt8 32)) :=
 if (decide (s8.2 < 32)) = true then ((ZI s8.1 s8.2).bind fun x14=>some (Fl.nx ((s8.1.setIfInBounds (s8.2).toNat (Zx (wr (17 * s8.2)))),wr (s8.2 + 1)))) else (some (Fl.ex s8.1))
def Xh : Option ((Vector UInt8 32)) :=
 (ZE (Yy) ((Vector.replicate 32 (0 : UInt8)),0)).bind fun j5=>some j5
theorem Qy (w0 : World)  (r : (Vector UInt8 32)) (hF : Xh  = some r) :
  Calls Tryz.prog 141 [].toArray w0 (fun en w'=>∃ v,en = .returned v ∧ (v = (Value.agg (enc r).toArray) ∧ Kept (Old w0) w0 w')):=by
 refine ZB (n:=14) Tryz.func141 rfl rfl (nbl rfl) rfl ?_
 intro a hE
 have hM:=M.start w0
 unfold Xh at hF
 refine Zc (ZH hE hM Za ld Yi fun b1 w a hM hE=>Zf (Zc (YT (parts:=[]) (vs:=[]) (cs:=enc (Vector.replicate 32 (0 : UInt8))) hE Za ld rfl rfl Yi rfl ty5 Yw fun a hE=>ZH hE hM Za ld Yi fun b3 w a hM hE=>Zv (seg:=enc (Vector.replicate 32 (0 : UInt8))) (cs':=enc (Vector.replicate 32 (0 : UInt8))) hE hM Za rfl rfl rfl Yi (Flat.len _) (zle flq) (Flat.cell _) (Zr flq) fun w a hM hE=>Zf (wp_seq (Zc (Zd hE Za ld rfl fun a hE=>Zf ?_))))))
 obtain ⟨j5,hl6,hF7⟩:=bind_some hF
 refine ZL (fun a w=>Env 14 a [(0,(ptr b1 0)),(1,(ptr b3 0))] ∧ M (Old w0) w0 w [raw b3 (enc j5),raw b1 (enc (Vector.replicate 32 (0 : UInt8)))]) ?_ ?_
 ·skip
  refine wp_block ?_
  refine ZC (fun (s8 : (Vector UInt8 32) × Int) a w=>Env 14 a [(0,(ptr b1 0)),(1,(ptr b3 0)),(4,vI s8.2)] ∧ M (Old w0) w0 w [raw b3 (enc s8.1),raw b1 (enc (Vector.replicate 32 (0 : UInt8)))]) hl6 ⟨hE.sub ⟨rfl,rfl,rfl,trivial⟩,hM⟩ ?_
  rintro s8 a w ⟨hE,hM⟩ o11 hs9 hx10
  unfold Yy at hs9
  refine Zc (Zi hE Za ld rfl rfl rfl fun a hE=>Zf (wp_seq ?_))
  refine Zp hE rfl ?_ ?_
  ·intro hb12
   have hs9:=Zz hs9 hb12
   refine wp_skip (Zu (wp_seq (wp_block (Zc (Zd hE Za ld rfl fun a hE=>Ze hE Za ld rfl fun a hE=>Zf (wp_region_lit (Zd hE Za ld rfl fun a hE=>Zd hE Za ld rfl fun a hE=>Zi hE Za ld rfl rfl rfl fun a hE=>Yb hE Za ld rfl Tryz.underlying3 Tryz.underlying5 ?_))))))); intro a hE
   rw [ZN] at hE
   obtain ⟨x14,hi13,hs9⟩:=bvx hs9
   refine Zk hE Za ld rfl rfl Tryz.underlying37 ty5 hi13.1 fun a hE=>Zv (seg:=[(vB (Zx (wr (17 * s8.2))))]) (cs':=enc (s8.1.setIfInBounds (s8.2).toNat (Zx (wr (17 * s8.2))))) hE hM Za rfl rfl rfl ty5 rfl (ZM (v:=s8.1) (x:=Zx (wr (17 * s8.2))) hi13.1) (Flat.cell (Zx (wr (17 * s8.2)) : UInt8)) (ZD (v:=s8.1) (x:=Zx (wr (17 * s8.2))) hi13.1) fun w a hM hE=>Zj (ZZ (Zu (wp_region_lit (Zi hE Za ld rfl rfl rfl fun a hE=>Zd hE Za ld rfl fun a hE=>Zj (Zl ?_)))))
   exact ⟨_,(ois hs9),hE.sub ⟨rfl,rfl,rfl,trivial⟩,hM⟩
  ·intro hb12
   have hs9:=Zy hs9 hb12
   refine wp_exit (Zm (Zm (Z0 ?_)))
   have ht16:=hx10 _ (ois hs9)
   subst ht16
   refine Zl ?_
   exact ⟨hE.sub ⟨rfl,rfl,trivial⟩,hM⟩
 ·skip
  rintro a w ⟨hE,hM⟩
  refine Zu (Zc (Zo (cs:=enc j5) hE Za ld rfl Yi rfl (hM.rawAt (pre:=[])) (Flat.len _) ?_)); intro a hE
  have hM:=hM.pull (pre:=[_])
  refine Zv (seg:=enc j5) (cs':=enc j5) hE hM Za rfl rfl rfl Yi (Flat.len _) (zle flq) (Flat.cell _) (Zr flq) fun w a hM hE=>Zf ?_
  have hr:=Option.some.inj hF7
  subst hr
  have hq17 : Yx Tryz.prog _ _ (.cell 0 37) _:=ZR hE rfl Yi rfl (hM.rawAt (pre:=[])) (Flat.len _) rfl
  have hM:=M.fst (l:=[]) hM
  exact wp_ret (Zt hE rfl hq17 ⟨_,rfl,rfl,hM.kept⟩)
def Ym (p1 : Int) : Option ((List UInt8)) :=
 (if (decide (p1 < 0)) = true then (none) else (some ()) : Option (Unit)).bind fun j1=>(if (decide ((wr (p1 - (wr (0 - 0)))) > 0)) = true then ((mkS 1 (0 : UInt8) (wr (p1 - (wr (0 - 0))))).bind fun l14=>(slc l14 (0 : Int) (0 : Int)).bind fun l16=>some l16) else (some ([])) : Option ((List UInt8))).bind fun j6=>some j6
theorem To (w0 : World) (p1 : Int) (r : (List UInt8)) (hF : Ym p1 = some r) :
  Calls Tryz.prog 162 [(Value.slice none 0 0),vI p1].toArray w0 (fun en w'=>∃ v,en = .returned v ∧ (∃ (y1 : Value),v = y1 ∧ Fr w0 w' [osl NoB (r : List UInt8) y1] ∧ Kept (Old w0) w0 w')):=by
 refine ZB (n:=27) Tryz.func162 rfl rfl (nbl rfl) rfl ?_
 intro a hE
 have hM:=M.start w0
 unfold Ym at hF
 refine Zc (Ze hE Za ld rfl fun a hE=>Zf ?_)
 obtain ⟨j1,hl2,hF3⟩:=bind_some hF
 refine ZQ (fun a w=>Env 27 a [(0,(Value.slice none 0 0)),(1,vI p1)] ∧ M (Old w0) w0 w []) ?_ ?_
 ·skip
  refine Zc (Zd hE Za ld rfl fun a hE=>Zi hE Za ld rfl rfl rfl fun a hE=>Zf ?_)
  refine Zp hE rfl ?_ ?_
  ·intro hb4
   have hl2:=Zz hl2 hb4
   cases hl2
  ·intro hb4
   have hl2:=Zy hl2 hb4
   refine wp_skip ?_
   have ht5:=Option.some.inj hl2
   subst ht5
   refine Zl ?_
   exact ⟨hE.sub ⟨rfl,rfl,trivial⟩,hM⟩
 ·skip
  rintro a w ⟨hE,hM⟩
  obtain ⟨j6,hl7,hF8⟩:=bind_some hF3
  refine ZQ (fun a w=>∃ (u9 : Value),Env 27 a [(0,u9)] ∧ M (Old w0) w0 w [osl NoB (j6 : List UInt8) u9]) ?_ ?_
  ·skip
   refine Zc (Zd hE Za ld rfl fun a hE=>Zd hE Za ld rfl fun a hE=>AA hE Za ld rfl Tryz.underlying32 fun a hE=>Zd hE Za ld rfl fun a hE=>Ah hE Za ld rfl Tryz.underlying32 fun a hE=>Zi hE Za ld rfl rfl rfl fun a hE=>Zi hE Za ld rfl rfl rfl fun a hE=>Ze hE Za ld rfl fun a hE=>Zf (Zc (Zd hE Za ld rfl fun a hE=>Zi hE Za ld rfl rfl rfl fun a hE=>Zf ?_)))
   refine Zp hE rfl ?_ ?_
   ·intro hb11
    have hl7:=Zz hl7 hb11
    refine wp_region_lit (Zd hE Za ld rfl fun a hE=>Zd hE Za ld rfl fun a hE=>AA hE Za ld rfl Tryz.underlying32 fun a hE=>zd hE Za ld rfl rfl Tryz.underlying32 ty5 fun a hE=>Zd hE Za ld rfl ?_); intro a hE
    obtain ⟨l14,e15,hl7⟩:=bind_some hl7
    refine zB hE hM Za ld rfl rfl Tryz.underlying32 Tryz.underlying3 ty5 rfl (by decide) (by decide) (fun _=>Tv.2 ⟨rfl,rfl⟩) e15 fun u12 w a hM hE=>Zd hE Za ld rfl fun a hE=>Ah hE Za ld rfl Tryz.underlying32 ?_; intro a hE
    obtain ⟨l16,e17,hl7⟩:=bind_some hl7
    refine Bu hE Za ld rfl rfl rfl rfl rfl Tryz.underlying32 ty5 (hM.sl (pre:=[]) noB) e17 ?_; intro a hE
    have hM:=hM.cut noB e17
    refine Ze hE Za ld rfl fun a hE=>Zj ?_
    have ht19:=Option.some.inj hl7
    subst ht19
    refine Zl ?_
    exact ⟨(ZP u12 ((0 : Int)).toNat ((0 : Int)).toNat 1),hE.sub ⟨rfl,trivial⟩,hM⟩
   ·intro hb11
    have hl7:=Zy hl7 hb11
    refine wp_skip ?_
    have ht20:=Option.some.inj hl7
    subst ht20
    refine Zl ?_
    have hM:=M.nilS (α:=UInt8) NoB noB hM
    exact ⟨(Value.slice none 0 0),hE.sub ⟨rfl,trivial⟩,hM⟩
  ·skip
   rintro a w ⟨u9,hE,hM⟩
   refine Zc (Zd hE Za ld rfl fun a hE=>Ze hE Za ld rfl fun a hE=>Zf ?_)
   have hr:=Option.some.inj hF8
   subst hr
   exact wp_ret (Zt hE rfl (Zs hE rfl) ⟨_,rfl,u9,rfl,hM.outF (YL VT),hM.kept⟩)
def YS (p0 : (List (List UInt8))) (s4 : Int × Int) : Option (Fl (Int × Int) Int) :=
 if (decide (s4.1 < (p0.length : Int))) = true then (((idx p0 s4.1).bind fun x12=>(if (decide ((wr (s4.2 + (x12.length : Int))) < 0)) = true then (none) else (some ()) : Option (Unit)).bind fun j20=>some (wr (s4.2 + (x12.length : Int))) : Option (Int)).bind fun j9=>some (Fl.nx (wr (s4.1 + 1),j9))) else (some (Fl.ex s4.2))
def YP (p0 : (List (List UInt8))) (s35 : Int × (List UInt8)) : Option (Fl (Int × (List UInt8)) (List UInt8)) :=
 if (decide (s35.1 < (p0.length : Int))) = true then ((idx p0 s35.1).bind fun x42=>(app 1 s35.2 x42).bind fun l50=>some (Fl.nx (wr (s35.1 + 1),(s35.2 ++ x42)))) else (some (Fl.ex s35.2))
def ZY (p0 : (List (List UInt8))) : Option ((List UInt8)) :=
 (ZE (YS p0) (0,0)).bind fun j1=>(Ym j1).bind fun r27=>(ZE (YP p0) (0,r27)).bind fun j30=>some j30
theorem Us (w0 : World) (p0 : (List (List UInt8))) (v0_1 : Value) (hv0_1 : Ro w0 p0 [v0_1]) (r : (List UInt8)) (hF : ZY p0 = some r) :
  Calls Tryz.prog 144 [v0_1].toArray w0 (fun en w'=>∃ v,en = .returned v ∧ (∃ (y1 : Value),v = y1 ∧ Fr w0 w' [osl NoB (r : List UInt8) y1] ∧ Kept (Old w0) w0 w')):=by
 refine ZB (n:=36) Tryz.func144 rfl rfl (nbl rfl) rfl ?_
 intro a hE
 have hM:=M.start w0
 unfold ZY at hF
 refine Zc (Ze hE Za ld rfl fun a hE=>Zf (Zc (Ze hE Za ld rfl fun a hE=>Zf (wp_seq (Zc (Zd hE Za ld rfl fun a hE=>Yf hE Za ld rfl Tryz.underlying41 (hM.rd hv0_1) fun a hE=>Zd hE Za ld rfl fun a hE=>Zf ?_))))))
 obtain ⟨j1,hl2,hF3⟩:=bind_some hF
 refine ZL (fun a w=>Env 36 a [(0,v0_1),(3,vI j1)] ∧ M (Old w0) w0 w []) ?_ ?_
 ·skip
  refine wp_block ?_
  refine ZC (fun (s4 : Int × Int) a w=>Env 36 a [(0,v0_1),(3,vI s4.2),(9,v0_1),(10,(vI (p0.length : Int))),(11,vI s4.1)] ∧ M (Old w0) w0 w []) hl2 ⟨hE.sub ⟨rfl,rfl,rfl,rfl,rfl,trivial⟩,hM⟩ ?_
  rintro s4 a w ⟨hE,hM⟩ o7 hs5 hx6
  unfold YS at hs5
  refine Zc (Zi hE Za ld rfl rfl rfl fun a hE=>Zf (wp_seq ?_))
  refine Zp hE rfl ?_ ?_
  ·intro hb8
   have hs5:=Zz hs5 hb8
   refine wp_skip (Zu ?_)
   obtain ⟨j9,hl10,hF11⟩:=bind_some hs5
   refine ZQ (fun a w=>Env 36 a [(0,v0_1),(3,vI j9),(9,v0_1),(10,(vI (p0.length : Int))),(11,vI s4.1)] ∧ M (Old w0) w0 w []) ?_ ?_
   ·skip
    refine wp_block (Zc ?_)
    obtain ⟨x12,hi14,hl10⟩:=bix hl10
    refine ZK hE Za ld rfl rfl Tryz.underlying41 UU (hM.rd hv0_1) hi14.1 ?_; intro a hE
    obtain ⟨cs15,hs16,hA17⟩:=Uq hv0_1 hi14.2 -- ^
    obtain ⟨u18,rfl⟩:=XE hs16 -- ^
    have h19:=hs16 -- ^
    refine ZA (v:=u18) hE Za ld rfl UU rfl (hM.atk hA17 (Ta hv0_1 hi14.2)) fun a hE=>Ze hE Za ld rfl fun a hE=>Zf (Zc (Zd hE Za ld rfl fun a hE=>Zd hE Za ld rfl fun a hE=>Yf hE Za ld rfl Tryz.underlying32 (hM.rd h19) fun a hE=>Zi hE Za ld rfl rfl rfl fun a hE=>Ze hE Za ld rfl fun a hE=>Zf (Zc (Zd hE Za ld rfl fun a hE=>Zi hE Za ld rfl rfl rfl fun a hE=>Zf ?_))))
    obtain ⟨j20,hl21,hF22⟩:=bind_some hl10
    refine ZL (fun a w=>Env 36 a [(0,v0_1),(3,(vI (wr (s4.2 + (x12.length : Int))))),(9,v0_1),(10,(vI (p0.length : Int))),(11,vI s4.1)] ∧ M (Old w0) w0 w []) ?_ ?_
    ·skip
     refine Zp hE rfl ?_ ?_
     ·intro hb23
      have hl21:=Zz hl21 hb23
      cases hl21
     ·intro hb23
      have hl21:=Zy hl21 hb23
      refine wp_skip ?_
      have ht24:=Option.some.inj hl21
      subst ht24
      refine Zl ?_
      exact ⟨hE.sub ⟨rfl,rfl,rfl,rfl,rfl,trivial⟩,hM⟩
    ·skip
     rintro a w ⟨hE,hM⟩
     refine ZZ ?_
     have ht25:=Option.some.inj hF22
     subst ht25
     refine Zl ?_
     exact ⟨hE.sub ⟨rfl,rfl,rfl,rfl,rfl,trivial⟩,hM⟩
   ·skip
    rintro a w ⟨hE,hM⟩
    refine wp_region_lit (Zi hE Za ld rfl rfl rfl fun a hE=>Zd hE Za ld rfl fun a hE=>Zj (Zl ?_))
    exact ⟨_,(ois hF11),hE.sub ⟨rfl,rfl,rfl,rfl,rfl,trivial⟩,hM⟩
  ·intro hb8
   have hs5:=Zy hs5 hb8
   refine wp_exit (Zm (Zm (Z0 ?_)))
   have ht26:=hx6 _ (ois hs5)
   subst ht26
   refine Zl ?_
   exact ⟨hE.sub ⟨rfl,rfl,trivial⟩,hM⟩
 ·skip
  rintro a w ⟨hE,hM⟩
  refine Zu (Zc (Zd hE Za ld rfl ?_)); intro a hE
  obtain ⟨r27,e28,hF3⟩:=bind_some hF3
  refine Zw hE Za ld rfl cb162 (To _ j1 r27 e28) ?_
  rintro u29 w a ⟨_,rfl,hFr,hK⟩ hE
  have hM:=hM.add hK hFr
  refine Ze hE Za ld rfl fun a hE=>Zf (wp_seq (Zc (Zd hE Za ld rfl fun a hE=>Yf hE Za ld rfl Tryz.underlying41 (hM.rd hv0_1) fun a hE=>Zd hE Za ld rfl fun a hE=>Zf ?_)))
  obtain ⟨j30,hl31,hF32⟩:=bind_some hF3
  refine ZL (fun a w=>∃ (u33 : Value),Env 36 a [(6,u33)] ∧ M (Old w0) w0 w [osl NoB (j30 : List UInt8) u33]) ?_ ?_
  ·skip
   refine wp_block ?_
   refine ZC (fun (s35 : Int × (List UInt8)) a w=>∃ (u36 : Value),Env 36 a [(6,u36),(25,v0_1),(26,(vI (p0.length : Int))),(27,vI s35.1)] ∧ M (Old w0) w0 w [osl NoB (s35.2 : List UInt8) u36]) hl31 ⟨u29,hE.sub ⟨rfl,rfl,rfl,rfl,trivial⟩,hM⟩ ?_
   rintro s35 a w ⟨u36,hE,hM⟩ o40 hs38 hx39
   unfold YP at hs38
   refine Zc (Zi hE Za ld rfl rfl rfl fun a hE=>Zf (wp_seq ?_))
   refine Zp hE rfl ?_ ?_
   ·intro hb41
    have hs38:=Zz hs38 hb41
    refine wp_skip (Zu (wp_seq (wp_block (Zc ?_))))
    obtain ⟨x42,hi44,hs38⟩:=bix hs38
    refine ZK hE Za ld rfl rfl Tryz.underlying41 UU (hM.rd hv0_1) hi44.1 ?_; intro a hE
    obtain ⟨cs45,hs46,hA47⟩:=Uq hv0_1 hi44.2 -- ^
    obtain ⟨u48,rfl⟩:=XE hs46 -- ^
    have h49:=hs46 -- ^
    refine ZA (v:=u48) hE Za ld rfl UU rfl (hM.atk hA47 (Ta hv0_1 hi44.2)) fun a hE=>Ze hE Za ld rfl fun a hE=>Zf (wp_region_lit (Zd hE Za ld rfl fun a hE=>Zd hE Za ld rfl ?_)); intro a hE
    obtain ⟨l50,e51,hs38⟩:=bind_some hs38
    obtain ⟨e54,rfl⟩:=Y2 e51
    refine YA hE hM Za ld rfl rfl (hM.rd h49) Tryz.underlying32 ty5 rfl (by decide) e54 fun u52 w a hM hE=>Ze hE Za ld rfl fun a hE=>Zj (ZZ (Zu (wp_region_lit (Zi hE Za ld rfl rfl rfl fun a hE=>Zd hE Za ld rfl fun a hE=>Zj (Zl ?_)))))
    exact ⟨_,(ois hs38),u52,hE.sub ⟨rfl,rfl,rfl,rfl,trivial⟩,hM⟩
   ·intro hb41
    have hs38:=Zy hs38 hb41
    refine wp_exit (Zm (Zm (Z0 ?_)))
    have ht55:=hx39 _ (ois hs38)
    subst ht55
    refine Zl ?_
    exact ⟨u36,hE.sub ⟨rfl,trivial⟩,hM⟩
  ·skip
   rintro a w ⟨u33,hE,hM⟩
   refine Zu (Zc (Zd hE Za ld rfl fun a hE=>Ze hE Za ld rfl fun a hE=>Zf ?_))
   have hr:=Option.some.inj hF32
   subst hr
   exact wp_ret (Zt hE rfl (Zs hE rfl) ⟨_,rfl,u33,rfl,hM.outF (YL VT),hM.kept⟩)
def YB (p0 : (List UInt8)) : Option ((List UInt8)) :=
 (app 1 ([] : List UInt8) p0).bind fun l7=>some (([] : List UInt8) ++ p0)
theorem TM (w0 : World) (p0 : (List UInt8)) (v0_1 : Value) (hv0_1 : Ro w0 p0 [v0_1]) (r : (List UInt8)) (hF : YB p0 = some r) :
  Calls Tryz.prog 161 [v0_1].toArray w0 (fun en w'=>∃ v,en = .returned v ∧ (∃ (y1 : Value),v = y1 ∧ Fr w0 w' [osl NoB (r : List UInt8) y1] ∧ Kept (Old w0) w0 w')):=by
 refine ZB (n:=8) Tryz.func161 rfl rfl (nbl rfl) rfl ?_
 intro a hE
 have hM:=M.start w0
 unfold YB at hF
 refine Zc (Ze hE Za ld rfl fun a hE=>Zf (wp_seq (Zc (Zd hE Za ld rfl fun a hE=>jo hE Za ld rfl rfl Tryz.underlying32 (hM.rd hv0_1) fun bn1 a hn2 hE=>Zf ?_))))
 refine Zp hE rfl ?_ ?_
 ·intro hb3
  have h0:=hn2 hb3
  have hF : some ([]) = some r:=by rw [h0] at hF; simpa [app] using hF
  refine Zc (Ze hE Za ld rfl fun a hE=>Zf ?_)
  have hM:=M.nilS (α:=UInt8) NoB noB hM
  have hr:=Option.some.inj hF
  subst hr
  exact wp_ret (Zq (Zt hE rfl (Zs hE rfl) ⟨_,rfl,(Value.slice none 0 0),rfl,hM.outF (YL VT),hM.kept⟩))
 ·intro hb3
  refine wp_skip (Zu (Zc (Yj (xs:=[]) (l:=([] : List UInt8)) (vs:=[]) hE hM Za ld rfl rfl Tryz.underlying32 ty5 rfl (by decide) rfl fun u5 w a hM hE=>Zd hE Za ld rfl ?_))); intro a hE
  obtain ⟨l7,e8,hF⟩:=bind_some hF
  obtain ⟨e11,rfl⟩:=Y2 e8
  refine YA hE hM Za ld rfl rfl (hM.rd hv0_1) Tryz.underlying32 ty5 rfl (by decide) e11 fun u9 w a hM hE=>Ze hE Za ld rfl fun a hE=>Zf ?_
  have hr:=Option.some.inj hF
  subst hr
  exact wp_ret (Zt hE rfl (Zs hE rfl) ⟨_,rfl,u9,rfl,hM.outF (YL VT),hM.kept⟩)
def Ws (p0 : Int) (s8 : (List UInt8) × Int) : Option (Fl ((List UInt8) × Int) (List UInt8)) :=
 if (decide (s8.2 ≥ 0)) = true then ((Xi (wr (8 * s8.2))).bind fun _=>(app 1 s8.1 ([Zx (Uu p0 (wr (8 * s8.2)))] : List UInt8)).bind fun l18=>some (Fl.nx ((s8.1 ++ ([Zx (Uu p0 (wr (8 * s8.2)))] : List UInt8)),wr (s8.2 - 1)))) else (some (Fl.ex s8.1))
def YJ (p0 : Int) (p1 : Int) : Option ((List UInt8)) :=
 (ZE (Ws p0) (([] : List UInt8),wr (p1 - 1))).bind fun j3=>some j3
theorem TQ (w0 : World) (p0 : Int) (p1 : Int) (r : (List UInt8)) (hF : YJ p0 p1 = some r) :
  Calls Tryz.prog 113 [vI p0,vI p1].toArray w0 (fun en w'=>∃ v,en = .returned v ∧ (∃ (y1 : Value),v = y1 ∧ Fr w0 w' [osl NoB (r : List UInt8) y1] ∧ Kept (Old w0) w0 w')):=by
 refine ZB (n:=23) Tryz.func113 rfl rfl (nbl rfl) rfl ?_
 intro a hE
 have hM:=M.start w0
 unfold YJ at hF
 refine Zc (Ze hE Za ld rfl fun a hE=>Zf (Zc (Yj (xs:=[]) (l:=([] : List UInt8)) (vs:=[]) hE hM Za ld rfl rfl Tryz.underlying32 ty5 rfl (by decide) rfl fun u1 w a hM hE=>Ze hE Za ld rfl fun a hE=>Zf (wp_seq (Zc (Zd hE Za ld rfl fun a hE=>Zi hE Za ld rfl rfl rfl fun a hE=>Ze hE Za ld rfl fun a hE=>Zf ?_))))))
 obtain ⟨j3,hl4,hF5⟩:=bind_some hF
 refine ZL (fun a w=>∃ (u6 : Value),Env 23 a [(5,u6)] ∧ M (Old w0) w0 w [osl NoB (j3 : List UInt8) u6]) ?_ ?_
 ·skip
  refine wp_block ?_
  refine ZC (fun (s8 : (List UInt8) × Int) a w=>∃ (u9 : Value),Env 23 a [(0,vI p0),(5,u9),(6,vI s8.2)] ∧ M (Old w0) w0 w [osl NoB (s8.1 : List UInt8) u9]) hl4 ⟨u1,hE.sub ⟨rfl,rfl,rfl,trivial⟩,hM⟩ ?_
  rintro s8 a w ⟨u9,hE,hM⟩ o13 hs11 hx12
  unfold Ws at hs11
  refine wp_seq (Zc (Zd hE Za ld rfl fun a hE=>Zi hE Za ld rfl rfl rfl fun a hE=>Zf ?_))
  refine Zp hE rfl ?_ ?_
  ·intro hb14
   have hs11:=Zz hs11 hb14
   refine wp_skip (Zu (wp_seq (wp_block (wp_region_lit (Zd hE Za ld rfl fun a hE=>Zd hE Za ld rfl fun a hE=>Zd hE Za ld rfl fun a hE=>Zi hE Za ld rfl rfl rfl ?_))))); intro a hE
   obtain ⟨_,e15,hs11⟩:=bind_some hs11
   have e15:=Wm e15
   refine Jg hE Za ld rfl rfl (Kc _ _ e15) fun a hE=>Yb hE Za ld rfl Tryz.underlying2 Tryz.underlying5 ?_; intro a hE
   rw [ZN] at hE
   refine Yj (xs:=[.tmp 19]) (l:=([Zx (Uu p0 (wr (8 * s8.2)))] : List UInt8)) (vs:=[(vB (Zx (Uu p0 (wr (8 * s8.2)))))]) hE hM Za ld rfl rfl Tryz.underlying32 ty5 rfl (by decide) rfl ?_; intro u16 w a hM hE
   obtain ⟨l18,e19,hs11⟩:=bind_some hs11
   obtain ⟨e22,rfl⟩:=Y2 e19
   have hM:=hM.pull (pre:=[_])
   refine YA hE hM Za ld rfl rfl (hM.sl (pre:=[_]) noB) Tryz.underlying32 ty5 rfl (by decide) e22 fun u20 w a hM hE=>Ze hE Za ld rfl fun a hE=>Zj (ZZ (Zu (wp_region_lit (Zd hE Za ld rfl fun a hE=>Zi hE Za ld rfl rfl rfl fun a hE=>Ze hE Za ld rfl fun a hE=>Zj (Zl ?_)))))
   have hM:=M.fst (l:=[_]) hM
   exact ⟨_,(ois hs11),u20,hE.sub ⟨rfl,rfl,rfl,trivial⟩,hM⟩
  ·intro hb14
   have hs11:=Zy hs11 hb14
   refine wp_exit (Zm (Zm (Z0 ?_)))
   have ht23:=hx12 _ (ois hs11)
   subst ht23
   refine Zl ?_
   exact ⟨u9,hE.sub ⟨rfl,trivial⟩,hM⟩
 ·skip
  rintro a w ⟨u6,hE,hM⟩
  refine Zu (Zc (Zd hE Za ld rfl fun a hE=>Ze hE Za ld rfl fun a hE=>Zf ?_))
  have hr:=Option.some.inj hF5
  subst hr
  exact wp_ret (Zt hE rfl (Zs hE rfl) ⟨_,rfl,u6,rfl,hM.outF (YL VT),hM.kept⟩)
def Vh (s16 : (List UInt8)) : Option (Fl (List UInt8) (List UInt8)) :=
 if ((Int.tmod (s16.length : Int) 16) != 8) = true then ((app 1 s16 ([0] : List UInt8)).bind fun l25=>some (Fl.nx (s16 ++ ([0] : List UInt8)))) else (some (Fl.ex s16))
def Ww (p0 : (List UInt8)) : Option ((List UInt8)) :=
 (YB p0).bind fun r1=>(app 1 r1 ([128] : List UInt8)).bind fun l6=>(ZE (Vh) (r1 ++ ([128] : List UInt8))).bind fun j11=>(YJ (p0.length : Int) 8).bind fun r31=>(app 1 j11 r31).bind fun l34=>some (j11 ++ r31)
theorem KR (w0 : World) (p0 : (List UInt8)) (v0_1 : Value) (hv0_1 : Ro w0 p0 [v0_1]) (r : (List UInt8)) (hF : Ww p0 = some r) :
  Calls Tryz.prog 143 [v0_1].toArray w0 (fun en w'=>∃ v,en = .returned v ∧ (∃ (y1 : Value),v = y1 ∧ Fr w0 w' [osl NoB (r : List UInt8) y1] ∧ Kept (Old w0) w0 w')):=by
 refine ZB (n:=20) Tryz.func143 rfl rfl (nbl rfl) rfl ?_
 intro a hE
 have hM:=M.start w0
 unfold Ww at hF
 refine Zc (Ze hE Za ld rfl fun a hE=>Zf (Zc (Zd hE Za ld rfl ?_))); intro a hE
 obtain ⟨r1,e2,hF⟩:=bind_some hF
 refine Zw hE Za ld rfl cb161 (TM _ p0 v0_1 (hM.rdo hv0_1) r1 e2) ?_
 rintro u3 w a ⟨_,rfl,hFr,hK⟩ hE
 have hM:=hM.add hK hFr
 refine Yj (xs:=[.const (vB 128)]) (l:=([128] : List UInt8)) (vs:=[vB 128]) hE hM Za ld rfl rfl Tryz.underlying32 ty5 rfl (by decide) rfl ?_; intro u4 w a hM hE
 obtain ⟨l6,e7,hF⟩:=bind_some hF
 obtain ⟨e10,rfl⟩:=Y2 e7
 have hM:=hM.pull (pre:=[_])
 refine YA hE hM Za ld rfl rfl (hM.sl (pre:=[_]) noB) Tryz.underlying32 ty5 rfl (by decide) e10 fun u8 w a hM hE=>Ze hE Za ld rfl fun a hE=>Zf ?_
 obtain ⟨j11,hl12,hF13⟩:=bind_some hF
 refine ZQ (fun a w=>∃ (u14 : Value),Env 20 a [(0,v0_1),(3,u14)] ∧ M (Old w0) w0 w [osl NoB (j11 : List UInt8) u14]) ?_ ?_
 ·skip
  refine wp_block ?_
  have hM:=M.fst (l:=[_]) hM
  refine ZC (fun (s16 : (List UInt8)) a w=>∃ (u17 : Value),Env 20 a [(0,v0_1),(3,u17)] ∧ M (Old w0) w0 w [osl NoB (s16 : List UInt8) u17]) hl12 ⟨u8,hE.sub ⟨rfl,rfl,trivial⟩,hM⟩ ?_
  rintro s16 a w ⟨u17,hE,hM⟩ o21 hs19 hx20
  unfold Vh at hs19
  refine wp_seq (Zc (Zd hE Za ld rfl fun a hE=>Yf hE Za ld rfl Tryz.underlying32 (hM.sl (pre:=[]) noB) fun a hE=>Zi hE Za ld rfl rfl (TO _ _ (by decide)) fun a hE=>Zi hE Za ld rfl rfl rfl fun a hE=>Zf ?_))
  refine Zp hE rfl ?_ ?_
  ·intro hb22
   have hs19:=Zz hs19 hb22
   refine wp_skip (Zu (wp_block (wp_region_lit (Zd hE Za ld rfl fun a hE=>Yj (xs:=[.const (vB 0)]) (l:=([0] : List UInt8)) (vs:=[vB 0]) hE hM Za ld rfl rfl Tryz.underlying32 ty5 rfl (by decide) rfl ?_)))); intro u23 w a hM hE
   obtain ⟨l25,e26,hs19⟩:=bind_some hs19
   obtain ⟨e29,rfl⟩:=Y2 e26
   have hM:=hM.pull (pre:=[_])
   refine YA hE hM Za ld rfl rfl (hM.sl (pre:=[_]) noB) Tryz.underlying32 ty5 rfl (by decide) e29 fun u27 w a hM hE=>Ze hE Za ld rfl fun a hE=>Zj (ZZ (Zl ?_))
   have hM:=M.fst (l:=[_]) hM
   exact ⟨_,(ois hs19),u27,hE.sub ⟨rfl,rfl,trivial⟩,hM⟩
  ·intro hb22
   have hs19:=Zy hs19 hb22
   refine wp_exit (Zm (Zm (Z0 ?_)))
   have ht30:=hx20 _ (ois hs19)
   subst ht30
   refine Zl ?_
   exact ⟨u17,hE.sub ⟨rfl,rfl,trivial⟩,hM⟩
 ·skip
  rintro a w ⟨u14,hE,hM⟩
  refine Zc (Zd hE Za ld rfl fun a hE=>Zd hE Za ld rfl fun a hE=>Yf hE Za ld rfl Tryz.underlying32 (hM.rd hv0_1) ?_); intro a hE
  obtain ⟨r31,e32,hF13⟩:=bind_some hF13
  refine Zw hE Za ld rfl cb113 (TQ _ (p0.length : Int) 8 r31 e32) ?_
  rintro u33 w a ⟨_,rfl,hFr,hK⟩ hE
  have hM:=hM.add hK hFr
  obtain ⟨l34,e35,hF13⟩:=bind_some hF13
  obtain ⟨e38,rfl⟩:=Y2 e35
  have hM:=hM.pull (pre:=[_])
  refine YA hE hM Za ld rfl rfl (hM.sl (pre:=[_]) noB) Tryz.underlying32 ty5 rfl (by decide) e38 fun u36 w a hM hE=>Ze hE Za ld rfl fun a hE=>Zf ?_
  have hr:=Option.some.inj hF13
  subst hr
  have hM:=M.fst (l:=[_]) hM
  exact wp_ret (Zt hE rfl (Zs hE rfl) ⟨_,rfl,u36,rfl,hM.outF (YL VT),hM.kept⟩)
def XN (p0 : (List UInt8)) (s8 : (List (Vector UInt8 16)) × Int) : Option (Fl ((List (Vector UInt8 16)) × Int) (List (Vector UInt8 16))) :=
 if (decide (s8.2 < (p0.length : Int))) = true then ((slc p0 s8.2 (wr (s8.2 + 16))).bind fun l15=>(Tu 16 l15).bind fun x18=>(app 16 s8.1 ([x18] : List (Vector UInt8 16))).bind fun l22=>some (Fl.nx ((s8.1 ++ ([x18] : List (Vector UInt8 16))),wr (s8.2 + 16)))) else (some (Fl.ex s8.1))
def VD (p0 : (List UInt8)) : Option ((List (Vector UInt8 16))) :=
 (ZE (XN p0) (([] : List (Vector UInt8 16)),0)).bind fun j3=>some j3
theorem JJ (w0 : World) (p0 : (List UInt8)) (v0_1 : Value) (hv0_1 : Ro w0 p0 [v0_1]) (r : (List (Vector UInt8 16))) (hF : VD p0 = some r) :
  Calls Tryz.prog 142 [v0_1].toArray w0 (fun en w'=>∃ v,en = .returned v ∧ (∃ (y1 : Value),v = y1 ∧ Fr w0 w' [osl NoB (r : List (Vector UInt8 16)) y1] ∧ Kept (Old w0) w0 w')):=by
 refine ZB (n:=23) Tryz.func142 rfl rfl (nbl rfl) rfl ?_
 intro a hE
 have hM:=M.start w0
 unfold VD at hF
 refine Zc (Ze hE Za ld rfl fun a hE=>Zf (Zc (Yj (xs:=[]) (l:=([] : List (Vector UInt8 16))) (vs:=[]) hE hM Za ld rfl rfl Tryz.underlying33 ZG rfl (by decide) rfl fun u1 w a hM hE=>Ze hE Za ld rfl fun a hE=>Zf (wp_seq (Zc (Ze hE Za ld rfl fun a hE=>Zf ?_))))))
 obtain ⟨j3,hl4,hF5⟩:=bind_some hF
 refine ZL (fun a w=>∃ (u6 : Value),Env 23 a [(3,u6)] ∧ M (Old w0) w0 w [osl NoB (j3 : List (Vector UInt8 16)) u6]) ?_ ?_
 ·skip
  refine wp_block ?_
  refine ZC (fun (s8 : (List (Vector UInt8 16)) × Int) a w=>∃ (u9 : Value),Env 23 a [(0,v0_1),(3,u9),(4,vI s8.2)] ∧ M (Old w0) w0 w [osl NoB (s8.1 : List (Vector UInt8 16)) u9]) hl4 ⟨u1,hE.sub ⟨rfl,rfl,rfl,trivial⟩,hM⟩ ?_
  rintro s8 a w ⟨u9,hE,hM⟩ o13 hs11 hx12
  unfold XN at hs11
  refine wp_seq (Zc (Zd hE Za ld rfl fun a hE=>Zd hE Za ld rfl fun a hE=>Yf hE Za ld rfl Tryz.underlying32 (hM.rd hv0_1) fun a hE=>Zi hE Za ld rfl rfl rfl fun a hE=>Zf ?_))
  refine Zp hE rfl ?_ ?_
  ·intro hb14
   have hs11:=Zz hs11 hb14
   refine wp_skip (Zu (wp_seq (wp_block (wp_region_lit (Zd hE Za ld rfl fun a hE=>Zd hE Za ld rfl fun a hE=>Zd hE Za ld rfl fun a hE=>Zd hE Za ld rfl fun a hE=>Zi hE Za ld rfl rfl rfl ?_))))); intro a hE
   obtain ⟨l15,e16,hs11⟩:=bind_some hs11
   refine Bu hE Za ld rfl rfl rfl rfl rfl Tryz.underlying32 ty5 (hM.rd hv0_1) e16 ?_; intro a hE
   have h17 : Rep.sat (Old w0) w0 l15 [(ZP v0_1 (s8.2).toNat ((wr (s8.2 + 16))).toNat 1)] []:=W2 hv0_1 e16 -- ^
   obtain ⟨x18,e19,hs11⟩:=bind_some hs11
   refine JR hE Za ld rfl Tryz.underlying31 (hM.rd h17) (Tw e19).1 (by decide) fun a hE=>Zo (cs:=enc x18) hE Za ld rfl ZG rfl (BC (hM.rd h17) e19 (by decide)) (Flat.len _) fun a hE=>Yj (xs:=[.tmp 19]) (l:=([x18] : List (Vector UInt8 16))) (vs:=[(Value.agg (enc x18).toArray)]) hE hM Za ld rfl rfl Tryz.underlying33 ZG rfl (by decide) rfl ?_; intro u20 w a hM hE
   obtain ⟨l22,e23,hs11⟩:=bind_some hs11
   obtain ⟨e26,rfl⟩:=Y2 e23
   have hM:=hM.pull (pre:=[_])
   refine YA hE hM Za ld rfl rfl (hM.sl (pre:=[_]) noB) Tryz.underlying33 ZG rfl (by decide) e26 fun u24 w a hM hE=>Ze hE Za ld rfl fun a hE=>Zj (ZZ (Zu (wp_region_lit (Zd hE Za ld rfl fun a hE=>Zi hE Za ld rfl rfl rfl fun a hE=>Ze hE Za ld rfl fun a hE=>Zj (Zl ?_)))))
   have hM:=M.fst (l:=[_]) hM
   exact ⟨_,(ois hs11),u24,hE.sub ⟨rfl,rfl,rfl,trivial⟩,hM⟩
  ·intro hb14
   have hs11:=Zy hs11 hb14
   refine wp_exit (Zm (Zm (Z0 ?_)))
   have ht27:=hx12 _ (ois hs11)
   subst ht27
   refine Zl ?_
   exact ⟨u9,hE.sub ⟨rfl,trivial⟩,hM⟩
 ·skip
  rintro a w ⟨u6,hE,hM⟩
  refine Zu (Zc (Zd hE Za ld rfl fun a hE=>Ze hE Za ld rfl fun a hE=>Zf ?_))
  have hr:=Option.some.inj hF5
  subst hr
  exact wp_ret (Zt hE rfl (Zs hE rfl) ⟨_,rfl,u6,rfl,hM.outF (YL VT),hM.kept⟩)
def Xv (p1 : (Vector UInt8 16)) (s10 : (Vector UInt8 16) × Int) : Option (Fl ((Vector UInt8 16) × Int) (Vector UInt8 16)) :=
 if (decide (s10.2 < 16)) = true then ((ZI s10.1 s10.2).bind fun x17=>(ZI p1 s10.2).bind fun x20=>(ZI s10.1 s10.2).bind fun x23=>some (Fl.nx ((s10.1.setIfInBounds (s10.2).toNat (x17 ^^^ x20)),wr (s10.2 + 1)))) else (some (Fl.ex s10.1))
def Ye (p0 : (Vector UInt8 16)) (p1 : (Vector UInt8 16)) : Option ((Vector UInt8 16)) :=
 (ZE (Xv p1) (p0,0)).bind fun j7=>some j7
theorem XM (w0 : World) (p0 : (Vector UInt8 16)) (p1 : (Vector UInt8 16)) (r : (Vector UInt8 16)) (hF : Ye p0 p1 = some r) :
  Calls Tryz.prog 163 [(Value.agg (enc p0).toArray),(Value.agg (enc p1).toArray)].toArray w0 (fun en w'=>∃ v,en = .returned v ∧ (v = (Value.agg (enc r).toArray) ∧ Kept (Old w0) w0 w')):=by
 refine ZB (n:=19) Tryz.func163 rfl rfl (nbl rfl) rfl ?_
 intro a hE
 have hM:=M.start w0
 unfold Ye at hF
 refine Zc (ZT (cs:=enc p0) hE hM Za ld rfl rfl fun b1 w a hM hE=>ZT (cs:=enc p1) hE hM Za ld rfl rfl fun b3 w a hM hE=>ZH hE hM Za ld ZG fun b5 w a hM hE=>Zf (wp_seq (Zc (Zd hE Za ld rfl fun a hE=>Zf ?_))))
 obtain ⟨j7,hl8,hF9⟩:=bind_some hF
 refine ZL (fun a w=>Env 19 a [(2,(ptr b1 0)),(4,(ptr b5 0))] ∧ M (Old w0) w0 w [raw b5 (enc (Vector.replicate 16 (0 : UInt8))),raw b1 (enc j7)]) ?_ ?_
 ·skip
  refine wp_block ?_
  refine ZC (fun (s10 : (Vector UInt8 16) × Int) a w=>Env 19 a [(2,(ptr b1 0)),(3,(ptr b3 0)),(4,(ptr b5 0)),(6,vI s10.2)] ∧ M (Old w0) w0 w [raw b5 (enc (Vector.replicate 16 (0 : UInt8))),raw b3 (enc p1),raw b1 (enc s10.1)]) hl8 ⟨hE.sub ⟨rfl,rfl,rfl,rfl,trivial⟩,hM⟩ ?_
  rintro s10 a w ⟨hE,hM⟩ o13 hs11 hx12
  unfold Xv at hs11
  refine Zc (Zi hE Za ld rfl rfl rfl fun a hE=>Zf (wp_seq ?_))
  refine Zp hE rfl ?_ ?_
  ·intro hb14
   have hs11:=Zz hs11 hb14
   refine wp_skip (Zu (wp_seq (wp_block (Zc (Zd hE Za ld rfl fun a hE=>Ze hE Za ld rfl fun a hE=>Zf ?_)))))
   obtain ⟨x17,hi16,hs11⟩:=bvx hs11
   obtain ⟨x20,hi19,hs11⟩:=bvx hs11
   obtain ⟨x23,hi22,hs11⟩:=bvx hs11
   refine Yg (n:=19) (hd:=[_,_,_,_,_,_,_,_]) (tl:=[_]) YN rfl rfl [9,10,11,12,13,14,15,16] (by decide) (fun w=>M (Old w0) w0 w [raw b5 (enc (Vector.replicate 16 (0 : UInt8))),raw b3 (enc p1),raw b1 (enc s10.1)]) (fun j=>([fun v _=>v = (vI s10.2),fun v _=>v = (ptr b1 (0 + (s10.2).toNat * 1)),fun v _=>v = (vB x17),fun v _=>v = (vI s10.2),fun v _=>v = (ptr b3 (0 + (s10.2).toNat * 1)),fun v _=>v = (vB x20),fun v _=>v = (vB (x17 ^^^ x20)),fun v _=>v = (ptr b1 (0 + (s10.2).toNat * 1))] : List (Value → World → Prop)).getD j (fun _ _=>True)) (fun _ _ h hk=>h.keep hk) (gup (Zn (Zn (Zn (Zn (Zn (Zn (Zn (Zn Vb))))))))) hE hM.drew (ZJ (Zb ?_ (Zb ?_ (Zb ?_ (Zb ?_ (Zb ?_ (Zb ?_ (Zb ?_ (Zb ?_ ZF))))))))) ?_
   ·exact fun a w ux15 hE hM hp=>Zd hE Za ld rfl fun a hE=>⟨Kept.refl _ _,_,_,rfl,hE,rfl⟩
   ·intro a w ux15 hE hM hp
    have f0 : ux15 0 = (vI s10.2):=hp 0 _ rfl rfl
    exact Zk hE Za ld rfl (lk rfl f0) Tryz.underlying31 ty5 hi16.1 fun a hE=>⟨Kept.refl _ _,_,_,rfl,hE,rfl⟩
   ·intro a w ux15 hE hM hp
    have f1 : ux15 1 = (ptr b1 (0 + (s10.2).toNat * 1)):=hp 0 _ rfl rfl
    exact ZA (v:=(vB x17)) hE Za ld (lk rfl f1) ty5 rfl (At.vec (hM.rawAt (pre:=[_,_])) hi16.2) fun a hE=>⟨Kept.refl _ _,_,_,rfl,hE,rfl⟩
   ·exact fun a w ux15 hE hM hp=>Zd hE Za ld rfl fun a hE=>⟨Kept.refl _ _,_,_,rfl,hE,rfl⟩
   ·intro a w ux15 hE hM hp
    have f3 : ux15 3 = (vI s10.2):=hp 0 _ rfl rfl
    exact Zk hE Za ld rfl (lk rfl f3) Tryz.underlying31 ty5 hi19.1 fun a hE=>⟨Kept.refl _ _,_,_,rfl,hE,rfl⟩
   ·intro a w ux15 hE hM hp
    have f4 : ux15 4 = (ptr b3 (0 + (s10.2).toNat * 1)):=hp 0 _ rfl rfl
    exact ZA (v:=(vB x20)) hE Za ld (lk rfl f4) ty5 rfl (At.vec (hM.rawAt (pre:=[_])) hi19.2) fun a hE=>⟨Kept.refl _ _,_,_,rfl,hE,rfl⟩
   ·intro a w ux15 hE hM hp
    have f2 : ux15 2 = (vB x17):=hp 0 _ rfl rfl
    have f5 : ux15 5 = (vB x20):=hp 1 _ rfl rfl
    exact Zi hE Za ld (lk rfl f2) (lk rfl f5) (VG x17 x20) fun a hE=>⟨Kept.refl _ _,_,_,rfl,hE,rfl⟩
   ·intro a w ux15 hE hM hp
    have f0 : ux15 0 = (vI s10.2):=hp 0 _ rfl rfl
    exact Zk hE Za ld rfl (lk rfl f0) Tryz.underlying31 ty5 hi22.1 fun a hE=>⟨Kept.refl _ _,_,_,rfl,hE,rfl⟩
   ·intro a w ux15 hE hM hg
    have hE:=hE.sub (e':=[(15,(vB (x17 ^^^ x20))),(16,(ptr b1 (0 + (s10.2).toNat * 1))),(2,(ptr b1 0)),(3,(ptr b3 0)),(4,(ptr b5 0)),(5,vI s10.2),(6,vI s10.2),(7,(vT (decide (s10.2 < 16)))),(8,vI s10.2)]) ⟨lk rfl (hg 6 (by decide)),lk rfl (hg 7 (by decide)),rfl,rfl,rfl,rfl,rfl,rfl,rfl,trivial⟩
    have hM:=hM.pull (pre:=[_,_])
    refine Zv (seg:=[(vB (x17 ^^^ x20))]) (cs':=enc (s10.1.setIfInBounds (s10.2).toNat (x17 ^^^ x20))) hE hM Za rfl rfl rfl ty5 rfl (ZM (v:=s10.1) (x:=x17 ^^^ x20) hi22.1) (Flat.cell (x17 ^^^ x20 : UInt8)) (ZD (v:=s10.1) (x:=x17 ^^^ x20) hi22.1) fun w a hM hE=>Zj (ZZ (Zu (wp_region_lit (Zi hE Za ld rfl rfl rfl fun a hE=>Zd hE Za ld rfl fun a hE=>Zj (Zl ?_)))))
    have hM:=(hM.pull (pre:=[_,_])).pull (pre:=[_,_])
    exact ⟨_,(ois hs11),hE.sub ⟨rfl,rfl,rfl,rfl,trivial⟩,hM⟩
  ·intro hb14
   have hs11:=Zy hs11 hb14
   refine wp_exit (Zm (Zm (Z0 ?_)))
   have ht25:=hx12 _ (ois hs11)
   subst ht25
   refine Zl ?_
   have hM:=M.fst (l:=[_,_]) ((hM.pull (pre:=[_,_])).pull (pre:=[_]))
   exact ⟨hE.sub ⟨rfl,rfl,trivial⟩,hM⟩
 ·skip
  rintro a w ⟨hE,hM⟩
  refine Zu (Zc (Zo (cs:=enc j7) hE Za ld rfl ZG rfl (hM.rawAt (pre:=[_])) (Flat.len _) fun a hE=>Zv (seg:=enc j7) (cs':=enc j7) hE hM Za rfl rfl rfl ZG (Flat.len _) (zle flq) (Flat.cell _) (Zr flq) fun w a hM hE=>Zf ?_))
  have hr:=Option.some.inj hF9
  subst hr
  have hq26 : Yx Tryz.prog _ _ (.cell 4 31) _:=ZR hE rfl ZG rfl (hM.rawAt (pre:=[])) (Flat.len _) rfl
  have hM:=M.fst (l:=[]) hM
  exact wp_ret (Zt hE rfl hq26 ⟨_,rfl,rfl,hM.kept⟩)
def Yv (p0 : (Ref Gengine)) (s35 : (Vector UInt8 16) × Int) : Option (Fl ((Vector UInt8 16) × Int) (Vector UInt8 16)) :=
 if (decide (s35.2 < 16)) = true then ((ZI s35.1 s35.2).bind fun x42=>(ZI s35.1 (wr (s35.2 - 1))).bind fun x45=>(ZI p0.v.box (bI x45)).bind fun x58=>(ZI s35.1 s35.2).bind fun x61=>some (Fl.nx ((s35.1.setIfInBounds (s35.2).toNat (x42 ^^^ x58)),wr (s35.2 + 1)))) else (some (Fl.ex s35.1))
def Y3 (p0 : (Ref Gengine)) (p1 : (Vector UInt8 16)) (p2 : Int) : Option ((Vector UInt8 16)) :=
 ((ZI p1 (0 : Int)).bind fun x10=>(ZI p1 (15 : Int)).bind fun x13=>(ZI p0.v.box (bI (x13 ^^^ (Zx p2)))).bind fun x26=>(ZI p1 (0 : Int)).bind fun x29=>some (p1.setIfInBounds ((0 : Int)).toNat (x10 ^^^ x26)) : Option ((Vector UInt8 16))).bind fun j5=>(ZE (Yv p0) (j5,1)).bind fun j32=>some j32
theorem Qf (w0 : World) (p0 : (Ref Gengine)) (v0_1 : Value) (hv0_1 : Ro w0 p0 [v0_1]) (p1 : (Vector UInt8 16)) (p2 : Int) (r : (Vector UInt8 16)) (hF : Y3 p0 p1 p2 = some r) :
  Calls Tryz.prog 180 [v0_1,(Value.agg (enc p1).toArray),vI p2].toArray w0 (fun en w'=>∃ v,en = .returned v ∧ (v = (Value.agg (enc r).toArray) ∧ Kept (Old w0) w0 w')):=by
 refine ZB (n:=41) Tryz.func180 rfl rfl (nbl rfl) rfl ?_
 intro a hE
 have hM:=M.start w0
 unfold Y3 at hF
 refine Zc (ZT (cs:=enc p1) hE hM Za ld rfl rfl fun b1 w a hM hE=>ZH hE hM Za ld ZG fun b3 w a hM hE=>Zf ?_)
 obtain ⟨j5,hl6,hF7⟩:=bind_some hF
 refine ZQ (fun a w=>Env 41 a [(0,v0_1),(4,(ptr b1 0)),(6,(ptr b3 0))] ∧ M (Old w0) w0 w [raw b3 (enc (Vector.replicate 16 (0 : UInt8))),raw b1 (enc j5)]) ?_ ?_
 ·skip
  obtain ⟨x10,hi9,hl6⟩:=bvx hl6
  obtain ⟨x13,hi12,hl6⟩:=bvx hl6
  obtain ⟨pb15,ds16,hv17,hx18,hA19,hB20⟩:=Uw hv0_1 -- ^
  obtain ⟨u21,u23,rfl,h22,h24⟩:=U9 hx18 -- ^
  obtain ⟨x26,hi25,hl6⟩:=bvx hl6
  obtain ⟨x29,hi28,hl6⟩:=bvx hl6
  refine Yg (n:=41) (hd:=[_,_,_,_,_,_,_,_,_,_,_,_,_,_]) (tl:=[_]) YN rfl rfl [8,9,10,11,12,13,14,15,16,17,18,19,20,21] (by decide) (fun w=>M (Old w0) w0 w [raw b3 (enc (Vector.replicate 16 (0 : UInt8))),raw b1 (enc p1)]) (fun j=>([fun v _=>v = (ptr b1 (0 + ((0 : Int)).toNat * 1)),fun v _=>v = (vB x10),fun v _=>v = v0_1,fun v _=>v = (ptr b1 (0 + ((15 : Int)).toNat * 1)),fun v _=>v = (vB x13),fun v _=>v = (vI p2),fun v _=>v = (vB (Zx p2)),fun v _=>v = (vB (x13 ^^^ (Zx p2))),fun v _=>v = (ptr pb15 0),fun v _=>v = (ptr pb15 (0 + 0)),fun v _=>v = (ptr pb15 (0 + 0 + ((bI (x13 ^^^ (Zx p2)))).toNat * 1)),fun v _=>v = (vB x26),fun v _=>v = (vB (x10 ^^^ x26)),fun v _=>v = (ptr b1 (0 + ((0 : Int)).toNat * 1))] : List (Value → World → Prop)).getD j (fun _ _=>True)) (fun _ _ h hk=>h.keep hk) (gup (Zn (Zn (Zn (Zn (Zn (Zn (Zn (Zn (Zn (Zn (Zn (Zn (Zn (Zn Vb))))))))))))))) hE hM.drew (ZJ (Zb ?_ (Zb ?_ (Zb ?_ (Zb ?_ (Zb ?_ (Zb ?_ (Zb ?_ (Zb ?_ (Zb ?_ (Zb ?_ (Zb ?_ (Zb ?_ (Zb ?_ (Zb ?_ ZF))))))))))))))) ?_
  ·exact fun a w ux8 hE hM hp=>Zk hE Za ld rfl rfl Tryz.underlying31 ty5 hi9.1 fun a hE=>⟨Kept.refl _ _,_,_,rfl,hE,rfl⟩
  ·intro a w ux8 hE hM hp
   have f0 : ux8 0 = (ptr b1 (0 + ((0 : Int)).toNat * 1)):=hp 0 _ rfl rfl
   exact ZA (v:=(vB x10)) hE Za ld (lk rfl f0) ty5 rfl (At.vec (hM.rawAt (pre:=[_])) hi9.2) fun a hE=>⟨Kept.refl _ _,_,_,rfl,hE,rfl⟩
  ·exact fun a w ux8 hE hM hp=>Zd hE Za ld rfl fun a hE=>⟨Kept.refl _ _,_,_,rfl,hE,rfl⟩
  ·exact fun a w ux8 hE hM hp=>Zk hE Za ld rfl rfl Tryz.underlying31 ty5 hi12.1 fun a hE=>⟨Kept.refl _ _,_,_,rfl,hE,rfl⟩
  ·intro a w ux8 hE hM hp
   have f3 : ux8 3 = (ptr b1 (0 + ((15 : Int)).toNat * 1)):=hp 0 _ rfl rfl
   exact ZA (v:=(vB x13)) hE Za ld (lk rfl f3) ty5 rfl (At.vec (hM.rawAt (pre:=[_])) hi12.2) fun a hE=>⟨Kept.refl _ _,_,_,rfl,hE,rfl⟩
  ·exact fun a w ux8 hE hM hp=>Zd hE Za ld rfl fun a hE=>⟨Kept.refl _ _,_,_,rfl,hE,rfl⟩
  ·intro a w ux8 hE hM hp
   have f5 : ux8 5 = (vI p2):=hp 0 _ rfl rfl
   refine Yb hE Za ld (lk rfl f5) Tryz.underlying2 Tryz.underlying5 ?_; intro a hE
   rw [ZN] at hE
   exact ⟨Kept.refl _ _,_,_,rfl,hE,rfl⟩
  ·intro a w ux8 hE hM hp
   have f4 : ux8 4 = (vB x13):=hp 0 _ rfl rfl
   have f6 : ux8 6 = (vB (Zx p2)):=hp 1 _ rfl rfl
   exact Zi hE Za ld (lk rfl f4) (lk rfl f6) (VG x13 (Zx p2)) fun a hE=>⟨Kept.refl _ _,_,_,rfl,hE,rfl⟩
  ·intro a w ux8 hE hM hp
   have f2 : ux8 2 = v0_1:=hp 0 _ rfl rfl
   exact Xy hE Za ld (lk (lk rfl f2) hv17) fun a hE=>⟨Kept.refl _ _,_,_,rfl,hE,rfl⟩
  ·intro a w ux8 hE hM hp
   have f8 : ux8 8 = (ptr pb15 0):=hp 0 _ rfl rfl
   exact Zh hE Za ld (lk rfl f8) (BM) fun a hE=>⟨Kept.refl _ _,_,_,rfl,hE,rfl⟩
  ·intro a w ux8 hE hM hp
   have f7 : ux8 7 = (vB (x13 ^^^ (Zx p2))):=hp 1 _ rfl rfl
   have f9 : ux8 9 = (ptr pb15 (0 + 0)):=hp 0 _ rfl rfl
   exact Zk hE Za ld (lk rfl f9) (lk rfl f7) Tryz.underlying23 ty5 hi25.1 fun a hE=>⟨Kept.refl _ _,_,_,rfl,hE,rfl⟩
  ·intro a w ux8 hE hM hp
   have f10 : ux8 10 = (ptr pb15 (0 + 0 + ((bI (x13 ^^^ (Zx p2)))).toNat * 1)):=hp 0 _ rfl rfl
   exact ZA (v:=(vB x26)) hE Za ld (lk rfl f10) ty5 rfl (At.vec (At.cat (pre:=[]) (hM.atk hA19 hB20) cl0) hi25.2) fun a hE=>⟨Kept.refl _ _,_,_,rfl,hE,rfl⟩
  ·intro a w ux8 hE hM hp
   have f1 : ux8 1 = (vB x10):=hp 0 _ rfl rfl
   have f11 : ux8 11 = (vB x26):=hp 1 _ rfl rfl
   exact Zi hE Za ld (lk rfl f1) (lk rfl f11) (VG x10 x26) fun a hE=>⟨Kept.refl _ _,_,_,rfl,hE,rfl⟩
  ·exact fun a w ux8 hE hM hp=>Zk hE Za ld rfl rfl Tryz.underlying31 ty5 hi28.1 fun a hE=>⟨Kept.refl _ _,_,_,rfl,hE,rfl⟩
  ·intro a w ux8 hE hM hg
   have hE:=hE.sub (e':=[(20,(vB (x10 ^^^ x26))),(21,(ptr b1 (0 + ((0 : Int)).toNat * 1))),(0,v0_1),(4,(ptr b1 0)),(6,(ptr b3 0))]) ⟨lk rfl (hg 12 (by decide)),lk rfl (hg 13 (by decide)),rfl,rfl,rfl,trivial⟩
   have hM:=hM.pull (pre:=[_])
   refine Zv (seg:=[(vB (x10 ^^^ x26))]) (cs':=enc (p1.setIfInBounds ((0 : Int)).toNat (x10 ^^^ x26))) hE hM Za rfl rfl rfl ty5 rfl (ZM (v:=p1) (x:=x10 ^^^ x26) hi28.1) (Flat.cell (x10 ^^^ x26 : UInt8)) (ZD (v:=p1) (x:=x10 ^^^ x26) hi28.1) fun w a hM hE=>Zj ?_
   have ht31:=Option.some.inj hl6
   subst ht31
   refine Zl ?_
   have hM:=hM.pull (pre:=[_])
   exact ⟨hE.sub ⟨rfl,rfl,rfl,trivial⟩,hM⟩
 ·skip
  rintro a w ⟨hE,hM⟩
  refine wp_seq (Zc (Ze hE Za ld rfl fun a hE=>Zf ?_))
  obtain ⟨j32,hl33,hF34⟩:=bind_some hF7
  refine ZL (fun a w=>Env 41 a [(4,(ptr b1 0)),(6,(ptr b3 0))] ∧ M (Old w0) w0 w [raw b3 (enc (Vector.replicate 16 (0 : UInt8))),raw b1 (enc j32)]) ?_ ?_
  ·skip
   refine wp_block ?_
   refine ZC (fun (s35 : (Vector UInt8 16) × Int) a w=>Env 41 a [(0,v0_1),(4,(ptr b1 0)),(6,(ptr b3 0)),(7,vI s35.2)] ∧ M (Old w0) w0 w [raw b3 (enc (Vector.replicate 16 (0 : UInt8))),raw b1 (enc s35.1)]) hl33 ⟨hE.sub ⟨rfl,rfl,rfl,rfl,trivial⟩,hM⟩ ?_
   rintro s35 a w ⟨hE,hM⟩ o38 hs36 hx37
   unfold Yv at hs36
   refine wp_seq (Zc (Zd hE Za ld rfl fun a hE=>Zi hE Za ld rfl rfl rfl fun a hE=>Zf ?_))
   refine Zp hE rfl ?_ ?_
   ·intro hb39
    have hs36:=Zz hs36 hb39
    refine wp_skip (Zu (wp_seq (wp_block ?_)))
    obtain ⟨x42,hi41,hs36⟩:=bvx hs36
    obtain ⟨x45,hi44,hs36⟩:=bvx hs36
    obtain ⟨pb47,ds48,hv49,hx50,hA51,hB52⟩:=Uw hv0_1 -- ^
    obtain ⟨u53,u55,rfl,h54,h56⟩:=U9 hx50 -- ^
    obtain ⟨x58,hi57,hs36⟩:=bvx hs36
    obtain ⟨x61,hi60,hs36⟩:=bvx hs36
    refine Yg (n:=41) (hd:=[_,_,_,_,_,_,_,_,_,_,_,_,_,_]) (tl:=[_]) YN rfl rfl [26,27,28,29,30,31,32,33,34,35,36,37,38,39] (by decide) (fun w=>M (Old w0) w0 w [raw b3 (enc (Vector.replicate 16 (0 : UInt8))),raw b1 (enc s35.1)]) (fun j=>([fun v _=>v = (vI s35.2),fun v _=>v = (ptr b1 (0 + (s35.2).toNat * 1)),fun v _=>v = (vB x42),fun v _=>v = v0_1,fun v _=>v = (vI s35.2),fun v _=>v = (vI (wr (s35.2 - 1))),fun v _=>v = (ptr b1 (0 + ((wr (s35.2 - 1))).toNat * 1)),fun v _=>v = (vB x45),fun v _=>v = (ptr pb47 0),fun v _=>v = (ptr pb47 (0 + 0)),fun v _=>v = (ptr pb47 (0 + 0 + ((bI x45)).toNat * 1)),fun v _=>v = (vB x58),fun v _=>v = (vB (x42 ^^^ x58)),fun v _=>v = (ptr b1 (0 + (s35.2).toNat * 1))] : List (Value → World → Prop)).getD j (fun _ _=>True)) (fun _ _ h hk=>h.keep hk) (gup (Zn (Zn (Zn (Zn (Zn (Zn (Zn (Zn (Zn (Zn (Zn (Zn (Zn (Zn Vb))))))))))))))) hE hM.drew (ZJ (Zb ?_ (Zb ?_ (Zb ?_ (Zb ?_ (Zb ?_ (Zb ?_ (Zb ?_ (Zb ?_ (Zb ?_ (Zb ?_ (Zb ?_ (Zb ?_ (Zb ?_ (Zb ?_ ZF))))))))))))))) ?_
    ·exact fun a w ux40 hE hM hp=>Zd hE Za ld rfl fun a hE=>⟨Kept.refl _ _,_,_,rfl,hE,rfl⟩
    ·intro a w ux40 hE hM hp
     have f0 : ux40 0 = (vI s35.2):=hp 0 _ rfl rfl
     exact Zk hE Za ld rfl (lk rfl f0) Tryz.underlying31 ty5 hi41.1 fun a hE=>⟨Kept.refl _ _,_,_,rfl,hE,rfl⟩
    ·intro a w ux40 hE hM hp
     have f1 : ux40 1 = (ptr b1 (0 + (s35.2).toNat * 1)):=hp 0 _ rfl rfl
     exact ZA (v:=(vB x42)) hE Za ld (lk rfl f1) ty5 rfl (At.vec (hM.rawAt (pre:=[_])) hi41.2) fun a hE=>⟨Kept.refl _ _,_,_,rfl,hE,rfl⟩
    ·exact fun a w ux40 hE hM hp=>Zd hE Za ld rfl fun a hE=>⟨Kept.refl _ _,_,_,rfl,hE,rfl⟩
    ·exact fun a w ux40 hE hM hp=>Zd hE Za ld rfl fun a hE=>⟨Kept.refl _ _,_,_,rfl,hE,rfl⟩
    ·intro a w ux40 hE hM hp
     have f4 : ux40 4 = (vI s35.2):=hp 0 _ rfl rfl
     exact Zi hE Za ld (lk rfl f4) rfl rfl fun a hE=>⟨Kept.refl _ _,_,_,rfl,hE,rfl⟩
    ·intro a w ux40 hE hM hp
     have f5 : ux40 5 = (vI (wr (s35.2 - 1))):=hp 0 _ rfl rfl
     exact Zk hE Za ld rfl (lk rfl f5) Tryz.underlying31 ty5 hi44.1 fun a hE=>⟨Kept.refl _ _,_,_,rfl,hE,rfl⟩
    ·intro a w ux40 hE hM hp
     have f6 : ux40 6 = (ptr b1 (0 + ((wr (s35.2 - 1))).toNat * 1)):=hp 0 _ rfl rfl
     exact ZA (v:=(vB x45)) hE Za ld (lk rfl f6) ty5 rfl (At.vec (hM.rawAt (pre:=[_])) hi44.2) fun a hE=>⟨Kept.refl _ _,_,_,rfl,hE,rfl⟩
    ·intro a w ux40 hE hM hp
     have f3 : ux40 3 = v0_1:=hp 0 _ rfl rfl
     exact Xy hE Za ld (lk (lk rfl f3) hv49) fun a hE=>⟨Kept.refl _ _,_,_,rfl,hE,rfl⟩
    ·intro a w ux40 hE hM hp
     have f8 : ux40 8 = (ptr pb47 0):=hp 0 _ rfl rfl
     exact Zh hE Za ld (lk rfl f8) (BM) fun a hE=>⟨Kept.refl _ _,_,_,rfl,hE,rfl⟩
    ·intro a w ux40 hE hM hp
     have f7 : ux40 7 = (vB x45):=hp 1 _ rfl rfl
     have f9 : ux40 9 = (ptr pb47 (0 + 0)):=hp 0 _ rfl rfl
     exact Zk hE Za ld (lk rfl f9) (lk rfl f7) Tryz.underlying23 ty5 hi57.1 fun a hE=>⟨Kept.refl _ _,_,_,rfl,hE,rfl⟩
    ·intro a w ux40 hE hM hp
     have f10 : ux40 10 = (ptr pb47 (0 + 0 + ((bI x45)).toNat * 1)):=hp 0 _ rfl rfl
     exact ZA (v:=(vB x58)) hE Za ld (lk rfl f10) ty5 rfl (At.vec (At.cat (pre:=[]) (hM.atk hA51 hB52) cl0) hi57.2) fun a hE=>⟨Kept.refl _ _,_,_,rfl,hE,rfl⟩
    ·intro a w ux40 hE hM hp
     have f2 : ux40 2 = (vB x42):=hp 0 _ rfl rfl
     have f11 : ux40 11 = (vB x58):=hp 1 _ rfl rfl
     exact Zi hE Za ld (lk rfl f2) (lk rfl f11) (VG x42 x58) fun a hE=>⟨Kept.refl _ _,_,_,rfl,hE,rfl⟩
    ·intro a w ux40 hE hM hp
     have f0 : ux40 0 = (vI s35.2):=hp 0 _ rfl rfl
     exact Zk hE Za ld rfl (lk rfl f0) Tryz.underlying31 ty5 hi60.1 fun a hE=>⟨Kept.refl _ _,_,_,rfl,hE,rfl⟩
    ·intro a w ux40 hE hM hg
     have hE:=hE.sub (e':=[(38,(vB (x42 ^^^ x58))),(39,(ptr b1 (0 + (s35.2).toNat * 1))),(0,v0_1),(4,(ptr b1 0)),(6,(ptr b3 0)),(7,vI s35.2),(22,vI s35.2),(23,(vT (decide (s35.2 < 16))))]) ⟨lk rfl (hg 12 (by decide)),lk rfl (hg 13 (by decide)),rfl,rfl,rfl,rfl,rfl,rfl,trivial⟩
     have hM:=hM.pull (pre:=[_])
     refine Zv (seg:=[(vB (x42 ^^^ x58))]) (cs':=enc (s35.1.setIfInBounds (s35.2).toNat (x42 ^^^ x58))) hE hM Za rfl rfl rfl ty5 rfl (ZM (v:=s35.1) (x:=x42 ^^^ x58) hi60.1) (Flat.cell (x42 ^^^ x58 : UInt8)) (ZD (v:=s35.1) (x:=x42 ^^^ x58) hi60.1) fun w a hM hE=>Zj (ZZ (Zu (wp_region_lit (Zd hE Za ld rfl fun a hE=>Zi hE Za ld rfl rfl rfl fun a hE=>Ze hE Za ld rfl fun a hE=>Zj (Zl ?_)))))
     have hM:=hM.pull (pre:=[_])
     exact ⟨_,(ois hs36),hE.sub ⟨rfl,rfl,rfl,rfl,trivial⟩,hM⟩
   ·intro hb39
    have hs36:=Zy hs36 hb39
    refine wp_exit (Zm (Zm (Z0 ?_)))
    have ht63:=hx37 _ (ois hs36)
    subst ht63
    refine Zl ?_
    exact ⟨hE.sub ⟨rfl,rfl,trivial⟩,hM⟩
  ·skip
   rintro a w ⟨hE,hM⟩
   refine Zu (Zc (Zo (cs:=enc j32) hE Za ld rfl ZG rfl (hM.rawAt (pre:=[_])) (Flat.len _) fun a hE=>Zv (seg:=enc j32) (cs':=enc j32) hE hM Za rfl rfl rfl ZG (Flat.len _) (zle flq) (Flat.cell _) (Zr flq) fun w a hM hE=>Zf ?_))
   have hr:=Option.some.inj hF34
   subst hr
   have hq64 : Yx Tryz.prog _ _ (.cell 6 31) _:=ZR hE rfl ZG rfl (hM.rawAt (pre:=[])) (Flat.len _) rfl
   have hM:=M.fst (l:=[]) hM
   exact wp_ret (Zt hE rfl hq64 ⟨_,rfl,rfl,hM.kept⟩)
def YW (p0 : (Ref Gengine)) (p2 : Int) (s10 : (Vector UInt8 16) × (List (Vector UInt8 16)) × Int) : Option (Fl ((Vector UInt8 16) × (List (Vector UInt8 16)) × Int) (List (Vector UInt8 16))) :=
 if (decide (s10.2.2 ≤ p2)) = true then ((Y3 p0 s10.1 s10.2.2).bind fun r17=>(app 16 s10.2.1 ([r17] : List (Vector UInt8 16))).bind fun l21=>some (Fl.nx (r17,(s10.2.1 ++ ([r17] : List (Vector UInt8 16))),wr (s10.2.2 + 1)))) else (some (Fl.ex s10.2.1))
def X1 (p0 : (Ref Gengine)) (p1 : (Vector UInt8 16)) (p2 : Int) : Option ((List (Vector UInt8 16))) :=
 (ZE (YW p0 p2) (p1,([p1] : List (Vector UInt8 16)),1)).bind fun j5=>some j5
theorem Q8 (w0 : World) (p0 : (Ref Gengine)) (v0_1 : Value) (hv0_1 : Ro w0 p0 [v0_1]) (p1 : (Vector UInt8 16)) (p2 : Int) (r : (List (Vector UInt8 16))) (hF : X1 p0 p1 p2 = some r) :
  Calls Tryz.prog 172 [v0_1,(Value.agg (enc p1).toArray),vI p2].toArray w0 (fun en w'=>∃ v,en = .returned v ∧ (∃ (y1 : Value),v = y1 ∧ Fr w0 w' [osl NoB (r : List (Vector UInt8 16)) y1] ∧ Kept (Old w0) w0 w')):=by
 refine ZB (n:=25) Tryz.func172 rfl rfl (nbl rfl) rfl ?_
 intro a hE
 have hM:=M.start w0
 unfold X1 at hF
 refine Zc (ZT (cs:=enc p1) hE hM Za ld rfl rfl fun b1 w a hM hE=>Ze hE Za ld rfl fun a hE=>Zf (Zc (Zo (cs:=enc p1) hE Za ld rfl ZG rfl (hM.rawAt (pre:=[])) (Flat.len _) fun a hE=>Yj (xs:=[.tmp 9]) (l:=([p1] : List (Vector UInt8 16))) (vs:=[(Value.agg (enc p1).toArray)]) hE hM Za ld rfl rfl Tryz.underlying33 ZG rfl (by decide) rfl fun u3 w a hM hE=>Ze hE Za ld rfl fun a hE=>Zf (wp_seq (Zc (Ze hE Za ld rfl fun a hE=>Zf ?_))))))
 obtain ⟨j5,hl6,hF7⟩:=bind_some hF
 refine ZL (fun a w=>∃ (u8 : Value),Env 25 a [(7,u8)] ∧ M (Old w0) w0 w [osl NoB (j5 : List (Vector UInt8 16)) u8]) ?_ ?_
 ·skip
  refine wp_block ?_
  have hM:=hM.pull (pre:=[_])
  refine ZC (fun (s10 : (Vector UInt8 16) × (List (Vector UInt8 16)) × Int) a w=>∃ (u11 : Value),Env 25 a [(0,v0_1),(2,vI p2),(4,(ptr b1 0)),(7,u11),(8,vI s10.2.2)] ∧ M (Old w0) w0 w [raw b1 (enc s10.1),osl NoB (s10.2.1 : List (Vector UInt8 16)) u11]) hl6 ⟨u3,hE.sub ⟨rfl,rfl,rfl,rfl,rfl,trivial⟩,hM⟩ ?_
  rintro s10 a w ⟨u11,hE,hM⟩ o15 hs13 hx14
  unfold YW at hs13
  refine wp_seq (Zc (Zd hE Za ld rfl fun a hE=>Zd hE Za ld rfl fun a hE=>Zi hE Za ld rfl rfl rfl fun a hE=>Zf ?_))
  refine Zp hE rfl ?_ ?_
  ·intro hb16
   have hs13:=Zz hs13 hb16
   refine wp_skip (Zu (wp_seq (wp_block (Zc (Zd hE Za ld rfl fun a hE=>Zo (cs:=enc s10.1) hE Za ld rfl ZG rfl (hM.rawAt (pre:=[])) (Flat.len _) fun a hE=>Zd hE Za ld rfl ?_))))); intro a hE
   obtain ⟨r17,e18,hs13⟩:=bind_some hs13
   refine Zw hE Za ld rfl cb180 (Qf _ p0 v0_1 (hM.rdo hv0_1) s10.1 s10.2.2 r17 e18) ?_
   rintro v w a ⟨rfl,hK⟩ hE
   have hM:=hM.keep hK
   refine Zv (seg:=enc r17) (cs':=enc r17) hE hM Za rfl rfl rfl ZG (Flat.len _) (zle flq) (Flat.cell _) (Zr flq) fun w a hM hE=>Zf (wp_region_lit (Zd hE Za ld rfl fun a hE=>Zo (cs:=enc r17) hE Za ld rfl ZG rfl (hM.rawAt (pre:=[])) (Flat.len _) fun a hE=>Yj (xs:=[.tmp 21]) (l:=([r17] : List (Vector UInt8 16))) (vs:=[(Value.agg (enc r17).toArray)]) hE hM Za ld rfl rfl Tryz.underlying33 ZG rfl (by decide) rfl ?_)); intro u19 w a hM hE
   obtain ⟨l21,e22,hs13⟩:=bind_some hs13
   obtain ⟨e25,rfl⟩:=Y2 e22
   have hM:=hM.pull (pre:=[_,_])
   refine YA hE hM Za ld rfl rfl (hM.sl (pre:=[_]) noB) Tryz.underlying33 ZG rfl (by decide) e25 fun u23 w a hM hE=>Ze hE Za ld rfl fun a hE=>Zj (ZZ (Zu (wp_region_lit (Zd hE Za ld rfl fun a hE=>Zi hE Za ld rfl rfl rfl fun a hE=>Ze hE Za ld rfl fun a hE=>Zj (Zl ?_)))))
   have hM:=M.fst (l:=[_,_]) (hM.pull (pre:=[_,_]))
   exact ⟨_,(ois hs13),u23,hE.sub ⟨rfl,rfl,rfl,rfl,rfl,trivial⟩,hM⟩
  ·intro hb16
   have hs13:=Zy hs13 hb16
   refine wp_exit (Zm (Zm (Z0 ?_)))
   have ht26:=hx14 _ (ois hs13)
   subst ht26
   refine Zl ?_
   have hM:=M.fst (l:=[_]) (hM.pull (pre:=[_]))
   exact ⟨u11,hE.sub ⟨rfl,trivial⟩,hM⟩
 ·skip
  rintro a w ⟨u8,hE,hM⟩
  refine Zu (Zc (Zd hE Za ld rfl fun a hE=>Ze hE Za ld rfl fun a hE=>Zf ?_))
  have hr:=Option.some.inj hF7
  subst hr
  exact wp_ret (Zt hE rfl (Zs hE rfl) ⟨_,rfl,u8,rfl,hM.outF (YL VT),hM.kept⟩)
def YV (p0 : (Vector UInt8 16)) (p1 : (Vector UInt8 16)) (s12 : (Vector UInt8 16) × Int) : Option (Fl ((Vector UInt8 16) × Int) (Vector UInt8 16)) :=
 if (decide (s12.2 < 16)) = true then ((ZI p0 s12.2).bind fun x17=>(ZI p1 (bI x17)).bind fun x21=>(ZI s12.1 s12.2).bind fun x24=>some (Fl.nx ((s12.1.setIfInBounds (s12.2).toNat x21),wr (s12.2 + 1)))) else (some (Fl.ex s12.1))
def X4 (p0 : (Vector UInt8 16)) (p1 : (Vector UInt8 16)) : Option ((Vector UInt8 16)) :=
 (ZE (YV p0 p1) ((Vector.replicate 16 (0 : UInt8)),0)).bind fun j9=>some j9
theorem QX (w0 : World) (p0 : (Vector UInt8 16)) (p1 : (Vector UInt8 16)) (r : (Vector UInt8 16)) (hF : X4 p0 p1 = some r) :
  Calls Tryz.prog 178 [(Value.agg (enc p0).toArray),(Value.agg (enc p1).toArray)].toArray w0 (fun en w'=>∃ v,en = .returned v ∧ (v = (Value.agg (enc r).toArray) ∧ Kept (Old w0) w0 w')):=by
 refine ZB (n:=21) Tryz.func178 rfl rfl (nbl rfl) rfl ?_
 intro a hE
 have hM:=M.start w0
 unfold X4 at hF
 refine Zc (ZT (cs:=enc p0) hE hM Za ld rfl rfl fun b1 w a hM hE=>ZT (cs:=enc p1) hE hM Za ld rfl rfl fun b3 w a hM hE=>ZH hE hM Za ld ZG fun b5 w a hM hE=>Zf (Zc (YT (parts:=[]) (vs:=[]) (cs:=enc (Vector.replicate 16 (0 : UInt8))) hE Za ld rfl rfl ZG rfl ty5 Yw fun a hE=>ZH hE hM Za ld ZG fun b7 w a hM hE=>Zv (seg:=enc (Vector.replicate 16 (0 : UInt8))) (cs':=enc (Vector.replicate 16 (0 : UInt8))) hE hM Za rfl rfl rfl ZG (Flat.len _) (zle flq) (Flat.cell _) (Zr flq) fun w a hM hE=>Zf (wp_seq (Zc (Zo (cs:=enc p0) hE Za ld rfl Qg rfl (hM.rawAt (pre:=[_,_,_])) (Flat.len _) fun a hE=>Zd hE Za ld rfl fun a hE=>Zf ?_))))))
 obtain ⟨j9,hl10,hF11⟩:=bind_some hF
 refine ZL (fun a w=>Env 21 a [(4,(ptr b5 0)),(5,(ptr b7 0))] ∧ M (Old w0) w0 w [raw b7 (enc j9),raw b5 (enc (Vector.replicate 16 (0 : UInt8)))]) ?_ ?_
 ·skip
  refine wp_block ?_
  have hM:=M.fst (l:=[_,_,_]) (((hM.pull (pre:=[_,_])).pull (pre:=[_,_])).pull (pre:=[_,_]))
  refine ZC (fun (s12 : (Vector UInt8 16) × Int) a w=>Env 21 a [(3,(ptr b3 0)),(4,(ptr b5 0)),(5,(ptr b7 0)),(9,(Value.agg (enc p0).toArray)),(10,vI s12.2)] ∧ M (Old w0) w0 w [raw b7 (enc s12.1),raw b5 (enc (Vector.replicate 16 (0 : UInt8))),raw b3 (enc p1)]) hl10 ⟨hE.sub ⟨rfl,rfl,rfl,rfl,rfl,trivial⟩,hM⟩ ?_
  rintro s12 a w ⟨hE,hM⟩ o15 hs13 hx14
  unfold YV at hs13
  refine Zc (Zi hE Za ld rfl rfl rfl fun a hE=>Zf (wp_seq ?_))
  refine Zp hE rfl ?_ ?_
  ·intro hb16
   have hs13:=Zz hs13 hb16
   refine wp_skip (Zu (wp_seq (wp_block (Zc (Zd hE Za ld rfl ?_))))); intro a hE
   obtain ⟨x17,hi19,hs13⟩:=bvx hs13
   refine Qr hE Za ld rfl rfl Tryz.underlying28 ty5 rfl rfl hi19 rfl fun a hE=>Ze hE Za ld rfl fun a hE=>Ze hE Za ld rfl fun a hE=>Zf (wp_region_lit (Zd hE Za ld rfl fun a hE=>Zd hE Za ld rfl ?_)); intro a hE
   obtain ⟨x21,hi20,hs13⟩:=bvx hs13
   refine Zk hE Za ld rfl rfl Tryz.underlying31 ty5 hi20.1 fun a hE=>ZA (v:=(vB x21)) hE Za ld rfl ty5 rfl (At.vec (hM.rawAt (pre:=[_,_])) hi20.2) ?_; intro a hE
   obtain ⟨x24,hi23,hs13⟩:=bvx hs13
   refine Zk hE Za ld rfl rfl Tryz.underlying31 ty5 hi23.1 fun a hE=>Zv (seg:=[vB x21]) (cs':=enc (s12.1.setIfInBounds (s12.2).toNat x21)) hE hM Za rfl rfl rfl ty5 rfl (ZM (v:=s12.1) (x:=x21) hi23.1) (Flat.cell (x21 : UInt8)) (ZD (v:=s12.1) (x:=x21) hi23.1) fun w a hM hE=>Zj (ZZ (Zu (wp_region_lit (Zi hE Za ld rfl rfl rfl fun a hE=>Zd hE Za ld rfl fun a hE=>Zj (Zl ?_)))))
   exact ⟨_,(ois hs13),hE.sub ⟨rfl,rfl,rfl,rfl,rfl,trivial⟩,hM⟩
  ·intro hb16
   have hs13:=Zy hs13 hb16
   refine wp_exit (Zm (Zm (Z0 ?_)))
   have ht26:=hx14 _ (ois hs13)
   subst ht26
   refine Zl ?_
   have hM:=M.fst (l:=[_,_]) ((hM.pull (pre:=[_])).pull (pre:=[_]))
   exact ⟨hE.sub ⟨rfl,rfl,trivial⟩,hM⟩
 ·skip
  rintro a w ⟨hE,hM⟩
  refine Zu (Zc (Zo (cs:=enc j9) hE Za ld rfl ZG rfl (hM.rawAt (pre:=[])) (Flat.len _) ?_)); intro a hE
  have hM:=hM.pull (pre:=[_])
  refine Zv (seg:=enc j9) (cs':=enc j9) hE hM Za rfl rfl rfl ZG (Flat.len _) (zle flq) (Flat.cell _) (Zr flq) fun w a hM hE=>Zf ?_
  have hr:=Option.some.inj hF11
  subst hr
  have hq27 : Yx Tryz.prog _ _ (.cell 4 31) _:=ZR hE rfl ZG rfl (hM.rawAt (pre:=[])) (Flat.len _) rfl
  have hM:=M.fst (l:=[]) hM
  exact wp_ret (Zt hE rfl hq27 ⟨_,rfl,rfl,hM.kept⟩)
def Xr (p0 : (Ref (Vector (Vector (Vector UInt8 256) 4) 4))) (s4 : (Vector UInt8 16) × Int) (j9 : UInt8 × UInt8 × UInt8 × UInt8) (s29 : (Vector UInt8 16) × Int) : Option (Fl ((Vector UInt8 16) × Int) (Vector UInt8 16)) :=
 if (decide (s29.2 < 4)) = true then ((ZI p0.v s29.2).bind fun x42=>(ZI x42 (0 : Int)).bind fun x45=>(ZI x45 (bI j9.1)).bind fun x48=>(ZI p0.v s29.2).bind fun x57=>(ZI x57 (1 : Int)).bind fun x60=>(ZI x60 (bI j9.2.1)).bind fun x63=>(ZI p0.v s29.2).bind fun x72=>(ZI x72 (2 : Int)).bind fun x75=>(ZI x75 (bI j9.2.2.1)).bind fun x78=>(ZI p0.v s29.2).bind fun x87=>(ZI x87 (3 : Int)).bind fun x90=>(ZI x90 (bI j9.2.2.2)).bind fun x93=>(ZI s29.1 (wr (s4.2 + s29.2))).bind fun x95=>some (Fl.nx ((s29.1.setIfInBounds ((wr (s4.2 + s29.2))).toNat (((x48 ^^^ x63) ^^^ x78) ^^^ x93)),wr (s29.2 + 1)))) else (some (Fl.ex s29.1))
def Xo (p0 : (Ref (Vector (Vector (Vector UInt8 256) 4) 4))) (s4 : (Vector UInt8 16) × Int) : Option (Fl ((Vector UInt8 16) × Int) (Vector UInt8 16)) :=
 if (decide (s4.2 < (s4.1.toList.length : Int))) = true then (((ZI s4.1 s4.2).bind fun x13=>(ZI s4.1 (wr (s4.2 + 1))).bind fun x16=>(ZI s4.1 (wr (s4.2 + 2))).bind fun x19=>(ZI s4.1 (wr (s4.2 + 3))).bind fun x22=>some (x13,x16,x19,x22) : Option (UInt8 × UInt8 × UInt8 × UInt8)).bind fun j9=>(ZE (Xr p0 s4 j9) (s4.1,0)).bind fun j26=>some (Fl.nx (j26,wr (s4.2 + 4)))) else (some (Fl.ex s4.1))
def W0 (p0 : (Ref (Vector (Vector (Vector UInt8 256) 4) 4))) (p1 : (Vector UInt8 16)) : Option ((Vector UInt8 16)) :=
 (ZE (Xo p0) (p1,0)).bind fun j1=>some j1
theorem K7 (St : Nat → Prop) (W w0 : World) (its : List Item) (p0 : (Ref (Vector (Vector (Vector UInt8 256) 4) 4))) (v0_1 : Value) (hv0_1 : Rep.sat St W p0 [v0_1] []) (pb1 : Nat) (p1 : (Vector UInt8 16)) (hM : M St W w0 (raw pb1 (enc p1) :: its)) (r : (Vector UInt8 16)) (hF : W0 p0 p1 = some r) :
  Calls Tryz.prog 179 [v0_1,(Value.slice (some ⟨pb1,0,none⟩) 16 16)].toArray w0 (fun en w'=>∃ v,en = .returned v ∧ (v = (Value.tuple [].toArray) ∧ M St W w' (raw pb1 (enc r) :: its))):=by
 refine ZB (n:=79) Tryz.func179 rfl rfl (nbl rfl) rfl ?_
 intro a hE
 unfold W0 at hF
 refine Zc (Ze hE Za ld rfl fun a hE=>Zf ?_)
 obtain ⟨j1,hl2,hF3⟩:=bind_some hF
 refine ZL (fun a w=>Env 79 a [(1,(Value.slice (some ⟨pb1,0,none⟩) 16 16))] ∧ M St W w (raw pb1 (enc j1) :: its)) ?_ ?_
 ·skip
  refine wp_block ?_
  refine ZC (fun (s4 : (Vector UInt8 16) × Int) a w=>Env 79 a [(0,v0_1),(1,(Value.slice (some ⟨pb1,0,none⟩) 16 16)),(4,vI s4.2)] ∧ M St W w (raw pb1 (enc s4.1) :: its)) hl2 ⟨hE.sub ⟨rfl,rfl,rfl,trivial⟩,hM⟩ ?_
  rintro s4 a w ⟨hE,hM⟩ o7 hs5 hx6
  unfold Xo at hs5
  refine wp_seq (Zc (Zd hE Za ld rfl fun a hE=>Zd hE Za ld rfl fun a hE=>Yf hE Za ld rfl Tryz.underlying32 (yq (hM.rawAt (pre:=[]))) fun a hE=>Zi hE Za ld rfl rfl rfl fun a hE=>Zf ?_))
  refine Zp hE rfl ?_ ?_
  ·intro hb8
   have hs5:=Zz hs5 hb8
   refine wp_skip (Zu (wp_seq (wp_block ?_)))
   obtain ⟨j9,hl10,hF11⟩:=bind_some hs5
   refine ZQ (fun a w=>Env 79 a [(0,v0_1),(1,(Value.slice (some ⟨pb1,0,none⟩) 16 16)),(4,vI s4.2),(5,vB j9.1),(6,vB j9.2.1),(7,vB j9.2.2.1),(8,vB j9.2.2.2)] ∧ M St W w (raw pb1 (enc s4.1) :: its)) ?_ ?_
   ·skip
    obtain ⟨x13,hi15,hl10⟩:=bvx hl10
    obtain ⟨x16,hi18,hl10⟩:=bvx hl10
    obtain ⟨x19,hi21,hl10⟩:=bvx hl10
    obtain ⟨x22,hi24,hl10⟩:=bvx hl10
    refine Yg (n:=79) (hd:=[_,_,_,_,_,_,_,_,_,_,_,_,_,_,_,_,_,_,_,_,_,_,_]) (tl:=[]) YN rfl rfl [16,17,18,19,20,21,22,23,24,25,26,27,28,29,30,31,32,33,34,5,6,7,8] (by decide) (fun w=>M St W w (raw pb1 (enc s4.1) :: its)) (fun j=>([fun v _=>v = (Value.slice (some ⟨pb1,0,none⟩) 16 16),fun v _=>v = (vI s4.2),fun v _=>v = (ptr pb1 (0 + (s4.2).toNat * 1)),fun v _=>v = (vB x13),fun v _=>v = (Value.slice (some ⟨pb1,0,none⟩) 16 16),fun v _=>v = (vI s4.2),fun v _=>v = (vI (wr (s4.2 + 1))),fun v _=>v = (ptr pb1 (0 + ((wr (s4.2 + 1))).toNat * 1)),fun v _=>v = (vB x16),fun v _=>v = (Value.slice (some ⟨pb1,0,none⟩) 16 16),fun v _=>v = (vI s4.2),fun v _=>v = (vI (wr (s4.2 + 2))),fun v _=>v = (ptr pb1 (0 + ((wr (s4.2 + 2))).toNat * 1)),fun v _=>v = (vB x19),fun v _=>v = (Value.slice (some ⟨pb1,0,none⟩) 16 16),fun v _=>v = (vI s4.2),fun v _=>v = (vI (wr (s4.2 + 3))),fun v _=>v = (ptr pb1 (0 + ((wr (s4.2 + 3))).toNat * 1)),fun v _=>v = (vB x22),fun v _=>v = (vB x13),fun v _=>v = (vB x16),fun v _=>v = (vB x19),fun v _=>v = (vB x22)] : List (Value → World → Prop)).getD j (fun _ _=>True)) (fun _ _ h hk=>h.keep hk) (gup (Zn (Zn (Zn (Zn (Zn (Zn (Zn (Zn (Zn (Zn (Zn (Zn (Zn (Zn (Zn (Zn (Zn (Zn (Zn (Zn (Zn (Zn (Zn Vb)))))))))))))))))))))))) hE hM.drew (ZJ (Zb ?_ (Zb ?_ (Zb ?_ (Zb ?_ (Zb ?_ (Zb ?_ (Zb ?_ (Zb ?_ (Zb ?_ (Zb ?_ (Zb ?_ (Zb ?_ (Zb ?_ (Zb ?_ (Zb ?_ (Zb ?_ (Zb ?_ (Zb ?_ (Zb ?_ (Zb ?_ (Zb ?_ (Zb ?_ (Zb ?_ ZF)))))))))))))))))))))))) ?_
    ·exact fun a w ux12 hE hM hp=>Zd hE Za ld rfl fun a hE=>⟨Kept.refl _ _,_,_,rfl,hE,rfl⟩
    ·exact fun a w ux12 hE hM hp=>Zd hE Za ld rfl fun a hE=>⟨Kept.refl _ _,_,_,rfl,hE,rfl⟩
    ·intro a w ux12 hE hM hp
     have f0 : ux12 0 = (Value.slice (some ⟨pb1,0,none⟩) 16 16):=hp 0 _ rfl rfl
     have f1 : ux12 1 = (vI s4.2):=hp 1 _ rfl rfl
     exact Th hE Za ld (lk rfl f0) (lk rfl f1) Tryz.underlying32 ty5 hi15.1 fun a hE=>⟨Kept.refl _ _,_,_,rfl,hE,rfl⟩
    ·intro a w ux12 hE hM hp
     have f2 : ux12 2 = (ptr pb1 (0 + (s4.2).toNat * 1)):=hp 0 _ rfl rfl
     exact ZA (v:=(vB x13)) hE Za ld (lk rfl f2) ty5 rfl (At.vec (hM.rawAt (pre:=[])) hi15.2) fun a hE=>⟨Kept.refl _ _,_,_,rfl,hE,rfl⟩
    ·exact fun a w ux12 hE hM hp=>Zd hE Za ld rfl fun a hE=>⟨Kept.refl _ _,_,_,rfl,hE,rfl⟩
    ·exact fun a w ux12 hE hM hp=>Zd hE Za ld rfl fun a hE=>⟨Kept.refl _ _,_,_,rfl,hE,rfl⟩
    ·intro a w ux12 hE hM hp
     have f5 : ux12 5 = (vI s4.2):=hp 0 _ rfl rfl
     exact Zi hE Za ld (lk rfl f5) rfl rfl fun a hE=>⟨Kept.refl _ _,_,_,rfl,hE,rfl⟩
    ·intro a w ux12 hE hM hp
     have f4 : ux12 4 = (Value.slice (some ⟨pb1,0,none⟩) 16 16):=hp 0 _ rfl rfl
     have f6 : ux12 6 = (vI (wr (s4.2 + 1))):=hp 1 _ rfl rfl
     exact Th hE Za ld (lk rfl f4) (lk rfl f6) Tryz.underlying32 ty5 hi18.1 fun a hE=>⟨Kept.refl _ _,_,_,rfl,hE,rfl⟩
    ·intro a w ux12 hE hM hp
     have f7 : ux12 7 = (ptr pb1 (0 + ((wr (s4.2 + 1))).toNat * 1)):=hp 0 _ rfl rfl
     exact ZA (v:=(vB x16)) hE Za ld (lk rfl f7) ty5 rfl (At.vec (hM.rawAt (pre:=[])) hi18.2) fun a hE=>⟨Kept.refl _ _,_,_,rfl,hE,rfl⟩
    ·exact fun a w ux12 hE hM hp=>Zd hE Za ld rfl fun a hE=>⟨Kept.refl _ _,_,_,rfl,hE,rfl⟩
    ·exact fun a w ux12 hE hM hp=>Zd hE Za ld rfl fun a hE=>⟨Kept.refl _ _,_,_,rfl,hE,rfl⟩
    ·intro a w ux12 hE hM hp
     have f10 : ux12 10 = (vI s4.2):=hp 0 _ rfl rfl
     exact Zi hE Za ld (lk rfl f10) rfl rfl fun a hE=>⟨Kept.refl _ _,_,_,rfl,hE,rfl⟩
    ·intro a w ux12 hE hM hp
     have f9 : ux12 9 = (Value.slice (some ⟨pb1,0,none⟩) 16 16):=hp 0 _ rfl rfl
     have f11 : ux12 11 = (vI (wr (s4.2 + 2))):=hp 1 _ rfl rfl
     exact Th hE Za ld (lk rfl f9) (lk rfl f11) Tryz.underlying32 ty5 hi21.1 fun a hE=>⟨Kept.refl _ _,_,_,rfl,hE,rfl⟩
    ·intro a w ux12 hE hM hp
     have f12 : ux12 12 = (ptr pb1 (0 + ((wr (s4.2 + 2))).toNat * 1)):=hp 0 _ rfl rfl
     exact ZA (v:=(vB x19)) hE Za ld (lk rfl f12) ty5 rfl (At.vec (hM.rawAt (pre:=[])) hi21.2) fun a hE=>⟨Kept.refl _ _,_,_,rfl,hE,rfl⟩
    ·exact fun a w ux12 hE hM hp=>Zd hE Za ld rfl fun a hE=>⟨Kept.refl _ _,_,_,rfl,hE,rfl⟩
    ·exact fun a w ux12 hE hM hp=>Zd hE Za ld rfl fun a hE=>⟨Kept.refl _ _,_,_,rfl,hE,rfl⟩
    ·intro a w ux12 hE hM hp
     have f15 : ux12 15 = (vI s4.2):=hp 0 _ rfl rfl
     exact Zi hE Za ld (lk rfl f15) rfl rfl fun a hE=>⟨Kept.refl _ _,_,_,rfl,hE,rfl⟩
    ·intro a w ux12 hE hM hp
     have f14 : ux12 14 = (Value.slice (some ⟨pb1,0,none⟩) 16 16):=hp 0 _ rfl rfl
     have f16 : ux12 16 = (vI (wr (s4.2 + 3))):=hp 1 _ rfl rfl
     exact Th hE Za ld (lk rfl f14) (lk rfl f16) Tryz.underlying32 ty5 hi24.1 fun a hE=>⟨Kept.refl _ _,_,_,rfl,hE,rfl⟩
    ·intro a w ux12 hE hM hp
     have f17 : ux12 17 = (ptr pb1 (0 + ((wr (s4.2 + 3))).toNat * 1)):=hp 0 _ rfl rfl
     exact ZA (v:=(vB x22)) hE Za ld (lk rfl f17) ty5 rfl (At.vec (hM.rawAt (pre:=[])) hi24.2) fun a hE=>⟨Kept.refl _ _,_,_,rfl,hE,rfl⟩
    ·intro a w ux12 hE hM hp
     have f3 : ux12 3 = (vB x13):=hp 0 _ rfl rfl
     exact Ze hE Za ld (lk rfl f3) fun a hE=>⟨Kept.refl _ _,_,_,rfl,hE,rfl⟩
    ·intro a w ux12 hE hM hp
     have f8 : ux12 8 = (vB x16):=hp 0 _ rfl rfl
     exact Ze hE Za ld (lk rfl f8) fun a hE=>⟨Kept.refl _ _,_,_,rfl,hE,rfl⟩
    ·intro a w ux12 hE hM hp
     have f13 : ux12 13 = (vB x19):=hp 0 _ rfl rfl
     exact Ze hE Za ld (lk rfl f13) fun a hE=>⟨Kept.refl _ _,_,_,rfl,hE,rfl⟩
    ·intro a w ux12 hE hM hp
     have f18 : ux12 18 = (vB x22):=hp 0 _ rfl rfl
     exact Ze hE Za ld (lk rfl f18) fun a hE=>⟨Kept.refl _ _,_,_,rfl,hE,rfl⟩
    ·intro a w ux12 hE hM hg
     have hE:=hE.sub (e':=[(5,vB x13),(6,vB x16),(7,vB x19),(8,vB x22),(0,v0_1),(1,(Value.slice (some ⟨pb1,0,none⟩) 16 16)),(4,vI s4.2),(10,vI s4.2),(11,(Value.slice (some ⟨pb1,0,none⟩) 16 16)),(12,(vI (s4.1.toList.length : Int))),(13,(vT (decide (s4.2 < (s4.1.toList.length : Int)))))]) ⟨lk rfl (hg 19 (by decide)),lk rfl (hg 20 (by decide)),lk rfl (hg 21 (by decide)),lk rfl (hg 22 (by decide)),rfl,rfl,rfl,rfl,rfl,rfl,rfl,trivial⟩
     refine Zj ?_
     have ht25:=Option.some.inj hl10
     subst ht25
     refine Zl ?_
     exact ⟨hE.sub ⟨rfl,rfl,rfl,rfl,rfl,rfl,rfl,trivial⟩,hM⟩
   ·skip
    rintro a w ⟨hE,hM⟩
    refine Zc (Zd hE Za ld rfl fun a hE=>Zf ?_)
    obtain ⟨j26,hl27,hF28⟩:=bind_some hF11
    refine ZL (fun a w=>Env 79 a [(0,v0_1),(1,(Value.slice (some ⟨pb1,0,none⟩) 16 16)),(4,vI s4.2)] ∧ M St W w (raw pb1 (enc j26) :: its)) ?_ ?_
    ·skip
     refine wp_block ?_
     refine ZC (fun (s29 : (Vector UInt8 16) × Int) a w=>Env 79 a [(0,v0_1),(1,(Value.slice (some ⟨pb1,0,none⟩) 16 16)),(4,vI s4.2),(5,vB j9.1),(6,vB j9.2.1),(7,vB j9.2.2.1),(8,vB j9.2.2.2),(35,vI s29.2)] ∧ M St W w (raw pb1 (enc s29.1) :: its)) hl27 ⟨hE.sub ⟨rfl,rfl,rfl,rfl,rfl,rfl,rfl,rfl,trivial⟩,hM⟩ ?_
     rintro s29 a w ⟨hE,hM⟩ o32 hs30 hx31
     unfold Xr at hs30
     refine Zc (Zi hE Za ld rfl rfl rfl fun a hE=>Zf (wp_seq ?_))
     refine Zp hE rfl ?_ ?_
     ·intro hb33
      have hs30:=Zz hs30 hb33
      refine wp_skip (Zu (wp_seq (wp_block (Zc (Zd hE Za ld rfl fun a hE=>Ze hE Za ld rfl fun a hE=>Zf ?_)))))
      obtain ⟨pb35,ds36,hv37,hx38,hA39,hB40⟩:=Uw hv0_1 -- ^
      obtain ⟨rfl,_⟩:=Tv.1 hx38 -- ^
      obtain ⟨x42,hi41,hs30⟩:=bvx hs30
      obtain ⟨x45,hi44,hs30⟩:=bvx hs30
      obtain ⟨x48,hi47,hs30⟩:=bvx hs30
      obtain ⟨pb50,ds51,hv52,hx53,hA54,hB55⟩:=Uw hv0_1 -- ^
      obtain ⟨rfl,_⟩:=Tv.1 hx53 -- ^
      obtain ⟨x57,hi56,hs30⟩:=bvx hs30
      obtain ⟨x60,hi59,hs30⟩:=bvx hs30
      obtain ⟨x63,hi62,hs30⟩:=bvx hs30
      obtain ⟨pb65,ds66,hv67,hx68,hA69,hB70⟩:=Uw hv0_1 -- ^
      obtain ⟨rfl,_⟩:=Tv.1 hx68 -- ^
      obtain ⟨x72,hi71,hs30⟩:=bvx hs30
      obtain ⟨x75,hi74,hs30⟩:=bvx hs30
      obtain ⟨x78,hi77,hs30⟩:=bvx hs30
      obtain ⟨pb80,ds81,hv82,hx83,hA84,hB85⟩:=Uw hv0_1 -- ^
      obtain ⟨rfl,_⟩:=Tv.1 hx83 -- ^
      obtain ⟨x87,hi86,hs30⟩:=bvx hs30
      obtain ⟨x90,hi89,hs30⟩:=bvx hs30
      obtain ⟨x93,hi92,hs30⟩:=bvx hs30
      obtain ⟨x95,hi97,hs30⟩:=bvx hs30
      refine Yg (n:=79) (hd:=[_,_,_,_,_,_,_,_,_,_,_,_,_,_,_,_,_,_,_,_,_,_,_,_,_,_,_,_,_,_,_,_,_,_,_,_,_,_,_,_]) (tl:=[_]) YN rfl rfl [38,39,40,41,42,43,44,45,46,47,48,49,50,51,52,53,54,55,56,57,58,59,60,61,62,63,64,65,66,67,68,69,70,71,72,73,74,75,76,77] (by decide) (fun w=>M St W w (raw pb1 (enc s29.1) :: its)) (fun j=>([fun v _=>v = (Value.slice (some ⟨pb1,0,none⟩) 16 16),fun v _=>v = (vI s4.2),fun v _=>v = (vI s29.2),fun v _=>v = (vI (wr (s4.2 + s29.2))),fun v _=>v = v0_1,fun v _=>v = (vI s29.2),fun v _=>v = (vB j9.1),fun v _=>v = (ptr pb35 0),fun v _=>v = (ptr pb35 (0 + (s29.2).toNat * 1024)),fun v _=>v = (ptr pb35 (0 + (s29.2).toNat * 1024 + ((0 : Int)).toNat * 256)),fun v _=>v = (ptr pb35 (0 + (s29.2).toNat * 1024 + ((0 : Int)).toNat * 256 + ((bI j9.1)).toNat * 1)),fun v _=>v = (vB x48),fun v _=>v = v0_1,fun v _=>v = (vI s29.2),fun v _=>v = (vB j9.2.1),fun v _=>v = (ptr pb50 0),fun v _=>v = (ptr pb50 (0 + (s29.2).toNat * 1024)),fun v _=>v = (ptr pb50 (0 + (s29.2).toNat * 1024 + ((1 : Int)).toNat * 256)),fun v _=>v = (ptr pb50 (0 + (s29.2).toNat * 1024 + ((1 : Int)).toNat * 256 + ((bI j9.2.1)).toNat * 1)),fun v _=>v = (vB x63),fun v _=>v = (vB (x48 ^^^ x63)),fun v _=>v = v0_1,fun v _=>v = (vI s29.2),fun v _=>v = (vB j9.2.2.1),fun v _=>v = (ptr pb65 0),fun v _=>v = (ptr pb65 (0 + (s29.2).toNat * 1024)),fun v _=>v = (ptr pb65 (0 + (s29.2).toNat * 1024 + ((2 : Int)).toNat * 256)),fun v _=>v = (ptr pb65 (0 + (s29.2).toNat * 1024 + ((2 : Int)).toNat * 256 + ((bI j9.2.2.1)).toNat * 1)),fun v _=>v = (vB x78),fun v _=>v = (vB ((x48 ^^^ x63) ^^^ x78)),fun v _=>v = v0_1,fun v _=>v = (vI s29.2),fun v _=>v = (vB j9.2.2.2),fun v _=>v = (ptr pb80 0),fun v _=>v = (ptr pb80 (0 + (s29.2).toNat * 1024)),fun v _=>v = (ptr pb80 (0 + (s29.2).toNat * 1024 + ((3 : Int)).toNat * 256)),fun v _=>v = (ptr pb80 (0 + (s29.2).toNat * 1024 + ((3 : Int)).toNat * 256 + ((bI j9.2.2.2)).toNat * 1)),fun v _=>v = (vB x93),fun v _=>v = (vB (((x48 ^^^ x63) ^^^ x78) ^^^ x93)),fun v _=>v = (ptr pb1 (0 + ((wr (s4.2 + s29.2))).toNat * 1))] : List (Value → World → Prop)).getD j (fun _ _=>True)) (fun _ _ h hk=>h.keep hk) (gup (Zn (Zn (Zn (Zn (Zn (Zn (Zn (Zn (Zn (Zn (Zn (Zn (Zn (Zn (Zn (Zn (Zn (Zn (Zn (Zn (Zn (Zn (Zn (Zn (Zn (Zn (Zn (Zn (Zn (Zn (Zn (Zn (Zn (Zn (Zn (Zn (Zn (Zn (Zn (Zn Vb))))))))))))))))))))))))))))))))))))))))) hE hM.drew (ZJ (Zb ?_ (Zb ?_ (Zb ?_ (Zb ?_ (Zb ?_ (Zb ?_ (Zb ?_ (Zb ?_ (Zb ?_ (Zb ?_ (Zb ?_ (Zb ?_ (Zb ?_ (Zb ?_ (Zb ?_ (Zb ?_ (Zb ?_ (Zb ?_ (Zb ?_ (Zb ?_ (Zb ?_ (Zb ?_ (Zb ?_ (Zb ?_ (Zb ?_ (Zb ?_ (Zb ?_ (Zb ?_ (Zb ?_ (Zb ?_ (Zb ?_ (Zb ?_ (Zb ?_ (Zb ?_ (Zb ?_ (Zb ?_ (Zb ?_ (Zb ?_ (Zb ?_ (Zb ?_ ZF))))))))))))))))))))))))))))))))))))))))) ?_
      ·exact fun a w ux34 hE hM hp=>Zd hE Za ld rfl fun a hE=>⟨Kept.refl _ _,_,_,rfl,hE,rfl⟩
      ·exact fun a w ux34 hE hM hp=>Zd hE Za ld rfl fun a hE=>⟨Kept.refl _ _,_,_,rfl,hE,rfl⟩
      ·exact fun a w ux34 hE hM hp=>Zd hE Za ld rfl fun a hE=>⟨Kept.refl _ _,_,_,rfl,hE,rfl⟩
      ·intro a w ux34 hE hM hp
       have f1 : ux34 1 = (vI s4.2):=hp 0 _ rfl rfl
       have f2 : ux34 2 = (vI s29.2):=hp 1 _ rfl rfl
       exact Zi hE Za ld (lk rfl f1) (lk rfl f2) rfl fun a hE=>⟨Kept.refl _ _,_,_,rfl,hE,rfl⟩
      ·exact fun a w ux34 hE hM hp=>Zd hE Za ld rfl fun a hE=>⟨Kept.refl _ _,_,_,rfl,hE,rfl⟩
      ·exact fun a w ux34 hE hM hp=>Zd hE Za ld rfl fun a hE=>⟨Kept.refl _ _,_,_,rfl,hE,rfl⟩
      ·exact fun a w ux34 hE hM hp=>Zd hE Za ld rfl fun a hE=>⟨Kept.refl _ _,_,_,rfl,hE,rfl⟩
      ·intro a w ux34 hE hM hp
       have f4 : ux34 4 = v0_1:=hp 0 _ rfl rfl
       exact Xy hE Za ld (lk (lk rfl f4) hv37) fun a hE=>⟨Kept.refl _ _,_,_,rfl,hE,rfl⟩
      ·intro a w ux34 hE hM hp
       have f5 : ux34 5 = (vI s29.2):=hp 1 _ rfl rfl
       have f7 : ux34 7 = (ptr pb35 0):=hp 0 _ rfl rfl
       exact Zk hE Za ld (lk rfl f7) (lk rfl f5) Tryz.underlying207 Ha hi41.1 fun a hE=>⟨Kept.refl _ _,_,_,rfl,hE,rfl⟩
      ·intro a w ux34 hE hM hp
       have f8 : ux34 8 = (ptr pb35 (0 + (s29.2).toNat * 1024)):=hp 0 _ rfl rfl
       exact Zk hE Za ld (lk rfl f8) rfl Tryz.underlying205 ty22 hi44.1 fun a hE=>⟨Kept.refl _ _,_,_,rfl,hE,rfl⟩
      ·intro a w ux34 hE hM hp
       have f6 : ux34 6 = (vB j9.1):=hp 1 _ rfl rfl
       have f9 : ux34 9 = (ptr pb35 (0 + (s29.2).toNat * 1024 + ((0 : Int)).toNat * 256)):=hp 0 _ rfl rfl
       exact Zk hE Za ld (lk rfl f9) (lk rfl f6) Tryz.underlying22 ty5 hi47.1 fun a hE=>⟨Kept.refl _ _,_,_,rfl,hE,rfl⟩
      ·intro a w ux34 hE hM hp
       have f10 : ux34 10 = (ptr pb35 (0 + (s29.2).toNat * 1024 + ((0 : Int)).toNat * 256 + ((bI j9.1)).toNat * 1)):=hp 0 _ rfl rfl
       exact ZA (v:=(vB x48)) hE Za ld (lk rfl f10) ty5 rfl (At.vec (At.vec (At.vec (hM.atk hA39 hB40) hi41.2) hi44.2) hi47.2) fun a hE=>⟨Kept.refl _ _,_,_,rfl,hE,rfl⟩
      ·exact fun a w ux34 hE hM hp=>Zd hE Za ld rfl fun a hE=>⟨Kept.refl _ _,_,_,rfl,hE,rfl⟩
      ·exact fun a w ux34 hE hM hp=>Zd hE Za ld rfl fun a hE=>⟨Kept.refl _ _,_,_,rfl,hE,rfl⟩
      ·exact fun a w ux34 hE hM hp=>Zd hE Za ld rfl fun a hE=>⟨Kept.refl _ _,_,_,rfl,hE,rfl⟩
      ·intro a w ux34 hE hM hp
       have f12 : ux34 12 = v0_1:=hp 0 _ rfl rfl
       exact Xy hE Za ld (lk (lk rfl f12) hv52) fun a hE=>⟨Kept.refl _ _,_,_,rfl,hE,rfl⟩
      ·intro a w ux34 hE hM hp
       have f13 : ux34 13 = (vI s29.2):=hp 1 _ rfl rfl
       have f15 : ux34 15 = (ptr pb50 0):=hp 0 _ rfl rfl
       exact Zk hE Za ld (lk rfl f15) (lk rfl f13) Tryz.underlying207 Ha hi56.1 fun a hE=>⟨Kept.refl _ _,_,_,rfl,hE,rfl⟩
      ·intro a w ux34 hE hM hp
       have f16 : ux34 16 = (ptr pb50 (0 + (s29.2).toNat * 1024)):=hp 0 _ rfl rfl
       exact Zk hE Za ld (lk rfl f16) rfl Tryz.underlying205 ty22 hi59.1 fun a hE=>⟨Kept.refl _ _,_,_,rfl,hE,rfl⟩
      ·intro a w ux34 hE hM hp
       have f14 : ux34 14 = (vB j9.2.1):=hp 1 _ rfl rfl
       have f17 : ux34 17 = (ptr pb50 (0 + (s29.2).toNat * 1024 + ((1 : Int)).toNat * 256)):=hp 0 _ rfl rfl
       exact Zk hE Za ld (lk rfl f17) (lk rfl f14) Tryz.underlying22 ty5 hi62.1 fun a hE=>⟨Kept.refl _ _,_,_,rfl,hE,rfl⟩
      ·intro a w ux34 hE hM hp
       have f18 : ux34 18 = (ptr pb50 (0 + (s29.2).toNat * 1024 + ((1 : Int)).toNat * 256 + ((bI j9.2.1)).toNat * 1)):=hp 0 _ rfl rfl
       exact ZA (v:=(vB x63)) hE Za ld (lk rfl f18) ty5 rfl (At.vec (At.vec (At.vec (hM.atk hA54 hB55) hi56.2) hi59.2) hi62.2) fun a hE=>⟨Kept.refl _ _,_,_,rfl,hE,rfl⟩
      ·intro a w ux34 hE hM hp
       have f11 : ux34 11 = (vB x48):=hp 0 _ rfl rfl
       have f19 : ux34 19 = (vB x63):=hp 1 _ rfl rfl
       exact Zi hE Za ld (lk rfl f11) (lk rfl f19) (VG x48 x63) fun a hE=>⟨Kept.refl _ _,_,_,rfl,hE,rfl⟩
      ·exact fun a w ux34 hE hM hp=>Zd hE Za ld rfl fun a hE=>⟨Kept.refl _ _,_,_,rfl,hE,rfl⟩
      ·exact fun a w ux34 hE hM hp=>Zd hE Za ld rfl fun a hE=>⟨Kept.refl _ _,_,_,rfl,hE,rfl⟩
      ·exact fun a w ux34 hE hM hp=>Zd hE Za ld rfl fun a hE=>⟨Kept.refl _ _,_,_,rfl,hE,rfl⟩
      ·intro a w ux34 hE hM hp
       have f21 : ux34 21 = v0_1:=hp 0 _ rfl rfl
       exact Xy hE Za ld (lk (lk rfl f21) hv67) fun a hE=>⟨Kept.refl _ _,_,_,rfl,hE,rfl⟩
      ·intro a w ux34 hE hM hp
       have f22 : ux34 22 = (vI s29.2):=hp 1 _ rfl rfl
       have f24 : ux34 24 = (ptr pb65 0):=hp 0 _ rfl rfl
       exact Zk hE Za ld (lk rfl f24) (lk rfl f22) Tryz.underlying207 Ha hi71.1 fun a hE=>⟨Kept.refl _ _,_,_,rfl,hE,rfl⟩
      ·intro a w ux34 hE hM hp
       have f25 : ux34 25 = (ptr pb65 (0 + (s29.2).toNat * 1024)):=hp 0 _ rfl rfl
       exact Zk hE Za ld (lk rfl f25) rfl Tryz.underlying205 ty22 hi74.1 fun a hE=>⟨Kept.refl _ _,_,_,rfl,hE,rfl⟩
      ·intro a w ux34 hE hM hp
       have f23 : ux34 23 = (vB j9.2.2.1):=hp 1 _ rfl rfl
       have f26 : ux34 26 = (ptr pb65 (0 + (s29.2).toNat * 1024 + ((2 : Int)).toNat * 256)):=hp 0 _ rfl rfl
       exact Zk hE Za ld (lk rfl f26) (lk rfl f23) Tryz.underlying22 ty5 hi77.1 fun a hE=>⟨Kept.refl _ _,_,_,rfl,hE,rfl⟩
      ·intro a w ux34 hE hM hp
       have f27 : ux34 27 = (ptr pb65 (0 + (s29.2).toNat * 1024 + ((2 : Int)).toNat * 256 + ((bI j9.2.2.1)).toNat * 1)):=hp 0 _ rfl rfl
       exact ZA (v:=(vB x78)) hE Za ld (lk rfl f27) ty5 rfl (At.vec (At.vec (At.vec (hM.atk hA69 hB70) hi71.2) hi74.2) hi77.2) fun a hE=>⟨Kept.refl _ _,_,_,rfl,hE,rfl⟩
      ·intro a w ux34 hE hM hp
       have f20 : ux34 20 = (vB (x48 ^^^ x63)):=hp 0 _ rfl rfl
       have f28 : ux34 28 = (vB x78):=hp 1 _ rfl rfl
       exact Zi hE Za ld (lk rfl f20) (lk rfl f28) (VG (x48 ^^^ x63) x78) fun a hE=>⟨Kept.refl _ _,_,_,rfl,hE,rfl⟩
      ·exact fun a w ux34 hE hM hp=>Zd hE Za ld rfl fun a hE=>⟨Kept.refl _ _,_,_,rfl,hE,rfl⟩
      ·exact fun a w ux34 hE hM hp=>Zd hE Za ld rfl fun a hE=>⟨Kept.refl _ _,_,_,rfl,hE,rfl⟩
      ·exact fun a w ux34 hE hM hp=>Zd hE Za ld rfl fun a hE=>⟨Kept.refl _ _,_,_,rfl,hE,rfl⟩
      ·intro a w ux34 hE hM hp
       have f30 : ux34 30 = v0_1:=hp 0 _ rfl rfl
       exact Xy hE Za ld (lk (lk rfl f30) hv82) fun a hE=>⟨Kept.refl _ _,_,_,rfl,hE,rfl⟩
      ·intro a w ux34 hE hM hp
       have f31 : ux34 31 = (vI s29.2):=hp 1 _ rfl rfl
       have f33 : ux34 33 = (ptr pb80 0):=hp 0 _ rfl rfl
       exact Zk hE Za ld (lk rfl f33) (lk rfl f31) Tryz.underlying207 Ha hi86.1 fun a hE=>⟨Kept.refl _ _,_,_,rfl,hE,rfl⟩
      ·intro a w ux34 hE hM hp
       have f34 : ux34 34 = (ptr pb80 (0 + (s29.2).toNat * 1024)):=hp 0 _ rfl rfl
       exact Zk hE Za ld (lk rfl f34) rfl Tryz.underlying205 ty22 hi89.1 fun a hE=>⟨Kept.refl _ _,_,_,rfl,hE,rfl⟩
      ·intro a w ux34 hE hM hp
       have f32 : ux34 32 = (vB j9.2.2.2):=hp 1 _ rfl rfl
       have f35 : ux34 35 = (ptr pb80 (0 + (s29.2).toNat * 1024 + ((3 : Int)).toNat * 256)):=hp 0 _ rfl rfl
       exact Zk hE Za ld (lk rfl f35) (lk rfl f32) Tryz.underlying22 ty5 hi92.1 fun a hE=>⟨Kept.refl _ _,_,_,rfl,hE,rfl⟩
      ·intro a w ux34 hE hM hp
       have f36 : ux34 36 = (ptr pb80 (0 + (s29.2).toNat * 1024 + ((3 : Int)).toNat * 256 + ((bI j9.2.2.2)).toNat * 1)):=hp 0 _ rfl rfl
       exact ZA (v:=(vB x93)) hE Za ld (lk rfl f36) ty5 rfl (At.vec (At.vec (At.vec (hM.atk hA84 hB85) hi86.2) hi89.2) hi92.2) fun a hE=>⟨Kept.refl _ _,_,_,rfl,hE,rfl⟩
      ·intro a w ux34 hE hM hp
       have f29 : ux34 29 = (vB ((x48 ^^^ x63) ^^^ x78)):=hp 0 _ rfl rfl
       have f37 : ux34 37 = (vB x93):=hp 1 _ rfl rfl
       exact Zi hE Za ld (lk rfl f29) (lk rfl f37) (VG ((x48 ^^^ x63) ^^^ x78) x93) fun a hE=>⟨Kept.refl _ _,_,_,rfl,hE,rfl⟩
      ·intro a w ux34 hE hM hp
       have f0 : ux34 0 = (Value.slice (some ⟨pb1,0,none⟩) 16 16):=hp 0 _ rfl rfl
       have f3 : ux34 3 = (vI (wr (s4.2 + s29.2))):=hp 1 _ rfl rfl
       exact Th hE Za ld (lk rfl f0) (lk rfl f3) Tryz.underlying32 ty5 hi97.1 fun a hE=>⟨Kept.refl _ _,_,_,rfl,hE,rfl⟩
      ·intro a w ux34 hE hM hg
       have hE:=hE.sub (e':=[(76,(vB (((x48 ^^^ x63) ^^^ x78) ^^^ x93))),(77,(ptr pb1 (0 + ((wr (s4.2 + s29.2))).toNat * 1))),(0,v0_1),(1,(Value.slice (some ⟨pb1,0,none⟩) 16 16)),(4,vI s4.2),(5,vB j9.1),(6,vB j9.2.1),(7,vB j9.2.2.1),(8,vB j9.2.2.2),(9,vI s29.2),(35,vI s29.2),(36,(vT (decide (s29.2 < 4)))),(37,vI s29.2)]) ⟨lk rfl (hg 38 (by decide)),lk rfl (hg 39 (by decide)),rfl,rfl,rfl,rfl,rfl,rfl,rfl,rfl,rfl,rfl,rfl,trivial⟩
       refine Zv (seg:=[(vB (((x48 ^^^ x63) ^^^ x78) ^^^ x93))]) (cs':=enc (s29.1.setIfInBounds ((wr (s4.2 + s29.2))).toNat (((x48 ^^^ x63) ^^^ x78) ^^^ x93))) hE hM Za rfl rfl rfl ty5 rfl (ZM (v:=s29.1) (x:=((x48 ^^^ x63) ^^^ x78) ^^^ x93) hi97.1) (Flat.cell (((x48 ^^^ x63) ^^^ x78) ^^^ x93 : UInt8)) (ZD (v:=s29.1) (x:=((x48 ^^^ x63) ^^^ x78) ^^^ x93) hi97.1) fun w a hM hE=>Zj (ZZ (Zu (wp_region_lit (Zi hE Za ld rfl rfl rfl fun a hE=>Zd hE Za ld rfl fun a hE=>Zj (Zl ?_)))))
       exact ⟨_,(ois hs30),hE.sub ⟨rfl,rfl,rfl,rfl,rfl,rfl,rfl,rfl,trivial⟩,hM⟩
     ·intro hb33
      have hs30:=Zy hs30 hb33
      refine wp_exit (Zm (Zm (Z0 ?_)))
      have ht98:=hx31 _ (ois hs30)
      subst ht98
      refine Zl ?_
      exact ⟨hE.sub ⟨rfl,rfl,rfl,trivial⟩,hM⟩
    ·skip
     rintro a w ⟨hE,hM⟩
     refine ZZ (Zu (wp_region_lit (Zd hE Za ld rfl fun a hE=>Zi hE Za ld rfl rfl rfl fun a hE=>Ze hE Za ld rfl fun a hE=>Zj (Zl ?_))))
     exact ⟨_,(ois hF28),hE.sub ⟨rfl,rfl,rfl,trivial⟩,hM⟩
  ·intro hb8
   have hs5:=Zy hs5 hb8
   refine wp_exit (Zm (Zm (Z0 ?_)))
   have ht99:=hx6 _ (ois hs5)
   subst ht99
   refine Zl ?_
   exact ⟨hE.sub ⟨rfl,trivial⟩,hM⟩
 ·skip
  rintro a w ⟨hE,hM⟩
  have hr:=Option.some.inj hF3
  subst hr
  exact jp hE (by rfl) ⟨_,rfl,rfl,hM⟩
def Yd (p0 : (Ref Gengine)) (s18 : (Vector UInt8 16) × Int) (s29 : (Vector UInt8 16) × Int) : Option (Fl ((Vector UInt8 16) × Int) (Vector UInt8 16)) :=
 if (decide (s29.2 < 16)) = true then ((ZI s18.1 s29.2).bind fun x34=>(ZI p0.v.box (bI x34)).bind fun x48=>(ZI s29.1 s29.2).bind fun x51=>some (Fl.nx ((s29.1.setIfInBounds (s29.2).toNat x48),wr (s29.2 + 1)))) else (some (Fl.ex s29.1))
def Yc (p0 : (Ref Gengine)) (p1 : (List (Vector UInt8 16))) (s18 : (Vector UInt8 16) × Int) : Option (Fl ((Vector UInt8 16) × Int) (Vector UInt8 16)) :=
 if (decide (s18.2 < (p1.length : Int))) = true then (((ZE (Yd p0 s18) (s18.1,0)).bind fun j26=>((X4 p0.v.places j26).bind fun r68=>some r68 : Option ((Vector UInt8 16))).bind fun j54=>(if (decide (s18.2 < (wr ((p1.length : Int) - 1)))) = true then ((slc j54.toList (0 : Int) (16 : Int)).bind fun l86=>(W0 p0.v.mixer j54).bind fun r89=>some r89) else (some j54) : Option ((Vector UInt8 16))).bind fun j71=>(idx p1 s18.2).bind fun x94=>(Ye j71 x94).bind fun r97=>some r97 : Option ((Vector UInt8 16))).bind fun j23=>some (Fl.nx (j23,wr (s18.2 + 1)))) else (some (Fl.ex s18.1))
def Yp (p0 : (Ref Gengine)) (p1 : (List (Vector UInt8 16))) (p2 : (Vector UInt8 16)) : Option ((Vector UInt8 16)) :=
 ((idx p1 (0 : Int)).bind fun x9=>(Ye p2 x9).bind fun r12=>some r12 : Option ((Vector UInt8 16))).bind fun j5=>(ZE (Yc p0 p1) (j5,1)).bind fun j15=>some j15
theorem Tz (w0 : World) (p0 : (Ref Gengine)) (v0_1 : Value) (hv0_1 : Ro w0 p0 [v0_1]) (p1 : (List (Vector UInt8 16))) (v1_1 : Value) (hv1_1 : Ro w0 p1 [v1_1]) (p2 : (Vector UInt8 16)) (r : (Vector UInt8 16)) (hF : Yp p0 p1 p2 = some r) :
  Calls Tryz.prog 171 [v0_1,v1_1,(Value.agg (enc p2).toArray)].toArray w0 (fun en w'=>∃ v,en = .returned v ∧ (v = (Value.agg (enc r).toArray) ∧ Kept (Old w0) w0 w')):=by
 refine ZB (n:=59) Tryz.func171 rfl rfl (nbl rfl) rfl ?_
 intro a hE
 have hM:=M.start w0
 unfold Yp at hF
 refine Zc (ZT (cs:=enc p2) hE hM Za ld rfl rfl fun b1 w a hM hE=>ZH hE hM Za ld ZG fun b3 w a hM hE=>Zf ?_)
 obtain ⟨j5,hl6,hF7⟩:=bind_some hF
 refine ZQ (fun a w=>Env 59 a [(0,v0_1),(1,v1_1),(5,(ptr b1 0)),(6,(ptr b3 0))] ∧ M (Old w0) w0 w [raw b3 (enc (Vector.replicate 16 (0 : UInt8))),raw b1 (enc j5)]) ?_ ?_
 ·skip
  obtain ⟨x9,hi11,hl6⟩:=bix hl6
  obtain ⟨r12,e13,hl6⟩:=bind_some hl6
  refine Yg (n:=59) (hd:=[_,_,_,_,_]) (tl:=[_]) YN rfl rfl [10,11,12,13,14] (by decide) (fun w=>M (Old w0) w0 w [raw b3 (enc (Vector.replicate 16 (0 : UInt8))),raw b1 (enc p2)]) (fun j=>([fun v _=>v = (Value.agg (enc p2).toArray),fun v _=>v = v1_1,fun v _=>v = (ptr (sb v1_1) (so v1_1 + ((0 : Int)).toNat * 16)),fun v _=>v = (Value.agg (enc x9).toArray),fun v _=>v = (Value.agg (enc r12).toArray)] : List (Value → World → Prop)).getD j (fun _ _=>True)) (fun _ _ h hk=>h.keep hk) (gup (Zn (Zn (Zn (Zn (Zn Vb)))))) hE hM.drew (ZJ (Zb ?_ (Zb ?_ (Zb ?_ (Zb ?_ (Zb ?_ ZF)))))) ?_
  ·exact fun a w ux8 hE hM hp=>Zo (cs:=enc p2) hE Za ld rfl ZG rfl (hM.rawAt (pre:=[_])) (Flat.len _) fun a hE=>⟨Kept.refl _ _,_,_,rfl,hE,rfl⟩
  ·exact fun a w ux8 hE hM hp=>Zd hE Za ld rfl fun a hE=>⟨Kept.refl _ _,_,_,rfl,hE,rfl⟩
  ·intro a w ux8 hE hM hp
   have f1 : ux8 1 = v1_1:=hp 0 _ rfl rfl
   exact ZK hE Za ld (lk rfl f1) rfl Tryz.underlying33 ZG (hM.rd hv1_1) hi11.1 fun a hE=>⟨Kept.refl _ _,_,_,rfl,hE,rfl⟩
  ·intro a w ux8 hE hM hp
   have f2 : ux8 2 = (ptr (sb v1_1) (so v1_1 + ((0 : Int)).toNat * 16)):=hp 0 _ rfl rfl
   exact Zo (cs:=enc x9) hE Za ld (lk rfl f2) ZG rfl (Xc (hM.rd hv1_1) hi11.2) (Flat.len _) fun a hE=>⟨Kept.refl _ _,_,_,rfl,hE,rfl⟩
  ·intro a w ux8 hE hM hp
   have f0 : ux8 0 = (Value.agg (enc p2).toArray):=hp 0 _ rfl rfl
   have f3 : ux8 3 = (Value.agg (enc x9).toArray):=hp 1 _ rfl rfl
   refine Zw hE Za ld (Z7 (Z2 (lk rfl f0) (Z2 (lk rfl f3) X8))) Bg (XM _ p2 x9 r12 e13) ?_
   rintro v w a ⟨rfl,hK⟩ hE
   exact ⟨hK,_,_,rfl,hE,rfl⟩
  ·intro a w ux8 hE hM hg
   have hE:=hE.sub (e':=[(14,(Value.agg (enc r12).toArray)),(0,v0_1),(1,v1_1),(5,(ptr b1 0)),(6,(ptr b3 0))]) ⟨lk rfl (hg 4 (by decide)),rfl,rfl,rfl,rfl,trivial⟩
   have hM:=hM.pull (pre:=[_])
   refine Zv (seg:=enc r12) (cs':=enc r12) hE hM Za rfl rfl rfl ZG (Flat.len _) (zle flq) (Flat.cell _) (Zr flq) fun w a hM hE=>Zj ?_
   have ht14:=Option.some.inj hl6
   subst ht14
   refine Zl ?_
   have hM:=hM.pull (pre:=[_])
   exact ⟨hE.sub ⟨rfl,rfl,rfl,rfl,trivial⟩,hM⟩
 ·skip
  rintro a w ⟨hE,hM⟩
  refine wp_seq (Zc (Ze hE Za ld rfl fun a hE=>Zf ?_))
  obtain ⟨j15,hl16,hF17⟩:=bind_some hF7
  refine ZL (fun a w=>Env 59 a [(5,(ptr b1 0)),(6,(ptr b3 0))] ∧ M (Old w0) w0 w [raw b3 (enc (Vector.replicate 16 (0 : UInt8))),raw b1 (enc j15)]) ?_ ?_
  ·skip
   refine wp_block ?_
   refine ZC (fun (s18 : (Vector UInt8 16) × Int) a w=>Env 59 a [(0,v0_1),(1,v1_1),(5,(ptr b1 0)),(6,(ptr b3 0)),(7,vI s18.2)] ∧ M (Old w0) w0 w [raw b3 (enc (Vector.replicate 16 (0 : UInt8))),raw b1 (enc s18.1)]) hl16 ⟨hE.sub ⟨rfl,rfl,rfl,rfl,rfl,trivial⟩,hM⟩ ?_
   rintro s18 a w ⟨hE,hM⟩ o21 hs19 hx20
   unfold Yc at hs19
   refine wp_seq (Zc (Zd hE Za ld rfl fun a hE=>Zd hE Za ld rfl fun a hE=>Yf hE Za ld rfl Tryz.underlying33 (hM.rd hv1_1) fun a hE=>Zi hE Za ld rfl rfl rfl fun a hE=>Zf ?_))
   refine Zp hE rfl ?_ ?_
   ·intro hb22
    have hs19:=Zz hs19 hb22
    refine wp_skip (Zu ?_)
    obtain ⟨j23,hl24,hF25⟩:=bind_some hs19
    refine ZQ (fun a w=>Env 59 a [(0,v0_1),(1,v1_1),(5,(ptr b1 0)),(6,(ptr b3 0)),(7,vI s18.2)] ∧ M (Old w0) w0 w [raw b3 (enc (Vector.replicate 16 (0 : UInt8))),raw b1 (enc j23)]) ?_ ?_
    ·skip
     refine wp_block (wp_seq (Zc (Zo (cs:=enc s18.1) hE Za ld rfl ZG rfl (hM.rawAt (pre:=[_])) (Flat.len _) fun a hE=>Zd hE Za ld rfl fun a hE=>Zf ?_)))
     obtain ⟨j26,hl27,hF28⟩:=bind_some hl24
     refine ZL (fun a w=>Env 59 a [(0,v0_1),(1,v1_1),(5,(ptr b1 0)),(6,(ptr b3 0)),(7,vI s18.2)] ∧ M (Old w0) w0 w [raw b3 (enc (Vector.replicate 16 (0 : UInt8))),raw b1 (enc j26)]) ?_ ?_
     ·skip
      refine wp_block ?_
      refine ZC (fun (s29 : (Vector UInt8 16) × Int) a w=>Env 59 a [(0,v0_1),(1,v1_1),(5,(ptr b1 0)),(6,(ptr b3 0)),(7,vI s18.2),(21,(Value.agg (enc s18.1).toArray)),(22,vI s29.2)] ∧ M (Old w0) w0 w [raw b3 (enc (Vector.replicate 16 (0 : UInt8))),raw b1 (enc s29.1)]) hl27 ⟨hE.sub ⟨rfl,rfl,rfl,rfl,rfl,rfl,rfl,trivial⟩,hM⟩ ?_
      rintro s29 a w ⟨hE,hM⟩ o32 hs30 hx31
      unfold Yd at hs30
      refine Zc (Zi hE Za ld rfl rfl rfl fun a hE=>Zf (wp_seq ?_))
      refine Zp hE rfl ?_ ?_
      ·intro hb33
       have hs30:=Zz hs30 hb33
       refine wp_skip (Zu (wp_seq (wp_block (Zc (Zd hE Za ld rfl ?_))))); intro a hE
       obtain ⟨x34,hi36,hs30⟩:=bvx hs30
       refine Qr hE Za ld rfl rfl Tryz.underlying31 ty5 rfl rfl hi36 rfl fun a hE=>Ze hE Za ld rfl fun a hE=>Ze hE Za ld rfl fun a hE=>Zf (wp_region_lit (Zd hE Za ld rfl fun a hE=>Zd hE Za ld rfl fun a hE=>Zd hE Za ld rfl ?_)); intro a hE
       obtain ⟨pb37,ds38,hv39,hx40,hA41,hB42⟩:=Uw hv0_1 -- ^
       obtain ⟨u43,u45,rfl,h44,h46⟩:=U9 hx40 -- ^
       refine Xy hE Za ld (lk rfl hv39) fun a hE=>Zh hE Za ld rfl (BM) ?_; intro a hE
       obtain ⟨x48,hi47,hs30⟩:=bvx hs30
       refine Zk hE Za ld rfl rfl Tryz.underlying23 ty5 hi47.1 fun a hE=>ZA (v:=(vB x48)) hE Za ld rfl ty5 rfl (At.vec (At.cat (pre:=[]) (hM.atk hA41 hB42) cl0) hi47.2) ?_; intro a hE
       obtain ⟨x51,hi50,hs30⟩:=bvx hs30
       refine Zk hE Za ld rfl rfl Tryz.underlying31 ty5 hi50.1 ?_; intro a hE
       have hM:=hM.pull (pre:=[_])
       refine Zv (seg:=[vB x48]) (cs':=enc (s29.1.setIfInBounds (s29.2).toNat x48)) hE hM Za rfl rfl rfl ty5 rfl (ZM (v:=s29.1) (x:=x48) hi50.1) (Flat.cell (x48 : UInt8)) (ZD (v:=s29.1) (x:=x48) hi50.1) fun w a hM hE=>Zj (ZZ (Zu (wp_region_lit (Zi hE Za ld rfl rfl rfl fun a hE=>Zd hE Za ld rfl fun a hE=>Zj (Zl ?_)))))
       have hM:=hM.pull (pre:=[_])
       exact ⟨_,(ois hs30),hE.sub ⟨rfl,rfl,rfl,rfl,rfl,rfl,rfl,trivial⟩,hM⟩
      ·intro hb33
       have hs30:=Zy hs30 hb33
       refine wp_exit (Zm (Zm (Z0 ?_)))
       have ht53:=hx31 _ (ois hs30)
       subst ht53
       refine Zl ?_
       exact ⟨hE.sub ⟨rfl,rfl,rfl,rfl,rfl,trivial⟩,hM⟩
     ·skip
      rintro a w ⟨hE,hM⟩
      refine Zu ?_
      obtain ⟨j54,hl55,hF56⟩:=bind_some hF28
      refine ZQ (fun a w=>Env 59 a [(0,v0_1),(1,v1_1),(5,(ptr b1 0)),(6,(ptr b3 0)),(7,vI s18.2)] ∧ M (Old w0) w0 w [raw b3 (enc (Vector.replicate 16 (0 : UInt8))),raw b1 (enc j54)]) ?_ ?_
      ·skip
       obtain ⟨pb58,ds59,hv60,hx61,hA62,hB63⟩:=Uw hv0_1 -- ^
       obtain ⟨u64,u66,rfl,h65,h67⟩:=U9 hx61 -- ^
       obtain ⟨r68,e69,hl55⟩:=bind_some hl55
       refine Yg (n:=59) (hd:=[_,_,_,_,_,_]) (tl:=[_]) YN rfl rfl [35,36,37,38,39,40] (by decide) (fun w=>M (Old w0) w0 w [raw b3 (enc (Vector.replicate 16 (0 : UInt8))),raw b1 (enc j26)]) (fun j=>([fun v _=>v = v0_1,fun v _=>v = (ptr pb58 0),fun v _=>v = (ptr pb58 (0 + 512)),fun v _=>v = (Value.agg (enc p0.v.places).toArray),fun v _=>v = (Value.agg (enc j26).toArray),fun v _=>v = (Value.agg (enc r68).toArray)] : List (Value → World → Prop)).getD j (fun _ _=>True)) (fun _ _ h hk=>h.keep hk) (gup (Zn (Zn (Zn (Zn (Zn (Zn Vb))))))) hE hM.drew (ZJ (Zb ?_ (Zb ?_ (Zb ?_ (Zb ?_ (Zb ?_ (Zb ?_ ZF))))))) ?_
       ·exact fun a w ux57 hE hM hp=>Zd hE Za ld rfl fun a hE=>⟨Kept.refl _ _,_,_,rfl,hE,rfl⟩
       ·intro a w ux57 hE hM hp
        have f0 : ux57 0 = v0_1:=hp 0 _ rfl rfl
        exact Xy hE Za ld (lk (lk rfl f0) hv60) fun a hE=>⟨Kept.refl _ _,_,_,rfl,hE,rfl⟩
       ·intro a w ux57 hE hM hp
        have f1 : ux57 1 = (ptr pb58 0):=hp 0 _ rfl rfl
        exact Zh hE Za ld (lk rfl f1) (yU) fun a hE=>⟨Kept.refl _ _,_,_,rfl,hE,rfl⟩
       ·intro a w ux57 hE hM hp
        have f2 : ux57 2 = (ptr pb58 (0 + 512)):=hp 0 _ rfl rfl
        exact Zo (cs:=enc p0.v.places) hE Za ld (lk rfl f2) Qg rfl (At.cat (pre:=[enc p0.v.box,enc p0.v.backBox]) (hM.atk hA62 hB63) (cl1 (n:=256) (m:=256) (Flat.len _) (cl1 (n:=256) (m:=0) (Flat.len _) cl0))) (Flat.len _) fun a hE=>⟨Kept.refl _ _,_,_,rfl,hE,rfl⟩
       ·exact fun a w ux57 hE hM hp=>Zo (cs:=enc j26) hE Za ld rfl ZG rfl (hM.rawAt (pre:=[_])) (Flat.len _) fun a hE=>⟨Kept.refl _ _,_,_,rfl,hE,rfl⟩
       ·intro a w ux57 hE hM hp
        have f3 : ux57 3 = (Value.agg (enc p0.v.places).toArray):=hp 0 _ rfl rfl
        have f4 : ux57 4 = (Value.agg (enc j26).toArray):=hp 1 _ rfl rfl
        refine Zw hE Za ld (Z7 (Z2 (lk rfl f3) (Z2 (lk rfl f4) X8))) cb178 (QX _ p0.v.places j26 r68 e69) ?_
        rintro v w a ⟨rfl,hK⟩ hE
        exact ⟨hK,_,_,rfl,hE,rfl⟩
       ·intro a w ux57 hE hM hg
        have hE:=hE.sub (e':=[(40,(Value.agg (enc r68).toArray)),(0,v0_1),(1,v1_1),(5,(ptr b1 0)),(6,(ptr b3 0)),(7,vI s18.2)]) ⟨lk rfl (hg 5 (by decide)),rfl,rfl,rfl,rfl,rfl,trivial⟩
        have hM:=hM.pull (pre:=[_])
        refine Zv (seg:=enc r68) (cs':=enc r68) hE hM Za rfl rfl rfl ZG (Flat.len _) (zle flq) (Flat.cell _) (Zr flq) fun w a hM hE=>Zj ?_
        have ht70:=Option.some.inj hl55
        subst ht70
        refine Zl ?_
        have hM:=hM.pull (pre:=[_])
        exact ⟨hE.sub ⟨rfl,rfl,rfl,rfl,rfl,trivial⟩,hM⟩
      ·skip
       rintro a w ⟨hE,hM⟩
       obtain ⟨j71,hl72,hF73⟩:=bind_some hF56
       refine ZQ (fun a w=>Env 59 a [(0,v0_1),(1,v1_1),(5,(ptr b1 0)),(6,(ptr b3 0)),(7,vI s18.2)] ∧ M (Old w0) w0 w [raw b3 (enc (Vector.replicate 16 (0 : UInt8))),raw b1 (enc j71)]) ?_ ?_
       ·skip
        refine Zc (Zd hE Za ld rfl fun a hE=>Zd hE Za ld rfl fun a hE=>Yf hE Za ld rfl Tryz.underlying33 (hM.rd hv1_1) fun a hE=>Zi hE Za ld rfl rfl rfl fun a hE=>Zi hE Za ld rfl rfl rfl fun a hE=>Zf ?_)
        refine Zp hE rfl ?_ ?_
        ·intro hb74
         have hl72:=Zz hl72 hb74
         obtain ⟨pb76,ds77,hv78,hx79,hA80,hB81⟩:=Uw hv0_1 -- ^
         obtain ⟨u82,u84,rfl,h83,h85⟩:=U9 hx79 -- ^
         obtain ⟨l86,e87,hl72⟩:=bind_some hl72
         have hb88:=TZ e87 -- ^
         refine Yg (n:=59) (hd:=[_,_,_,_,_]) (tl:=[_]) YN rfl rfl [46,47,48,49,50] (by decide) (fun w=>M (Old w0) w0 w [raw b3 (enc (Vector.replicate 16 (0 : UInt8))),raw b1 (enc j54)]) (fun j=>([fun v _=>v = v0_1,fun v _=>v = (ptr pb76 0),fun v _=>v = (ptr pb76 (0 + 544)),fun v _=>v = u82,fun v _=>v = (ZP (.slice (some ⟨b1,0,none⟩) 16 16) ((0 : Int)).toNat ((16 : Int)).toNat 1)] : List (Value → World → Prop)).getD j (fun _ _=>True)) (fun _ _ h hk=>h.keep hk) (gup (Zn (Zn (Zn (Zn (Zn Vb)))))) hE hM.drew (ZJ (Zb ?_ (Zb ?_ (Zb ?_ (Zb ?_ (Zb ?_ ZF)))))) ?_
         ·exact fun a w ux75 hE hM hp=>Zd hE Za ld rfl fun a hE=>⟨Kept.refl _ _,_,_,rfl,hE,rfl⟩
         ·intro a w ux75 hE hM hp
          have f0 : ux75 0 = v0_1:=hp 0 _ rfl rfl
          exact Xy hE Za ld (lk (lk rfl f0) hv78) fun a hE=>⟨Kept.refl _ _,_,_,rfl,hE,rfl⟩
         ·intro a w ux75 hE hM hp
          have f1 : ux75 1 = (ptr pb76 0):=hp 0 _ rfl rfl
          exact Zh hE Za ld (lk rfl f1) (y8) fun a hE=>⟨Kept.refl _ _,_,_,rfl,hE,rfl⟩
         ·intro a w ux75 hE hM hp
          have f2 : ux75 2 = (ptr pb76 (0 + 544)):=hp 0 _ rfl rfl
          exact ZA (v:=u82) hE Za ld (lk rfl f2) yM rfl (At.cat (pre:=[enc p0.v.box,enc p0.v.backBox,enc p0.v.places,enc p0.v.backPlaces]) (hM.atk hA80 hB81) (cl1 (n:=256) (m:=288) (Flat.len _) (cl1 (n:=256) (m:=32) (Flat.len _) (cl1 (n:=16) (m:=16) (Flat.len _) (cl1 (n:=16) (m:=0) (Flat.len _) cl0))))) fun a hE=>⟨Kept.refl _ _,_,_,rfl,hE,rfl⟩
         ·exact fun a w ux75 hE hM hp=>UL (N:=16) hE Za ld rfl rfl rfl rfl rfl Tryz.underlying31 ty5 hb88 fun a hE=>⟨Kept.refl _ _,_,_,rfl,hE,rfl⟩
         ·intro a w ux75 hE hM hg
          have hE:=hE.sub (e':=[(49,u82),(50,(ZP (.slice (some ⟨b1,0,none⟩) 16 16) ((0 : Int)).toNat ((16 : Int)).toNat 1)),(0,v0_1),(1,v1_1),(5,(ptr b1 0)),(6,(ptr b3 0)),(7,vI s18.2),(41,vI s18.2),(42,v1_1),(43,(vI (p1.length : Int))),(44,(vI (wr ((p1.length : Int) - 1)))),(45,(vT (decide (s18.2 < (wr ((p1.length : Int) - 1))))))]) ⟨lk rfl (hg 3 (by decide)),lk rfl (hg 4 (by decide)),rfl,rfl,rfl,rfl,rfl,rfl,rfl,rfl,rfl,rfl,trivial⟩
          have hM:=hM.pull (pre:=[_])
          obtain ⟨r89,e90,hl72⟩:=bind_some hl72
          refine Zw hE Za ld rfl cb179 (K7 _ _ _ _ p0.v.mixer u82 h83 b1 j54 hM r89 e90) ?_
          rintro v w a ⟨rfl,hM⟩ hE
          refine Zj ?_
          have ht91:=Option.some.inj hl72
          subst ht91
          refine Zl ?_
          have hM:=hM.pull (pre:=[_])
          exact ⟨hE.sub ⟨rfl,rfl,rfl,rfl,rfl,trivial⟩,hM⟩
        ·intro hb74
         have hl72:=Zy hl72 hb74
         refine wp_skip ?_
         have ht92:=Option.some.inj hl72
         subst ht92
         refine Zl ?_
         exact ⟨hE.sub ⟨rfl,rfl,rfl,rfl,rfl,trivial⟩,hM⟩
       ·skip
        rintro a w ⟨hE,hM⟩
        obtain ⟨x94,hi96,hF73⟩:=bix hF73
        obtain ⟨r97,e98,hF73⟩:=bind_some hF73
        refine Yg (n:=59) (hd:=[_,_,_,_,_,_]) (tl:=[_]) YN rfl rfl [52,53,54,55,56,57] (by decide) (fun w=>M (Old w0) w0 w [raw b3 (enc (Vector.replicate 16 (0 : UInt8))),raw b1 (enc j71)]) (fun j=>([fun v _=>v = (Value.agg (enc j71).toArray),fun v _=>v = v1_1,fun v _=>v = (vI s18.2),fun v _=>v = (ptr (sb v1_1) (so v1_1 + (s18.2).toNat * 16)),fun v _=>v = (Value.agg (enc x94).toArray),fun v _=>v = (Value.agg (enc r97).toArray)] : List (Value → World → Prop)).getD j (fun _ _=>True)) (fun _ _ h hk=>h.keep hk) (gup (Zn (Zn (Zn (Zn (Zn (Zn Vb))))))) hE hM.drew (ZJ (Zb ?_ (Zb ?_ (Zb ?_ (Zb ?_ (Zb ?_ (Zb ?_ ZF))))))) ?_
        ·exact fun a w ux93 hE hM hp=>Zo (cs:=enc j71) hE Za ld rfl ZG rfl (hM.rawAt (pre:=[_])) (Flat.len _) fun a hE=>⟨Kept.refl _ _,_,_,rfl,hE,rfl⟩
        ·exact fun a w ux93 hE hM hp=>Zd hE Za ld rfl fun a hE=>⟨Kept.refl _ _,_,_,rfl,hE,rfl⟩
        ·exact fun a w ux93 hE hM hp=>Zd hE Za ld rfl fun a hE=>⟨Kept.refl _ _,_,_,rfl,hE,rfl⟩
        ·intro a w ux93 hE hM hp
         have f1 : ux93 1 = v1_1:=hp 0 _ rfl rfl
         have f2 : ux93 2 = (vI s18.2):=hp 1 _ rfl rfl
         exact ZK hE Za ld (lk rfl f1) (lk rfl f2) Tryz.underlying33 ZG (hM.rd hv1_1) hi96.1 fun a hE=>⟨Kept.refl _ _,_,_,rfl,hE,rfl⟩
        ·intro a w ux93 hE hM hp
         have f3 : ux93 3 = (ptr (sb v1_1) (so v1_1 + (s18.2).toNat * 16)):=hp 0 _ rfl rfl
         exact Zo (cs:=enc x94) hE Za ld (lk rfl f3) ZG rfl (Xc (hM.rd hv1_1) hi96.2) (Flat.len _) fun a hE=>⟨Kept.refl _ _,_,_,rfl,hE,rfl⟩
        ·intro a w ux93 hE hM hp
         have f0 : ux93 0 = (Value.agg (enc j71).toArray):=hp 0 _ rfl rfl
         have f4 : ux93 4 = (Value.agg (enc x94).toArray):=hp 1 _ rfl rfl
         refine Zw hE Za ld (Z7 (Z2 (lk rfl f0) (Z2 (lk rfl f4) X8))) Bg (XM _ j71 x94 r97 e98) ?_
         rintro v w a ⟨rfl,hK⟩ hE
         exact ⟨hK,_,_,rfl,hE,rfl⟩
        ·intro a w ux93 hE hM hg
         have hE:=hE.sub (e':=[(57,(Value.agg (enc r97).toArray)),(0,v0_1),(1,v1_1),(5,(ptr b1 0)),(6,(ptr b3 0)),(7,vI s18.2)]) ⟨lk rfl (hg 5 (by decide)),rfl,rfl,rfl,rfl,rfl,trivial⟩
         have hM:=hM.pull (pre:=[_])
         refine Zv (seg:=enc r97) (cs':=enc r97) hE hM Za rfl rfl rfl ZG (Flat.len _) (zle flq) (Flat.cell _) (Zr flq) fun w a hM hE=>Zj (ZZ ?_)
         have ht99:=Option.some.inj hF73
         subst ht99
         refine Zl ?_
         have hM:=hM.pull (pre:=[_])
         exact ⟨hE.sub ⟨rfl,rfl,rfl,rfl,rfl,trivial⟩,hM⟩
    ·skip
     rintro a w ⟨hE,hM⟩
     refine wp_region_lit (Zd hE Za ld rfl fun a hE=>Zi hE Za ld rfl rfl rfl fun a hE=>Ze hE Za ld rfl fun a hE=>Zj (Zl ?_))
     exact ⟨_,(ois hF25),hE.sub ⟨rfl,rfl,rfl,rfl,rfl,trivial⟩,hM⟩
   ·intro hb22
    have hs19:=Zy hs19 hb22
    refine wp_exit (Zm (Zm (Z0 ?_)))
    have ht100:=hx20 _ (ois hs19)
    subst ht100
    refine Zl ?_
    exact ⟨hE.sub ⟨rfl,rfl,trivial⟩,hM⟩
  ·skip
   rintro a w ⟨hE,hM⟩
   refine Zu (Zc (Zo (cs:=enc j15) hE Za ld rfl ZG rfl (hM.rawAt (pre:=[_])) (Flat.len _) fun a hE=>Zv (seg:=enc j15) (cs':=enc j15) hE hM Za rfl rfl rfl ZG (Flat.len _) (zle flq) (Flat.cell _) (Zr flq) fun w a hM hE=>Zf ?_))
   have hr:=Option.some.inj hF17
   subst hr
   have hq101 : Yx Tryz.prog _ _ (.cell 6 31) _:=ZR hE rfl ZG rfl (hM.rawAt (pre:=[])) (Flat.len _) rfl
   have hM:=M.fst (l:=[]) hM
   exact wp_ret (Zt hE rfl hq101 ⟨_,rfl,rfl,hM.kept⟩)
def Yh (p0 : (Ref Gengine)) (p1 : (Vector UInt8 16)) (p2 : (Vector UInt8 16)) : Option ((Vector UInt8 16)) :=
 ((X1 p0 p1 p0.v.rounds).bind fun r21=>(Yp p0 r21 p2).bind fun r24=>some r24 : Option ((Vector UInt8 16))).bind fun j7=>some j7
theorem U5 (w0 : World) (p0 : (Ref Gengine)) (v0_1 : Value) (hv0_1 : Ro w0 p0 [v0_1]) (p1 : (Vector UInt8 16)) (p2 : (Vector UInt8 16)) (r : (Vector UInt8 16)) (hF : Yh p0 p1 p2 = some r) :
  Calls Tryz.prog 164 [v0_1,(Value.agg (enc p1).toArray),(Value.agg (enc p2).toArray)].toArray w0 (fun en w'=>∃ v,en = .returned v ∧ (v = (Value.agg (enc r).toArray) ∧ Kept (Old w0) w0 w')):=by
 refine ZB (n:=17) Tryz.func164 rfl rfl (nbl rfl) rfl ?_
 intro a hE
 have hM:=M.start w0
 unfold Yh at hF
 refine Zc (ZT (cs:=enc p1) hE hM Za ld rfl rfl fun b1 w a hM hE=>ZT (cs:=enc p2) hE hM Za ld rfl rfl fun b3 w a hM hE=>ZH hE hM Za ld ZG fun b5 w a hM hE=>Zf ?_)
 obtain ⟨j7,hl8,hF9⟩:=bind_some hF
 refine ZQ (fun a w=>Env 17 a [(6,(ptr b5 0))] ∧ M (Old w0) w0 w [raw b5 (enc j7)]) ?_ ?_
 ·skip
  obtain ⟨pb11,ds12,hv13,hx14,hA15,hB16⟩:=Uw hv0_1 -- ^
  obtain ⟨u17,u19,rfl,h18,h20⟩:=U9 hx14 -- ^
  obtain ⟨r21,e22,hl8⟩:=bind_some hl8
  refine QF (n:=17) (hd:=[_,_,_,_,_,_,_,_,_]) (tl:=[_,_]) (its:=[raw b5 (enc (Vector.replicate 16 (0 : UInt8))),raw b3 (enc p2),raw b1 (enc p1)]) YN rfl rfl [7,8,9,10,11,12,13,14,15] (by decide) [(7,fun v=>osl NoB (r21 : List (Vector UInt8 16)) v)] rfl (fun j=>([fun v=>v = v0_1,fun v=>v = v0_1,fun v=>v = (Value.agg (enc p1).toArray),fun v=>v = v0_1,fun v=>v = (ptr pb11 0),fun v=>v = (ptr pb11 (0 + 546)),fun v=>v = (vI p0.v.rounds),fun v=>True,fun v=>v = (Value.agg (enc p2).toArray)] : List (Value → Prop)).getD j (fun _=>True)) hE hM.drew (ZJ (Zb ?_ (Zb ?_ (Zb ?_ (Zb ?_ (Zb ?_ (Zb ?_ (Zb ?_ (Zb ?_ (Zb ?_ ZF)))))))))) ?_
  ·intro a w ux10 D hE hM hD hp
   have hM0:=hM
   exact Zd hE Za ld rfl fun a hE=>⟨_,_,rfl,hE,rfl,hM0.optKeep rfl⟩
  ·intro a w ux10 D hE hM hD hp
   have hM0:=hM
   exact Zd hE Za ld rfl fun a hE=>⟨_,_,rfl,hE,rfl,hM0.optKeep rfl⟩
  ·intro a w ux10 D hE hM hD hp
   have hM0:=hM
   have hM : M (Old w0) w0 w [raw b5 (enc (Vector.replicate 16 (0 : UInt8))),raw b3 (enc p2),raw b1 (enc p1),opt (D 7) (osl NoB (r21 : List (Vector UInt8 16)) (ux10 7))]:=hM
   exact Zo (cs:=enc p1) hE Za ld rfl ZG rfl (hM.rawAt (pre:=[_,_])) (Flat.len _) fun a hE=>⟨_,_,rfl,hE,rfl,hM0.optKeep rfl⟩
  ·intro a w ux10 D hE hM hD hp
   have hM0:=hM
   exact Zd hE Za ld rfl fun a hE=>⟨_,_,rfl,hE,rfl,hM0.optKeep rfl⟩
  ·intro a w ux10 D hE hM hD hp
   have f3 : ux10 3 = v0_1:=(hp 0 _ rfl rfl).2
   have hM0:=hM
   exact Xy hE Za ld (lk (lk rfl f3) hv13) fun a hE=>⟨_,_,rfl,hE,rfl,hM0.optKeep rfl⟩
  ·intro a w ux10 D hE hM hD hp
   have f4 : ux10 4 = (ptr pb11 0):=(hp 0 _ rfl rfl).2
   have hM0:=hM
   exact Zh hE Za ld (lk rfl f4) (jf) fun a hE=>⟨_,_,rfl,hE,rfl,hM0.optKeep rfl⟩
  ·intro a w ux10 D hE hM hD hp
   have f5 : ux10 5 = (ptr pb11 (0 + 546)):=(hp 0 _ rfl rfl).2
   have hM0:=hM
   have hM : M (Old w0) w0 w [raw b5 (enc (Vector.replicate 16 (0 : UInt8))),raw b3 (enc p2),raw b1 (enc p1),opt (D 7) (osl NoB (r21 : List (Vector UInt8 16)) (ux10 7))]:=hM
   exact ZA (v:=(vI p0.v.rounds)) hE Za ld (lk rfl f5) ty2 rfl (At.cat (pre:=[enc p0.v.box,enc p0.v.backBox,enc p0.v.places,enc p0.v.backPlaces,[u17],[u19]]) (hM.atk hA15 hB16) (cl1 (n:=256) (m:=290) (Flat.len _) (cl1 (n:=256) (m:=34) (Flat.len _) (cl1 (n:=16) (m:=18) (Flat.len _) (cl1 (n:=16) (m:=2) (Flat.len _) (cl1 (n:=1) (m:=1) rfl (cl1 (n:=1) (m:=0) rfl cl0))))))) fun a hE=>⟨_,_,rfl,hE,rfl,hM0.optKeep rfl⟩
  ·intro a w ux10 D hE hM hD hp
   have f1 : ux10 1 = v0_1:=(hp 0 _ rfl rfl).2
   have f2 : ux10 2 = (Value.agg (enc p1).toArray):=(hp 1 _ rfl rfl).2
   have f6 : ux10 6 = (vI p0.v.rounds):=(hp 2 _ rfl rfl).2
   have hM0:=hM
   have hM : M (Old w0) w0 w [raw b5 (enc (Vector.replicate 16 (0 : UInt8))),raw b3 (enc p2),raw b1 (enc p1),opt (D 7) (osl NoB (r21 : List (Vector UInt8 16)) (ux10 7))]:=hM
   refine Zw hE Za ld (Z7 (Z2 (lk rfl f1) (Z2 (lk rfl f2) (Z2 (lk rfl f6) X8)))) cb172 (Q8 _ p0 v0_1 (hM.rdo hv0_1) p1 p0.v.rounds r21 e22) ?_
   rintro _ w a ⟨_,rfl,hFr,hK⟩ hE
   have hM:=hM0.add hK hFr
   exact ⟨_,_,rfl,hE,trivial,M.optFill (mk1:=[]) (mk2:=[]) (f:=(fun v=>osl NoB (r21 : List (Vector UInt8 16)) v)) hM rfl hD⟩
  ·intro a w ux10 D hE hM hD hp
   have hM0:=hM
   have hM : M (Old w0) w0 w [raw b5 (enc (Vector.replicate 16 (0 : UInt8))),raw b3 (enc p2),raw b1 (enc p1),opt (D 7) (osl NoB (r21 : List (Vector UInt8 16)) (ux10 7))]:=hM
   exact Zo (cs:=enc p2) hE Za ld rfl ZG rfl (hM.rawAt (pre:=[_])) (Flat.len _) fun a hE=>⟨_,_,rfl,hE,rfl,hM0.optKeep rfl⟩
  ·intro a w ux10 hE hM hg
   have hM : M (Old w0) w0 w [raw b5 (enc (Vector.replicate 16 (0 : UInt8))),raw b3 (enc p2),raw b1 (enc p1),osl NoB (r21 : List (Vector UInt8 16)) (ux10 7)]:=hM
   have hE:=hE.sub (e':=[(7,v0_1),(14,(ux10 7)),(15,(Value.agg (enc p2).toArray)),(6,(ptr b5 0))]) ⟨lk rfl (hg 0 (by decide)),rfl,lk rfl (hg 8 (by decide)),rfl,trivial⟩
   obtain ⟨r24,e25,hl8⟩:=bind_some hl8
   refine Zw hE Za ld rfl cb171 (Tz _ p0 v0_1 (hM.rdo hv0_1) r21 (ux10 7) (hM.sl (pre:=[_,_,_]) noB) p2 r24 e25) ?_
   rintro v w a ⟨rfl,hK⟩ hE
   have hM:=hM.keep hK
   refine Zv (seg:=enc r24) (cs':=enc r24) hE hM Za rfl rfl rfl ZG (Flat.len _) (zle flq) (Flat.cell _) (Zr flq) fun w a hM hE=>Zj ?_
   have ht26:=Option.some.inj hl8
   subst ht26
   refine Zl ?_
   have hM:=M.fst (l:=[_]) hM
   exact ⟨hE.sub ⟨rfl,trivial⟩,hM⟩
 ·skip
  rintro a w ⟨hE,hM⟩
  have hr:=Option.some.inj hF9
  subst hr
  have hq27 : Yx Tryz.prog _ _ (.cell 6 31) _:=ZR hE rfl ZG rfl (hM.rawAt (pre:=[])) (Flat.len _) rfl
  have hM:=M.fst (l:=[]) hM
  exact wp_ret (Zt hE rfl hq27 ⟨_,rfl,rfl,hM.kept⟩)
def YI (p0 : (Ref Gengine)) (p1 : (Vector UInt8 32)) (p2 : (Vector UInt8 16)) : Option ((Vector UInt8 32)) :=
 (slc p1.toList (0 : Int) (16 : Int)).bind fun l8=>(Tu 16 l8).bind fun x11=>(slc p1.toList (16 : Int) (32 : Int)).bind fun l13=>(Tu 16 l13).bind fun x16=>(Ye x11 p2).bind fun r26=>((Yh p0 x16 r26).bind fun r34=>(Ye r34 r26).bind fun r36=>some r36 : Option ((Vector UInt8 16))).bind fun j30=>(Ye x16 p2).bind fun r39=>((Yh p0 j30 r39).bind fun r47=>(Ye r47 r39).bind fun r49=>some r49 : Option ((Vector UInt8 16))).bind fun j43=>((slc j30.toList (0 : Int) (16 : Int)).bind fun l56=>(slc j43.toList (0 : Int) (16 : Int)).bind fun l59=>(ZY ([l56,l59] : (List (List UInt8)))).bind fun r64=>(Tu 32 r64).bind fun x67=>some x67 : Option ((Vector UInt8 32))).bind fun j52=>some j52
theorem Qq (w0 : World) (p0 : (Ref Gengine)) (v0_1 : Value) (hv0_1 : Ro w0 p0 [v0_1]) (p1 : (Vector UInt8 32)) (p2 : (Vector UInt8 16)) (r : (Vector UInt8 32)) (hF : YI p0 p1 p2 = some r) :
  Calls Tryz.prog 145 [v0_1,(Value.agg (enc p1).toArray),(Value.agg (enc p2).toArray)].toArray w0 (fun en w'=>∃ v,en = .returned v ∧ (v = (Value.agg (enc r).toArray) ∧ Kept (Old w0) w0 w')):=by
 refine ZB (n:=41) Tryz.func145 rfl rfl (nbl rfl) rfl ?_
 intro a hE
 have hM:=M.start w0
 unfold YI at hF
 refine Zc (ZT (cs:=enc p1) hE hM Za ld rfl rfl fun b1 w a hM hE=>ZT (cs:=enc p2) hE hM Za ld rfl rfl fun b3 w a hM hE=>ZH hE hM Za ld Yi fun b5 w a hM hE=>Zf (wp_seq ?_))
 obtain ⟨l8,e9,hF⟩:=bind_some hF
 have hb10:=TZ e9 -- ^
 obtain ⟨x11,e12,hF⟩:=bind_some hF
 obtain ⟨l13,e14,hF⟩:=bind_some hF
 have hb15:=TZ e14 -- ^
 obtain ⟨x16,e17,hF⟩:=bind_some hF
 refine Te (n:=41) (hd:=[_,_,_,_,_,_,_,_]) (tl:=[_,_]) YN rfl rfl [11,12,13,14,15,16,7,8] (by decide) (fun D u w=>M (Old w0) w0 w ([raw b5 (enc (Vector.replicate 32 (0 : UInt8))),raw b3 (enc p2),raw b1 (enc p1)] ++ qL ([mkO 6 (fun v=>UV v (enc (Vector.replicate 16 (0 : UInt8)))),mkO 7 (fun v=>UV v (enc (Vector.replicate 16 (0 : UInt8))))] : Mk) D u) ∧ GOk ([([],fun us v=>v = (ZP (.slice (some ⟨b1,0,none⟩) 32 32) ((0 : Int)).toNat ((16 : Int)).toNat 1)),([],fun us v=>v = (ptr (sb (ZP (.slice (some ⟨b1,0,none⟩) 32 32) ((0 : Int)).toNat ((16 : Int)).toNat 1)) (so (ZP (.slice (some ⟨b1,0,none⟩) 32 32) ((0 : Int)).toNat ((16 : Int)).toNat 1)))),([],fun us v=>v = (Value.agg (enc x11).toArray)),([],fun us v=>v = (ZP (.slice (some ⟨b1,0,none⟩) 32 32) ((16 : Int)).toNat ((32 : Int)).toNat 1)),([],fun us v=>v = (ptr (sb (ZP (.slice (some ⟨b1,0,none⟩) 32 32) ((16 : Int)).toNat ((32 : Int)).toNat 1)) (so (ZP (.slice (some ⟨b1,0,none⟩) 32 32) ((16 : Int)).toNat ((32 : Int)).toNat 1)))),([],fun us v=>v = (Value.agg (enc x16).toArray)),([],fun us v=>True),([],fun us v=>True)] : Gs) D u) hE (fun u=>⟨M.qE (M.qE (M.q0 hM.drew u) emO) emO,HU⟩) (ZJ (Zb ?_ (Zb ?_ (Zb ?_ (Zb ?_ (Zb ?_ (Zb ?_ (Zb ?_ (Zb ?_ ZF))))))))) ?_
 ·intro a w ux7 D hE hI hD hdc hp
  have hM0:=hI.1
  exact UL (N:=32) hE Za ld rfl rfl rfl rfl rfl Tryz.underlying37 ty5 hb10 fun a hE=>⟨_,_,rfl,hE,M.qKeep hM0 rfl,hI.2.put hD rfl Z4 rfl⟩
 ·intro a w ux7 D hE hI hD hdc hp
  have d0 : D 0 = true:=hp 0 _ rfl rfl
  have g0:=hI.2 0 d0 _ rfl
  have f0 : ux7 0 = (ZP (.slice (some ⟨b1,0,none⟩) 32 32) ((0 : Int)).toNat ((16 : Int)).toNat 1):=g0.2
  have hM0:=hI.1
  have hM:=hI.1
  exact JR hE Za ld (lk rfl f0) Tryz.underlying31 (W2 (At.sat (hM.rawAt (pre:=[_,_])) (by simp) (by decide)) e9) (Tw e12).1 (by decide) fun a hE=>⟨_,_,rfl,hE,M.qKeep hM0 rfl,hI.2.put hD rfl Z4 rfl⟩
 ·intro a w ux7 D hE hI hD hdc hp
  have d1 : D 1 = true:=hp 0 _ rfl rfl
  have g1:=hI.2 1 d1 _ rfl
  have f1 : ux7 1 = (ptr (sb (ZP (.slice (some ⟨b1,0,none⟩) 32 32) ((0 : Int)).toNat ((16 : Int)).toNat 1)) (so (ZP (.slice (some ⟨b1,0,none⟩) 32 32) ((0 : Int)).toNat ((16 : Int)).toNat 1))):=g1.2
  have hM0:=hI.1
  have hM:=hI.1
  exact Zo (cs:=enc x11) hE Za ld (lk rfl f1) ZG rfl (BC (W2 (At.sat (hM.rawAt (pre:=[_,_])) (by simp) (by decide)) e9) e12 (by decide)) (Flat.len _) fun a hE=>⟨_,_,rfl,hE,M.qKeep hM0 rfl,hI.2.put hD rfl Z4 rfl⟩
 ·intro a w ux7 D hE hI hD hdc hp
  have hM0:=hI.1
  exact UL (N:=32) hE Za ld rfl rfl rfl rfl rfl Tryz.underlying37 ty5 hb15 fun a hE=>⟨_,_,rfl,hE,M.qKeep hM0 rfl,hI.2.put hD rfl Z4 rfl⟩
 ·intro a w ux7 D hE hI hD hdc hp
  have d3 : D 3 = true:=hp 0 _ rfl rfl
  have g3:=hI.2 3 d3 _ rfl
  have f3 : ux7 3 = (ZP (.slice (some ⟨b1,0,none⟩) 32 32) ((16 : Int)).toNat ((32 : Int)).toNat 1):=g3.2
  have hM0:=hI.1
  have hM:=hI.1
  exact JR hE Za ld (lk rfl f3) Tryz.underlying31 (W2 (At.sat (hM.rawAt (pre:=[_,_])) (by simp) (by decide)) e14) (Tw e17).1 (by decide) fun a hE=>⟨_,_,rfl,hE,M.qKeep hM0 rfl,hI.2.put hD rfl Z4 rfl⟩
 ·intro a w ux7 D hE hI hD hdc hp
  have d4 : D 4 = true:=hp 0 _ rfl rfl
  have g4:=hI.2 4 d4 _ rfl
  have f4 : ux7 4 = (ptr (sb (ZP (.slice (some ⟨b1,0,none⟩) 32 32) ((16 : Int)).toNat ((32 : Int)).toNat 1)) (so (ZP (.slice (some ⟨b1,0,none⟩) 32 32) ((16 : Int)).toNat ((32 : Int)).toNat 1))):=g4.2
  have hM0:=hI.1
  have hM:=hI.1
  exact Zo (cs:=enc x16) hE Za ld (lk rfl f4) ZG rfl (BC (W2 (At.sat (hM.rawAt (pre:=[_,_])) (by simp) (by decide)) e14) e17 (by decide)) (Flat.len _) fun a hE=>⟨_,_,rfl,hE,M.qKeep hM0 rfl,hI.2.put hD rfl Z4 rfl⟩
 ·intro a w ux7 D hE hI hD hdc hp
  have hM0:=hI.1
  have hM:=hI.1
  refine ZH hE hM Za ld ZG ?_; intro b18 w a hM hE
  have hM:=hM.pack1 (it:=UV _ (enc (Vector.replicate 16 (0 : UInt8)))) (fun w w' fp ⟨b',e,k⟩ hb=>⟨b',e,X7 w w' fp k hb⟩) (fun fp k=>⟨_,rfl,k⟩)
  exact ⟨_,_,rfl,hE,M.qFill (mk1:=[]) (mk2:=[_]) (f:=fun v=>UV v (enc (Vector.replicate 16 (0 : UInt8)))) hM rfl hD,hI.2.put hD rfl Z4 trivial⟩
 ·intro a w ux7 D hE hI hD hdc hp
  have hM0:=hI.1
  have hM:=hI.1
  refine ZH hE hM Za ld ZG ?_; intro b20 w a hM hE
  have hM:=hM.pack1 (it:=UV _ (enc (Vector.replicate 16 (0 : UInt8)))) (fun w w' fp ⟨b',e,k⟩ hb=>⟨b',e,X7 w w' fp k hb⟩) (fun fp k=>⟨_,rfl,k⟩)
  exact ⟨_,_,rfl,hE,M.qFill (mk1:=[_]) (mk2:=[]) (f:=fun v=>UV v (enc (Vector.replicate 16 (0 : UInt8)))) hM rfl hD,hI.2.put hD rfl Z4 trivial⟩
 ·intro a w ux7 D hE hI hall
  have hM : M (Old w0) w0 w [raw b5 (enc (Vector.replicate 32 (0 : UInt8))),raw b3 (enc p2),raw b1 (enc p1),opt (D 6) (UV (ux7 6) (enc (Vector.replicate 16 (0 : UInt8)))),opt (D 7) (UV (ux7 7) (enc (Vector.replicate 16 (0 : UInt8))))]:=hI.1
  have d0 : D 0 = true:=hall 0 (by decide)
  have d1 : D 1 = true:=hall 1 (by decide)
  have d2 : D 2 = true:=hall 2 (by decide)
  have d3 : D 3 = true:=hall 3 (by decide)
  have d4 : D 4 = true:=hall 4 (by decide)
  have d5 : D 5 = true:=hall 5 (by decide)
  have d6 : D 6 = true:=hall 6 (by decide)
  have d7 : D 7 = true:=hall 7 (by decide)
  have f0 : ux7 0 = (ZP (.slice (some ⟨b1,0,none⟩) 32 32) ((0 : Int)).toNat ((16 : Int)).toNat 1):=(hI.2 0 d0 _ rfl).2
  have f1 : ux7 1 = (ptr (sb (ZP (.slice (some ⟨b1,0,none⟩) 32 32) ((0 : Int)).toNat ((16 : Int)).toNat 1)) (so (ZP (.slice (some ⟨b1,0,none⟩) 32 32) ((0 : Int)).toNat ((16 : Int)).toNat 1))):=(hI.2 1 d1 _ rfl).2
  have f2 : ux7 2 = (Value.agg (enc x11).toArray):=(hI.2 2 d2 _ rfl).2
  have f3 : ux7 3 = (ZP (.slice (some ⟨b1,0,none⟩) 32 32) ((16 : Int)).toNat ((32 : Int)).toNat 1):=(hI.2 3 d3 _ rfl).2
  have f4 : ux7 4 = (ptr (sb (ZP (.slice (some ⟨b1,0,none⟩) 32 32) ((16 : Int)).toNat ((32 : Int)).toNat 1)) (so (ZP (.slice (some ⟨b1,0,none⟩) 32 32) ((16 : Int)).toNat ((32 : Int)).toNat 1))):=(hI.2 4 d4 _ rfl).2
  have f5 : ux7 5 = (Value.agg (enc x16).toArray):=(hI.2 5 d5 _ rfl).2
  have hM:=(hM.sure (pre:=[_,_,_]) d6).pull
  obtain ⟨_,⟨b22,f23,_⟩,_⟩:=hM.head
  have hM:=((hM.pack1 X7 (it:=raw b22 (enc (Vector.replicate 16 (0 : UInt8)))) (fun fp ⟨b2,e2,k2⟩=>by rw [f23] at e2; simp [ptr] at e2; subst e2; exact k2)).sure (pre:=[_,_,_,_]) d7).pull
  obtain ⟨_,⟨b24,f25,_⟩,_⟩:=hM.head
  have hM:=hM.pack1 X7 (it:=raw b24 (enc (Vector.replicate 16 (0 : UInt8)))) (fun fp ⟨b2,e2,k2⟩=>by rw [f25] at e2; simp [ptr] at e2; subst e2; exact k2)
  have hE:=hE.sub (e':=[(13,(Value.agg (enc x11).toArray)),(16,(Value.agg (enc x16).toArray)),(7,(ptr b22 0)),(8,(ptr b24 0)),(0,v0_1),(5,(ptr b3 0)),(6,(ptr b5 0))]) ⟨lk rfl f2,lk rfl f5,lk rfl f23,lk rfl f25,rfl,rfl,rfl,trivial⟩
  have hM:=hM.pull (pre:=[_])
  refine Zv (seg:=enc x11) (cs':=enc x11) hE hM Za rfl rfl rfl ZG (Flat.len _) (zle flq) (Flat.cell _) (Zr flq) ?_; intro w a hM hE
  have hM:=hM.pull (pre:=[_])
  refine Zv (seg:=enc x16) (cs':=enc x16) hE hM Za rfl rfl rfl ZG (Flat.len _) (zle flq) (Flat.cell _) (Zr flq) fun w a hM hE=>Zj (Zu (Zc (Zo (cs:=enc x11) hE Za ld rfl ZG rfl (hM.rawAt (pre:=[_])) (Flat.len _) fun a hE=>Zo (cs:=enc p2) hE Za ld rfl ZG rfl (hM.rawAt (pre:=[_,_,_])) (Flat.len _) ?_))); intro a hE
  obtain ⟨r26,e27,hF⟩:=bind_some hF
  refine Zw hE Za ld rfl Bg (XM _ x11 p2 r26 e27) ?_
  rintro v w a ⟨rfl,hK⟩ hE
  have hM:=hM.keep hK
  refine ZH hE hM Za ld ZG fun b28 w a hM hE=>Zv (seg:=enc r26) (cs':=enc r26) hE hM Za rfl rfl rfl ZG (Flat.len _) (zle flq) (Flat.cell _) (Zr flq) fun w a hM hE=>Zf ?_
  obtain ⟨j30,hl31,hF32⟩:=bind_some hF
  refine ZQ (fun a w=>Env 41 a [(0,v0_1),(5,(ptr b3 0)),(6,(ptr b5 0)),(7,(ptr b22 0)),(8,(ptr b24 0))] ∧ M (Old w0) w0 w [raw b24 (enc x16),raw b22 (enc j30),raw b5 (enc (Vector.replicate 32 (0 : UInt8))),raw b3 (enc p2)]) ?_ ?_
  ·skip
   obtain ⟨r34,e35,hl31⟩:=bind_some hl31
   obtain ⟨r36,e37,hl31⟩:=bind_some hl31
   refine Yg (n:=41) (hd:=[_,_,_,_,_,_]) (tl:=[_]) YN rfl rfl [20,21,22,23,24,25] (by decide) (fun w=>M (Old w0) w0 w [raw b28 (enc r26),raw b24 (enc x16),raw b22 (enc x11),raw b5 (enc (Vector.replicate 32 (0 : UInt8))),raw b3 (enc p2),raw b1 (enc p1)]) (fun j=>([fun v _=>v = v0_1,fun v _=>v = (Value.agg (enc x16).toArray),fun v _=>v = (Value.agg (enc r26).toArray),fun v _=>v = (Value.agg (enc r34).toArray),fun v _=>v = (Value.agg (enc r26).toArray),fun v _=>v = (Value.agg (enc r36).toArray)] : List (Value → World → Prop)).getD j (fun _ _=>True)) (fun _ _ h hk=>h.keep hk) (gup (Zn (Zn (Zn (Zn (Zn (Zn Vb))))))) hE hM.drew (ZJ (Zb ?_ (Zb ?_ (Zb ?_ (Zb ?_ (Zb ?_ (Zb ?_ ZF))))))) ?_
   ·exact fun a w ux33 hE hM hp=>Zd hE Za ld rfl fun a hE=>⟨Kept.refl _ _,_,_,rfl,hE,rfl⟩
   ·exact fun a w ux33 hE hM hp=>Zo (cs:=enc x16) hE Za ld rfl ZG rfl (hM.rawAt (pre:=[_])) (Flat.len _) fun a hE=>⟨Kept.refl _ _,_,_,rfl,hE,rfl⟩
   ·exact fun a w ux33 hE hM hp=>Zo (cs:=enc r26) hE Za ld rfl ZG rfl (hM.rawAt (pre:=[])) (Flat.len _) fun a hE=>⟨Kept.refl _ _,_,_,rfl,hE,rfl⟩
   ·intro a w ux33 hE hM hp
    have f0 : ux33 0 = v0_1:=hp 0 _ rfl rfl
    have f1 : ux33 1 = (Value.agg (enc x16).toArray):=hp 1 _ rfl rfl
    have f2 : ux33 2 = (Value.agg (enc r26).toArray):=hp 2 _ rfl rfl
    refine Zw hE Za ld (Z7 (Z2 (lk rfl f0) (Z2 (lk rfl f1) (Z2 (lk rfl f2) X8)))) cb164 (U5 _ p0 v0_1 (hM.rdo hv0_1) x16 r26 r34 e35) ?_
    rintro v w a ⟨rfl,hK⟩ hE
    exact ⟨hK,_,_,rfl,hE,rfl⟩
   ·exact fun a w ux33 hE hM hp=>Zo (cs:=enc r26) hE Za ld rfl ZG rfl (hM.rawAt (pre:=[])) (Flat.len _) fun a hE=>⟨Kept.refl _ _,_,_,rfl,hE,rfl⟩
   ·intro a w ux33 hE hM hp
    have f3 : ux33 3 = (Value.agg (enc r34).toArray):=hp 0 _ rfl rfl
    have f4 : ux33 4 = (Value.agg (enc r26).toArray):=hp 1 _ rfl rfl
    refine Zw hE Za ld (Z7 (Z2 (lk rfl f3) (Z2 (lk rfl f4) X8))) Bg (XM _ r34 r26 r36 e37) ?_
    rintro v w a ⟨rfl,hK⟩ hE
    exact ⟨hK,_,_,rfl,hE,rfl⟩
   ·intro a w ux33 hE hM hg
    have hE:=hE.sub (e':=[(25,(Value.agg (enc r36).toArray)),(0,v0_1),(5,(ptr b3 0)),(6,(ptr b5 0)),(7,(ptr b22 0)),(8,(ptr b24 0))]) ⟨lk rfl (hg 5 (by decide)),rfl,rfl,rfl,rfl,rfl,trivial⟩
    have hM:=hM.pull (pre:=[_,_])
    refine Zv (seg:=enc r36) (cs':=enc r36) hE hM Za rfl rfl rfl ZG (Flat.len _) (zle flq) (Flat.cell _) (Zr flq) fun w a hM hE=>Zj ?_
    have ht38:=Option.some.inj hl31
    subst ht38
    refine Zl ?_
    have hM:=M.fst (l:=[_,_,_,_]) ((((hM.pull (pre:=[_,_,_,_])).pull (pre:=[_,_,_,_])).pull (pre:=[_,_])).pull (pre:=[_,_,_,_]))
    exact ⟨hE.sub ⟨rfl,rfl,rfl,rfl,rfl,trivial⟩,hM⟩
  ·skip
   rintro a w ⟨hE,hM⟩
   refine Zc (Zo (cs:=enc x16) hE Za ld rfl ZG rfl (hM.rawAt (pre:=[])) (Flat.len _) fun a hE=>Zo (cs:=enc p2) hE Za ld rfl ZG rfl (hM.rawAt (pre:=[_,_,_])) (Flat.len _) ?_); intro a hE
   obtain ⟨r39,e40,hF32⟩:=bind_some hF32
   refine Zw hE Za ld rfl Bg (XM _ x16 p2 r39 e40) ?_
   rintro v w a ⟨rfl,hK⟩ hE
   have hM:=hM.keep hK
   refine ZH hE hM Za ld ZG fun b41 w a hM hE=>Zv (seg:=enc r39) (cs':=enc r39) hE hM Za rfl rfl rfl ZG (Flat.len _) (zle flq) (Flat.cell _) (Zr flq) fun w a hM hE=>Zf ?_
   obtain ⟨j43,hl44,hF45⟩:=bind_some hF32
   refine ZQ (fun a w=>Env 41 a [(6,(ptr b5 0)),(7,(ptr b22 0)),(8,(ptr b24 0))] ∧ M (Old w0) w0 w [raw b24 (enc j43),raw b22 (enc j30),raw b5 (enc (Vector.replicate 32 (0 : UInt8)))]) ?_ ?_
   ·skip
    obtain ⟨r47,e48,hl44⟩:=bind_some hl44
    obtain ⟨r49,e50,hl44⟩:=bind_some hl44
    refine Yg (n:=41) (hd:=[_,_,_,_,_,_]) (tl:=[_]) YN rfl rfl [29,30,31,32,33,34] (by decide) (fun w=>M (Old w0) w0 w [raw b41 (enc r39),raw b24 (enc x16),raw b22 (enc j30),raw b5 (enc (Vector.replicate 32 (0 : UInt8))),raw b3 (enc p2)]) (fun j=>([fun v _=>v = v0_1,fun v _=>v = (Value.agg (enc j30).toArray),fun v _=>v = (Value.agg (enc r39).toArray),fun v _=>v = (Value.agg (enc r47).toArray),fun v _=>v = (Value.agg (enc r39).toArray),fun v _=>v = (Value.agg (enc r49).toArray)] : List (Value → World → Prop)).getD j (fun _ _=>True)) (fun _ _ h hk=>h.keep hk) (gup (Zn (Zn (Zn (Zn (Zn (Zn Vb))))))) hE hM.drew (ZJ (Zb ?_ (Zb ?_ (Zb ?_ (Zb ?_ (Zb ?_ (Zb ?_ ZF))))))) ?_
    ·exact fun a w ux46 hE hM hp=>Zd hE Za ld rfl fun a hE=>⟨Kept.refl _ _,_,_,rfl,hE,rfl⟩
    ·exact fun a w ux46 hE hM hp=>Zo (cs:=enc j30) hE Za ld rfl ZG rfl (hM.rawAt (pre:=[_,_])) (Flat.len _) fun a hE=>⟨Kept.refl _ _,_,_,rfl,hE,rfl⟩
    ·exact fun a w ux46 hE hM hp=>Zo (cs:=enc r39) hE Za ld rfl ZG rfl (hM.rawAt (pre:=[])) (Flat.len _) fun a hE=>⟨Kept.refl _ _,_,_,rfl,hE,rfl⟩
    ·intro a w ux46 hE hM hp
     have f0 : ux46 0 = v0_1:=hp 0 _ rfl rfl
     have f1 : ux46 1 = (Value.agg (enc j30).toArray):=hp 1 _ rfl rfl
     have f2 : ux46 2 = (Value.agg (enc r39).toArray):=hp 2 _ rfl rfl
     refine Zw hE Za ld (Z7 (Z2 (lk rfl f0) (Z2 (lk rfl f1) (Z2 (lk rfl f2) X8)))) cb164 (U5 _ p0 v0_1 (hM.rdo hv0_1) j30 r39 r47 e48) ?_
     rintro v w a ⟨rfl,hK⟩ hE
     exact ⟨hK,_,_,rfl,hE,rfl⟩
    ·exact fun a w ux46 hE hM hp=>Zo (cs:=enc r39) hE Za ld rfl ZG rfl (hM.rawAt (pre:=[])) (Flat.len _) fun a hE=>⟨Kept.refl _ _,_,_,rfl,hE,rfl⟩
    ·intro a w ux46 hE hM hp
     have f3 : ux46 3 = (Value.agg (enc r47).toArray):=hp 0 _ rfl rfl
     have f4 : ux46 4 = (Value.agg (enc r39).toArray):=hp 1 _ rfl rfl
     refine Zw hE Za ld (Z7 (Z2 (lk rfl f3) (Z2 (lk rfl f4) X8))) Bg (XM _ r47 r39 r49 e50) ?_
     rintro v w a ⟨rfl,hK⟩ hE
     exact ⟨hK,_,_,rfl,hE,rfl⟩
    ·intro a w ux46 hE hM hg
     have hE:=hE.sub (e':=[(34,(Value.agg (enc r49).toArray)),(6,(ptr b5 0)),(7,(ptr b22 0)),(8,(ptr b24 0))]) ⟨lk rfl (hg 5 (by decide)),rfl,rfl,rfl,trivial⟩
     have hM:=hM.pull (pre:=[_])
     refine Zv (seg:=enc r49) (cs':=enc r49) hE hM Za rfl rfl rfl ZG (Flat.len _) (zle flq) (Flat.cell _) (Zr flq) fun w a hM hE=>Zj ?_
     have ht51:=Option.some.inj hl44
     subst ht51
     refine Zl ?_
     have hM:=M.fst (l:=[_,_,_]) (((hM.pull (pre:=[_,_,_])).pull (pre:=[_,_,_])).pull (pre:=[_,_]))
     exact ⟨hE.sub ⟨rfl,rfl,rfl,trivial⟩,hM⟩
   ·skip
    rintro a w ⟨hE,hM⟩
    obtain ⟨j52,hl53,hF54⟩:=bind_some hF45
    refine ZQ (fun a w=>Env 41 a [(6,(ptr b5 0))] ∧ M (Old w0) w0 w [raw b5 (enc j52)]) ?_ ?_
    ·skip
     obtain ⟨l56,e57,hl53⟩:=bind_some hl53
     have hb58:=TZ e57 -- ^
     obtain ⟨l59,e60,hl53⟩:=bind_some hl53
     have hb61:=TZ e60 -- ^
     refine Yg (n:=41) (hd:=[_,_]) (tl:=[_,_,_,_,_]) YN rfl rfl [35,36] (by decide) (fun w=>M (Old w0) w0 w [raw b24 (enc j43),raw b22 (enc j30),raw b5 (enc (Vector.replicate 32 (0 : UInt8)))]) (fun j=>([fun v _=>v = (ZP (.slice (some ⟨b22,0,none⟩) 16 16) ((0 : Int)).toNat ((16 : Int)).toNat 1),fun v _=>v = (ZP (.slice (some ⟨b24,0,none⟩) 16 16) ((0 : Int)).toNat ((16 : Int)).toNat 1)] : List (Value → World → Prop)).getD j (fun _ _=>True)) (fun _ _ h hk=>h.keep hk) (gup (Zn (Zn Vb))) hE hM.drew (ZJ (Zb ?_ (Zb ?_ ZF))) ?_
     ·exact fun a w ux55 hE hM hp=>UL (N:=16) hE Za ld rfl rfl rfl rfl rfl Tryz.underlying31 ty5 hb58 fun a hE=>⟨Kept.refl _ _,_,_,rfl,hE,rfl⟩
     ·exact fun a w ux55 hE hM hp=>UL (N:=16) hE Za ld rfl rfl rfl rfl rfl Tryz.underlying31 ty5 hb61 fun a hE=>⟨Kept.refl _ _,_,_,rfl,hE,rfl⟩
     ·intro a w ux55 hE hM hg
      have hE:=hE.sub (e':=[(35,(ZP (.slice (some ⟨b22,0,none⟩) 16 16) ((0 : Int)).toNat ((16 : Int)).toNat 1)),(36,(ZP (.slice (some ⟨b24,0,none⟩) 16 16) ((0 : Int)).toNat ((16 : Int)).toNat 1)),(6,(ptr b5 0))]) ⟨lk rfl (hg 0 (by decide)),lk rfl (hg 1 (by decide)),rfl,trivial⟩
      refine Kg (xs:=[.tmp 35,.tmp 36]) (vs:=[(ZP (.slice (some ⟨b22,0,none⟩) 16 16) ((0 : Int)).toNat ((16 : Int)).toNat 1),(ZP (.slice (some ⟨b24,0,none⟩) 16 16) ((0 : Int)).toNat ((16 : Int)).toNat 1)]) hE hM Za ld rfl rfl Tryz.underlying41 UU (by decide) (T0 (U0 (W2 (At.sat (hM.rawAt (pre:=[_])) (by simp) (by decide)) e57)) (T0 (U0 (W2 (At.sat (hM.rawAt (pre:=[])) (by simp) (by decide)) e60)) A0)) ?_; intro b62 w a hM hE
      obtain ⟨r64,e65,hl53⟩:=bind_some hl53
      refine Zw hE Za ld rfl cb144 (Us _ ([l56,l59] : (List (List UInt8))) (Value.slice (some ⟨b62,0,none⟩) 2 2) (za (hM.rawAt (pre:=[])) (hM.rawLt (pre:=[])) ⟨(W2 (At.sat (hM.rawAt (pre:=[_,_])) (by simp) (by decide)) e57),(W2 (At.sat (hM.rawAt (pre:=[_])) (by simp) (by decide)) e60),trivial⟩ rfl) r64 e65) ?_
      rintro u66 w a ⟨_,rfl,hFr,hK⟩ hE
      have hM:=hM.add hK hFr
      obtain ⟨x67,e68,hl53⟩:=bind_some hl53
      refine JR hE Za ld rfl Tryz.underlying37 (hM.sl (pre:=[]) noB) (Tw e68).1 (by decide) fun a hE=>Zo (cs:=enc x67) hE Za ld rfl Yi rfl (BC (hM.sl (pre:=[]) noB) e68 (by decide)) (Flat.len _) ?_; intro a hE
      have hM:=hM.pull (pre:=[_,_,_,_])
      refine Zv (seg:=enc x67) (cs':=enc x67) hE hM Za rfl rfl rfl Yi (Flat.len _) (zle flq) (Flat.cell _) (Zr flq) fun w a hM hE=>Zj ?_
      have ht69:=Option.some.inj hl53
      subst ht69
      refine Zl ?_
      have hM:=M.fst (l:=[_]) hM
      exact ⟨hE.sub ⟨rfl,trivial⟩,hM⟩
    ·skip
     rintro a w ⟨hE,hM⟩
     have hr:=Option.some.inj hF54
     subst hr
     have hq70 : Yx Tryz.prog _ _ (.cell 6 37) _:=ZR hE rfl Yi rfl (hM.rawAt (pre:=[])) (Flat.len _) rfl
     have hM:=M.fst (l:=[]) hM
     exact wp_ret (Zt hE rfl hq70 ⟨_,rfl,rfl,hM.kept⟩)
def Yz (p0 : (Ref Gengine)) (r13 : (List (Vector UInt8 16))) (s19 : (Vector UInt8 32) × Int) : Option (Fl ((Vector UInt8 32) × Int) (Vector UInt8 32)) :=
 if (decide (s19.2 < (r13.length : Int))) = true then ((idx r13 s19.2).bind fun x24=>(YI p0 s19.1 x24).bind fun r29=>some (Fl.nx (r29,wr (s19.2 + 1)))) else (some (Fl.ex s19.1))
def YG (p0 : (Ref Gengine)) (p1 : (List (List UInt8))) : Option ((Vector UInt8 32)) :=
 (Xh).bind fun r3=>(ZY p1).bind fun r7=>(Ww r7).bind fun r10=>(VD r10).bind fun r13=>(ZE (Yz p0 r13) (r3,0)).bind fun j16=>some j16
theorem Tg (w0 : World) (p0 : (Ref Gengine)) (v0_1 : Value) (hv0_1 : Ro w0 p0 [v0_1]) (p1 : (List (List UInt8))) (v1_1 : Value) (hv1_1 : Ro w0 p1 [v1_1]) (r : (Vector UInt8 32)) (hF : YG p0 p1 = some r) :
  Calls Tryz.prog 112 [v0_1,v1_1].toArray w0 (fun en w'=>∃ v,en = .returned v ∧ (v = (Value.agg (enc r).toArray) ∧ Kept (Old w0) w0 w')):=by
 refine ZB (n:=24) Tryz.func112 rfl rfl (nbl rfl) rfl ?_
 intro a hE
 have hM:=M.start w0
 unfold YG at hF
 refine Zc (ZH hE hM Za ld Yi fun b1 w a hM hE=>Zf (Zc ?_))
 obtain ⟨r3,e4,hF⟩:=bind_some hF
 refine Zw hE Za ld rfl cb141 (Qy _  r3 e4) ?_
 rintro v w a ⟨rfl,hK⟩ hE
 have hM:=hM.keep hK
 refine ZH hE hM Za ld Yi fun b5 w a hM hE=>Zv (seg:=enc r3) (cs':=enc r3) hE hM Za rfl rfl rfl Yi (Flat.len _) (zle flq) (Flat.cell _) (Zr flq) fun w a hM hE=>Zf (wp_seq (Zc (Zd hE Za ld rfl ?_))); intro a hE
 obtain ⟨r7,e8,hF⟩:=bind_some hF
 refine Zw hE Za ld rfl cb144 (Us _ p1 v1_1 (hM.rdo hv1_1) r7 e8) ?_
 rintro u9 w a ⟨_,rfl,hFr,hK⟩ hE
 have hM:=hM.add hK hFr
 obtain ⟨r10,e11,hF⟩:=bind_some hF
 refine Zw hE Za ld rfl cb143 (KR _ r7 u9 (hM.sl (pre:=[]) noB) r10 e11) ?_
 rintro u12 w a ⟨_,rfl,hFr,hK⟩ hE
 have hM:=hM.add hK hFr
 obtain ⟨r13,e14,hF⟩:=bind_some hF
 refine Zw hE Za ld rfl cb142 (JJ _ r10 u12 (hM.sl (pre:=[]) noB) r13 e14) ?_
 rintro u15 w a ⟨_,rfl,hFr,hK⟩ hE
 have hM:=hM.add hK hFr
 refine Yf hE Za ld rfl Tryz.underlying33 (hM.sl (pre:=[]) noB) fun a hE=>Zd hE Za ld rfl fun a hE=>Zf ?_
 obtain ⟨j16,hl17,hF18⟩:=bind_some hF
 refine ZL (fun a w=>Env 24 a [(4,(ptr b1 0)),(5,(ptr b5 0))] ∧ M (Old w0) w0 w [raw b5 (enc j16),raw b1 (enc (Vector.replicate 32 (0 : UInt8)))]) ?_ ?_
 ·skip
  refine wp_block ?_
  have hM:=M.fst (l:=[_,_,_]) (((hM.pull (pre:=[_,_,_,_])).pull (pre:=[_,_,_,_])).pull (pre:=[_,_]))
  refine ZC (fun (s19 : (Vector UInt8 32) × Int) a w=>Env 24 a [(0,v0_1),(4,(ptr b1 0)),(5,(ptr b5 0)),(12,u15),(13,(vI (r13.length : Int))),(14,vI s19.2)] ∧ M (Old w0) w0 w [osl NoB (r13 : List (Vector UInt8 16)) u15,raw b5 (enc s19.1),raw b1 (enc (Vector.replicate 32 (0 : UInt8)))]) hl17 ⟨hE.sub ⟨rfl,rfl,rfl,rfl,rfl,rfl,trivial⟩,hM⟩ ?_
  rintro s19 a w ⟨hE,hM⟩ o22 hs20 hx21
  unfold Yz at hs20
  refine Zc (Zi hE Za ld rfl rfl rfl fun a hE=>Zf (wp_seq ?_))
  refine Zp hE rfl ?_ ?_
  ·intro hb23
   have hs20:=Zz hs20 hb23
   refine wp_skip (Zu (wp_seq (wp_block (Zc ?_))))
   obtain ⟨x24,hi26,hs20⟩:=bix hs20
   refine ZK hE Za ld rfl rfl Tryz.underlying33 ZG (hM.sl (pre:=[]) noB) hi26.1 fun a hE=>Zo (cs:=enc x24) hE Za ld rfl ZG rfl (Xc (hM.sl (pre:=[]) noB) hi26.2) (Flat.len _) fun a hE=>ZH hE hM Za ld ZG fun b27 w a hM hE=>Zv (seg:=enc x24) (cs':=enc x24) hE hM Za rfl rfl rfl ZG (Flat.len _) (zle flq) (Flat.cell _) (Zr flq) fun w a hM hE=>Zf (wp_region_lit (Zd hE Za ld rfl fun a hE=>Zo (cs:=enc s19.1) hE Za ld rfl Yi rfl (hM.rawAt (pre:=[_,_])) (Flat.len _) fun a hE=>Zo (cs:=enc x24) hE Za ld rfl ZG rfl (hM.rawAt (pre:=[])) (Flat.len _) ?_)); intro a hE
   obtain ⟨r29,e30,hs20⟩:=bind_some hs20
   refine Zw hE Za ld rfl cb145 (Qq _ p0 v0_1 (hM.rdo hv0_1) s19.1 x24 r29 e30) ?_
   rintro v w a ⟨rfl,hK⟩ hE
   have hM:=(hM.keep hK).pull (pre:=[_,_])
   refine Zv (seg:=enc r29) (cs':=enc r29) hE hM Za rfl rfl rfl Yi (Flat.len _) (zle flq) (Flat.cell _) (Zr flq) fun w a hM hE=>Zj (ZZ (Zu (wp_region_lit (Zi hE Za ld rfl rfl rfl fun a hE=>Zd hE Za ld rfl fun a hE=>Zj (Zl ?_)))))
   have hM:=M.fst (l:=[_,_,_]) (((hM.pull (pre:=[_,_,_])).pull (pre:=[_])).pull (pre:=[_,_,_]))
   exact ⟨_,(ois hs20),hE.sub ⟨rfl,rfl,rfl,rfl,rfl,rfl,trivial⟩,hM⟩
  ·intro hb23
   have hs20:=Zy hs20 hb23
   refine wp_exit (Zm (Zm (Z0 ?_)))
   have ht31:=hx21 _ (ois hs20)
   subst ht31
   refine Zl ?_
   have hM:=M.fst (l:=[_,_]) ((hM.pull (pre:=[_,_])).pull (pre:=[_,_]))
   exact ⟨hE.sub ⟨rfl,rfl,trivial⟩,hM⟩
 ·skip
  rintro a w ⟨hE,hM⟩
  refine Zu (Zc (Zo (cs:=enc j16) hE Za ld rfl Yi rfl (hM.rawAt (pre:=[])) (Flat.len _) ?_)); intro a hE
  have hM:=hM.pull (pre:=[_])
  refine Zv (seg:=enc j16) (cs':=enc j16) hE hM Za rfl rfl rfl Yi (Flat.len _) (zle flq) (Flat.cell _) (Zr flq) fun w a hM hE=>Zf ?_
  have hr:=Option.some.inj hF18
  subst hr
  have hq32 : Yx Tryz.prog _ _ (.cell 4 37) _:=ZR hE rfl Yi rfl (hM.rawAt (pre:=[])) (Flat.len _) rfl
  have hM:=M.fst (l:=[]) hM
  exact wp_ret (Zt hE rfl hq32 ⟨_,rfl,rfl,hM.kept⟩)
def YU (p0 : (Ref Gengine)) (p1 : (List GEvent)) (s16 : (Vector UInt8 32) × Int) : Option (Fl ((Vector UInt8 32) × Int) (Vector UInt8 32)) :=
 if (decide (s16.2 < (p1.length : Int))) = true then ((idx p1 s16.2).bind fun x21=>(slc s16.1.toList (0 : Int) (32 : Int)).bind fun l27=>(YJ x21.Number 4).bind fun r32=>(slc x21.Tag.toList (0 : Int) (32 : Int)).bind fun l35=>(YG p0 ([l27,([Zx x21.Kind] : List UInt8),r32,l35] : (List (List UInt8)))).bind fun r42=>some (Fl.nx (r42,wr (s16.2 + 1)))) else (some (Fl.ex s16.1))
def X3 (p0 : (Ref Gengine)) (p1 : (List GEvent)) : Option ((Vector UInt8 32)) :=
 (mkS 1 (0 : UInt8) 32).bind fun l3=>(YG p0 ([l3] : (List (List UInt8)))).bind fun r9=>(ZE (YU p0 p1) (r9,0)).bind fun j13=>some j13
end

end Go.Proofs.YtlpppjjlffgkmaaGreat
