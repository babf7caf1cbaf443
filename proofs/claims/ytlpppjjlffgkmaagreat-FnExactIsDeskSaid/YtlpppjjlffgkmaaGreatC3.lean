/- The walk of what the law reaches: contracts of functions. -/
import Derived.Test.YtlpppjjlffgkmaaGreatC2
set_option linter.unusedVariables false
set_option linter.unusedSimpArgs false
set_option maxRecDepth 20000
set_option maxHeartbeats 400000
namespace Go.Proofs.YtlpppjjlffgkmaaGreat
open Go
open Flat (enc)
noncomputable section
theorem QQ (w0 : World) (p0 : Int) (p1 : (Vector (Vector UInt8 4) 4)) (r : UInt8 × (Vector (Vector UInt8 4) 4)) (hF : YV p0 p1 = some r) :
  Calls Tryz.prog 128 [vI p0,(Value.agg (enc p1).toArray)].toArray w0 (Rt w0 (Value.tuple [vB r.1,(Value.agg (enc r.2).toArray)].toArray)):=by
 refine ce Tryz.func128 ?_
 intro a hE
 have hM:=M.start w0
 unfold YV at hF
 refine Za (ZM (cs:=enc p1) hE hM Zd ld rfl rfl fun b1 w a hM hE=>Zb hE rfl fun a hE=>Zz hE hM Xc fun b3 w a hM hE=>Zf (Za ?_))
 obtain ⟨r5,e6,hF⟩:=bind_some hF
 refine Zv hE rfl (cbm Tryz.func153) (Hy _  r5 e6) ?_
 rintro v w a ⟨rfl,hK⟩ hE
 have hM:=hM.keep hK
 refine Zz hE hM Xc fun b7 w a hM hE=>Zo (seg:=enc r5) (cs':=enc r5) hE hM Zd rfl rfl rfl Xc (Flat.len _) (zle flq) (Flat.cell _) (Zr flq) fun w a hM hE=>Zb hE rfl fun a hE=>Zf (wp_seq (Za (Ze hE rfl fun a hE=>Zf ?_)))
 obtain ⟨j9,hl10,hF11⟩:=bind_some hF
 refine ZJ (fun a w=>∃ s12 : (Vector (Vector UInt8 4) 4) × UInt8,j9 = Fl.nx s12 ∧ Env 153 a [(5,(ptr b3 0)),(6,(ptr b7 0)),(7,vB s12.2)] ∧ M (Old w0) w0 w [raw b7 (enc s12.1),raw b3 (enc (Vector.replicate 4 (Vector.replicate 4 (0 : UInt8))))]) ?_ ?_
 ·skip
  refine wp_block ?_
  refine ZE (fun (s13 : (Vector (Vector UInt8 4) 4) × (Vector (Vector UInt8 4) 4) × Int × UInt8) a w=>Env 153 a [(0,vI p0),(3,(ptr b1 0)),(5,(ptr b3 0)),(6,(ptr b7 0)),(7,vB s13.2.2.2),(16,vI s13.2.2.1)] ∧ M (Old w0) w0 w [raw b7 (enc s13.2.1),raw b3 (enc (Vector.replicate 4 (Vector.replicate 4 (0 : UInt8)))),raw b1 (enc s13.1)]) hl10 ⟨hE.sub ⟨rfl,rfl,rfl,rfl,rfl,rfl,trivial⟩,hM⟩ ?_
  rintro s13 a w ⟨hE,hM⟩ o16 hs14 hx15
  unfold YM at hs14
  refine Za (Zk hE rfl rfl rfl fun a hE=>Zf (wp_seq ?_))
  refine Zq hE rfl ?_ ?_
  ·intro hb17
   have hs14:=Zu hs14 hb17
   refine wp_skip (Zy (wp_seq (wp_block (Za (Ze hE rfl fun a hE=>Zb hE rfl fun a hE=>Zf (Za (Ze hE rfl fun a hE=>Zb hE rfl fun a hE=>Zf ?_)))))))
   obtain ⟨j18,hl19,hF20⟩:=bind_some hs14
   refine ZI (fun a w=>Env 153 a [(0,vI p0),(3,(ptr b1 0)),(5,(ptr b3 0)),(6,(ptr b7 0)),(7,vB s13.2.2.2),(8,vI s13.2.2.1),(9,vI j18),(16,vI s13.2.2.1)] ∧ M (Old w0) w0 w [raw b7 (enc s13.2.1),raw b3 (enc (Vector.replicate 4 (Vector.replicate 4 (0 : UInt8)))),raw b1 (enc s13.1)]) ?_ ?_
   ·skip
    refine wp_block ?_
    refine ZE (fun (s21 : Int) a w=>Env 153 a [(0,vI p0),(3,(ptr b1 0)),(5,(ptr b3 0)),(6,(ptr b7 0)),(7,vB s13.2.2.2),(8,vI s13.2.2.1),(9,vI s21),(16,vI s13.2.2.1)] ∧ M (Old w0) w0 w [raw b7 (enc s13.2.1),raw b3 (enc (Vector.replicate 4 (Vector.replicate 4 (0 : UInt8)))),raw b1 (enc s13.1)]) hl19 ⟨hE.sub ⟨rfl,rfl,rfl,rfl,rfl,rfl,rfl,rfl,trivial⟩,hM⟩ ?_
    rintro s21 a w ⟨hE,hM⟩ o24 hs22 hx23
    unfold UL at hs22
    refine wp_seq ?_
    obtain ⟨j25,hl26,hF27⟩:=bind_some hs22
    refine ZI (fun a w=>Env 153 a [(0,vI p0),(3,(ptr b1 0)),(5,(ptr b3 0)),(6,(ptr b7 0)),(7,vB s13.2.2.2),(8,vI s13.2.2.1),(9,vI s21),(16,vI s13.2.2.1),(29,vT j25)] ∧ M (Old w0) w0 w [raw b7 (enc s13.2.1),raw b3 (enc (Vector.replicate 4 (Vector.replicate 4 (0 : UInt8)))),raw b1 (enc s13.1)]) ?_ ?_
    ·skip
     refine wp_region_lit (Ze hE rfl fun a hE=>Zk hE rfl rfl rfl fun a hE=>Ze hE rfl ?_); intro a hE
     refine Yb (decide (s21 < 4)) (fun hb28=>?_) (fun hb28=>?_)
     ·have hl26:=Zu hl26 hb28
      refine Y3 hE (Zi hE rfl (lkb rfl hb28)) (by decide) rfl fun a hE=>Y3 hE (Zi hE rfl (lkb rfl hb28)) (by decide) rfl ?_; intro a hE
      obtain ⟨x30,hi29,hl26⟩:=bvx hl26
      refine Ka hE (Zi hE rfl (lkb rfl hb28)) (by decide) rfl rfl Tryz.underlying26 Yh hi29.1 ?_; intro a hE
      obtain ⟨x33,hi32,hl26⟩:=bvx hl26
      refine Ka hE (Zi hE rfl (lkb rfl hb28)) (by decide) rfl rfl Tryz.underlying24 ty5 hi32.1 fun a hE=>ZY (v:=(vB x33)) hE (Zi hE rfl (lkb rfl hb28)) (by decide) rfl ty5 rfl (At.vec (At.vec hM.rawAt2 hi29.2) hi32.2) fun a hE=>Wa hE (Zi hE rfl (lkb rfl hb28)) (by decide) rfl rfl (kH x33 0) fun a hE=>ZG hE (lkb rfl hb28) rfl fun a hE=>Zj ?_
      obtain rfl:=Option.some.inj hl26
      refine Zl ?_
      exact ⟨hE.sub ⟨rfl,rfl,rfl,rfl,rfl,rfl,rfl,rfl,rfl,trivial⟩,hM⟩
     ·have hl26:=Zt hl26 hb28
      refine Zh hE rfl (lkb rfl hb28) rfl (by decide) fun a hE=>Zh hE rfl (lkb rfl hb28) rfl (by decide) fun a hE=>Zh hE rfl (lkb rfl hb28) rfl (by decide) fun a hE=>Zh hE rfl (lkb rfl hb28) rfl (by decide) fun a hE=>Zh hE rfl (lkb rfl hb28) rfl (by decide) fun a hE=>Zh hE rfl (lkb rfl hb28) rfl (by decide) fun a hE=>ZL hE (lkb rfl hb28) rfl fun a hE=>Zj ?_
      obtain rfl:=Option.some.inj hl26
      refine Zl ?_
      exact ⟨hE.sub ⟨rfl,rfl,rfl,rfl,rfl,rfl,rfl,rfl,rfl,trivial⟩,hM⟩
    ·skip
     rintro a w ⟨hE,hM⟩
     refine Zq hE rfl ?_ ?_
     ·intro hb37
      have hF27:=Zu hF27 hb37
      refine wp_skip (Zy (wp_block (wp_region_lit (Ze hE rfl fun a hE=>Zk hE rfl rfl rfl fun a hE=>Zb hE rfl fun a hE=>Zj (Z0 (Zl ?_))))))
      exact ⟨_,(ois hF27),hE.sub ⟨rfl,rfl,rfl,rfl,rfl,rfl,rfl,rfl,trivial⟩,hM⟩
     ·intro hb37
      have hF27:=Zt hF27 hb37
      refine wp_exit (Zp (Zp (Z1 ?_)))
      obtain rfl:=hx23 _ (ois hF27)
      refine Zl ?_
      exact ⟨hE.sub ⟨rfl,rfl,rfl,rfl,rfl,rfl,rfl,rfl,trivial⟩,hM⟩
   ·skip
    rintro a w ⟨hE,hM⟩
    refine wp_seq (Za (Ze hE rfl fun a hE=>Zk hE rfl rfl rfl fun a hE=>Zf ?_))
    refine Zq hE rfl ?_ ?_
    ·intro hb39
     have hF20:=Zu hF20 hb39
     refine Za (YU (parts:=[]) (vs:=[]) (cs:=enc (Vector.replicate 4 (Vector.replicate 4 (0 : UInt8)))) hE Zd ld rfl rfl Xc rfl Yh Yu fun a hE=>Zb hE rfl ?_); intro a hE
     have hM:=hM.pull1
     refine Zo (seg:=enc (Vector.replicate 4 (Vector.replicate 4 (0 : UInt8)))) (cs':=enc (Vector.replicate 4 (Vector.replicate 4 (0 : UInt8)))) hE hM Zd rfl rfl rfl Xc (Flat.len _) (zle flq) (Flat.cell _) (Zr flq) fun w a hM hE=>Zf ?_
     obtain rfl:=hx15 _ (ois hF20)
     obtain rfl:=Option.some.inj hF11
     have hq41 : Yq Tryz.prog _ _ (.cell 5 26) _:=ZQ hE rfl Xc rfl hM.rawAt0 (Flat.len _) rfl
     exact wp_ret (Zs (Z4 (Zs (Zs (Z4 (Zs (Zs (H5 hE rfl (YH hE rfl) hq41 ⟨_,rfl,rfl,hM.kept⟩))))))))
    ·intro hb39
     have hF20:=Zt hF20 hb39
     refine wp_skip (Zy ?_)
     obtain ⟨j42,hl43,hF44⟩:=bind_some hF20
     refine ZI (fun a w=>Env 153 a [(0,vI p0),(3,(ptr b1 0)),(5,(ptr b3 0)),(6,(ptr b7 0)),(7,vB s13.2.2.2),(8,vI s13.2.2.1),(9,vI j18),(16,vI s13.2.2.1)] ∧ M (Old w0) w0 w [raw b7 (enc s13.2.1),raw b3 (enc (Vector.replicate 4 (Vector.replicate 4 (0 : UInt8)))),raw b1 (enc j42)]) ?_ ?_
     ·skip
      have hM:=hM.pull2
      obtain ⟨x47,hi46,hl43⟩:=bvx hl43
      obtain ⟨x50,hi49,hl43⟩:=bvx hl43
      obtain ⟨x53,hi52,hl43⟩:=bvx hl43
      refine TU (n:=153) (hd:=[_,_,_,_,_,_,_,_,_,_]) (tl:=[_,_]) Yx rfl rfl [35,36,37,38,39,40,41,42,43,162] (by decide) (fun D u w=>M (Old w0) w0 w ([raw b7 (enc s13.2.1),raw b3 (enc (Vector.replicate 4 (Vector.replicate 4 (0 : UInt8))))] ++ qL ([mkT 9 (raw b1 (enc s13.1)) (raw b1 (enc (s13.1.setIfInBounds (j18).toNat x47)))] : Mk) D u) ∧ GOk ([([],fun us v=>v = (vI j18)),([],fun us v=>v = (vI s13.2.2.1)),([],fun us v=>v = (vI s13.2.2.1)),([],fun us v=>v = (ptr b1 (0 + (s13.2.2.1).toNat * 4))),([],fun us v=>v = (Value.agg (enc x47).toArray)),([],fun us v=>v = (vI j18)),([],fun us v=>v = (ptr b1 (0 + (j18).toNat * 4))),([],fun us v=>v = (Value.agg (enc x50).toArray)),([],fun us v=>v = (ptr b1 (0 + (j18).toNat * 4))),([],fun us v=>True)] : Gs) D u) hE (fun u=>⟨M.qT (M.q0 hM.drew u),Ae⟩) (ky ?_ ?_ ?_ ?_ ?_ ?_ ?_ ?_ ?_ ?_) ?_
      ·intro a w ux45 D hE hI hD hdc hp
       have hM0:=hI.1
       have hM:=hI.1
       have hM:=hM.togA (pre:=[_,_]) (Bool.eq_false_iff.2 fun hx=>Bool.noConfusion (hD.symm.trans (hdc 9 _ _ rfl (List.mem_of_getElem? (i:=2) rfl) rfl hx)))
       exact Ze hE rfl fun a hE=>⟨_,_,rfl,hE,M.qKeep hM0 rfl,hI.2.put hD rfl ZN rfl⟩
      ·intro a w ux45 D hE hI hD hdc hp
       have hM0:=hI.1
       exact Ze hE rfl fun a hE=>⟨_,_,rfl,hE,M.qKeep hM0 rfl,hI.2.put hD rfl ZN rfl⟩
      ·intro a w ux45 D hE hI hD hdc hp
       have hM0:=hI.1
       have hM:=hI.1
       have hM:=hM.togA (pre:=[_,_]) (Bool.eq_false_iff.2 fun hx=>Bool.noConfusion (hD.symm.trans (hdc 9 _ _ rfl (List.mem_of_getElem? (i:=4) rfl) rfl hx)))
       exact Ze hE rfl fun a hE=>⟨_,_,rfl,hE,M.qKeep hM0 rfl,hI.2.put hD rfl ZN rfl⟩
      ·intro a w ux45 D hE hI hD hdc hp
       have d2 : D 2 = true:=hp 0 _ rfl rfl
       have g2:=hI.2 2 d2 _ rfl
       have f2 : ux45 2 = (vI s13.2.2.1):=g2.2
       have hM0:=hI.1
       have hM:=hI.1
       have hM:=hM.togA (pre:=[_,_]) (Bool.eq_false_iff.2 fun hx=>Bool.noConfusion (hD.symm.trans (hdc 9 _ _ rfl (List.mem_of_getElem? (i:=5) rfl) rfl hx)))
       exact Zm hE rfl (lk rfl f2) Tryz.underlying26 Yh hi46.1 fun a hE=>⟨_,_,rfl,hE,M.qKeep hM0 rfl,hI.2.put hD rfl ZN rfl⟩
      ·intro a w ux45 D hE hI hD hdc hp
       have d3 : D 3 = true:=hp 0 _ rfl rfl
       have g3:=hI.2 3 d3 _ rfl
       have f3 : ux45 3 = (ptr b1 (0 + (s13.2.2.1).toNat * 4)):=g3.2
       have hM0:=hI.1
       have hM:=hI.1
       have hM:=hM.togA (pre:=[_,_]) (Bool.eq_false_iff.2 fun hx=>Bool.noConfusion (hD.symm.trans (hdc 9 _ _ rfl (List.mem_of_getElem? (i:=1) rfl) rfl hx)))
       exact Zn hE (lk rfl f3) Yh rfl (At.vec hM.rawAt2 hi46.2) (Flat.len _) fun a hE=>⟨_,_,rfl,hE,M.qKeep hM0 rfl,hI.2.put hD rfl ZN rfl⟩
      ·intro a w ux45 D hE hI hD hdc hp
       have hM0:=hI.1
       exact Ze hE rfl fun a hE=>⟨_,_,rfl,hE,M.qKeep hM0 rfl,hI.2.put hD rfl ZN rfl⟩
      ·intro a w ux45 D hE hI hD hdc hp
       have d5 : D 5 = true:=hp 0 _ rfl rfl
       have g5:=hI.2 5 d5 _ rfl
       have f5 : ux45 5 = (vI j18):=g5.2
       have hM0:=hI.1
       have hM:=hI.1
       have hM:=hM.togA (pre:=[_,_]) (Bool.eq_false_iff.2 fun hx=>Bool.noConfusion (hD.symm.trans (hdc 9 _ _ rfl (List.mem_of_getElem? (i:=8) rfl) rfl hx)))
       exact Zm hE rfl (lk rfl f5) Tryz.underlying26 Yh hi49.1 fun a hE=>⟨_,_,rfl,hE,M.qKeep hM0 rfl,hI.2.put hD rfl ZN rfl⟩
      ·intro a w ux45 D hE hI hD hdc hp
       have d6 : D 6 = true:=hp 0 _ rfl rfl
       have g6:=hI.2 6 d6 _ rfl
       have f6 : ux45 6 = (ptr b1 (0 + (j18).toNat * 4)):=g6.2
       have hM0:=hI.1
       have hM:=hI.1
       have hM:=hM.togA (pre:=[_,_]) (Bool.eq_false_iff.2 fun hx=>Bool.noConfusion (hD.symm.trans (hdc 9 _ _ rfl (List.mem_of_getElem? (i:=9) rfl) rfl hx)))
       exact Zn hE (lk rfl f6) Yh rfl (At.vec hM.rawAt2 hi49.2) (Flat.len _) fun a hE=>⟨_,_,rfl,hE,M.qKeep hM0 rfl,hI.2.put hD rfl ZN rfl⟩
      ·intro a w ux45 D hE hI hD hdc hp
       have d0 : D 0 = true:=hp 0 _ rfl rfl
       have g0:=hI.2 0 d0 _ rfl
       have f0 : ux45 0 = (vI j18):=g0.2
       have hM0:=hI.1
       have hM:=hI.1
       have hM:=hM.togA (pre:=[_,_]) (Bool.eq_false_iff.2 fun hx=>Bool.noConfusion (hD.symm.trans (hdc 9 _ _ rfl (List.mem_of_getElem? (i:=0) rfl) rfl hx)))
       exact Zm hE rfl (lk rfl f0) Tryz.underlying26 Yh hi52.1 fun a hE=>⟨_,_,rfl,hE,M.qKeep hM0 rfl,hI.2.put hD rfl ZN rfl⟩
      ·intro a w ux45 D hE hI hD hdc hp
       have d4 : D 4 = true:=hp 1 _ rfl rfl
       have g4:=hI.2 4 d4 _ rfl
       have f4 : ux45 4 = (Value.agg (enc x47).toArray):=g4.2
       have d8 : D 8 = true:=hp 0 _ rfl rfl
       have g8:=hI.2 8 d8 _ rfl
       have f8 : ux45 8 = (ptr b1 (0 + (j18).toNat * 4)):=g8.2
       have hM0:=hI.1
       have hM:=(hI.1.togA (pre:=[_,_]) hD).pull2
       exact Zo (seg:=enc x47) (cs':=enc (s13.1.setIfInBounds (j18).toNat x47)) hE hM Zd (lk rfl f8) (lk rfl f4) rfl Yh (Flat.len _) (ZH (v:=s13.1) (x:=x47) hi52.1) (Flat.cell _) (ZA (v:=s13.1) (x:=x47) hi52.1) fun w a hM hE=>⟨undef,_,rfl,Env.dummy hE (by decide),M.qTog (mk1:=[]) (mk2:=[]) hM rfl,hI.2.put hD rfl ZN trivial⟩
      ·intro a w ux45 D hE hI hall
       have hM:=hI.1
       have d0:=hall 0 (by decide)
       have d1:=hall 1 (by decide)
       have d2:=hall 2 (by decide)
       have d3:=hall 3 (by decide)
       have d4:=hall 4 (by decide)
       have d5:=hall 5 (by decide)
       have d6:=hall 6 (by decide)
       have d7:=hall 7 (by decide)
       have d8:=hall 8 (by decide)
       have d9:=hall 9 (by decide)
       have f0 : ux45 0 = (vI j18):=(hI.2 0 d0 _ rfl).2
       have f1 : ux45 1 = (vI s13.2.2.1):=(hI.2 1 d1 _ rfl).2
       have f2 : ux45 2 = (vI s13.2.2.1):=(hI.2 2 d2 _ rfl).2
       have f3 : ux45 3 = (ptr b1 (0 + (s13.2.2.1).toNat * 4)):=(hI.2 3 d3 _ rfl).2
       have f4 : ux45 4 = (Value.agg (enc x47).toArray):=(hI.2 4 d4 _ rfl).2
       have f5 : ux45 5 = (vI j18):=(hI.2 5 d5 _ rfl).2
       have f6 : ux45 6 = (ptr b1 (0 + (j18).toNat * 4)):=(hI.2 6 d6 _ rfl).2
       have f7 : ux45 7 = (Value.agg (enc x50).toArray):=(hI.2 7 d7 _ rfl).2
       have f8 : ux45 8 = (ptr b1 (0 + (j18).toNat * 4)):=(hI.2 8 d8 _ rfl).2
       have hM:=hM.togB (pre:=[_,_]) d9
       have hE:=hE.sub (e':=[(36,vI s13.2.2.1),(42,(Value.agg (enc x50).toArray)),(0,vI p0),(3,(ptr b1 0)),(5,(ptr b3 0)),(6,(ptr b7 0)),(7,vB s13.2.2.2),(8,vI s13.2.2.1),(9,vI j18),(16,vI s13.2.2.1),(32,vI j18),(33,(vT (j18 == 4)))]) ⟨lk rfl f1,lk rfl f7,rfl,rfl,rfl,rfl,rfl,rfl,rfl,rfl,rfl,rfl,trivial⟩
       obtain ⟨x56,hi55,hl43⟩:=bvx hl43
       refine Zm hE rfl rfl Tryz.underlying26 Yh hi55.1 ?_; intro a hE
       have hM:=hM.pull2
       refine Zo (seg:=enc x50) (cs':=enc ((s13.1.setIfInBounds (j18).toNat x47).setIfInBounds (s13.2.2.1).toNat x50)) hE hM Zd rfl rfl rfl Yh (Flat.len _) (ZH (v:=(s13.1.setIfInBounds (j18).toNat x47)) (x:=x50) hi55.1) (Flat.cell _) (ZA (v:=(s13.1.setIfInBounds (j18).toNat x47)) (x:=x50) hi55.1) fun w a hM hE=>Zj ?_
       obtain rfl:=Option.some.inj hl43
       refine Zl ?_
       have hM:=hM.pull2.pull2
       exact ⟨hE.sub ⟨rfl,rfl,rfl,rfl,rfl,rfl,rfl,rfl,trivial⟩,hM⟩
     ·skip
      rintro a w ⟨hE,hM⟩
      obtain ⟨j59,hl60,hF61⟩:=bind_some hF44
      refine ZI (fun a w=>Env 153 a [(0,vI p0),(3,(ptr b1 0)),(5,(ptr b3 0)),(6,(ptr b7 0)),(7,vB s13.2.2.2),(8,vI s13.2.2.1),(16,vI s13.2.2.1)] ∧ M (Old w0) w0 w [raw b7 (enc j59),raw b3 (enc (Vector.replicate 4 (Vector.replicate 4 (0 : UInt8)))),raw b1 (enc j42)]) ?_ ?_
      ·skip
       obtain ⟨x64,hi63,hl60⟩:=bvx hl60
       obtain ⟨x67,hi66,hl60⟩:=bvx hl60
       obtain ⟨x70,hi69,hl60⟩:=bvx hl60
       refine TU (n:=153) (hd:=[_,_,_,_,_,_,_,_,_,_]) (tl:=[_,_]) Yx rfl rfl [45,46,47,48,49,50,51,52,53,162] (by decide) (fun D u w=>M (Old w0) w0 w ([raw b3 (enc (Vector.replicate 4 (Vector.replicate 4 (0 : UInt8)))),raw b1 (enc j42)] ++ qL ([mkT 9 (raw b7 (enc s13.2.1)) (raw b7 (enc (s13.2.1.setIfInBounds (j18).toNat x64)))] : Mk) D u) ∧ GOk ([([],fun us v=>v = (vI j18)),([],fun us v=>v = (vI s13.2.2.1)),([],fun us v=>v = (vI s13.2.2.1)),([],fun us v=>v = (ptr b7 (0 + (s13.2.2.1).toNat * 4))),([],fun us v=>v = (Value.agg (enc x64).toArray)),([],fun us v=>v = (vI j18)),([],fun us v=>v = (ptr b7 (0 + (j18).toNat * 4))),([],fun us v=>v = (Value.agg (enc x67).toArray)),([],fun us v=>v = (ptr b7 (0 + (j18).toNat * 4))),([],fun us v=>True)] : Gs) D u) hE (fun u=>⟨M.qT (M.q0 hM.drew u),Ae⟩) (ky ?_ ?_ ?_ ?_ ?_ ?_ ?_ ?_ ?_ ?_) ?_
       ·intro a w ux62 D hE hI hD hdc hp
        have hM0:=hI.1
        have hM:=hI.1
        have hM:=hM.togA (pre:=[_,_]) (Bool.eq_false_iff.2 fun hx=>Bool.noConfusion (hD.symm.trans (hdc 9 _ _ rfl (List.mem_of_getElem? (i:=2) rfl) rfl hx)))
        exact Ze hE rfl fun a hE=>⟨_,_,rfl,hE,M.qKeep hM0 rfl,hI.2.put hD rfl ZN rfl⟩
       ·intro a w ux62 D hE hI hD hdc hp
        have hM0:=hI.1
        exact Ze hE rfl fun a hE=>⟨_,_,rfl,hE,M.qKeep hM0 rfl,hI.2.put hD rfl ZN rfl⟩
       ·intro a w ux62 D hE hI hD hdc hp
        have hM0:=hI.1
        have hM:=hI.1
        have hM:=hM.togA (pre:=[_,_]) (Bool.eq_false_iff.2 fun hx=>Bool.noConfusion (hD.symm.trans (hdc 9 _ _ rfl (List.mem_of_getElem? (i:=4) rfl) rfl hx)))
        exact Ze hE rfl fun a hE=>⟨_,_,rfl,hE,M.qKeep hM0 rfl,hI.2.put hD rfl ZN rfl⟩
       ·intro a w ux62 D hE hI hD hdc hp
        have d2 : D 2 = true:=hp 0 _ rfl rfl
        have g2:=hI.2 2 d2 _ rfl
        have f2 : ux62 2 = (vI s13.2.2.1):=g2.2
        have hM0:=hI.1
        have hM:=hI.1
        have hM:=hM.togA (pre:=[_,_]) (Bool.eq_false_iff.2 fun hx=>Bool.noConfusion (hD.symm.trans (hdc 9 _ _ rfl (List.mem_of_getElem? (i:=5) rfl) rfl hx)))
        exact Zm hE rfl (lk rfl f2) Tryz.underlying26 Yh hi63.1 fun a hE=>⟨_,_,rfl,hE,M.qKeep hM0 rfl,hI.2.put hD rfl ZN rfl⟩
       ·intro a w ux62 D hE hI hD hdc hp
        have d3 : D 3 = true:=hp 0 _ rfl rfl
        have g3:=hI.2 3 d3 _ rfl
        have f3 : ux62 3 = (ptr b7 (0 + (s13.2.2.1).toNat * 4)):=g3.2
        have hM0:=hI.1
        have hM:=hI.1
        have hM:=hM.togA (pre:=[_,_]) (Bool.eq_false_iff.2 fun hx=>Bool.noConfusion (hD.symm.trans (hdc 9 _ _ rfl (List.mem_of_getElem? (i:=1) rfl) rfl hx)))
        exact Zn hE (lk rfl f3) Yh rfl (At.vec hM.rawAt2 hi63.2) (Flat.len _) fun a hE=>⟨_,_,rfl,hE,M.qKeep hM0 rfl,hI.2.put hD rfl ZN rfl⟩
       ·intro a w ux62 D hE hI hD hdc hp
        have hM0:=hI.1
        exact Ze hE rfl fun a hE=>⟨_,_,rfl,hE,M.qKeep hM0 rfl,hI.2.put hD rfl ZN rfl⟩
       ·intro a w ux62 D hE hI hD hdc hp
        have d5 : D 5 = true:=hp 0 _ rfl rfl
        have g5:=hI.2 5 d5 _ rfl
        have f5 : ux62 5 = (vI j18):=g5.2
        have hM0:=hI.1
        have hM:=hI.1
        have hM:=hM.togA (pre:=[_,_]) (Bool.eq_false_iff.2 fun hx=>Bool.noConfusion (hD.symm.trans (hdc 9 _ _ rfl (List.mem_of_getElem? (i:=8) rfl) rfl hx)))
        exact Zm hE rfl (lk rfl f5) Tryz.underlying26 Yh hi66.1 fun a hE=>⟨_,_,rfl,hE,M.qKeep hM0 rfl,hI.2.put hD rfl ZN rfl⟩
       ·intro a w ux62 D hE hI hD hdc hp
        have d6 : D 6 = true:=hp 0 _ rfl rfl
        have g6:=hI.2 6 d6 _ rfl
        have f6 : ux62 6 = (ptr b7 (0 + (j18).toNat * 4)):=g6.2
        have hM0:=hI.1
        have hM:=hI.1
        have hM:=hM.togA (pre:=[_,_]) (Bool.eq_false_iff.2 fun hx=>Bool.noConfusion (hD.symm.trans (hdc 9 _ _ rfl (List.mem_of_getElem? (i:=9) rfl) rfl hx)))
        exact Zn hE (lk rfl f6) Yh rfl (At.vec hM.rawAt2 hi66.2) (Flat.len _) fun a hE=>⟨_,_,rfl,hE,M.qKeep hM0 rfl,hI.2.put hD rfl ZN rfl⟩
       ·intro a w ux62 D hE hI hD hdc hp
        have d0 : D 0 = true:=hp 0 _ rfl rfl
        have g0:=hI.2 0 d0 _ rfl
        have f0 : ux62 0 = (vI j18):=g0.2
        have hM0:=hI.1
        have hM:=hI.1
        have hM:=hM.togA (pre:=[_,_]) (Bool.eq_false_iff.2 fun hx=>Bool.noConfusion (hD.symm.trans (hdc 9 _ _ rfl (List.mem_of_getElem? (i:=0) rfl) rfl hx)))
        exact Zm hE rfl (lk rfl f0) Tryz.underlying26 Yh hi69.1 fun a hE=>⟨_,_,rfl,hE,M.qKeep hM0 rfl,hI.2.put hD rfl ZN rfl⟩
       ·intro a w ux62 D hE hI hD hdc hp
        have d4 : D 4 = true:=hp 1 _ rfl rfl
        have g4:=hI.2 4 d4 _ rfl
        have f4 : ux62 4 = (Value.agg (enc x64).toArray):=g4.2
        have d8 : D 8 = true:=hp 0 _ rfl rfl
        have g8:=hI.2 8 d8 _ rfl
        have f8 : ux62 8 = (ptr b7 (0 + (j18).toNat * 4)):=g8.2
        have hM0:=hI.1
        have hM:=(hI.1.togA (pre:=[_,_]) hD).pull2
        exact Zo (seg:=enc x64) (cs':=enc (s13.2.1.setIfInBounds (j18).toNat x64)) hE hM Zd (lk rfl f8) (lk rfl f4) rfl Yh (Flat.len _) (ZH (v:=s13.2.1) (x:=x64) hi69.1) (Flat.cell _) (ZA (v:=s13.2.1) (x:=x64) hi69.1) fun w a hM hE=>⟨undef,_,rfl,Env.dummy hE (by decide),M.qTog (mk1:=[]) (mk2:=[]) hM rfl,hI.2.put hD rfl ZN trivial⟩
       ·intro a w ux62 D hE hI hall
        have hM:=hI.1
        have d0:=hall 0 (by decide)
        have d1:=hall 1 (by decide)
        have d2:=hall 2 (by decide)
        have d3:=hall 3 (by decide)
        have d4:=hall 4 (by decide)
        have d5:=hall 5 (by decide)
        have d6:=hall 6 (by decide)
        have d7:=hall 7 (by decide)
        have d8:=hall 8 (by decide)
        have d9:=hall 9 (by decide)
        have f0 : ux62 0 = (vI j18):=(hI.2 0 d0 _ rfl).2
        have f1 : ux62 1 = (vI s13.2.2.1):=(hI.2 1 d1 _ rfl).2
        have f2 : ux62 2 = (vI s13.2.2.1):=(hI.2 2 d2 _ rfl).2
        have f3 : ux62 3 = (ptr b7 (0 + (s13.2.2.1).toNat * 4)):=(hI.2 3 d3 _ rfl).2
        have f4 : ux62 4 = (Value.agg (enc x64).toArray):=(hI.2 4 d4 _ rfl).2
        have f5 : ux62 5 = (vI j18):=(hI.2 5 d5 _ rfl).2
        have f6 : ux62 6 = (ptr b7 (0 + (j18).toNat * 4)):=(hI.2 6 d6 _ rfl).2
        have f7 : ux62 7 = (Value.agg (enc x67).toArray):=(hI.2 7 d7 _ rfl).2
        have f8 : ux62 8 = (ptr b7 (0 + (j18).toNat * 4)):=(hI.2 8 d8 _ rfl).2
        have hM:=hM.togB (pre:=[_,_]) d9
        have hE:=hE.sub (e':=[(46,vI s13.2.2.1),(52,(Value.agg (enc x67).toArray)),(0,vI p0),(3,(ptr b1 0)),(5,(ptr b3 0)),(6,(ptr b7 0)),(7,vB s13.2.2.2),(8,vI s13.2.2.1),(9,vI j18),(16,vI s13.2.2.1)]) ⟨lk rfl f1,lk rfl f7,rfl,rfl,rfl,rfl,rfl,rfl,rfl,rfl,trivial⟩
        obtain ⟨x73,hi72,hl60⟩:=bvx hl60
        refine Zm hE rfl rfl Tryz.underlying26 Yh hi72.1 ?_; intro a hE
        have hM:=hM.pull2
        refine Zo (seg:=enc x67) (cs':=enc ((s13.2.1.setIfInBounds (j18).toNat x64).setIfInBounds (s13.2.2.1).toNat x67)) hE hM Zd rfl rfl rfl Yh (Flat.len _) (ZH (v:=(s13.2.1.setIfInBounds (j18).toNat x64)) (x:=x67) hi72.1) (Flat.cell _) (ZA (v:=(s13.2.1.setIfInBounds (j18).toNat x64)) (x:=x67) hi72.1) fun w a hM hE=>Zj ?_
        obtain rfl:=Option.some.inj hl60
        refine Zl ?_
        exact ⟨hE.sub ⟨rfl,rfl,rfl,rfl,rfl,rfl,rfl,trivial⟩,hM⟩
      ·skip
       rintro a w ⟨hE,hM⟩
       refine Za (Ze hE rfl fun a hE=>Ze hE rfl fun a hE=>Ze hE rfl fun a hE=>Ze hE rfl ?_); intro a hE
       obtain ⟨x77,hi76,hF61⟩:=bvx hF61
       refine Zm hE rfl rfl Tryz.underlying26 Yh hi76.1 ?_; intro a hE
       obtain ⟨x80,hi79,hF61⟩:=bvx hF61
       refine Zm hE rfl rfl Tryz.underlying24 ty5 hi79.1 fun a hE=>Zx (v:=(vB x80)) hE rfl ty5 rfl (At.vec (At.vec hM.rawAt2 hi76.2) hi79.2) ?_; intro a hE
       obtain ⟨r82,e83,hF61⟩:=bind_some hF61
       refine Zv hE rfl By (YJ _ p0 s13.2.2.2 x80 r82 e83) ?_
       rintro v w a ⟨rfl,hK⟩ hE
       have hM:=hM.keep hK
       refine Zb hE rfl fun a hE=>Zf (Za (Ze hE rfl fun a hE=>Ze hE rfl fun a hE=>Ze hE rfl ?_)); intro a hE
       obtain ⟨x85,hi84,hF61⟩:=bvx hF61
       refine Zm hE rfl rfl Tryz.underlying26 Yh hi84.1 ?_; intro a hE
       obtain ⟨x88,hi87,hF61⟩:=bvx hF61
       refine Zm hE rfl rfl Tryz.underlying24 ty5 hi87.1 fun a hE=>Zx (v:=(vB x88)) hE rfl ty5 rfl (At.vec (At.vec hM.rawAt2 hi84.2) hi87.2) ?_; intro a hE
       obtain ⟨r90,e91,hF61⟩:=bind_some hF61
       refine Zv hE rfl cb44 (U7 _ p0 x88 r90 e91) ?_
       rintro v w a ⟨rfl,hK⟩ hE
       have hM:=hM.keep hK
       refine Zb hE rfl fun a hE=>Zf (wp_seq (Za (Ze hE rfl fun a hE=>Zf ?_)))
       obtain ⟨j92,hl93,hF94⟩:=bind_some hF61
       refine ZJ (fun a w=>Env 153 a [(0,vI p0),(3,(ptr b1 0)),(5,(ptr b3 0)),(6,(ptr b7 0)),(7,vB r82),(8,vI s13.2.2.1),(16,vI s13.2.2.1)] ∧ M (Old w0) w0 w [raw b7 (enc j92.2),raw b3 (enc (Vector.replicate 4 (Vector.replicate 4 (0 : UInt8)))),raw b1 (enc j92.1)]) ?_ ?_
       ·skip
        refine wp_block ?_
        refine ZE (fun (s95 : (Vector (Vector UInt8 4) 4) × (Vector (Vector UInt8 4) 4) × Int) a w=>Env 153 a [(0,vI p0),(3,(ptr b1 0)),(5,(ptr b3 0)),(6,(ptr b7 0)),(7,vB r82),(8,vI s13.2.2.1),(10,vB r90),(16,vI s13.2.2.1),(70,vI s95.2.2)] ∧ M (Old w0) w0 w [raw b7 (enc s95.2.1),raw b3 (enc (Vector.replicate 4 (Vector.replicate 4 (0 : UInt8)))),raw b1 (enc s95.1)]) hl93 ⟨hE.sub ⟨rfl,rfl,rfl,rfl,rfl,rfl,rfl,rfl,rfl,trivial⟩,hM⟩ ?_
        rintro s95 a w ⟨hE,hM⟩ o98 hs96 hx97
        unfold XW at hs96
        refine Za (Zk hE rfl rfl rfl fun a hE=>Zf (wp_seq ?_))
        refine Zq hE rfl ?_ ?_
        ·intro hb99
         have hs96:=Zu hs96 hb99
         refine wp_skip (Zy (wp_seq (wp_block (Za (Ze hE rfl fun a hE=>Zb hE rfl fun a hE=>Zf ?_)))))
         have hM:=hM.pull2
         obtain ⟨x102,hi101,hs96⟩:=bvx hs96
         obtain ⟨x105,hi104,hs96⟩:=bvx hs96
         obtain ⟨r107,e108,hs96⟩:=bind_some hs96
         obtain ⟨x110,hi109,hs96⟩:=bvx hs96
         obtain ⟨x113,hi112,hs96⟩:=bvx hs96
         obtain ⟨r115,e116,hs96⟩:=bind_some hs96
         obtain ⟨x118,hi117,hs96⟩:=bvx hs96
         obtain ⟨x121,hi120,hs96⟩:=bvx hs96
         obtain ⟨x124,hi123,hs96⟩:=bvx hs96
         refine TU (n:=153) (hd:=[_,_,_,_,_,_,_,_,_,_,_,_,_,_,_,_,_,_,_,_,_,_,_,_]) (tl:=[_,_]) Yx rfl rfl [73,74,75,76,77,78,79,80,81,82,83,84,85,86,87,88,89,90,91,92,93,94,175,95] (by decide) (fun D u w=>M (Old w0) w0 w ([raw b7 (enc s95.2.1),raw b3 (enc (Vector.replicate 4 (Vector.replicate 4 (0 : UInt8))))] ++ qL ([mkT 22 (raw b1 (enc s95.1)) (raw b1 (enc (s95.1.setIfInBounds (s13.2.2.1).toNat (x118.setIfInBounds (s95.2.2).toNat r107))))] : Mk) D u) ∧ GOk ([([],fun us v=>v = (vI s13.2.2.1)),([],fun us v=>v = (vI s95.2.2)),([],fun us v=>v = (vI s13.2.2.1)),([],fun us v=>v = (vI s95.2.2)),([],fun us v=>v = (vI p0)),([],fun us v=>v = (vI s13.2.2.1)),([],fun us v=>v = (vI s95.2.2)),([],fun us v=>v = (ptr b1 (0 + (s13.2.2.1).toNat * 4))),([],fun us v=>v = (ptr b1 (0 + (s13.2.2.1).toNat * 4 + (s95.2.2).toNat * 1))),([],fun us v=>v = (vB x105)),([],fun us v=>v = (vB r90)),([],fun us v=>v = (vB r107)),([],fun us v=>v = (vI p0)),([],fun us v=>v = (vI s13.2.2.1)),([],fun us v=>v = (vI s95.2.2)),([],fun us v=>v = (ptr b7 (0 + (s13.2.2.1).toNat * 4))),([],fun us v=>v = (ptr b7 (0 + (s13.2.2.1).toNat * 4 + (s95.2.2).toNat * 1))),([],fun us v=>v = (vB x113)),([],fun us v=>v = (vB r90)),([],fun us v=>v = (vB r115)),([],fun us v=>v = (ptr b1 (0 + (s13.2.2.1).toNat * 4))),([],fun us v=>v = (ptr b1 (0 + (s13.2.2.1).toNat * 4 + (s95.2.2).toNat * 1))),([],fun us v=>True),([],fun us v=>v = (ptr b7 (0 + (s13.2.2.1).toNat * 4)))] : Gs) D u) hE (fun u=>⟨M.qT (M.q0 hM.drew u),Ae⟩) (st24 ?_ ?_ ?_ ?_ ?_ ?_ ?_ ?_ ?_ ?_ ?_ ?_ ?_ ?_ ?_ ?_ ?_ ?_ ?_ ?_ ?_ ?_ ?_ ?_) ?_
         ·intro a w ux100 D hE hI hD hdc hp
          have hM0:=hI.1
          have hM:=hI.1
          have hM:=hM.togA (pre:=[_,_]) (Bool.eq_false_iff.2 fun hx=>Bool.noConfusion (hD.symm.trans (hdc 22 _ _ rfl (List.mem_of_getElem? (i:=3) rfl) rfl hx)))
          exact Ze hE rfl fun a hE=>⟨_,_,rfl,hE,M.qKeep hM0 rfl,hI.2.put hD rfl ZN rfl⟩
         ·intro a w ux100 D hE hI hD hdc hp
          have hM0:=hI.1
          have hM:=hI.1
          have hM:=hM.togA (pre:=[_,_]) (Bool.eq_false_iff.2 fun hx=>Bool.noConfusion (hD.symm.trans (hdc 22 _ _ rfl (List.mem_of_getElem? (i:=4) rfl) rfl hx)))
          exact Ze hE rfl fun a hE=>⟨_,_,rfl,hE,M.qKeep hM0 rfl,hI.2.put hD rfl ZN rfl⟩
         ·intro a w ux100 D hE hI hD hdc hp
          have hM0:=hI.1
          exact Ze hE rfl fun a hE=>⟨_,_,rfl,hE,M.qKeep hM0 rfl,hI.2.put hD rfl ZN rfl⟩
         ·intro a w ux100 D hE hI hD hdc hp
          have hM0:=hI.1
          exact Ze hE rfl fun a hE=>⟨_,_,rfl,hE,M.qKeep hM0 rfl,hI.2.put hD rfl ZN rfl⟩
         ·intro a w ux100 D hE hI hD hdc hp
          have hM0:=hI.1
          have hM:=hI.1
          have hM:=hM.togA (pre:=[_,_]) (Bool.eq_false_iff.2 fun hx=>Bool.noConfusion (hD.symm.trans (hdc 22 _ _ rfl (List.mem_of_getElem? (i:=7) rfl) rfl hx)))
          exact Ze hE rfl fun a hE=>⟨_,_,rfl,hE,M.qKeep hM0 rfl,hI.2.put hD rfl ZN rfl⟩
         ·intro a w ux100 D hE hI hD hdc hp
          have hM0:=hI.1
          have hM:=hI.1
          have hM:=hM.togA (pre:=[_,_]) (Bool.eq_false_iff.2 fun hx=>Bool.noConfusion (hD.symm.trans (hdc 22 _ _ rfl (List.mem_of_getElem? (i:=8) rfl) rfl hx)))
          exact Ze hE rfl fun a hE=>⟨_,_,rfl,hE,M.qKeep hM0 rfl,hI.2.put hD rfl ZN rfl⟩
         ·intro a w ux100 D hE hI hD hdc hp
          have hM0:=hI.1
          have hM:=hI.1
          have hM:=hM.togA (pre:=[_,_]) (Bool.eq_false_iff.2 fun hx=>Bool.noConfusion (hD.symm.trans (hdc 22 _ _ rfl (List.mem_of_getElem? (i:=9) rfl) rfl hx)))
          exact Ze hE rfl fun a hE=>⟨_,_,rfl,hE,M.qKeep hM0 rfl,hI.2.put hD rfl ZN rfl⟩
         ·intro a w ux100 D hE hI hD hdc hp
          have d5 : D 5 = true:=hp 0 _ rfl rfl
          have g5:=hI.2 5 d5 _ rfl
          have f5 : ux100 5 = (vI s13.2.2.1):=g5.2
          have hM0:=hI.1
          have hM:=hI.1
          have hM:=hM.togA (pre:=[_,_]) (Bool.eq_false_iff.2 fun hx=>Bool.noConfusion (hD.symm.trans (hdc 22 _ _ rfl (List.mem_of_getElem? (i:=10) rfl) rfl hx)))
          exact Zm hE rfl (lk rfl f5) Tryz.underlying26 Yh hi101.1 fun a hE=>⟨_,_,rfl,hE,M.qKeep hM0 rfl,hI.2.put hD rfl ZN rfl⟩
         ·intro a w ux100 D hE hI hD hdc hp
          have d6 : D 6 = true:=hp 1 _ rfl rfl
          have g6:=hI.2 6 d6 _ rfl
          have f6 : ux100 6 = (vI s95.2.2):=g6.2
          have d7 : D 7 = true:=hp 0 _ rfl rfl
          have g7:=hI.2 7 d7 _ rfl
          have f7 : ux100 7 = (ptr b1 (0 + (s13.2.2.1).toNat * 4)):=g7.2
          have hM0:=hI.1
          have hM:=hI.1
          have hM:=hM.togA (pre:=[_,_]) (Bool.eq_false_iff.2 fun hx=>Bool.noConfusion (hD.symm.trans (hdc 22 _ _ rfl (List.mem_of_getElem? (i:=11) rfl) rfl hx)))
          exact Zm hE (lk rfl f7) (lk rfl f6) Tryz.underlying24 ty5 hi104.1 fun a hE=>⟨_,_,rfl,hE,M.qKeep hM0 rfl,hI.2.put hD rfl ZN rfl⟩
         ·intro a w ux100 D hE hI hD hdc hp
          have d8 : D 8 = true:=hp 0 _ rfl rfl
          have g8:=hI.2 8 d8 _ rfl
          have f8 : ux100 8 = (ptr b1 (0 + (s13.2.2.1).toNat * 4 + (s95.2.2).toNat * 1)):=g8.2
          have hM0:=hI.1
          have hM:=hI.1
          have hM:=hM.togA (pre:=[_,_]) (Bool.eq_false_iff.2 fun hx=>Bool.noConfusion (hD.symm.trans (hdc 22 _ _ rfl (List.mem_of_getElem? (i:=12) rfl) rfl hx)))
          exact Zx (v:=(vB x105)) hE (lk rfl f8) ty5 rfl (At.vec (At.vec hM.rawAt2 hi101.2) hi104.2) fun a hE=>⟨_,_,rfl,hE,M.qKeep hM0 rfl,hI.2.put hD rfl ZN rfl⟩
         ·intro a w ux100 D hE hI hD hdc hp
          have hM0:=hI.1
          have hM:=hI.1
          have hM:=hM.togA (pre:=[_,_]) (Bool.eq_false_iff.2 fun hx=>Bool.noConfusion (hD.symm.trans (hdc 22 _ _ rfl (List.mem_of_getElem? (i:=13) rfl) rfl hx)))
          exact Ze hE rfl fun a hE=>⟨_,_,rfl,hE,M.qKeep hM0 rfl,hI.2.put hD rfl ZN rfl⟩
         ·intro a w ux100 D hE hI hD hdc hp
          have d4 : D 4 = true:=hp 0 _ rfl rfl
          have g4:=hI.2 4 d4 _ rfl
          have f4 : ux100 4 = (vI p0):=g4.2
          have d9 : D 9 = true:=hp 1 _ rfl rfl
          have g9:=hI.2 9 d9 _ rfl
          have f9 : ux100 9 = (vB x105):=g9.2
          have d10 : D 10 = true:=hp 2 _ rfl rfl
          have g10:=hI.2 10 d10 _ rfl
          have f10 : ux100 10 = (vB r90):=g10.2
          have hM0:=hI.1
          have hM:=hI.1
          have hM:=hM.togA (pre:=[_,_]) (Bool.eq_false_iff.2 fun hx=>Bool.noConfusion (hD.symm.trans (hdc 22 _ _ rfl (List.mem_of_getElem? (i:=1) rfl) rfl hx)))
          refine Zv hE (ZU (ZR (lk rfl f4) (ZR (lk rfl f9) (ZR (lk rfl f10) Xf)))) By (YJ _ p0 x105 r90 r107 e108) ?_
          rintro v w a ⟨rfl,hK⟩ hE
          exact ⟨_,_,rfl,hE,M.qKeep (hM0.keep hK) rfl,hI.2.put hD rfl ZN rfl⟩
         ·intro a w ux100 D hE hI hD hdc hp
          have hM0:=hI.1
          exact Ze hE rfl fun a hE=>⟨_,_,rfl,hE,M.qKeep hM0 rfl,hI.2.put hD rfl ZN rfl⟩
         ·intro a w ux100 D hE hI hD hdc hp
          have hM0:=hI.1
          exact Ze hE rfl fun a hE=>⟨_,_,rfl,hE,M.qKeep hM0 rfl,hI.2.put hD rfl ZN rfl⟩
         ·intro a w ux100 D hE hI hD hdc hp
          have hM0:=hI.1
          exact Ze hE rfl fun a hE=>⟨_,_,rfl,hE,M.qKeep hM0 rfl,hI.2.put hD rfl ZN rfl⟩
         ·intro a w ux100 D hE hI hD hdc hp
          have d13 : D 13 = true:=hp 0 _ rfl rfl
          have g13:=hI.2 13 d13 _ rfl
          have f13 : ux100 13 = (vI s13.2.2.1):=g13.2
          have hM0:=hI.1
          exact Zm hE rfl (lk rfl f13) Tryz.underlying26 Yh hi109.1 fun a hE=>⟨_,_,rfl,hE,M.qKeep hM0 rfl,hI.2.put hD rfl ZN rfl⟩
         ·intro a w ux100 D hE hI hD hdc hp
          have d14 : D 14 = true:=hp 1 _ rfl rfl
          have g14:=hI.2 14 d14 _ rfl
          have f14 : ux100 14 = (vI s95.2.2):=g14.2
          have d15 : D 15 = true:=hp 0 _ rfl rfl
          have g15:=hI.2 15 d15 _ rfl
          have f15 : ux100 15 = (ptr b7 (0 + (s13.2.2.1).toNat * 4)):=g15.2
          have hM0:=hI.1
          exact Zm hE (lk rfl f15) (lk rfl f14) Tryz.underlying24 ty5 hi112.1 fun a hE=>⟨_,_,rfl,hE,M.qKeep hM0 rfl,hI.2.put hD rfl ZN rfl⟩
         ·intro a w ux100 D hE hI hD hdc hp
          have d16 : D 16 = true:=hp 0 _ rfl rfl
          have g16:=hI.2 16 d16 _ rfl
          have f16 : ux100 16 = (ptr b7 (0 + (s13.2.2.1).toNat * 4 + (s95.2.2).toNat * 1)):=g16.2
          have hM0:=hI.1
          have hM:=hI.1
          exact Zx (v:=(vB x113)) hE (lk rfl f16) ty5 rfl (At.vec (At.vec hM.rawAt0 hi109.2) hi112.2) fun a hE=>⟨_,_,rfl,hE,M.qKeep hM0 rfl,hI.2.put hD rfl ZN rfl⟩
         ·intro a w ux100 D hE hI hD hdc hp
          have hM0:=hI.1
          exact Ze hE rfl fun a hE=>⟨_,_,rfl,hE,M.qKeep hM0 rfl,hI.2.put hD rfl ZN rfl⟩
         ·intro a w ux100 D hE hI hD hdc hp
          have d12 : D 12 = true:=hp 0 _ rfl rfl
          have g12:=hI.2 12 d12 _ rfl
          have f12 : ux100 12 = (vI p0):=g12.2
          have d17 : D 17 = true:=hp 1 _ rfl rfl
          have g17:=hI.2 17 d17 _ rfl
          have f17 : ux100 17 = (vB x113):=g17.2
          have d18 : D 18 = true:=hp 2 _ rfl rfl
          have g18:=hI.2 18 d18 _ rfl
          have f18 : ux100 18 = (vB r90):=g18.2
          have hM0:=hI.1
          have hM:=hI.1
          have hM:=hM.togA (pre:=[_,_]) (Bool.eq_false_iff.2 fun hx=>Bool.noConfusion (hD.symm.trans (hdc 22 _ _ rfl (List.mem_of_getElem? (i:=2) rfl) rfl hx)))
          refine Zv hE (ZU (ZR (lk rfl f12) (ZR (lk rfl f17) (ZR (lk rfl f18) Xf)))) By (YJ _ p0 x113 r90 r115 e116) ?_
          rintro v w a ⟨rfl,hK⟩ hE
          exact ⟨_,_,rfl,hE,M.qKeep (hM0.keep hK) rfl,hI.2.put hD rfl ZN rfl⟩
         ·intro a w ux100 D hE hI hD hdc hp
          have d0 : D 0 = true:=hp 0 _ rfl rfl
          have g0:=hI.2 0 d0 _ rfl
          have f0 : ux100 0 = (vI s13.2.2.1):=g0.2
          have hM0:=hI.1
          exact Zm hE rfl (lk rfl f0) Tryz.underlying26 Yh hi117.1 fun a hE=>⟨_,_,rfl,hE,M.qKeep hM0 rfl,hI.2.put hD rfl ZN rfl⟩
         ·intro a w ux100 D hE hI hD hdc hp
          have d1 : D 1 = true:=hp 1 _ rfl rfl
          have g1:=hI.2 1 d1 _ rfl
          have f1 : ux100 1 = (vI s95.2.2):=g1.2
          have d20 : D 20 = true:=hp 0 _ rfl rfl
          have g20:=hI.2 20 d20 _ rfl
          have f20 : ux100 20 = (ptr b1 (0 + (s13.2.2.1).toNat * 4)):=g20.2
          have hM0:=hI.1
          have hM:=hI.1
          have hM:=hM.togA (pre:=[_,_]) (Bool.eq_false_iff.2 fun hx=>Bool.noConfusion (hD.symm.trans (hdc 22 _ _ rfl (List.mem_of_getElem? (i:=0) rfl) rfl hx)))
          exact Zm hE (lk rfl f20) (lk rfl f1) Tryz.underlying24 ty5 hi120.1 fun a hE=>⟨_,_,rfl,hE,M.qKeep hM0 rfl,hI.2.put hD rfl ZN rfl⟩
         ·intro a w ux100 D hE hI hD hdc hp
          have d11 : D 11 = true:=hp 1 _ rfl rfl
          have g11:=hI.2 11 d11 _ rfl
          have f11 : ux100 11 = (vB r107):=g11.2
          have d21 : D 21 = true:=hp 0 _ rfl rfl
          have g21:=hI.2 21 d21 _ rfl
          have f21 : ux100 21 = (ptr b1 (0 + (s13.2.2.1).toNat * 4 + (s95.2.2).toNat * 1)):=g21.2
          have hM0:=hI.1
          have hM:=(hI.1.togA (pre:=[_,_]) hD).pull2
          exact Zo (seg:=[vB r107]) (cs':=enc (s95.1.setIfInBounds (s13.2.2.1).toNat (x118.setIfInBounds (s95.2.2).toNat r107))) hE hM Zd (lk rfl f21) (lk rfl f11) rfl ty5 rfl (XX (o':=0 + (s95.2.2).toNat * 1) hi117 (ZH (v:=x118) (x:=r107) hi120.1) (by first | omega | (simp only [Flat.n] <;> omega))) (Flat.cell (r107 : UInt8)) (YW (o':=0 + (s95.2.2).toNat * 1) hi117 (ZH (v:=x118) (x:=r107) hi120.1) (ZA (v:=x118) (x:=r107) hi120.1) (by first | omega | (simp only [Flat.n] <;> omega))) fun w a hM hE=>⟨undef,_,rfl,Env.dummy hE (by decide),M.qTog (mk1:=[]) (mk2:=[]) hM rfl,hI.2.put hD rfl ZN trivial⟩
         ·intro a w ux100 D hE hI hD hdc hp
          have d2 : D 2 = true:=hp 0 _ rfl rfl
          have g2:=hI.2 2 d2 _ rfl
          have f2 : ux100 2 = (vI s13.2.2.1):=g2.2
          have hM0:=hI.1
          exact Zm hE rfl (lk rfl f2) Tryz.underlying26 Yh hi123.1 fun a hE=>⟨_,_,rfl,hE,M.qKeep hM0 rfl,hI.2.put hD rfl ZN rfl⟩
         ·intro a w ux100 D hE hI hall
          have hM:=hI.1
          have d0:=hall 0 (by decide)
          have d1:=hall 1 (by decide)
          have d2:=hall 2 (by decide)
          have d3:=hall 3 (by decide)
          have d4:=hall 4 (by decide)
          have d5:=hall 5 (by decide)
          have d6:=hall 6 (by decide)
          have d7:=hall 7 (by decide)
          have d8:=hall 8 (by decide)
          have d9:=hall 9 (by decide)
          have d10:=hall 10 (by decide)
          have d11:=hall 11 (by decide)
          have d12:=hall 12 (by decide)
          have d13:=hall 13 (by decide)
          have d14:=hall 14 (by decide)
          have d15:=hall 15 (by decide)
          have d16:=hall 16 (by decide)
          have d17:=hall 17 (by decide)
          have d18:=hall 18 (by decide)
          have d19:=hall 19 (by decide)
          have d20:=hall 20 (by decide)
          have d21:=hall 21 (by decide)
          have d22:=hall 22 (by decide)
          have d23:=hall 23 (by decide)
          have f0 : ux100 0 = (vI s13.2.2.1):=(hI.2 0 d0 _ rfl).2
          have f1 : ux100 1 = (vI s95.2.2):=(hI.2 1 d1 _ rfl).2
          have f2 : ux100 2 = (vI s13.2.2.1):=(hI.2 2 d2 _ rfl).2
          have f3 : ux100 3 = (vI s95.2.2):=(hI.2 3 d3 _ rfl).2
          have f4 : ux100 4 = (vI p0):=(hI.2 4 d4 _ rfl).2
          have f5 : ux100 5 = (vI s13.2.2.1):=(hI.2 5 d5 _ rfl).2
          have f6 : ux100 6 = (vI s95.2.2):=(hI.2 6 d6 _ rfl).2
          have f7 : ux100 7 = (ptr b1 (0 + (s13.2.2.1).toNat * 4)):=(hI.2 7 d7 _ rfl).2
          have f8 : ux100 8 = (ptr b1 (0 + (s13.2.2.1).toNat * 4 + (s95.2.2).toNat * 1)):=(hI.2 8 d8 _ rfl).2
          have f9 : ux100 9 = (vB x105):=(hI.2 9 d9 _ rfl).2
          have f10 : ux100 10 = (vB r90):=(hI.2 10 d10 _ rfl).2
          have f11 : ux100 11 = (vB r107):=(hI.2 11 d11 _ rfl).2
          have f12 : ux100 12 = (vI p0):=(hI.2 12 d12 _ rfl).2
          have f13 : ux100 13 = (vI s13.2.2.1):=(hI.2 13 d13 _ rfl).2
          have f14 : ux100 14 = (vI s95.2.2):=(hI.2 14 d14 _ rfl).2
          have f15 : ux100 15 = (ptr b7 (0 + (s13.2.2.1).toNat * 4)):=(hI.2 15 d15 _ rfl).2
          have f16 : ux100 16 = (ptr b7 (0 + (s13.2.2.1).toNat * 4 + (s95.2.2).toNat * 1)):=(hI.2 16 d16 _ rfl).2
          have f17 : ux100 17 = (vB x113):=(hI.2 17 d17 _ rfl).2
          have f18 : ux100 18 = (vB r90):=(hI.2 18 d18 _ rfl).2
          have f19 : ux100 19 = (vB r115):=(hI.2 19 d19 _ rfl).2
          have f20 : ux100 20 = (ptr b1 (0 + (s13.2.2.1).toNat * 4)):=(hI.2 20 d20 _ rfl).2
          have f21 : ux100 21 = (ptr b1 (0 + (s13.2.2.1).toNat * 4 + (s95.2.2).toNat * 1)):=(hI.2 21 d21 _ rfl).2
          have f23 : ux100 23 = (ptr b7 (0 + (s13.2.2.1).toNat * 4)):=(hI.2 23 d23 _ rfl).2
          have hM:=hM.togB (pre:=[_,_]) d22
          have hE:=hE.sub (e':=[(76,vI s95.2.2),(92,vB r115),(95,(ptr b7 (0 + (s13.2.2.1).toNat * 4))),(0,vI p0),(3,(ptr b1 0)),(5,(ptr b3 0)),(6,(ptr b7 0)),(7,vB r82),(8,vI s13.2.2.1),(10,vB r90),(11,vI s95.2.2),(16,vI s13.2.2.1),(70,vI s95.2.2),(71,(vT (decide (s95.2.2 < 4)))),(72,vI s95.2.2)]) ⟨lk rfl f3,lk rfl f19,lk rfl f23,rfl,rfl,rfl,rfl,rfl,rfl,rfl,rfl,rfl,rfl,rfl,rfl,trivial⟩
          obtain ⟨x127,hi126,hs96⟩:=bvx hs96
          refine Zm hE rfl rfl Tryz.underlying24 ty5 hi126.1 fun a hE=>Zo (seg:=[vB r115]) (cs':=enc (s95.2.1.setIfInBounds (s13.2.2.1).toNat (x124.setIfInBounds (s95.2.2).toNat r115))) hE hM Zd rfl rfl rfl ty5 rfl (XX (o':=0 + (s95.2.2).toNat * 1) hi123 (ZH (v:=x124) (x:=r115) hi126.1) (by first | omega | (simp only [Flat.n] <;> omega))) (Flat.cell (r115 : UInt8)) (YW (o':=0 + (s95.2.2).toNat * 1) hi123 (ZH (v:=x124) (x:=r115) hi126.1) (ZA (v:=x124) (x:=r115) hi126.1) (by first | omega | (simp only [Flat.n] <;> omega))) fun w a hM hE=>Zj (Z0 (Zy (wp_region_lit (Zk hE rfl rfl rfl fun a hE=>Ze hE rfl fun a hE=>Zj (Zl ?_)))))
          exact ⟨_,(ois hs96),hE.sub ⟨rfl,rfl,rfl,rfl,rfl,rfl,rfl,rfl,rfl,trivial⟩,hM⟩
        ·intro hb99
         have hs96:=Zt hs96 hb99
         refine wp_exit (Zp (Zp (Z1 ?_)))
         obtain rfl:=hx97 _ (ois hs96)
         refine Zl ?_
         exact ⟨hE.sub ⟨rfl,rfl,rfl,rfl,rfl,rfl,rfl,trivial⟩,hM⟩
       ·skip
        rintro a w ⟨hE,hM⟩
        refine Zy (Za (Ze hE rfl fun a hE=>Zf ?_))
        obtain ⟨j130,hl131,hF132⟩:=bind_some hF94
        refine ZJ (fun a w=>Env 153 a [(0,vI p0),(3,(ptr b1 0)),(5,(ptr b3 0)),(6,(ptr b7 0)),(7,vB r82),(16,vI s13.2.2.1)] ∧ M (Old w0) w0 w [raw b7 (enc j130.2),raw b3 (enc (Vector.replicate 4 (Vector.replicate 4 (0 : UInt8)))),raw b1 (enc j130.1)]) ?_ ?_
        ·skip
         refine wp_block ?_
         refine ZE (fun (s133 : (Vector (Vector UInt8 4) 4) × (Vector (Vector UInt8 4) 4) × Int) a w=>Env 153 a [(0,vI p0),(3,(ptr b1 0)),(5,(ptr b3 0)),(6,(ptr b7 0)),(7,vB r82),(8,vI s13.2.2.1),(16,vI s13.2.2.1),(98,vI s133.2.2)] ∧ M (Old w0) w0 w [raw b7 (enc s133.2.1),raw b3 (enc (Vector.replicate 4 (Vector.replicate 4 (0 : UInt8)))),raw b1 (enc s133.1)]) hl131 ⟨hE.sub ⟨rfl,rfl,rfl,rfl,rfl,rfl,rfl,rfl,trivial⟩,hM⟩ ?_
         rintro s133 a w ⟨hE,hM⟩ o136 hs134 hx135
         unfold X2 at hs134
         refine Za (Zk hE rfl rfl rfl fun a hE=>Zf (wp_seq ?_))
         refine Zq hE rfl ?_ ?_
         ·intro hb137
          have hs134:=Zu hs134 hb137
          refine wp_skip (Zy ?_)
          obtain ⟨j138,hl139,hF140⟩:=bind_some hs134
          refine ZI (fun a w=>Env 153 a [(0,vI p0),(3,(ptr b1 0)),(5,(ptr b3 0)),(6,(ptr b7 0)),(7,vB r82),(8,vI s13.2.2.1),(16,vI s13.2.2.1),(98,vI s133.2.2)] ∧ M (Old w0) w0 w [raw b7 (enc j138.2),raw b3 (enc (Vector.replicate 4 (Vector.replicate 4 (0 : UInt8)))),raw b1 (enc j138.1)]) ?_ ?_
          ·skip
           refine wp_block (Za (Ze hE rfl fun a hE=>Zb hE rfl fun a hE=>Zf (Za (Ze hE rfl fun a hE=>Ze hE rfl ?_)))); intro a hE
           obtain ⟨x142,hi141,hl139⟩:=bvx hl139
           refine Zm hE rfl rfl Tryz.underlying26 Yh hi141.1 ?_; intro a hE
           obtain ⟨x145,hi144,hl139⟩:=bvx hl139
           refine Zm hE rfl rfl Tryz.underlying24 ty5 hi144.1 fun a hE=>Zx (v:=(vB x145)) hE rfl ty5 rfl (At.vec (At.vec hM.rawAt2 hi141.2) hi144.2) fun a hE=>Zb hE rfl fun a hE=>Zf ?_
           obtain ⟨j147,hl148,hF149⟩:=bind_some hl139
           refine ZI (fun a w=>Env 153 a [(0,vI p0),(3,(ptr b1 0)),(5,(ptr b3 0)),(6,(ptr b7 0)),(7,vB r82),(8,vI s13.2.2.1),(12,vI s133.2.2),(13,vB x145),(16,vI s13.2.2.1),(98,vI s133.2.2),(112,vT j147)] ∧ M (Old w0) w0 w [raw b7 (enc s133.2.1),raw b3 (enc (Vector.replicate 4 (Vector.replicate 4 (0 : UInt8)))),raw b1 (enc s133.1)]) ?_ ?_
           ·skip
            refine wp_region_lit (Ze hE rfl fun a hE=>Ze hE rfl fun a hE=>Zk hE rfl rfl rfl fun a hE=>Ze hE rfl ?_); intro a hE
            refine Yb (s133.2.2 != s13.2.2.1) (fun hb150=>?_) (fun hb150=>?_)
            ·have hl148:=Zu hl148 hb150
             refine Y3 hE (Zi hE rfl (lkb rfl hb150)) (by decide) rfl fun a hE=>Wa hE (Zi hE rfl (lkb rfl hb150)) (by decide) rfl rfl (Kq x145 0) fun a hE=>ZG hE (lkb rfl hb150) rfl fun a hE=>Zj ?_
             obtain rfl:=Option.some.inj hl148
             refine Zl ?_
             exact ⟨hE.sub ⟨rfl,rfl,rfl,rfl,rfl,rfl,rfl,rfl,rfl,rfl,rfl,trivial⟩,hM⟩
            ·have hl148:=Zt hl148 hb150
             refine Zh hE rfl (lkb rfl hb150) rfl (by decide) fun a hE=>Zh hE rfl (lkb rfl hb150) rfl (by decide) fun a hE=>ZL hE (lkb rfl hb150) rfl fun a hE=>Zj ?_
             obtain rfl:=Option.some.inj hl148
             refine Zl ?_
             exact ⟨hE.sub ⟨rfl,rfl,rfl,rfl,rfl,rfl,rfl,rfl,rfl,rfl,rfl,trivial⟩,hM⟩
           ·skip
            rintro a w ⟨hE,hM⟩
            obtain ⟨j153,hl154,hF155⟩:=bind_some hF149
            refine ZJ (fun a w=>Env 153 a [(0,vI p0),(3,(ptr b1 0)),(5,(ptr b3 0)),(6,(ptr b7 0)),(7,vB r82),(8,vI s13.2.2.1),(16,vI s13.2.2.1),(98,vI s133.2.2)] ∧ M (Old w0) w0 w [raw b7 (enc j153.2),raw b3 (enc (Vector.replicate 4 (Vector.replicate 4 (0 : UInt8)))),raw b1 (enc j153.1)]) ?_ ?_
            ·skip
             refine Zq hE rfl ?_ ?_
             ·intro hb156
              have hl154:=Zu hl154 hb156
              refine Za (Ze hE rfl fun a hE=>Zf ?_)
              obtain ⟨j157,hl158,hF159⟩:=bind_some hl154
              refine ZJ (fun a w=>Env 153 a [(0,vI p0),(3,(ptr b1 0)),(5,(ptr b3 0)),(6,(ptr b7 0)),(7,vB r82),(8,vI s13.2.2.1),(16,vI s13.2.2.1),(98,vI s133.2.2)] ∧ M (Old w0) w0 w [raw b7 (enc j157.2),raw b3 (enc (Vector.replicate 4 (Vector.replicate 4 (0 : UInt8)))),raw b1 (enc j157.1)]) ?_ ?_
              ·skip
               refine wp_block ?_
               refine ZE (fun (s160 : (Vector (Vector UInt8 4) 4) × (Vector (Vector UInt8 4) 4) × Int) a w=>Env 153 a [(0,vI p0),(3,(ptr b1 0)),(5,(ptr b3 0)),(6,(ptr b7 0)),(7,vB r82),(8,vI s13.2.2.1),(12,vI s133.2.2),(13,vB x145),(16,vI s13.2.2.1),(98,vI s133.2.2),(113,vI s160.2.2)] ∧ M (Old w0) w0 w [raw b7 (enc s160.2.1),raw b3 (enc (Vector.replicate 4 (Vector.replicate 4 (0 : UInt8)))),raw b1 (enc s160.1)]) hl158 ⟨hE.sub ⟨rfl,rfl,rfl,rfl,rfl,rfl,rfl,rfl,rfl,rfl,rfl,trivial⟩,hM⟩ ?_
               rintro s160 a w ⟨hE,hM⟩ o163 hs161 hx162
               unfold XY at hs161
               refine Za (Zk hE rfl rfl rfl fun a hE=>Zf (wp_seq ?_))
               refine Zq hE rfl ?_ ?_
               ·intro hb164
                have hs161:=Zu hs161 hb164
                refine wp_skip (Zy (wp_seq (wp_block (Za (Ze hE rfl fun a hE=>Zb hE rfl fun a hE=>Zf ?_)))))
                obtain ⟨j165,hl166,hF167⟩:=bind_some hs161
                refine ZI (fun a w=>Env 153 a [(0,vI p0),(3,(ptr b1 0)),(5,(ptr b3 0)),(6,(ptr b7 0)),(7,vB r82),(8,vI s13.2.2.1),(12,vI s133.2.2),(13,vB x145),(14,vI s160.2.2),(16,vI s13.2.2.1),(98,vI s133.2.2),(113,vI s160.2.2)] ∧ M (Old w0) w0 w [raw b7 (enc s160.2.1),raw b3 (enc (Vector.replicate 4 (Vector.replicate 4 (0 : UInt8)))),raw b1 (enc j165)]) ?_ ?_
                ·skip
                 obtain ⟨x170,hi169,hl166⟩:=bvx hl166
                 obtain ⟨x173,hi172,hl166⟩:=bvx hl166
                 obtain ⟨x176,hi175,hl166⟩:=bvx hl166
                 obtain ⟨x179,hi178,hl166⟩:=bvx hl166
                 obtain ⟨r181,e182,hl166⟩:=bind_some hl166
                 obtain ⟨x184,hi183,hl166⟩:=bvx hl166
                 obtain ⟨x187,hi186,hl166⟩:=bvx hl166
                 refine ZX (n:=153) (hd:=[_,_,_,_,_,_,_,_,_,_,_,_,_,_,_,_]) (tl:=[_]) Yx rfl rfl [116,117,118,119,120,121,122,123,124,125,126,127,128,129,130,131] (by decide) (fun w=>M (Old w0) w0 w [raw b7 (enc s160.2.1),raw b3 (enc (Vector.replicate 4 (Vector.replicate 4 (0 : UInt8)))),raw b1 (enc s160.1)]) (fun j=>([fun v _=>v = (vI s133.2.2),fun v _=>v = (vI s160.2.2),fun v _=>v = (ptr b1 (0 + (s133.2.2).toNat * 4)),fun v _=>v = (ptr b1 (0 + (s133.2.2).toNat * 4 + (s160.2.2).toNat * 1)),fun v _=>v = (vB x173),fun v _=>v = (vI p0),fun v _=>v = (vB x145),fun v _=>v = (vI s13.2.2.1),fun v _=>v = (vI s160.2.2),fun v _=>v = (ptr b1 (0 + (s13.2.2.1).toNat * 4)),fun v _=>v = (ptr b1 (0 + (s13.2.2.1).toNat * 4 + (s160.2.2).toNat * 1)),fun v _=>v = (vB x179),fun v _=>v = (vB r181),fun v _=>v = (vB (x173 ^^^ r181)),fun v _=>v = (ptr b1 (0 + (s133.2.2).toNat * 4)),fun v _=>v = (ptr b1 (0 + (s133.2.2).toNat * 4 + (s160.2.2).toNat * 1))] : List (Value → World → Prop)).getD j (fun _ _=>True)) (fun _ _ h hk=>h.keep hk) (gup gu16) hE hM.drew (st16 ?_ ?_ ?_ ?_ ?_ ?_ ?_ ?_ ?_ ?_ ?_ ?_ ?_ ?_ ?_ ?_) ?_
                 ·exact qm
                 ·exact qm
                 ·intro a w ux168 hE hM hp
                  have f0 : ux168 0 = (vI s133.2.2):=hp 0 _ rfl rfl
                  exact Zm hE rfl (lk rfl f0) Tryz.underlying26 Yh hi169.1 fun a hE=>kq rfl hE rfl
                 ·intro a w ux168 hE hM hp
                  have f1 : ux168 1 = (vI s160.2.2):=hp 1 _ rfl rfl
                  have f2 : ux168 2 = (ptr b1 (0 + (s133.2.2).toNat * 4)):=hp 0 _ rfl rfl
                  exact Zm hE (lk rfl f2) (lk rfl f1) Tryz.underlying24 ty5 hi172.1 fun a hE=>kq rfl hE rfl
                 ·intro a w ux168 hE hM hp
                  have f3 : ux168 3 = (ptr b1 (0 + (s133.2.2).toNat * 4 + (s160.2.2).toNat * 1)):=hp 0 _ rfl rfl
                  exact Zx (v:=(vB x173)) hE (lk rfl f3) ty5 rfl (At.vec (At.vec hM.rawAt2 hi169.2) hi172.2) fun a hE=>kq rfl hE rfl
                 ·exact qm
                 ·exact qm
                 ·exact qm
                 ·exact qm
                 ·intro a w ux168 hE hM hp
                  have f7 : ux168 7 = (vI s13.2.2.1):=hp 0 _ rfl rfl
                  exact Zm hE rfl (lk rfl f7) Tryz.underlying26 Yh hi175.1 fun a hE=>kq rfl hE rfl
                 ·intro a w ux168 hE hM hp
                  have f8 : ux168 8 = (vI s160.2.2):=hp 1 _ rfl rfl
                  have f9 : ux168 9 = (ptr b1 (0 + (s13.2.2.1).toNat * 4)):=hp 0 _ rfl rfl
                  exact Zm hE (lk rfl f9) (lk rfl f8) Tryz.underlying24 ty5 hi178.1 fun a hE=>kq rfl hE rfl
                 ·intro a w ux168 hE hM hp
                  have f10 : ux168 10 = (ptr b1 (0 + (s13.2.2.1).toNat * 4 + (s160.2.2).toNat * 1)):=hp 0 _ rfl rfl
                  exact Zx (v:=(vB x179)) hE (lk rfl f10) ty5 rfl (At.vec (At.vec hM.rawAt2 hi175.2) hi178.2) fun a hE=>kq rfl hE rfl
                 ·intro a w ux168 hE hM hp
                  have f5 : ux168 5 = (vI p0):=hp 0 _ rfl rfl
                  have f6 : ux168 6 = (vB x145):=hp 1 _ rfl rfl
                  have f11 : ux168 11 = (vB x179):=hp 2 _ rfl rfl
                  refine Zv hE (ZU (ZR (lk rfl f5) (ZR (lk rfl f6) (ZR (lk rfl f11) Xf)))) By (YJ _ p0 x145 x179 r181 e182) ?_
                  rintro v w a ⟨rfl,hK⟩ hE
                  exact ⟨hK,_,_,rfl,hE,rfl⟩
                 ·intro a w ux168 hE hM hp
                  have f4 : ux168 4 = (vB x173):=hp 0 _ rfl rfl
                  have f12 : ux168 12 = (vB r181):=hp 1 _ rfl rfl
                  exact Zk hE (lk rfl f4) (lk rfl f12) (VA x173 r181) fun a hE=>kq rfl hE rfl
                 ·intro a w ux168 hE hM hp
                  have f0 : ux168 0 = (vI s133.2.2):=hp 0 _ rfl rfl
                  exact Zm hE rfl (lk rfl f0) Tryz.underlying26 Yh hi183.1 fun a hE=>kq rfl hE rfl
                 ·intro a w ux168 hE hM hp
                  have f1 : ux168 1 = (vI s160.2.2):=hp 1 _ rfl rfl
                  have f14 : ux168 14 = (ptr b1 (0 + (s133.2.2).toNat * 4)):=hp 0 _ rfl rfl
                  exact Zm hE (lk rfl f14) (lk rfl f1) Tryz.underlying24 ty5 hi186.1 fun a hE=>kq rfl hE rfl
                 ·intro a w ux168 hE hM hg
                  have hE:=hE.sub (e':=[(129,(vB (x173 ^^^ r181))),(131,(ptr b1 (0 + (s133.2.2).toNat * 4 + (s160.2.2).toNat * 1))),(0,vI p0),(3,(ptr b1 0)),(5,(ptr b3 0)),(6,(ptr b7 0)),(7,vB r82),(8,vI s13.2.2.1),(12,vI s133.2.2),(13,vB x145),(14,vI s160.2.2),(16,vI s13.2.2.1),(98,vI s133.2.2),(113,vI s160.2.2),(114,(vT (decide (s160.2.2 < 4)))),(115,vI s160.2.2)]) ⟨lk rfl (hg 13 (by decide)),lk rfl (hg 15 (by decide)),rfl,rfl,rfl,rfl,rfl,rfl,rfl,rfl,rfl,rfl,rfl,rfl,rfl,rfl,trivial⟩
                  have hM:=hM.pull2
                  refine Zo (seg:=[(vB (x173 ^^^ r181))]) (cs':=enc (s160.1.setIfInBounds (s133.2.2).toNat (x184.setIfInBounds (s160.2.2).toNat (x173 ^^^ r181)))) hE hM Zd rfl rfl rfl ty5 rfl (XX (o':=0 + (s160.2.2).toNat * 1) hi183 (ZH (v:=x184) (x:=x173 ^^^ r181) hi186.1) (by first | omega | (simp only [Flat.n] <;> omega))) (Flat.cell (x173 ^^^ r181 : UInt8)) (YW (o':=0 + (s160.2.2).toNat * 1) hi183 (ZH (v:=x184) (x:=x173 ^^^ r181) hi186.1) (ZA (v:=x184) (x:=x173 ^^^ r181) hi186.1) (by first | omega | (simp only [Flat.n] <;> omega))) fun w a hM hE=>Zj ?_
                  obtain rfl:=Option.some.inj hl166
                  refine Zl ?_
                  have hM:=hM.pull2.pull2
                  exact ⟨hE.sub ⟨rfl,rfl,rfl,rfl,rfl,rfl,rfl,rfl,rfl,rfl,rfl,rfl,trivial⟩,hM⟩
                ·skip
                 rintro a w ⟨hE,hM⟩
                 obtain ⟨x192,hi191,hF167⟩:=bvx hF167
                 obtain ⟨x195,hi194,hF167⟩:=bvx hF167
                 obtain ⟨x198,hi197,hF167⟩:=bvx hF167
                 obtain ⟨x201,hi200,hF167⟩:=bvx hF167
                 obtain ⟨r203,e204,hF167⟩:=bind_some hF167
                 obtain ⟨x206,hi205,hF167⟩:=bvx hF167
                 obtain ⟨x209,hi208,hF167⟩:=bvx hF167
                 refine ZX (n:=153) (hd:=[_,_,_,_,_,_,_,_,_,_,_,_,_,_,_,_]) (tl:=[_]) Yx rfl rfl [132,133,134,135,136,137,138,139,140,141,142,143,144,145,146,147] (by decide) (fun w=>M (Old w0) w0 w [raw b7 (enc s160.2.1),raw b3 (enc (Vector.replicate 4 (Vector.replicate 4 (0 : UInt8)))),raw b1 (enc j165)]) (fun j=>([fun v _=>v = (vI s133.2.2),fun v _=>v = (vI s160.2.2),fun v _=>v = (ptr b7 (0 + (s133.2.2).toNat * 4)),fun v _=>v = (ptr b7 (0 + (s133.2.2).toNat * 4 + (s160.2.2).toNat * 1)),fun v _=>v = (vB x195),fun v _=>v = (vI p0),fun v _=>v = (vB x145),fun v _=>v = (vI s13.2.2.1),fun v _=>v = (vI s160.2.2),fun v _=>v = (ptr b7 (0 + (s13.2.2.1).toNat * 4)),fun v _=>v = (ptr b7 (0 + (s13.2.2.1).toNat * 4 + (s160.2.2).toNat * 1)),fun v _=>v = (vB x201),fun v _=>v = (vB r203),fun v _=>v = (vB (x195 ^^^ r203)),fun v _=>v = (ptr b7 (0 + (s133.2.2).toNat * 4)),fun v _=>v = (ptr b7 (0 + (s133.2.2).toNat * 4 + (s160.2.2).toNat * 1))] : List (Value → World → Prop)).getD j (fun _ _=>True)) (fun _ _ h hk=>h.keep hk) (gup gu16) hE hM.drew (st16 ?_ ?_ ?_ ?_ ?_ ?_ ?_ ?_ ?_ ?_ ?_ ?_ ?_ ?_ ?_ ?_) ?_
                 ·exact qm
                 ·exact qm
                 ·intro a w ux190 hE hM hp
                  have f0 : ux190 0 = (vI s133.2.2):=hp 0 _ rfl rfl
                  exact Zm hE rfl (lk rfl f0) Tryz.underlying26 Yh hi191.1 fun a hE=>kq rfl hE rfl
                 ·intro a w ux190 hE hM hp
                  have f1 : ux190 1 = (vI s160.2.2):=hp 1 _ rfl rfl
                  have f2 : ux190 2 = (ptr b7 (0 + (s133.2.2).toNat * 4)):=hp 0 _ rfl rfl
                  exact Zm hE (lk rfl f2) (lk rfl f1) Tryz.underlying24 ty5 hi194.1 fun a hE=>kq rfl hE rfl
                 ·intro a w ux190 hE hM hp
                  have f3 : ux190 3 = (ptr b7 (0 + (s133.2.2).toNat * 4 + (s160.2.2).toNat * 1)):=hp 0 _ rfl rfl
                  exact Zx (v:=(vB x195)) hE (lk rfl f3) ty5 rfl (At.vec (At.vec hM.rawAt0 hi191.2) hi194.2) fun a hE=>kq rfl hE rfl
                 ·exact qm
                 ·exact qm
                 ·exact qm
                 ·exact qm
                 ·intro a w ux190 hE hM hp
                  have f7 : ux190 7 = (vI s13.2.2.1):=hp 0 _ rfl rfl
                  exact Zm hE rfl (lk rfl f7) Tryz.underlying26 Yh hi197.1 fun a hE=>kq rfl hE rfl
                 ·intro a w ux190 hE hM hp
                  have f8 : ux190 8 = (vI s160.2.2):=hp 1 _ rfl rfl
                  have f9 : ux190 9 = (ptr b7 (0 + (s13.2.2.1).toNat * 4)):=hp 0 _ rfl rfl
                  exact Zm hE (lk rfl f9) (lk rfl f8) Tryz.underlying24 ty5 hi200.1 fun a hE=>kq rfl hE rfl
                 ·intro a w ux190 hE hM hp
                  have f10 : ux190 10 = (ptr b7 (0 + (s13.2.2.1).toNat * 4 + (s160.2.2).toNat * 1)):=hp 0 _ rfl rfl
                  exact Zx (v:=(vB x201)) hE (lk rfl f10) ty5 rfl (At.vec (At.vec hM.rawAt0 hi197.2) hi200.2) fun a hE=>kq rfl hE rfl
                 ·intro a w ux190 hE hM hp
                  have f5 : ux190 5 = (vI p0):=hp 0 _ rfl rfl
                  have f6 : ux190 6 = (vB x145):=hp 1 _ rfl rfl
                  have f11 : ux190 11 = (vB x201):=hp 2 _ rfl rfl
                  refine Zv hE (ZU (ZR (lk rfl f5) (ZR (lk rfl f6) (ZR (lk rfl f11) Xf)))) By (YJ _ p0 x145 x201 r203 e204) ?_
                  rintro v w a ⟨rfl,hK⟩ hE
                  exact ⟨hK,_,_,rfl,hE,rfl⟩
                 ·intro a w ux190 hE hM hp
                  have f4 : ux190 4 = (vB x195):=hp 0 _ rfl rfl
                  have f12 : ux190 12 = (vB r203):=hp 1 _ rfl rfl
                  exact Zk hE (lk rfl f4) (lk rfl f12) (VA x195 r203) fun a hE=>kq rfl hE rfl
                 ·intro a w ux190 hE hM hp
                  have f0 : ux190 0 = (vI s133.2.2):=hp 0 _ rfl rfl
                  exact Zm hE rfl (lk rfl f0) Tryz.underlying26 Yh hi205.1 fun a hE=>kq rfl hE rfl
                 ·intro a w ux190 hE hM hp
                  have f1 : ux190 1 = (vI s160.2.2):=hp 1 _ rfl rfl
                  have f14 : ux190 14 = (ptr b7 (0 + (s133.2.2).toNat * 4)):=hp 0 _ rfl rfl
                  exact Zm hE (lk rfl f14) (lk rfl f1) Tryz.underlying24 ty5 hi208.1 fun a hE=>kq rfl hE rfl
                 ·intro a w ux190 hE hM hg
                  have hE:=hE.sub (e':=[(145,(vB (x195 ^^^ r203))),(147,(ptr b7 (0 + (s133.2.2).toNat * 4 + (s160.2.2).toNat * 1))),(0,vI p0),(3,(ptr b1 0)),(5,(ptr b3 0)),(6,(ptr b7 0)),(7,vB r82),(8,vI s13.2.2.1),(12,vI s133.2.2),(13,vB x145),(14,vI s160.2.2),(16,vI s13.2.2.1),(98,vI s133.2.2),(113,vI s160.2.2)]) ⟨lk rfl (hg 13 (by decide)),lk rfl (hg 15 (by decide)),rfl,rfl,rfl,rfl,rfl,rfl,rfl,rfl,rfl,rfl,rfl,rfl,trivial⟩
                  refine Zo (seg:=[(vB (x195 ^^^ r203))]) (cs':=enc (s160.2.1.setIfInBounds (s133.2.2).toNat (x206.setIfInBounds (s160.2.2).toNat (x195 ^^^ r203)))) hE hM Zd rfl rfl rfl ty5 rfl (XX (o':=0 + (s160.2.2).toNat * 1) hi205 (ZH (v:=x206) (x:=x195 ^^^ r203) hi208.1) (by first | omega | (simp only [Flat.n] <;> omega))) (Flat.cell (x195 ^^^ r203 : UInt8)) (YW (o':=0 + (s160.2.2).toNat * 1) hi205 (ZH (v:=x206) (x:=x195 ^^^ r203) hi208.1) (ZA (v:=x206) (x:=x195 ^^^ r203) hi208.1) (by first | omega | (simp only [Flat.n] <;> omega))) fun w a hM hE=>Zj (Z0 (Zy (wp_region_lit (Zk hE rfl rfl rfl fun a hE=>Ze hE rfl fun a hE=>Zj (Zl ?_)))))
                  exact ⟨_,(ois hF167),hE.sub ⟨rfl,rfl,rfl,rfl,rfl,rfl,rfl,rfl,rfl,rfl,rfl,trivial⟩,hM⟩
               ·intro hb164
                have hs161:=Zt hs161 hb164
                refine wp_exit (Zp (Zp (Z1 ?_)))
                obtain rfl:=hx162 _ (ois hs161)
                refine Zl ?_
                exact ⟨hE.sub ⟨rfl,rfl,rfl,rfl,rfl,rfl,rfl,rfl,trivial⟩,hM⟩
              ·skip
               rintro a w ⟨hE,hM⟩
               obtain rfl:=Option.some.inj hF159
               refine Zl ?_
               exact ⟨hE.sub ⟨rfl,rfl,rfl,rfl,rfl,rfl,rfl,rfl,trivial⟩,hM⟩
             ·intro hb156
              have hl154:=Zt hl154 hb156
              refine wp_skip ?_
              obtain rfl:=Option.some.inj hl154
              refine Zl ?_
              exact ⟨hE.sub ⟨rfl,rfl,rfl,rfl,rfl,rfl,rfl,rfl,trivial⟩,hM⟩
            ·skip
             rintro a w ⟨hE,hM⟩
             refine Z0 ?_
             obtain rfl:=Option.some.inj hF155
             refine Zl ?_
             exact ⟨hE.sub ⟨rfl,rfl,rfl,rfl,rfl,rfl,rfl,rfl,trivial⟩,hM⟩
          ·skip
           rintro a w ⟨hE,hM⟩
           refine wp_region_lit (Zk hE rfl rfl rfl fun a hE=>Ze hE rfl fun a hE=>Zj (Zl ?_))
           exact ⟨_,(ois hF140),hE.sub ⟨rfl,rfl,rfl,rfl,rfl,rfl,rfl,rfl,trivial⟩,hM⟩
         ·intro hb137
          have hs134:=Zt hs134 hb137
          refine wp_exit (Zp (Zp (Z1 ?_)))
          obtain rfl:=hx135 _ (ois hs134)
          refine Zl ?_
          exact ⟨hE.sub ⟨rfl,rfl,rfl,rfl,rfl,rfl,trivial⟩,hM⟩
        ·skip
         rintro a w ⟨hE,hM⟩
         refine Z0 (Zy (wp_region_lit (Zk hE rfl rfl rfl fun a hE=>Ze hE rfl fun a hE=>Zj (Zl ?_))))
         exact ⟨_,(ois hF132),hE.sub ⟨rfl,rfl,rfl,rfl,rfl,rfl,trivial⟩,hM⟩
  ·intro hb17
   have hs14:=Zt hs14 hb17
   refine wp_exit (Zp (Zp (Z1 ?_)))
   obtain rfl:=hx15 _ (ois hs14)
   refine Zl ?_
   have hM:=M.fst (l:=[_,_]) hM.pull1.pull1
   exact ⟨(s13.2.1,s13.2.2.2),rfl,hE.sub ⟨rfl,rfl,rfl,trivial⟩,hM⟩
 ·skip
  rintro a w ⟨s12,ht,hE,hM⟩
  subst ht
  have hF11:=X7 hF11
  refine Zy ?_
  obtain ⟨j217,hl218,hF219⟩:=bind_some hF11
  refine ZI (fun a w=>Env 153 a [(4,vB j217.2),(5,(ptr b3 0))] ∧ M (Old w0) w0 w [raw b3 (enc j217.1)]) ?_ ?_
  ·skip
   refine ZX (n:=153) (hd:=[_,_,_]) (tl:=[_]) Yx rfl rfl [151,152,4] (by decide) (fun w=>M (Old w0) w0 w [raw b7 (enc s12.1),raw b3 (enc (Vector.replicate 4 (Vector.replicate 4 (0 : UInt8))))]) (fun j=>([fun v _=>v = (vB s12.2),fun v _=>v = (Value.agg (enc s12.1).toArray),fun v _=>v = (vB s12.2)] : List (Value → World → Prop)).getD j (fun _ _=>True)) (fun _ _ h hk=>h.keep hk) (gup gu3) hE hM.drew (st3 ?_ ?_ ?_) ?_
   ·exact qm
   ·exact fun a w ux220 hE hM hp=>Zn hE rfl Xc rfl hM.rawAt0 (Flat.len _) fun a hE=>kq rfl hE rfl
   ·intro a w ux220 hE hM hp
    have f0 : ux220 0 = (vB s12.2):=hp 0 _ rfl rfl
    exact Zb hE (lk rfl f0) fun a hE=>kq rfl hE rfl
   ·intro a w ux220 hE hM hg
    have hE:=hE.sub (e':=[(152,(Value.agg (enc s12.1).toArray)),(4,vB s12.2),(5,(ptr b3 0))]) ⟨lk rfl (hg 1 (by decide)),lk rfl (hg 2 (by decide)),rfl,trivial⟩
    have hM:=hM.pull1
    refine Zo (seg:=enc s12.1) (cs':=enc s12.1) hE hM Zd rfl rfl rfl Xc (Flat.len _) (zle flq) (Flat.cell _) (Zr flq) fun w a hM hE=>Zj ?_
    obtain rfl:=Option.some.inj hl218
    refine Zl ?_
    have hM:=M.fst (l:=[_]) hM
    exact ⟨hE.sub ⟨rfl,rfl,trivial⟩,hM⟩
  ·skip
   rintro a w ⟨hE,hM⟩
   obtain rfl:=Option.some.inj hF219
   have hq222 : Yq Tryz.prog _ _ (.cell 5 26) _:=ZQ hE rfl Xc rfl hM.rawAt0 (Flat.len _) rfl
   exact wp_ret (H5 hE rfl (YH hE rfl) hq222 ⟨_,rfl,rfl,hM.kept⟩)
def Vp (p0 : Int) (p1 : (Vector (Vector UInt8 4) 4)) : Option (Bool) :=
 (YV p0 p1).bind fun r3=>some (r3.1 != 0)
theorem JP (w0 : World) (p0 : Int) (p1 : (Vector (Vector UInt8 4) 4)) (r : Bool) (hF : Vp p0 p1 = some r) :
  Calls Tryz.prog 96 [vI p0,(Value.agg (enc p1).toArray)].toArray w0 (Rt w0 (vT r)):=by
 refine ce Tryz.func96 ?_
 intro a hE
 have hM:=M.start w0
 unfold Vp at hF
 refine Za (ZM (cs:=enc p1) hE hM Zd ld rfl rfl fun b1 w a hM hE=>Zb hE rfl fun a hE=>Zf (Za (Ze hE rfl fun a hE=>Zn hE rfl Xc rfl hM.rawAt0 (Flat.len _) ?_))); intro a hE
 obtain ⟨r3,e4,hF⟩:=bind_some hF
 refine Zv hE rfl (cbm Tryz.func128) (QQ _ p0 p1 r3 e4) ?_
 rintro v w a ⟨rfl,hK⟩ hE
 have hM:=hM.keep hK
 refine Ze hE rfl fun a hE=>Ux hE Zd ld rfl rfl fun a hE=>Ux hE Zd ld rfl rfl fun a hE=>Zz hE hM Xc fun b5 w a hM hE=>Zb hE rfl fun a hE=>Zo (seg:=enc r3.2) (cs':=enc r3.2) hE hM Zd rfl rfl rfl Xc (Flat.len _) (zle flq) (Flat.cell _) (Zr flq) fun w a hM hE=>Zf (Za (Ze hE rfl fun a hE=>Zk hE rfl rfl (Kq r3.1 0) fun a hE=>Zb hE rfl fun a hE=>Zf ?_))
 obtain rfl:=Option.some.inj hF
 exact wp_ret (kr1 hE rfl rfl hM.kept)
def UH (p0 : (List UInt8)) (p1 : UInt8) : Option (Int) :=
 some (indexByte p0 p1)
theorem Hp (w0 : World) (p0 : (List UInt8)) (v0_1 : Value) (hv0_1 : Ro w0 p0 [v0_1]) (p1 : UInt8) (r : Int) (hF : UH p0 p1 = some r) :
  Calls Tryz.prog 154 [v0_1,vB p1].toArray w0 (Rt w0 (vI r)):=by
 refine ce Tryz.func154 ?_
 intro a hE
 have hM:=M.start w0
 unfold UH at hF
 refine Za (Zb hE rfl fun a hE=>Zf (Za (Ze hE rfl fun a hE=>Ze hE rfl fun a hE=>jg hE Zd ld rfl Tryz.func169 rfl (by decide) (by kernel_rfl) (by kernel_rfl) (hM.rd hv0_1) fun a hE=>Zb hE rfl fun a hE=>Zf ?_)))
 obtain rfl:=Option.some.inj hF
 exact wp_ret (kr1 hE rfl rfl hM.kept)
def Xa (p0 : (List UInt8)) (s5 : Int) : Option (Fl Int (Fl Unit Bool)) :=
 if (decide (s5 < (p0.length : Int))) = true then ((idx p0 s5).bind fun x10=>(slc p0 (0 : Int) s5).bind fun l13=>(UH l13 x10).bind fun r16=>if (decide (r16 ≥ 0)) = true then (some (Fl.ex (Fl.ex false))) else (some (Fl.nx (wr (s5 + 1))))) else (some (Fl.ex (Fl.nx ())))
def Wm (p0 : (List UInt8)) : Option (Bool) :=
 (ZD (Xa p0) 0).bind fun j1=>j1.el (fun s4=>some true) (fun r=>some r)
theorem JM (w0 : World) (p0 : (List UInt8)) (v0_1 : Value) (hv0_1 : Ro w0 p0 [v0_1]) (r : Bool) (hF : Wm p0 = some r) :
  Calls Tryz.prog 129 [v0_1].toArray w0 (Rt w0 (vT r)):=by
 refine ce Tryz.func129 ?_
 intro a hE
 have hM:=M.start w0
 unfold Wm at hF
 refine Za (Zb hE rfl fun a hE=>Zf (wp_seq (Za (Ze hE rfl fun a hE=>ZZ hE rfl Tryz.underlying32 (hM.rd hv0_1) fun a hE=>Ze hE rfl fun a hE=>Zf ?_))))
 obtain ⟨j1,hl2,hF3⟩:=bind_some hF
 refine ZJ (fun a w=>∃ s4 : Unit,j1 = Fl.nx s4 ∧ Env 19 a [] ∧ M (Old w0) w0 w []) ?_ ?_
 ·skip
  refine wp_block ?_
  refine ZE (fun (s5 : Int) a w=>Env 19 a [(0,v0_1),(5,v0_1),(6,(vI (p0.length : Int))),(7,vI s5)] ∧ M (Old w0) w0 w []) hl2 ⟨hE.sub ⟨rfl,rfl,rfl,rfl,trivial⟩,hM⟩ ?_
  rintro s5 a w ⟨hE,hM⟩ o8 hs6 hx7
  unfold Xa at hs6
  refine Za (Zk hE rfl rfl rfl fun a hE=>Zf (wp_seq ?_))
  refine Zq hE rfl ?_ ?_
  ·intro hb9
   have hs6:=Zu hs6 hb9
   refine wp_skip (Zy (wp_seq (wp_block (Za (Ze hE rfl ?_))))); intro a hE
   obtain ⟨x10,hi12,hs6⟩:=bix hs6
   refine ZK hE rfl rfl Tryz.underlying32 ty5 (hM.rd hv0_1) hi12.1 fun a hE=>Zx (v:=(vB x10)) hE rfl ty5 rfl (Ys (hM.rd hv0_1) hi12.2) fun a hE=>Zb hE rfl fun a hE=>Zb hE rfl fun a hE=>Zf (Za (Ze hE rfl fun a hE=>Ze hE rfl ?_)); intro a hE
   obtain ⟨l13,e14,hs6⟩:=bind_some hs6
   refine Ap hE Zd ld rfl rfl rfl rfl rfl Tryz.underlying32 ty5 (hM.rd hv0_1) e14 ?_; intro a hE
   have h15 : Rep.sat (Old w0) w0 l13 [(Z9 v0_1 ((0 : Int)).toNat (s5).toNat 1)] []:=W9 hv0_1 e14 -- ^
   refine Ze hE rfl ?_; intro a hE
   obtain ⟨r16,e17,hs6⟩:=bind_some hs6
   refine Zv hE rfl (cbm Tryz.func154) (Hp _ l13 (Z9 v0_1 ((0 : Int)).toNat (s5).toNat 1) (hM.rdo h15) x10 r16 e17) ?_
   rintro v w a ⟨rfl,hK⟩ hE
   have hM:=hM.keep hK
   refine Zk hE rfl rfl rfl fun a hE=>Zf ?_
   refine Zq hE rfl ?_ ?_
   ·intro hb18
    have hs6:=Zu hs6 hb18
    refine Za (Zb hE rfl fun a hE=>Zf ?_)
    obtain rfl:=hx7 _ (ois hs6)
    obtain rfl:=Option.some.inj hF3
    exact wp_ret (Z4 (Zs (Zs (Z4 (Zs (Zs (kr1 hE rfl rfl hM.kept)))))))
   ·intro hb18
    have hs6:=Zt hs6 hb18
    refine wp_skip (Z0 (Zy (wp_region_lit (Zk hE rfl rfl rfl fun a hE=>Ze hE rfl fun a hE=>Zj (Zl ?_)))))
    exact ⟨_,(ois hs6),hE.sub ⟨rfl,rfl,rfl,rfl,trivial⟩,hM⟩
  ·intro hb9
   have hs6:=Zt hs6 hb9
   refine wp_exit (Zp (Zp (Z1 ?_)))
   obtain rfl:=hx7 _ (ois hs6)
   refine Zl ?_
   exact ⟨(),rfl,hE.sub trivial,hM⟩
 ·skip
  rintro a w ⟨s4,ht,hE,hM⟩
  subst ht
  have hF3:=X7 hF3
  refine Zy (Za (Zb hE rfl fun a hE=>Zf ?_))
  obtain rfl:=Option.some.inj hF3
  exact wp_ret (kr1 hE rfl rfl hM.kept)
def X5 (p0 : (Vector UInt8 16)) (s7 : Int) : Option (Fl Int (Fl Unit Bool)) :=
 if (decide (s7 < 16)) = true then ((ZC p0 s7).bind fun x12=>if (decide (x12 > 15)) = true then (some (Fl.ex (Fl.ex false))) else (some (Fl.nx (wr (s7 + 1))))) else (some (Fl.ex (Fl.nx ())))
def VB (p0 : (Vector UInt8 16)) : Option (Bool) :=
 (ZD (X5 p0) 0).bind fun j3=>j3.el (fun s6=>(slc p0.toList (0 : Int) (16 : Int)).bind fun l18=>(Wm l18).bind fun r21=>some r21) (fun r=>some r)
theorem Bp (w0 : World) (p0 : (Vector UInt8 16)) (r : Bool) (hF : VB p0 = some r) :
  Calls Tryz.prog 97 [(Value.agg (enc p0).toArray)].toArray w0 (Rt w0 (vT r)):=by
 refine ce Tryz.func97 ?_
 intro a hE
 have hM:=M.start w0
 unfold VB at hF
 refine Za (ZM (cs:=enc p0) hE hM Zd ld rfl rfl fun b1 w a hM hE=>Zb hE rfl fun a hE=>Zf (wp_seq (Za (Zn hE rfl Qz rfl hM.rawAt0 (Flat.len _) fun a hE=>Ze hE rfl fun a hE=>Zf ?_))))
 obtain ⟨j3,hl4,hF5⟩:=bind_some hF
 refine ZJ (fun a w=>∃ s6 : Unit,j3 = Fl.nx s6 ∧ Env 14 a [(1,(ptr b1 0))] ∧ M (Old w0) w0 w [raw b1 (enc p0)]) ?_ ?_
 ·skip
  refine wp_block ?_
  refine ZE (fun (s7 : Int) a w=>Env 14 a [(1,(ptr b1 0)),(5,(Value.agg (enc p0).toArray)),(6,vI s7)] ∧ M (Old w0) w0 w [raw b1 (enc p0)]) hl4 ⟨hE.sub ⟨rfl,rfl,rfl,trivial⟩,hM⟩ ?_
  rintro s7 a w ⟨hE,hM⟩ o10 hs8 hx9
  unfold X5 at hs8
  refine Za (Zk hE rfl rfl rfl fun a hE=>Zf (wp_seq ?_))
  refine Zq hE rfl ?_ ?_
  ·intro hb11
   have hs8:=Zu hs8 hb11
   refine wp_skip (Zy (wp_seq (wp_block (Za ?_))))
   obtain ⟨x12,hi14,hs8⟩:=bvx hs8
   refine Q6 hE Zd ld rfl rfl Tryz.underlying28 ty5 rfl rfl hi14 rfl fun a hE=>Zb hE rfl fun a hE=>Zf (Za (Ze hE rfl fun a hE=>Zk hE rfl rfl (bB_gtr x12 15) fun a hE=>Zf ?_))
   refine Zq hE rfl ?_ ?_
   ·intro hb15
    have hs8:=Zu hs8 hb15
    refine Za (Zb hE rfl fun a hE=>Zf ?_)
    obtain rfl:=hx9 _ (ois hs8)
    obtain rfl:=Option.some.inj hF5
    exact wp_ret (Z4 (Zs (Zs (Z4 (Zs (Zs (kr1 hE rfl rfl hM.kept)))))))
   ·intro hb15
    have hs8:=Zt hs8 hb15
    refine wp_skip (Z0 (Zy (wp_region_lit (Zk hE rfl rfl rfl fun a hE=>Ze hE rfl fun a hE=>Zj (Zl ?_)))))
    exact ⟨_,(ois hs8),hE.sub ⟨rfl,rfl,rfl,trivial⟩,hM⟩
  ·intro hb11
   have hs8:=Zt hs8 hb11
   refine wp_exit (Zp (Zp (Z1 ?_)))
   obtain rfl:=hx9 _ (ois hs8)
   refine Zl ?_
   exact ⟨(),rfl,hE.sub ⟨rfl,trivial⟩,hM⟩
 ·skip
  rintro a w ⟨s6,ht,hE,hM⟩
  subst ht
  have hF5:=X7 hF5
  refine Zy (Za ?_)
  obtain ⟨l18,e19,hF5⟩:=bind_some hF5
  have hb20:=QV e19 -- ^
  refine VZ (N:=16) hE Zd ld rfl rfl rfl rfl rfl Tryz.underlying28 ty5 hb20 ?_; intro a hE
  obtain ⟨r21,e22,hF5⟩:=bind_some hF5
  refine Zv hE rfl (cbm Tryz.func129) (JM _ l18 (Z9 (.slice (some ⟨b1,0,none⟩) 16 16) ((0 : Int)).toNat ((16 : Int)).toNat 1) (W9 (At.sat hM.rawAt0 (by simp) (by decide)) e19) r21 e22) ?_
  rintro v w a ⟨rfl,hK⟩ hE
  have hM:=hM.keep hK
  refine Zb hE rfl fun a hE=>Zf ?_
  obtain rfl:=Option.some.inj hF5
  exact wp_ret (kr1 hE rfl rfl hM.kept)
def V5 (p0 : GCipher) : Option (Bool) :=
 ((Tb p0.Field).bind fun r6=>if r6 = true then ((XT p0.Box).bind fun r9=>if r9 = true then ((Vp p0.Field p0.Mix).bind fun r12=>if r12 = true then ((VB p0.Places).bind fun r15=>if r15 = true then ((Yp p0.Rounds 1 20).bind fun r18=>some r18) else (some false)) else (some false)) else (some false)) else (some false) : Option (Bool)).bind fun j3=>some j3
theorem Ah (w0 : World) (p0 : GCipher) (r : Bool) (hF : V5 p0 = some r) :
  Calls Tryz.prog 39 [(Value.agg (enc p0).toArray)].toArray w0 (Rt w0 (vT r)):=by
 refine ce Tryz.func39 ?_
 intro a hE
 have hM:=M.start w0
 unfold V5 at hF
 refine Za (ZM (cs:=cat [[vI p0.Field],enc p0.Box,enc p0.Mix,enc p0.Places,[vI p0.Rounds]]) hE hM Zd ld rfl rfl fun b1 w a hM hE=>Zb hE rfl fun a hE=>Zf ?_)
 obtain ⟨j3,hl4,hF5⟩:=bind_some hF
 refine ZI (fun a w=>Env 28 a [(2,vT j3)] ∧ M (Old w0) w0 w []) ?_ ?_
 ·skip
  refine wp_region_lit (Zg hE rfl (Kc) fun a hE=>Zx (v:=(vI p0.Field)) hE rfl ty2 rfl (At.cat (pre:=[]) hM.rawAt0 cl0) ?_); intro a hE
  obtain ⟨r6,e7,hl4⟩:=bind_some hl4
  refine Zv hE rfl (cbm Tryz.func94) (zu _ p0.Field r6 e7) ?_
  rintro v w a ⟨rfl,hK⟩ hE
  have hM:=hM.keep hK
  refine Ze hE rfl ?_; intro a hE
  refine Yb r6 (fun hb8=>?_) (fun hb8=>?_)
  ·have hl4:=Zu hl4 hb8
   refine ZB hE (Zi hE rfl (lkb rfl hb8)) (by decide) rfl (Q9) fun a hE=>TY hE (Zi hE rfl (lkb rfl hb8)) (by decide) rfl Wu rfl (At.cat (pre:=[[vI p0.Field]]) hM.rawAt0 ck) (Flat.len _) ?_; intro a hE
   obtain ⟨r9,e10,hl4⟩:=bind_some hl4
   refine WL hE (Zi hE rfl (lkb rfl hb8)) (by decide) rfl (cbm Tryz.func95) (Jo _ p0.Box r9 e10) ?_
   rintro v w a ⟨rfl,hK⟩ hE
   have hM:=hM.keep hK
   refine ZG hE (lkb rfl hb8) rfl fun a hE=>Ze hE rfl ?_; intro a hE
   refine Yb r9 (fun hb11=>?_) (fun hb11=>?_)
   ·have hl4:=Zu hl4 hb11
    refine ZB hE (Zi hE rfl (lkb rfl hb11)) (by decide) rfl (Kc) fun a hE=>ZY (v:=(vI p0.Field)) hE (Zi hE rfl (lkb rfl hb11)) (by decide) rfl ty2 rfl (At.cat (pre:=[]) hM.rawAt0 cl0) fun a hE=>ZB hE (Zi hE rfl (lkb rfl hb11)) (by decide) rfl (Kr) fun a hE=>TY hE (Zi hE rfl (lkb rfl hb11)) (by decide) rfl Xc rfl (At.cat (pre:=[[vI p0.Field],enc p0.Box]) hM.rawAt0 ck) (Flat.len _) ?_; intro a hE
    obtain ⟨r12,e13,hl4⟩:=bind_some hl4
    refine WL hE (Zi hE rfl (lkb rfl hb11)) (by decide) rfl (cbm Tryz.func96) (JP _ p0.Field p0.Mix r12 e13) ?_
    rintro v w a ⟨rfl,hK⟩ hE
    have hM:=hM.keep hK
    refine ZG hE (lkb rfl hb11) rfl fun a hE=>Ze hE rfl ?_; intro a hE
    refine Yb r12 (fun hb14=>?_) (fun hb14=>?_)
    ·have hl4:=Zu hl4 hb14
     refine ZB hE (Zi hE rfl (lkb rfl hb14)) (by decide) rfl (Kn) fun a hE=>TY hE (Zi hE rfl (lkb rfl hb14)) (by decide) rfl Qz rfl (At.cat (pre:=[[vI p0.Field],enc p0.Box,enc p0.Mix]) hM.rawAt0 ck) (Flat.len _) ?_; intro a hE
     obtain ⟨r15,e16,hl4⟩:=bind_some hl4
     refine WL hE (Zi hE rfl (lkb rfl hb14)) (by decide) rfl (cbm Tryz.func97) (Bp _ p0.Places r15 e16) ?_
     rintro v w a ⟨rfl,hK⟩ hE
     have hM:=hM.keep hK
     refine ZG hE (lkb rfl hb14) rfl fun a hE=>Ze hE rfl ?_; intro a hE
     refine Yb r15 (fun hb17=>?_) (fun hb17=>?_)
     ·have hl4:=Zu hl4 hb17
      refine ZB hE (Zi hE rfl (lkb rfl hb17)) (by decide) rfl (Jj) fun a hE=>ZY (v:=(vI p0.Rounds)) hE (Zi hE rfl (lkb rfl hb17)) (by decide) rfl ty2 rfl (At.cat (pre:=[[vI p0.Field],enc p0.Box,enc p0.Mix,enc p0.Places]) hM.rawAt0 ck) ?_; intro a hE
      obtain ⟨r18,e19,hl4⟩:=bind_some hl4
      refine WL hE (Zi hE rfl (lkb rfl hb17)) (by decide) rfl HI (Yi _ p0.Rounds 1 20 r18 e19) ?_
      rintro v w a ⟨rfl,hK⟩ hE
      have hM:=hM.keep hK
      refine ZG hE (lkb rfl hb17) rfl fun a hE=>Zb hE rfl fun a hE=>Zj ?_
      obtain rfl:=Option.some.inj hl4
      refine Zl ?_
      have hM:=M.fst (l:=[]) hM
      exact ⟨hE.sub ⟨rfl,trivial⟩,hM⟩
     ·have hl4:=Zt hl4 hb17
      refine Zh hE rfl (lkb rfl hb17) rfl (by decide) fun a hE=>Zh hE rfl (lkb rfl hb17) rfl (by decide) fun a hE=>Zh hE rfl (lkb rfl hb17) rfl (by decide) fun a hE=>ZL hE (lkb rfl hb17) rfl fun a hE=>Zb hE rfl fun a hE=>Zj ?_
      obtain rfl:=Option.some.inj hl4
      refine Zl ?_
      have hM:=M.fst (l:=[]) hM
      exact ⟨hE.sub ⟨rfl,trivial⟩,hM⟩
    ·have hl4:=Zt hl4 hb14
     refine Zh hE rfl (lkb rfl hb14) rfl (by decide) fun a hE=>Zh hE rfl (lkb rfl hb14) rfl (by decide) fun a hE=>Zh hE rfl (lkb rfl hb14) rfl (by decide) fun a hE=>ZL hE (lkb rfl hb14) rfl fun a hE=>Ze hE rfl fun a hE=>Zh hE rfl rfl rfl (by decide) fun a hE=>Zh hE rfl rfl rfl (by decide) fun a hE=>Zh hE rfl rfl rfl (by decide) fun a hE=>ZL hE rfl rfl fun a hE=>Zb hE rfl fun a hE=>Zj ?_
     obtain rfl:=Option.some.inj hl4
     refine Zl ?_
     have hM:=M.fst (l:=[]) hM
     exact ⟨hE.sub ⟨rfl,trivial⟩,hM⟩
   ·have hl4:=Zt hl4 hb11
    refine Zh hE rfl (lkb rfl hb11) rfl (by decide) fun a hE=>Zh hE rfl (lkb rfl hb11) rfl (by decide) fun a hE=>Zh hE rfl (lkb rfl hb11) rfl (by decide) fun a hE=>Zh hE rfl (lkb rfl hb11) rfl (by decide) fun a hE=>Zh hE rfl (lkb rfl hb11) rfl (by decide) fun a hE=>ZL hE (lkb rfl hb11) rfl fun a hE=>Ze hE rfl fun a hE=>Zh hE rfl rfl rfl (by decide) fun a hE=>Zh hE rfl rfl rfl (by decide) fun a hE=>Zh hE rfl rfl rfl (by decide) fun a hE=>ZL hE rfl rfl fun a hE=>Ze hE rfl ?_; intro a hE
    refine Zh hE rfl rfl rfl (by decide) fun a hE=>Zh hE rfl rfl rfl (by decide) fun a hE=>Zh hE rfl rfl rfl (by decide) fun a hE=>ZL hE rfl rfl fun a hE=>Zb hE rfl fun a hE=>Zj ?_
    obtain rfl:=Option.some.inj hl4
    refine Zl ?_
    have hM:=M.fst (l:=[]) hM
    exact ⟨hE.sub ⟨rfl,trivial⟩,hM⟩
  ·have hl4:=Zt hl4 hb8
   refine Zh hE rfl (lkb rfl hb8) rfl (by decide) fun a hE=>Zh hE rfl (lkb rfl hb8) rfl (by decide) fun a hE=>Zh hE rfl (lkb rfl hb8) rfl (by decide) fun a hE=>ZL hE (lkb rfl hb8) rfl fun a hE=>Ze hE rfl fun a hE=>Zh hE rfl rfl rfl (by decide) fun a hE=>Zh hE rfl rfl rfl (by decide) fun a hE=>Zh hE rfl rfl rfl (by decide) fun a hE=>Zh hE rfl rfl rfl (by decide) fun a hE=>Zh hE rfl rfl rfl (by decide) fun a hE=>ZL hE rfl rfl fun a hE=>Ze hE rfl ?_; intro a hE
   refine Zh hE rfl rfl rfl (by decide) fun a hE=>Zh hE rfl rfl rfl (by decide) fun a hE=>Zh hE rfl rfl rfl (by decide) fun a hE=>ZL hE rfl rfl fun a hE=>Ze hE rfl fun a hE=>Zh hE rfl rfl rfl (by decide) fun a hE=>Zh hE rfl rfl rfl (by decide) fun a hE=>Zh hE rfl rfl rfl (by decide) fun a hE=>ZL hE rfl rfl fun a hE=>Zb hE rfl fun a hE=>Zj ?_
   obtain rfl:=Option.some.inj hl4
   refine Zl ?_
   have hM:=M.fst (l:=[]) hM
   exact ⟨hE.sub ⟨rfl,trivial⟩,hM⟩
 ·skip
  rintro a w ⟨hE,hM⟩
  obtain rfl:=Option.some.inj hF5
  exact wp_ret (kr1 hE rfl rfl hM.kept)
def YC (p0 : (List (Vector UInt8 16))) : Option (Int) :=
 some (p0.length : Int)
theorem XO (w0 : World) (p0 : (List (Vector UInt8 16))) (v0_1 : Value) (hv0_1 : Ro w0 p0 [v0_1]) (r : Int) (hF : YC p0 = some r) :
  Calls Tryz.prog 99 [v0_1].toArray w0 (Rt w0 (vI r)):=by
 refine ce Tryz.func99 ?_
 intro a hE
 have hM:=M.start w0
 unfold YC at hF
 refine Za (Zb hE rfl fun a hE=>Zf (Za (Ze hE rfl fun a hE=>ZZ hE rfl Tryz.underlying33 (hM.rd hv0_1) fun a hE=>Zb hE rfl fun a hE=>Zf ?_)))
 obtain rfl:=Option.some.inj hF
 exact wp_ret (kr1 hE rfl rfl hM.kept)
def Yz (p0 : (List GEvent)) (p1 : GEvent → Option (Bool)) (s5 : Int) : Option (Fl Int (Fl Unit Int)) :=
 if (decide (s5 < (p0.length : Int))) = true then ((idx p0 s5).bind fun x10=>((p1 x10)).bind fun r13=>if r13 = true then (some (Fl.ex (Fl.ex s5))) else (some (Fl.nx (wr (s5 + 1))))) else (some (Fl.ex (Fl.nx ())))
def Ye (p0 : (List GEvent)) (p1 : GEvent → Option (Bool)) : Option (Int) :=
 (ZD (Yz p0 p1) 0).bind fun j1=>j1.el (fun s4=>some (-1)) (fun r=>some r)
theorem UB (w0 : World) (p0 : (List GEvent)) (v0_1 : Value) (hv0_1 : Ro w0 p0 [v0_1]) (p1 : GEvent → Option (Bool)) (k1 : Nat) (q1 : List Value) (hcb1 : Callable Tryz.prog k1) (hg1 : ∀ (w2 : World),Kept (Old w0) w0 w2 → ∀ (z0 : GEvent) (zr : Bool),p1 z0 = some zr → Calls Tryz.prog k1 ([(Value.agg (enc z0).toArray)] ++ q1).toArray w2 (fun en w3=>∃ v,en = .returned v ∧ (v = (vT zr) ∧ Kept (Old w2) w2 w3))) (r : Int) (hF : Ye p0 p1 = some r) :
  Calls Tryz.prog 130 [v0_1,(Value.func (.func k1) #[] q1.toArray)].toArray w0 (Rt w0 (vI r)):=by
 refine ce Tryz.func130 ?_
 intro a hE
 have hM:=M.start w0
 unfold Ye at hF
 refine Za (Zb hE rfl fun a hE=>Zf (wp_seq (Za (Ze hE rfl fun a hE=>ZZ hE rfl Tryz.underlying35 (hM.rd hv0_1) fun a hE=>Ze hE rfl fun a hE=>Zf ?_))))
 obtain ⟨j1,hl2,hF3⟩:=bind_some hF
 refine ZJ (fun a w=>∃ s4 : Unit,j1 = Fl.nx s4 ∧ Env 19 a [] ∧ M (Old w0) w0 w []) ?_ ?_
 ·skip
  refine wp_block ?_
  refine ZE (fun (s5 : Int) a w=>Env 19 a [(0,v0_1),(1,(Value.func (.func k1) #[] q1.toArray)),(7,(vI (p0.length : Int))),(8,vI s5)] ∧ M (Old w0) w0 w []) hl2 ⟨hE.sub ⟨rfl,rfl,rfl,rfl,trivial⟩,hM⟩ ?_
  rintro s5 a w ⟨hE,hM⟩ o8 hs6 hx7
  unfold Yz at hs6
  refine Za (Zk hE rfl rfl rfl fun a hE=>Zf (wp_seq ?_))
  refine Zq hE rfl ?_ ?_
  ·intro hb9
   have hs6:=Zu hs6 hb9
   refine wp_skip (Zy (wp_seq (wp_block (Za (Ze hE rfl fun a hE=>Zb hE rfl fun a hE=>Zf (Za (Ze hE rfl fun a hE=>Ze hE rfl fun a hE=>Ze hE rfl ?_))))))); intro a hE
   obtain ⟨x10,hi12,hs6⟩:=bix hs6
   refine ZK hE rfl rfl Tryz.underlying35 T6 (hM.rd hv0_1) hi12.1 fun a hE=>Zn hE rfl T6 rfl (Ys (hM.rd hv0_1) hi12.2) cq ?_; intro a hE
   obtain ⟨r13,e14,hs6⟩:=bind_some hs6
   refine Zbr (vs:=[(Value.agg (enc x10).toArray)]) hE Zd ld rfl rfl hcb1 (hg1 _ hM.kept x10 r13 e14) ?_
   rintro v w a ⟨rfl,hK⟩ hE
   have hM:=hM.keep hK
   refine Zf ?_
   refine Zq hE rfl ?_ ?_
   ·intro hb15
    have hs6:=Zu hs6 hb15
    refine Za (Ze hE rfl fun a hE=>Zb hE rfl fun a hE=>Zf ?_)
    obtain rfl:=hx7 _ (ois hs6)
    obtain rfl:=Option.some.inj hF3
    exact wp_ret (Z4 (Zs (Zs (Z4 (Zs (Zs (kr1 hE rfl rfl hM.kept)))))))
   ·intro hb15
    have hs6:=Zt hs6 hb15
    refine wp_skip (Z0 (Zy (wp_region_lit (Zk hE rfl rfl rfl fun a hE=>Ze hE rfl fun a hE=>Zj (Zl ?_)))))
    exact ⟨_,(ois hs6),hE.sub ⟨rfl,rfl,rfl,rfl,trivial⟩,hM⟩
  ·intro hb9
   have hs6:=Zt hs6 hb9
   refine wp_exit (Zp (Zp (Z1 ?_)))
   obtain rfl:=hx7 _ (ois hs6)
   refine Zl ?_
   exact ⟨(),rfl,hE.sub trivial,hM⟩
 ·skip
  rintro a w ⟨s4,ht,hE,hM⟩
  subst ht
  have hF3:=X7 hF3
  refine Zy (Za (Zb hE rfl fun a hE=>Zf ?_))
  obtain rfl:=Option.some.inj hF3
  exact wp_ret (kr1 hE rfl rfl hM.kept)
def ZV (p0 : (List GEvent)) (p1 : GEvent → Option (Bool)) : Option (Bool) :=
 (Ye p0 p1).bind fun r1=>some (decide (r1 ≥ 0))
theorem VU (w0 : World) (p0 : (List GEvent)) (v0_1 : Value) (hv0_1 : Ro w0 p0 [v0_1]) (p1 : GEvent → Option (Bool)) (k1 : Nat) (q1 : List Value) (hcb1 : Callable Tryz.prog k1) (hg1 : ∀ (w2 : World),Kept (Old w0) w0 w2 → ∀ (z0 : GEvent) (zr : Bool),p1 z0 = some zr → Calls Tryz.prog k1 ([(Value.agg (enc z0).toArray)] ++ q1).toArray w2 (fun en w3=>∃ v,en = .returned v ∧ (v = (vT zr) ∧ Kept (Old w2) w2 w3))) (r : Bool) (hF : ZV p0 p1 = some r) :
  Calls Tryz.prog 100 [v0_1,(Value.func (.func k1) #[] q1.toArray)].toArray w0 (Rt w0 (vT r)):=by
 refine ce Tryz.func100 ?_
 intro a hE
 have hM:=M.start w0
 unfold ZV at hF
 refine Za (Zb hE rfl fun a hE=>Zf (Za (Ze hE rfl fun a hE=>Ze hE rfl ?_))); intro a hE
 obtain ⟨r1,e2,hF⟩:=bind_some hF
 refine Zv hE rfl (cbm Tryz.func130) (UB _ p0 v0_1 (hM.rdo hv0_1) p1 k1 q1 hcb1 (fun w2 hk2=>hg1 w2 (hM.kept.trans hk2)) r1 e2) ?_
 rintro v w a ⟨rfl,hK⟩ hE
 have hM:=hM.keep hK
 refine Zk hE rfl rfl rfl fun a hE=>Zb hE rfl fun a hE=>Zf ?_
 obtain rfl:=Option.some.inj hF
 exact wp_ret (kr1 hE rfl rfl hM.kept)
def TT (p0 : Int) : Option (Bool) :=
 (Yp p0 0 1000000).bind fun r1=>some r1
theorem BV (w0 : World) (p0 : Int) (r : Bool) (hF : TT p0 = some r) :
  Calls Tryz.prog 131 [vI p0].toArray w0 (Rt w0 (vT r)):=by
 refine ce Tryz.func131 ?_
 intro a hE
 have hM:=M.start w0
 unfold TT at hF
 refine Za (Zb hE rfl fun a hE=>Zf (Za (Ze hE rfl ?_))); intro a hE
 obtain ⟨r1,e2,hF⟩:=bind_some hF
 refine Zv hE rfl HI (Yi _ p0 0 1000000 r1 e2) ?_
 rintro v w a ⟨rfl,hK⟩ hE
 have hM:=hM.keep hK
 refine Zb hE rfl fun a hE=>Zf ?_
 obtain rfl:=Option.some.inj hF
 exact wp_ret (kr1 hE rfl rfl hM.kept)
def U6 (p0 : GEvent) : Option (Bool) :=
 ((Yp p0.Kind 1 4).bind fun r6=>if r6 = true then ((TT p0.Number).bind fun r9=>some r9) else (some false) : Option (Bool)).bind fun j3=>some j3
theorem zD (w0 : World) (p0 : GEvent) (r : Bool) (hF : U6 p0 = some r) :
  Calls Tryz.prog 102 [(Value.agg (enc p0).toArray)].toArray w0 (Rt w0 (vT r)):=by
 refine ce Tryz.func102 ?_
 intro a hE
 have hM:=M.start w0
 unfold U6 at hF
 refine Za (ZM (cs:=cat [[vI p0.Kind],[vI p0.Number],enc p0.Tag]) hE hM Zd ld rfl rfl fun b1 w a hM hE=>Zb hE rfl fun a hE=>Zf ?_)
 obtain ⟨j3,hl4,hF5⟩:=bind_some hF
 refine ZI (fun a w=>Env 11 a [(2,vT j3)] ∧ M (Old w0) w0 w []) ?_ ?_
 ·skip
  refine wp_region_lit (Zg hE rfl (Hv) fun a hE=>Zx (v:=(vI p0.Kind)) hE rfl ty2 rfl (At.cat (pre:=[]) hM.rawAt0 cl0) ?_); intro a hE
  obtain ⟨r6,e7,hl4⟩:=bind_some hl4
  refine Zv hE rfl HI (Yi _ p0.Kind 1 4 r6 e7) ?_
  rintro v w a ⟨rfl,hK⟩ hE
  have hM:=hM.keep hK
  refine Ze hE rfl ?_; intro a hE
  refine Yb r6 (fun hb8=>?_) (fun hb8=>?_)
  ·have hl4:=Zu hl4 hb8
   refine ZB hE (Zi hE rfl (lkb rfl hb8)) (by decide) rfl (Hl) fun a hE=>ZY (v:=(vI p0.Number)) hE (Zi hE rfl (lkb rfl hb8)) (by decide) rfl ty2 rfl (At.cat (pre:=[[vI p0.Kind]]) hM.rawAt0 ck) ?_; intro a hE
   obtain ⟨r9,e10,hl4⟩:=bind_some hl4
   refine WL hE (Zi hE rfl (lkb rfl hb8)) (by decide) rfl (cbm Tryz.func131) (BV _ p0.Number r9 e10) ?_
   rintro v w a ⟨rfl,hK⟩ hE
   have hM:=hM.keep hK
   refine ZG hE (lkb rfl hb8) rfl fun a hE=>Zb hE rfl fun a hE=>Zj ?_
   obtain rfl:=Option.some.inj hl4
   refine Zl ?_
   have hM:=M.fst (l:=[]) hM
   exact ⟨hE.sub ⟨rfl,trivial⟩,hM⟩
  ·have hl4:=Zt hl4 hb8
   refine Zh hE rfl (lkb rfl hb8) rfl (by decide) fun a hE=>Zh hE rfl (lkb rfl hb8) rfl (by decide) fun a hE=>Zh hE rfl (lkb rfl hb8) rfl (by decide) fun a hE=>ZL hE (lkb rfl hb8) rfl fun a hE=>Zb hE rfl fun a hE=>Zj ?_
   obtain rfl:=Option.some.inj hl4
   refine Zl ?_
   have hM:=M.fst (l:=[]) hM
   exact ⟨hE.sub ⟨rfl,trivial⟩,hM⟩
 ·skip
  rintro a w ⟨hE,hM⟩
  obtain rfl:=Option.some.inj hF5
  exact wp_ret (kr1 hE rfl rfl hM.kept)
def VQ (p0 : GEvent) : Option (Bool) :=
 (U6 p0).bind fun r3=>some (!r3)
theorem H2 (w0 : World) (p0 : GEvent) (r : Bool) (hF : VQ p0 = some r) :
  Calls Tryz.prog 101 [(Value.agg (enc p0).toArray)].toArray w0 (Rt w0 (vT r)):=by
 refine ce Tryz.func101 ?_
 intro a hE
 have hM:=M.start w0
 unfold VQ at hF
 refine Za (ZM (cs:=cat [[vI p0.Kind],[vI p0.Number],enc p0.Tag]) hE hM Zd ld rfl rfl fun b1 w a hM hE=>Zb hE rfl fun a hE=>Zf (Za (Zn hE rfl T6 rfl hM.rawAt0 cq ?_))); intro a hE
 obtain ⟨r3,e4,hF⟩:=bind_some hF
 refine Zv hE rfl (cbm Tryz.func102) (zD _ p0 r3 e4) ?_
 rintro v w a ⟨rfl,hK⟩ hE
 have hM:=hM.keep hK
 refine YO hE rfl fun a hE=>Zb hE rfl fun a hE=>Zf ?_
 obtain rfl:=Option.some.inj hF
 exact wp_ret (kr1 hE rfl rfl hM.kept)
def W3 (p0 : GVault) (s24 : Int) : Option (Fl Int (Fl Unit Bool)) :=
 if (decide (s24 < (p0.Records.length : Int))) = true then ((idx p0.Records s24).bind fun x29=>((Yp x29.Number 1 (wr (p0.Next - 1))).bind fun r45=>if (!r45) = true then (some true) else (if (decide (s24 > 0)) = true then ((idx p0.Records (wr (s24 - 1))).bind fun x50=>some (decide (x50.Number ≥ x29.Number))) else (some false)) : Option (Bool)).bind fun j41=>if j41 = true then (some (Fl.ex (Fl.ex false))) else (((YC p0.Keys).bind fun r68=>(Yp x29.Version 0 (wr (r68 - 1))).bind fun r70=>if (!r70) = true then (some true) else (if (decide ((x29.Label.length : Int) > 32)) = true then (some true) else (some (decide ((x29.Body.length : Int) > 200)))) : Option (Bool)).bind fun j64=>if j64 = true then (some (Fl.ex (Fl.ex false))) else (some (Fl.nx (wr (s24 + 1)))))) else (some (Fl.ex (Fl.nx ())))
def UQ (p0 : GVault) : Option (Bool) :=
 ((YC p0.Keys).bind fun r6=>(Yp r6 1 8).bind fun r8=>if (!r8) = true then (some true) else ((Yp p0.Next 1 1000000).bind fun r12=>if (!r12) = true then (some true) else (if (decide ((p0.Records.length : Int) > 12)) = true then (some true) else (some (decide ((p0.Events.length : Int) > 60))))) : Option (Bool)).bind fun j3=>if j3 = true then (some false) else ((ZD (W3 p0) 0).bind fun j20=>j20.el (fun s23=>(ZV p0.Events (fun z0=>VQ z0)).bind fun r80=>some (!r80)) (fun r=>some r))
theorem zj (w0 : World) (p0 : GVault) (v0_1 : Value) (hv0_1 : Ro w0 p0.Keys [v0_1]) (v0_2 : Value) (hv0_2 : Ro w0 p0.Records [v0_2]) (v0_3 : Value) (hv0_3 : Ro w0 p0.Events [v0_3]) (r : Bool) (hF : UQ p0 = some r) :
  Calls Tryz.prog 40 [(Value.agg (cat [[v0_1],[vI p0.Next],[v0_2],[v0_3],enc p0.Head]).toArray)].toArray w0 (Rt w0 (vT r)):=by
 refine ce Tryz.func40 ?_
 intro a hE
 have hM:=M.start w0
 unfold UQ at hF
 refine Za (ZM (cs:=cat [[v0_1],[vI p0.Next],[v0_2],[v0_3],enc p0.Head]) hE hM Zd ld rfl rfl fun b1 w a hM hE=>Zb hE rfl fun a hE=>Zf (wp_seq ?_))
 obtain ⟨j3,hl4,hF5⟩:=bind_some hF
 refine ZI (fun a w=>Env 84 a [(1,(ptr b1 0)),(27,vT j3)] ∧ M (Old w0) w0 w [raw b1 (cat [[v0_1],[vI p0.Next],[v0_2],[v0_3],enc p0.Head])]) ?_ ?_
 ·skip
  refine wp_region_lit (Zg hE rfl (Ks) fun a hE=>Zx (v:=v0_1) hE rfl zl rfl (At.cat (pre:=[]) hM.rawAt0 cl0) ?_); intro a hE
  obtain ⟨r6,e7,hl4⟩:=bind_some hl4
  refine Zv hE rfl cb99 (XO _ p0.Keys v0_1 (hM.rdo hv0_1) r6 e7) ?_
  rintro v w a ⟨rfl,hK⟩ hE
  have hM:=hM.keep hK
  obtain ⟨r8,e9,hl4⟩:=bind_some hl4
  refine Zv hE rfl HI (Yi _ r6 1 8 r8 e9) ?_
  rintro v w a ⟨rfl,hK⟩ hE
  have hM:=hM.keep hK
  refine YO hE rfl fun a hE=>Ze hE rfl ?_; intro a hE
  refine Yb (!r8) (fun hb10=>?_) (fun hb10=>?_)
  ·have hl4:=Zu hl4 hb10
   refine Zh hE rfl (lkb rfl hb10) rfl (by decide) fun a hE=>Zh hE rfl (lkb rfl hb10) rfl (by decide) fun a hE=>Zh hE rfl (lkb rfl hb10) rfl (by decide) fun a hE=>Zh hE rfl (lkb rfl hb10) rfl (by decide) fun a hE=>ZG hE (lkb rfl hb10) rfl fun a hE=>Ze hE rfl fun a hE=>Zh hE rfl rfl rfl (by decide) fun a hE=>Zh hE rfl rfl rfl (by decide) fun a hE=>Zh hE rfl rfl rfl (by decide) fun a hE=>Zh hE rfl rfl rfl (by decide) fun a hE=>ZG hE rfl rfl fun a hE=>Ze hE rfl ?_; intro a hE
   refine Zh hE rfl rfl rfl (by decide) fun a hE=>Zh hE rfl rfl rfl (by decide) fun a hE=>Zh hE rfl rfl rfl (by decide) fun a hE=>Zh hE rfl rfl rfl (by decide) fun a hE=>ZG hE rfl rfl fun a hE=>Zj ?_
   obtain rfl:=Option.some.inj hl4
   refine Zl ?_
   exact ⟨hE.sub ⟨rfl,rfl,trivial⟩,hM⟩
  ·have hl4:=Zt hl4 hb10
   refine ZB hE (Zi hE rfl (lkb rfl hb10)) (by decide) rfl (K1) fun a hE=>ZY (v:=(vI p0.Next)) hE (Zi hE rfl (lkb rfl hb10)) (by decide) rfl ty2 rfl (At.cat (pre:=[[v0_1]]) hM.rawAt0 ck) ?_; intro a hE
   obtain ⟨r12,e13,hl4⟩:=bind_some hl4
   refine WL hE (Zi hE rfl (lkb rfl hb10)) (by decide) rfl HI (Yi _ p0.Next 1 1000000 r12 e13) ?_
   rintro v w a ⟨rfl,hK⟩ hE
   have hM:=hM.keep hK
   refine Jt hE (Zi hE rfl (lkb rfl hb10)) (by decide) rfl fun a hE=>ZL hE (lkb rfl hb10) rfl fun a hE=>Ze hE rfl ?_; intro a hE
   refine Yb (!r12) (fun hb14=>?_) (fun hb14=>?_)
   ·have hl4:=Zu hl4 hb14
    refine Zh hE rfl (lkb rfl hb14) rfl (by decide) fun a hE=>Zh hE rfl (lkb rfl hb14) rfl (by decide) fun a hE=>Zh hE rfl (lkb rfl hb14) rfl (by decide) fun a hE=>Zh hE rfl (lkb rfl hb14) rfl (by decide) fun a hE=>ZG hE (lkb rfl hb14) rfl fun a hE=>Ze hE rfl fun a hE=>Zh hE rfl rfl rfl (by decide) fun a hE=>Zh hE rfl rfl rfl (by decide) fun a hE=>Zh hE rfl rfl rfl (by decide) fun a hE=>Zh hE rfl rfl rfl (by decide) fun a hE=>ZG hE rfl rfl fun a hE=>Zj ?_
    obtain rfl:=Option.some.inj hl4
    refine Zl ?_
    exact ⟨hE.sub ⟨rfl,rfl,trivial⟩,hM⟩
   ·have hl4:=Zt hl4 hb14
    refine ZB hE (Zi hE rfl (lkb rfl hb14)) (by decide) rfl (KP) fun a hE=>ZY (v:=v0_2) hE (Zi hE rfl (lkb rfl hb14)) (by decide) rfl zO rfl (At.cat (pre:=[[v0_1],[vI p0.Next]]) hM.rawAt0 ck) fun a hE=>TQ hE (Zi hE rfl (lkb rfl hb14)) (by decide) rfl Tryz.underlying34 (hM.rd hv0_2) fun a hE=>Wa hE (Zi hE rfl (lkb rfl hb14)) (by decide) rfl rfl rfl fun a hE=>ZL hE (lkb rfl hb14) rfl fun a hE=>Ze hE rfl ?_; intro a hE
    refine Yb (decide ((p0.Records.length : Int) > 12)) (fun hb16=>?_) (fun hb16=>?_)
    ·have hl4:=Zu hl4 hb16
     refine Zh hE rfl (lkb rfl hb16) rfl (by decide) fun a hE=>Zh hE rfl (lkb rfl hb16) rfl (by decide) fun a hE=>Zh hE rfl (lkb rfl hb16) rfl (by decide) fun a hE=>Zh hE rfl (lkb rfl hb16) rfl (by decide) fun a hE=>ZG hE (lkb rfl hb16) rfl fun a hE=>Zj ?_
     obtain rfl:=Option.some.inj hl4
     refine Zl ?_
     exact ⟨hE.sub ⟨rfl,rfl,trivial⟩,hM⟩
    ·have hl4:=Zt hl4 hb16
     refine ZB hE (Zi hE rfl (lkb rfl hb16)) (by decide) rfl (Ju) fun a hE=>ZY (v:=v0_3) hE (Zi hE rfl (lkb rfl hb16)) (by decide) rfl yS rfl (At.cat (pre:=[[v0_1],[vI p0.Next],[v0_2]]) hM.rawAt0 ck) fun a hE=>TQ hE (Zi hE rfl (lkb rfl hb16)) (by decide) rfl Tryz.underlying35 (hM.rd hv0_3) fun a hE=>Wa hE (Zi hE rfl (lkb rfl hb16)) (by decide) rfl rfl rfl fun a hE=>ZL hE (lkb rfl hb16) rfl fun a hE=>Zj ?_
     obtain rfl:=Option.some.inj hl4
     refine Zl ?_
     exact ⟨hE.sub ⟨rfl,rfl,trivial⟩,hM⟩
 ·skip
  rintro a w ⟨hE,hM⟩
  refine Zq hE rfl ?_ ?_
  ·intro hb19
   have hF5:=Zu hF5 hb19
   refine Za (Zb hE rfl fun a hE=>Zf ?_)
   obtain rfl:=Option.some.inj hF5
   exact wp_ret (Zs (kr1 hE rfl rfl hM.kept))
  ·intro hb19
   have hF5:=Zt hF5 hb19
   refine wp_skip (Zy (wp_seq (Za (Zg hE rfl (KP) fun a hE=>Zx (v:=v0_2) hE rfl zO rfl (At.cat (pre:=[[v0_1],[vI p0.Next]]) hM.rawAt0 ck) fun a hE=>ZZ hE rfl Tryz.underlying34 (hM.rd hv0_2) fun a hE=>Ze hE rfl fun a hE=>Zf ?_))))
   obtain ⟨j20,hl21,hF22⟩:=bind_some hF5
   refine ZJ (fun a w=>∃ s23 : Unit,j20 = Fl.nx s23 ∧ Env 84 a [(1,(ptr b1 0))] ∧ M (Old w0) w0 w [raw b1 (cat [[v0_1],[vI p0.Next],[v0_2],[v0_3],enc p0.Head])]) ?_ ?_
   ·skip
    refine wp_block ?_
    refine ZE (fun (s24 : Int) a w=>Env 84 a [(1,(ptr b1 0)),(29,v0_2),(30,(vI (p0.Records.length : Int))),(31,vI s24)] ∧ M (Old w0) w0 w [raw b1 (cat [[v0_1],[vI p0.Next],[v0_2],[v0_3],enc p0.Head])]) hl21 ⟨hE.sub ⟨rfl,rfl,rfl,rfl,trivial⟩,hM⟩ ?_
    rintro s24 a w ⟨hE,hM⟩ o27 hs25 hx26
    unfold W3 at hs25
    refine Za (Zk hE rfl rfl rfl fun a hE=>Zf (wp_seq ?_))
    refine Zq hE rfl ?_ ?_
    ·intro hb28
     have hs25:=Zu hs25 hb28
     refine wp_skip (Zy (wp_seq (wp_block (Za (Ze hE rfl ?_))))); intro a hE
     obtain ⟨x29,hi31,hs25⟩:=bix hs25
     refine ZK hE rfl rfl Tryz.underlying34 Vx (hM.rd hv0_2) hi31.1 ?_; intro a hE
     obtain ⟨cs32,hs33,hA34⟩:=Vl hv0_2 hi31.2 -- ^
     obtain ⟨u35,u37,rfl,h36,h38⟩:=T2 hs33 -- ^
     refine Zn hE rfl Vx rfl (hM.atk hA34 (VY hv0_2 hi31.2)) cq fun a hE=>Zz hE hM Vx fun b39 w a hM hE=>Zb hE rfl fun a hE=>Zo (seg:=cat [[vI x29.Number],[vI x29.Version],enc x29.Nonce,[u35],[u37],enc x29.Tag]) (cs':=cat [[vI x29.Number],[vI x29.Version],enc x29.Nonce,[u35],[u37],enc x29.Tag]) hE hM Zd rfl rfl rfl Vx cq (Nat.le_of_eq ((Nat.zero_add _).trans (Eq.trans cq (Eq.symm cq)))) (Yt (cc1 (Flat.cell (x29.Number : Int)) (cc1 (Flat.cell (x29.Version : Int)) (cc1 (Flat.cell _) (cc1 (Rep.cell (hM.rd h36)) (cc1 (Rep.cell (hM.rd h38)) (cc1 (Flat.cell _) cc0))))))) (Zr (Eq.trans cq (Eq.symm cq))) fun w a hM hE=>Zf (wp_seq ?_)
     obtain ⟨j41,hl42,hF43⟩:=bind_some hs25
     refine ZI (fun a w=>Env 84 a [(1,(ptr b1 0)),(4,(ptr b39 0)),(29,v0_2),(30,(vI (p0.Records.length : Int))),(31,vI s24),(58,vT j41)] ∧ M (Old w0) w0 w [raw b39 (cat [[vI x29.Number],[vI x29.Version],enc x29.Nonce,[u35],[u37],enc x29.Tag]),raw b1 (cat [[v0_1],[vI p0.Next],[v0_2],[v0_3],enc p0.Head])]) ?_ ?_
     ·skip
      obtain ⟨r45,e46,hl42⟩:=bind_some hl42
      refine Yb (!r45) (fun hb47=>?_) (fun hb47=>?_)
      ·have hl42:=Zu hl42 hb47
       refine ZX (n:=84) (hd:=[_,_,_,_,_,_,_,_,_,_,_,_,_,_,_,_,_,_,_,_,_,_,_]) (tl:=[]) Yx rfl rfl [36,37,38,39,40,41,42,43,44,45,46,47,48,49,50,51,52,53,54,55,56,57,58] (by decide) (fun w=>M (Old w0) w0 w [raw b39 (cat [[vI x29.Number],[vI x29.Version],enc x29.Nonce,[u35],[u37],enc x29.Tag]),raw b1 (cat [[v0_1],[vI p0.Next],[v0_2],[v0_3],enc p0.Head])]) (fun j=>([fun v _=>v = (ptr b39 (0 + 0)),fun v _=>v = (vI x29.Number),fun v _=>v = (ptr b1 (0 + 1)),fun v _=>v = (vI p0.Next),fun v _=>v = (vI (wr (p0.Next - 1))),fun v _=>v = (vT r45),fun v _=>v = (vT (!r45)),fun v _=>v = (vT (!r45)),fun v _=>v = undef,fun v _=>v = undef,fun v _=>v = undef,fun v _=>v = undef,fun v _=>v = undef,fun v _=>v = undef,fun v _=>v = undef,fun v _=>v = undef,fun v _=>v = undef,fun v _=>v = undef,fun v _=>v = undef,fun v _=>v = undef,fun v _=>v = undef,fun v _=>v = undef,fun v _=>v = (vT true)] : List (Value → World → Prop)).getD j (fun _ _=>True)) (fun _ _ h hk=>h.keep hk) (gup gu23) hE hM.drew (kh ?_ ?_ ?_ ?_ ?_ ?_ ?_ ?_ ?_ ?_ ?_ ?_ ?_ ?_ ?_ ?_ ?_ ?_ ?_ ?_ ?_ ?_ ?_) ?_
       ·exact fun a w ux44 hE hM hp=>Zg hE rfl (Qi) fun a hE=>kq rfl hE rfl
       ·intro a w ux44 hE hM hp
        have f0 : ux44 0 = (ptr b39 (0 + 0)):=hp 0 _ rfl rfl
        exact Zx (v:=(vI x29.Number)) hE (lk rfl f0) ty2 rfl (At.cat (pre:=[]) hM.rawAt0 cl0) fun a hE=>kq rfl hE rfl
       ·exact fun a w ux44 hE hM hp=>Zg hE rfl (K1) fun a hE=>kq rfl hE rfl
       ·intro a w ux44 hE hM hp
        have f2 : ux44 2 = (ptr b1 (0 + 1)):=hp 0 _ rfl rfl
        exact Zx (v:=(vI p0.Next)) hE (lk rfl f2) ty2 rfl (At.cat (pre:=[[v0_1]]) hM.rawAt1 ck) fun a hE=>kq rfl hE rfl
       ·intro a w ux44 hE hM hp
        have f3 : ux44 3 = (vI p0.Next):=hp 0 _ rfl rfl
        exact Zk hE (lk rfl f3) rfl rfl fun a hE=>kq rfl hE rfl
       ·intro a w ux44 hE hM hp
        have f1 : ux44 1 = (vI x29.Number):=hp 0 _ rfl rfl
        have f4 : ux44 4 = (vI (wr (p0.Next - 1))):=hp 1 _ rfl rfl
        refine Zv hE (ZU (ZR (lk rfl f1) (ZR rfl (ZR (lk rfl f4) Xf)))) HI (Yi _ x29.Number 1 (wr (p0.Next - 1)) r45 e46) ?_
        rintro v w a ⟨rfl,hK⟩ hE
        exact ⟨hK,_,_,rfl,hE,rfl⟩
       ·intro a w ux44 hE hM hp
        have f5 : ux44 5 = (vT r45):=hp 0 _ rfl rfl
        exact YO hE (lk rfl f5) fun a hE=>kq rfl hE rfl
       ·intro a w ux44 hE hM hp
        have f6 : ux44 6 = (vT (!r45)):=hp 0 _ rfl rfl
        exact Ze hE (lk rfl f6) fun a hE=>kq rfl hE rfl
       ·intro a w ux44 hE hM hp
        have f7 : ux44 7 = (vT (!r45)):=hp 0 _ rfl rfl
        exact Zh hE rfl (lkb (lk rfl f7) hb47) rfl (by decide) fun a hE=>kq rfl hE rfl
       ·intro a w ux44 hE hM hp
        have f7 : ux44 7 = (vT (!r45)):=hp 1 _ rfl rfl
        have f8 : ux44 8 = undef:=hp 0 _ rfl rfl
        exact Zh hE rfl (lkb (lk rfl f7) hb47) rfl (by decide) fun a hE=>kq rfl hE rfl
       ·intro a w ux44 hE hM hp
        have f7 : ux44 7 = (vT (!r45)):=hp 1 _ rfl rfl
        have f9 : ux44 9 = undef:=hp 0 _ rfl rfl
        exact Zh hE rfl (lkb (lk rfl f7) hb47) rfl (by decide) fun a hE=>kq rfl hE rfl
       ·intro a w ux44 hE hM hp
        have f10 : ux44 10 = undef:=hp 0 _ rfl rfl
        exact QC hE rfl (lk rfl f10) (by decide) fun a hE=>kq rfl hE rfl
       ·intro a w ux44 hE hM hp
        have f10 : ux44 10 = undef:=hp 1 _ rfl rfl
        have f11 : ux44 11 = undef:=hp 0 _ rfl rfl
        exact QC hE rfl (lk rfl f10) (by decide) fun a hE=>kq rfl hE rfl
       ·intro a w ux44 hE hM hp
        have f10 : ux44 10 = undef:=hp 0 _ rfl rfl
        exact QC hE rfl (lk rfl f10) (by decide) fun a hE=>kq rfl hE rfl
       ·intro a w ux44 hE hM hp
        have f10 : ux44 10 = undef:=hp 1 _ rfl rfl
        have f13 : ux44 13 = undef:=hp 0 _ rfl rfl
        exact QC hE rfl (lk rfl f10) (by decide) fun a hE=>kq rfl hE rfl
       ·intro a w ux44 hE hM hp
        have f10 : ux44 10 = undef:=hp 2 _ rfl rfl
        have f12 : ux44 12 = undef:=hp 0 _ rfl rfl
        have f14 : ux44 14 = undef:=hp 1 _ rfl rfl
        exact QC hE rfl (lk rfl f10) (by decide) fun a hE=>kq rfl hE rfl
       ·intro a w ux44 hE hM hp
        have f10 : ux44 10 = undef:=hp 1 _ rfl rfl
        have f15 : ux44 15 = undef:=hp 0 _ rfl rfl
        exact QC hE rfl (lk rfl f10) (by decide) fun a hE=>kq rfl hE rfl
       ·intro a w ux44 hE hM hp
        have f10 : ux44 10 = undef:=hp 1 _ rfl rfl
        have f16 : ux44 16 = undef:=hp 0 _ rfl rfl
        exact QC hE rfl (lk rfl f10) (by decide) fun a hE=>kq rfl hE rfl
       ·intro a w ux44 hE hM hp
        have f10 : ux44 10 = undef:=hp 0 _ rfl rfl
        exact QC hE rfl (lk rfl f10) (by decide) fun a hE=>kq rfl hE rfl
       ·intro a w ux44 hE hM hp
        have f10 : ux44 10 = undef:=hp 1 _ rfl rfl
        have f18 : ux44 18 = undef:=hp 0 _ rfl rfl
        exact QC hE rfl (lk rfl f10) (by decide) fun a hE=>kq rfl hE rfl
       ·intro a w ux44 hE hM hp
        have f10 : ux44 10 = undef:=hp 2 _ rfl rfl
        have f17 : ux44 17 = undef:=hp 0 _ rfl rfl
        have f19 : ux44 19 = undef:=hp 1 _ rfl rfl
        exact QC hE rfl (lk rfl f10) (by decide) fun a hE=>kq rfl hE rfl
       ·intro a w ux44 hE hM hp
        have f7 : ux44 7 = (vT (!r45)):=hp 2 _ rfl rfl
        have f10 : ux44 10 = undef:=hp 0 _ rfl rfl
        have f20 : ux44 20 = undef:=hp 1 _ rfl rfl
        exact Zh hE rfl (lkb (lk rfl f7) hb47) rfl (by decide) fun a hE=>kq rfl hE rfl
       ·intro a w ux44 hE hM hp
        have f7 : ux44 7 = (vT (!r45)):=hp 0 _ rfl rfl
        have f21 : ux44 21 = undef:=hp 1 _ rfl rfl
        exact ZG hE (lkb (lk rfl f7) hb47) rfl fun a hE=>kq rfl hE rfl
       ·intro a w ux44 hE hM hg
        have hE:=hE.sub (e':=[(58,vT true),(1,(ptr b1 0)),(3,vI s24),(4,(ptr b39 0)),(29,v0_2),(30,(vI (p0.Records.length : Int))),(31,vI s24),(32,(vT (decide (s24 < (p0.Records.length : Int))))),(33,vI s24),(34,(ptr (sb v0_2) (so v0_2 + (s24).toNat * 52))),(35,(Value.agg (cat [[vI x29.Number],[vI x29.Version],enc x29.Nonce,[u35],[u37],enc x29.Tag]).toArray))]) ⟨lk rfl (hg 22 (by decide)),rfl,rfl,rfl,rfl,rfl,rfl,rfl,rfl,rfl,rfl,trivial⟩
        refine Zj ?_
        obtain rfl:=Option.some.inj hl42
        refine Zl ?_
        exact ⟨hE.sub ⟨rfl,rfl,rfl,rfl,rfl,rfl,trivial⟩,hM⟩
      ·have hl42:=Zt hl42 hb47
       refine Yb (decide (s24 > 0)) (fun hb49=>?_) (fun hb49=>?_)
       ·have hl42:=Zu hl42 hb49
        obtain ⟨x50,hi52,hl42⟩:=bix hl42
        obtain ⟨cs53,hs54,hA55⟩:=Vl hv0_2 hi52.2 -- ^
        obtain ⟨u56,u58,rfl,h57,h59⟩:=T2 hs54 -- ^
        refine ZX (n:=84) (hd:=[_,_,_,_,_,_,_,_,_,_,_,_,_,_,_,_,_,_,_,_,_,_,_]) (tl:=[]) Yx rfl rfl [36,37,38,39,40,41,42,43,44,45,46,47,48,49,50,51,52,53,54,55,56,57,58] (by decide) (fun w=>M (Old w0) w0 w [raw b39 (cat [[vI x29.Number],[vI x29.Version],enc x29.Nonce,[u35],[u37],enc x29.Tag]),raw b1 (cat [[v0_1],[vI p0.Next],[v0_2],[v0_3],enc p0.Head])]) (fun j=>([fun v _=>v = (ptr b39 (0 + 0)),fun v _=>v = (vI x29.Number),fun v _=>v = (ptr b1 (0 + 1)),fun v _=>v = (vI p0.Next),fun v _=>v = (vI (wr (p0.Next - 1))),fun v _=>v = (vT r45),fun v _=>v = (vT (!r45)),fun v _=>v = (vT (!r45)),fun v _=>v = (vI s24),fun v _=>v = (vT (decide (s24 > 0))),fun v _=>v = (vT (decide (s24 > 0))),fun v _=>v = (ptr b1 (0 + 2)),fun v _=>v = v0_2,fun v _=>v = (vI s24),fun v _=>v = (vI (wr (s24 - 1))),fun v _=>v = (ptr (sb v0_2) (so v0_2 + ((wr (s24 - 1))).toNat * 52)),fun v _=>v = (ptr (sb v0_2) (so v0_2 + ((wr (s24 - 1))).toNat * 52 + 0)),fun v _=>v = (vI x50.Number),fun v _=>v = (ptr b39 (0 + 0)),fun v _=>v = (vI x29.Number),fun v _=>v = (vT (decide (x50.Number ≥ x29.Number))),fun v _=>v = (vT (decide (x50.Number ≥ x29.Number))),fun v _=>v = (vT (decide (x50.Number ≥ x29.Number)))] : List (Value → World → Prop)).getD j (fun _ _=>True)) (fun _ _ h hk=>h.keep hk) (gup gu23) hE hM.drew (kh ?_ ?_ ?_ ?_ ?_ ?_ ?_ ?_ ?_ ?_ ?_ ?_ ?_ ?_ ?_ ?_ ?_ ?_ ?_ ?_ ?_ ?_ ?_) ?_
        ·exact fun a w ux44 hE hM hp=>Zg hE rfl (Qi) fun a hE=>kq rfl hE rfl
        ·intro a w ux44 hE hM hp
         have f0 : ux44 0 = (ptr b39 (0 + 0)):=hp 0 _ rfl rfl
         exact Zx (v:=(vI x29.Number)) hE (lk rfl f0) ty2 rfl (At.cat (pre:=[]) hM.rawAt0 cl0) fun a hE=>kq rfl hE rfl
        ·exact fun a w ux44 hE hM hp=>Zg hE rfl (K1) fun a hE=>kq rfl hE rfl
        ·intro a w ux44 hE hM hp
         have f2 : ux44 2 = (ptr b1 (0 + 1)):=hp 0 _ rfl rfl
         exact Zx (v:=(vI p0.Next)) hE (lk rfl f2) ty2 rfl (At.cat (pre:=[[v0_1]]) hM.rawAt1 ck) fun a hE=>kq rfl hE rfl
        ·intro a w ux44 hE hM hp
         have f3 : ux44 3 = (vI p0.Next):=hp 0 _ rfl rfl
         exact Zk hE (lk rfl f3) rfl rfl fun a hE=>kq rfl hE rfl
        ·intro a w ux44 hE hM hp
         have f1 : ux44 1 = (vI x29.Number):=hp 0 _ rfl rfl
         have f4 : ux44 4 = (vI (wr (p0.Next - 1))):=hp 1 _ rfl rfl
         refine Zv hE (ZU (ZR (lk rfl f1) (ZR rfl (ZR (lk rfl f4) Xf)))) HI (Yi _ x29.Number 1 (wr (p0.Next - 1)) r45 e46) ?_
         rintro v w a ⟨rfl,hK⟩ hE
         exact ⟨hK,_,_,rfl,hE,rfl⟩
        ·intro a w ux44 hE hM hp
         have f5 : ux44 5 = (vT r45):=hp 0 _ rfl rfl
         exact YO hE (lk rfl f5) fun a hE=>kq rfl hE rfl
        ·intro a w ux44 hE hM hp
         have f6 : ux44 6 = (vT (!r45)):=hp 0 _ rfl rfl
         exact Ze hE (lk rfl f6) fun a hE=>kq rfl hE rfl
        ·intro a w ux44 hE hM hp
         have f7 : ux44 7 = (vT (!r45)):=hp 0 _ rfl rfl
         exact Y3 hE (Zi hE rfl (lkb (lk rfl f7) hb47)) (by decide) rfl fun a hE=>kq rfl hE rfl
        ·intro a w ux44 hE hM hp
         have f7 : ux44 7 = (vT (!r45)):=hp 1 _ rfl rfl
         have f8 : ux44 8 = (vI s24):=hp 0 _ rfl rfl
         exact Wa hE (Zi hE rfl (lkb (lk rfl f7) hb47)) (by decide) (lk rfl f8) rfl rfl fun a hE=>kq rfl hE rfl
        ·intro a w ux44 hE hM hp
         have f7 : ux44 7 = (vT (!r45)):=hp 1 _ rfl rfl
         have f9 : ux44 9 = (vT (decide (s24 > 0))):=hp 0 _ rfl rfl
         exact Y3 hE (Zi hE rfl (lkb (lk rfl f7) hb47)) (by decide) (lk rfl f9) fun a hE=>kq rfl hE rfl
        ·intro a w ux44 hE hM hp
         have f10 : ux44 10 = (vT (decide (s24 > 0))):=hp 0 _ rfl rfl
         exact ZB hE (Zi hE rfl (lkb (lk rfl f10) hb49)) (by decide) rfl (KP) fun a hE=>kq rfl hE rfl
        ·intro a w ux44 hE hM hp
         have f10 : ux44 10 = (vT (decide (s24 > 0))):=hp 1 _ rfl rfl
         have f11 : ux44 11 = (ptr b1 (0 + 2)):=hp 0 _ rfl rfl
         exact ZY (v:=v0_2) hE (Zi hE rfl (lkb (lk rfl f10) hb49)) (by decide) (lk rfl f11) zO rfl (At.cat (pre:=[[v0_1],[vI p0.Next]]) hM.rawAt1 ck) fun a hE=>kq rfl hE rfl
        ·intro a w ux44 hE hM hp
         have f10 : ux44 10 = (vT (decide (s24 > 0))):=hp 0 _ rfl rfl
         exact Y3 hE (Zi hE rfl (lkb (lk rfl f10) hb49)) (by decide) rfl fun a hE=>kq rfl hE rfl
        ·intro a w ux44 hE hM hp
         have f10 : ux44 10 = (vT (decide (s24 > 0))):=hp 1 _ rfl rfl
         have f13 : ux44 13 = (vI s24):=hp 0 _ rfl rfl
         exact Wa hE (Zi hE rfl (lkb (lk rfl f10) hb49)) (by decide) (lk rfl f13) rfl rfl fun a hE=>kq rfl hE rfl
        ·intro a w ux44 hE hM hp
         have f10 : ux44 10 = (vT (decide (s24 > 0))):=hp 2 _ rfl rfl
         have f12 : ux44 12 = v0_2:=hp 0 _ rfl rfl
         have f14 : ux44 14 = (vI (wr (s24 - 1))):=hp 1 _ rfl rfl
         exact V3 hE (Zi hE rfl (lkb (lk rfl f10) hb49)) (by decide) (lk rfl f12) (lk rfl f14) Tryz.underlying34 Vx (hM.rd hv0_2) hi52.1 fun a hE=>kq rfl hE rfl
        ·intro a w ux44 hE hM hp
         have f10 : ux44 10 = (vT (decide (s24 > 0))):=hp 1 _ rfl rfl
         have f15 : ux44 15 = (ptr (sb v0_2) (so v0_2 + ((wr (s24 - 1))).toNat * 52)):=hp 0 _ rfl rfl
         exact ZB hE (Zi hE rfl (lkb (lk rfl f10) hb49)) (by decide) (lk rfl f15) (Qi) fun a hE=>kq rfl hE rfl
        ·intro a w ux44 hE hM hp
         have f10 : ux44 10 = (vT (decide (s24 > 0))):=hp 1 _ rfl rfl
         have f16 : ux44 16 = (ptr (sb v0_2) (so v0_2 + ((wr (s24 - 1))).toNat * 52 + 0)):=hp 0 _ rfl rfl
         exact ZY (v:=(vI x50.Number)) hE (Zi hE rfl (lkb (lk rfl f10) hb49)) (by decide) (lk rfl f16) ty2 rfl (At.cat (pre:=[]) (hM.atk hA55 (VY hv0_2 hi52.2)) cl0) fun a hE=>kq rfl hE rfl
        ·intro a w ux44 hE hM hp
         have f10 : ux44 10 = (vT (decide (s24 > 0))):=hp 0 _ rfl rfl
         exact ZB hE (Zi hE rfl (lkb (lk rfl f10) hb49)) (by decide) rfl (Qi) fun a hE=>kq rfl hE rfl
        ·intro a w ux44 hE hM hp
         have f10 : ux44 10 = (vT (decide (s24 > 0))):=hp 1 _ rfl rfl
         have f18 : ux44 18 = (ptr b39 (0 + 0)):=hp 0 _ rfl rfl
         exact ZY (v:=(vI x29.Number)) hE (Zi hE rfl (lkb (lk rfl f10) hb49)) (by decide) (lk rfl f18) ty2 rfl (At.cat (pre:=[]) hM.rawAt0 cl0) fun a hE=>kq rfl hE rfl
        ·intro a w ux44 hE hM hp
         have f10 : ux44 10 = (vT (decide (s24 > 0))):=hp 2 _ rfl rfl
         have f17 : ux44 17 = (vI x50.Number):=hp 0 _ rfl rfl
         have f19 : ux44 19 = (vI x29.Number):=hp 1 _ rfl rfl
         exact Wa hE (Zi hE rfl (lkb (lk rfl f10) hb49)) (by decide) (lk rfl f17) (lk rfl f19) rfl fun a hE=>kq rfl hE rfl
        ·intro a w ux44 hE hM hp
         have f7 : ux44 7 = (vT (!r45)):=hp 2 _ rfl rfl
         have f10 : ux44 10 = (vT (decide (s24 > 0))):=hp 0 _ rfl rfl
         have f20 : ux44 20 = (vT (decide (x50.Number ≥ x29.Number))):=hp 1 _ rfl rfl
         exact qp hE (Zi hE rfl (lkb (lk rfl f7) hb47)) (by decide) (lkb (lk rfl f10) hb49) (lk rfl f20) fun a hE=>kq rfl hE rfl
        ·intro a w ux44 hE hM hp
         have f7 : ux44 7 = (vT (!r45)):=hp 0 _ rfl rfl
         have f21 : ux44 21 = (vT (decide (x50.Number ≥ x29.Number))):=hp 1 _ rfl rfl
         exact ZL hE (lkb (lk rfl f7) hb47) (lk rfl f21) fun a hE=>kq rfl hE rfl
        ·intro a w ux44 hE hM hg
         have hE:=hE.sub (e':=[(58,(vT (decide (x50.Number ≥ x29.Number)))),(1,(ptr b1 0)),(3,vI s24),(4,(ptr b39 0)),(29,v0_2),(30,(vI (p0.Records.length : Int))),(31,vI s24),(32,(vT (decide (s24 < (p0.Records.length : Int))))),(33,vI s24),(34,(ptr (sb v0_2) (so v0_2 + (s24).toNat * 52))),(35,(Value.agg (cat [[vI x29.Number],[vI x29.Version],enc x29.Nonce,[u35],[u37],enc x29.Tag]).toArray))]) ⟨lk rfl (hg 22 (by decide)),rfl,rfl,rfl,rfl,rfl,rfl,rfl,rfl,rfl,rfl,trivial⟩
         refine Zj ?_
         obtain rfl:=Option.some.inj hl42
         refine Zl ?_
         exact ⟨hE.sub ⟨rfl,rfl,rfl,rfl,rfl,rfl,trivial⟩,hM⟩
       ·have hl42:=Zt hl42 hb49
        refine ZX (n:=84) (hd:=[_,_,_,_,_,_,_,_,_,_,_,_,_,_,_,_,_,_,_,_,_,_,_]) (tl:=[]) Yx rfl rfl [36,37,38,39,40,41,42,43,44,45,46,47,48,49,50,51,52,53,54,55,56,57,58] (by decide) (fun w=>M (Old w0) w0 w [raw b39 (cat [[vI x29.Number],[vI x29.Version],enc x29.Nonce,[u35],[u37],enc x29.Tag]),raw b1 (cat [[v0_1],[vI p0.Next],[v0_2],[v0_3],enc p0.Head])]) (fun j=>([fun v _=>v = (ptr b39 (0 + 0)),fun v _=>v = (vI x29.Number),fun v _=>v = (ptr b1 (0 + 1)),fun v _=>v = (vI p0.Next),fun v _=>v = (vI (wr (p0.Next - 1))),fun v _=>v = (vT r45),fun v _=>v = (vT (!r45)),fun v _=>v = (vT (!r45)),fun v _=>v = (vI s24),fun v _=>v = (vT (decide (s24 > 0))),fun v _=>v = (vT (decide (s24 > 0))),fun v _=>v = undef,fun v _=>v = undef,fun v _=>v = undef,fun v _=>v = undef,fun v _=>v = undef,fun v _=>v = undef,fun v _=>v = undef,fun v _=>v = undef,fun v _=>v = undef,fun v _=>v = undef,fun v _=>v = (vT false),fun v _=>v = (vT false)] : List (Value → World → Prop)).getD j (fun _ _=>True)) (fun _ _ h hk=>h.keep hk) (gup gu23) hE hM.drew (kh ?_ ?_ ?_ ?_ ?_ ?_ ?_ ?_ ?_ ?_ ?_ ?_ ?_ ?_ ?_ ?_ ?_ ?_ ?_ ?_ ?_ ?_ ?_) ?_
        ·exact fun a w ux44 hE hM hp=>Zg hE rfl (Qi) fun a hE=>kq rfl hE rfl
        ·intro a w ux44 hE hM hp
         have f0 : ux44 0 = (ptr b39 (0 + 0)):=hp 0 _ rfl rfl
         exact Zx (v:=(vI x29.Number)) hE (lk rfl f0) ty2 rfl (At.cat (pre:=[]) hM.rawAt0 cl0) fun a hE=>kq rfl hE rfl
        ·exact fun a w ux44 hE hM hp=>Zg hE rfl (K1) fun a hE=>kq rfl hE rfl
        ·intro a w ux44 hE hM hp
         have f2 : ux44 2 = (ptr b1 (0 + 1)):=hp 0 _ rfl rfl
         exact Zx (v:=(vI p0.Next)) hE (lk rfl f2) ty2 rfl (At.cat (pre:=[[v0_1]]) hM.rawAt1 ck) fun a hE=>kq rfl hE rfl
        ·intro a w ux44 hE hM hp
         have f3 : ux44 3 = (vI p0.Next):=hp 0 _ rfl rfl
         exact Zk hE (lk rfl f3) rfl rfl fun a hE=>kq rfl hE rfl
        ·intro a w ux44 hE hM hp
         have f1 : ux44 1 = (vI x29.Number):=hp 0 _ rfl rfl
         have f4 : ux44 4 = (vI (wr (p0.Next - 1))):=hp 1 _ rfl rfl
         refine Zv hE (ZU (ZR (lk rfl f1) (ZR rfl (ZR (lk rfl f4) Xf)))) HI (Yi _ x29.Number 1 (wr (p0.Next - 1)) r45 e46) ?_
         rintro v w a ⟨rfl,hK⟩ hE
         exact ⟨hK,_,_,rfl,hE,rfl⟩
        ·intro a w ux44 hE hM hp
         have f5 : ux44 5 = (vT r45):=hp 0 _ rfl rfl
         exact YO hE (lk rfl f5) fun a hE=>kq rfl hE rfl
        ·intro a w ux44 hE hM hp
         have f6 : ux44 6 = (vT (!r45)):=hp 0 _ rfl rfl
         exact Ze hE (lk rfl f6) fun a hE=>kq rfl hE rfl
        ·intro a w ux44 hE hM hp
         have f7 : ux44 7 = (vT (!r45)):=hp 0 _ rfl rfl
         exact Y3 hE (Zi hE rfl (lkb (lk rfl f7) hb47)) (by decide) rfl fun a hE=>kq rfl hE rfl
        ·intro a w ux44 hE hM hp
         have f7 : ux44 7 = (vT (!r45)):=hp 1 _ rfl rfl
         have f8 : ux44 8 = (vI s24):=hp 0 _ rfl rfl
         exact Wa hE (Zi hE rfl (lkb (lk rfl f7) hb47)) (by decide) (lk rfl f8) rfl rfl fun a hE=>kq rfl hE rfl
        ·intro a w ux44 hE hM hp
         have f7 : ux44 7 = (vT (!r45)):=hp 1 _ rfl rfl
         have f9 : ux44 9 = (vT (decide (s24 > 0))):=hp 0 _ rfl rfl
         exact Y3 hE (Zi hE rfl (lkb (lk rfl f7) hb47)) (by decide) (lk rfl f9) fun a hE=>kq rfl hE rfl
        ·intro a w ux44 hE hM hp
         have f10 : ux44 10 = (vT (decide (s24 > 0))):=hp 0 _ rfl rfl
         exact Zh hE rfl (lkb (lk rfl f10) hb49) rfl (by decide) fun a hE=>kq rfl hE rfl
        ·intro a w ux44 hE hM hp
         have f10 : ux44 10 = (vT (decide (s24 > 0))):=hp 1 _ rfl rfl
         have f11 : ux44 11 = undef:=hp 0 _ rfl rfl
         exact Zh hE rfl (lkb (lk rfl f10) hb49) rfl (by decide) fun a hE=>kq rfl hE rfl
        ·intro a w ux44 hE hM hp
         have f10 : ux44 10 = (vT (decide (s24 > 0))):=hp 0 _ rfl rfl
         exact Zh hE rfl (lkb (lk rfl f10) hb49) rfl (by decide) fun a hE=>kq rfl hE rfl
        ·intro a w ux44 hE hM hp
         have f10 : ux44 10 = (vT (decide (s24 > 0))):=hp 1 _ rfl rfl
         have f13 : ux44 13 = undef:=hp 0 _ rfl rfl
         exact Zh hE rfl (lkb (lk rfl f10) hb49) rfl (by decide) fun a hE=>kq rfl hE rfl
        ·intro a w ux44 hE hM hp
         have f10 : ux44 10 = (vT (decide (s24 > 0))):=hp 2 _ rfl rfl
         have f12 : ux44 12 = undef:=hp 0 _ rfl rfl
         have f14 : ux44 14 = undef:=hp 1 _ rfl rfl
         exact Zh hE rfl (lkb (lk rfl f10) hb49) rfl (by decide) fun a hE=>kq rfl hE rfl
        ·intro a w ux44 hE hM hp
         have f10 : ux44 10 = (vT (decide (s24 > 0))):=hp 1 _ rfl rfl
         have f15 : ux44 15 = undef:=hp 0 _ rfl rfl
         exact Zh hE rfl (lkb (lk rfl f10) hb49) rfl (by decide) fun a hE=>kq rfl hE rfl
        ·intro a w ux44 hE hM hp
         have f10 : ux44 10 = (vT (decide (s24 > 0))):=hp 1 _ rfl rfl
         have f16 : ux44 16 = undef:=hp 0 _ rfl rfl
         exact Zh hE rfl (lkb (lk rfl f10) hb49) rfl (by decide) fun a hE=>kq rfl hE rfl
        ·intro a w ux44 hE hM hp
         have f10 : ux44 10 = (vT (decide (s24 > 0))):=hp 0 _ rfl rfl
         exact Zh hE rfl (lkb (lk rfl f10) hb49) rfl (by decide) fun a hE=>kq rfl hE rfl
        ·intro a w ux44 hE hM hp
         have f10 : ux44 10 = (vT (decide (s24 > 0))):=hp 1 _ rfl rfl
         have f18 : ux44 18 = undef:=hp 0 _ rfl rfl
         exact Zh hE rfl (lkb (lk rfl f10) hb49) rfl (by decide) fun a hE=>kq rfl hE rfl
        ·intro a w ux44 hE hM hp
         have f10 : ux44 10 = (vT (decide (s24 > 0))):=hp 2 _ rfl rfl
         have f17 : ux44 17 = undef:=hp 0 _ rfl rfl
         have f19 : ux44 19 = undef:=hp 1 _ rfl rfl
         exact Zh hE rfl (lkb (lk rfl f10) hb49) rfl (by decide) fun a hE=>kq rfl hE rfl
        ·intro a w ux44 hE hM hp
         have f7 : ux44 7 = (vT (!r45)):=hp 2 _ rfl rfl
         have f10 : ux44 10 = (vT (decide (s24 > 0))):=hp 0 _ rfl rfl
         have f20 : ux44 20 = undef:=hp 1 _ rfl rfl
         exact qI hE (Zi hE rfl (lkb (lk rfl f7) hb47)) (by decide) (lkb (lk rfl f10) hb49) rfl fun a hE=>kq rfl hE rfl
        ·intro a w ux44 hE hM hp
         have f7 : ux44 7 = (vT (!r45)):=hp 0 _ rfl rfl
         have f21 : ux44 21 = (vT false):=hp 1 _ rfl rfl
         exact ZL hE (lkb (lk rfl f7) hb47) (lk rfl f21) fun a hE=>kq rfl hE rfl
        ·intro a w ux44 hE hM hg
         have hE:=hE.sub (e':=[(58,vT false),(1,(ptr b1 0)),(3,vI s24),(4,(ptr b39 0)),(29,v0_2),(30,(vI (p0.Records.length : Int))),(31,vI s24),(32,(vT (decide (s24 < (p0.Records.length : Int))))),(33,vI s24),(34,(ptr (sb v0_2) (so v0_2 + (s24).toNat * 52))),(35,(Value.agg (cat [[vI x29.Number],[vI x29.Version],enc x29.Nonce,[u35],[u37],enc x29.Tag]).toArray))]) ⟨lk rfl (hg 22 (by decide)),rfl,rfl,rfl,rfl,rfl,rfl,rfl,rfl,rfl,rfl,trivial⟩
         refine Zj ?_
         obtain rfl:=Option.some.inj hl42
         refine Zl ?_
         exact ⟨hE.sub ⟨rfl,rfl,rfl,rfl,rfl,rfl,trivial⟩,hM⟩
     ·skip
      rintro a w ⟨hE,hM⟩
      refine Zq hE rfl ?_ ?_
      ·intro hb62
       have hF43:=Zu hF43 hb62
       refine Za (Zb hE rfl fun a hE=>Zf ?_)
       obtain rfl:=hx26 _ (ois hF43)
       obtain rfl:=Option.some.inj hF22
       exact wp_ret (Zs (Z4 (Zs (Zs (Z4 (Zs (Zs (kr1 hE rfl rfl hM.kept))))))))
      ·intro hb62
       have hF43:=Zt hF43 hb62
       refine wp_skip (Zy ?_)
       obtain ⟨j64,hl65,hF66⟩:=bind_some hF43
       refine ZI (fun a w=>Env 84 a [(1,(ptr b1 0)),(29,v0_2),(30,(vI (p0.Records.length : Int))),(31,vI s24),(78,vT j64)] ∧ M (Old w0) w0 w [raw b1 (cat [[v0_1],[vI p0.Next],[v0_2],[v0_3],enc p0.Head])]) ?_ ?_
       ·skip
        obtain ⟨r68,e69,hl65⟩:=bind_some hl65
        obtain ⟨r70,e71,hl65⟩:=bind_some hl65
        refine Yb (!r70) (fun hb72=>?_) (fun hb72=>?_)
        ·have hl65:=Zu hl65 hb72
         refine ZX (n:=84) (hd:=[_,_,_,_,_,_,_,_,_,_,_,_,_,_,_,_,_,_,_,_]) (tl:=[]) Yx rfl rfl [59,60,61,62,63,64,65,66,67,68,69,70,71,72,73,74,75,76,77,78] (by decide) (fun w=>M (Old w0) w0 w [raw b39 (cat [[vI x29.Number],[vI x29.Version],enc x29.Nonce,[u35],[u37],enc x29.Tag]),raw b1 (cat [[v0_1],[vI p0.Next],[v0_2],[v0_3],enc p0.Head])]) (fun j=>([fun v _=>v = (ptr b39 (0 + 1)),fun v _=>v = (vI x29.Version),fun v _=>v = (ptr b1 (0 + 0)),fun v _=>v = v0_1,fun v _=>v = (vI r68),fun v _=>v = (vI (wr (r68 - 1))),fun v _=>v = (vT r70),fun v _=>v = (vT (!r70)),fun v _=>v = (vT (!r70)),fun v _=>v = undef,fun v _=>v = undef,fun v _=>v = undef,fun v _=>v = undef,fun v _=>v = (vT true),fun v _=>v = (vT true),fun v _=>v = undef,fun v _=>v = undef,fun v _=>v = undef,fun v _=>v = undef,fun v _=>v = (vT true)] : List (Value → World → Prop)).getD j (fun _ _=>True)) (fun _ _ h hk=>h.keep hk) (gup gu20) hE hM.drew (st20 ?_ ?_ ?_ ?_ ?_ ?_ ?_ ?_ ?_ ?_ ?_ ?_ ?_ ?_ ?_ ?_ ?_ ?_ ?_ ?_) ?_
         ·exact fun a w ux67 hE hM hp=>Zg hE rfl (KK) fun a hE=>kq rfl hE rfl
         ·intro a w ux67 hE hM hp
          have f0 : ux67 0 = (ptr b39 (0 + 1)):=hp 0 _ rfl rfl
          exact Zx (v:=(vI x29.Version)) hE (lk rfl f0) ty2 rfl (At.cat (pre:=[[vI x29.Number]]) hM.rawAt0 ck) fun a hE=>kq rfl hE rfl
         ·exact fun a w ux67 hE hM hp=>Zg hE rfl (Ks) fun a hE=>kq rfl hE rfl
         ·intro a w ux67 hE hM hp
          have f2 : ux67 2 = (ptr b1 (0 + 0)):=hp 0 _ rfl rfl
          exact Zx (v:=v0_1) hE (lk rfl f2) zl rfl (At.cat (pre:=[]) hM.rawAt1 cl0) fun a hE=>kq rfl hE rfl
         ·intro a w ux67 hE hM hp
          have f3 : ux67 3 = v0_1:=hp 0 _ rfl rfl
          refine Zv hE (ZU (ZR (lk rfl f3) Xf)) cb99 (XO _ p0.Keys v0_1 (hM.rdo hv0_1) r68 e69) ?_
          rintro v w a ⟨rfl,hK⟩ hE
          exact ⟨hK,_,_,rfl,hE,rfl⟩
         ·intro a w ux67 hE hM hp
          have f4 : ux67 4 = (vI r68):=hp 0 _ rfl rfl
          exact Zk hE (lk rfl f4) rfl rfl fun a hE=>kq rfl hE rfl
         ·intro a w ux67 hE hM hp
          have f1 : ux67 1 = (vI x29.Version):=hp 0 _ rfl rfl
          have f5 : ux67 5 = (vI (wr (r68 - 1))):=hp 1 _ rfl rfl
          refine Zv hE (ZU (ZR (lk rfl f1) (ZR rfl (ZR (lk rfl f5) Xf)))) HI (Yi _ x29.Version 0 (wr (r68 - 1)) r70 e71) ?_
          rintro v w a ⟨rfl,hK⟩ hE
          exact ⟨hK,_,_,rfl,hE,rfl⟩
         ·intro a w ux67 hE hM hp
          have f6 : ux67 6 = (vT r70):=hp 0 _ rfl rfl
          exact YO hE (lk rfl f6) fun a hE=>kq rfl hE rfl
         ·intro a w ux67 hE hM hp
          have f7 : ux67 7 = (vT (!r70)):=hp 0 _ rfl rfl
          exact Ze hE (lk rfl f7) fun a hE=>kq rfl hE rfl
         ·intro a w ux67 hE hM hp
          have f8 : ux67 8 = (vT (!r70)):=hp 0 _ rfl rfl
          exact Zh hE rfl (lkb (lk rfl f8) hb72) rfl (by decide) fun a hE=>kq rfl hE rfl
         ·intro a w ux67 hE hM hp
          have f8 : ux67 8 = (vT (!r70)):=hp 1 _ rfl rfl
          have f9 : ux67 9 = undef:=hp 0 _ rfl rfl
          exact Zh hE rfl (lkb (lk rfl f8) hb72) rfl (by decide) fun a hE=>kq rfl hE rfl
         ·intro a w ux67 hE hM hp
          have f8 : ux67 8 = (vT (!r70)):=hp 1 _ rfl rfl
          have f10 : ux67 10 = undef:=hp 0 _ rfl rfl
          exact Zh hE rfl (lkb (lk rfl f8) hb72) rfl (by decide) fun a hE=>kq rfl hE rfl
         ·intro a w ux67 hE hM hp
          have f8 : ux67 8 = (vT (!r70)):=hp 1 _ rfl rfl
          have f11 : ux67 11 = undef:=hp 0 _ rfl rfl
          exact Zh hE rfl (lkb (lk rfl f8) hb72) rfl (by decide) fun a hE=>kq rfl hE rfl
         ·intro a w ux67 hE hM hp
          have f8 : ux67 8 = (vT (!r70)):=hp 0 _ rfl rfl
          have f12 : ux67 12 = undef:=hp 1 _ rfl rfl
          exact ZG hE (lkb (lk rfl f8) hb72) rfl fun a hE=>kq rfl hE rfl
         ·intro a w ux67 hE hM hp
          have f13 : ux67 13 = (vT true):=hp 0 _ rfl rfl
          exact Ze hE (lk rfl f13) fun a hE=>kq rfl hE rfl
         ·intro a w ux67 hE hM hp
          have f14 : ux67 14 = (vT true):=hp 0 _ rfl rfl
          exact Zh hE rfl (lk rfl f14) rfl (by decide) fun a hE=>kq rfl hE rfl
         ·intro a w ux67 hE hM hp
          have f14 : ux67 14 = (vT true):=hp 1 _ rfl rfl
          have f15 : ux67 15 = undef:=hp 0 _ rfl rfl
          exact Zh hE rfl (lk rfl f14) rfl (by decide) fun a hE=>kq rfl hE rfl
         ·intro a w ux67 hE hM hp
          have f14 : ux67 14 = (vT true):=hp 1 _ rfl rfl
          have f16 : ux67 16 = undef:=hp 0 _ rfl rfl
          exact Zh hE rfl (lk rfl f14) rfl (by decide) fun a hE=>kq rfl hE rfl
         ·intro a w ux67 hE hM hp
          have f14 : ux67 14 = (vT true):=hp 1 _ rfl rfl
          have f17 : ux67 17 = undef:=hp 0 _ rfl rfl
          exact Zh hE rfl (lk rfl f14) rfl (by decide) fun a hE=>kq rfl hE rfl
         ·intro a w ux67 hE hM hp
          have f14 : ux67 14 = (vT true):=hp 0 _ rfl rfl
          have f18 : ux67 18 = undef:=hp 1 _ rfl rfl
          exact ZG hE (lk rfl f14) rfl fun a hE=>kq rfl hE rfl
         ·intro a w ux67 hE hM hg
          have hE:=hE.sub (e':=[(78,vT true),(1,(ptr b1 0)),(4,(ptr b39 0)),(29,v0_2),(30,(vI (p0.Records.length : Int))),(31,vI s24),(58,vT j41)]) ⟨lk rfl (hg 19 (by decide)),rfl,rfl,rfl,rfl,rfl,rfl,trivial⟩
          refine Zj ?_
          obtain rfl:=Option.some.inj hl65
          refine Zl ?_
          have hM:=M.fst (l:=[_]) hM.pull1
          exact ⟨hE.sub ⟨rfl,rfl,rfl,rfl,rfl,trivial⟩,hM⟩
        ·have hl65:=Zt hl65 hb72
         refine Yb (decide ((x29.Label.length : Int) > 32)) (fun hb74=>?_) (fun hb74=>?_)
         ·have hl65:=Zu hl65 hb74
          refine ZX (n:=84) (hd:=[_,_,_,_,_,_,_,_,_,_,_,_,_,_,_,_,_,_,_,_]) (tl:=[]) Yx rfl rfl [59,60,61,62,63,64,65,66,67,68,69,70,71,72,73,74,75,76,77,78] (by decide) (fun w=>M (Old w0) w0 w [raw b39 (cat [[vI x29.Number],[vI x29.Version],enc x29.Nonce,[u35],[u37],enc x29.Tag]),raw b1 (cat [[v0_1],[vI p0.Next],[v0_2],[v0_3],enc p0.Head])]) (fun j=>([fun v _=>v = (ptr b39 (0 + 1)),fun v _=>v = (vI x29.Version),fun v _=>v = (ptr b1 (0 + 0)),fun v _=>v = v0_1,fun v _=>v = (vI r68),fun v _=>v = (vI (wr (r68 - 1))),fun v _=>v = (vT r70),fun v _=>v = (vT (!r70)),fun v _=>v = (vT (!r70)),fun v _=>v = (ptr b39 (0 + 18)),fun v _=>v = u35,fun v _=>v = (vI (x29.Label.length : Int)),fun v _=>v = (vT (decide ((x29.Label.length : Int) > 32))),fun v _=>v = (vT (decide ((x29.Label.length : Int) > 32))),fun v _=>v = (vT (decide ((x29.Label.length : Int) > 32))),fun v _=>v = undef,fun v _=>v = undef,fun v _=>v = undef,fun v _=>v = undef,fun v _=>v = (vT true)] : List (Value → World → Prop)).getD j (fun _ _=>True)) (fun _ _ h hk=>h.keep hk) (gup gu20) hE hM.drew (st20 ?_ ?_ ?_ ?_ ?_ ?_ ?_ ?_ ?_ ?_ ?_ ?_ ?_ ?_ ?_ ?_ ?_ ?_ ?_ ?_) ?_
          ·exact fun a w ux67 hE hM hp=>Zg hE rfl (KK) fun a hE=>kq rfl hE rfl
          ·intro a w ux67 hE hM hp
           have f0 : ux67 0 = (ptr b39 (0 + 1)):=hp 0 _ rfl rfl
           exact Zx (v:=(vI x29.Version)) hE (lk rfl f0) ty2 rfl (At.cat (pre:=[[vI x29.Number]]) hM.rawAt0 ck) fun a hE=>kq rfl hE rfl
          ·exact fun a w ux67 hE hM hp=>Zg hE rfl (Ks) fun a hE=>kq rfl hE rfl
          ·intro a w ux67 hE hM hp
           have f2 : ux67 2 = (ptr b1 (0 + 0)):=hp 0 _ rfl rfl
           exact Zx (v:=v0_1) hE (lk rfl f2) zl rfl (At.cat (pre:=[]) hM.rawAt1 cl0) fun a hE=>kq rfl hE rfl
          ·intro a w ux67 hE hM hp
           have f3 : ux67 3 = v0_1:=hp 0 _ rfl rfl
           refine Zv hE (ZU (ZR (lk rfl f3) Xf)) cb99 (XO _ p0.Keys v0_1 (hM.rdo hv0_1) r68 e69) ?_
           rintro v w a ⟨rfl,hK⟩ hE
           exact ⟨hK,_,_,rfl,hE,rfl⟩
          ·intro a w ux67 hE hM hp
           have f4 : ux67 4 = (vI r68):=hp 0 _ rfl rfl
           exact Zk hE (lk rfl f4) rfl rfl fun a hE=>kq rfl hE rfl
          ·intro a w ux67 hE hM hp
           have f1 : ux67 1 = (vI x29.Version):=hp 0 _ rfl rfl
           have f5 : ux67 5 = (vI (wr (r68 - 1))):=hp 1 _ rfl rfl
           refine Zv hE (ZU (ZR (lk rfl f1) (ZR rfl (ZR (lk rfl f5) Xf)))) HI (Yi _ x29.Version 0 (wr (r68 - 1)) r70 e71) ?_
           rintro v w a ⟨rfl,hK⟩ hE
           exact ⟨hK,_,_,rfl,hE,rfl⟩
          ·intro a w ux67 hE hM hp
           have f6 : ux67 6 = (vT r70):=hp 0 _ rfl rfl
           exact YO hE (lk rfl f6) fun a hE=>kq rfl hE rfl
          ·intro a w ux67 hE hM hp
           have f7 : ux67 7 = (vT (!r70)):=hp 0 _ rfl rfl
           exact Ze hE (lk rfl f7) fun a hE=>kq rfl hE rfl
          ·intro a w ux67 hE hM hp
           have f8 : ux67 8 = (vT (!r70)):=hp 0 _ rfl rfl
           exact ZB hE (Zi hE rfl (lkb (lk rfl f8) hb72)) (by decide) rfl (JJ) fun a hE=>kq rfl hE rfl
          ·intro a w ux67 hE hM hp
           have f8 : ux67 8 = (vT (!r70)):=hp 1 _ rfl rfl
           have f9 : ux67 9 = (ptr b39 (0 + 18)):=hp 0 _ rfl rfl
           exact ZY (v:=u35) hE (Zi hE rfl (lkb (lk rfl f8) hb72)) (by decide) (lk rfl f9) XB rfl (At.cat (pre:=[[vI x29.Number],[vI x29.Version],enc x29.Nonce]) hM.rawAt0 ck) fun a hE=>kq rfl hE rfl
          ·intro a w ux67 hE hM hp
           have f8 : ux67 8 = (vT (!r70)):=hp 1 _ rfl rfl
           have f10 : ux67 10 = u35:=hp 0 _ rfl rfl
           exact TQ hE (Zi hE rfl (lkb (lk rfl f8) hb72)) (by decide) (lk rfl f10) Tryz.underlying32 (hM.rd h36) fun a hE=>kq rfl hE rfl
          ·intro a w ux67 hE hM hp
           have f8 : ux67 8 = (vT (!r70)):=hp 1 _ rfl rfl
           have f11 : ux67 11 = (vI (x29.Label.length : Int)):=hp 0 _ rfl rfl
           exact Wa hE (Zi hE rfl (lkb (lk rfl f8) hb72)) (by decide) (lk rfl f11) rfl rfl fun a hE=>kq rfl hE rfl
          ·intro a w ux67 hE hM hp
           have f8 : ux67 8 = (vT (!r70)):=hp 0 _ rfl rfl
           have f12 : ux67 12 = (vT (decide ((x29.Label.length : Int) > 32))):=hp 1 _ rfl rfl
           exact ZL hE (lkb (lk rfl f8) hb72) (lk rfl f12) fun a hE=>kq rfl hE rfl
          ·intro a w ux67 hE hM hp
           have f13 : ux67 13 = (vT (decide ((x29.Label.length : Int) > 32))):=hp 0 _ rfl rfl
           exact Ze hE (lk rfl f13) fun a hE=>kq rfl hE rfl
          ·intro a w ux67 hE hM hp
           have f14 : ux67 14 = (vT (decide ((x29.Label.length : Int) > 32))):=hp 0 _ rfl rfl
           exact Zh hE rfl (lkb (lk rfl f14) hb74) rfl (by decide) fun a hE=>kq rfl hE rfl
          ·intro a w ux67 hE hM hp
           have f14 : ux67 14 = (vT (decide ((x29.Label.length : Int) > 32))):=hp 1 _ rfl rfl
           have f15 : ux67 15 = undef:=hp 0 _ rfl rfl
           exact Zh hE rfl (lkb (lk rfl f14) hb74) rfl (by decide) fun a hE=>kq rfl hE rfl
          ·intro a w ux67 hE hM hp
           have f14 : ux67 14 = (vT (decide ((x29.Label.length : Int) > 32))):=hp 1 _ rfl rfl
           have f16 : ux67 16 = undef:=hp 0 _ rfl rfl
           exact Zh hE rfl (lkb (lk rfl f14) hb74) rfl (by decide) fun a hE=>kq rfl hE rfl
          ·intro a w ux67 hE hM hp
           have f14 : ux67 14 = (vT (decide ((x29.Label.length : Int) > 32))):=hp 1 _ rfl rfl
           have f17 : ux67 17 = undef:=hp 0 _ rfl rfl
           exact Zh hE rfl (lkb (lk rfl f14) hb74) rfl (by decide) fun a hE=>kq rfl hE rfl
          ·intro a w ux67 hE hM hp
           have f14 : ux67 14 = (vT (decide ((x29.Label.length : Int) > 32))):=hp 0 _ rfl rfl
           have f18 : ux67 18 = undef:=hp 1 _ rfl rfl
           exact ZG hE (lkb (lk rfl f14) hb74) rfl fun a hE=>kq rfl hE rfl
          ·intro a w ux67 hE hM hg
           have hE:=hE.sub (e':=[(78,vT true),(1,(ptr b1 0)),(4,(ptr b39 0)),(29,v0_2),(30,(vI (p0.Records.length : Int))),(31,vI s24),(58,vT j41)]) ⟨lk rfl (hg 19 (by decide)),rfl,rfl,rfl,rfl,rfl,rfl,trivial⟩
           refine Zj ?_
           obtain rfl:=Option.some.inj hl65
           refine Zl ?_
           have hM:=M.fst (l:=[_]) hM.pull1
           exact ⟨hE.sub ⟨rfl,rfl,rfl,rfl,rfl,trivial⟩,hM⟩
         ·have hl65:=Zt hl65 hb74
          refine ZX (n:=84) (hd:=[_,_,_,_,_,_,_,_,_,_,_,_,_,_,_,_,_,_,_,_]) (tl:=[]) Yx rfl rfl [59,60,61,62,63,64,65,66,67,68,69,70,71,72,73,74,75,76,77,78] (by decide) (fun w=>M (Old w0) w0 w [raw b39 (cat [[vI x29.Number],[vI x29.Version],enc x29.Nonce,[u35],[u37],enc x29.Tag]),raw b1 (cat [[v0_1],[vI p0.Next],[v0_2],[v0_3],enc p0.Head])]) (fun j=>([fun v _=>v = (ptr b39 (0 + 1)),fun v _=>v = (vI x29.Version),fun v _=>v = (ptr b1 (0 + 0)),fun v _=>v = v0_1,fun v _=>v = (vI r68),fun v _=>v = (vI (wr (r68 - 1))),fun v _=>v = (vT r70),fun v _=>v = (vT (!r70)),fun v _=>v = (vT (!r70)),fun v _=>v = (ptr b39 (0 + 18)),fun v _=>v = u35,fun v _=>v = (vI (x29.Label.length : Int)),fun v _=>v = (vT (decide ((x29.Label.length : Int) > 32))),fun v _=>v = (vT (decide ((x29.Label.length : Int) > 32))),fun v _=>v = (vT (decide ((x29.Label.length : Int) > 32))),fun v _=>v = (ptr b39 (0 + 19)),fun v _=>v = u37,fun v _=>v = (vI (x29.Body.length : Int)),fun v _=>v = (vT (decide ((x29.Body.length : Int) > 200))),fun v _=>v = (vT (decide ((x29.Body.length : Int) > 200)))] : List (Value → World → Prop)).getD j (fun _ _=>True)) (fun _ _ h hk=>h.keep hk) (gup gu20) hE hM.drew (st20 ?_ ?_ ?_ ?_ ?_ ?_ ?_ ?_ ?_ ?_ ?_ ?_ ?_ ?_ ?_ ?_ ?_ ?_ ?_ ?_) ?_
          ·exact fun a w ux67 hE hM hp=>Zg hE rfl (KK) fun a hE=>kq rfl hE rfl
          ·intro a w ux67 hE hM hp
           have f0 : ux67 0 = (ptr b39 (0 + 1)):=hp 0 _ rfl rfl
           exact Zx (v:=(vI x29.Version)) hE (lk rfl f0) ty2 rfl (At.cat (pre:=[[vI x29.Number]]) hM.rawAt0 ck) fun a hE=>kq rfl hE rfl
          ·exact fun a w ux67 hE hM hp=>Zg hE rfl (Ks) fun a hE=>kq rfl hE rfl
          ·intro a w ux67 hE hM hp
           have f2 : ux67 2 = (ptr b1 (0 + 0)):=hp 0 _ rfl rfl
           exact Zx (v:=v0_1) hE (lk rfl f2) zl rfl (At.cat (pre:=[]) hM.rawAt1 cl0) fun a hE=>kq rfl hE rfl
          ·intro a w ux67 hE hM hp
           have f3 : ux67 3 = v0_1:=hp 0 _ rfl rfl
           refine Zv hE (ZU (ZR (lk rfl f3) Xf)) cb99 (XO _ p0.Keys v0_1 (hM.rdo hv0_1) r68 e69) ?_
           rintro v w a ⟨rfl,hK⟩ hE
           exact ⟨hK,_,_,rfl,hE,rfl⟩
          ·intro a w ux67 hE hM hp
           have f4 : ux67 4 = (vI r68):=hp 0 _ rfl rfl
           exact Zk hE (lk rfl f4) rfl rfl fun a hE=>kq rfl hE rfl
          ·intro a w ux67 hE hM hp
           have f1 : ux67 1 = (vI x29.Version):=hp 0 _ rfl rfl
           have f5 : ux67 5 = (vI (wr (r68 - 1))):=hp 1 _ rfl rfl
           refine Zv hE (ZU (ZR (lk rfl f1) (ZR rfl (ZR (lk rfl f5) Xf)))) HI (Yi _ x29.Version 0 (wr (r68 - 1)) r70 e71) ?_
           rintro v w a ⟨rfl,hK⟩ hE
           exact ⟨hK,_,_,rfl,hE,rfl⟩
          ·intro a w ux67 hE hM hp
           have f6 : ux67 6 = (vT r70):=hp 0 _ rfl rfl
           exact YO hE (lk rfl f6) fun a hE=>kq rfl hE rfl
          ·intro a w ux67 hE hM hp
           have f7 : ux67 7 = (vT (!r70)):=hp 0 _ rfl rfl
           exact Ze hE (lk rfl f7) fun a hE=>kq rfl hE rfl
          ·intro a w ux67 hE hM hp
           have f8 : ux67 8 = (vT (!r70)):=hp 0 _ rfl rfl
           exact ZB hE (Zi hE rfl (lkb (lk rfl f8) hb72)) (by decide) rfl (JJ) fun a hE=>kq rfl hE rfl
          ·intro a w ux67 hE hM hp
           have f8 : ux67 8 = (vT (!r70)):=hp 1 _ rfl rfl
           have f9 : ux67 9 = (ptr b39 (0 + 18)):=hp 0 _ rfl rfl
           exact ZY (v:=u35) hE (Zi hE rfl (lkb (lk rfl f8) hb72)) (by decide) (lk rfl f9) XB rfl (At.cat (pre:=[[vI x29.Number],[vI x29.Version],enc x29.Nonce]) hM.rawAt0 ck) fun a hE=>kq rfl hE rfl
          ·intro a w ux67 hE hM hp
           have f8 : ux67 8 = (vT (!r70)):=hp 1 _ rfl rfl
           have f10 : ux67 10 = u35:=hp 0 _ rfl rfl
           exact TQ hE (Zi hE rfl (lkb (lk rfl f8) hb72)) (by decide) (lk rfl f10) Tryz.underlying32 (hM.rd h36) fun a hE=>kq rfl hE rfl
          ·intro a w ux67 hE hM hp
           have f8 : ux67 8 = (vT (!r70)):=hp 1 _ rfl rfl
           have f11 : ux67 11 = (vI (x29.Label.length : Int)):=hp 0 _ rfl rfl
           exact Wa hE (Zi hE rfl (lkb (lk rfl f8) hb72)) (by decide) (lk rfl f11) rfl rfl fun a hE=>kq rfl hE rfl
          ·intro a w ux67 hE hM hp
           have f8 : ux67 8 = (vT (!r70)):=hp 0 _ rfl rfl
           have f12 : ux67 12 = (vT (decide ((x29.Label.length : Int) > 32))):=hp 1 _ rfl rfl
           exact ZL hE (lkb (lk rfl f8) hb72) (lk rfl f12) fun a hE=>kq rfl hE rfl
          ·intro a w ux67 hE hM hp
           have f13 : ux67 13 = (vT (decide ((x29.Label.length : Int) > 32))):=hp 0 _ rfl rfl
           exact Ze hE (lk rfl f13) fun a hE=>kq rfl hE rfl
          ·intro a w ux67 hE hM hp
           have f14 : ux67 14 = (vT (decide ((x29.Label.length : Int) > 32))):=hp 0 _ rfl rfl
           exact ZB hE (Zi hE rfl (lkb (lk rfl f14) hb74)) (by decide) rfl (HK) fun a hE=>kq rfl hE rfl
          ·intro a w ux67 hE hM hp
           have f14 : ux67 14 = (vT (decide ((x29.Label.length : Int) > 32))):=hp 1 _ rfl rfl
           have f15 : ux67 15 = (ptr b39 (0 + 19)):=hp 0 _ rfl rfl
           exact ZY (v:=u37) hE (Zi hE rfl (lkb (lk rfl f14) hb74)) (by decide) (lk rfl f15) XB rfl (At.cat (pre:=[[vI x29.Number],[vI x29.Version],enc x29.Nonce,[u35]]) hM.rawAt0 ck) fun a hE=>kq rfl hE rfl
          ·intro a w ux67 hE hM hp
           have f14 : ux67 14 = (vT (decide ((x29.Label.length : Int) > 32))):=hp 1 _ rfl rfl
           have f16 : ux67 16 = u37:=hp 0 _ rfl rfl
           exact TQ hE (Zi hE rfl (lkb (lk rfl f14) hb74)) (by decide) (lk rfl f16) Tryz.underlying32 (hM.rd h38) fun a hE=>kq rfl hE rfl
          ·intro a w ux67 hE hM hp
           have f14 : ux67 14 = (vT (decide ((x29.Label.length : Int) > 32))):=hp 1 _ rfl rfl
           have f17 : ux67 17 = (vI (x29.Body.length : Int)):=hp 0 _ rfl rfl
           exact Wa hE (Zi hE rfl (lkb (lk rfl f14) hb74)) (by decide) (lk rfl f17) rfl rfl fun a hE=>kq rfl hE rfl
          ·intro a w ux67 hE hM hp
           have f14 : ux67 14 = (vT (decide ((x29.Label.length : Int) > 32))):=hp 0 _ rfl rfl
           have f18 : ux67 18 = (vT (decide ((x29.Body.length : Int) > 200))):=hp 1 _ rfl rfl
           exact ZL hE (lkb (lk rfl f14) hb74) (lk rfl f18) fun a hE=>kq rfl hE rfl
          ·intro a w ux67 hE hM hg
           have hE:=hE.sub (e':=[(78,(vT (decide ((x29.Body.length : Int) > 200)))),(1,(ptr b1 0)),(4,(ptr b39 0)),(29,v0_2),(30,(vI (p0.Records.length : Int))),(31,vI s24),(58,vT j41)]) ⟨lk rfl (hg 19 (by decide)),rfl,rfl,rfl,rfl,rfl,rfl,trivial⟩
           refine Zj ?_
           obtain rfl:=Option.some.inj hl65
           refine Zl ?_
           have hM:=M.fst (l:=[_]) hM.pull1
           exact ⟨hE.sub ⟨rfl,rfl,rfl,rfl,rfl,trivial⟩,hM⟩
       ·skip
        rintro a w ⟨hE,hM⟩
        refine Zq hE rfl ?_ ?_
        ·intro hb77
         have hF66:=Zu hF66 hb77
         refine Za (Zb hE rfl fun a hE=>Zf ?_)
         obtain rfl:=hx26 _ (ois hF66)
         obtain rfl:=Option.some.inj hF22
         exact wp_ret (Z4 (Zs (Zs (Z4 (Zs (Zs (kr1 hE rfl rfl hM.kept)))))))
        ·intro hb77
         have hF66:=Zt hF66 hb77
         refine wp_skip (Z0 (Zy (wp_region_lit (Zk hE rfl rfl rfl fun a hE=>Ze hE rfl fun a hE=>Zj (Zl ?_)))))
         exact ⟨_,(ois hF66),hE.sub ⟨rfl,rfl,rfl,rfl,trivial⟩,hM⟩
    ·intro hb28
     have hs25:=Zt hs25 hb28
     refine wp_exit (Zp (Zp (Z1 ?_)))
     obtain rfl:=hx26 _ (ois hs25)
     refine Zl ?_
     exact ⟨(),rfl,hE.sub ⟨rfl,trivial⟩,hM⟩
   ·skip
    rintro a w ⟨s23,ht,hE,hM⟩
    subst ht
    have hF22:=X7 hF22
    refine Zy (Za (Zg hE rfl (Ju) fun a hE=>Zx (v:=v0_3) hE rfl yS rfl (At.cat (pre:=[[v0_1],[vI p0.Next],[v0_2]]) hM.rawAt0 ck) ?_)); intro a hE
    obtain ⟨r80,e81,hF22⟩:=bind_some hF22
    refine Zv hE rfl (cbm Tryz.func100) (VU _ p0.Events v0_3 (hM.rdo hv0_3) (fun z0=>VQ z0) 101 [] (cbm Tryz.func101) (fun w2 hk2 z0 zr zhr=>H2 w2 z0 zr zhr) r80 e81) ?_
    rintro v w a ⟨rfl,hK⟩ hE
    have hM:=hM.keep hK
    refine YO hE rfl fun a hE=>Zb hE rfl fun a hE=>Zf ?_
    obtain rfl:=Option.some.inj hF22
    exact wp_ret (kr1 hE rfl rfl hM.kept)
def Yg (p0 : UInt8) (p1 : Int) : Option (UInt8) :=
 (YI (wru (BitVec.ofInt 64 (IntKind.u64.wrap p1) &&& BitVec.ofInt 64 7).toNat)).bind fun _=>(YI (IntKind.u64.wrap (8 - (wru (BitVec.ofInt 64 (IntKind.u64.wrap p1) &&& BitVec.ofInt 64 7).toNat)))).bind fun _=>some ((shlB p0 (wru (BitVec.ofInt 64 (IntKind.u64.wrap p1) &&& BitVec.ofInt 64 7).toNat)) ||| (zp p0 (IntKind.u64.wrap (8 - (wru (BitVec.ofInt 64 (IntKind.u64.wrap p1) &&& BitVec.ofInt 64 7).toNat)))))
theorem T8 (w0 : World) (p0 : UInt8) (p1 : Int) (r : UInt8) (hF : Yg p0 p1 = some r) :
  Calls Tryz.prog 45 [vB p0,vI p1].toArray w0 (Rt w0 (vB r)):=by
 refine ce Tryz.func45 ?_
 intro a hE
 have hM:=M.start w0
 unfold Yg at hF
 refine Za (Zb hE rfl fun a hE=>Zf (Za (Ze hE rfl fun a hE=>XM hE Zd ld rfl Tryz.underlying3 Tryz.underlying147 fun a hE=>Zk hE rfl rfl rfl fun a hE=>Zb hE rfl fun a hE=>Zf (Za (Ze hE rfl fun a hE=>Ze hE rfl ?_))))); intro a hE
 obtain ⟨_,e1,hF⟩:=bind_some hF
 have e1:=Xz e1
 refine HX hE Zd ld rfl rfl (bB_shl _ _ e1) fun a hE=>Ze hE rfl fun a hE=>Ze hE rfl fun a hE=>Zk hE rfl rfl rfl ?_; intro a hE
 obtain ⟨_,e2,hF⟩:=bind_some hF
 have e2:=Xz e2
 refine HX hE Zd ld rfl rfl (Zb1 _ _ e2) fun a hE=>Zk hE rfl rfl (bB_or (shlB p0 (wru (BitVec.ofInt 64 (IntKind.u64.wrap p1) &&& BitVec.ofInt 64 7).toNat)) (zp p0 (IntKind.u64.wrap (8 - (wru (BitVec.ofInt 64 (IntKind.u64.wrap p1) &&& BitVec.ofInt 64 7).toNat))))) fun a hE=>Zb hE rfl fun a hE=>Zf ?_
 obtain rfl:=Option.some.inj hF
 exact wp_ret (kr1 hE rfl rfl hM.kept)
def Wk (s8 : (Vector UInt8 256) × Int) : Option (Fl ((Vector UInt8 256) × Int) (Vector UInt8 256)) :=
 if (decide (s8.2 < 256)) = true then ((Yj 285 (ZO s8.2)).bind fun r13=>(Yg r13 1).bind fun r15=>(Yg r13 4).bind fun r17=>(ZC s8.1 s8.2).bind fun x20=>some (Fl.nx ((s8.1.setIfInBounds (s8.2).toNat (((r13 ^^^ r15) ^^^ r17) ^^^ 90)),wr (s8.2 + 1)))) else (some (Fl.ex s8.1))
def Vm (s26 : (Vector (Vector UInt8 4) 4) × Int) (s34 : (Vector (Vector UInt8 4) 4) × Int) : Option (Fl ((Vector (Vector UInt8 4) 4) × Int) (Vector (Vector UInt8 4) 4)) :=
 if (decide (s34.2 < 4)) = true then ((Yj 285 (ZO (Ki s26.2 (wr (4 + s34.2))))).bind fun r40=>(ZC s34.1 s26.2).bind fun x43=>(ZC x43 s34.2).bind fun x46=>some (Fl.nx ((s34.1.setIfInBounds (s26.2).toNat (x43.setIfInBounds (s34.2).toNat r40)),wr (s34.2 + 1)))) else (some (Fl.ex s34.1))
def Vj (s26 : (Vector (Vector UInt8 4) 4) × Int) : Option (Fl ((Vector (Vector UInt8 4) 4) × Int) (Vector (Vector UInt8 4) 4)) :=
 if (decide (s26.2 < 4)) = true then ((ZD (Vm s26) (s26.1,0)).bind fun j31=>some (Fl.nx (j31,wr (s26.2 + 1)))) else (some (Fl.ex s26.1))
def Vk (s53 : (Vector UInt8 16) × Int) : Option (Fl ((Vector UInt8 16) × Int) (Vector UInt8 16)) :=
 if (decide (s53.2 < 16)) = true then ((ZC s53.1 s53.2).bind fun x59=>some (Fl.nx ((s53.1.setIfInBounds (s53.2).toNat (ZO (Int.tmod (wr ((wr (13 * s53.2)) + 4)) 16))),wr (s53.2 + 1)))) else (some (Fl.ex s53.1))
def WN (p0 : Int) : Option (GCipher) :=
 (ZD (Wk) ((Vector.replicate 256 (0 : UInt8)),0)).bind fun j5=>(ZD (Vj) ((Vector.replicate 4 (Vector.replicate 4 (0 : UInt8))),0)).bind fun j23=>(ZD (Vk) ((Vector.replicate 16 (0 : UInt8)),0)).bind fun j50=>some (⟨285,j5,j23,j50,p0⟩ : GCipher)
theorem J0 (w0 : World) (p0 : Int) (r : GCipher) (hF : WN p0 = some r) :
  Calls Tryz.prog 15 [vI p0].toArray w0 (Rt w0 (Value.agg (enc r).toArray)):=by
 refine ce Tryz.func15 ?_
 intro a hE
 have hM:=M.start w0
 unfold WN at hF
 refine Za (Zz hE hM Te fun b1 w a hM hE=>Zf (Za (Ze hE rfl fun a hE=>K0 (parts:=[(0,.const (vI 285)),(4,.tmp 9)]) (vs:=[(0,vI 285),(4,vI p0)]) (cs:=cat [[vI 285],enc (Vector.replicate 256 (0 : UInt8)),enc (Vector.replicate 4 (Vector.replicate 4 (0 : UInt8))),enc (Vector.replicate 16 (0 : UInt8)),[vI p0]]) hE Zd ld rfl rfl Te pl30 (WW (pre:=[]) (seg:=[vI 0]) (seg':=[vI 285]) (post:=[enc (Vector.replicate 256 (0 : UInt8)),enc (Vector.replicate 4 (Vector.replicate 4 (0 : UInt8))),enc (Vector.replicate 16 (0 : UInt8)),[vI 0]]) rfl cl0 rfl rfl rfl (WW (pre:=[[vI 285],enc (Vector.replicate 256 (0 : UInt8)),enc (Vector.replicate 4 (Vector.replicate 4 (0 : UInt8))),enc (Vector.replicate 16 (0 : UInt8))]) (seg:=[vI 0]) (seg':=[vI p0]) (post:=[]) rfl ck rfl rfl rfl HN)) fun a hE=>Zz hE hM Te fun b3 w a hM hE=>Zo (seg:=cat [[vI 285],enc (Vector.replicate 256 (0 : UInt8)),enc (Vector.replicate 4 (Vector.replicate 4 (0 : UInt8))),enc (Vector.replicate 16 (0 : UInt8)),[vI p0]]) (cs':=cat [[vI 285],enc (Vector.replicate 256 (0 : UInt8)),enc (Vector.replicate 4 (Vector.replicate 4 (0 : UInt8))),enc (Vector.replicate 16 (0 : UInt8)),[vI p0]]) hE hM Zd rfl rfl rfl Te cq (Nat.le_of_eq ((Nat.zero_add _).trans (Eq.trans cq (Eq.symm cq)))) (Yt (cc1 (Flat.cell (285 : Int)) (cc1 (Flat.cell _) (cc1 (Flat.cell _) (cc1 (Flat.cell _) (cc1 (Flat.cell (p0 : Int)) cc0)))))) (Zr (Eq.trans cq (Eq.symm cq))) fun w a hM hE=>Zf (wp_seq (Za (Ze hE rfl fun a hE=>Zf ?_))))))
 obtain ⟨j5,hl6,hF7⟩:=bind_some hF
 refine ZJ (fun a w=>Env 61 a [(2,(ptr b1 0)),(3,(ptr b3 0))] ∧ M (Old w0) w0 w [raw b3 (cat [[vI 285],enc j5,enc (Vector.replicate 4 (Vector.replicate 4 (0 : UInt8))),enc (Vector.replicate 16 (0 : UInt8)),[vI p0]]),raw b1 (cat [[vI 0],enc (Vector.replicate 256 (0 : UInt8)),enc (Vector.replicate 4 (Vector.replicate 4 (0 : UInt8))),enc (Vector.replicate 16 (0 : UInt8)),[vI 0]])]) ?_ ?_
 ·skip
  refine wp_block ?_
  refine ZE (fun (s8 : (Vector UInt8 256) × Int) a w=>Env 61 a [(2,(ptr b1 0)),(3,(ptr b3 0)),(11,vI s8.2)] ∧ M (Old w0) w0 w [raw b3 (cat [[vI 285],enc s8.1,enc (Vector.replicate 4 (Vector.replicate 4 (0 : UInt8))),enc (Vector.replicate 16 (0 : UInt8)),[vI p0]]),raw b1 (cat [[vI 0],enc (Vector.replicate 256 (0 : UInt8)),enc (Vector.replicate 4 (Vector.replicate 4 (0 : UInt8))),enc (Vector.replicate 16 (0 : UInt8)),[vI 0]])]) hl6 ⟨hE.sub ⟨rfl,rfl,rfl,trivial⟩,hM⟩ ?_
  rintro s8 a w ⟨hE,hM⟩ o11 hs9 hx10
  unfold Wk at hs9
  refine Za (Zk hE rfl rfl rfl fun a hE=>Zf (wp_seq ?_))
  refine Zq hE rfl ?_ ?_
  ·intro hb12
   have hs9:=Zu hs9 hb12
   refine wp_skip (Zy (wp_seq (wp_block (Za (Ze hE rfl fun a hE=>Zb hE rfl fun a hE=>Zf (Za (Ze hE rfl fun a hE=>XM hE Zd ld rfl Tryz.underlying3 Tryz.underlying5 ?_))))))); intro a hE
   rw [YB] at hE
   obtain ⟨r13,e14,hs9⟩:=bind_some hs9
   refine Zv hE rfl cb44 (U7 _ 285 (ZO s8.2) r13 e14) ?_
   rintro v w a ⟨rfl,hK⟩ hE
   have hM:=hM.keep hK
   refine Zb hE rfl fun a hE=>Zf (wp_region_lit (Ze hE rfl fun a hE=>Ze hE rfl fun a hE=>Ze hE rfl ?_)); intro a hE
   obtain ⟨r15,e16,hs9⟩:=bind_some hs9
   refine Zv hE rfl (cbm Tryz.func45) (T8 _ r13 1 r15 e16) ?_
   rintro v w a ⟨rfl,hK⟩ hE
   have hM:=hM.keep hK
   refine Zk hE rfl rfl (VA r13 r15) fun a hE=>Ze hE rfl ?_; intro a hE
   obtain ⟨r17,e18,hs9⟩:=bind_some hs9
   refine Zv hE rfl (cbm Tryz.func45) (T8 _ r13 4 r17 e18) ?_
   rintro v w a ⟨rfl,hK⟩ hE
   have hM:=hM.keep hK
   refine Zk hE rfl rfl (VA (r13 ^^^ r15) r17) fun a hE=>Zk hE rfl rfl (VA ((r13 ^^^ r15) ^^^ r17) 90) fun a hE=>Zg hE rfl (Q9) ?_; intro a hE
   obtain ⟨x20,hi19,hs9⟩:=bvx hs9
   refine Zm hE rfl rfl Tryz.underlying23 ty5 hi19.1 fun a hE=>Zo (seg:=[(vB (((r13 ^^^ r15) ^^^ r17) ^^^ 90))]) (cs':=cat [[vI 285],enc (s8.1.setIfInBounds (s8.2).toNat (((r13 ^^^ r15) ^^^ r17) ^^^ 90)),enc (Vector.replicate 4 (Vector.replicate 4 (0 : UInt8))),enc (Vector.replicate 16 (0 : UInt8)),[vI p0]]) hE hM Zd rfl rfl rfl ty5 rfl (Jl (o':=0 + (s8.2).toNat * 1) (pre:=[[vI 285]]) (seg:=enc s8.1) (post:=[enc (Vector.replicate 4 (Vector.replicate 4 (0 : UInt8))),enc (Vector.replicate 16 (0 : UInt8)),[vI p0]]) ck (ZH (v:=s8.1) (x:=((r13 ^^^ r15) ^^^ r17) ^^^ 90) hi19.1) (by first | omega | (simp only [Flat.n] <;> omega))) (Flat.cell (((r13 ^^^ r15) ^^^ r17) ^^^ 90 : UInt8)) (QL (o':=0 + (s8.2).toNat * 1) (pre:=[[vI 285]]) (seg:=enc s8.1) (post:=[enc (Vector.replicate 4 (Vector.replicate 4 (0 : UInt8))),enc (Vector.replicate 16 (0 : UInt8)),[vI p0]]) ck (ZH (v:=s8.1) (x:=((r13 ^^^ r15) ^^^ r17) ^^^ 90) hi19.1) (ZA (v:=s8.1) (x:=((r13 ^^^ r15) ^^^ r17) ^^^ 90) hi19.1) (by first | omega | (simp only [Flat.n] <;> omega))) fun w a hM hE=>Zj (Z0 (Zy (wp_region_lit (Zk hE rfl rfl rfl fun a hE=>Ze hE rfl fun a hE=>Zj (Zl ?_)))))
   exact ⟨_,(ois hs9),hE.sub ⟨rfl,rfl,rfl,trivial⟩,hM⟩
  ·intro hb12
   have hs9:=Zt hs9 hb12
   refine wp_exit (Zp (Zp (Z1 ?_)))
   obtain rfl:=hx10 _ (ois hs9)
   refine Zl ?_
   exact ⟨hE.sub ⟨rfl,rfl,trivial⟩,hM⟩
 ·skip
  rintro a w ⟨hE,hM⟩
  refine Zy (wp_seq (Za (Ze hE rfl fun a hE=>Zf ?_)))
  obtain ⟨j23,hl24,hF25⟩:=bind_some hF7
  refine ZJ (fun a w=>Env 61 a [(2,(ptr b1 0)),(3,(ptr b3 0))] ∧ M (Old w0) w0 w [raw b3 (cat [[vI 285],enc j5,enc j23,enc (Vector.replicate 16 (0 : UInt8)),[vI p0]]),raw b1 (cat [[vI 0],enc (Vector.replicate 256 (0 : UInt8)),enc (Vector.replicate 4 (Vector.replicate 4 (0 : UInt8))),enc (Vector.replicate 16 (0 : UInt8)),[vI 0]])]) ?_ ?_
  ·skip
   refine wp_block ?_
   refine ZE (fun (s26 : (Vector (Vector UInt8 4) 4) × Int) a w=>Env 61 a [(2,(ptr b1 0)),(3,(ptr b3 0)),(29,vI s26.2)] ∧ M (Old w0) w0 w [raw b3 (cat [[vI 285],enc j5,enc s26.1,enc (Vector.replicate 16 (0 : UInt8)),[vI p0]]),raw b1 (cat [[vI 0],enc (Vector.replicate 256 (0 : UInt8)),enc (Vector.replicate 4 (Vector.replicate 4 (0 : UInt8))),enc (Vector.replicate 16 (0 : UInt8)),[vI 0]])]) hl24 ⟨hE.sub ⟨rfl,rfl,rfl,trivial⟩,hM⟩ ?_
   rintro s26 a w ⟨hE,hM⟩ o29 hs27 hx28
   unfold Vj at hs27
   refine Za (Zk hE rfl rfl rfl fun a hE=>Zf (wp_seq ?_))
   refine Zq hE rfl ?_ ?_
   ·intro hb30
    have hs27:=Zu hs27 hb30
    refine wp_skip (Zy (wp_seq (wp_block (Za (Ze hE rfl fun a hE=>Zb hE rfl fun a hE=>Zf (Za (Ze hE rfl fun a hE=>Zf ?_)))))))
    obtain ⟨j31,hl32,hF33⟩:=bind_some hs27
    refine ZJ (fun a w=>Env 61 a [(2,(ptr b1 0)),(3,(ptr b3 0)),(29,vI s26.2)] ∧ M (Old w0) w0 w [raw b3 (cat [[vI 285],enc j5,enc j31,enc (Vector.replicate 16 (0 : UInt8)),[vI p0]]),raw b1 (cat [[vI 0],enc (Vector.replicate 256 (0 : UInt8)),enc (Vector.replicate 4 (Vector.replicate 4 (0 : UInt8))),enc (Vector.replicate 16 (0 : UInt8)),[vI 0]])]) ?_ ?_
    ·skip
     refine wp_block ?_
     refine ZE (fun (s34 : (Vector (Vector UInt8 4) 4) × Int) a w=>Env 61 a [(2,(ptr b1 0)),(3,(ptr b3 0)),(6,vI s26.2),(29,vI s26.2),(32,vI s34.2)] ∧ M (Old w0) w0 w [raw b3 (cat [[vI 285],enc j5,enc s34.1,enc (Vector.replicate 16 (0 : UInt8)),[vI p0]]),raw b1 (cat [[vI 0],enc (Vector.replicate 256 (0 : UInt8)),enc (Vector.replicate 4 (Vector.replicate 4 (0 : UInt8))),enc (Vector.replicate 16 (0 : UInt8)),[vI 0]])]) hl32 ⟨hE.sub ⟨rfl,rfl,rfl,rfl,rfl,trivial⟩,hM⟩ ?_
     rintro s34 a w ⟨hE,hM⟩ o37 hs35 hx36
     unfold Vm at hs35
     refine Za (Zk hE rfl rfl rfl fun a hE=>Zf (wp_seq ?_))
     refine Zq hE rfl ?_ ?_
     ·intro hb38
      have hs35:=Zu hs35 hb38
      refine wp_skip (Zy (wp_seq (wp_block (Za (Ze hE rfl fun a hE=>Zb hE rfl fun a hE=>Zf ?_)))))
      obtain ⟨r40,e41,hs35⟩:=bind_some hs35
      obtain ⟨x43,hi42,hs35⟩:=bvx hs35
      obtain ⟨x46,hi45,hs35⟩:=bvx hs35
      refine ZX (n:=61) (hd:=[_,_,_,_,_,_,_,_,_,_,_]) (tl:=[_]) Yx rfl rfl [35,36,37,38,39,40,41,42,43,44,45] (by decide) (fun w=>M (Old w0) w0 w [raw b3 (cat [[vI 285],enc j5,enc s34.1,enc (Vector.replicate 16 (0 : UInt8)),[vI p0]]),raw b1 (cat [[vI 0],enc (Vector.replicate 256 (0 : UInt8)),enc (Vector.replicate 4 (Vector.replicate 4 (0 : UInt8))),enc (Vector.replicate 16 (0 : UInt8)),[vI 0]])]) (fun j=>([fun v _=>v = (vI s26.2),fun v _=>v = (vI s34.2),fun v _=>v = (vI s26.2),fun v _=>v = (vI s34.2),fun v _=>v = (vI (wr (4 + s34.2))),fun v _=>v = (vI (Ki s26.2 (wr (4 + s34.2)))),fun v _=>v = (vB (ZO (Ki s26.2 (wr (4 + s34.2))))),fun v _=>v = (vB r40),fun v _=>v = (ptr b3 (0 + 257)),fun v _=>v = (ptr b3 (0 + 257 + (s26.2).toNat * 4)),fun v _=>v = (ptr b3 (0 + 257 + (s26.2).toNat * 4 + (s34.2).toNat * 1))] : List (Value → World → Prop)).getD j (fun _ _=>True)) (fun _ _ h hk=>h.keep hk) (gup gu11) hE hM.drew (st11 ?_ ?_ ?_ ?_ ?_ ?_ ?_ ?_ ?_ ?_ ?_) ?_
      ·exact qm
      ·exact qm
      ·exact qm
      ·exact qm
      ·intro a w ux39 hE hM hp
       have f3 : ux39 3 = (vI s34.2):=hp 0 _ rfl rfl
       exact Zk hE rfl (lk rfl f3) rfl fun a hE=>kq rfl hE rfl
      ·intro a w ux39 hE hM hp
       have f2 : ux39 2 = (vI s26.2):=hp 0 _ rfl rfl
       have f4 : ux39 4 = (vI (wr (4 + s34.2))):=hp 1 _ rfl rfl
       exact Zk hE (lk rfl f2) (lk rfl f4) rfl fun a hE=>kq rfl hE rfl
      ·intro a w ux39 hE hM hp
       have f5 : ux39 5 = (vI (Ki s26.2 (wr (4 + s34.2)))):=hp 0 _ rfl rfl
       refine XM hE Zd ld (lk rfl f5) Tryz.underlying3 Tryz.underlying5 ?_; intro a hE
       rw [YB] at hE
       exact kq rfl hE rfl
      ·intro a w ux39 hE hM hp
       have f6 : ux39 6 = (vB (ZO (Ki s26.2 (wr (4 + s34.2))))):=hp 0 _ rfl rfl
       refine Zv hE (ZU (ZR rfl (ZR (lk rfl f6) Xf))) cb44 (U7 _ 285 (ZO (Ki s26.2 (wr (4 + s34.2)))) r40 e41) ?_
       rintro v w a ⟨rfl,hK⟩ hE
       exact ⟨hK,_,_,rfl,hE,rfl⟩
      ·exact fun a w ux39 hE hM hp=>Zg hE rfl (Kr) fun a hE=>kq rfl hE rfl
      ·intro a w ux39 hE hM hp
       have f0 : ux39 0 = (vI s26.2):=hp 1 _ rfl rfl
       have f8 : ux39 8 = (ptr b3 (0 + 257)):=hp 0 _ rfl rfl
       exact Zm hE (lk rfl f8) (lk rfl f0) Tryz.underlying26 Yh hi42.1 fun a hE=>kq rfl hE rfl
      ·intro a w ux39 hE hM hp
       have f1 : ux39 1 = (vI s34.2):=hp 1 _ rfl rfl
       have f9 : ux39 9 = (ptr b3 (0 + 257 + (s26.2).toNat * 4)):=hp 0 _ rfl rfl
       exact Zm hE (lk rfl f9) (lk rfl f1) Tryz.underlying24 ty5 hi45.1 fun a hE=>kq rfl hE rfl
      ·intro a w ux39 hE hM hg
       have hE:=hE.sub (e':=[(42,vB r40),(45,(ptr b3 (0 + 257 + (s26.2).toNat * 4 + (s34.2).toNat * 1))),(2,(ptr b1 0)),(3,(ptr b3 0)),(6,vI s26.2),(7,vI s34.2),(29,vI s26.2),(32,vI s34.2),(33,(vT (decide (s34.2 < 4)))),(34,vI s34.2)]) ⟨lk rfl (hg 7 (by decide)),lk rfl (hg 10 (by decide)),rfl,rfl,rfl,rfl,rfl,rfl,rfl,rfl,trivial⟩
       refine Zo (seg:=[vB r40]) (cs':=cat [[vI 285],enc j5,enc (s34.1.setIfInBounds (s26.2).toNat (x43.setIfInBounds (s34.2).toNat r40)),enc (Vector.replicate 16 (0 : UInt8)),[vI p0]]) hE hM Zd rfl rfl rfl ty5 rfl (Jl (o':=(s26.2).toNat * 4 + (0 + (s34.2).toNat * 1)) (pre:=[[vI 285],enc j5]) (seg:=enc s34.1) (post:=[enc (Vector.replicate 16 (0 : UInt8)),[vI p0]]) ck (XX (o':=0 + (s34.2).toNat * 1) hi42 (ZH (v:=x43) (x:=r40) hi45.1) (by first | omega | (simp only [Flat.n] <;> omega))) (by first | omega | (simp only [Flat.n] <;> omega))) (Flat.cell (r40 : UInt8)) (QL (o':=(s26.2).toNat * 4 + (0 + (s34.2).toNat * 1)) (pre:=[[vI 285],enc j5]) (seg:=enc s34.1) (post:=[enc (Vector.replicate 16 (0 : UInt8)),[vI p0]]) ck (XX (o':=0 + (s34.2).toNat * 1) hi42 (ZH (v:=x43) (x:=r40) hi45.1) (by first | omega | (simp only [Flat.n] <;> omega))) (YW (o':=0 + (s34.2).toNat * 1) hi42 (ZH (v:=x43) (x:=r40) hi45.1) (ZA (v:=x43) (x:=r40) hi45.1) (by first | omega | (simp only [Flat.n] <;> omega))) (by first | omega | (simp only [Flat.n] <;> omega))) fun w a hM hE=>Zj (Z0 (Zy (wp_region_lit (Zk hE rfl rfl rfl fun a hE=>Ze hE rfl fun a hE=>Zj (Zl ?_)))))
       exact ⟨_,(ois hs35),hE.sub ⟨rfl,rfl,rfl,rfl,rfl,trivial⟩,hM⟩
     ·intro hb38
      have hs35:=Zt hs35 hb38
      refine wp_exit (Zp (Zp (Z1 ?_)))
      obtain rfl:=hx36 _ (ois hs35)
      refine Zl ?_
      exact ⟨hE.sub ⟨rfl,rfl,rfl,trivial⟩,hM⟩
    ·skip
     rintro a w ⟨hE,hM⟩
     refine Z0 (Zy (wp_region_lit (Zk hE rfl rfl rfl fun a hE=>Ze hE rfl fun a hE=>Zj (Zl ?_))))
     exact ⟨_,(ois hF33),hE.sub ⟨rfl,rfl,rfl,trivial⟩,hM⟩
   ·intro hb30
    have hs27:=Zt hs27 hb30
    refine wp_exit (Zp (Zp (Z1 ?_)))
    obtain rfl:=hx28 _ (ois hs27)
    refine Zl ?_
    exact ⟨hE.sub ⟨rfl,rfl,trivial⟩,hM⟩
  ·skip
   rintro a w ⟨hE,hM⟩
   refine Zy (wp_seq (Za (Ze hE rfl fun a hE=>Zf ?_)))
   obtain ⟨j50,hl51,hF52⟩:=bind_some hF25
   refine ZJ (fun a w=>Env 61 a [(2,(ptr b1 0)),(3,(ptr b3 0))] ∧ M (Old w0) w0 w [raw b3 (cat [[vI 285],enc j5,enc j23,enc j50,[vI p0]]),raw b1 (cat [[vI 0],enc (Vector.replicate 256 (0 : UInt8)),enc (Vector.replicate 4 (Vector.replicate 4 (0 : UInt8))),enc (Vector.replicate 16 (0 : UInt8)),[vI 0]])]) ?_ ?_
   ·skip
    refine wp_block ?_
    refine ZE (fun (s53 : (Vector UInt8 16) × Int) a w=>Env 61 a [(2,(ptr b1 0)),(3,(ptr b3 0)),(48,vI s53.2)] ∧ M (Old w0) w0 w [raw b3 (cat [[vI 285],enc j5,enc j23,enc s53.1,[vI p0]]),raw b1 (cat [[vI 0],enc (Vector.replicate 256 (0 : UInt8)),enc (Vector.replicate 4 (Vector.replicate 4 (0 : UInt8))),enc (Vector.replicate 16 (0 : UInt8)),[vI 0]])]) hl51 ⟨hE.sub ⟨rfl,rfl,rfl,trivial⟩,hM⟩ ?_
    rintro s53 a w ⟨hE,hM⟩ o56 hs54 hx55
    unfold Vk at hs54
    refine Za (Zk hE rfl rfl rfl fun a hE=>Zf (wp_seq ?_))
    refine Zq hE rfl ?_ ?_
    ·intro hb57
     have hs54:=Zu hs54 hb57
     refine wp_skip (Zy (wp_seq (wp_block (Za (Ze hE rfl fun a hE=>Zb hE rfl fun a hE=>Zf (wp_region_lit (Ze hE rfl fun a hE=>Ze hE rfl fun a hE=>Zk hE rfl rfl rfl fun a hE=>Zk hE rfl rfl rfl fun a hE=>Zk hE rfl rfl (Kt _ _ (by decide)) fun a hE=>XM hE Zd ld rfl Tryz.underlying3 Tryz.underlying5 ?_))))))); intro a hE
     rw [YB] at hE
     refine Zg hE rfl (Kn) ?_; intro a hE
     obtain ⟨x59,hi58,hs54⟩:=bvx hs54
     refine Zm hE rfl rfl Tryz.underlying28 ty5 hi58.1 fun a hE=>Zo (seg:=[(vB (ZO (Int.tmod (wr ((wr (13 * s53.2)) + 4)) 16)))]) (cs':=cat [[vI 285],enc j5,enc j23,enc (s53.1.setIfInBounds (s53.2).toNat (ZO (Int.tmod (wr ((wr (13 * s53.2)) + 4)) 16))),[vI p0]]) hE hM Zd rfl rfl rfl ty5 rfl (Jl (o':=0 + (s53.2).toNat * 1) (pre:=[[vI 285],enc j5,enc j23]) (seg:=enc s53.1) (post:=[[vI p0]]) ck (ZH (v:=s53.1) (x:=ZO (Int.tmod (wr ((wr (13 * s53.2)) + 4)) 16)) hi58.1) (by first | omega | (simp only [Flat.n] <;> omega))) (Flat.cell (ZO (Int.tmod (wr ((wr (13 * s53.2)) + 4)) 16) : UInt8)) (QL (o':=0 + (s53.2).toNat * 1) (pre:=[[vI 285],enc j5,enc j23]) (seg:=enc s53.1) (post:=[[vI p0]]) ck (ZH (v:=s53.1) (x:=ZO (Int.tmod (wr ((wr (13 * s53.2)) + 4)) 16)) hi58.1) (ZA (v:=s53.1) (x:=ZO (Int.tmod (wr ((wr (13 * s53.2)) + 4)) 16)) hi58.1) (by first | omega | (simp only [Flat.n] <;> omega))) fun w a hM hE=>Zj (Z0 (Zy (wp_region_lit (Zk hE rfl rfl rfl fun a hE=>Ze hE rfl fun a hE=>Zj (Zl ?_)))))
     exact ⟨_,(ois hs54),hE.sub ⟨rfl,rfl,rfl,trivial⟩,hM⟩
    ·intro hb57
     have hs54:=Zt hs54 hb57
     refine wp_exit (Zp (Zp (Z1 ?_)))
     obtain rfl:=hx55 _ (ois hs54)
     refine Zl ?_
     exact ⟨hE.sub ⟨rfl,rfl,trivial⟩,hM⟩
   ·skip
    rintro a w ⟨hE,hM⟩
    refine Zy (Za (Zn hE rfl Te rfl hM.rawAt0 cq ?_)); intro a hE
    have hM:=hM.pull1
    refine Zo (seg:=cat [[(vI ((⟨285,j5,j23,j50,p0⟩ : GCipher).Field))],enc ((⟨285,j5,j23,j50,p0⟩ : GCipher).Box),enc ((⟨285,j5,j23,j50,p0⟩ : GCipher).Mix),enc ((⟨285,j5,j23,j50,p0⟩ : GCipher).Places),[(vI ((⟨285,j5,j23,j50,p0⟩ : GCipher).Rounds))]]) (cs':=cat [[(vI ((⟨285,j5,j23,j50,p0⟩ : GCipher).Field))],enc ((⟨285,j5,j23,j50,p0⟩ : GCipher).Box),enc ((⟨285,j5,j23,j50,p0⟩ : GCipher).Mix),enc ((⟨285,j5,j23,j50,p0⟩ : GCipher).Places),[(vI ((⟨285,j5,j23,j50,p0⟩ : GCipher).Rounds))]]) hE hM Zd rfl rfl rfl Te cq (Nat.le_of_eq ((Nat.zero_add _).trans (Eq.trans cq (Eq.symm cq)))) (Yt (cc1 (Flat.cell ((⟨285,j5,j23,j50,p0⟩ : GCipher).Field : Int)) (cc1 (Flat.cell _) (cc1 (Flat.cell _) (cc1 (Flat.cell _) (cc1 (Flat.cell ((⟨285,j5,j23,j50,p0⟩ : GCipher).Rounds : Int)) cc0)))))) (Zr (Eq.trans cq (Eq.symm cq))) fun w a hM hE=>Zf ?_
    obtain rfl:=Option.some.inj hF52
    have hq62 : Yq Tryz.prog _ _ (.cell 2 30) _:=ZQ hE rfl Te rfl hM.rawAt0 cq rfl
    exact wp_ret (ZS hE rfl hq62 ⟨_,rfl,rfl,hM.kept⟩)
def Xv (p0 : (Vector UInt8 256)) (s10 : (Vector UInt8 256) × Int) : Option (Fl ((Vector UInt8 256) × Int) (Vector UInt8 256)) :=
 if (decide (s10.2 < 256)) = true then ((ZC p0 s10.2).bind fun x15=>(ZC s10.1 (bI x15)).bind fun x19=>some (Fl.nx ((s10.1.setIfInBounds ((bI x15)).toNat (ZO s10.2)),wr (s10.2 + 1)))) else (some (Fl.ex s10.1))
def WK (p0 : (Vector UInt8 256)) : Option ((Vector UInt8 256)) :=
 (ZD (Xv p0) ((Vector.replicate 256 (0 : UInt8)),0)).bind fun j7=>some j7
theorem J9 (w0 : World) (p0 : (Vector UInt8 256)) (r : (Vector UInt8 256)) (hF : WK p0 = some r) :
  Calls Tryz.prog 158 [(Value.agg (enc p0).toArray)].toArray w0 (Rt w0 (Value.agg (enc r).toArray)):=by
 refine ce Tryz.func158 ?_
 intro a hE
 have hM:=M.start w0
 unfold WK at hF
 refine Za (ZM (cs:=enc p0) hE hM Zd ld rfl rfl fun b1 w a hM hE=>Zz hE hM Wu fun b3 w a hM hE=>Zf (Za (YU (parts:=[]) (vs:=[]) (cs:=enc (Vector.replicate 256 (0 : UInt8))) hE Zd ld rfl rfl Wu rfl ty5 Yu fun a hE=>Zz hE hM Wu fun b5 w a hM hE=>Zo (seg:=enc (Vector.replicate 256 (0 : UInt8))) (cs':=enc (Vector.replicate 256 (0 : UInt8))) hE hM Zd rfl rfl rfl Wu (Flat.len _) (zle flq) (Flat.cell _) (Zr flq) fun w a hM hE=>Zf (wp_seq (Za (Zn hE rfl Wu rfl hM.rawAt2 (Flat.len _) fun a hE=>Ze hE rfl fun a hE=>Zf ?_))))))
 obtain ⟨j7,hl8,hF9⟩:=bind_some hF
 refine ZJ (fun a w=>Env 18 a [(2,(ptr b3 0)),(3,(ptr b5 0))] ∧ M (Old w0) w0 w [raw b5 (enc j7),raw b3 (enc (Vector.replicate 256 (0 : UInt8)))]) ?_ ?_
 ·skip
  refine wp_block ?_
  have hM:=M.fst (l:=[_,_]) hM.pull1.pull1
  refine ZE (fun (s10 : (Vector UInt8 256) × Int) a w=>Env 18 a [(2,(ptr b3 0)),(3,(ptr b5 0)),(7,(Value.agg (enc p0).toArray)),(8,vI s10.2)] ∧ M (Old w0) w0 w [raw b5 (enc s10.1),raw b3 (enc (Vector.replicate 256 (0 : UInt8)))]) hl8 ⟨hE.sub ⟨rfl,rfl,rfl,rfl,trivial⟩,hM⟩ ?_
  rintro s10 a w ⟨hE,hM⟩ o13 hs11 hx12
  unfold Xv at hs11
  refine Za (Zk hE rfl rfl rfl fun a hE=>Zf (wp_seq ?_))
  refine Zq hE rfl ?_ ?_
  ·intro hb14
   have hs11:=Zu hs11 hb14
   refine wp_skip (Zy (wp_seq (wp_block (Za (Ze hE rfl ?_))))); intro a hE
   obtain ⟨x15,hi17,hs11⟩:=bvx hs11
   refine Q6 hE Zd ld rfl rfl Tryz.underlying23 ty5 rfl rfl hi17 rfl fun a hE=>Zb hE rfl fun a hE=>Zb hE rfl fun a hE=>Zf (wp_region_lit (Ze hE rfl fun a hE=>Ze hE rfl fun a hE=>XM hE Zd ld rfl Tryz.underlying3 Tryz.underlying5 ?_)); intro a hE
   rw [YB] at hE
   obtain ⟨x19,hi18,hs11⟩:=bvx hs11
   refine Zm hE rfl rfl Tryz.underlying23 ty5 hi18.1 fun a hE=>Zo (seg:=[(vB (ZO s10.2))]) (cs':=enc (s10.1.setIfInBounds ((bI x15)).toNat (ZO s10.2))) hE hM Zd rfl rfl rfl ty5 rfl (ZH (v:=s10.1) (x:=ZO s10.2) hi18.1) (Flat.cell (ZO s10.2 : UInt8)) (ZA (v:=s10.1) (x:=ZO s10.2) hi18.1) fun w a hM hE=>Zj (Z0 (Zy (wp_region_lit (Zk hE rfl rfl rfl fun a hE=>Ze hE rfl fun a hE=>Zj (Zl ?_)))))
   exact ⟨_,(ois hs11),hE.sub ⟨rfl,rfl,rfl,rfl,trivial⟩,hM⟩
  ·intro hb14
   have hs11:=Zt hs11 hb14
   refine wp_exit (Zp (Zp (Z1 ?_)))
   obtain rfl:=hx12 _ (ois hs11)
   refine Zl ?_
   exact ⟨hE.sub ⟨rfl,rfl,trivial⟩,hM⟩
 ·skip
  rintro a w ⟨hE,hM⟩
  refine Zy (Za (Zn hE rfl Wu rfl hM.rawAt0 (Flat.len _) ?_)); intro a hE
  have hM:=hM.pull1
  refine Zo (seg:=enc j7) (cs':=enc j7) hE hM Zd rfl rfl rfl Wu (Flat.len _) (zle flq) (Flat.cell _) (Zr flq) fun w a hM hE=>Zf ?_
  obtain rfl:=Option.some.inj hF9
  have hq22 : Yq Tryz.prog _ _ (.cell 2 23) _:=ZQ hE rfl Wu rfl hM.rawAt0 (Flat.len _) rfl
  exact wp_ret (ZS hE rfl hq22 ⟨_,rfl,rfl,hM.kept⟩)
def YP (p0 : (Vector UInt8 16)) (s10 : (Vector UInt8 16) × Int) : Option (Fl ((Vector UInt8 16) × Int) (Vector UInt8 16)) :=
 if (decide (s10.2 < 16)) = true then ((ZC p0 s10.2).bind fun x15=>(ZC s10.1 (bI x15)).bind fun x19=>some (Fl.nx ((s10.1.setIfInBounds ((bI x15)).toNat (ZO s10.2)),wr (s10.2 + 1)))) else (some (Fl.ex s10.1))
def XF (p0 : (Vector UInt8 16)) : Option ((Vector UInt8 16)) :=
 (ZD (YP p0) ((Vector.replicate 16 (0 : UInt8)),0)).bind fun j7=>some j7
theorem K8 (w0 : World) (p0 : (Vector UInt8 16)) (r : (Vector UInt8 16)) (hF : XF p0 = some r) :
  Calls Tryz.prog 159 [(Value.agg (enc p0).toArray)].toArray w0 (Rt w0 (Value.agg (enc r).toArray)):=by
 refine ce Tryz.func159 ?_
 intro a hE
 have hM:=M.start w0
 unfold XF at hF
 refine Za (ZM (cs:=enc p0) hE hM Zd ld rfl rfl fun b1 w a hM hE=>Zz hE hM Qz fun b3 w a hM hE=>Zf (Za (YU (parts:=[]) (vs:=[]) (cs:=enc (Vector.replicate 16 (0 : UInt8))) hE Zd ld rfl rfl Qz rfl ty5 Yu fun a hE=>Zz hE hM Qz fun b5 w a hM hE=>Zo (seg:=enc (Vector.replicate 16 (0 : UInt8))) (cs':=enc (Vector.replicate 16 (0 : UInt8))) hE hM Zd rfl rfl rfl Qz (Flat.len _) (zle flq) (Flat.cell _) (Zr flq) fun w a hM hE=>Zf (wp_seq (Za (Zn hE rfl Qz rfl hM.rawAt2 (Flat.len _) fun a hE=>Ze hE rfl fun a hE=>Zf ?_))))))
 obtain ⟨j7,hl8,hF9⟩:=bind_some hF
 refine ZJ (fun a w=>Env 18 a [(2,(ptr b3 0)),(3,(ptr b5 0))] ∧ M (Old w0) w0 w [raw b5 (enc j7),raw b3 (enc (Vector.replicate 16 (0 : UInt8)))]) ?_ ?_
 ·skip
  refine wp_block ?_
  have hM:=M.fst (l:=[_,_]) hM.pull1.pull1
  refine ZE (fun (s10 : (Vector UInt8 16) × Int) a w=>Env 18 a [(2,(ptr b3 0)),(3,(ptr b5 0)),(7,(Value.agg (enc p0).toArray)),(8,vI s10.2)] ∧ M (Old w0) w0 w [raw b5 (enc s10.1),raw b3 (enc (Vector.replicate 16 (0 : UInt8)))]) hl8 ⟨hE.sub ⟨rfl,rfl,rfl,rfl,trivial⟩,hM⟩ ?_
  rintro s10 a w ⟨hE,hM⟩ o13 hs11 hx12
  unfold YP at hs11
  refine Za (Zk hE rfl rfl rfl fun a hE=>Zf (wp_seq ?_))
  refine Zq hE rfl ?_ ?_
  ·intro hb14
   have hs11:=Zu hs11 hb14
   refine wp_skip (Zy (wp_seq (wp_block (Za (Ze hE rfl ?_))))); intro a hE
   obtain ⟨x15,hi17,hs11⟩:=bvx hs11
   refine Q6 hE Zd ld rfl rfl Tryz.underlying28 ty5 rfl rfl hi17 rfl fun a hE=>Zb hE rfl fun a hE=>Zb hE rfl fun a hE=>Zf (wp_region_lit (Ze hE rfl fun a hE=>Ze hE rfl fun a hE=>XM hE Zd ld rfl Tryz.underlying3 Tryz.underlying5 ?_)); intro a hE
   rw [YB] at hE
   obtain ⟨x19,hi18,hs11⟩:=bvx hs11
   refine Zm hE rfl rfl Tryz.underlying28 ty5 hi18.1 fun a hE=>Zo (seg:=[(vB (ZO s10.2))]) (cs':=enc (s10.1.setIfInBounds ((bI x15)).toNat (ZO s10.2))) hE hM Zd rfl rfl rfl ty5 rfl (ZH (v:=s10.1) (x:=ZO s10.2) hi18.1) (Flat.cell (ZO s10.2 : UInt8)) (ZA (v:=s10.1) (x:=ZO s10.2) hi18.1) fun w a hM hE=>Zj (Z0 (Zy (wp_region_lit (Zk hE rfl rfl rfl fun a hE=>Ze hE rfl fun a hE=>Zj (Zl ?_)))))
   exact ⟨_,(ois hs11),hE.sub ⟨rfl,rfl,rfl,rfl,trivial⟩,hM⟩
  ·intro hb14
   have hs11:=Zt hs11 hb14
   refine wp_exit (Zp (Zp (Z1 ?_)))
   obtain rfl:=hx12 _ (ois hs11)
   refine Zl ?_
   exact ⟨hE.sub ⟨rfl,rfl,trivial⟩,hM⟩
 ·skip
  rintro a w ⟨hE,hM⟩
  refine Zy (Za (Zn hE rfl Qz rfl hM.rawAt0 (Flat.len _) ?_)); intro a hE
  have hM:=hM.pull1
  refine Zo (seg:=enc j7) (cs':=enc j7) hE hM Zd rfl rfl rfl Qz (Flat.len _) (zle flq) (Flat.cell _) (Zr flq) fun w a hM hE=>Zf ?_
  obtain rfl:=Option.some.inj hF9
  have hq22 : Yq Tryz.prog _ _ (.cell 2 28) _:=ZQ hE rfl Qz rfl hM.rawAt0 (Flat.len _) rfl
  exact wp_ret (ZS hE rfl hq22 ⟨_,rfl,rfl,hM.kept⟩)
def WC (s8 : (Vector (Vector (Vector UInt8 256) 4) 4) × Int) (s19 : (Vector (Vector (Vector UInt8 256) 4) 4) × Int) (s30 : (Vector (Vector (Vector UInt8 256) 4) 4) × Int) (r35 : UInt8) (s40 : (Vector (Vector (Vector UInt8 256) 4) 4) × Int) : Option (Fl ((Vector (Vector (Vector UInt8 256) 4) 4) × Int) (Vector (Vector (Vector UInt8 256) 4) 4)) :=
 if (decide (s40.2 < s30.2)) = true then ((ZC s40.1 s8.2).bind fun x47=>(ZC x47 s19.2).bind fun x50=>(ZC x50 s40.2).bind fun x53=>(ZC s40.1 s8.2).bind fun x56=>(ZC x56 s19.2).bind fun x59=>(ZC x59 (orI s30.2 s40.2)).bind fun x62=>some (Fl.nx ((s40.1.setIfInBounds (s8.2).toNat (x56.setIfInBounds (s19.2).toNat (x59.setIfInBounds ((orI s30.2 s40.2)).toNat (r35 ^^^ x53)))),wr (s40.2 + 1)))) else (some (Fl.ex s40.1))
def WD (p0 : Int) (s8 : (Vector (Vector (Vector UInt8 256) 4) 4) × Int) (s19 : (Vector (Vector (Vector UInt8 256) 4) 4) × Int) (x24 : UInt8) (s30 : (Vector (Vector (Vector UInt8 256) 4) 4) × Int) : Option (Fl ((Vector (Vector (Vector UInt8 256) 4) 4) × Int) (Vector (Vector (Vector UInt8 256) 4) 4)) :=
 if (decide (s30.2 < 256)) = true then ((Z6 p0 x24 (ZO s30.2)).bind fun r35=>(ZD (WC s8 s19 s30 r35) (s30.1,0)).bind fun j37=>some (Fl.nx (j37,wr (s30.2 * 2)))) else (some (Fl.ex s30.1))
def WI (p0 : Int) (s8 : (Vector (Vector (Vector UInt8 256) 4) 4) × Int) (x14 : (Vector UInt8 4)) (s19 : (Vector (Vector (Vector UInt8 256) 4) 4) × Int) : Option (Fl ((Vector (Vector (Vector UInt8 256) 4) 4) × Int) (Vector (Vector (Vector UInt8 256) 4) 4)) :=
 if (decide (s19.2 < 4)) = true then ((ZC x14 s19.2).bind fun x24=>(ZD (WD p0 s8 s19 x24) (s19.1,1)).bind fun j27=>some (Fl.nx (j27,wr (s19.2 + 1)))) else (some (Fl.ex s19.1))
def Wv (p0 : Int) (p1 : (Vector (Vector UInt8 4) 4)) (s8 : (Vector (Vector (Vector UInt8 256) 4) 4) × Int) : Option (Fl ((Vector (Vector (Vector UInt8 256) 4) 4) × Int) (Vector (Vector (Vector UInt8 256) 4) 4)) :=
 if (decide (s8.2 < 4)) = true then ((ZC p1 s8.2).bind fun x14=>(ZD (WI p0 s8 x14) (s8.1,0)).bind fun j16=>some (Fl.nx (j16,wr (s8.2 + 1)))) else (some (Fl.ex s8.1))
def WS (p0 : Int) (p1 : (Vector (Vector UInt8 4) 4)) : Option ((Ref (Vector (Vector (Vector UInt8 256) 4) 4))) :=
 (ZD (Wv p0 p1) ((Vector.replicate 4 (Vector.replicate 4 (Vector.replicate 256 (0 : UInt8)))),0)).bind fun j5=>some (⟨j5⟩ : (Ref (Vector (Vector (Vector UInt8 256) 4) 4)))
theorem K3 (w0 : World) (p0 : Int) (p1 : (Vector (Vector UInt8 4) 4)) (r : (Ref (Vector (Vector (Vector UInt8 256) 4) 4))) (hF : WS p0 p1 = some r) :
  Calls Tryz.prog 160 [vI p0,(Value.agg (enc p1).toArray)].toArray w0 (fun en w'=>∃ v,en = .returned v ∧ (∃ (y1 : Value),v = y1 ∧ Fr w0 w' [own NoB (r : (Ref (Vector (Vector (Vector UInt8 256) 4) 4))) [y1]] ∧ Kept (Old w0) w0 w')):=by
 refine ce Tryz.func160 ?_
 intro a hE
 have hM:=M.start w0
 unfold WS at hF
 refine Za (ZM (cs:=enc p1) hE hM Zd ld rfl rfl fun b1 w a hM hE=>Zb hE rfl fun a hE=>Zf (Za (YU (parts:=[]) (vs:=[]) (cs:=enc (Vector.replicate 4 (Vector.replicate 4 (Vector.replicate 256 (0 : UInt8))))) hE Zd ld rfl rfl ty207 rfl A5 Yu fun a hE=>ZM (cs:=enc (Vector.replicate 4 (Vector.replicate 4 (Vector.replicate 256 (0 : UInt8))))) hE hM Zd ld rfl rfl fun b3 w a hM hE=>Zb hE rfl fun a hE=>Zf (wp_seq (Za (Ze hE rfl fun a hE=>Zf ?_))))))
 obtain ⟨j5,hl6,hF7⟩:=bind_some hF
 refine ZJ (fun a w=>Env 62 a [(5,(ptr b3 0))] ∧ M (Old w0) w0 w [raw b3 (enc j5)]) ?_ ?_
 ·skip
  refine wp_block ?_
  refine ZE (fun (s8 : (Vector (Vector (Vector UInt8 256) 4) 4) × Int) a w=>Env 62 a [(0,vI p0),(3,(ptr b1 0)),(5,(ptr b3 0)),(14,vI s8.2)] ∧ M (Old w0) w0 w [raw b3 (enc s8.1),raw b1 (enc p1)]) hl6 ⟨hE.sub ⟨rfl,rfl,rfl,rfl,trivial⟩,hM⟩ ?_
  rintro s8 a w ⟨hE,hM⟩ o11 hs9 hx10
  unfold Wv at hs9
  refine Za (Zk hE rfl rfl rfl fun a hE=>Zf (wp_seq ?_))
  refine Zq hE rfl ?_ ?_
  ·intro hb12
   have hs9:=Zu hs9 hb12
   refine wp_skip (Zy (wp_seq (wp_block (Za (Ze hE rfl fun a hE=>Zb hE rfl fun a hE=>Zf (Za (Ze hE rfl ?_))))))); intro a hE
   obtain ⟨x14,hi13,hs9⟩:=bvx hs9
   refine Zm hE rfl rfl Tryz.underlying26 Yh hi13.1 fun a hE=>Zn hE rfl Yh rfl (At.vec hM.rawAt1 hi13.2) (Flat.len _) fun a hE=>Ze hE rfl fun a hE=>Zf ?_
   obtain ⟨j16,hl17,hF18⟩:=bind_some hs9
   refine ZJ (fun a w=>Env 62 a [(0,vI p0),(3,(ptr b1 0)),(5,(ptr b3 0)),(14,vI s8.2)] ∧ M (Old w0) w0 w [raw b3 (enc j16),raw b1 (enc p1)]) ?_ ?_
   ·skip
    refine wp_block ?_
    refine ZE (fun (s19 : (Vector (Vector (Vector UInt8 256) 4) 4) × Int) a w=>Env 62 a [(0,vI p0),(3,(ptr b1 0)),(5,(ptr b3 0)),(6,vI s8.2),(14,vI s8.2),(19,(Value.agg (enc x14).toArray)),(20,vI s19.2)] ∧ M (Old w0) w0 w [raw b3 (enc s19.1),raw b1 (enc p1)]) hl17 ⟨hE.sub ⟨rfl,rfl,rfl,rfl,rfl,rfl,rfl,trivial⟩,hM⟩ ?_
    rintro s19 a w ⟨hE,hM⟩ o22 hs20 hx21
    unfold WI at hs20
    refine Za (Zk hE rfl rfl rfl fun a hE=>Zf (wp_seq ?_))
    refine Zq hE rfl ?_ ?_
    ·intro hb23
     have hs20:=Zu hs20 hb23
     refine wp_skip (Zy (wp_seq (wp_block (Za (Ze hE rfl ?_))))); intro a hE
     obtain ⟨x24,hi26,hs20⟩:=bvx hs20
     refine Q6 hE Zd ld rfl rfl Tryz.underlying24 ty5 rfl rfl hi26 rfl fun a hE=>Zb hE rfl fun a hE=>Zb hE rfl fun a hE=>Zf (Za (Zb hE rfl fun a hE=>Zf ?_))
     obtain ⟨j27,hl28,hF29⟩:=bind_some hs20
     refine ZJ (fun a w=>Env 62 a [(0,vI p0),(3,(ptr b1 0)),(5,(ptr b3 0)),(6,vI s8.2),(14,vI s8.2),(19,(Value.agg (enc x14).toArray)),(20,vI s19.2)] ∧ M (Old w0) w0 w [raw b3 (enc j27),raw b1 (enc p1)]) ?_ ?_
     ·skip
      refine wp_block ?_
      refine ZE (fun (s30 : (Vector (Vector (Vector UInt8 256) 4) 4) × Int) a w=>Env 62 a [(0,vI p0),(3,(ptr b1 0)),(5,(ptr b3 0)),(6,vI s8.2),(7,vI s19.2),(8,vB x24),(9,vI s30.2),(14,vI s8.2),(19,(Value.agg (enc x14).toArray)),(20,vI s19.2)] ∧ M (Old w0) w0 w [raw b3 (enc s30.1),raw b1 (enc p1)]) hl28 ⟨hE.sub ⟨rfl,rfl,rfl,rfl,rfl,rfl,rfl,rfl,rfl,rfl,trivial⟩,hM⟩ ?_
      rintro s30 a w ⟨hE,hM⟩ o33 hs31 hx32
      unfold WD at hs31
      refine wp_seq (Za (Ze hE rfl fun a hE=>Zk hE rfl rfl rfl fun a hE=>Zf ?_))
      refine Zq hE rfl ?_ ?_
      ·intro hb34
       have hs31:=Zu hs31 hb34
       refine wp_skip (Zy (wp_seq (wp_block (Za (Ze hE rfl fun a hE=>Ze hE rfl fun a hE=>Ze hE rfl fun a hE=>XM hE Zd ld rfl Tryz.underlying3 Tryz.underlying5 ?_))))); intro a hE
       rw [YB] at hE
       obtain ⟨r35,e36,hs31⟩:=bind_some hs31
       refine Zv hE rfl By (YJ _ p0 x24 (ZO s30.2) r35 e36) ?_
       rintro v w a ⟨rfl,hK⟩ hE
       have hM:=hM.keep hK
       refine Zb hE rfl fun a hE=>Zf (Za (Ze hE rfl fun a hE=>Ze hE rfl fun a hE=>Zf ?_))
       obtain ⟨j37,hl38,hF39⟩:=bind_some hs31
       refine ZJ (fun a w=>Env 62 a [(0,vI p0),(3,(ptr b1 0)),(5,(ptr b3 0)),(6,vI s8.2),(7,vI s19.2),(8,vB x24),(9,vI s30.2),(14,vI s8.2),(19,(Value.agg (enc x14).toArray)),(20,vI s19.2)] ∧ M (Old w0) w0 w [raw b3 (enc j37),raw b1 (enc p1)]) ?_ ?_
       ·skip
        refine wp_block ?_
        refine ZE (fun (s40 : (Vector (Vector (Vector UInt8 256) 4) 4) × Int) a w=>Env 62 a [(0,vI p0),(3,(ptr b1 0)),(5,(ptr b3 0)),(6,vI s8.2),(7,vI s19.2),(8,vB x24),(9,vI s30.2),(10,vB r35),(14,vI s8.2),(19,(Value.agg (enc x14).toArray)),(20,vI s19.2),(33,vI s30.2),(34,vI s40.2)] ∧ M (Old w0) w0 w [raw b3 (enc s40.1),raw b1 (enc p1)]) hl38 ⟨hE.sub ⟨rfl,rfl,rfl,rfl,rfl,rfl,rfl,rfl,rfl,rfl,rfl,rfl,rfl,trivial⟩,hM⟩ ?_
        rintro s40 a w ⟨hE,hM⟩ o43 hs41 hx42
        unfold WC at hs41
        refine Za (Zk hE rfl rfl rfl fun a hE=>Zf (wp_seq ?_))
        refine Zq hE rfl ?_ ?_
        ·intro hb44
         have hs41:=Zu hs41 hb44
         refine wp_skip (Zy (wp_seq (wp_block (Za (Ze hE rfl fun a hE=>Zb hE rfl fun a hE=>Zf ?_)))))
         obtain ⟨x47,hi46,hs41⟩:=bvx hs41
         obtain ⟨x50,hi49,hs41⟩:=bvx hs41
         obtain ⟨x53,hi52,hs41⟩:=bvx hs41
         obtain ⟨x56,hi55,hs41⟩:=bvx hs41
         obtain ⟨x59,hi58,hs41⟩:=bvx hs41
         obtain ⟨x62,hi61,hs41⟩:=bvx hs41
         refine ZX (n:=62) (hd:=[_,_,_,_,_,_,_,_,_,_,_,_,_,_,_,_,_,_,_,_,_]) (tl:=[_]) Yx rfl rfl [37,38,39,40,41,42,43,44,45,46,47,48,49,50,51,52,53,54,55,56,57] (by decide) (fun w=>M (Old w0) w0 w [raw b3 (enc s40.1),raw b1 (enc p1)]) (fun j=>([fun v _=>v = (ptr b3 0),fun v _=>v = (vI s8.2),fun v _=>v = (vI s19.2),fun v _=>v = (vI s30.2),fun v _=>v = (vI s40.2),fun v _=>v = (vI (orI s30.2 s40.2)),fun v _=>v = (vB r35),fun v _=>v = (ptr b3 0),fun v _=>v = (vI s8.2),fun v _=>v = (vI s19.2),fun v _=>v = (vI s40.2),fun v _=>v = (ptr b3 0),fun v _=>v = (ptr b3 (0 + (s8.2).toNat * 1024)),fun v _=>v = (ptr b3 (0 + (s8.2).toNat * 1024 + (s19.2).toNat * 256)),fun v _=>v = (ptr b3 (0 + (s8.2).toNat * 1024 + (s19.2).toNat * 256 + (s40.2).toNat * 1)),fun v _=>v = (vB x53),fun v _=>v = (vB (r35 ^^^ x53)),fun v _=>v = (ptr b3 0),fun v _=>v = (ptr b3 (0 + (s8.2).toNat * 1024)),fun v _=>v = (ptr b3 (0 + (s8.2).toNat * 1024 + (s19.2).toNat * 256)),fun v _=>v = (ptr b3 (0 + (s8.2).toNat * 1024 + (s19.2).toNat * 256 + ((orI s30.2 s40.2)).toNat * 1))] : List (Value → World → Prop)).getD j (fun _ _=>True)) (fun _ _ h hk=>h.keep hk) (gup gu21) hE hM.drew (st21 ?_ ?_ ?_ ?_ ?_ ?_ ?_ ?_ ?_ ?_ ?_ ?_ ?_ ?_ ?_ ?_ ?_ ?_ ?_ ?_ ?_) ?_
         ·exact qm
         ·exact qm
         ·exact qm
         ·exact qm
         ·exact qm
         ·intro a w ux45 hE hM hp
          have f3 : ux45 3 = (vI s30.2):=hp 0 _ rfl rfl
          have f4 : ux45 4 = (vI s40.2):=hp 1 _ rfl rfl
          exact Zk hE (lk rfl f3) (lk rfl f4) rfl fun a hE=>kq rfl hE rfl
         ·exact qm
         ·exact qm
         ·exact qm
         ·exact qm
         ·exact qm
         ·intro a w ux45 hE hM hp
          have f7 : ux45 7 = (ptr b3 0):=hp 0 _ rfl rfl
          exact Wh hE Zd ld (lk rfl f7) fun a hE=>kq rfl hE rfl
         ·intro a w ux45 hE hM hp
          have f8 : ux45 8 = (vI s8.2):=hp 1 _ rfl rfl
          have f11 : ux45 11 = (ptr b3 0):=hp 0 _ rfl rfl
          exact Zm hE (lk rfl f11) (lk rfl f8) Tryz.underlying207 A5 hi46.1 fun a hE=>kq rfl hE rfl
         ·intro a w ux45 hE hM hp
          have f9 : ux45 9 = (vI s19.2):=hp 1 _ rfl rfl
          have f12 : ux45 12 = (ptr b3 (0 + (s8.2).toNat * 1024)):=hp 0 _ rfl rfl
          exact Zm hE (lk rfl f12) (lk rfl f9) Tryz.underlying205 jb hi49.1 fun a hE=>kq rfl hE rfl
         ·intro a w ux45 hE hM hp
          have f10 : ux45 10 = (vI s40.2):=hp 1 _ rfl rfl
          have f13 : ux45 13 = (ptr b3 (0 + (s8.2).toNat * 1024 + (s19.2).toNat * 256)):=hp 0 _ rfl rfl
          exact Zm hE (lk rfl f13) (lk rfl f10) Tryz.underlying22 ty5 hi52.1 fun a hE=>kq rfl hE rfl
         ·intro a w ux45 hE hM hp
          have f14 : ux45 14 = (ptr b3 (0 + (s8.2).toNat * 1024 + (s19.2).toNat * 256 + (s40.2).toNat * 1)):=hp 0 _ rfl rfl
          exact Zx (v:=(vB x53)) hE (lk rfl f14) ty5 rfl (At.vec (At.vec (At.vec hM.rawAt0 hi46.2) hi49.2) hi52.2) fun a hE=>kq rfl hE rfl
         ·intro a w ux45 hE hM hp
          have f6 : ux45 6 = (vB r35):=hp 0 _ rfl rfl
          have f15 : ux45 15 = (vB x53):=hp 1 _ rfl rfl
          exact Zk hE (lk rfl f6) (lk rfl f15) (VA r35 x53) fun a hE=>kq rfl hE rfl
         ·intro a w ux45 hE hM hp
          have f0 : ux45 0 = (ptr b3 0):=hp 0 _ rfl rfl
          exact Wh hE Zd ld (lk rfl f0) fun a hE=>kq rfl hE rfl
         ·intro a w ux45 hE hM hp
          have f1 : ux45 1 = (vI s8.2):=hp 1 _ rfl rfl
          have f17 : ux45 17 = (ptr b3 0):=hp 0 _ rfl rfl
          exact Zm hE (lk rfl f17) (lk rfl f1) Tryz.underlying207 A5 hi55.1 fun a hE=>kq rfl hE rfl
         ·intro a w ux45 hE hM hp
          have f2 : ux45 2 = (vI s19.2):=hp 1 _ rfl rfl
          have f18 : ux45 18 = (ptr b3 (0 + (s8.2).toNat * 1024)):=hp 0 _ rfl rfl
          exact Zm hE (lk rfl f18) (lk rfl f2) Tryz.underlying205 jb hi58.1 fun a hE=>kq rfl hE rfl
         ·intro a w ux45 hE hM hp
          have f5 : ux45 5 = (vI (orI s30.2 s40.2)):=hp 1 _ rfl rfl
          have f19 : ux45 19 = (ptr b3 (0 + (s8.2).toNat * 1024 + (s19.2).toNat * 256)):=hp 0 _ rfl rfl
          exact Zm hE (lk rfl f19) (lk rfl f5) Tryz.underlying22 ty5 hi61.1 fun a hE=>kq rfl hE rfl
         ·intro a w ux45 hE hM hg
          have hE:=hE.sub (e':=[(53,(vB (r35 ^^^ x53))),(57,(ptr b3 (0 + (s8.2).toNat * 1024 + (s19.2).toNat * 256 + ((orI s30.2 s40.2)).toNat * 1))),(0,vI p0),(3,(ptr b1 0)),(5,(ptr b3 0)),(6,vI s8.2),(7,vI s19.2),(8,vB x24),(9,vI s30.2),(10,vB r35),(11,vI s40.2),(14,vI s8.2),(19,(Value.agg (enc x14).toArray)),(20,vI s19.2),(33,vI s30.2),(34,vI s40.2),(35,(vT (decide (s40.2 < s30.2)))),(36,vI s40.2)]) ⟨lk rfl (hg 16 (by decide)),lk rfl (hg 20 (by decide)),rfl,rfl,rfl,rfl,rfl,rfl,rfl,rfl,rfl,rfl,rfl,rfl,rfl,rfl,rfl,rfl,trivial⟩
          refine Zo (seg:=[(vB (r35 ^^^ x53))]) (cs':=enc (s40.1.setIfInBounds (s8.2).toNat (x56.setIfInBounds (s19.2).toNat (x59.setIfInBounds ((orI s30.2 s40.2)).toNat (r35 ^^^ x53))))) hE hM Zd rfl rfl rfl ty5 rfl (XX (o':=(s19.2).toNat * 256 + (0 + ((orI s30.2 s40.2)).toNat * 1)) hi55 (XX (o':=0 + ((orI s30.2 s40.2)).toNat * 1) hi58 (ZH (v:=x59) (x:=r35 ^^^ x53) hi61.1) (by first | omega | (simp only [Flat.n] <;> omega))) (by first | omega | (simp only [Flat.n] <;> omega))) (Flat.cell (r35 ^^^ x53 : UInt8)) (YW (o':=(s19.2).toNat * 256 + (0 + ((orI s30.2 s40.2)).toNat * 1)) hi55 (XX (o':=0 + ((orI s30.2 s40.2)).toNat * 1) hi58 (ZH (v:=x59) (x:=r35 ^^^ x53) hi61.1) (by first | omega | (simp only [Flat.n] <;> omega))) (YW (o':=0 + ((orI s30.2 s40.2)).toNat * 1) hi58 (ZH (v:=x59) (x:=r35 ^^^ x53) hi61.1) (ZA (v:=x59) (x:=r35 ^^^ x53) hi61.1) (by first | omega | (simp only [Flat.n] <;> omega))) (by first | omega | (simp only [Flat.n] <;> omega))) fun w a hM hE=>Zj (Z0 (Zy (wp_region_lit (Zk hE rfl rfl rfl fun a hE=>Ze hE rfl fun a hE=>Zj (Zl ?_)))))
          exact ⟨_,(ois hs41),hE.sub ⟨rfl,rfl,rfl,rfl,rfl,rfl,rfl,rfl,rfl,rfl,rfl,rfl,rfl,trivial⟩,hM⟩
        ·intro hb44
         have hs41:=Zt hs41 hb44
         refine wp_exit (Zp (Zp (Z1 ?_)))
         obtain rfl:=hx42 _ (ois hs41)
         refine Zl ?_
         exact ⟨hE.sub ⟨rfl,rfl,rfl,rfl,rfl,rfl,rfl,rfl,rfl,rfl,trivial⟩,hM⟩
       ·skip
        rintro a w ⟨hE,hM⟩
        refine Z0 (Zy (wp_region_lit (Ze hE rfl fun a hE=>Zk hE rfl rfl rfl fun a hE=>Zb hE rfl fun a hE=>Zj (Zl ?_))))
        exact ⟨_,(ois hF39),hE.sub ⟨rfl,rfl,rfl,rfl,rfl,rfl,rfl,rfl,rfl,rfl,trivial⟩,hM⟩
      ·intro hb34
       have hs31:=Zt hs31 hb34
       refine wp_exit (Zp (Zp (Z1 ?_)))
       obtain rfl:=hx32 _ (ois hs31)
       refine Zl ?_
       exact ⟨hE.sub ⟨rfl,rfl,rfl,rfl,rfl,rfl,rfl,trivial⟩,hM⟩
     ·skip
      rintro a w ⟨hE,hM⟩
      refine Z0 (Zy (wp_region_lit (Zk hE rfl rfl rfl fun a hE=>Ze hE rfl fun a hE=>Zj (Zl ?_))))
      exact ⟨_,(ois hF29),hE.sub ⟨rfl,rfl,rfl,rfl,rfl,rfl,rfl,trivial⟩,hM⟩
    ·intro hb23
     have hs20:=Zt hs20 hb23
     refine wp_exit (Zp (Zp (Z1 ?_)))
     obtain rfl:=hx21 _ (ois hs20)
     refine Zl ?_
     exact ⟨hE.sub ⟨rfl,rfl,rfl,rfl,trivial⟩,hM⟩
   ·skip
    rintro a w ⟨hE,hM⟩
    refine Z0 (Zy (wp_region_lit (Zk hE rfl rfl rfl fun a hE=>Ze hE rfl fun a hE=>Zj (Zl ?_))))
    exact ⟨_,(ois hF18),hE.sub ⟨rfl,rfl,rfl,rfl,trivial⟩,hM⟩
  ·intro hb12
   have hs9:=Zt hs9 hb12
   refine wp_exit (Zp (Zp (Z1 ?_)))
   obtain rfl:=hx10 _ (ois hs9)
   refine Zl ?_
   have hM:=M.fst (l:=[_]) hM
   exact ⟨hE.sub ⟨rfl,trivial⟩,hM⟩
 ·skip
  rintro a w ⟨hE,hM⟩
  refine Zy (Za (Ze hE rfl fun a hE=>Zb hE rfl fun a hE=>Zf ?_))
  have hM:=M.toRefF (x:=j5) hM
  obtain rfl:=Option.some.inj hF7
  exact wp_ret (ZS hE rfl (YH hE rfl) ⟨_,rfl,(ptr b3 0),rfl,hM.outF (qt VD),hM.kept⟩)
def Vz (p0 : GCipher) : Option ((Ref Gengine)) :=
 (YV p0.Field p0.Mix).bind fun r3=>(WK p0.Box).bind fun r8=>(XF p0.Places).bind fun r10=>(WS p0.Field p0.Mix).bind fun r12=>(WS p0.Field r3.2).bind fun r15=>some (⟨(⟨p0.Box,r8,p0.Places,r10,r12,r15,p0.Rounds⟩ : Gengine)⟩ : (Ref Gengine))
theorem Bq (w0 : World) (p0 : GCipher) (r : (Ref Gengine)) (hF : Vz p0 = some r) :
  Calls Tryz.prog 140 [(Value.agg (enc p0).toArray)].toArray w0 (fun en w'=>∃ v,en = .returned v ∧ (∃ (y1 : Value),v = y1 ∧ Fr w0 w' [own NoB (r : (Ref Gengine)) [y1]] ∧ Kept (Old w0) w0 w')):=by
 refine ce Tryz.func140 ?_
 intro a hE
 have hM:=M.start w0
 unfold Vz at hF
 refine Za (ZM (cs:=cat [[vI p0.Field],enc p0.Box,enc p0.Mix,enc p0.Places,[vI p0.Rounds]]) hE hM Zd ld rfl rfl fun b1 w a hM hE=>Zb hE rfl fun a hE=>Zf (Za (Zg hE rfl (Kc) fun a hE=>Zx (v:=(vI p0.Field)) hE rfl ty2 rfl (At.cat (pre:=[]) hM.rawAt0 cl0) fun a hE=>Zg hE rfl (Kr) fun a hE=>Zn hE rfl Xc rfl (At.cat (pre:=[[vI p0.Field],enc p0.Box]) hM.rawAt0 ck) (Flat.len _) ?_))); intro a hE
 obtain ⟨r3,e4,hF⟩:=bind_some hF
 refine Zv hE rfl (cbm Tryz.func128) (QQ _ p0.Field p0.Mix r3 e4) ?_
 rintro v w a ⟨rfl,hK⟩ hE
 have hM:=hM.keep hK
 refine Ze hE rfl fun a hE=>Ux hE Zd ld rfl rfl fun a hE=>Ux hE Zd ld rfl rfl fun a hE=>Zz hE hM Xc fun b5 w a hM hE=>Zb hE rfl fun a hE=>Zo (seg:=enc r3.2) (cs':=enc r3.2) hE hM Zd rfl rfl rfl Xc (Flat.len _) (zle flq) (Flat.cell _) (Zr flq) fun w a hM hE=>Zf (wp_seq ?_)
 obtain ⟨r8,e9,hF⟩:=bind_some hF
 obtain ⟨r10,e11,hF⟩:=bind_some hF
 obtain ⟨r12,e13,hF⟩:=bind_some hF
 obtain ⟨r15,e16,hF⟩:=bind_some hF
 refine Aq (n:=36) (hd:=[_,_,_,_,_,_,_,_,_,_,_,_,_,_,_,_,_,_,_,_,_]) (tl:=[_,_,_]) (its:=[raw b5 (enc r3.2),raw b1 (cat [[vI p0.Field],enc p0.Box,enc p0.Mix,enc p0.Places,[vI p0.Rounds]])]) Yx rfl rfl [13,14,15,16,17,18,19,20,21,22,23,24,25,26,27,28,29,30,31,32,33] (by decide) [(14,fun v=>own NoB (r12 : (Ref (Vector (Vector (Vector UInt8 256) 4) 4))) [v]),(18,fun v=>own NoB (r15 : (Ref (Vector (Vector (Vector UInt8 256) 4) 4))) [v])] rfl (fun j=>([fun v=>v = (ptr b1 (0 + 1)),fun v=>v = (Value.agg (enc p0.Box).toArray),fun v=>v = (ptr b1 (0 + 1)),fun v=>v = (Value.agg (enc p0.Box).toArray),fun v=>v = (Value.agg (enc r8).toArray),fun v=>v = (ptr b1 (0 + 273)),fun v=>v = (Value.agg (enc p0.Places).toArray),fun v=>v = (ptr b1 (0 + 273)),fun v=>v = (Value.agg (enc p0.Places).toArray),fun v=>v = (Value.agg (enc r10).toArray),fun v=>v = (ptr b1 (0 + 0)),fun v=>v = (vI p0.Field),fun v=>v = (ptr b1 (0 + 257)),fun v=>v = (Value.agg (enc p0.Mix).toArray),fun v=>True,fun v=>v = (ptr b1 (0 + 0)),fun v=>v = (vI p0.Field),fun v=>v = (Value.agg (enc r3.2).toArray),fun v=>True,fun v=>v = (ptr b1 (0 + 289)),fun v=>v = (vI p0.Rounds)] : List (Value → Prop)).getD j (fun _=>True)) hE hM.drew (st21 ?_ ?_ ?_ ?_ ?_ ?_ ?_ ?_ ?_ ?_ ?_ ?_ ?_ ?_ ?_ ?_ ?_ ?_ ?_ ?_ ?_) ?_
 ·intro a w ux7 D hE hM hD hp
  have hM0:=hM
  exact Zg hE rfl (Q9) fun a hE=>⟨_,_,rfl,hE,rfl,hM0.optKeep rfl⟩
 ·intro a w ux7 D hE hM hD hp
  have f0 : ux7 0 = (ptr b1 (0 + 1)):=(hp 0 _ rfl rfl).2
  have hM0:=hM
  have hM : M (Old w0) w0 w [raw b5 (enc r3.2),raw b1 (cat [[vI p0.Field],enc p0.Box,enc p0.Mix,enc p0.Places,[vI p0.Rounds]]),opt (D 14) (own NoB (r12 : (Ref (Vector (Vector (Vector UInt8 256) 4) 4))) [(ux7 14)]),opt (D 18) (own NoB (r15 : (Ref (Vector (Vector (Vector UInt8 256) 4) 4))) [(ux7 18)])]:=hM
  exact Zn hE (lk rfl f0) Wu rfl (At.cat (pre:=[[vI p0.Field]]) hM.rawAt1 ck) (Flat.len _) fun a hE=>⟨_,_,rfl,hE,rfl,hM0.optKeep rfl⟩
 ·intro a w ux7 D hE hM hD hp
  have hM0:=hM
  exact Zg hE rfl (Q9) fun a hE=>⟨_,_,rfl,hE,rfl,hM0.optKeep rfl⟩
 ·intro a w ux7 D hE hM hD hp
  have f2 : ux7 2 = (ptr b1 (0 + 1)):=(hp 0 _ rfl rfl).2
  have hM0:=hM
  have hM : M (Old w0) w0 w [raw b5 (enc r3.2),raw b1 (cat [[vI p0.Field],enc p0.Box,enc p0.Mix,enc p0.Places,[vI p0.Rounds]]),opt (D 14) (own NoB (r12 : (Ref (Vector (Vector (Vector UInt8 256) 4) 4))) [(ux7 14)]),opt (D 18) (own NoB (r15 : (Ref (Vector (Vector (Vector UInt8 256) 4) 4))) [(ux7 18)])]:=hM
  exact Zn hE (lk rfl f2) Wu rfl (At.cat (pre:=[[vI p0.Field]]) hM.rawAt1 ck) (Flat.len _) fun a hE=>⟨_,_,rfl,hE,rfl,hM0.optKeep rfl⟩
 ·intro a w ux7 D hE hM hD hp
  have f3 : ux7 3 = (Value.agg (enc p0.Box).toArray):=(hp 0 _ rfl rfl).2
  have hM0:=hM
  refine Zv hE (ZU (ZR (lk rfl f3) Xf)) (cbm Tryz.func158) (J9 _ p0.Box r8 e9) ?_
  rintro v w a ⟨rfl,hK⟩ hE
  exact ⟨_,_,rfl,hE,rfl,(hM0.keep hK).optKeep rfl⟩
 ·intro a w ux7 D hE hM hD hp
  have hM0:=hM
  exact Zg hE rfl (Kn) fun a hE=>⟨_,_,rfl,hE,rfl,hM0.optKeep rfl⟩
 ·intro a w ux7 D hE hM hD hp
  have f5 : ux7 5 = (ptr b1 (0 + 273)):=(hp 0 _ rfl rfl).2
  have hM0:=hM
  have hM : M (Old w0) w0 w [raw b5 (enc r3.2),raw b1 (cat [[vI p0.Field],enc p0.Box,enc p0.Mix,enc p0.Places,[vI p0.Rounds]]),opt (D 14) (own NoB (r12 : (Ref (Vector (Vector (Vector UInt8 256) 4) 4))) [(ux7 14)]),opt (D 18) (own NoB (r15 : (Ref (Vector (Vector (Vector UInt8 256) 4) 4))) [(ux7 18)])]:=hM
  exact Zn hE (lk rfl f5) Qz rfl (At.cat (pre:=[[vI p0.Field],enc p0.Box,enc p0.Mix]) hM.rawAt1 ck) (Flat.len _) fun a hE=>⟨_,_,rfl,hE,rfl,hM0.optKeep rfl⟩
 ·intro a w ux7 D hE hM hD hp
  have hM0:=hM
  exact Zg hE rfl (Kn) fun a hE=>⟨_,_,rfl,hE,rfl,hM0.optKeep rfl⟩
 ·intro a w ux7 D hE hM hD hp
  have f7 : ux7 7 = (ptr b1 (0 + 273)):=(hp 0 _ rfl rfl).2
  have hM0:=hM
  have hM : M (Old w0) w0 w [raw b5 (enc r3.2),raw b1 (cat [[vI p0.Field],enc p0.Box,enc p0.Mix,enc p0.Places,[vI p0.Rounds]]),opt (D 14) (own NoB (r12 : (Ref (Vector (Vector (Vector UInt8 256) 4) 4))) [(ux7 14)]),opt (D 18) (own NoB (r15 : (Ref (Vector (Vector (Vector UInt8 256) 4) 4))) [(ux7 18)])]:=hM
  exact Zn hE (lk rfl f7) Qz rfl (At.cat (pre:=[[vI p0.Field],enc p0.Box,enc p0.Mix]) hM.rawAt1 ck) (Flat.len _) fun a hE=>⟨_,_,rfl,hE,rfl,hM0.optKeep rfl⟩
 ·intro a w ux7 D hE hM hD hp
  have f8 : ux7 8 = (Value.agg (enc p0.Places).toArray):=(hp 0 _ rfl rfl).2
  have hM0:=hM
  refine Zv hE (ZU (ZR (lk rfl f8) Xf)) (cbm Tryz.func159) (K8 _ p0.Places r10 e11) ?_
  rintro v w a ⟨rfl,hK⟩ hE
  exact ⟨_,_,rfl,hE,rfl,(hM0.keep hK).optKeep rfl⟩
 ·intro a w ux7 D hE hM hD hp
  have hM0:=hM
  exact Zg hE rfl (Kc) fun a hE=>⟨_,_,rfl,hE,rfl,hM0.optKeep rfl⟩
 ·intro a w ux7 D hE hM hD hp
  have f10 : ux7 10 = (ptr b1 (0 + 0)):=(hp 0 _ rfl rfl).2
  have hM0:=hM
  have hM : M (Old w0) w0 w [raw b5 (enc r3.2),raw b1 (cat [[vI p0.Field],enc p0.Box,enc p0.Mix,enc p0.Places,[vI p0.Rounds]]),opt (D 14) (own NoB (r12 : (Ref (Vector (Vector (Vector UInt8 256) 4) 4))) [(ux7 14)]),opt (D 18) (own NoB (r15 : (Ref (Vector (Vector (Vector UInt8 256) 4) 4))) [(ux7 18)])]:=hM
  exact Zx (v:=(vI p0.Field)) hE (lk rfl f10) ty2 rfl (At.cat (pre:=[]) hM.rawAt1 cl0) fun a hE=>⟨_,_,rfl,hE,rfl,hM0.optKeep rfl⟩
 ·intro a w ux7 D hE hM hD hp
  have hM0:=hM
  exact Zg hE rfl (Kr) fun a hE=>⟨_,_,rfl,hE,rfl,hM0.optKeep rfl⟩
 ·intro a w ux7 D hE hM hD hp
  have f12 : ux7 12 = (ptr b1 (0 + 257)):=(hp 0 _ rfl rfl).2
  have hM0:=hM
  have hM : M (Old w0) w0 w [raw b5 (enc r3.2),raw b1 (cat [[vI p0.Field],enc p0.Box,enc p0.Mix,enc p0.Places,[vI p0.Rounds]]),opt (D 14) (own NoB (r12 : (Ref (Vector (Vector (Vector UInt8 256) 4) 4))) [(ux7 14)]),opt (D 18) (own NoB (r15 : (Ref (Vector (Vector (Vector UInt8 256) 4) 4))) [(ux7 18)])]:=hM
  exact Zn hE (lk rfl f12) Xc rfl (At.cat (pre:=[[vI p0.Field],enc p0.Box]) hM.rawAt1 ck) (Flat.len _) fun a hE=>⟨_,_,rfl,hE,rfl,hM0.optKeep rfl⟩
 ·intro a w ux7 D hE hM hD hp
  have f11 : ux7 11 = (vI p0.Field):=(hp 0 _ rfl rfl).2
  have f13 : ux7 13 = (Value.agg (enc p0.Mix).toArray):=(hp 1 _ rfl rfl).2
  have hM0:=hM
  have hM : M (Old w0) w0 w [raw b5 (enc r3.2),raw b1 (cat [[vI p0.Field],enc p0.Box,enc p0.Mix,enc p0.Places,[vI p0.Rounds]]),opt (D 14) (own NoB (r12 : (Ref (Vector (Vector (Vector UInt8 256) 4) 4))) [(ux7 14)]),opt (D 18) (own NoB (r15 : (Ref (Vector (Vector (Vector UInt8 256) 4) 4))) [(ux7 18)])]:=hM
  refine Zv hE (ZU (ZR (lk rfl f11) (ZR (lk rfl f13) Xf))) (cbm Tryz.func160) (K3 _ p0.Field p0.Mix r12 e13) ?_
  rintro _ w a ⟨_,rfl,hFr,hK⟩ hE
  have hM:=hM0.add hK hFr
  exact ⟨_,_,rfl,hE,trivial,M.optFill (mk1:=[]) (mk2:=[_]) (f:=(fun v=>own NoB (r12 : (Ref (Vector (Vector (Vector UInt8 256) 4) 4))) [v])) hM rfl hD⟩
 ·intro a w ux7 D hE hM hD hp
  have hM0:=hM
  exact Zg hE rfl (Kc) fun a hE=>⟨_,_,rfl,hE,rfl,hM0.optKeep rfl⟩
 ·intro a w ux7 D hE hM hD hp
  have f15 : ux7 15 = (ptr b1 (0 + 0)):=(hp 0 _ rfl rfl).2
  have hM0:=hM
  have hM : M (Old w0) w0 w [raw b5 (enc r3.2),raw b1 (cat [[vI p0.Field],enc p0.Box,enc p0.Mix,enc p0.Places,[vI p0.Rounds]]),opt (D 14) (own NoB (r12 : (Ref (Vector (Vector (Vector UInt8 256) 4) 4))) [(ux7 14)]),opt (D 18) (own NoB (r15 : (Ref (Vector (Vector (Vector UInt8 256) 4) 4))) [(ux7 18)])]:=hM
  exact Zx (v:=(vI p0.Field)) hE (lk rfl f15) ty2 rfl (At.cat (pre:=[]) hM.rawAt1 cl0) fun a hE=>⟨_,_,rfl,hE,rfl,hM0.optKeep rfl⟩
 ·intro a w ux7 D hE hM hD hp
  have hM0:=hM
  have hM : M (Old w0) w0 w [raw b5 (enc r3.2),raw b1 (cat [[vI p0.Field],enc p0.Box,enc p0.Mix,enc p0.Places,[vI p0.Rounds]]),opt (D 14) (own NoB (r12 : (Ref (Vector (Vector (Vector UInt8 256) 4) 4))) [(ux7 14)]),opt (D 18) (own NoB (r15 : (Ref (Vector (Vector (Vector UInt8 256) 4) 4))) [(ux7 18)])]:=hM
  exact Zn hE rfl Xc rfl hM.rawAt0 (Flat.len _) fun a hE=>⟨_,_,rfl,hE,rfl,hM0.optKeep rfl⟩
 ·intro a w ux7 D hE hM hD hp
  have f16 : ux7 16 = (vI p0.Field):=(hp 0 _ rfl rfl).2
  have f17 : ux7 17 = (Value.agg (enc r3.2).toArray):=(hp 1 _ rfl rfl).2
  have hM0:=hM
  have hM : M (Old w0) w0 w [raw b5 (enc r3.2),raw b1 (cat [[vI p0.Field],enc p0.Box,enc p0.Mix,enc p0.Places,[vI p0.Rounds]]),opt (D 14) (own NoB (r12 : (Ref (Vector (Vector (Vector UInt8 256) 4) 4))) [(ux7 14)]),opt (D 18) (own NoB (r15 : (Ref (Vector (Vector (Vector UInt8 256) 4) 4))) [(ux7 18)])]:=hM
  refine Zv hE (ZU (ZR (lk rfl f16) (ZR (lk rfl f17) Xf))) (cbm Tryz.func160) (K3 _ p0.Field r3.2 r15 e16) ?_
  rintro _ w a ⟨_,rfl,hFr,hK⟩ hE
  have hM:=hM0.add hK hFr
  exact ⟨_,_,rfl,hE,trivial,M.optFill (mk1:=[_]) (mk2:=[]) (f:=(fun v=>own NoB (r15 : (Ref (Vector (Vector (Vector UInt8 256) 4) 4))) [v])) hM rfl hD⟩
 ·intro a w ux7 D hE hM hD hp
  have hM0:=hM
  exact Zg hE rfl (Jj) fun a hE=>⟨_,_,rfl,hE,rfl,hM0.optKeep rfl⟩
 ·intro a w ux7 D hE hM hD hp
  have f19 : ux7 19 = (ptr b1 (0 + 289)):=(hp 0 _ rfl rfl).2
  have hM0:=hM
  have hM : M (Old w0) w0 w [raw b5 (enc r3.2),raw b1 (cat [[vI p0.Field],enc p0.Box,enc p0.Mix,enc p0.Places,[vI p0.Rounds]]),opt (D 14) (own NoB (r12 : (Ref (Vector (Vector (Vector UInt8 256) 4) 4))) [(ux7 14)]),opt (D 18) (own NoB (r15 : (Ref (Vector (Vector (Vector UInt8 256) 4) 4))) [(ux7 18)])]:=hM
  exact Zx (v:=(vI p0.Rounds)) hE (lk rfl f19) ty2 rfl (At.cat (pre:=[[vI p0.Field],enc p0.Box,enc p0.Mix,enc p0.Places]) hM.rawAt1 ck) fun a hE=>⟨_,_,rfl,hE,rfl,hM0.optKeep rfl⟩
 ·intro a w ux7 hE hM hg
  have f1 : ux7 1 = (Value.agg (enc p0.Box).toArray):=hg 1 (by decide)
  have hM : M (Old w0) w0 w [raw b5 (enc r3.2),raw b1 (cat [[vI p0.Field],enc p0.Box,enc p0.Mix,enc p0.Places,[vI p0.Rounds]]),own NoB (r12 : (Ref (Vector (Vector (Vector UInt8 256) 4) 4))) [(ux7 14)],own NoB (r15 : (Ref (Vector (Vector (Vector UInt8 256) 4) 4))) [(ux7 18)]]:=hM
  have hE:=hE.sub (e':=[(14,(Value.agg (enc p0.Box).toArray)),(17,(Value.agg (enc r8).toArray)),(19,(Value.agg (enc p0.Places).toArray)),(22,(Value.agg (enc r10).toArray)),(27,(ux7 14)),(31,(ux7 18)),(33,vI p0.Rounds),(2,(Value.pointer none))]) ⟨lk rfl f1,lk rfl (hg 4 (by decide)),lk rfl (hg 6 (by decide)),lk rfl (hg 9 (by decide)),rfl,rfl,lk rfl (hg 20 (by decide)),rfl,trivial⟩
  refine K0 (parts:=[(0,.tmp 14),(1,.tmp 17),(2,.tmp 19),(3,.tmp 22),(4,.tmp 27),(5,.tmp 31),(6,.tmp 33)]) (vs:=[(0,(Value.agg (enc p0.Box).toArray)),(1,(Value.agg (enc r8).toArray)),(2,(Value.agg (enc p0.Places).toArray)),(3,(Value.agg (enc r10).toArray)),(4,(ux7 14)),(5,(ux7 18)),(6,vI p0.Rounds)]) (cs:=cat [enc p0.Box,enc r8,enc p0.Places,enc r10,[(ux7 14)],[(ux7 18)],[vI p0.Rounds]]) hE Zd ld rfl rfl BA pl198 (WW (pre:=[]) (seg:=enc (Vector.replicate 256 (0 : UInt8))) (seg':=enc p0.Box) (post:=[enc (Vector.replicate 256 (0 : UInt8)),enc (Vector.replicate 16 (0 : UInt8)),enc (Vector.replicate 16 (0 : UInt8)),[(Value.pointer none)],[(Value.pointer none)],[vI 0]]) rfl cl0 (Flat.len _) (Flat.len _) rfl (WW (pre:=[enc p0.Box]) (seg:=enc (Vector.replicate 256 (0 : UInt8))) (seg':=enc r8) (post:=[enc (Vector.replicate 16 (0 : UInt8)),enc (Vector.replicate 16 (0 : UInt8)),[(Value.pointer none)],[(Value.pointer none)],[vI 0]]) rfl ck (Flat.len _) (Flat.len _) rfl (WW (pre:=[enc p0.Box,enc r8]) (seg:=enc (Vector.replicate 16 (0 : UInt8))) (seg':=enc p0.Places) (post:=[enc (Vector.replicate 16 (0 : UInt8)),[(Value.pointer none)],[(Value.pointer none)],[vI 0]]) rfl ck (Flat.len _) (Flat.len _) rfl (WW (pre:=[enc p0.Box,enc r8,enc p0.Places]) (seg:=enc (Vector.replicate 16 (0 : UInt8))) (seg':=enc r10) (post:=[[(Value.pointer none)],[(Value.pointer none)],[vI 0]]) rfl ck (Flat.len _) (Flat.len _) rfl (WW (pre:=[enc p0.Box,enc r8,enc p0.Places,enc r10]) (seg:=[(Value.pointer none)]) (seg':=[(ux7 14)]) (post:=[[(Value.pointer none)],[vI 0]]) rfl ck rfl rfl (H8 (hM.ro (pre:=[_,_]) noB)) (WW (pre:=[enc p0.Box,enc r8,enc p0.Places,enc r10,[(ux7 14)]]) (seg:=[(Value.pointer none)]) (seg':=[(ux7 18)]) (post:=[[vI 0]]) rfl ck rfl rfl (H8 (hM.ro (pre:=[_,_,_]) noB)) (WW (pre:=[enc p0.Box,enc r8,enc p0.Places,enc r10,[(ux7 14)],[(ux7 18)]]) (seg:=[vI 0]) (seg':=[vI p0.Rounds]) (post:=[]) rfl ck rfl rfl rfl HN))))))) fun a hE=>ZM (cs:=cat [enc p0.Box,enc r8,enc p0.Places,enc r10,[(ux7 14)],[(ux7 18)],[vI p0.Rounds]]) hE hM Zd ld rfl rfl fun b18 w a hM hE=>Zb hE rfl fun a hE=>Zj (Zy ?_)
  have hM:=hM.pull4.pull4
  have hM:=(((hM.pack2 (it:=own NoB (⟨p0.Box,r8,p0.Places,r10,r12,r15,p0.Rounds⟩ : Gengine) (cat [enc p0.Box,enc r8,enc p0.Places,enc r10,[(ux7 14)],[(ux7 18)],[vI p0.Rounds]])) (Vo noB) (fun f0 f1 q0 q1=>(qe q0 q1 (by simp)))).pull1).pull1).pull1
  have hM:=M.toRef hM noB
  obtain rfl:=Option.some.inj hF
  have hM:=M.fst (l:=[_]) hM
  exact wp_ret (ZS hE rfl (YH hE rfl) ⟨_,rfl,(ptr b18 0),rfl,hM.outF (qt VD),hM.kept⟩)
def Qo (p0 : Int) : Option ((Ref Gengine)) :=
 (WN p0).bind fun r1=>(Vz r1).bind fun r3=>some r3
theorem yT (w0 : World) (p0 : Int) (r : (Ref Gengine)) (hF : Qo p0 = some r) :
  Calls Tryz.prog 111 [vI p0].toArray w0 (fun en w'=>∃ v,en = .returned v ∧ (∃ (y1 : Value),v = y1 ∧ Fr w0 w' [own NoB (r : (Ref Gengine)) [y1]] ∧ Kept (Old w0) w0 w')):=by
 refine ce Tryz.func111 ?_
 intro a hE
 have hM:=M.start w0
 unfold Qo at hF
 refine Za (Zb hE rfl fun a hE=>Zf (Za (Ze hE rfl ?_))); intro a hE
 obtain ⟨r1,e2,hF⟩:=bind_some hF
 refine Zv hE rfl (cbm Tryz.func15) (J0 _ p0 r1 e2) ?_
 rintro v w a ⟨rfl,hK⟩ hE
 have hM:=hM.keep hK
 obtain ⟨r3,e4,hF⟩:=bind_some hF
 refine Zv hE rfl (cbm Tryz.func140) (Bq _ r1 r3 e4) ?_
 rintro u5 w a ⟨_,rfl,hFr,hK⟩ hE
 have hM:=hM.add hK hFr
 refine Zb hE rfl fun a hE=>Zf ?_
 obtain rfl:=Option.some.inj hF
 exact wp_ret (ZS hE rfl (YH hE rfl) ⟨_,rfl,u5,rfl,hM.outF (qt VD),hM.kept⟩)
def Tx : Option (Ghasher) :=
 (Qo 8).bind fun r3=>some (⟨r3⟩ : Ghasher)
theorem HY (w0 : World)  (r : Ghasher) (hF : Tx  = some r) :
  Calls Tryz.prog 103 [].toArray w0 (fun en w'=>∃ v,en = .returned v ∧ (∃ (y1 : Value),v = (Value.agg (cat [[y1]]).toArray) ∧ Fr w0 w' [own NoB (r.engine : (Ref Gengine)) [y1]] ∧ Kept (Old w0) w0 w')):=by
 refine ce Tryz.func103 ?_
 intro a hE
 have hM:=M.start w0
 unfold Tx at hF
 refine Za (Zz hE hM je fun b1 w a hM hE=>Zf (Za ?_))
 obtain ⟨r3,e4,hF⟩:=bind_some hF
 refine Zv hE rfl (cbm Tryz.func111) (yT _ 8 r3 e4) ?_
 rintro u5 w a ⟨_,rfl,hFr,hK⟩ hE
 have hM:=hM.add hK hFr
 refine K0 (parts:=[(0,.tmp 1)]) (vs:=[(0,u5)]) (cs:=cat [[u5]]) hE Zd ld rfl rfl je pl140 (WW (pre:=[]) (seg:=[(Value.pointer none)]) (seg':=[u5]) (post:=[]) rfl cl0 rfl rfl (H8 (hM.ro (pre:=[]) noB)) HN) ?_; intro a hE
 have hM:=hM.pull1
 refine Zo (seg:=cat [[u5]]) (cs':=cat [[u5]]) hE hM Zd rfl rfl rfl je cq (Nat.le_of_eq ((Nat.zero_add _).trans (Eq.trans cq (Eq.symm cq)))) (Yt (cc1 (Rep.cell (hM.ro (pre:=[_]) noB)) cc0)) (Zr (Eq.trans cq (Eq.symm cq))) fun w a hM hE=>Zf ?_
 obtain rfl:=Option.some.inj hF
 have hq6 : Yq Tryz.prog _ _ (.cell 0 140) _:=ZQ hE rfl je rfl hM.rawAt0 cq rfl
 have hM:=M.fst (l:=[_]) hM.pull1
 exact wp_ret (ZS hE rfl hq6 ⟨_,rfl,u5,rfl,hM.outF (qt VD),hM.kept⟩)
def T1 (p0 : (List UInt8)) (p1 : (List UInt8)) : Option (Int) :=
 some (KA p0 p1)
theorem Ab (w0 : World) (p0 : (List UInt8)) (v0_1 : Value) (hv0_1 : Ro w0 p0 [v0_1]) (p1 : (List UInt8)) (v1_1 : Value) (hv1_1 : Ro w0 p1 [v1_1]) (r : Int) (hF : T1 p0 p1 = some r) :
  Calls Tryz.prog 170 [v0_1,v1_1].toArray w0 (Rt w0 (vI r)):=by
 refine ce Tryz.func170 ?_
 intro a hE
 have hM:=M.start w0
 unfold T1 at hF
 refine Za (Zb hE rfl fun a hE=>Zf (Za (Ze hE rfl fun a hE=>Ze hE rfl fun a hE=>AI (xs:=[.tmp 5,.tmp 6]) hE Zd ld rfl Tryz.func177 rfl (by decide) (by kernel_rfl) (by kernel_rfl) (hM.rd hv0_1) (hM.rd hv1_1) fun a hE=>Zb hE rfl fun a hE=>Zf ?_)))
 obtain rfl:=Option.some.inj hF
 exact wp_ret (kr1 hE rfl rfl hM.kept)
def YY (p0 : (Vector UInt8 32)) (p1 : (Vector UInt8 32)) : Option (Int) :=
 ((slc p0.toList (0 : Int) (32 : Int)).bind fun l9=>(slc p1.toList (0 : Int) (32 : Int)).bind fun l12=>(T1 l9 l12).bind fun r15=>some r15 : Option (Int)).bind fun j5=>some j5
theorem K7 (w0 : World) (p0 : (Vector UInt8 32)) (p1 : (Vector UInt8 32)) (r : Int) (hF : YY p0 p1 = some r) :
  Calls Tryz.prog 155 [(Value.agg (enc p0).toArray),(Value.agg (enc p1).toArray)].toArray w0 (Rt w0 (vI r)):=by
 refine ce Tryz.func155 ?_
 intro a hE
 have hM:=M.start w0
 unfold YY at hF
 refine Za (ZM (cs:=enc p0) hE hM Zd ld rfl rfl fun b1 w a hM hE=>ZM (cs:=enc p1) hE hM Zd ld rfl rfl fun b3 w a hM hE=>Zb hE rfl fun a hE=>Zf ?_)
 obtain ⟨j5,hl6,hF7⟩:=bind_some hF
 refine ZI (fun a w=>Env 8 a [(4,vI j5)] ∧ M (Old w0) w0 w []) ?_ ?_
 ·skip
  obtain ⟨l9,e10,hl6⟩:=bind_some hl6
  have hb11:=QV e10 -- ^
  obtain ⟨l12,e13,hl6⟩:=bind_some hl6
  have hb14:=QV e13 -- ^
  obtain ⟨r15,e16,hl6⟩:=bind_some hl6
  refine ZX (n:=8) (hd:=[_,_,_,_]) (tl:=[]) Yx rfl rfl [5,6,7,4] (by decide) (fun w=>M (Old w0) w0 w [raw b3 (enc p1),raw b1 (enc p0)]) (fun j=>([fun v _=>v = (Z9 (.slice (some ⟨b1,0,none⟩) 32 32) ((0 : Int)).toNat ((32 : Int)).toNat 1),fun v _=>v = (Z9 (.slice (some ⟨b3,0,none⟩) 32 32) ((0 : Int)).toNat ((32 : Int)).toNat 1),fun v _=>v = (vI r15),fun v _=>v = (vI r15)] : List (Value → World → Prop)).getD j (fun _ _=>True)) (fun _ _ h hk=>h.keep hk) (gup gu4) hE hM.drew (st4 ?_ ?_ ?_ ?_) ?_
  ·exact fun a w ux8 hE hM hp=>VZ (N:=32) hE Zd ld rfl rfl rfl rfl rfl Tryz.underlying37 ty5 hb11 fun a hE=>kq rfl hE rfl
  ·exact fun a w ux8 hE hM hp=>VZ (N:=32) hE Zd ld rfl rfl rfl rfl rfl Tryz.underlying37 ty5 hb14 fun a hE=>kq rfl hE rfl
  ·intro a w ux8 hE hM hp
   have f0 : ux8 0 = (Z9 (.slice (some ⟨b1,0,none⟩) 32 32) ((0 : Int)).toNat ((32 : Int)).toNat 1):=hp 0 _ rfl rfl
   have f1 : ux8 1 = (Z9 (.slice (some ⟨b3,0,none⟩) 32 32) ((0 : Int)).toNat ((32 : Int)).toNat 1):=hp 1 _ rfl rfl
   refine Zv hE (ZU (ZR (lk rfl f0) (ZR (lk rfl f1) Xf))) (cbm Tryz.func170) (Ab _ l9 (Z9 (.slice (some ⟨b1,0,none⟩) 32 32) ((0 : Int)).toNat ((32 : Int)).toNat 1) (W9 (At.sat hM.rawAt1 (by simp) (by decide)) e10) l12 (Z9 (.slice (some ⟨b3,0,none⟩) 32 32) ((0 : Int)).toNat ((32 : Int)).toNat 1) (W9 (At.sat hM.rawAt0 (by simp) (by decide)) e13) r15 e16) ?_
   rintro v w a ⟨rfl,hK⟩ hE
   exact ⟨hK,_,_,rfl,hE,rfl⟩
  ·intro a w ux8 hE hM hp
   have f2 : ux8 2 = (vI r15):=hp 0 _ rfl rfl
   exact Zb hE (lk rfl f2) fun a hE=>kq rfl hE rfl
  ·intro a w ux8 hE hM hg
   have hE:=hE.sub (e':=[(4,vI r15)]) ⟨lk rfl (hg 3 (by decide)),trivial⟩
   refine Zj ?_
   obtain rfl:=Option.some.inj hl6
   refine Zl ?_
   have hM:=M.fst (l:=[]) hM
   exact ⟨hE.sub ⟨rfl,trivial⟩,hM⟩
 ·skip
  rintro a w ⟨hE,hM⟩
  obtain rfl:=Option.some.inj hF7
  exact wp_ret (kr1 hE rfl rfl hM.kept)
def QP (p0 : (List (Vector UInt8 32))) (s5 : Int) : Option (Fl Int (Fl Unit Bool)) :=
 if (decide (s5 < (p0.length : Int))) = true then (((idx p0 (wr (s5 - 1))).bind fun x14=>(idx p0 s5).bind fun x17=>(YY x14 x17).bind fun r20=>some (decide (r20 ≥ 0)) : Option (Bool)).bind fun j10=>if j10 = true then (some (Fl.ex (Fl.ex false))) else (some (Fl.nx (wr (s5 + 1))))) else (some (Fl.ex (Fl.nx ())))
def UT (p0 : (List (Vector UInt8 32))) : Option (Bool) :=
 (ZD (QP p0) 1).bind fun j1=>j1.el (fun s4=>some true) (fun r=>some r)
theorem AH (w0 : World) (p0 : (List (Vector UInt8 32))) (v0_1 : Value) (hv0_1 : Ro w0 p0 [v0_1]) (r : Bool) (hF : UT p0 = some r) :
  Calls Tryz.prog 132 [v0_1].toArray w0 (Rt w0 (vT r)):=by
 refine ce Tryz.func132 ?_
 intro a hE
 have hM:=M.start w0
 unfold UT at hF
 refine Za (Zb hE rfl fun a hE=>Zf (wp_seq (Za (Zb hE rfl fun a hE=>Zf ?_))))
 obtain ⟨j1,hl2,hF3⟩:=bind_some hF
 refine ZJ (fun a w=>∃ s4 : Unit,j1 = Fl.nx s4 ∧ Env 21 a [] ∧ M (Old w0) w0 w []) ?_ ?_
 ·skip
  refine wp_block ?_
  refine ZE (fun (s5 : Int) a w=>Env 21 a [(0,v0_1),(3,vI s5)] ∧ M (Old w0) w0 w []) hl2 ⟨hE.sub ⟨rfl,rfl,trivial⟩,hM⟩ ?_
  rintro s5 a w ⟨hE,hM⟩ o8 hs6 hx7
  unfold QP at hs6
  refine wp_seq (Za (Ze hE rfl fun a hE=>Ze hE rfl fun a hE=>ZZ hE rfl Tryz.underlying40 (hM.rd hv0_1) fun a hE=>Zk hE rfl rfl rfl fun a hE=>Zf ?_))
  refine Zq hE rfl ?_ ?_
  ·intro hb9
   have hs6:=Zu hs6 hb9
   refine wp_skip (Zy (wp_seq (wp_block ?_)))
   obtain ⟨j10,hl11,hF12⟩:=bind_some hs6
   refine ZI (fun a w=>Env 21 a [(0,v0_1),(3,vI s5),(20,vT j10)] ∧ M (Old w0) w0 w []) ?_ ?_
   ·skip
    obtain ⟨x14,hi16,hl11⟩:=bix hl11
    obtain ⟨x17,hi19,hl11⟩:=bix hl11
    obtain ⟨r20,e21,hl11⟩:=bind_some hl11
    refine ZX (n:=21) (hd:=[_,_,_,_,_,_,_,_,_,_,_]) (tl:=[]) Yx rfl rfl [10,11,12,13,14,15,16,17,18,19,20] (by decide) (fun w=>M (Old w0) w0 w []) (fun j=>([fun v _=>v = v0_1,fun v _=>v = (vI s5),fun v _=>v = (vI (wr (s5 - 1))),fun v _=>v = (ptr (sb v0_1) (so v0_1 + ((wr (s5 - 1))).toNat * 32)),fun v _=>v = (Value.agg (enc x14).toArray),fun v _=>v = v0_1,fun v _=>v = (vI s5),fun v _=>v = (ptr (sb v0_1) (so v0_1 + (s5).toNat * 32)),fun v _=>v = (Value.agg (enc x17).toArray),fun v _=>v = (vI r20),fun v _=>v = (vT (decide (r20 ≥ 0)))] : List (Value → World → Prop)).getD j (fun _ _=>True)) (fun _ _ h hk=>h.keep hk) (gup gu11) hE hM.drew (st11 ?_ ?_ ?_ ?_ ?_ ?_ ?_ ?_ ?_ ?_ ?_) ?_
    ·exact qm
    ·exact qm
    ·intro a w ux13 hE hM hp
     have f1 : ux13 1 = (vI s5):=hp 0 _ rfl rfl
     exact Zk hE (lk rfl f1) rfl rfl fun a hE=>kq rfl hE rfl
    ·intro a w ux13 hE hM hp
     have f0 : ux13 0 = v0_1:=hp 0 _ rfl rfl
     have f2 : ux13 2 = (vI (wr (s5 - 1))):=hp 1 _ rfl rfl
     exact ZK hE (lk rfl f0) (lk rfl f2) Tryz.underlying40 Yr (hM.rd hv0_1) hi16.1 fun a hE=>kq rfl hE rfl
    ·intro a w ux13 hE hM hp
     have f3 : ux13 3 = (ptr (sb v0_1) (so v0_1 + ((wr (s5 - 1))).toNat * 32)):=hp 0 _ rfl rfl
     exact Zn hE (lk rfl f3) Yr rfl (Ys (hM.rd hv0_1) hi16.2) (Flat.len _) fun a hE=>kq rfl hE rfl
    ·exact qm
    ·exact qm
    ·intro a w ux13 hE hM hp
     have f5 : ux13 5 = v0_1:=hp 0 _ rfl rfl
     have f6 : ux13 6 = (vI s5):=hp 1 _ rfl rfl
     exact ZK hE (lk rfl f5) (lk rfl f6) Tryz.underlying40 Yr (hM.rd hv0_1) hi19.1 fun a hE=>kq rfl hE rfl
    ·intro a w ux13 hE hM hp
     have f7 : ux13 7 = (ptr (sb v0_1) (so v0_1 + (s5).toNat * 32)):=hp 0 _ rfl rfl
     exact Zn hE (lk rfl f7) Yr rfl (Ys (hM.rd hv0_1) hi19.2) (Flat.len _) fun a hE=>kq rfl hE rfl
    ·intro a w ux13 hE hM hp
     have f4 : ux13 4 = (Value.agg (enc x14).toArray):=hp 0 _ rfl rfl
     have f8 : ux13 8 = (Value.agg (enc x17).toArray):=hp 1 _ rfl rfl
     refine Zv hE (ZU (ZR (lk rfl f4) (ZR (lk rfl f8) Xf))) (cbm Tryz.func155) (K7 _ x14 x17 r20 e21) ?_
     rintro v w a ⟨rfl,hK⟩ hE
     exact ⟨hK,_,_,rfl,hE,rfl⟩
    ·intro a w ux13 hE hM hp
     have f9 : ux13 9 = (vI r20):=hp 0 _ rfl rfl
     exact Zk hE (lk rfl f9) rfl rfl fun a hE=>kq rfl hE rfl
    ·intro a w ux13 hE hM hg
     have hE:=hE.sub (e':=[(20,(vT (decide (r20 ≥ 0)))),(0,v0_1),(3,vI s5),(4,vI s5),(5,v0_1),(6,(vI (p0.length : Int))),(7,(vT (decide (s5 < (p0.length : Int)))))]) ⟨lk rfl (hg 10 (by decide)),rfl,rfl,rfl,rfl,rfl,rfl,trivial⟩
     refine Zj ?_
     obtain rfl:=Option.some.inj hl11
     refine Zl ?_
     exact ⟨hE.sub ⟨rfl,rfl,rfl,trivial⟩,hM⟩
   ·skip
    rintro a w ⟨hE,hM⟩
    refine Zq hE rfl ?_ ?_
    ·intro hb23
     have hF12:=Zu hF12 hb23
     refine Za (Zb hE rfl fun a hE=>Zf ?_)
     obtain rfl:=hx7 _ (ois hF12)
     obtain rfl:=Option.some.inj hF3
     exact wp_ret (Z4 (Zs (Zs (Z4 (Zs (Zs (kr1 hE rfl rfl hM.kept)))))))
    ·intro hb23
     have hF12:=Zt hF12 hb23
     refine wp_skip (Z0 (Zy (wp_region_lit (Ze hE rfl fun a hE=>Zk hE rfl rfl rfl fun a hE=>Zb hE rfl fun a hE=>Zj (Zl ?_)))))
     exact ⟨_,(ois hF12),hE.sub ⟨rfl,rfl,trivial⟩,hM⟩
  ·intro hb9
   have hs6:=Zt hs6 hb9
   refine wp_exit (Zp (Zp (Z1 ?_)))
   obtain rfl:=hx7 _ (ois hs6)
   refine Zl ?_
   exact ⟨(),rfl,hE.sub trivial,hM⟩
 ·skip
  rintro a w ⟨s4,ht,hE,hM⟩
  subst ht
  have hF3:=X7 hF3
  refine Zy (Za (Zb hE rfl fun a hE=>Zf ?_))
  obtain rfl:=Option.some.inj hF3
  exact wp_ret (kr1 hE rfl rfl hM.kept)
def QE (p0 : (List UInt8)) : Option (Bool) :=
 some (decide ((p0.length : Int) ≤ 2000))
theorem Ko (w0 : World) (p0 : (List UInt8)) (v0_1 : Value) (hv0_1 : Ro w0 p0 [v0_1]) (r : Bool) (hF : QE p0 = some r) :
  Calls Tryz.prog 133 [v0_1].toArray w0 (Rt w0 (vT r)):=by
 refine ce Tryz.func133 ?_
 intro a hE
 have hM:=M.start w0
 unfold QE at hF
 refine Za (Zb hE rfl fun a hE=>Zf (Za (Ze hE rfl fun a hE=>ZZ hE rfl Tryz.underlying32 (hM.rd hv0_1) fun a hE=>Zk hE rfl rfl rfl fun a hE=>Zb hE rfl fun a hE=>Zf ?_)))
 obtain rfl:=Option.some.inj hF
 exact wp_ret (kr1 hE rfl rfl hM.kept)
def YZ (s8 : (Vector UInt8 32) × Int) : Option (Fl ((Vector UInt8 32) × Int) (Vector UInt8 32)) :=
 if (decide (s8.2 < 32)) = true then ((ZC s8.1 s8.2).bind fun x14=>some (Fl.nx ((s8.1.setIfInBounds (s8.2).toNat (ZO (wr (17 * s8.2)))),wr (s8.2 + 1)))) else (some (Fl.ex s8.1))
def X0 : Option ((Vector UInt8 32)) :=
 (ZD (YZ) ((Vector.replicate 32 (0 : UInt8)),0)).bind fun j5=>some j5
theorem Jz (w0 : World)  (r : (Vector UInt8 32)) (hF : X0  = some r) :
  Calls Tryz.prog 141 [].toArray w0 (Rt w0 (Value.agg (enc r).toArray)):=by
 refine ce Tryz.func141 ?_
 intro a hE
 have hM:=M.start w0
 unfold X0 at hF
 refine Za (Zz hE hM Yr fun b1 w a hM hE=>Zf (Za (YU (parts:=[]) (vs:=[]) (cs:=enc (Vector.replicate 32 (0 : UInt8))) hE Zd ld rfl rfl Yr rfl ty5 Yu fun a hE=>Zz hE hM Yr fun b3 w a hM hE=>Zo (seg:=enc (Vector.replicate 32 (0 : UInt8))) (cs':=enc (Vector.replicate 32 (0 : UInt8))) hE hM Zd rfl rfl rfl Yr (Flat.len _) (zle flq) (Flat.cell _) (Zr flq) fun w a hM hE=>Zf (wp_seq (Za (Ze hE rfl fun a hE=>Zf ?_))))))
 obtain ⟨j5,hl6,hF7⟩:=bind_some hF
 refine ZJ (fun a w=>Env 14 a [(0,(ptr b1 0)),(1,(ptr b3 0))] ∧ M (Old w0) w0 w [raw b3 (enc j5),raw b1 (enc (Vector.replicate 32 (0 : UInt8)))]) ?_ ?_
 ·skip
  refine wp_block ?_
  refine ZE (fun (s8 : (Vector UInt8 32) × Int) a w=>Env 14 a [(0,(ptr b1 0)),(1,(ptr b3 0)),(4,vI s8.2)] ∧ M (Old w0) w0 w [raw b3 (enc s8.1),raw b1 (enc (Vector.replicate 32 (0 : UInt8)))]) hl6 ⟨hE.sub ⟨rfl,rfl,rfl,trivial⟩,hM⟩ ?_
  rintro s8 a w ⟨hE,hM⟩ o11 hs9 hx10
  unfold YZ at hs9
  refine Za (Zk hE rfl rfl rfl fun a hE=>Zf (wp_seq ?_))
  refine Zq hE rfl ?_ ?_
  ·intro hb12
   have hs9:=Zu hs9 hb12
   refine wp_skip (Zy (wp_seq (wp_block (Za (Ze hE rfl fun a hE=>Zb hE rfl fun a hE=>Zf (wp_region_lit (Ze hE rfl fun a hE=>Ze hE rfl fun a hE=>Zk hE rfl rfl rfl fun a hE=>XM hE Zd ld rfl Tryz.underlying3 Tryz.underlying5 ?_))))))); intro a hE
   rw [YB] at hE
   obtain ⟨x14,hi13,hs9⟩:=bvx hs9
   refine Zm hE rfl rfl Tryz.underlying37 ty5 hi13.1 fun a hE=>Zo (seg:=[(vB (ZO (wr (17 * s8.2))))]) (cs':=enc (s8.1.setIfInBounds (s8.2).toNat (ZO (wr (17 * s8.2))))) hE hM Zd rfl rfl rfl ty5 rfl (ZH (v:=s8.1) (x:=ZO (wr (17 * s8.2))) hi13.1) (Flat.cell (ZO (wr (17 * s8.2)) : UInt8)) (ZA (v:=s8.1) (x:=ZO (wr (17 * s8.2))) hi13.1) fun w a hM hE=>Zj (Z0 (Zy (wp_region_lit (Zk hE rfl rfl rfl fun a hE=>Ze hE rfl fun a hE=>Zj (Zl ?_)))))
   exact ⟨_,(ois hs9),hE.sub ⟨rfl,rfl,rfl,trivial⟩,hM⟩
  ·intro hb12
   have hs9:=Zt hs9 hb12
   refine wp_exit (Zp (Zp (Z1 ?_)))
   obtain rfl:=hx10 _ (ois hs9)
   refine Zl ?_
   exact ⟨hE.sub ⟨rfl,rfl,trivial⟩,hM⟩
 ·skip
  rintro a w ⟨hE,hM⟩
  refine Zy (Za (Zn hE rfl Yr rfl hM.rawAt0 (Flat.len _) ?_)); intro a hE
  have hM:=hM.pull1
  refine Zo (seg:=enc j5) (cs':=enc j5) hE hM Zd rfl rfl rfl Yr (Flat.len _) (zle flq) (Flat.cell _) (Zr flq) fun w a hM hE=>Zf ?_
  obtain rfl:=Option.some.inj hF7
  have hq17 : Yq Tryz.prog _ _ (.cell 0 37) _:=ZQ hE rfl Yr rfl hM.rawAt0 (Flat.len _) rfl
  exact wp_ret (ZS hE rfl hq17 ⟨_,rfl,rfl,hM.kept⟩)
def YD (p1 : Int) : Option ((List UInt8)) :=
 (if (decide (p1 < 0)) = true then (none) else (some ()) : Option (Unit)).bind fun j1=>(if (decide ((wr (p1 - (wr (0 - 0)))) > 0)) = true then ((mkS 1 (0 : UInt8) (wr (p1 - (wr (0 - 0))))).bind fun l14=>(slc l14 (0 : Int) (0 : Int)).bind fun l16=>some l16) else (some ([])) : Option ((List UInt8))).bind fun j6=>some j6
theorem QX (w0 : World) (p1 : Int) (r : (List UInt8)) (hF : YD p1 = some r) :
  Calls Tryz.prog 162 [(Value.slice none 0 0),vI p1].toArray w0 (fun en w'=>∃ v,en = .returned v ∧ (∃ (y1 : Value),v = y1 ∧ Fr w0 w' [osl NoB (r : List UInt8) y1] ∧ Kept (Old w0) w0 w')):=by
 refine ce Tryz.func162 ?_
 intro a hE
 have hM:=M.start w0
 unfold YD at hF
 refine Za (Zb hE rfl fun a hE=>Zf ?_)
 obtain ⟨j1,hl2,hF3⟩:=bind_some hF
 refine ZI (fun a w=>Env 27 a [(0,(Value.slice none 0 0)),(1,vI p1)] ∧ M (Old w0) w0 w []) ?_ ?_
 ·skip
  refine Za (Ze hE rfl fun a hE=>Zk hE rfl rfl rfl fun a hE=>Zf ?_)
  refine Zq hE rfl ?_ ?_
  ·intro hb4
   have hl2:=Zu hl2 hb4
   cases hl2
  ·intro hb4
   have hl2:=Zt hl2 hb4
   refine wp_skip ?_
   obtain rfl:=Option.some.inj hl2
   refine Zl ?_
   exact ⟨hE.sub ⟨rfl,rfl,trivial⟩,hM⟩
 ·skip
  rintro a w ⟨hE,hM⟩
  obtain ⟨j6,hl7,hF8⟩:=bind_some hF3
  refine ZI (fun a w=>∃ (u9 : Value),Env 27 a [(0,u9)] ∧ M (Old w0) w0 w [osl NoB (j6 : List UInt8) u9]) ?_ ?_
  ·skip
   refine Za (Ze hE rfl fun a hE=>Ze hE rfl fun a hE=>jp hE Zd ld rfl Tryz.underlying32 fun a hE=>Ze hE rfl fun a hE=>jz hE Zd ld rfl Tryz.underlying32 fun a hE=>Zk hE rfl rfl rfl fun a hE=>Zk hE rfl rfl rfl fun a hE=>Zb hE rfl fun a hE=>Zf (Za (Ze hE rfl fun a hE=>Zk hE rfl rfl rfl fun a hE=>Zf ?_)))
   refine Zq hE rfl ?_ ?_
   ·intro hb11
    have hl7:=Zu hl7 hb11
    refine wp_region_lit (Ze hE rfl fun a hE=>Ze hE rfl fun a hE=>jp hE Zd ld rfl Tryz.underlying32 fun a hE=>qi hE Zd ld rfl rfl Tryz.underlying32 ty5 fun a hE=>Ze hE rfl ?_); intro a hE
    obtain ⟨l14,e15,hl7⟩:=bind_some hl7
    refine Zay hE hM Zd ld rfl rfl Tryz.underlying32 Tryz.underlying3 ty5 rfl (by decide) (by decide) (fun _=>TR.2 ⟨rfl,rfl⟩) e15 fun u12 w a hM hE=>Ze hE rfl fun a hE=>jz hE Zd ld rfl Tryz.underlying32 ?_; intro a hE
    obtain ⟨l16,e17,hl7⟩:=bind_some hl7
    refine Ap hE Zd ld rfl rfl rfl rfl rfl Tryz.underlying32 ty5 (hM.sl (pre:=[]) noB) e17 ?_; intro a hE
    have hM:=hM.cut noB e17
    refine Zb hE rfl fun a hE=>Zj ?_
    obtain rfl:=Option.some.inj hl7
    refine Zl ?_
    exact ⟨(Z9 u12 ((0 : Int)).toNat ((0 : Int)).toNat 1),hE.sub ⟨rfl,trivial⟩,hM⟩
   ·intro hb11
    have hl7:=Zt hl7 hb11
    refine wp_skip ?_
    obtain rfl:=Option.some.inj hl7
    refine Zl ?_
    have hM:=M.nilS (α:=UInt8) NoB noB hM
    exact ⟨(Value.slice none 0 0),hE.sub ⟨rfl,trivial⟩,hM⟩
  ·skip
   rintro a w ⟨u9,hE,hM⟩
   refine Za (Ze hE rfl fun a hE=>Zb hE rfl fun a hE=>Zf ?_)
   obtain rfl:=Option.some.inj hF8
   exact wp_ret (ZS hE rfl (YH hE rfl) ⟨_,rfl,u9,rfl,hM.outF (Wc VD),hM.kept⟩)
def Xi (p0 : (List (List UInt8))) (s4 : Int × Int) : Option (Fl (Int × Int) Int) :=
 if (decide (s4.1 < (p0.length : Int))) = true then (((idx p0 s4.1).bind fun x12=>(if (decide ((wr (s4.2 + (x12.length : Int))) < 0)) = true then (none) else (some ()) : Option (Unit)).bind fun j20=>some (wr (s4.2 + (x12.length : Int))) : Option (Int)).bind fun j9=>some (Fl.nx (wr (s4.1 + 1),j9))) else (some (Fl.ex s4.2))
def Xj (p0 : (List (List UInt8))) (s35 : Int × (List UInt8)) : Option (Fl (Int × (List UInt8)) (List UInt8)) :=
 if (decide (s35.1 < (p0.length : Int))) = true then ((idx p0 s35.1).bind fun x42=>(app 1 s35.2 x42).bind fun l50=>some (Fl.nx (wr (s35.1 + 1),(s35.2 ++ x42)))) else (some (Fl.ex s35.2))
def Z7 (p0 : (List (List UInt8))) : Option ((List UInt8)) :=
 (ZD (Xi p0) (0,0)).bind fun j1=>(YD j1).bind fun r27=>(ZD (Xj p0) (0,r27)).bind fun j30=>some j30
theorem TC (w0 : World) (p0 : (List (List UInt8))) (v0_1 : Value) (hv0_1 : Ro w0 p0 [v0_1]) (r : (List UInt8)) (hF : Z7 p0 = some r) :
  Calls Tryz.prog 144 [v0_1].toArray w0 (fun en w'=>∃ v,en = .returned v ∧ (∃ (y1 : Value),v = y1 ∧ Fr w0 w' [osl NoB (r : List UInt8) y1] ∧ Kept (Old w0) w0 w')):=by
 refine ce Tryz.func144 ?_
 intro a hE
 have hM:=M.start w0
 unfold Z7 at hF
 refine Za (Zb hE rfl fun a hE=>Zf (Za (Zb hE rfl fun a hE=>Zf (wp_seq (Za (Ze hE rfl fun a hE=>ZZ hE rfl Tryz.underlying41 (hM.rd hv0_1) fun a hE=>Ze hE rfl fun a hE=>Zf ?_))))))
 obtain ⟨j1,hl2,hF3⟩:=bind_some hF
 refine ZJ (fun a w=>Env 36 a [(0,v0_1),(3,vI j1)] ∧ M (Old w0) w0 w []) ?_ ?_
 ·skip
  refine wp_block ?_
  refine ZE (fun (s4 : Int × Int) a w=>Env 36 a [(0,v0_1),(3,vI s4.2),(9,v0_1),(10,(vI (p0.length : Int))),(11,vI s4.1)] ∧ M (Old w0) w0 w []) hl2 ⟨hE.sub ⟨rfl,rfl,rfl,rfl,rfl,trivial⟩,hM⟩ ?_
  rintro s4 a w ⟨hE,hM⟩ o7 hs5 hx6
  unfold Xi at hs5
  refine Za (Zk hE rfl rfl rfl fun a hE=>Zf (wp_seq ?_))
  refine Zq hE rfl ?_ ?_
  ·intro hb8
   have hs5:=Zu hs5 hb8
   refine wp_skip (Zy ?_)
   obtain ⟨j9,hl10,hF11⟩:=bind_some hs5
   refine ZI (fun a w=>Env 36 a [(0,v0_1),(3,vI j9),(9,v0_1),(10,(vI (p0.length : Int))),(11,vI s4.1)] ∧ M (Old w0) w0 w []) ?_ ?_
   ·skip
    refine wp_block (Za ?_)
    obtain ⟨x12,hi14,hl10⟩:=bix hl10
    refine ZK hE rfl rfl Tryz.underlying41 XB (hM.rd hv0_1) hi14.1 ?_; intro a hE
    obtain ⟨cs15,hs16,hA17⟩:=Vl hv0_1 hi14.2 -- ^
    obtain ⟨u18,rfl⟩:=XL hs16 -- ^
    have h19:=hs16 -- ^
    refine Zx (v:=u18) hE rfl XB rfl (hM.atk hA17 (VY hv0_1 hi14.2)) fun a hE=>Zb hE rfl fun a hE=>Zf (Za (Ze hE rfl fun a hE=>Ze hE rfl fun a hE=>ZZ hE rfl Tryz.underlying32 (hM.rd h19) fun a hE=>Zk hE rfl rfl rfl fun a hE=>Zb hE rfl fun a hE=>Zf (Za (Ze hE rfl fun a hE=>Zk hE rfl rfl rfl fun a hE=>Zf ?_))))
    obtain ⟨j20,hl21,hF22⟩:=bind_some hl10
    refine ZJ (fun a w=>Env 36 a [(0,v0_1),(3,(vI (wr (s4.2 + (x12.length : Int))))),(9,v0_1),(10,(vI (p0.length : Int))),(11,vI s4.1)] ∧ M (Old w0) w0 w []) ?_ ?_
    ·skip
     refine Zq hE rfl ?_ ?_
     ·intro hb23
      have hl21:=Zu hl21 hb23
      cases hl21
     ·intro hb23
      have hl21:=Zt hl21 hb23
      refine wp_skip ?_
      obtain rfl:=Option.some.inj hl21
      refine Zl ?_
      exact ⟨hE.sub ⟨rfl,rfl,rfl,rfl,rfl,trivial⟩,hM⟩
    ·skip
     rintro a w ⟨hE,hM⟩
     refine Z0 ?_
     obtain rfl:=Option.some.inj hF22
     refine Zl ?_
     exact ⟨hE.sub ⟨rfl,rfl,rfl,rfl,rfl,trivial⟩,hM⟩
   ·skip
    rintro a w ⟨hE,hM⟩
    refine wp_region_lit (Zk hE rfl rfl rfl fun a hE=>Ze hE rfl fun a hE=>Zj (Zl ?_))
    exact ⟨_,(ois hF11),hE.sub ⟨rfl,rfl,rfl,rfl,rfl,trivial⟩,hM⟩
  ·intro hb8
   have hs5:=Zt hs5 hb8
   refine wp_exit (Zp (Zp (Z1 ?_)))
   obtain rfl:=hx6 _ (ois hs5)
   refine Zl ?_
   exact ⟨hE.sub ⟨rfl,rfl,trivial⟩,hM⟩
 ·skip
  rintro a w ⟨hE,hM⟩
  refine Zy (Za (Ze hE rfl ?_)); intro a hE
  obtain ⟨r27,e28,hF3⟩:=bind_some hF3
  refine Zv hE rfl (cbm Tryz.func162) (QX _ j1 r27 e28) ?_
  rintro u29 w a ⟨_,rfl,hFr,hK⟩ hE
  have hM:=hM.add hK hFr
  refine Zb hE rfl fun a hE=>Zf (wp_seq (Za (Ze hE rfl fun a hE=>ZZ hE rfl Tryz.underlying41 (hM.rd hv0_1) fun a hE=>Ze hE rfl fun a hE=>Zf ?_)))
  obtain ⟨j30,hl31,hF32⟩:=bind_some hF3
  refine ZJ (fun a w=>∃ (u33 : Value),Env 36 a [(6,u33)] ∧ M (Old w0) w0 w [osl NoB (j30 : List UInt8) u33]) ?_ ?_
  ·skip
   refine wp_block ?_
   refine ZE (fun (s35 : Int × (List UInt8)) a w=>∃ (u36 : Value),Env 36 a [(6,u36),(25,v0_1),(26,(vI (p0.length : Int))),(27,vI s35.1)] ∧ M (Old w0) w0 w [osl NoB (s35.2 : List UInt8) u36]) hl31 ⟨u29,hE.sub ⟨rfl,rfl,rfl,rfl,trivial⟩,hM⟩ ?_
   rintro s35 a w ⟨u36,hE,hM⟩ o40 hs38 hx39
   unfold Xj at hs38
   refine Za (Zk hE rfl rfl rfl fun a hE=>Zf (wp_seq ?_))
   refine Zq hE rfl ?_ ?_
   ·intro hb41
    have hs38:=Zu hs38 hb41
    refine wp_skip (Zy (wp_seq (wp_block (Za ?_))))
    obtain ⟨x42,hi44,hs38⟩:=bix hs38
    refine ZK hE rfl rfl Tryz.underlying41 XB (hM.rd hv0_1) hi44.1 ?_; intro a hE
    obtain ⟨cs45,hs46,hA47⟩:=Vl hv0_1 hi44.2 -- ^
    obtain ⟨u48,rfl⟩:=XL hs46 -- ^
    have h49:=hs46 -- ^
    refine Zx (v:=u48) hE rfl XB rfl (hM.atk hA47 (VY hv0_1 hi44.2)) fun a hE=>Zb hE rfl fun a hE=>Zf (wp_region_lit (Ze hE rfl fun a hE=>Ze hE rfl ?_)); intro a hE
    obtain ⟨l50,e51,hs38⟩:=bind_some hs38
    obtain ⟨e54,rfl⟩:=Ve e51
    refine X6 hE hM Zd ld rfl rfl (hM.rd h49) Tryz.underlying32 ty5 rfl (by decide) e54 fun u52 w a hM hE=>Zb hE rfl fun a hE=>Zj (Z0 (Zy (wp_region_lit (Zk hE rfl rfl rfl fun a hE=>Ze hE rfl fun a hE=>Zj (Zl ?_)))))
    exact ⟨_,(ois hs38),u52,hE.sub ⟨rfl,rfl,rfl,rfl,trivial⟩,hM⟩
   ·intro hb41
    have hs38:=Zt hs38 hb41
    refine wp_exit (Zp (Zp (Z1 ?_)))
    obtain rfl:=hx39 _ (ois hs38)
    refine Zl ?_
    exact ⟨u36,hE.sub ⟨rfl,trivial⟩,hM⟩
  ·skip
   rintro a w ⟨u33,hE,hM⟩
   refine Zy (Za (Ze hE rfl fun a hE=>Zb hE rfl fun a hE=>Zf ?_))
   obtain rfl:=Option.some.inj hF32
   exact wp_ret (ZS hE rfl (YH hE rfl) ⟨_,rfl,u33,rfl,hM.outF (Wc VD),hM.kept⟩)
def Y4 (p0 : (List UInt8)) : Option ((List UInt8)) :=
 (app 1 ([] : List UInt8) p0).bind fun l7=>some (([] : List UInt8) ++ p0)
theorem Kp (w0 : World) (p0 : (List UInt8)) (v0_1 : Value) (hv0_1 : Ro w0 p0 [v0_1]) (r : (List UInt8)) (hF : Y4 p0 = some r) :
  Calls Tryz.prog 161 [v0_1].toArray w0 (fun en w'=>∃ v,en = .returned v ∧ (∃ (y1 : Value),v = y1 ∧ Fr w0 w' [osl NoB (r : List UInt8) y1] ∧ Kept (Old w0) w0 w')):=by
 refine ce Tryz.func161 ?_
 intro a hE
 have hM:=M.start w0
 unfold Y4 at hF
 refine Za (Zb hE rfl fun a hE=>Zf (wp_seq (Za (Ze hE rfl fun a hE=>Zc9 hE Zd ld rfl rfl Tryz.underlying32 (hM.rd hv0_1) fun bn1 a hn2 hE=>Zf ?_))))
 refine Zq hE rfl ?_ ?_
 ·intro hb3
  have h0:=hn2 hb3
  have hF : some ([]) = some r:=by rw [h0] at hF; simpa [app] using hF
  refine Za (Zb hE rfl fun a hE=>Zf ?_)
  have hM:=M.nilS (α:=UInt8) NoB noB hM
  obtain rfl:=Option.some.inj hF
  exact wp_ret (Zs (ZS hE rfl (YH hE rfl) ⟨_,rfl,(Value.slice none 0 0),rfl,hM.outF (Wc VD),hM.kept⟩))
 ·intro hb3
  refine wp_skip (Zy (Za (XH (xs:=[]) (l:=([] : List UInt8)) (vs:=[]) hE hM Zd ld rfl rfl Tryz.underlying32 ty5 rfl (by decide) rfl fun u5 w a hM hE=>Ze hE rfl ?_))); intro a hE
  obtain ⟨l7,e8,hF⟩:=bind_some hF
  obtain ⟨e11,rfl⟩:=Ve e8
  refine X6 hE hM Zd ld rfl rfl (hM.rd hv0_1) Tryz.underlying32 ty5 rfl (by decide) e11 fun u9 w a hM hE=>Zb hE rfl fun a hE=>Zf ?_
  obtain rfl:=Option.some.inj hF
  exact wp_ret (ZS hE rfl (YH hE rfl) ⟨_,rfl,u9,rfl,hM.outF (Wc VD),hM.kept⟩)
def Va (p0 : Int) (s8 : (List UInt8) × Int) : Option (Fl ((List UInt8) × Int) (List UInt8)) :=
 if (decide (s8.2 ≥ 0)) = true then ((YI (wr (8 * s8.2))).bind fun _=>(app 1 s8.1 ([ZO (K5 p0 (wr (8 * s8.2)))] : List UInt8)).bind fun l18=>some (Fl.nx ((s8.1 ++ ([ZO (K5 p0 (wr (8 * s8.2)))] : List UInt8)),wr (s8.2 - 1)))) else (some (Fl.ex s8.1))
def WB (p0 : Int) (p1 : Int) : Option ((List UInt8)) :=
 (ZD (Va p0) (([] : List UInt8),wr (p1 - 1))).bind fun j3=>some j3
theorem Bl (w0 : World) (p0 : Int) (p1 : Int) (r : (List UInt8)) (hF : WB p0 p1 = some r) :
  Calls Tryz.prog 113 [vI p0,vI p1].toArray w0 (fun en w'=>∃ v,en = .returned v ∧ (∃ (y1 : Value),v = y1 ∧ Fr w0 w' [osl NoB (r : List UInt8) y1] ∧ Kept (Old w0) w0 w')):=by
 refine ce Tryz.func113 ?_
 intro a hE
 have hM:=M.start w0
 unfold WB at hF
 refine Za (Zb hE rfl fun a hE=>Zf (Za (XH (xs:=[]) (l:=([] : List UInt8)) (vs:=[]) hE hM Zd ld rfl rfl Tryz.underlying32 ty5 rfl (by decide) rfl fun u1 w a hM hE=>Zb hE rfl fun a hE=>Zf (wp_seq (Za (Ze hE rfl fun a hE=>Zk hE rfl rfl rfl fun a hE=>Zb hE rfl fun a hE=>Zf ?_))))))
 obtain ⟨j3,hl4,hF5⟩:=bind_some hF
 refine ZJ (fun a w=>∃ (u6 : Value),Env 23 a [(5,u6)] ∧ M (Old w0) w0 w [osl NoB (j3 : List UInt8) u6]) ?_ ?_
 ·skip
  refine wp_block ?_
  refine ZE (fun (s8 : (List UInt8) × Int) a w=>∃ (u9 : Value),Env 23 a [(0,vI p0),(5,u9),(6,vI s8.2)] ∧ M (Old w0) w0 w [osl NoB (s8.1 : List UInt8) u9]) hl4 ⟨u1,hE.sub ⟨rfl,rfl,rfl,trivial⟩,hM⟩ ?_
  rintro s8 a w ⟨u9,hE,hM⟩ o13 hs11 hx12
  unfold Va at hs11
  refine wp_seq (Za (Ze hE rfl fun a hE=>Zk hE rfl rfl rfl fun a hE=>Zf ?_))
  refine Zq hE rfl ?_ ?_
  ·intro hb14
   have hs11:=Zu hs11 hb14
   refine wp_skip (Zy (wp_seq (wp_block (wp_region_lit (Ze hE rfl fun a hE=>Ze hE rfl fun a hE=>Ze hE rfl fun a hE=>Zk hE rfl rfl rfl ?_))))); intro a hE
   obtain ⟨_,e15,hs11⟩:=bind_some hs11
   have e15:=Xz e15
   refine HX hE Zd ld rfl rfl (yF _ _ e15) fun a hE=>XM hE Zd ld rfl Tryz.underlying2 Tryz.underlying5 ?_; intro a hE
   rw [YB] at hE
   refine XH (xs:=[.tmp 19]) (l:=([ZO (K5 p0 (wr (8 * s8.2)))] : List UInt8)) (vs:=[(vB (ZO (K5 p0 (wr (8 * s8.2)))))]) hE hM Zd ld rfl rfl Tryz.underlying32 ty5 rfl (by decide) rfl ?_; intro u16 w a hM hE
   obtain ⟨l18,e19,hs11⟩:=bind_some hs11
   obtain ⟨e22,rfl⟩:=Ve e19
   have hM:=hM.pull1
   refine X6 hE hM Zd ld rfl rfl (hM.sl (pre:=[_]) noB) Tryz.underlying32 ty5 rfl (by decide) e22 fun u20 w a hM hE=>Zb hE rfl fun a hE=>Zj (Z0 (Zy (wp_region_lit (Ze hE rfl fun a hE=>Zk hE rfl rfl rfl fun a hE=>Zb hE rfl fun a hE=>Zj (Zl ?_)))))
   have hM:=M.fst (l:=[_]) hM
   exact ⟨_,(ois hs11),u20,hE.sub ⟨rfl,rfl,rfl,trivial⟩,hM⟩
  ·intro hb14
   have hs11:=Zt hs11 hb14
   refine wp_exit (Zp (Zp (Z1 ?_)))
   obtain rfl:=hx12 _ (ois hs11)
   refine Zl ?_
   exact ⟨u9,hE.sub ⟨rfl,trivial⟩,hM⟩
 ·skip
  rintro a w ⟨u6,hE,hM⟩
  refine Zy (Za (Ze hE rfl fun a hE=>Zb hE rfl fun a hE=>Zf ?_))
  obtain rfl:=Option.some.inj hF5
  exact wp_ret (ZS hE rfl (YH hE rfl) ⟨_,rfl,u6,rfl,hM.outF (Wc VD),hM.kept⟩)
def VX (s16 : (List UInt8)) : Option (Fl (List UInt8) (List UInt8)) :=
 if ((Int.tmod (s16.length : Int) 16) != 8) = true then ((app 1 s16 ([0] : List UInt8)).bind fun l25=>some (Fl.nx (s16 ++ ([0] : List UInt8)))) else (some (Fl.ex s16))
def Vb (p0 : (List UInt8)) : Option ((List UInt8)) :=
 (Y4 p0).bind fun r1=>(app 1 r1 ([128] : List UInt8)).bind fun l6=>(ZD (VX) (r1 ++ ([128] : List UInt8))).bind fun j11=>(WB (p0.length : Int) 8).bind fun r31=>(app 1 j11 r31).bind fun l34=>some (j11 ++ r31)
theorem HA (w0 : World) (p0 : (List UInt8)) (v0_1 : Value) (hv0_1 : Ro w0 p0 [v0_1]) (r : (List UInt8)) (hF : Vb p0 = some r) :
  Calls Tryz.prog 143 [v0_1].toArray w0 (fun en w'=>∃ v,en = .returned v ∧ (∃ (y1 : Value),v = y1 ∧ Fr w0 w' [osl NoB (r : List UInt8) y1] ∧ Kept (Old w0) w0 w')):=by
 refine ce Tryz.func143 ?_
 intro a hE
 have hM:=M.start w0
 unfold Vb at hF
 refine Za (Zb hE rfl fun a hE=>Zf (Za (Ze hE rfl ?_))); intro a hE
 obtain ⟨r1,e2,hF⟩:=bind_some hF
 refine Zv hE rfl (cbm Tryz.func161) (Kp _ p0 v0_1 (hM.rdo hv0_1) r1 e2) ?_
 rintro u3 w a ⟨_,rfl,hFr,hK⟩ hE
 have hM:=hM.add hK hFr
 refine XH (xs:=[.const (vB 128)]) (l:=([128] : List UInt8)) (vs:=[vB 128]) hE hM Zd ld rfl rfl Tryz.underlying32 ty5 rfl (by decide) rfl ?_; intro u4 w a hM hE
 obtain ⟨l6,e7,hF⟩:=bind_some hF
 obtain ⟨e10,rfl⟩:=Ve e7
 have hM:=hM.pull1
 refine X6 hE hM Zd ld rfl rfl (hM.sl (pre:=[_]) noB) Tryz.underlying32 ty5 rfl (by decide) e10 fun u8 w a hM hE=>Zb hE rfl fun a hE=>Zf ?_
 obtain ⟨j11,hl12,hF13⟩:=bind_some hF
 refine ZI (fun a w=>∃ (u14 : Value),Env 20 a [(0,v0_1),(3,u14)] ∧ M (Old w0) w0 w [osl NoB (j11 : List UInt8) u14]) ?_ ?_
 ·skip
  refine wp_block ?_
  have hM:=M.fst (l:=[_]) hM
  refine ZE (fun (s16 : (List UInt8)) a w=>∃ (u17 : Value),Env 20 a [(0,v0_1),(3,u17)] ∧ M (Old w0) w0 w [osl NoB (s16 : List UInt8) u17]) hl12 ⟨u8,hE.sub ⟨rfl,rfl,trivial⟩,hM⟩ ?_
  rintro s16 a w ⟨u17,hE,hM⟩ o21 hs19 hx20
  unfold VX at hs19
  refine wp_seq (Za (Ze hE rfl fun a hE=>ZZ hE rfl Tryz.underlying32 (hM.sl (pre:=[]) noB) fun a hE=>Zk hE rfl rfl (Kt _ _ (by decide)) fun a hE=>Zk hE rfl rfl rfl fun a hE=>Zf ?_))
  refine Zq hE rfl ?_ ?_
  ·intro hb22
   have hs19:=Zu hs19 hb22
   refine wp_skip (Zy (wp_block (wp_region_lit (Ze hE rfl fun a hE=>XH (xs:=[.const (vB 0)]) (l:=([0] : List UInt8)) (vs:=[vB 0]) hE hM Zd ld rfl rfl Tryz.underlying32 ty5 rfl (by decide) rfl ?_)))); intro u23 w a hM hE
   obtain ⟨l25,e26,hs19⟩:=bind_some hs19
   obtain ⟨e29,rfl⟩:=Ve e26
   have hM:=hM.pull1
   refine X6 hE hM Zd ld rfl rfl (hM.sl (pre:=[_]) noB) Tryz.underlying32 ty5 rfl (by decide) e29 fun u27 w a hM hE=>Zb hE rfl fun a hE=>Zj (Z0 (Zl ?_))
   have hM:=M.fst (l:=[_]) hM
   exact ⟨_,(ois hs19),u27,hE.sub ⟨rfl,rfl,trivial⟩,hM⟩
  ·intro hb22
   have hs19:=Zt hs19 hb22
   refine wp_exit (Zp (Zp (Z1 ?_)))
   obtain rfl:=hx20 _ (ois hs19)
   refine Zl ?_
   exact ⟨u17,hE.sub ⟨rfl,rfl,trivial⟩,hM⟩
 ·skip
  rintro a w ⟨u14,hE,hM⟩
  refine Za (Ze hE rfl fun a hE=>Ze hE rfl fun a hE=>ZZ hE rfl Tryz.underlying32 (hM.rd hv0_1) ?_); intro a hE
  obtain ⟨r31,e32,hF13⟩:=bind_some hF13
  refine Zv hE rfl (cbm Tryz.func113) (Bl _ (p0.length : Int) 8 r31 e32) ?_
  rintro u33 w a ⟨_,rfl,hFr,hK⟩ hE
  have hM:=hM.add hK hFr
  obtain ⟨l34,e35,hF13⟩:=bind_some hF13
  obtain ⟨e38,rfl⟩:=Ve e35
  have hM:=hM.pull1
  refine X6 hE hM Zd ld rfl rfl (hM.sl (pre:=[_]) noB) Tryz.underlying32 ty5 rfl (by decide) e38 fun u36 w a hM hE=>Zb hE rfl fun a hE=>Zf ?_
  obtain rfl:=Option.some.inj hF13
  have hM:=M.fst (l:=[_]) hM
  exact wp_ret (ZS hE rfl (YH hE rfl) ⟨_,rfl,u36,rfl,hM.outF (Wc VD),hM.kept⟩)
def Wx (p0 : (List UInt8)) (s8 : (List (Vector UInt8 16)) × Int) : Option (Fl ((List (Vector UInt8 16)) × Int) (List (Vector UInt8 16))) :=
 if (decide (s8.2 < (p0.length : Int))) = true then ((slc p0 s8.2 (wr (s8.2 + 16))).bind fun l15=>(Q7 16 l15).bind fun x18=>(app 16 s8.1 ([x18] : List (Vector UInt8 16))).bind fun l22=>some (Fl.nx ((s8.1 ++ ([x18] : List (Vector UInt8 16))),wr (s8.2 + 16)))) else (some (Fl.ex s8.1))
def Ub (p0 : (List UInt8)) : Option ((List (Vector UInt8 16))) :=
 (ZD (Wx p0) (([] : List (Vector UInt8 16)),0)).bind fun j3=>some j3
theorem B4 (w0 : World) (p0 : (List UInt8)) (v0_1 : Value) (hv0_1 : Ro w0 p0 [v0_1]) (r : (List (Vector UInt8 16))) (hF : Ub p0 = some r) :
  Calls Tryz.prog 142 [v0_1].toArray w0 (fun en w'=>∃ v,en = .returned v ∧ (∃ (y1 : Value),v = y1 ∧ Fr w0 w' [osl NoB (r : List (Vector UInt8 16)) y1] ∧ Kept (Old w0) w0 w')):=by
 refine ce Tryz.func142 ?_
 intro a hE
 have hM:=M.start w0
 unfold Ub at hF
 refine Za (Zb hE rfl fun a hE=>Zf (Za (XH (xs:=[]) (l:=([] : List (Vector UInt8 16))) (vs:=[]) hE hM Zd ld rfl rfl Tryz.underlying33 ZF rfl (by decide) rfl fun u1 w a hM hE=>Zb hE rfl fun a hE=>Zf (wp_seq (Za (Zb hE rfl fun a hE=>Zf ?_))))))
 obtain ⟨j3,hl4,hF5⟩:=bind_some hF
 refine ZJ (fun a w=>∃ (u6 : Value),Env 23 a [(3,u6)] ∧ M (Old w0) w0 w [osl NoB (j3 : List (Vector UInt8 16)) u6]) ?_ ?_
 ·skip
  refine wp_block ?_
  refine ZE (fun (s8 : (List (Vector UInt8 16)) × Int) a w=>∃ (u9 : Value),Env 23 a [(0,v0_1),(3,u9),(4,vI s8.2)] ∧ M (Old w0) w0 w [osl NoB (s8.1 : List (Vector UInt8 16)) u9]) hl4 ⟨u1,hE.sub ⟨rfl,rfl,rfl,trivial⟩,hM⟩ ?_
  rintro s8 a w ⟨u9,hE,hM⟩ o13 hs11 hx12
  unfold Wx at hs11
  refine wp_seq (Za (Ze hE rfl fun a hE=>Ze hE rfl fun a hE=>ZZ hE rfl Tryz.underlying32 (hM.rd hv0_1) fun a hE=>Zk hE rfl rfl rfl fun a hE=>Zf ?_))
  refine Zq hE rfl ?_ ?_
  ·intro hb14
   have hs11:=Zu hs11 hb14
   refine wp_skip (Zy (wp_seq (wp_block (wp_region_lit (Ze hE rfl fun a hE=>Ze hE rfl fun a hE=>Ze hE rfl fun a hE=>Ze hE rfl fun a hE=>Zk hE rfl rfl rfl ?_))))); intro a hE
   obtain ⟨l15,e16,hs11⟩:=bind_some hs11
   refine Ap hE Zd ld rfl rfl rfl rfl rfl Tryz.underlying32 ty5 (hM.rd hv0_1) e16 ?_; intro a hE
   have h17 : Rep.sat (Old w0) w0 l15 [(Z9 v0_1 (s8.2).toNat ((wr (s8.2 + 16))).toNat 1)] []:=W9 hv0_1 e16 -- ^
   obtain ⟨x18,e19,hs11⟩:=bind_some hs11
   refine Ar hE Zd ld rfl Tryz.underlying31 (hM.rd h17) (Kb e19).1 (by decide) fun a hE=>Zn hE rfl ZF rfl (yC (hM.rd h17) e19 (by decide)) (Flat.len _) fun a hE=>XH (xs:=[.tmp 19]) (l:=([x18] : List (Vector UInt8 16))) (vs:=[(Value.agg (enc x18).toArray)]) hE hM Zd ld rfl rfl Tryz.underlying33 ZF rfl (by decide) rfl ?_; intro u20 w a hM hE
   obtain ⟨l22,e23,hs11⟩:=bind_some hs11
   obtain ⟨e26,rfl⟩:=Ve e23
   have hM:=hM.pull1
   refine X6 hE hM Zd ld rfl rfl (hM.sl (pre:=[_]) noB) Tryz.underlying33 ZF rfl (by decide) e26 fun u24 w a hM hE=>Zb hE rfl fun a hE=>Zj (Z0 (Zy (wp_region_lit (Ze hE rfl fun a hE=>Zk hE rfl rfl rfl fun a hE=>Zb hE rfl fun a hE=>Zj (Zl ?_)))))
   have hM:=M.fst (l:=[_]) hM
   exact ⟨_,(ois hs11),u24,hE.sub ⟨rfl,rfl,rfl,trivial⟩,hM⟩
  ·intro hb14
   have hs11:=Zt hs11 hb14
   refine wp_exit (Zp (Zp (Z1 ?_)))
   obtain rfl:=hx12 _ (ois hs11)
   refine Zl ?_
   exact ⟨u9,hE.sub ⟨rfl,trivial⟩,hM⟩
 ·skip
  rintro a w ⟨u6,hE,hM⟩
  refine Zy (Za (Ze hE rfl fun a hE=>Zb hE rfl fun a hE=>Zf ?_))
  obtain rfl:=Option.some.inj hF5
  exact wp_ret (ZS hE rfl (YH hE rfl) ⟨_,rfl,u6,rfl,hM.outF (Wc VD),hM.kept⟩)
def Wf (p1 : (Vector UInt8 16)) (s10 : (Vector UInt8 16) × Int) : Option (Fl ((Vector UInt8 16) × Int) (Vector UInt8 16)) :=
 if (decide (s10.2 < 16)) = true then ((ZC s10.1 s10.2).bind fun x17=>(ZC p1 s10.2).bind fun x20=>(ZC s10.1 s10.2).bind fun x23=>some (Fl.nx ((s10.1.setIfInBounds (s10.2).toNat (x17 ^^^ x20)),wr (s10.2 + 1)))) else (some (Fl.ex s10.1))
def Yo (p0 : (Vector UInt8 16)) (p1 : (Vector UInt8 16)) : Option ((Vector UInt8 16)) :=
 (ZD (Wf p1) (p0,0)).bind fun j7=>some j7
theorem WG (w0 : World) (p0 : (Vector UInt8 16)) (p1 : (Vector UInt8 16)) (r : (Vector UInt8 16)) (hF : Yo p0 p1 = some r) :
  Calls Tryz.prog 163 [(Value.agg (enc p0).toArray),(Value.agg (enc p1).toArray)].toArray w0 (Rt w0 (Value.agg (enc r).toArray)):=by
 refine ce Tryz.func163 ?_
 intro a hE
 have hM:=M.start w0
 unfold Yo at hF
 refine Za (ZM (cs:=enc p0) hE hM Zd ld rfl rfl fun b1 w a hM hE=>ZM (cs:=enc p1) hE hM Zd ld rfl rfl fun b3 w a hM hE=>Zz hE hM ZF fun b5 w a hM hE=>Zf (wp_seq (Za (Ze hE rfl fun a hE=>Zf ?_))))
 obtain ⟨j7,hl8,hF9⟩:=bind_some hF
 refine ZJ (fun a w=>Env 19 a [(2,(ptr b1 0)),(4,(ptr b5 0))] ∧ M (Old w0) w0 w [raw b5 (enc (Vector.replicate 16 (0 : UInt8))),raw b1 (enc j7)]) ?_ ?_
 ·skip
  refine wp_block ?_
  refine ZE (fun (s10 : (Vector UInt8 16) × Int) a w=>Env 19 a [(2,(ptr b1 0)),(3,(ptr b3 0)),(4,(ptr b5 0)),(6,vI s10.2)] ∧ M (Old w0) w0 w [raw b5 (enc (Vector.replicate 16 (0 : UInt8))),raw b3 (enc p1),raw b1 (enc s10.1)]) hl8 ⟨hE.sub ⟨rfl,rfl,rfl,rfl,trivial⟩,hM⟩ ?_
  rintro s10 a w ⟨hE,hM⟩ o13 hs11 hx12
  unfold Wf at hs11
  refine Za (Zk hE rfl rfl rfl fun a hE=>Zf (wp_seq ?_))
  refine Zq hE rfl ?_ ?_
  ·intro hb14
   have hs11:=Zu hs11 hb14
   refine wp_skip (Zy (wp_seq (wp_block (Za (Ze hE rfl fun a hE=>Zb hE rfl fun a hE=>Zf ?_)))))
   obtain ⟨x17,hi16,hs11⟩:=bvx hs11
   obtain ⟨x20,hi19,hs11⟩:=bvx hs11
   obtain ⟨x23,hi22,hs11⟩:=bvx hs11
   refine ZX (n:=19) (hd:=[_,_,_,_,_,_,_,_]) (tl:=[_]) Yx rfl rfl [9,10,11,12,13,14,15,16] (by decide) (fun w=>M (Old w0) w0 w [raw b5 (enc (Vector.replicate 16 (0 : UInt8))),raw b3 (enc p1),raw b1 (enc s10.1)]) (fun j=>([fun v _=>v = (vI s10.2),fun v _=>v = (ptr b1 (0 + (s10.2).toNat * 1)),fun v _=>v = (vB x17),fun v _=>v = (vI s10.2),fun v _=>v = (ptr b3 (0 + (s10.2).toNat * 1)),fun v _=>v = (vB x20),fun v _=>v = (vB (x17 ^^^ x20)),fun v _=>v = (ptr b1 (0 + (s10.2).toNat * 1))] : List (Value → World → Prop)).getD j (fun _ _=>True)) (fun _ _ h hk=>h.keep hk) (gup gu8) hE hM.drew (st8 ?_ ?_ ?_ ?_ ?_ ?_ ?_ ?_) ?_
   ·exact qm
   ·intro a w ux15 hE hM hp
    have f0 : ux15 0 = (vI s10.2):=hp 0 _ rfl rfl
    exact Zm hE rfl (lk rfl f0) Tryz.underlying31 ty5 hi16.1 fun a hE=>kq rfl hE rfl
   ·intro a w ux15 hE hM hp
    have f1 : ux15 1 = (ptr b1 (0 + (s10.2).toNat * 1)):=hp 0 _ rfl rfl
    exact Zx (v:=(vB x17)) hE (lk rfl f1) ty5 rfl (At.vec hM.rawAt2 hi16.2) fun a hE=>kq rfl hE rfl
   ·exact qm
   ·intro a w ux15 hE hM hp
    have f3 : ux15 3 = (vI s10.2):=hp 0 _ rfl rfl
    exact Zm hE rfl (lk rfl f3) Tryz.underlying31 ty5 hi19.1 fun a hE=>kq rfl hE rfl
   ·intro a w ux15 hE hM hp
    have f4 : ux15 4 = (ptr b3 (0 + (s10.2).toNat * 1)):=hp 0 _ rfl rfl
    exact Zx (v:=(vB x20)) hE (lk rfl f4) ty5 rfl (At.vec hM.rawAt1 hi19.2) fun a hE=>kq rfl hE rfl
   ·intro a w ux15 hE hM hp
    have f2 : ux15 2 = (vB x17):=hp 0 _ rfl rfl
    have f5 : ux15 5 = (vB x20):=hp 1 _ rfl rfl
    exact Zk hE (lk rfl f2) (lk rfl f5) (VA x17 x20) fun a hE=>kq rfl hE rfl
   ·intro a w ux15 hE hM hp
    have f0 : ux15 0 = (vI s10.2):=hp 0 _ rfl rfl
    exact Zm hE rfl (lk rfl f0) Tryz.underlying31 ty5 hi22.1 fun a hE=>kq rfl hE rfl
   ·intro a w ux15 hE hM hg
    have hE:=hE.sub (e':=[(15,(vB (x17 ^^^ x20))),(16,(ptr b1 (0 + (s10.2).toNat * 1))),(2,(ptr b1 0)),(3,(ptr b3 0)),(4,(ptr b5 0)),(5,vI s10.2),(6,vI s10.2),(7,(vT (decide (s10.2 < 16)))),(8,vI s10.2)]) ⟨lk rfl (hg 6 (by decide)),lk rfl (hg 7 (by decide)),rfl,rfl,rfl,rfl,rfl,rfl,rfl,trivial⟩
    have hM:=hM.pull2
    refine Zo (seg:=[(vB (x17 ^^^ x20))]) (cs':=enc (s10.1.setIfInBounds (s10.2).toNat (x17 ^^^ x20))) hE hM Zd rfl rfl rfl ty5 rfl (ZH (v:=s10.1) (x:=x17 ^^^ x20) hi22.1) (Flat.cell (x17 ^^^ x20 : UInt8)) (ZA (v:=s10.1) (x:=x17 ^^^ x20) hi22.1) fun w a hM hE=>Zj (Z0 (Zy (wp_region_lit (Zk hE rfl rfl rfl fun a hE=>Ze hE rfl fun a hE=>Zj (Zl ?_)))))
    have hM:=hM.pull2.pull2
    exact ⟨_,(ois hs11),hE.sub ⟨rfl,rfl,rfl,rfl,trivial⟩,hM⟩
  ·intro hb14
   have hs11:=Zt hs11 hb14
   refine wp_exit (Zp (Zp (Z1 ?_)))
   obtain rfl:=hx12 _ (ois hs11)
   refine Zl ?_
   have hM:=M.fst (l:=[_,_]) hM.pull2.pull1
   exact ⟨hE.sub ⟨rfl,rfl,trivial⟩,hM⟩
 ·skip
  rintro a w ⟨hE,hM⟩
  refine Zy (Za (Zn hE rfl ZF rfl hM.rawAt1 (Flat.len _) fun a hE=>Zo (seg:=enc j7) (cs':=enc j7) hE hM Zd rfl rfl rfl ZF (Flat.len _) (zle flq) (Flat.cell _) (Zr flq) fun w a hM hE=>Zf ?_))
  obtain rfl:=Option.some.inj hF9
  have hq26 : Yq Tryz.prog _ _ (.cell 4 31) _:=ZQ hE rfl ZF rfl hM.rawAt0 (Flat.len _) rfl
  exact wp_ret (ZS hE rfl hq26 ⟨_,rfl,rfl,hM.kept⟩)
def YQ (p0 : (Ref Gengine)) (s35 : (Vector UInt8 16) × Int) : Option (Fl ((Vector UInt8 16) × Int) (Vector UInt8 16)) :=
 if (decide (s35.2 < 16)) = true then ((ZC s35.1 s35.2).bind fun x42=>(ZC s35.1 (wr (s35.2 - 1))).bind fun x45=>(ZC p0.v.box (bI x45)).bind fun x58=>(ZC s35.1 s35.2).bind fun x61=>some (Fl.nx ((s35.1.setIfInBounds (s35.2).toNat (x42 ^^^ x58)),wr (s35.2 + 1)))) else (some (Fl.ex s35.1))
def XD (p0 : (Ref Gengine)) (p1 : (Vector UInt8 16)) (p2 : Int) : Option ((Vector UInt8 16)) :=
 ((ZC p1 (0 : Int)).bind fun x10=>(ZC p1 (15 : Int)).bind fun x13=>(ZC p0.v.box (bI (x13 ^^^ (ZO p2)))).bind fun x26=>(ZC p1 (0 : Int)).bind fun x29=>some (p1.setIfInBounds ((0 : Int)).toNat (x10 ^^^ x26)) : Option ((Vector UInt8 16))).bind fun j5=>(ZD (YQ p0) (j5,1)).bind fun j32=>some j32
theorem K6 (w0 : World) (p0 : (Ref Gengine)) (v0_1 : Value) (hv0_1 : Ro w0 p0 [v0_1]) (p1 : (Vector UInt8 16)) (p2 : Int) (r : (Vector UInt8 16)) (hF : XD p0 p1 p2 = some r) :
  Calls Tryz.prog 180 [v0_1,(Value.agg (enc p1).toArray),vI p2].toArray w0 (Rt w0 (Value.agg (enc r).toArray)):=by
 refine ce Tryz.func180 ?_
 intro a hE
 have hM:=M.start w0
 unfold XD at hF
 refine Za (ZM (cs:=enc p1) hE hM Zd ld rfl rfl fun b1 w a hM hE=>Zz hE hM ZF fun b3 w a hM hE=>Zf ?_)
 obtain ⟨j5,hl6,hF7⟩:=bind_some hF
 refine ZI (fun a w=>Env 41 a [(0,v0_1),(4,(ptr b1 0)),(6,(ptr b3 0))] ∧ M (Old w0) w0 w [raw b3 (enc (Vector.replicate 16 (0 : UInt8))),raw b1 (enc j5)]) ?_ ?_
 ·skip
  obtain ⟨x10,hi9,hl6⟩:=bvx hl6
  obtain ⟨x13,hi12,hl6⟩:=bvx hl6
  obtain ⟨pb15,ds16,hv17,hx18,hA19,hB20⟩:=TP hv0_1 -- ^
  obtain ⟨u21,u23,rfl,h22,h24⟩:=QB hx18 -- ^
  obtain ⟨x26,hi25,hl6⟩:=bvx hl6
  obtain ⟨x29,hi28,hl6⟩:=bvx hl6
  refine ZX (n:=41) (hd:=[_,_,_,_,_,_,_,_,_,_,_,_,_,_]) (tl:=[_]) Yx rfl rfl [8,9,10,11,12,13,14,15,16,17,18,19,20,21] (by decide) (fun w=>M (Old w0) w0 w [raw b3 (enc (Vector.replicate 16 (0 : UInt8))),raw b1 (enc p1)]) (fun j=>([fun v _=>v = (ptr b1 (0 + ((0 : Int)).toNat * 1)),fun v _=>v = (vB x10),fun v _=>v = v0_1,fun v _=>v = (ptr b1 (0 + ((15 : Int)).toNat * 1)),fun v _=>v = (vB x13),fun v _=>v = (vI p2),fun v _=>v = (vB (ZO p2)),fun v _=>v = (vB (x13 ^^^ (ZO p2))),fun v _=>v = (ptr pb15 0),fun v _=>v = (ptr pb15 (0 + 0)),fun v _=>v = (ptr pb15 (0 + 0 + ((bI (x13 ^^^ (ZO p2)))).toNat * 1)),fun v _=>v = (vB x26),fun v _=>v = (vB (x10 ^^^ x26)),fun v _=>v = (ptr b1 (0 + ((0 : Int)).toNat * 1))] : List (Value → World → Prop)).getD j (fun _ _=>True)) (fun _ _ h hk=>h.keep hk) (gup gu14) hE hM.drew (st14 ?_ ?_ ?_ ?_ ?_ ?_ ?_ ?_ ?_ ?_ ?_ ?_ ?_ ?_) ?_
  ·exact fun a w ux8 hE hM hp=>Zm hE rfl rfl Tryz.underlying31 ty5 hi9.1 fun a hE=>kq rfl hE rfl
  ·intro a w ux8 hE hM hp
   have f0 : ux8 0 = (ptr b1 (0 + ((0 : Int)).toNat * 1)):=hp 0 _ rfl rfl
   exact Zx (v:=(vB x10)) hE (lk rfl f0) ty5 rfl (At.vec hM.rawAt1 hi9.2) fun a hE=>kq rfl hE rfl
  ·exact qm
  ·exact fun a w ux8 hE hM hp=>Zm hE rfl rfl Tryz.underlying31 ty5 hi12.1 fun a hE=>kq rfl hE rfl
  ·intro a w ux8 hE hM hp
   have f3 : ux8 3 = (ptr b1 (0 + ((15 : Int)).toNat * 1)):=hp 0 _ rfl rfl
   exact Zx (v:=(vB x13)) hE (lk rfl f3) ty5 rfl (At.vec hM.rawAt1 hi12.2) fun a hE=>kq rfl hE rfl
  ·exact qm
  ·intro a w ux8 hE hM hp
   have f5 : ux8 5 = (vI p2):=hp 0 _ rfl rfl
   refine XM hE Zd ld (lk rfl f5) Tryz.underlying2 Tryz.underlying5 ?_; intro a hE
   rw [YB] at hE
   exact kq rfl hE rfl
  ·intro a w ux8 hE hM hp
   have f4 : ux8 4 = (vB x13):=hp 0 _ rfl rfl
   have f6 : ux8 6 = (vB (ZO p2)):=hp 1 _ rfl rfl
   exact Zk hE (lk rfl f4) (lk rfl f6) (VA x13 (ZO p2)) fun a hE=>kq rfl hE rfl
  ·intro a w ux8 hE hM hp
   have f2 : ux8 2 = v0_1:=hp 0 _ rfl rfl
   exact Wh hE Zd ld (lk (lk rfl f2) hv17) fun a hE=>kq rfl hE rfl
  ·intro a w ux8 hE hM hp
   have f8 : ux8 8 = (ptr pb15 0):=hp 0 _ rfl rfl
   exact Zg hE (lk rfl f8) (yp) fun a hE=>kq rfl hE rfl
  ·intro a w ux8 hE hM hp
   have f7 : ux8 7 = (vB (x13 ^^^ (ZO p2))):=hp 1 _ rfl rfl
   have f9 : ux8 9 = (ptr pb15 (0 + 0)):=hp 0 _ rfl rfl
   exact Zm hE (lk rfl f9) (lk rfl f7) Tryz.underlying23 ty5 hi25.1 fun a hE=>kq rfl hE rfl
  ·intro a w ux8 hE hM hp
   have f10 : ux8 10 = (ptr pb15 (0 + 0 + ((bI (x13 ^^^ (ZO p2)))).toNat * 1)):=hp 0 _ rfl rfl
   exact Zx (v:=(vB x26)) hE (lk rfl f10) ty5 rfl (At.vec (At.cat (pre:=[]) (hM.atk hA19 hB20) cl0) hi25.2) fun a hE=>kq rfl hE rfl
  ·intro a w ux8 hE hM hp
   have f1 : ux8 1 = (vB x10):=hp 0 _ rfl rfl
   have f11 : ux8 11 = (vB x26):=hp 1 _ rfl rfl
   exact Zk hE (lk rfl f1) (lk rfl f11) (VA x10 x26) fun a hE=>kq rfl hE rfl
  ·exact fun a w ux8 hE hM hp=>Zm hE rfl rfl Tryz.underlying31 ty5 hi28.1 fun a hE=>kq rfl hE rfl
  ·intro a w ux8 hE hM hg
   have hE:=hE.sub (e':=[(20,(vB (x10 ^^^ x26))),(21,(ptr b1 (0 + ((0 : Int)).toNat * 1))),(0,v0_1),(4,(ptr b1 0)),(6,(ptr b3 0))]) ⟨lk rfl (hg 12 (by decide)),lk rfl (hg 13 (by decide)),rfl,rfl,rfl,trivial⟩
   have hM:=hM.pull1
   refine Zo (seg:=[(vB (x10 ^^^ x26))]) (cs':=enc (p1.setIfInBounds ((0 : Int)).toNat (x10 ^^^ x26))) hE hM Zd rfl rfl rfl ty5 rfl (ZH (v:=p1) (x:=x10 ^^^ x26) hi28.1) (Flat.cell (x10 ^^^ x26 : UInt8)) (ZA (v:=p1) (x:=x10 ^^^ x26) hi28.1) fun w a hM hE=>Zj ?_
   obtain rfl:=Option.some.inj hl6
   refine Zl ?_
   have hM:=hM.pull1
   exact ⟨hE.sub ⟨rfl,rfl,rfl,trivial⟩,hM⟩
 ·skip
  rintro a w ⟨hE,hM⟩
  refine wp_seq (Za (Zb hE rfl fun a hE=>Zf ?_))
  obtain ⟨j32,hl33,hF34⟩:=bind_some hF7
  refine ZJ (fun a w=>Env 41 a [(4,(ptr b1 0)),(6,(ptr b3 0))] ∧ M (Old w0) w0 w [raw b3 (enc (Vector.replicate 16 (0 : UInt8))),raw b1 (enc j32)]) ?_ ?_
  ·skip
   refine wp_block ?_
   refine ZE (fun (s35 : (Vector UInt8 16) × Int) a w=>Env 41 a [(0,v0_1),(4,(ptr b1 0)),(6,(ptr b3 0)),(7,vI s35.2)] ∧ M (Old w0) w0 w [raw b3 (enc (Vector.replicate 16 (0 : UInt8))),raw b1 (enc s35.1)]) hl33 ⟨hE.sub ⟨rfl,rfl,rfl,rfl,trivial⟩,hM⟩ ?_
   rintro s35 a w ⟨hE,hM⟩ o38 hs36 hx37
   unfold YQ at hs36
   refine wp_seq (Za (Ze hE rfl fun a hE=>Zk hE rfl rfl rfl fun a hE=>Zf ?_))
   refine Zq hE rfl ?_ ?_
   ·intro hb39
    have hs36:=Zu hs36 hb39
    refine wp_skip (Zy (wp_seq (wp_block ?_)))
    obtain ⟨x42,hi41,hs36⟩:=bvx hs36
    obtain ⟨x45,hi44,hs36⟩:=bvx hs36
    obtain ⟨pb47,ds48,hv49,hx50,hA51,hB52⟩:=TP hv0_1 -- ^
    obtain ⟨u53,u55,rfl,h54,h56⟩:=QB hx50 -- ^
    obtain ⟨x58,hi57,hs36⟩:=bvx hs36
    obtain ⟨x61,hi60,hs36⟩:=bvx hs36
    refine ZX (n:=41) (hd:=[_,_,_,_,_,_,_,_,_,_,_,_,_,_]) (tl:=[_]) Yx rfl rfl [26,27,28,29,30,31,32,33,34,35,36,37,38,39] (by decide) (fun w=>M (Old w0) w0 w [raw b3 (enc (Vector.replicate 16 (0 : UInt8))),raw b1 (enc s35.1)]) (fun j=>([fun v _=>v = (vI s35.2),fun v _=>v = (ptr b1 (0 + (s35.2).toNat * 1)),fun v _=>v = (vB x42),fun v _=>v = v0_1,fun v _=>v = (vI s35.2),fun v _=>v = (vI (wr (s35.2 - 1))),fun v _=>v = (ptr b1 (0 + ((wr (s35.2 - 1))).toNat * 1)),fun v _=>v = (vB x45),fun v _=>v = (ptr pb47 0),fun v _=>v = (ptr pb47 (0 + 0)),fun v _=>v = (ptr pb47 (0 + 0 + ((bI x45)).toNat * 1)),fun v _=>v = (vB x58),fun v _=>v = (vB (x42 ^^^ x58)),fun v _=>v = (ptr b1 (0 + (s35.2).toNat * 1))] : List (Value → World → Prop)).getD j (fun _ _=>True)) (fun _ _ h hk=>h.keep hk) (gup gu14) hE hM.drew (st14 ?_ ?_ ?_ ?_ ?_ ?_ ?_ ?_ ?_ ?_ ?_ ?_ ?_ ?_) ?_
    ·exact qm
    ·intro a w ux40 hE hM hp
     have f0 : ux40 0 = (vI s35.2):=hp 0 _ rfl rfl
     exact Zm hE rfl (lk rfl f0) Tryz.underlying31 ty5 hi41.1 fun a hE=>kq rfl hE rfl
    ·intro a w ux40 hE hM hp
     have f1 : ux40 1 = (ptr b1 (0 + (s35.2).toNat * 1)):=hp 0 _ rfl rfl
     exact Zx (v:=(vB x42)) hE (lk rfl f1) ty5 rfl (At.vec hM.rawAt1 hi41.2) fun a hE=>kq rfl hE rfl
    ·exact qm
    ·exact qm
    ·intro a w ux40 hE hM hp
     have f4 : ux40 4 = (vI s35.2):=hp 0 _ rfl rfl
     exact Zk hE (lk rfl f4) rfl rfl fun a hE=>kq rfl hE rfl
    ·intro a w ux40 hE hM hp
     have f5 : ux40 5 = (vI (wr (s35.2 - 1))):=hp 0 _ rfl rfl
     exact Zm hE rfl (lk rfl f5) Tryz.underlying31 ty5 hi44.1 fun a hE=>kq rfl hE rfl
    ·intro a w ux40 hE hM hp
     have f6 : ux40 6 = (ptr b1 (0 + ((wr (s35.2 - 1))).toNat * 1)):=hp 0 _ rfl rfl
     exact Zx (v:=(vB x45)) hE (lk rfl f6) ty5 rfl (At.vec hM.rawAt1 hi44.2) fun a hE=>kq rfl hE rfl
    ·intro a w ux40 hE hM hp
     have f3 : ux40 3 = v0_1:=hp 0 _ rfl rfl
     exact Wh hE Zd ld (lk (lk rfl f3) hv49) fun a hE=>kq rfl hE rfl
    ·intro a w ux40 hE hM hp
     have f8 : ux40 8 = (ptr pb47 0):=hp 0 _ rfl rfl
     exact Zg hE (lk rfl f8) (yp) fun a hE=>kq rfl hE rfl
    ·intro a w ux40 hE hM hp
     have f7 : ux40 7 = (vB x45):=hp 1 _ rfl rfl
     have f9 : ux40 9 = (ptr pb47 (0 + 0)):=hp 0 _ rfl rfl
     exact Zm hE (lk rfl f9) (lk rfl f7) Tryz.underlying23 ty5 hi57.1 fun a hE=>kq rfl hE rfl
    ·intro a w ux40 hE hM hp
     have f10 : ux40 10 = (ptr pb47 (0 + 0 + ((bI x45)).toNat * 1)):=hp 0 _ rfl rfl
     exact Zx (v:=(vB x58)) hE (lk rfl f10) ty5 rfl (At.vec (At.cat (pre:=[]) (hM.atk hA51 hB52) cl0) hi57.2) fun a hE=>kq rfl hE rfl
    ·intro a w ux40 hE hM hp
     have f2 : ux40 2 = (vB x42):=hp 0 _ rfl rfl
     have f11 : ux40 11 = (vB x58):=hp 1 _ rfl rfl
     exact Zk hE (lk rfl f2) (lk rfl f11) (VA x42 x58) fun a hE=>kq rfl hE rfl
    ·intro a w ux40 hE hM hp
     have f0 : ux40 0 = (vI s35.2):=hp 0 _ rfl rfl
     exact Zm hE rfl (lk rfl f0) Tryz.underlying31 ty5 hi60.1 fun a hE=>kq rfl hE rfl
    ·intro a w ux40 hE hM hg
     have hE:=hE.sub (e':=[(38,(vB (x42 ^^^ x58))),(39,(ptr b1 (0 + (s35.2).toNat * 1))),(0,v0_1),(4,(ptr b1 0)),(6,(ptr b3 0)),(7,vI s35.2),(22,vI s35.2),(23,(vT (decide (s35.2 < 16))))]) ⟨lk rfl (hg 12 (by decide)),lk rfl (hg 13 (by decide)),rfl,rfl,rfl,rfl,rfl,rfl,trivial⟩
     have hM:=hM.pull1
     refine Zo (seg:=[(vB (x42 ^^^ x58))]) (cs':=enc (s35.1.setIfInBounds (s35.2).toNat (x42 ^^^ x58))) hE hM Zd rfl rfl rfl ty5 rfl (ZH (v:=s35.1) (x:=x42 ^^^ x58) hi60.1) (Flat.cell (x42 ^^^ x58 : UInt8)) (ZA (v:=s35.1) (x:=x42 ^^^ x58) hi60.1) fun w a hM hE=>Zj (Z0 (Zy (wp_region_lit (Ze hE rfl fun a hE=>Zk hE rfl rfl rfl fun a hE=>Zb hE rfl fun a hE=>Zj (Zl ?_)))))
     have hM:=hM.pull1
     exact ⟨_,(ois hs36),hE.sub ⟨rfl,rfl,rfl,rfl,trivial⟩,hM⟩
   ·intro hb39
    have hs36:=Zt hs36 hb39
    refine wp_exit (Zp (Zp (Z1 ?_)))
    obtain rfl:=hx37 _ (ois hs36)
    refine Zl ?_
    exact ⟨hE.sub ⟨rfl,rfl,trivial⟩,hM⟩
  ·skip
   rintro a w ⟨hE,hM⟩
   refine Zy (Za (Zn hE rfl ZF rfl hM.rawAt1 (Flat.len _) fun a hE=>Zo (seg:=enc j32) (cs':=enc j32) hE hM Zd rfl rfl rfl ZF (Flat.len _) (zle flq) (Flat.cell _) (Zr flq) fun w a hM hE=>Zf ?_))
   obtain rfl:=Option.some.inj hF34
   have hq64 : Yq Tryz.prog _ _ (.cell 6 31) _:=ZQ hE rfl ZF rfl hM.rawAt0 (Flat.len _) rfl
   exact wp_ret (ZS hE rfl hq64 ⟨_,rfl,rfl,hM.kept⟩)
def Xu (p0 : (Ref Gengine)) (p2 : Int) (s10 : (Vector UInt8 16) × (List (Vector UInt8 16)) × Int) : Option (Fl ((Vector UInt8 16) × (List (Vector UInt8 16)) × Int) (List (Vector UInt8 16))) :=
 if (decide (s10.2.2 ≤ p2)) = true then ((XD p0 s10.1 s10.2.2).bind fun r17=>(app 16 s10.2.1 ([r17] : List (Vector UInt8 16))).bind fun l21=>some (Fl.nx (r17,(s10.2.1 ++ ([r17] : List (Vector UInt8 16))),wr (s10.2.2 + 1)))) else (some (Fl.ex s10.2.1))
def WO (p0 : (Ref Gengine)) (p1 : (Vector UInt8 16)) (p2 : Int) : Option ((List (Vector UInt8 16))) :=
 (ZD (Xu p0 p2) (p1,([p1] : List (Vector UInt8 16)),1)).bind fun j5=>some j5
theorem Hd (w0 : World) (p0 : (Ref Gengine)) (v0_1 : Value) (hv0_1 : Ro w0 p0 [v0_1]) (p1 : (Vector UInt8 16)) (p2 : Int) (r : (List (Vector UInt8 16))) (hF : WO p0 p1 p2 = some r) :
  Calls Tryz.prog 172 [v0_1,(Value.agg (enc p1).toArray),vI p2].toArray w0 (fun en w'=>∃ v,en = .returned v ∧ (∃ (y1 : Value),v = y1 ∧ Fr w0 w' [osl NoB (r : List (Vector UInt8 16)) y1] ∧ Kept (Old w0) w0 w')):=by
 refine ce Tryz.func172 ?_
 intro a hE
 have hM:=M.start w0
 unfold WO at hF
 refine Za (ZM (cs:=enc p1) hE hM Zd ld rfl rfl fun b1 w a hM hE=>Zb hE rfl fun a hE=>Zf (Za (Zn hE rfl ZF rfl hM.rawAt0 (Flat.len _) fun a hE=>XH (xs:=[.tmp 9]) (l:=([p1] : List (Vector UInt8 16))) (vs:=[(Value.agg (enc p1).toArray)]) hE hM Zd ld rfl rfl Tryz.underlying33 ZF rfl (by decide) rfl fun u3 w a hM hE=>Zb hE rfl fun a hE=>Zf (wp_seq (Za (Zb hE rfl fun a hE=>Zf ?_))))))
 obtain ⟨j5,hl6,hF7⟩:=bind_some hF
 refine ZJ (fun a w=>∃ (u8 : Value),Env 25 a [(7,u8)] ∧ M (Old w0) w0 w [osl NoB (j5 : List (Vector UInt8 16)) u8]) ?_ ?_
 ·skip
  refine wp_block ?_
  have hM:=hM.pull1
  refine ZE (fun (s10 : (Vector UInt8 16) × (List (Vector UInt8 16)) × Int) a w=>∃ (u11 : Value),Env 25 a [(0,v0_1),(2,vI p2),(4,(ptr b1 0)),(7,u11),(8,vI s10.2.2)] ∧ M (Old w0) w0 w [raw b1 (enc s10.1),osl NoB (s10.2.1 : List (Vector UInt8 16)) u11]) hl6 ⟨u3,hE.sub ⟨rfl,rfl,rfl,rfl,rfl,trivial⟩,hM⟩ ?_
  rintro s10 a w ⟨u11,hE,hM⟩ o15 hs13 hx14
  unfold Xu at hs13
  refine wp_seq (Za (Ze hE rfl fun a hE=>Ze hE rfl fun a hE=>Zk hE rfl rfl rfl fun a hE=>Zf ?_))
  refine Zq hE rfl ?_ ?_
  ·intro hb16
   have hs13:=Zu hs13 hb16
   refine wp_skip (Zy (wp_seq (wp_block (Za (Ze hE rfl fun a hE=>Zn hE rfl ZF rfl hM.rawAt0 (Flat.len _) fun a hE=>Ze hE rfl ?_))))); intro a hE
   obtain ⟨r17,e18,hs13⟩:=bind_some hs13
   refine Zv hE rfl (cbm Tryz.func180) (K6 _ p0 v0_1 (hM.rdo hv0_1) s10.1 s10.2.2 r17 e18) ?_
   rintro v w a ⟨rfl,hK⟩ hE
   have hM:=hM.keep hK
   refine Zo (seg:=enc r17) (cs':=enc r17) hE hM Zd rfl rfl rfl ZF (Flat.len _) (zle flq) (Flat.cell _) (Zr flq) fun w a hM hE=>Zf (wp_region_lit (Ze hE rfl fun a hE=>Zn hE rfl ZF rfl hM.rawAt0 (Flat.len _) fun a hE=>XH (xs:=[.tmp 21]) (l:=([r17] : List (Vector UInt8 16))) (vs:=[(Value.agg (enc r17).toArray)]) hE hM Zd ld rfl rfl Tryz.underlying33 ZF rfl (by decide) rfl ?_)); intro u19 w a hM hE
   obtain ⟨l21,e22,hs13⟩:=bind_some hs13
   obtain ⟨e25,rfl⟩:=Ve e22
   have hM:=hM.pull2
   refine X6 hE hM Zd ld rfl rfl (hM.sl (pre:=[_]) noB) Tryz.underlying33 ZF rfl (by decide) e25 fun u23 w a hM hE=>Zb hE rfl fun a hE=>Zj (Z0 (Zy (wp_region_lit (Ze hE rfl fun a hE=>Zk hE rfl rfl rfl fun a hE=>Zb hE rfl fun a hE=>Zj (Zl ?_)))))
   have hM:=M.fst (l:=[_,_]) hM.pull2
   exact ⟨_,(ois hs13),u23,hE.sub ⟨rfl,rfl,rfl,rfl,rfl,trivial⟩,hM⟩
  ·intro hb16
   have hs13:=Zt hs13 hb16
   refine wp_exit (Zp (Zp (Z1 ?_)))
   obtain rfl:=hx14 _ (ois hs13)
   refine Zl ?_
   have hM:=M.fst (l:=[_]) hM.pull1
   exact ⟨u11,hE.sub ⟨rfl,trivial⟩,hM⟩
 ·skip
  rintro a w ⟨u8,hE,hM⟩
  refine Zy (Za (Ze hE rfl fun a hE=>Zb hE rfl fun a hE=>Zf ?_))
  obtain rfl:=Option.some.inj hF7
  exact wp_ret (ZS hE rfl (YH hE rfl) ⟨_,rfl,u8,rfl,hM.outF (Wc VD),hM.kept⟩)
def Xt (p0 : (Vector UInt8 16)) (p1 : (Vector UInt8 16)) (s12 : (Vector UInt8 16) × Int) : Option (Fl ((Vector UInt8 16) × Int) (Vector UInt8 16)) :=
 if (decide (s12.2 < 16)) = true then ((ZC p0 s12.2).bind fun x17=>(ZC p1 (bI x17)).bind fun x21=>(ZC s12.1 s12.2).bind fun x24=>some (Fl.nx ((s12.1.setIfInBounds (s12.2).toNat x21),wr (s12.2 + 1)))) else (some (Fl.ex s12.1))
def WM (p0 : (Vector UInt8 16)) (p1 : (Vector UInt8 16)) : Option ((Vector UInt8 16)) :=
 (ZD (Xt p0 p1) ((Vector.replicate 16 (0 : UInt8)),0)).bind fun j9=>some j9
theorem J1 (w0 : World) (p0 : (Vector UInt8 16)) (p1 : (Vector UInt8 16)) (r : (Vector UInt8 16)) (hF : WM p0 p1 = some r) :
  Calls Tryz.prog 178 [(Value.agg (enc p0).toArray),(Value.agg (enc p1).toArray)].toArray w0 (Rt w0 (Value.agg (enc r).toArray)):=by
 refine ce Tryz.func178 ?_
 intro a hE
 have hM:=M.start w0
 unfold WM at hF
 refine Za (ZM (cs:=enc p0) hE hM Zd ld rfl rfl fun b1 w a hM hE=>ZM (cs:=enc p1) hE hM Zd ld rfl rfl fun b3 w a hM hE=>Zz hE hM ZF fun b5 w a hM hE=>Zf (Za (YU (parts:=[]) (vs:=[]) (cs:=enc (Vector.replicate 16 (0 : UInt8))) hE Zd ld rfl rfl ZF rfl ty5 Yu fun a hE=>Zz hE hM ZF fun b7 w a hM hE=>Zo (seg:=enc (Vector.replicate 16 (0 : UInt8))) (cs':=enc (Vector.replicate 16 (0 : UInt8))) hE hM Zd rfl rfl rfl ZF (Flat.len _) (zle flq) (Flat.cell _) (Zr flq) fun w a hM hE=>Zf (wp_seq (Za (Zn hE rfl Qz rfl hM.rawAt3 (Flat.len _) fun a hE=>Ze hE rfl fun a hE=>Zf ?_))))))
 obtain ⟨j9,hl10,hF11⟩:=bind_some hF
 refine ZJ (fun a w=>Env 21 a [(4,(ptr b5 0)),(5,(ptr b7 0))] ∧ M (Old w0) w0 w [raw b7 (enc j9),raw b5 (enc (Vector.replicate 16 (0 : UInt8)))]) ?_ ?_
 ·skip
  refine wp_block ?_
  have hM:=M.fst (l:=[_,_,_]) hM.pull2.pull2.pull2
  refine ZE (fun (s12 : (Vector UInt8 16) × Int) a w=>Env 21 a [(3,(ptr b3 0)),(4,(ptr b5 0)),(5,(ptr b7 0)),(9,(Value.agg (enc p0).toArray)),(10,vI s12.2)] ∧ M (Old w0) w0 w [raw b7 (enc s12.1),raw b5 (enc (Vector.replicate 16 (0 : UInt8))),raw b3 (enc p1)]) hl10 ⟨hE.sub ⟨rfl,rfl,rfl,rfl,rfl,trivial⟩,hM⟩ ?_
  rintro s12 a w ⟨hE,hM⟩ o15 hs13 hx14
  unfold Xt at hs13
  refine Za (Zk hE rfl rfl rfl fun a hE=>Zf (wp_seq ?_))
  refine Zq hE rfl ?_ ?_
  ·intro hb16
   have hs13:=Zu hs13 hb16
   refine wp_skip (Zy (wp_seq (wp_block (Za (Ze hE rfl ?_))))); intro a hE
   obtain ⟨x17,hi19,hs13⟩:=bvx hs13
   refine Q6 hE Zd ld rfl rfl Tryz.underlying28 ty5 rfl rfl hi19 rfl fun a hE=>Zb hE rfl fun a hE=>Zb hE rfl fun a hE=>Zf (wp_region_lit (Ze hE rfl fun a hE=>Ze hE rfl ?_)); intro a hE
   obtain ⟨x21,hi20,hs13⟩:=bvx hs13
   refine Zm hE rfl rfl Tryz.underlying31 ty5 hi20.1 fun a hE=>Zx (v:=(vB x21)) hE rfl ty5 rfl (At.vec hM.rawAt2 hi20.2) ?_; intro a hE
   obtain ⟨x24,hi23,hs13⟩:=bvx hs13
   refine Zm hE rfl rfl Tryz.underlying31 ty5 hi23.1 fun a hE=>Zo (seg:=[vB x21]) (cs':=enc (s12.1.setIfInBounds (s12.2).toNat x21)) hE hM Zd rfl rfl rfl ty5 rfl (ZH (v:=s12.1) (x:=x21) hi23.1) (Flat.cell (x21 : UInt8)) (ZA (v:=s12.1) (x:=x21) hi23.1) fun w a hM hE=>Zj (Z0 (Zy (wp_region_lit (Zk hE rfl rfl rfl fun a hE=>Ze hE rfl fun a hE=>Zj (Zl ?_)))))
   exact ⟨_,(ois hs13),hE.sub ⟨rfl,rfl,rfl,rfl,rfl,trivial⟩,hM⟩
  ·intro hb16
   have hs13:=Zt hs13 hb16
   refine wp_exit (Zp (Zp (Z1 ?_)))
   obtain rfl:=hx14 _ (ois hs13)
   refine Zl ?_
   have hM:=M.fst (l:=[_,_]) hM.pull1.pull1
   exact ⟨hE.sub ⟨rfl,rfl,trivial⟩,hM⟩
 ·skip
  rintro a w ⟨hE,hM⟩
  refine Zy (Za (Zn hE rfl ZF rfl hM.rawAt0 (Flat.len _) ?_)); intro a hE
  have hM:=hM.pull1
  refine Zo (seg:=enc j9) (cs':=enc j9) hE hM Zd rfl rfl rfl ZF (Flat.len _) (zle flq) (Flat.cell _) (Zr flq) fun w a hM hE=>Zf ?_
  obtain rfl:=Option.some.inj hF11
  have hq27 : Yq Tryz.prog _ _ (.cell 4 31) _:=ZQ hE rfl ZF rfl hM.rawAt0 (Flat.len _) rfl
  exact wp_ret (ZS hE rfl hq27 ⟨_,rfl,rfl,hM.kept⟩)
def X8 (p0 : (Ref (Vector (Vector (Vector UInt8 256) 4) 4))) (s4 : (Vector UInt8 16) × Int) (j9 : UInt8 × UInt8 × UInt8 × UInt8) (s29 : (Vector UInt8 16) × Int) : Option (Fl ((Vector UInt8 16) × Int) (Vector UInt8 16)) :=
 if (decide (s29.2 < 4)) = true then ((ZC p0.v s29.2).bind fun x42=>(ZC x42 (0 : Int)).bind fun x45=>(ZC x45 (bI j9.1)).bind fun x48=>(ZC p0.v s29.2).bind fun x57=>(ZC x57 (1 : Int)).bind fun x60=>(ZC x60 (bI j9.2.1)).bind fun x63=>(ZC p0.v s29.2).bind fun x72=>(ZC x72 (2 : Int)).bind fun x75=>(ZC x75 (bI j9.2.2.1)).bind fun x78=>(ZC p0.v s29.2).bind fun x87=>(ZC x87 (3 : Int)).bind fun x90=>(ZC x90 (bI j9.2.2.2)).bind fun x93=>(ZC s29.1 (wr (s4.2 + s29.2))).bind fun x95=>some (Fl.nx ((s29.1.setIfInBounds ((wr (s4.2 + s29.2))).toNat (((x48 ^^^ x63) ^^^ x78) ^^^ x93)),wr (s29.2 + 1)))) else (some (Fl.ex s29.1))
def We (p0 : (Ref (Vector (Vector (Vector UInt8 256) 4) 4))) (s4 : (Vector UInt8 16) × Int) : Option (Fl ((Vector UInt8 16) × Int) (Vector UInt8 16)) :=
 if (decide (s4.2 < (s4.1.toList.length : Int))) = true then (((ZC s4.1 s4.2).bind fun x13=>(ZC s4.1 (wr (s4.2 + 1))).bind fun x16=>(ZC s4.1 (wr (s4.2 + 2))).bind fun x19=>(ZC s4.1 (wr (s4.2 + 3))).bind fun x22=>some (x13,x16,x19,x22) : Option (UInt8 × UInt8 × UInt8 × UInt8)).bind fun j9=>(ZD (X8 p0 s4 j9) (s4.1,0)).bind fun j26=>some (Fl.nx (j26,wr (s4.2 + 4)))) else (some (Fl.ex s4.1))
def VE (p0 : (Ref (Vector (Vector (Vector UInt8 256) 4) 4))) (p1 : (Vector UInt8 16)) : Option ((Vector UInt8 16)) :=
 (ZD (We p0) (p1,0)).bind fun j1=>some j1
end

end Go.Proofs.YtlpppjjlffgkmaaGreat
