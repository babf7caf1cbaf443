/- The walk of what the law reaches: contracts of functions. -/
import Derived.Test.YtpjogonponkbmaaC1
set_option linter.unusedVariables false
set_option linter.unusedSimpArgs false
set_option maxRecDepth 20000
set_option maxHeartbeats 400000
namespace Go.Proofs.Ytpjogonponkbmaa
open Go
open Flat (enc)
noncomputable section
theorem Vj (w0 : World) (p0 : Int) (p1 : (Vector (Vector UInt8 4) 4)) (r : UInt8 × (Vector (Vector UInt8 4) 4)) (hF : Yb p0 p1 = some r) :
  Calls Try.prog 126 [vI p0,(Value.agg (enc p1).toArray)].toArray w0 (fun en w'=>∃ v,en = .returned v ∧ (v = (Value.tuple [vB r.1,(Value.agg (enc r.2).toArray)].toArray) ∧ Kept (Old w0) w0 w')):=by
 refine ZB (n:=153) Try.func126 rfl rfl (nbl rfl) rfl ?_
 intro a hE
 have hM:=M.start w0
 unfold Yb at hF
 refine Zc (ZR (cs:=enc p1) hE hM Za ld rfl rfl fun b1 w a hM hE=>Ze hE Za ld rfl fun a hE=>ZF hE hM Za ld Yi fun b3 w a hM hE=>Zf (Zc ?_))
 obtain ⟨r5,e6,hF⟩:=bind_some hF
 refine Zv hE Za ld rfl cb153 (Tr _  r5 e6) ?_
 rintro v w a ⟨rfl,hK⟩ hE
 have hM:=hM.keep hK
 refine ZF hE hM Za ld Yi fun b7 w a hM hE=>Zm (seg:=enc r5) (cs':=enc r5) hE hM Za rfl rfl rfl Yi (Flat.len _) (zle flq) (Flat.cell _) (Zn flq) fun w a hM hE=>Ze hE Za ld rfl fun a hE=>Zf (wp_seq (Zc (Zd hE Za ld rfl fun a hE=>Zf ?_)))
 obtain ⟨j9,hl10,hF11⟩:=bind_some hF
 refine ZU (fun a w=>∃ s12 : (Vector (Vector UInt8 4) 4) × UInt8,j9 = Fl.nx s12 ∧ Env 153 a [(5,(ptr b3 0)),(6,(ptr b7 0)),(7,vB s12.2)] ∧ M (Old w0) w0 w [raw b7 (enc s12.1),raw b3 (enc (Vector.replicate 4 (Vector.replicate 4 (0 : UInt8))))]) ?_ ?_
 ·skip
  refine wp_block ?_
  refine ZG (fun (s13 : (Vector (Vector UInt8 4) 4) × (Vector (Vector UInt8 4) 4) × Int × UInt8) a w=>Env 153 a [(0,vI p0),(3,(ptr b1 0)),(5,(ptr b3 0)),(6,(ptr b7 0)),(7,vB s13.2.2.2),(16,vI s13.2.2.1)] ∧ M (Old w0) w0 w [raw b7 (enc s13.2.1),raw b3 (enc (Vector.replicate 4 (Vector.replicate 4 (0 : UInt8)))),raw b1 (enc s13.1)]) hl10 ⟨hE.sub ⟨rfl,rfl,rfl,rfl,rfl,rfl,trivial⟩,hM⟩ ?_
  rintro s13 a w ⟨hE,hM⟩ o16 hs14 hx15
  unfold Z7 at hs14
  refine Zc (Zi hE Za ld rfl rfl rfl fun a hE=>Zf (wp_seq ?_))
  refine Zw hE rfl ?_ ?_
  ·intro hb17
   have hs14:=Zz hs14 hb17
   refine wp_skip (Zy (wp_seq (wp_block (Zc (Zd hE Za ld rfl fun a hE=>Ze hE Za ld rfl fun a hE=>Zf (Zc (Zd hE Za ld rfl fun a hE=>Ze hE Za ld rfl fun a hE=>Zf ?_)))))))
   obtain ⟨j18,hl19,hF20⟩:=bind_some hs14
   refine ZQ (fun a w=>Env 153 a [(0,vI p0),(3,(ptr b1 0)),(5,(ptr b3 0)),(6,(ptr b7 0)),(7,vB s13.2.2.2),(8,vI s13.2.2.1),(9,vI j18),(16,vI s13.2.2.1)] ∧ M (Old w0) w0 w [raw b7 (enc s13.2.1),raw b3 (enc (Vector.replicate 4 (Vector.replicate 4 (0 : UInt8)))),raw b1 (enc s13.1)]) ?_ ?_
   ·skip
    refine wp_block ?_
    refine ZG (fun (s21 : Int) a w=>Env 153 a [(0,vI p0),(3,(ptr b1 0)),(5,(ptr b3 0)),(6,(ptr b7 0)),(7,vB s13.2.2.2),(8,vI s13.2.2.1),(9,vI s21),(16,vI s13.2.2.1)] ∧ M (Old w0) w0 w [raw b7 (enc s13.2.1),raw b3 (enc (Vector.replicate 4 (Vector.replicate 4 (0 : UInt8)))),raw b1 (enc s13.1)]) hl19 ⟨hE.sub ⟨rfl,rfl,rfl,rfl,rfl,rfl,rfl,rfl,trivial⟩,hM⟩ ?_
    rintro s21 a w ⟨hE,hM⟩ o24 hs22 hx23
    unfold Wm at hs22
    refine wp_seq ?_
    obtain ⟨j25,hl26,hF27⟩:=bind_some hs22
    refine ZQ (fun a w=>Env 153 a [(0,vI p0),(3,(ptr b1 0)),(5,(ptr b3 0)),(6,(ptr b7 0)),(7,vB s13.2.2.2),(8,vI s13.2.2.1),(9,vI s21),(16,vI s13.2.2.1),(29,vT j25)] ∧ M (Old w0) w0 w [raw b7 (enc s13.2.1),raw b3 (enc (Vector.replicate 4 (Vector.replicate 4 (0 : UInt8)))),raw b1 (enc s13.1)]) ?_ ?_
    ·skip
     refine wp_region_lit (Zd hE Za ld rfl fun a hE=>Zi hE Za ld rfl rfl rfl fun a hE=>Zd hE Za ld rfl ?_); intro a hE
     refine WF (decide (s21 < 4)) (fun hb28=>?_) (fun hb28=>?_)
     ·have hl26:=Zz hl26 hb28
      refine Zd hE (Zt hE rfl (lkb rfl hb28)) (by decide) rfl fun a hE=>Zd hE (Zt hE rfl (lkb rfl hb28)) (by decide) rfl ?_; intro a hE
      obtain ⟨x30,hi29,hl26⟩:=bvx hl26
      refine Zg hE (Zt hE rfl (lkb rfl hb28)) (by decide) rfl rfl Try.underlying50 ZV hi29.1 ?_; intro a hE
      obtain ⟨x33,hi32,hl26⟩:=bvx hl26
      refine Zg hE (Zt hE rfl (lkb rfl hb28)) (by decide) rfl rfl Try.underlying42 ty5 hi32.1 fun a hE=>Zu (v:=(vB x33)) hE (Zt hE rfl (lkb rfl hb28)) (by decide) rfl ty5 rfl (At.vec (At.vec (hM.rawAt (pre:=[_,_])) hi29.2) hi32.2) fun a hE=>Zi hE (Zt hE rfl (lkb rfl hb28)) (by decide) rfl rfl (Jr x33 0) fun a hE=>YO hE Za ld (lkb rfl hb28) rfl fun a hE=>Zj ?_
      have ht35:=Option.some.inj hl26
      subst ht35
      refine Zk ?_
      exact ⟨hE.sub ⟨rfl,rfl,rfl,rfl,rfl,rfl,rfl,rfl,rfl,trivial⟩,hM⟩
     ·have hl26:=ZA hl26 hb28
      refine Zr hE rfl (lkb rfl hb28) rfl (by decide) fun a hE=>Zr hE rfl (lkb rfl hb28) rfl (by decide) fun a hE=>Zr hE rfl (lkb rfl hb28) rfl (by decide) fun a hE=>Zr hE rfl (lkb rfl hb28) rfl (by decide) fun a hE=>Zr hE rfl (lkb rfl hb28) rfl (by decide) fun a hE=>Zr hE rfl (lkb rfl hb28) rfl (by decide) fun a hE=>Yu hE Za ld (lkb rfl hb28) rfl fun a hE=>Zj ?_
      have ht36:=Option.some.inj hl26
      subst ht36
      refine Zk ?_
      exact ⟨hE.sub ⟨rfl,rfl,rfl,rfl,rfl,rfl,rfl,rfl,rfl,trivial⟩,hM⟩
    ·skip
     rintro a w ⟨hE,hM⟩
     refine Zw hE rfl ?_ ?_
     ·intro hb37
      have hF27:=Zz hF27 hb37
      refine wp_skip (Zy (wp_block (wp_region_lit (Zd hE Za ld rfl fun a hE=>Zi hE Za ld rfl rfl rfl fun a hE=>Ze hE Za ld rfl fun a hE=>Zj (Yg (Zk ?_))))))
      exact ⟨_,(ois hF27),hE.sub ⟨rfl,rfl,rfl,rfl,rfl,rfl,rfl,rfl,trivial⟩,hM⟩
     ·intro hb37
      have hF27:=ZA hF27 hb37
      refine wp_exit (Zo (Zo (Yt ?_)))
      have ht38:=hx23 _ (ois hF27)
      subst ht38
      refine Zk ?_
      exact ⟨hE.sub ⟨rfl,rfl,rfl,rfl,rfl,rfl,rfl,rfl,trivial⟩,hM⟩
   ·skip
    rintro a w ⟨hE,hM⟩
    refine wp_seq (Zc (Zd hE Za ld rfl fun a hE=>Zi hE Za ld rfl rfl rfl fun a hE=>Zf ?_))
    refine Zw hE rfl ?_ ?_
    ·intro hb39
     have hF20:=Zz hF20 hb39
     refine Zc (Y8 (parts:=[]) (vs:=[]) (cs:=enc (Vector.replicate 4 (Vector.replicate 4 (0 : UInt8)))) hE Za ld rfl rfl Yi rfl ZV YB fun a hE=>Ze hE Za ld rfl ?_); intro a hE
     have hM:=hM.pull (pre:=[_])
     refine Zm (seg:=enc (Vector.replicate 4 (Vector.replicate 4 (0 : UInt8)))) (cs':=enc (Vector.replicate 4 (Vector.replicate 4 (0 : UInt8)))) hE hM Za rfl rfl rfl Yi (Flat.len _) (zle flq) (Flat.cell _) (Zn flq) fun w a hM hE=>Zf ?_
     have ht40:=hx15 _ (ois hF20)
     subst ht40
     have hr:=Option.some.inj hF11
     subst hr
     have hq41 : Yy Try.prog _ _ (.cell 5 50) _:=ZX hE rfl Yi rfl (hM.rawAt (pre:=[])) (Flat.len _) rfl
     have hM:=M.fst (l:=[]) hM
     exact wp_ret (ZI (XT (ZI (ZI (XT (ZI (ZI (QL hE rfl (Zx hE rfl) hq41 ⟨_,rfl,rfl,hM.kept⟩))))))))
    ·intro hb39
     have hF20:=ZA hF20 hb39
     refine wp_skip (Zy ?_)
     obtain ⟨j42,hl43,hF44⟩:=bind_some hF20
     refine ZQ (fun a w=>Env 153 a [(0,vI p0),(3,(ptr b1 0)),(5,(ptr b3 0)),(6,(ptr b7 0)),(7,vB s13.2.2.2),(8,vI s13.2.2.1),(9,vI j18),(16,vI s13.2.2.1)] ∧ M (Old w0) w0 w [raw b7 (enc s13.2.1),raw b3 (enc (Vector.replicate 4 (Vector.replicate 4 (0 : UInt8)))),raw b1 (enc j42)]) ?_ ?_
     ·skip
      have hM:=hM.pull (pre:=[_,_])
      obtain ⟨x47,hi46,hl43⟩:=bvx hl43
      obtain ⟨x50,hi49,hl43⟩:=bvx hl43
      obtain ⟨x53,hi52,hl43⟩:=bvx hl43
      refine Qp (n:=153) (hd:=[_,_,_,_,_,_,_,_,_,_]) (tl:=[_,_]) Wa rfl rfl [35,36,37,38,39,40,41,42,43,162] (by decide) (fun D u w=>M (Old w0) w0 w ([raw b7 (enc s13.2.1),raw b3 (enc (Vector.replicate 4 (Vector.replicate 4 (0 : UInt8))))] ++ qL ([mkT 9 (raw b1 (enc s13.1)) (raw b1 (enc (s13.1.setIfInBounds (j18).toNat x47)))] : Mk) D u) ∧ GOk ([([],fun us v=>v = (vI j18)),([],fun us v=>v = (vI s13.2.2.1)),([],fun us v=>v = (vI s13.2.2.1)),([],fun us v=>v = (ptr b1 (0 + (s13.2.2.1).toNat * 4))),([],fun us v=>v = (Value.agg (enc x47).toArray)),([],fun us v=>v = (vI j18)),([],fun us v=>v = (ptr b1 (0 + (j18).toNat * 4))),([],fun us v=>v = (Value.agg (enc x50).toArray)),([],fun us v=>v = (ptr b1 (0 + (j18).toNat * 4))),([],fun us v=>True)] : Gs) D u) hE (fun u=>⟨M.qT (M.q0 hM.drew u),gok0⟩) (ZP (Zb ?_ (Zb ?_ (Zb ?_ (Zb ?_ (Zb ?_ (Zb ?_ (Zb ?_ (Zb ?_ (Zb ?_ (Zb ?_ ZK))))))))))) ?_
      ·intro a w ux45 D hE hI hD hdc hp
       have hM0:=hI.1
       have hM:=hI.1
       have hM:=hM.togA (pre:=[_,_]) (Bool.eq_false_iff.2 fun hx=>Bool.noConfusion (hD.symm.trans (hdc 9 _ _ rfl (List.mem_of_getElem? (i:=2) rfl) rfl hx)))
       exact Zd hE Za ld rfl fun a hE=>⟨_,_,rfl,hE,M.qKeep hM0 rfl,hI.2.put hD rfl YK rfl⟩
      ·intro a w ux45 D hE hI hD hdc hp
       have hM0:=hI.1
       exact Zd hE Za ld rfl fun a hE=>⟨_,_,rfl,hE,M.qKeep hM0 rfl,hI.2.put hD rfl YK rfl⟩
      ·intro a w ux45 D hE hI hD hdc hp
       have hM0:=hI.1
       have hM:=hI.1
       have hM:=hM.togA (pre:=[_,_]) (Bool.eq_false_iff.2 fun hx=>Bool.noConfusion (hD.symm.trans (hdc 9 _ _ rfl (List.mem_of_getElem? (i:=4) rfl) rfl hx)))
       exact Zd hE Za ld rfl fun a hE=>⟨_,_,rfl,hE,M.qKeep hM0 rfl,hI.2.put hD rfl YK rfl⟩
      ·intro a w ux45 D hE hI hD hdc hp
       have d2 : D 2 = true:=hp 0 _ rfl rfl
       have g2:=hI.2 2 d2 _ rfl
       have f2 : ux45 2 = (vI s13.2.2.1):=g2.2
       have hM0:=hI.1
       have hM:=hI.1
       have hM:=hM.togA (pre:=[_,_]) (Bool.eq_false_iff.2 fun hx=>Bool.noConfusion (hD.symm.trans (hdc 9 _ _ rfl (List.mem_of_getElem? (i:=5) rfl) rfl hx)))
       exact Zg hE Za ld rfl (lk rfl f2) Try.underlying50 ZV hi46.1 fun a hE=>⟨_,_,rfl,hE,M.qKeep hM0 rfl,hI.2.put hD rfl YK rfl⟩
      ·intro a w ux45 D hE hI hD hdc hp
       have d3 : D 3 = true:=hp 0 _ rfl rfl
       have g3:=hI.2 3 d3 _ rfl
       have f3 : ux45 3 = (ptr b1 (0 + (s13.2.2.1).toNat * 4)):=g3.2
       have hM0:=hI.1
       have hM:=hI.1
       have hM:=hM.togA (pre:=[_,_]) (Bool.eq_false_iff.2 fun hx=>Bool.noConfusion (hD.symm.trans (hdc 9 _ _ rfl (List.mem_of_getElem? (i:=1) rfl) rfl hx)))
       exact Zl (cs:=enc x47) hE Za ld (lk rfl f3) ZV rfl (At.vec (hM.rawAt (pre:=[_,_])) hi46.2) (Flat.len _) fun a hE=>⟨_,_,rfl,hE,M.qKeep hM0 rfl,hI.2.put hD rfl YK rfl⟩
      ·intro a w ux45 D hE hI hD hdc hp
       have hM0:=hI.1
       exact Zd hE Za ld rfl fun a hE=>⟨_,_,rfl,hE,M.qKeep hM0 rfl,hI.2.put hD rfl YK rfl⟩
      ·intro a w ux45 D hE hI hD hdc hp
       have d5 : D 5 = true:=hp 0 _ rfl rfl
       have g5:=hI.2 5 d5 _ rfl
       have f5 : ux45 5 = (vI j18):=g5.2
       have hM0:=hI.1
       have hM:=hI.1
       have hM:=hM.togA (pre:=[_,_]) (Bool.eq_false_iff.2 fun hx=>Bool.noConfusion (hD.symm.trans (hdc 9 _ _ rfl (List.mem_of_getElem? (i:=8) rfl) rfl hx)))
       exact Zg hE Za ld rfl (lk rfl f5) Try.underlying50 ZV hi49.1 fun a hE=>⟨_,_,rfl,hE,M.qKeep hM0 rfl,hI.2.put hD rfl YK rfl⟩
      ·intro a w ux45 D hE hI hD hdc hp
       have d6 : D 6 = true:=hp 0 _ rfl rfl
       have g6:=hI.2 6 d6 _ rfl
       have f6 : ux45 6 = (ptr b1 (0 + (j18).toNat * 4)):=g6.2
       have hM0:=hI.1
       have hM:=hI.1
       have hM:=hM.togA (pre:=[_,_]) (Bool.eq_false_iff.2 fun hx=>Bool.noConfusion (hD.symm.trans (hdc 9 _ _ rfl (List.mem_of_getElem? (i:=9) rfl) rfl hx)))
       exact Zl (cs:=enc x50) hE Za ld (lk rfl f6) ZV rfl (At.vec (hM.rawAt (pre:=[_,_])) hi49.2) (Flat.len _) fun a hE=>⟨_,_,rfl,hE,M.qKeep hM0 rfl,hI.2.put hD rfl YK rfl⟩
      ·intro a w ux45 D hE hI hD hdc hp
       have d0 : D 0 = true:=hp 0 _ rfl rfl
       have g0:=hI.2 0 d0 _ rfl
       have f0 : ux45 0 = (vI j18):=g0.2
       have hM0:=hI.1
       have hM:=hI.1
       have hM:=hM.togA (pre:=[_,_]) (Bool.eq_false_iff.2 fun hx=>Bool.noConfusion (hD.symm.trans (hdc 9 _ _ rfl (List.mem_of_getElem? (i:=0) rfl) rfl hx)))
       exact Zg hE Za ld rfl (lk rfl f0) Try.underlying50 ZV hi52.1 fun a hE=>⟨_,_,rfl,hE,M.qKeep hM0 rfl,hI.2.put hD rfl YK rfl⟩
      ·intro a w ux45 D hE hI hD hdc hp
       have d4 : D 4 = true:=hp 1 _ rfl rfl
       have g4:=hI.2 4 d4 _ rfl
       have f4 : ux45 4 = (Value.agg (enc x47).toArray):=g4.2
       have d8 : D 8 = true:=hp 0 _ rfl rfl
       have g8:=hI.2 8 d8 _ rfl
       have f8 : ux45 8 = (ptr b1 (0 + (j18).toNat * 4)):=g8.2
       have hM0:=hI.1
       have hM:=(hI.1.togA (pre:=[_,_]) hD).pull (pre:=[_,_])
       exact Zm (seg:=enc x47) (cs':=enc (s13.1.setIfInBounds (j18).toNat x47)) hE hM Za (lk rfl f8) (lk rfl f4) rfl ZV (Flat.len _) (ZE (v:=s13.1) (x:=x47) hi52.1) (Flat.cell _) (Zs (v:=s13.1) (x:=x47) hi52.1) fun w a hM hE=>⟨undef,_,rfl,Env.dummy hE (by decide),M.qTog (mk1:=[]) (mk2:=[]) hM rfl,hI.2.put hD rfl YK trivial⟩
      ·intro a w ux45 D hE hI hall
       have hM:=hI.1
       have d0 : D 0 = true:=hall 0 (by decide)
       have d1 : D 1 = true:=hall 1 (by decide)
       have d2 : D 2 = true:=hall 2 (by decide)
       have d3 : D 3 = true:=hall 3 (by decide)
       have d4 : D 4 = true:=hall 4 (by decide)
       have d5 : D 5 = true:=hall 5 (by decide)
       have d6 : D 6 = true:=hall 6 (by decide)
       have d7 : D 7 = true:=hall 7 (by decide)
       have d8 : D 8 = true:=hall 8 (by decide)
       have d9 : D 9 = true:=hall 9 (by decide)
       have f0 : ux45 0 = (vI j18):=(hI.2 0 d0 _ rfl).2
       have f1 : ux45 1 = (vI s13.2.2.1):=(hI.2 1 d1 _ rfl).2
       have f2 : ux45 2 = (vI s13.2.2.1):=(hI.2 2 d2 _ rfl).2
       have f3 : ux45 3 = (ptr b1 (0 + (s13.2.2.1).toNat * 4)):=(hI.2 3 d3 _ rfl).2
       have f4 : ux45 4 = (Value.agg (enc x47).toArray):=(hI.2 4 d4 _ rfl).2
       have f5 : ux45 5 = (vI j18):=(hI.2 5 d5 _ rfl).2
       have f6 : ux45 6 = (ptr b1 (0 + (j18).toNat * 4)):=(hI.2 6 d6 _ rfl).2
       have f7 : ux45 7 = (Value.agg (enc x50).toArray):=(hI.2 7 d7 _ rfl).2
       have f8 : ux45 8 = (ptr b1 (0 + (j18).toNat * 4)):=(hI.2 8 d8 _ rfl).2
       have hM:=hM.togB (pre:=[_,_]) d9
       have hE:=hE.sub (e':=[(36,vI s13.2.2.1),(42,(Value.agg (enc x50).toArray)),(0,vI p0),(3,(ptr b1 0)),(5,(ptr b3 0)),(6,(ptr b7 0)),(7,vB s13.2.2.2),(8,vI s13.2.2.1),(9,vI j18),(16,vI s13.2.2.1),(32,vI j18),(33,(vT (j18 == 4)))]) ⟨lk rfl f1,lk rfl f7,rfl,rfl,rfl,rfl,rfl,rfl,rfl,rfl,rfl,rfl,trivial⟩
       obtain ⟨x56,hi55,hl43⟩:=bvx hl43
       refine Zg hE Za ld rfl rfl Try.underlying50 ZV hi55.1 ?_; intro a hE
       have hM:=hM.pull (pre:=[_,_])
       refine Zm (seg:=enc x50) (cs':=enc ((s13.1.setIfInBounds (j18).toNat x47).setIfInBounds (s13.2.2.1).toNat x50)) hE hM Za rfl rfl rfl ZV (Flat.len _) (ZE (v:=(s13.1.setIfInBounds (j18).toNat x47)) (x:=x50) hi55.1) (Flat.cell _) (Zs (v:=(s13.1.setIfInBounds (j18).toNat x47)) (x:=x50) hi55.1) fun w a hM hE=>Zj ?_
       have ht58:=Option.some.inj hl43
       subst ht58
       refine Zk ?_
       have hM:=(hM.pull (pre:=[_,_])).pull (pre:=[_,_])
       exact ⟨hE.sub ⟨rfl,rfl,rfl,rfl,rfl,rfl,rfl,rfl,trivial⟩,hM⟩
     ·skip
      rintro a w ⟨hE,hM⟩
      obtain ⟨j59,hl60,hF61⟩:=bind_some hF44
      refine ZQ (fun a w=>Env 153 a [(0,vI p0),(3,(ptr b1 0)),(5,(ptr b3 0)),(6,(ptr b7 0)),(7,vB s13.2.2.2),(8,vI s13.2.2.1),(16,vI s13.2.2.1)] ∧ M (Old w0) w0 w [raw b7 (enc j59),raw b3 (enc (Vector.replicate 4 (Vector.replicate 4 (0 : UInt8)))),raw b1 (enc j42)]) ?_ ?_
      ·skip
       obtain ⟨x64,hi63,hl60⟩:=bvx hl60
       obtain ⟨x67,hi66,hl60⟩:=bvx hl60
       obtain ⟨x70,hi69,hl60⟩:=bvx hl60
       refine Qp (n:=153) (hd:=[_,_,_,_,_,_,_,_,_,_]) (tl:=[_,_]) Wa rfl rfl [45,46,47,48,49,50,51,52,53,162] (by decide) (fun D u w=>M (Old w0) w0 w ([raw b3 (enc (Vector.replicate 4 (Vector.replicate 4 (0 : UInt8)))),raw b1 (enc j42)] ++ qL ([mkT 9 (raw b7 (enc s13.2.1)) (raw b7 (enc (s13.2.1.setIfInBounds (j18).toNat x64)))] : Mk) D u) ∧ GOk ([([],fun us v=>v = (vI j18)),([],fun us v=>v = (vI s13.2.2.1)),([],fun us v=>v = (vI s13.2.2.1)),([],fun us v=>v = (ptr b7 (0 + (s13.2.2.1).toNat * 4))),([],fun us v=>v = (Value.agg (enc x64).toArray)),([],fun us v=>v = (vI j18)),([],fun us v=>v = (ptr b7 (0 + (j18).toNat * 4))),([],fun us v=>v = (Value.agg (enc x67).toArray)),([],fun us v=>v = (ptr b7 (0 + (j18).toNat * 4))),([],fun us v=>True)] : Gs) D u) hE (fun u=>⟨M.qT (M.q0 hM.drew u),gok0⟩) (ZP (Zb ?_ (Zb ?_ (Zb ?_ (Zb ?_ (Zb ?_ (Zb ?_ (Zb ?_ (Zb ?_ (Zb ?_ (Zb ?_ ZK))))))))))) ?_
       ·intro a w ux62 D hE hI hD hdc hp
        have hM0:=hI.1
        have hM:=hI.1
        have hM:=hM.togA (pre:=[_,_]) (Bool.eq_false_iff.2 fun hx=>Bool.noConfusion (hD.symm.trans (hdc 9 _ _ rfl (List.mem_of_getElem? (i:=2) rfl) rfl hx)))
        exact Zd hE Za ld rfl fun a hE=>⟨_,_,rfl,hE,M.qKeep hM0 rfl,hI.2.put hD rfl YK rfl⟩
       ·intro a w ux62 D hE hI hD hdc hp
        have hM0:=hI.1
        exact Zd hE Za ld rfl fun a hE=>⟨_,_,rfl,hE,M.qKeep hM0 rfl,hI.2.put hD rfl YK rfl⟩
       ·intro a w ux62 D hE hI hD hdc hp
        have hM0:=hI.1
        have hM:=hI.1
        have hM:=hM.togA (pre:=[_,_]) (Bool.eq_false_iff.2 fun hx=>Bool.noConfusion (hD.symm.trans (hdc 9 _ _ rfl (List.mem_of_getElem? (i:=4) rfl) rfl hx)))
        exact Zd hE Za ld rfl fun a hE=>⟨_,_,rfl,hE,M.qKeep hM0 rfl,hI.2.put hD rfl YK rfl⟩
       ·intro a w ux62 D hE hI hD hdc hp
        have d2 : D 2 = true:=hp 0 _ rfl rfl
        have g2:=hI.2 2 d2 _ rfl
        have f2 : ux62 2 = (vI s13.2.2.1):=g2.2
        have hM0:=hI.1
        have hM:=hI.1
        have hM:=hM.togA (pre:=[_,_]) (Bool.eq_false_iff.2 fun hx=>Bool.noConfusion (hD.symm.trans (hdc 9 _ _ rfl (List.mem_of_getElem? (i:=5) rfl) rfl hx)))
        exact Zg hE Za ld rfl (lk rfl f2) Try.underlying50 ZV hi63.1 fun a hE=>⟨_,_,rfl,hE,M.qKeep hM0 rfl,hI.2.put hD rfl YK rfl⟩
       ·intro a w ux62 D hE hI hD hdc hp
        have d3 : D 3 = true:=hp 0 _ rfl rfl
        have g3:=hI.2 3 d3 _ rfl
        have f3 : ux62 3 = (ptr b7 (0 + (s13.2.2.1).toNat * 4)):=g3.2
        have hM0:=hI.1
        have hM:=hI.1
        have hM:=hM.togA (pre:=[_,_]) (Bool.eq_false_iff.2 fun hx=>Bool.noConfusion (hD.symm.trans (hdc 9 _ _ rfl (List.mem_of_getElem? (i:=1) rfl) rfl hx)))
        exact Zl (cs:=enc x64) hE Za ld (lk rfl f3) ZV rfl (At.vec (hM.rawAt (pre:=[_,_])) hi63.2) (Flat.len _) fun a hE=>⟨_,_,rfl,hE,M.qKeep hM0 rfl,hI.2.put hD rfl YK rfl⟩
       ·intro a w ux62 D hE hI hD hdc hp
        have hM0:=hI.1
        exact Zd hE Za ld rfl fun a hE=>⟨_,_,rfl,hE,M.qKeep hM0 rfl,hI.2.put hD rfl YK rfl⟩
       ·intro a w ux62 D hE hI hD hdc hp
        have d5 : D 5 = true:=hp 0 _ rfl rfl
        have g5:=hI.2 5 d5 _ rfl
        have f5 : ux62 5 = (vI j18):=g5.2
        have hM0:=hI.1
        have hM:=hI.1
        have hM:=hM.togA (pre:=[_,_]) (Bool.eq_false_iff.2 fun hx=>Bool.noConfusion (hD.symm.trans (hdc 9 _ _ rfl (List.mem_of_getElem? (i:=8) rfl) rfl hx)))
        exact Zg hE Za ld rfl (lk rfl f5) Try.underlying50 ZV hi66.1 fun a hE=>⟨_,_,rfl,hE,M.qKeep hM0 rfl,hI.2.put hD rfl YK rfl⟩
       ·intro a w ux62 D hE hI hD hdc hp
        have d6 : D 6 = true:=hp 0 _ rfl rfl
        have g6:=hI.2 6 d6 _ rfl
        have f6 : ux62 6 = (ptr b7 (0 + (j18).toNat * 4)):=g6.2
        have hM0:=hI.1
        have hM:=hI.1
        have hM:=hM.togA (pre:=[_,_]) (Bool.eq_false_iff.2 fun hx=>Bool.noConfusion (hD.symm.trans (hdc 9 _ _ rfl (List.mem_of_getElem? (i:=9) rfl) rfl hx)))
        exact Zl (cs:=enc x67) hE Za ld (lk rfl f6) ZV rfl (At.vec (hM.rawAt (pre:=[_,_])) hi66.2) (Flat.len _) fun a hE=>⟨_,_,rfl,hE,M.qKeep hM0 rfl,hI.2.put hD rfl YK rfl⟩
       ·intro a w ux62 D hE hI hD hdc hp
        have d0 : D 0 = true:=hp 0 _ rfl rfl
        have g0:=hI.2 0 d0 _ rfl
        have f0 : ux62 0 = (vI j18):=g0.2
        have hM0:=hI.1
        have hM:=hI.1
        have hM:=hM.togA (pre:=[_,_]) (Bool.eq_false_iff.2 fun hx=>Bool.noConfusion (hD.symm.trans (hdc 9 _ _ rfl (List.mem_of_getElem? (i:=0) rfl) rfl hx)))
        exact Zg hE Za ld rfl (lk rfl f0) Try.underlying50 ZV hi69.1 fun a hE=>⟨_,_,rfl,hE,M.qKeep hM0 rfl,hI.2.put hD rfl YK rfl⟩
       ·intro a w ux62 D hE hI hD hdc hp
        have d4 : D 4 = true:=hp 1 _ rfl rfl
        have g4:=hI.2 4 d4 _ rfl
        have f4 : ux62 4 = (Value.agg (enc x64).toArray):=g4.2
        have d8 : D 8 = true:=hp 0 _ rfl rfl
        have g8:=hI.2 8 d8 _ rfl
        have f8 : ux62 8 = (ptr b7 (0 + (j18).toNat * 4)):=g8.2
        have hM0:=hI.1
        have hM:=(hI.1.togA (pre:=[_,_]) hD).pull (pre:=[_,_])
        exact Zm (seg:=enc x64) (cs':=enc (s13.2.1.setIfInBounds (j18).toNat x64)) hE hM Za (lk rfl f8) (lk rfl f4) rfl ZV (Flat.len _) (ZE (v:=s13.2.1) (x:=x64) hi69.1) (Flat.cell _) (Zs (v:=s13.2.1) (x:=x64) hi69.1) fun w a hM hE=>⟨undef,_,rfl,Env.dummy hE (by decide),M.qTog (mk1:=[]) (mk2:=[]) hM rfl,hI.2.put hD rfl YK trivial⟩
       ·intro a w ux62 D hE hI hall
        have hM:=hI.1
        have d0 : D 0 = true:=hall 0 (by decide)
        have d1 : D 1 = true:=hall 1 (by decide)
        have d2 : D 2 = true:=hall 2 (by decide)
        have d3 : D 3 = true:=hall 3 (by decide)
        have d4 : D 4 = true:=hall 4 (by decide)
        have d5 : D 5 = true:=hall 5 (by decide)
        have d6 : D 6 = true:=hall 6 (by decide)
        have d7 : D 7 = true:=hall 7 (by decide)
        have d8 : D 8 = true:=hall 8 (by decide)
        have d9 : D 9 = true:=hall 9 (by decide)
        have f0 : ux62 0 = (vI j18):=(hI.2 0 d0 _ rfl).2
        have f1 : ux62 1 = (vI s13.2.2.1):=(hI.2 1 d1 _ rfl).2
        have f2 : ux62 2 = (vI s13.2.2.1):=(hI.2 2 d2 _ rfl).2
        have f3 : ux62 3 = (ptr b7 (0 + (s13.2.2.1).toNat * 4)):=(hI.2 3 d3 _ rfl).2
        have f4 : ux62 4 = (Value.agg (enc x64).toArray):=(hI.2 4 d4 _ rfl).2
        have f5 : ux62 5 = (vI j18):=(hI.2 5 d5 _ rfl).2
        have f6 : ux62 6 = (ptr b7 (0 + (j18).toNat * 4)):=(hI.2 6 d6 _ rfl).2
        have f7 : ux62 7 = (Value.agg (enc x67).toArray):=(hI.2 7 d7 _ rfl).2
        have f8 : ux62 8 = (ptr b7 (0 + (j18).toNat * 4)):=(hI.2 8 d8 _ rfl).2
        have hM:=hM.togB (pre:=[_,_]) d9
        have hE:=hE.sub (e':=[(46,vI s13.2.2.1),(52,(Value.agg (enc x67).toArray)),(0,vI p0),(3,(ptr b1 0)),(5,(ptr b3 0)),(6,(ptr b7 0)),(7,vB s13.2.2.2),(8,vI s13.2.2.1),(9,vI j18),(16,vI s13.2.2.1)]) ⟨lk rfl f1,lk rfl f7,rfl,rfl,rfl,rfl,rfl,rfl,rfl,rfl,trivial⟩
        obtain ⟨x73,hi72,hl60⟩:=bvx hl60
        refine Zg hE Za ld rfl rfl Try.underlying50 ZV hi72.1 ?_; intro a hE
        have hM:=hM.pull (pre:=[_,_])
        refine Zm (seg:=enc x67) (cs':=enc ((s13.2.1.setIfInBounds (j18).toNat x64).setIfInBounds (s13.2.2.1).toNat x67)) hE hM Za rfl rfl rfl ZV (Flat.len _) (ZE (v:=(s13.2.1.setIfInBounds (j18).toNat x64)) (x:=x67) hi72.1) (Flat.cell _) (Zs (v:=(s13.2.1.setIfInBounds (j18).toNat x64)) (x:=x67) hi72.1) fun w a hM hE=>Zj ?_
        have ht75:=Option.some.inj hl60
        subst ht75
        refine Zk ?_
        exact ⟨hE.sub ⟨rfl,rfl,rfl,rfl,rfl,rfl,rfl,trivial⟩,hM⟩
      ·skip
       rintro a w ⟨hE,hM⟩
       refine Zc (Zd hE Za ld rfl fun a hE=>Zd hE Za ld rfl fun a hE=>Zd hE Za ld rfl fun a hE=>Zd hE Za ld rfl ?_); intro a hE
       obtain ⟨x77,hi76,hF61⟩:=bvx hF61
       refine Zg hE Za ld rfl rfl Try.underlying50 ZV hi76.1 ?_; intro a hE
       obtain ⟨x80,hi79,hF61⟩:=bvx hF61
       refine Zg hE Za ld rfl rfl Try.underlying42 ty5 hi79.1 fun a hE=>Zu (v:=(vB x80)) hE Za ld rfl ty5 rfl (At.vec (At.vec (hM.rawAt (pre:=[_,_])) hi76.2) hi79.2) ?_; intro a hE
       obtain ⟨r82,e83,hF61⟩:=bind_some hF61
       refine Zv hE Za ld rfl TX (Z5 _ p0 s13.2.2.2 x80 r82 e83) ?_
       rintro v w a ⟨rfl,hK⟩ hE
       have hM:=hM.keep hK
       refine Ze hE Za ld rfl fun a hE=>Zf (Zc (Zd hE Za ld rfl fun a hE=>Zd hE Za ld rfl fun a hE=>Zd hE Za ld rfl ?_)); intro a hE
       obtain ⟨x85,hi84,hF61⟩:=bvx hF61
       refine Zg hE Za ld rfl rfl Try.underlying50 ZV hi84.1 ?_; intro a hE
       obtain ⟨x88,hi87,hF61⟩:=bvx hF61
       refine Zg hE Za ld rfl rfl Try.underlying42 ty5 hi87.1 fun a hE=>Zu (v:=(vB x88)) hE Za ld rfl ty5 rfl (At.vec (At.vec (hM.rawAt (pre:=[_,_])) hi84.2) hi87.2) ?_; intro a hE
       obtain ⟨r90,e91,hF61⟩:=bind_some hF61
       refine Zv hE Za ld rfl cb154 (Uh _ p0 x88 r90 e91) ?_
       rintro v w a ⟨rfl,hK⟩ hE
       have hM:=hM.keep hK
       refine Ze hE Za ld rfl fun a hE=>Zf (wp_seq (Zc (Zd hE Za ld rfl fun a hE=>Zf ?_)))
       obtain ⟨j92,hl93,hF94⟩:=bind_some hF61
       refine ZU (fun a w=>Env 153 a [(0,vI p0),(3,(ptr b1 0)),(5,(ptr b3 0)),(6,(ptr b7 0)),(7,vB r82),(8,vI s13.2.2.1),(16,vI s13.2.2.1)] ∧ M (Old w0) w0 w [raw b7 (enc j92.2),raw b3 (enc (Vector.replicate 4 (Vector.replicate 4 (0 : UInt8)))),raw b1 (enc j92.1)]) ?_ ?_
       ·skip
        refine wp_block ?_
        refine ZG (fun (s95 : (Vector (Vector UInt8 4) 4) × (Vector (Vector UInt8 4) 4) × Int) a w=>Env 153 a [(0,vI p0),(3,(ptr b1 0)),(5,(ptr b3 0)),(6,(ptr b7 0)),(7,vB r82),(8,vI s13.2.2.1),(10,vB r90),(16,vI s13.2.2.1),(70,vI s95.2.2)] ∧ M (Old w0) w0 w [raw b7 (enc s95.2.1),raw b3 (enc (Vector.replicate 4 (Vector.replicate 4 (0 : UInt8)))),raw b1 (enc s95.1)]) hl93 ⟨hE.sub ⟨rfl,rfl,rfl,rfl,rfl,rfl,rfl,rfl,rfl,trivial⟩,hM⟩ ?_
        rintro s95 a w ⟨hE,hM⟩ o98 hs96 hx97
        unfold YH at hs96
        refine Zc (Zi hE Za ld rfl rfl rfl fun a hE=>Zf (wp_seq ?_))
        refine Zw hE rfl ?_ ?_
        ·intro hb99
         have hs96:=Zz hs96 hb99
         refine wp_skip (Zy (wp_seq (wp_block (Zc (Zd hE Za ld rfl fun a hE=>Ze hE Za ld rfl fun a hE=>Zf ?_)))))
         have hM:=hM.pull (pre:=[_,_])
         obtain ⟨x102,hi101,hs96⟩:=bvx hs96
         obtain ⟨x105,hi104,hs96⟩:=bvx hs96
         obtain ⟨r107,e108,hs96⟩:=bind_some hs96
         obtain ⟨x110,hi109,hs96⟩:=bvx hs96
         obtain ⟨x113,hi112,hs96⟩:=bvx hs96
         obtain ⟨r115,e116,hs96⟩:=bind_some hs96
         obtain ⟨x118,hi117,hs96⟩:=bvx hs96
         obtain ⟨x121,hi120,hs96⟩:=bvx hs96
         obtain ⟨x124,hi123,hs96⟩:=bvx hs96
         refine Qp (n:=153) (hd:=[_,_,_,_,_,_,_,_,_,_,_,_,_,_,_,_,_,_,_,_,_,_,_,_]) (tl:=[_,_]) Wa rfl rfl [73,74,75,76,77,78,79,80,81,82,83,84,85,86,87,88,89,90,91,92,93,94,175,95] (by decide) (fun D u w=>M (Old w0) w0 w ([raw b7 (enc s95.2.1),raw b3 (enc (Vector.replicate 4 (Vector.replicate 4 (0 : UInt8))))] ++ qL ([mkT 22 (raw b1 (enc s95.1)) (raw b1 (enc (s95.1.setIfInBounds (s13.2.2.1).toNat (x118.setIfInBounds (s95.2.2).toNat r107))))] : Mk) D u) ∧ GOk ([([],fun us v=>v = (vI s13.2.2.1)),([],fun us v=>v = (vI s95.2.2)),([],fun us v=>v = (vI s13.2.2.1)),([],fun us v=>v = (vI s95.2.2)),([],fun us v=>v = (vI p0)),([],fun us v=>v = (vI s13.2.2.1)),([],fun us v=>v = (vI s95.2.2)),([],fun us v=>v = (ptr b1 (0 + (s13.2.2.1).toNat * 4))),([],fun us v=>v = (ptr b1 (0 + (s13.2.2.1).toNat * 4 + (s95.2.2).toNat * 1))),([],fun us v=>v = (vB x105)),([],fun us v=>v = (vB r90)),([],fun us v=>v = (vB r107)),([],fun us v=>v = (vI p0)),([],fun us v=>v = (vI s13.2.2.1)),([],fun us v=>v = (vI s95.2.2)),([],fun us v=>v = (ptr b7 (0 + (s13.2.2.1).toNat * 4))),([],fun us v=>v = (ptr b7 (0 + (s13.2.2.1).toNat * 4 + (s95.2.2).toNat * 1))),([],fun us v=>v = (vB x113)),([],fun us v=>v = (vB r90)),([],fun us v=>v = (vB r115)),([],fun us v=>v = (ptr b1 (0 + (s13.2.2.1).toNat * 4))),([],fun us v=>v = (ptr b1 (0 + (s13.2.2.1).toNat * 4 + (s95.2.2).toNat * 1))),([],fun us v=>True),([],fun us v=>v = (ptr b7 (0 + (s13.2.2.1).toNat * 4)))] : Gs) D u) hE (fun u=>⟨M.qT (M.q0 hM.drew u),gok0⟩) (ZP (Zb ?_ (Zb ?_ (Zb ?_ (Zb ?_ (Zb ?_ (Zb ?_ (Zb ?_ (Zb ?_ (Zb ?_ (Zb ?_ (Zb ?_ (Zb ?_ (Zb ?_ (Zb ?_ (Zb ?_ (Zb ?_ (Zb ?_ (Zb ?_ (Zb ?_ (Zb ?_ (Zb ?_ (Zb ?_ (Zb ?_ (Zb ?_ ZK))))))))))))))))))))))))) ?_
         ·intro a w ux100 D hE hI hD hdc hp
          have hM0:=hI.1
          have hM:=hI.1
          have hM:=hM.togA (pre:=[_,_]) (Bool.eq_false_iff.2 fun hx=>Bool.noConfusion (hD.symm.trans (hdc 22 _ _ rfl (List.mem_of_getElem? (i:=3) rfl) rfl hx)))
          exact Zd hE Za ld rfl fun a hE=>⟨_,_,rfl,hE,M.qKeep hM0 rfl,hI.2.put hD rfl YK rfl⟩
         ·intro a w ux100 D hE hI hD hdc hp
          have hM0:=hI.1
          have hM:=hI.1
          have hM:=hM.togA (pre:=[_,_]) (Bool.eq_false_iff.2 fun hx=>Bool.noConfusion (hD.symm.trans (hdc 22 _ _ rfl (List.mem_of_getElem? (i:=4) rfl) rfl hx)))
          exact Zd hE Za ld rfl fun a hE=>⟨_,_,rfl,hE,M.qKeep hM0 rfl,hI.2.put hD rfl YK rfl⟩
         ·intro a w ux100 D hE hI hD hdc hp
          have hM0:=hI.1
          exact Zd hE Za ld rfl fun a hE=>⟨_,_,rfl,hE,M.qKeep hM0 rfl,hI.2.put hD rfl YK rfl⟩
         ·intro a w ux100 D hE hI hD hdc hp
          have hM0:=hI.1
          exact Zd hE Za ld rfl fun a hE=>⟨_,_,rfl,hE,M.qKeep hM0 rfl,hI.2.put hD rfl YK rfl⟩
         ·intro a w ux100 D hE hI hD hdc hp
          have hM0:=hI.1
          have hM:=hI.1
          have hM:=hM.togA (pre:=[_,_]) (Bool.eq_false_iff.2 fun hx=>Bool.noConfusion (hD.symm.trans (hdc 22 _ _ rfl (List.mem_of_getElem? (i:=7) rfl) rfl hx)))
          exact Zd hE Za ld rfl fun a hE=>⟨_,_,rfl,hE,M.qKeep hM0 rfl,hI.2.put hD rfl YK rfl⟩
         ·intro a w ux100 D hE hI hD hdc hp
          have hM0:=hI.1
          have hM:=hI.1
          have hM:=hM.togA (pre:=[_,_]) (Bool.eq_false_iff.2 fun hx=>Bool.noConfusion (hD.symm.trans (hdc 22 _ _ rfl (List.mem_of_getElem? (i:=8) rfl) rfl hx)))
          exact Zd hE Za ld rfl fun a hE=>⟨_,_,rfl,hE,M.qKeep hM0 rfl,hI.2.put hD rfl YK rfl⟩
         ·intro a w ux100 D hE hI hD hdc hp
          have hM0:=hI.1
          have hM:=hI.1
          have hM:=hM.togA (pre:=[_,_]) (Bool.eq_false_iff.2 fun hx=>Bool.noConfusion (hD.symm.trans (hdc 22 _ _ rfl (List.mem_of_getElem? (i:=9) rfl) rfl hx)))
          exact Zd hE Za ld rfl fun a hE=>⟨_,_,rfl,hE,M.qKeep hM0 rfl,hI.2.put hD rfl YK rfl⟩
         ·intro a w ux100 D hE hI hD hdc hp
          have d5 : D 5 = true:=hp 0 _ rfl rfl
          have g5:=hI.2 5 d5 _ rfl
          have f5 : ux100 5 = (vI s13.2.2.1):=g5.2
          have hM0:=hI.1
          have hM:=hI.1
          have hM:=hM.togA (pre:=[_,_]) (Bool.eq_false_iff.2 fun hx=>Bool.noConfusion (hD.symm.trans (hdc 22 _ _ rfl (List.mem_of_getElem? (i:=10) rfl) rfl hx)))
          exact Zg hE Za ld rfl (lk rfl f5) Try.underlying50 ZV hi101.1 fun a hE=>⟨_,_,rfl,hE,M.qKeep hM0 rfl,hI.2.put hD rfl YK rfl⟩
         ·intro a w ux100 D hE hI hD hdc hp
          have d6 : D 6 = true:=hp 1 _ rfl rfl
          have g6:=hI.2 6 d6 _ rfl
          have f6 : ux100 6 = (vI s95.2.2):=g6.2
          have d7 : D 7 = true:=hp 0 _ rfl rfl
          have g7:=hI.2 7 d7 _ rfl
          have f7 : ux100 7 = (ptr b1 (0 + (s13.2.2.1).toNat * 4)):=g7.2
          have hM0:=hI.1
          have hM:=hI.1
          have hM:=hM.togA (pre:=[_,_]) (Bool.eq_false_iff.2 fun hx=>Bool.noConfusion (hD.symm.trans (hdc 22 _ _ rfl (List.mem_of_getElem? (i:=11) rfl) rfl hx)))
          exact Zg hE Za ld (lk rfl f7) (lk rfl f6) Try.underlying42 ty5 hi104.1 fun a hE=>⟨_,_,rfl,hE,M.qKeep hM0 rfl,hI.2.put hD rfl YK rfl⟩
         ·intro a w ux100 D hE hI hD hdc hp
          have d8 : D 8 = true:=hp 0 _ rfl rfl
          have g8:=hI.2 8 d8 _ rfl
          have f8 : ux100 8 = (ptr b1 (0 + (s13.2.2.1).toNat * 4 + (s95.2.2).toNat * 1)):=g8.2
          have hM0:=hI.1
          have hM:=hI.1
          have hM:=hM.togA (pre:=[_,_]) (Bool.eq_false_iff.2 fun hx=>Bool.noConfusion (hD.symm.trans (hdc 22 _ _ rfl (List.mem_of_getElem? (i:=12) rfl) rfl hx)))
          exact Zu (v:=(vB x105)) hE Za ld (lk rfl f8) ty5 rfl (At.vec (At.vec (hM.rawAt (pre:=[_,_])) hi101.2) hi104.2) fun a hE=>⟨_,_,rfl,hE,M.qKeep hM0 rfl,hI.2.put hD rfl YK rfl⟩
         ·intro a w ux100 D hE hI hD hdc hp
          have hM0:=hI.1
          have hM:=hI.1
          have hM:=hM.togA (pre:=[_,_]) (Bool.eq_false_iff.2 fun hx=>Bool.noConfusion (hD.symm.trans (hdc 22 _ _ rfl (List.mem_of_getElem? (i:=13) rfl) rfl hx)))
          exact Zd hE Za ld rfl fun a hE=>⟨_,_,rfl,hE,M.qKeep hM0 rfl,hI.2.put hD rfl YK rfl⟩
         ·intro a w ux100 D hE hI hD hdc hp
          have d4 : D 4 = true:=hp 0 _ rfl rfl
          have g4:=hI.2 4 d4 _ rfl
          have f4 : ux100 4 = (vI p0):=g4.2
          have d9 : D 9 = true:=hp 1 _ rfl rfl
          have g9:=hI.2 9 d9 _ rfl
          have f9 : ux100 9 = (vB x105):=g9.2
          have d10 : D 10 = true:=hp 2 _ rfl rfl
          have g10:=hI.2 10 d10 _ rfl
          have f10 : ux100 10 = (vB r90):=g10.2
          have hM0:=hI.1
          have hM:=hI.1
          have hM:=hM.togA (pre:=[_,_]) (Bool.eq_false_iff.2 fun hx=>Bool.noConfusion (hD.symm.trans (hdc 22 _ _ rfl (List.mem_of_getElem? (i:=1) rfl) rfl hx)))
          refine Zv hE Za ld (YL (Ys (lk rfl f4) (Ys (lk rfl f9) (Ys (lk rfl f10) Ve)))) TX (Z5 _ p0 x105 r90 r107 e108) ?_
          rintro v w a ⟨rfl,hK⟩ hE
          exact ⟨_,_,rfl,hE,M.qKeep (hM0.keep hK) rfl,hI.2.put hD rfl YK rfl⟩
         ·intro a w ux100 D hE hI hD hdc hp
          have hM0:=hI.1
          exact Zd hE Za ld rfl fun a hE=>⟨_,_,rfl,hE,M.qKeep hM0 rfl,hI.2.put hD rfl YK rfl⟩
         ·intro a w ux100 D hE hI hD hdc hp
          have hM0:=hI.1
          exact Zd hE Za ld rfl fun a hE=>⟨_,_,rfl,hE,M.qKeep hM0 rfl,hI.2.put hD rfl YK rfl⟩
         ·intro a w ux100 D hE hI hD hdc hp
          have hM0:=hI.1
          exact Zd hE Za ld rfl fun a hE=>⟨_,_,rfl,hE,M.qKeep hM0 rfl,hI.2.put hD rfl YK rfl⟩
         ·intro a w ux100 D hE hI hD hdc hp
          have d13 : D 13 = true:=hp 0 _ rfl rfl
          have g13:=hI.2 13 d13 _ rfl
          have f13 : ux100 13 = (vI s13.2.2.1):=g13.2
          have hM0:=hI.1
          exact Zg hE Za ld rfl (lk rfl f13) Try.underlying50 ZV hi109.1 fun a hE=>⟨_,_,rfl,hE,M.qKeep hM0 rfl,hI.2.put hD rfl YK rfl⟩
         ·intro a w ux100 D hE hI hD hdc hp
          have d14 : D 14 = true:=hp 1 _ rfl rfl
          have g14:=hI.2 14 d14 _ rfl
          have f14 : ux100 14 = (vI s95.2.2):=g14.2
          have d15 : D 15 = true:=hp 0 _ rfl rfl
          have g15:=hI.2 15 d15 _ rfl
          have f15 : ux100 15 = (ptr b7 (0 + (s13.2.2.1).toNat * 4)):=g15.2
          have hM0:=hI.1
          exact Zg hE Za ld (lk rfl f15) (lk rfl f14) Try.underlying42 ty5 hi112.1 fun a hE=>⟨_,_,rfl,hE,M.qKeep hM0 rfl,hI.2.put hD rfl YK rfl⟩
         ·intro a w ux100 D hE hI hD hdc hp
          have d16 : D 16 = true:=hp 0 _ rfl rfl
          have g16:=hI.2 16 d16 _ rfl
          have f16 : ux100 16 = (ptr b7 (0 + (s13.2.2.1).toNat * 4 + (s95.2.2).toNat * 1)):=g16.2
          have hM0:=hI.1
          have hM:=hI.1
          exact Zu (v:=(vB x113)) hE Za ld (lk rfl f16) ty5 rfl (At.vec (At.vec (hM.rawAt (pre:=[])) hi109.2) hi112.2) fun a hE=>⟨_,_,rfl,hE,M.qKeep hM0 rfl,hI.2.put hD rfl YK rfl⟩
         ·intro a w ux100 D hE hI hD hdc hp
          have hM0:=hI.1
          exact Zd hE Za ld rfl fun a hE=>⟨_,_,rfl,hE,M.qKeep hM0 rfl,hI.2.put hD rfl YK rfl⟩
         ·intro a w ux100 D hE hI hD hdc hp
          have d12 : D 12 = true:=hp 0 _ rfl rfl
          have g12:=hI.2 12 d12 _ rfl
          have f12 : ux100 12 = (vI p0):=g12.2
          have d17 : D 17 = true:=hp 1 _ rfl rfl
          have g17:=hI.2 17 d17 _ rfl
          have f17 : ux100 17 = (vB x113):=g17.2
          have d18 : D 18 = true:=hp 2 _ rfl rfl
          have g18:=hI.2 18 d18 _ rfl
          have f18 : ux100 18 = (vB r90):=g18.2
          have hM0:=hI.1
          have hM:=hI.1
          have hM:=hM.togA (pre:=[_,_]) (Bool.eq_false_iff.2 fun hx=>Bool.noConfusion (hD.symm.trans (hdc 22 _ _ rfl (List.mem_of_getElem? (i:=2) rfl) rfl hx)))
          refine Zv hE Za ld (YL (Ys (lk rfl f12) (Ys (lk rfl f17) (Ys (lk rfl f18) Ve)))) TX (Z5 _ p0 x113 r90 r115 e116) ?_
          rintro v w a ⟨rfl,hK⟩ hE
          exact ⟨_,_,rfl,hE,M.qKeep (hM0.keep hK) rfl,hI.2.put hD rfl YK rfl⟩
         ·intro a w ux100 D hE hI hD hdc hp
          have d0 : D 0 = true:=hp 0 _ rfl rfl
          have g0:=hI.2 0 d0 _ rfl
          have f0 : ux100 0 = (vI s13.2.2.1):=g0.2
          have hM0:=hI.1
          exact Zg hE Za ld rfl (lk rfl f0) Try.underlying50 ZV hi117.1 fun a hE=>⟨_,_,rfl,hE,M.qKeep hM0 rfl,hI.2.put hD rfl YK rfl⟩
         ·intro a w ux100 D hE hI hD hdc hp
          have d1 : D 1 = true:=hp 1 _ rfl rfl
          have g1:=hI.2 1 d1 _ rfl
          have f1 : ux100 1 = (vI s95.2.2):=g1.2
          have d20 : D 20 = true:=hp 0 _ rfl rfl
          have g20:=hI.2 20 d20 _ rfl
          have f20 : ux100 20 = (ptr b1 (0 + (s13.2.2.1).toNat * 4)):=g20.2
          have hM0:=hI.1
          have hM:=hI.1
          have hM:=hM.togA (pre:=[_,_]) (Bool.eq_false_iff.2 fun hx=>Bool.noConfusion (hD.symm.trans (hdc 22 _ _ rfl (List.mem_of_getElem? (i:=0) rfl) rfl hx)))
          exact Zg hE Za ld (lk rfl f20) (lk rfl f1) Try.underlying42 ty5 hi120.1 fun a hE=>⟨_,_,rfl,hE,M.qKeep hM0 rfl,hI.2.put hD rfl YK rfl⟩
         ·intro a w ux100 D hE hI hD hdc hp
          have d11 : D 11 = true:=hp 1 _ rfl rfl
          have g11:=hI.2 11 d11 _ rfl
          have f11 : ux100 11 = (vB r107):=g11.2
          have d21 : D 21 = true:=hp 0 _ rfl rfl
          have g21:=hI.2 21 d21 _ rfl
          have f21 : ux100 21 = (ptr b1 (0 + (s13.2.2.1).toNat * 4 + (s95.2.2).toNat * 1)):=g21.2
          have hM0:=hI.1
          have hM:=(hI.1.togA (pre:=[_,_]) hD).pull (pre:=[_,_])
          exact Zm (seg:=[vB r107]) (cs':=enc (s95.1.setIfInBounds (s13.2.2.1).toNat (x118.setIfInBounds (s95.2.2).toNat r107))) hE hM Za (lk rfl f21) (lk rfl f11) rfl ty5 rfl (XM (o':=0 + (s95.2.2).toNat * 1) hi117 (ZE (v:=x118) (x:=r107) hi120.1) (by first | omega | (simp only [Flat.n] <;> omega))) (Flat.cell (r107 : UInt8)) (Yr (o':=0 + (s95.2.2).toNat * 1) hi117 (ZE (v:=x118) (x:=r107) hi120.1) (Zs (v:=x118) (x:=r107) hi120.1) (by first | omega | (simp only [Flat.n] <;> omega))) fun w a hM hE=>⟨undef,_,rfl,Env.dummy hE (by decide),M.qTog (mk1:=[]) (mk2:=[]) hM rfl,hI.2.put hD rfl YK trivial⟩
         ·intro a w ux100 D hE hI hD hdc hp
          have d2 : D 2 = true:=hp 0 _ rfl rfl
          have g2:=hI.2 2 d2 _ rfl
          have f2 : ux100 2 = (vI s13.2.2.1):=g2.2
          have hM0:=hI.1
          exact Zg hE Za ld rfl (lk rfl f2) Try.underlying50 ZV hi123.1 fun a hE=>⟨_,_,rfl,hE,M.qKeep hM0 rfl,hI.2.put hD rfl YK rfl⟩
         ·intro a w ux100 D hE hI hall
          have hM:=hI.1
          have d0 : D 0 = true:=hall 0 (by decide)
          have d1 : D 1 = true:=hall 1 (by decide)
          have d2 : D 2 = true:=hall 2 (by decide)
          have d3 : D 3 = true:=hall 3 (by decide)
          have d4 : D 4 = true:=hall 4 (by decide)
          have d5 : D 5 = true:=hall 5 (by decide)
          have d6 : D 6 = true:=hall 6 (by decide)
          have d7 : D 7 = true:=hall 7 (by decide)
          have d8 : D 8 = true:=hall 8 (by decide)
          have d9 : D 9 = true:=hall 9 (by decide)
          have d10 : D 10 = true:=hall 10 (by decide)
          have d11 : D 11 = true:=hall 11 (by decide)
          have d12 : D 12 = true:=hall 12 (by decide)
          have d13 : D 13 = true:=hall 13 (by decide)
          have d14 : D 14 = true:=hall 14 (by decide)
          have d15 : D 15 = true:=hall 15 (by decide)
          have d16 : D 16 = true:=hall 16 (by decide)
          have d17 : D 17 = true:=hall 17 (by decide)
          have d18 : D 18 = true:=hall 18 (by decide)
          have d19 : D 19 = true:=hall 19 (by decide)
          have d20 : D 20 = true:=hall 20 (by decide)
          have d21 : D 21 = true:=hall 21 (by decide)
          have d22 : D 22 = true:=hall 22 (by decide)
          have d23 : D 23 = true:=hall 23 (by decide)
          have f0 : ux100 0 = (vI s13.2.2.1):=(hI.2 0 d0 _ rfl).2
          have f1 : ux100 1 = (vI s95.2.2):=(hI.2 1 d1 _ rfl).2
          have f2 : ux100 2 = (vI s13.2.2.1):=(hI.2 2 d2 _ rfl).2
          have f3 : ux100 3 = (vI s95.2.2):=(hI.2 3 d3 _ rfl).2
          have f4 : ux100 4 = (vI p0):=(hI.2 4 d4 _ rfl).2
          have f5 : ux100 5 = (vI s13.2.2.1):=(hI.2 5 d5 _ rfl).2
          have f6 : ux100 6 = (vI s95.2.2):=(hI.2 6 d6 _ rfl).2
          have f7 : ux100 7 = (ptr b1 (0 + (s13.2.2.1).toNat * 4)):=(hI.2 7 d7 _ rfl).2
          have f8 : ux100 8 = (ptr b1 (0 + (s13.2.2.1).toNat * 4 + (s95.2.2).toNat * 1)):=(hI.2 8 d8 _ rfl).2
          have f9 : ux100 9 = (vB x105):=(hI.2 9 d9 _ rfl).2
          have f10 : ux100 10 = (vB r90):=(hI.2 10 d10 _ rfl).2
          have f11 : ux100 11 = (vB r107):=(hI.2 11 d11 _ rfl).2
          have f12 : ux100 12 = (vI p0):=(hI.2 12 d12 _ rfl).2
          have f13 : ux100 13 = (vI s13.2.2.1):=(hI.2 13 d13 _ rfl).2
          have f14 : ux100 14 = (vI s95.2.2):=(hI.2 14 d14 _ rfl).2
          have f15 : ux100 15 = (ptr b7 (0 + (s13.2.2.1).toNat * 4)):=(hI.2 15 d15 _ rfl).2
          have f16 : ux100 16 = (ptr b7 (0 + (s13.2.2.1).toNat * 4 + (s95.2.2).toNat * 1)):=(hI.2 16 d16 _ rfl).2
          have f17 : ux100 17 = (vB x113):=(hI.2 17 d17 _ rfl).2
          have f18 : ux100 18 = (vB r90):=(hI.2 18 d18 _ rfl).2
          have f19 : ux100 19 = (vB r115):=(hI.2 19 d19 _ rfl).2
          have f20 : ux100 20 = (ptr b1 (0 + (s13.2.2.1).toNat * 4)):=(hI.2 20 d20 _ rfl).2
          have f21 : ux100 21 = (ptr b1 (0 + (s13.2.2.1).toNat * 4 + (s95.2.2).toNat * 1)):=(hI.2 21 d21 _ rfl).2
          have f23 : ux100 23 = (ptr b7 (0 + (s13.2.2.1).toNat * 4)):=(hI.2 23 d23 _ rfl).2
          have hM:=hM.togB (pre:=[_,_]) d22
          have hE:=hE.sub (e':=[(76,vI s95.2.2),(92,vB r115),(95,(ptr b7 (0 + (s13.2.2.1).toNat * 4))),(0,vI p0),(3,(ptr b1 0)),(5,(ptr b3 0)),(6,(ptr b7 0)),(7,vB r82),(8,vI s13.2.2.1),(10,vB r90),(11,vI s95.2.2),(16,vI s13.2.2.1),(70,vI s95.2.2),(71,(vT (decide (s95.2.2 < 4)))),(72,vI s95.2.2)]) ⟨lk rfl f3,lk rfl f19,lk rfl f23,rfl,rfl,rfl,rfl,rfl,rfl,rfl,rfl,rfl,rfl,rfl,rfl,trivial⟩
          obtain ⟨x127,hi126,hs96⟩:=bvx hs96
          refine Zg hE Za ld rfl rfl Try.underlying42 ty5 hi126.1 fun a hE=>Zm (seg:=[vB r115]) (cs':=enc (s95.2.1.setIfInBounds (s13.2.2.1).toNat (x124.setIfInBounds (s95.2.2).toNat r115))) hE hM Za rfl rfl rfl ty5 rfl (XM (o':=0 + (s95.2.2).toNat * 1) hi123 (ZE (v:=x124) (x:=r115) hi126.1) (by first | omega | (simp only [Flat.n] <;> omega))) (Flat.cell (r115 : UInt8)) (Yr (o':=0 + (s95.2.2).toNat * 1) hi123 (ZE (v:=x124) (x:=r115) hi126.1) (Zs (v:=x124) (x:=r115) hi126.1) (by first | omega | (simp only [Flat.n] <;> omega))) fun w a hM hE=>Zj (Yg (Zy (wp_region_lit (Zi hE Za ld rfl rfl rfl fun a hE=>Zd hE Za ld rfl fun a hE=>Zj (Zk ?_)))))
          exact ⟨_,(ois hs96),hE.sub ⟨rfl,rfl,rfl,rfl,rfl,rfl,rfl,rfl,rfl,trivial⟩,hM⟩
        ·intro hb99
         have hs96:=ZA hs96 hb99
         refine wp_exit (Zo (Zo (Yt ?_)))
         have ht129:=hx97 _ (ois hs96)
         subst ht129
         refine Zk ?_
         exact ⟨hE.sub ⟨rfl,rfl,rfl,rfl,rfl,rfl,rfl,trivial⟩,hM⟩
       ·skip
        rintro a w ⟨hE,hM⟩
        refine Zy (Zc (Zd hE Za ld rfl fun a hE=>Zf ?_))
        obtain ⟨j130,hl131,hF132⟩:=bind_some hF94
        refine ZU (fun a w=>Env 153 a [(0,vI p0),(3,(ptr b1 0)),(5,(ptr b3 0)),(6,(ptr b7 0)),(7,vB r82),(16,vI s13.2.2.1)] ∧ M (Old w0) w0 w [raw b7 (enc j130.2),raw b3 (enc (Vector.replicate 4 (Vector.replicate 4 (0 : UInt8)))),raw b1 (enc j130.1)]) ?_ ?_
        ·skip
         refine wp_block ?_
         refine ZG (fun (s133 : (Vector (Vector UInt8 4) 4) × (Vector (Vector UInt8 4) 4) × Int) a w=>Env 153 a [(0,vI p0),(3,(ptr b1 0)),(5,(ptr b3 0)),(6,(ptr b7 0)),(7,vB r82),(8,vI s13.2.2.1),(16,vI s13.2.2.1),(98,vI s133.2.2)] ∧ M (Old w0) w0 w [raw b7 (enc s133.2.1),raw b3 (enc (Vector.replicate 4 (Vector.replicate 4 (0 : UInt8)))),raw b1 (enc s133.1)]) hl131 ⟨hE.sub ⟨rfl,rfl,rfl,rfl,rfl,rfl,rfl,rfl,trivial⟩,hM⟩ ?_
         rintro s133 a w ⟨hE,hM⟩ o136 hs134 hx135
         unfold YM at hs134
         refine Zc (Zi hE Za ld rfl rfl rfl fun a hE=>Zf (wp_seq ?_))
         refine Zw hE rfl ?_ ?_
         ·intro hb137
          have hs134:=Zz hs134 hb137
          refine wp_skip (Zy ?_)
          obtain ⟨j138,hl139,hF140⟩:=bind_some hs134
          refine ZQ (fun a w=>Env 153 a [(0,vI p0),(3,(ptr b1 0)),(5,(ptr b3 0)),(6,(ptr b7 0)),(7,vB r82),(8,vI s13.2.2.1),(16,vI s13.2.2.1),(98,vI s133.2.2)] ∧ M (Old w0) w0 w [raw b7 (enc j138.2),raw b3 (enc (Vector.replicate 4 (Vector.replicate 4 (0 : UInt8)))),raw b1 (enc j138.1)]) ?_ ?_
          ·skip
           refine wp_block (Zc (Zd hE Za ld rfl fun a hE=>Ze hE Za ld rfl fun a hE=>Zf (Zc (Zd hE Za ld rfl fun a hE=>Zd hE Za ld rfl ?_)))); intro a hE
           obtain ⟨x142,hi141,hl139⟩:=bvx hl139
           refine Zg hE Za ld rfl rfl Try.underlying50 ZV hi141.1 ?_; intro a hE
           obtain ⟨x145,hi144,hl139⟩:=bvx hl139
           refine Zg hE Za ld rfl rfl Try.underlying42 ty5 hi144.1 fun a hE=>Zu (v:=(vB x145)) hE Za ld rfl ty5 rfl (At.vec (At.vec (hM.rawAt (pre:=[_,_])) hi141.2) hi144.2) fun a hE=>Ze hE Za ld rfl fun a hE=>Zf ?_
           obtain ⟨j147,hl148,hF149⟩:=bind_some hl139
           refine ZQ (fun a w=>Env 153 a [(0,vI p0),(3,(ptr b1 0)),(5,(ptr b3 0)),(6,(ptr b7 0)),(7,vB r82),(8,vI s13.2.2.1),(12,vI s133.2.2),(13,vB x145),(16,vI s13.2.2.1),(98,vI s133.2.2),(112,vT j147)] ∧ M (Old w0) w0 w [raw b7 (enc s133.2.1),raw b3 (enc (Vector.replicate 4 (Vector.replicate 4 (0 : UInt8)))),raw b1 (enc s133.1)]) ?_ ?_
           ·skip
            refine wp_region_lit (Zd hE Za ld rfl fun a hE=>Zd hE Za ld rfl fun a hE=>Zi hE Za ld rfl rfl rfl fun a hE=>Zd hE Za ld rfl ?_); intro a hE
            refine WF (s133.2.2 != s13.2.2.1) (fun hb150=>?_) (fun hb150=>?_)
            ·have hl148:=Zz hl148 hb150
             refine Zd hE (Zt hE rfl (lkb rfl hb150)) (by decide) rfl fun a hE=>Zi hE (Zt hE rfl (lkb rfl hb150)) (by decide) rfl rfl (JG x145 0) fun a hE=>YO hE Za ld (lkb rfl hb150) rfl fun a hE=>Zj ?_
             have ht151:=Option.some.inj hl148
             subst ht151
             refine Zk ?_
             exact ⟨hE.sub ⟨rfl,rfl,rfl,rfl,rfl,rfl,rfl,rfl,rfl,rfl,rfl,trivial⟩,hM⟩
            ·have hl148:=ZA hl148 hb150
             refine Zr hE rfl (lkb rfl hb150) rfl (by decide) fun a hE=>Zr hE rfl (lkb rfl hb150) rfl (by decide) fun a hE=>Yu hE Za ld (lkb rfl hb150) rfl fun a hE=>Zj ?_
             have ht152:=Option.some.inj hl148
             subst ht152
             refine Zk ?_
             exact ⟨hE.sub ⟨rfl,rfl,rfl,rfl,rfl,rfl,rfl,rfl,rfl,rfl,rfl,trivial⟩,hM⟩
           ·skip
            rintro a w ⟨hE,hM⟩
            obtain ⟨j153,hl154,hF155⟩:=bind_some hF149
            refine ZU (fun a w=>Env 153 a [(0,vI p0),(3,(ptr b1 0)),(5,(ptr b3 0)),(6,(ptr b7 0)),(7,vB r82),(8,vI s13.2.2.1),(16,vI s13.2.2.1),(98,vI s133.2.2)] ∧ M (Old w0) w0 w [raw b7 (enc j153.2),raw b3 (enc (Vector.replicate 4 (Vector.replicate 4 (0 : UInt8)))),raw b1 (enc j153.1)]) ?_ ?_
            ·skip
             refine Zw hE rfl ?_ ?_
             ·intro hb156
              have hl154:=Zz hl154 hb156
              refine Zc (Zd hE Za ld rfl fun a hE=>Zf ?_)
              obtain ⟨j157,hl158,hF159⟩:=bind_some hl154
              refine ZU (fun a w=>Env 153 a [(0,vI p0),(3,(ptr b1 0)),(5,(ptr b3 0)),(6,(ptr b7 0)),(7,vB r82),(8,vI s13.2.2.1),(16,vI s13.2.2.1),(98,vI s133.2.2)] ∧ M (Old w0) w0 w [raw b7 (enc j157.2),raw b3 (enc (Vector.replicate 4 (Vector.replicate 4 (0 : UInt8)))),raw b1 (enc j157.1)]) ?_ ?_
              ·skip
               refine wp_block ?_
               refine ZG (fun (s160 : (Vector (Vector UInt8 4) 4) × (Vector (Vector UInt8 4) 4) × Int) a w=>Env 153 a [(0,vI p0),(3,(ptr b1 0)),(5,(ptr b3 0)),(6,(ptr b7 0)),(7,vB r82),(8,vI s13.2.2.1),(12,vI s133.2.2),(13,vB x145),(16,vI s13.2.2.1),(98,vI s133.2.2),(113,vI s160.2.2)] ∧ M (Old w0) w0 w [raw b7 (enc s160.2.1),raw b3 (enc (Vector.replicate 4 (Vector.replicate 4 (0 : UInt8)))),raw b1 (enc s160.1)]) hl158 ⟨hE.sub ⟨rfl,rfl,rfl,rfl,rfl,rfl,rfl,rfl,rfl,rfl,rfl,trivial⟩,hM⟩ ?_
               rintro s160 a w ⟨hE,hM⟩ o163 hs161 hx162
               unfold YG at hs161
               refine Zc (Zi hE Za ld rfl rfl rfl fun a hE=>Zf (wp_seq ?_))
               refine Zw hE rfl ?_ ?_
               ·intro hb164
                have hs161:=Zz hs161 hb164
                refine wp_skip (Zy (wp_seq (wp_block (Zc (Zd hE Za ld rfl fun a hE=>Ze hE Za ld rfl fun a hE=>Zf ?_)))))
                obtain ⟨j165,hl166,hF167⟩:=bind_some hs161
                refine ZQ (fun a w=>Env 153 a [(0,vI p0),(3,(ptr b1 0)),(5,(ptr b3 0)),(6,(ptr b7 0)),(7,vB r82),(8,vI s13.2.2.1),(12,vI s133.2.2),(13,vB x145),(14,vI s160.2.2),(16,vI s13.2.2.1),(98,vI s133.2.2),(113,vI s160.2.2)] ∧ M (Old w0) w0 w [raw b7 (enc s160.2.1),raw b3 (enc (Vector.replicate 4 (Vector.replicate 4 (0 : UInt8)))),raw b1 (enc j165)]) ?_ ?_
                ·skip
                 obtain ⟨x170,hi169,hl166⟩:=bvx hl166
                 obtain ⟨x173,hi172,hl166⟩:=bvx hl166
                 obtain ⟨x176,hi175,hl166⟩:=bvx hl166
                 obtain ⟨x179,hi178,hl166⟩:=bvx hl166
                 obtain ⟨r181,e182,hl166⟩:=bind_some hl166
                 obtain ⟨x184,hi183,hl166⟩:=bvx hl166
                 obtain ⟨x187,hi186,hl166⟩:=bvx hl166
                 refine YA (n:=153) (hd:=[_,_,_,_,_,_,_,_,_,_,_,_,_,_,_,_]) (tl:=[_]) Wa rfl rfl [116,117,118,119,120,121,122,123,124,125,126,127,128,129,130,131] (by decide) (fun w=>M (Old w0) w0 w [raw b7 (enc s160.2.1),raw b3 (enc (Vector.replicate 4 (Vector.replicate 4 (0 : UInt8)))),raw b1 (enc s160.1)]) (fun j=>([fun v _=>v = (vI s133.2.2),fun v _=>v = (vI s160.2.2),fun v _=>v = (ptr b1 (0 + (s133.2.2).toNat * 4)),fun v _=>v = (ptr b1 (0 + (s133.2.2).toNat * 4 + (s160.2.2).toNat * 1)),fun v _=>v = (vB x173),fun v _=>v = (vI p0),fun v _=>v = (vB x145),fun v _=>v = (vI s13.2.2.1),fun v _=>v = (vI s160.2.2),fun v _=>v = (ptr b1 (0 + (s13.2.2.1).toNat * 4)),fun v _=>v = (ptr b1 (0 + (s13.2.2.1).toNat * 4 + (s160.2.2).toNat * 1)),fun v _=>v = (vB x179),fun v _=>v = (vB r181),fun v _=>v = (vB (x173 ^^^ r181)),fun v _=>v = (ptr b1 (0 + (s133.2.2).toNat * 4)),fun v _=>v = (ptr b1 (0 + (s133.2.2).toNat * 4 + (s160.2.2).toNat * 1))] : List (Value → World → Prop)).getD j (fun _ _=>True)) (fun _ _ h hk=>h.keep hk) (gup (Zh (Zh (Zh (Zh (Zh (Zh (Zh (Zh (Zh (Zh (Zh (Zh (Zh (Zh (Zh (Zh W9))))))))))))))))) hE hM.drew (ZP (Zb ?_ (Zb ?_ (Zb ?_ (Zb ?_ (Zb ?_ (Zb ?_ (Zb ?_ (Zb ?_ (Zb ?_ (Zb ?_ (Zb ?_ (Zb ?_ (Zb ?_ (Zb ?_ (Zb ?_ (Zb ?_ ZK))))))))))))))))) ?_
                 ·exact fun a w ux168 hE hM hp=>Zd hE Za ld rfl fun a hE=>⟨Kept.refl _ _,_,_,rfl,hE,rfl⟩
                 ·exact fun a w ux168 hE hM hp=>Zd hE Za ld rfl fun a hE=>⟨Kept.refl _ _,_,_,rfl,hE,rfl⟩
                 ·intro a w ux168 hE hM hp
                  have f0 : ux168 0 = (vI s133.2.2):=hp 0 _ rfl rfl
                  exact Zg hE Za ld rfl (lk rfl f0) Try.underlying50 ZV hi169.1 fun a hE=>⟨Kept.refl _ _,_,_,rfl,hE,rfl⟩
                 ·intro a w ux168 hE hM hp
                  have f1 : ux168 1 = (vI s160.2.2):=hp 1 _ rfl rfl
                  have f2 : ux168 2 = (ptr b1 (0 + (s133.2.2).toNat * 4)):=hp 0 _ rfl rfl
                  exact Zg hE Za ld (lk rfl f2) (lk rfl f1) Try.underlying42 ty5 hi172.1 fun a hE=>⟨Kept.refl _ _,_,_,rfl,hE,rfl⟩
                 ·intro a w ux168 hE hM hp
                  have f3 : ux168 3 = (ptr b1 (0 + (s133.2.2).toNat * 4 + (s160.2.2).toNat * 1)):=hp 0 _ rfl rfl
                  exact Zu (v:=(vB x173)) hE Za ld (lk rfl f3) ty5 rfl (At.vec (At.vec (hM.rawAt (pre:=[_,_])) hi169.2) hi172.2) fun a hE=>⟨Kept.refl _ _,_,_,rfl,hE,rfl⟩
                 ·exact fun a w ux168 hE hM hp=>Zd hE Za ld rfl fun a hE=>⟨Kept.refl _ _,_,_,rfl,hE,rfl⟩
                 ·exact fun a w ux168 hE hM hp=>Zd hE Za ld rfl fun a hE=>⟨Kept.refl _ _,_,_,rfl,hE,rfl⟩
                 ·exact fun a w ux168 hE hM hp=>Zd hE Za ld rfl fun a hE=>⟨Kept.refl _ _,_,_,rfl,hE,rfl⟩
                 ·exact fun a w ux168 hE hM hp=>Zd hE Za ld rfl fun a hE=>⟨Kept.refl _ _,_,_,rfl,hE,rfl⟩
                 ·intro a w ux168 hE hM hp
                  have f7 : ux168 7 = (vI s13.2.2.1):=hp 0 _ rfl rfl
                  exact Zg hE Za ld rfl (lk rfl f7) Try.underlying50 ZV hi175.1 fun a hE=>⟨Kept.refl _ _,_,_,rfl,hE,rfl⟩
                 ·intro a w ux168 hE hM hp
                  have f8 : ux168 8 = (vI s160.2.2):=hp 1 _ rfl rfl
                  have f9 : ux168 9 = (ptr b1 (0 + (s13.2.2.1).toNat * 4)):=hp 0 _ rfl rfl
                  exact Zg hE Za ld (lk rfl f9) (lk rfl f8) Try.underlying42 ty5 hi178.1 fun a hE=>⟨Kept.refl _ _,_,_,rfl,hE,rfl⟩
                 ·intro a w ux168 hE hM hp
                  have f10 : ux168 10 = (ptr b1 (0 + (s13.2.2.1).toNat * 4 + (s160.2.2).toNat * 1)):=hp 0 _ rfl rfl
                  exact Zu (v:=(vB x179)) hE Za ld (lk rfl f10) ty5 rfl (At.vec (At.vec (hM.rawAt (pre:=[_,_])) hi175.2) hi178.2) fun a hE=>⟨Kept.refl _ _,_,_,rfl,hE,rfl⟩
                 ·intro a w ux168 hE hM hp
                  have f5 : ux168 5 = (vI p0):=hp 0 _ rfl rfl
                  have f6 : ux168 6 = (vB x145):=hp 1 _ rfl rfl
                  have f11 : ux168 11 = (vB x179):=hp 2 _ rfl rfl
                  refine Zv hE Za ld (YL (Ys (lk rfl f5) (Ys (lk rfl f6) (Ys (lk rfl f11) Ve)))) TX (Z5 _ p0 x145 x179 r181 e182) ?_
                  rintro v w a ⟨rfl,hK⟩ hE
                  exact ⟨hK,_,_,rfl,hE,rfl⟩
                 ·intro a w ux168 hE hM hp
                  have f4 : ux168 4 = (vB x173):=hp 0 _ rfl rfl
                  have f12 : ux168 12 = (vB r181):=hp 1 _ rfl rfl
                  exact Zi hE Za ld (lk rfl f4) (lk rfl f12) (WE x173 r181) fun a hE=>⟨Kept.refl _ _,_,_,rfl,hE,rfl⟩
                 ·intro a w ux168 hE hM hp
                  have f0 : ux168 0 = (vI s133.2.2):=hp 0 _ rfl rfl
                  exact Zg hE Za ld rfl (lk rfl f0) Try.underlying50 ZV hi183.1 fun a hE=>⟨Kept.refl _ _,_,_,rfl,hE,rfl⟩
                 ·intro a w ux168 hE hM hp
                  have f1 : ux168 1 = (vI s160.2.2):=hp 1 _ rfl rfl
                  have f14 : ux168 14 = (ptr b1 (0 + (s133.2.2).toNat * 4)):=hp 0 _ rfl rfl
                  exact Zg hE Za ld (lk rfl f14) (lk rfl f1) Try.underlying42 ty5 hi186.1 fun a hE=>⟨Kept.refl _ _,_,_,rfl,hE,rfl⟩
                 ·intro a w ux168 hE hM hg
                  have hE:=hE.sub (e':=[(129,(vB (x173 ^^^ r181))),(131,(ptr b1 (0 + (s133.2.2).toNat * 4 + (s160.2.2).toNat * 1))),(0,vI p0),(3,(ptr b1 0)),(5,(ptr b3 0)),(6,(ptr b7 0)),(7,vB r82),(8,vI s13.2.2.1),(12,vI s133.2.2),(13,vB x145),(14,vI s160.2.2),(16,vI s13.2.2.1),(98,vI s133.2.2),(113,vI s160.2.2),(114,(vT (decide (s160.2.2 < 4)))),(115,vI s160.2.2)]) ⟨lk rfl (hg 13 (by decide)),lk rfl (hg 15 (by decide)),rfl,rfl,rfl,rfl,rfl,rfl,rfl,rfl,rfl,rfl,rfl,rfl,rfl,rfl,trivial⟩
                  have hM:=hM.pull (pre:=[_,_])
                  refine Zm (seg:=[(vB (x173 ^^^ r181))]) (cs':=enc (s160.1.setIfInBounds (s133.2.2).toNat (x184.setIfInBounds (s160.2.2).toNat (x173 ^^^ r181)))) hE hM Za rfl rfl rfl ty5 rfl (XM (o':=0 + (s160.2.2).toNat * 1) hi183 (ZE (v:=x184) (x:=x173 ^^^ r181) hi186.1) (by first | omega | (simp only [Flat.n] <;> omega))) (Flat.cell (x173 ^^^ r181 : UInt8)) (Yr (o':=0 + (s160.2.2).toNat * 1) hi183 (ZE (v:=x184) (x:=x173 ^^^ r181) hi186.1) (Zs (v:=x184) (x:=x173 ^^^ r181) hi186.1) (by first | omega | (simp only [Flat.n] <;> omega))) fun w a hM hE=>Zj ?_
                  have ht189:=Option.some.inj hl166
                  subst ht189
                  refine Zk ?_
                  have hM:=(hM.pull (pre:=[_,_])).pull (pre:=[_,_])
                  exact ⟨hE.sub ⟨rfl,rfl,rfl,rfl,rfl,rfl,rfl,rfl,rfl,rfl,rfl,rfl,trivial⟩,hM⟩
                ·skip
                 rintro a w ⟨hE,hM⟩
                 obtain ⟨x192,hi191,hF167⟩:=bvx hF167
                 obtain ⟨x195,hi194,hF167⟩:=bvx hF167
                 obtain ⟨x198,hi197,hF167⟩:=bvx hF167
                 obtain ⟨x201,hi200,hF167⟩:=bvx hF167
                 obtain ⟨r203,e204,hF167⟩:=bind_some hF167
                 obtain ⟨x206,hi205,hF167⟩:=bvx hF167
                 obtain ⟨x209,hi208,hF167⟩:=bvx hF167
                 refine YA (n:=153) (hd:=[_,_,_,_,_,_,_,_,_,_,_,_,_,_,_,_]) (tl:=[_]) Wa rfl rfl [132,133,134,135,136,137,138,139,140,141,142,143,144,145,146,147] (by decide) (fun w=>M (Old w0) w0 w [raw b7 (enc s160.2.1),raw b3 (enc (Vector.replicate 4 (Vector.replicate 4 (0 : UInt8)))),raw b1 (enc j165)]) (fun j=>([fun v _=>v = (vI s133.2.2),fun v _=>v = (vI s160.2.2),fun v _=>v = (ptr b7 (0 + (s133.2.2).toNat * 4)),fun v _=>v = (ptr b7 (0 + (s133.2.2).toNat * 4 + (s160.2.2).toNat * 1)),fun v _=>v = (vB x195),fun v _=>v = (vI p0),fun v _=>v = (vB x145),fun v _=>v = (vI s13.2.2.1),fun v _=>v = (vI s160.2.2),fun v _=>v = (ptr b7 (0 + (s13.2.2.1).toNat * 4)),fun v _=>v = (ptr b7 (0 + (s13.2.2.1).toNat * 4 + (s160.2.2).toNat * 1)),fun v _=>v = (vB x201),fun v _=>v = (vB r203),fun v _=>v = (vB (x195 ^^^ r203)),fun v _=>v = (ptr b7 (0 + (s133.2.2).toNat * 4)),fun v _=>v = (ptr b7 (0 + (s133.2.2).toNat * 4 + (s160.2.2).toNat * 1))] : List (Value → World → Prop)).getD j (fun _ _=>True)) (fun _ _ h hk=>h.keep hk) (gup (Zh (Zh (Zh (Zh (Zh (Zh (Zh (Zh (Zh (Zh (Zh (Zh (Zh (Zh (Zh (Zh W9))))))))))))))))) hE hM.drew (ZP (Zb ?_ (Zb ?_ (Zb ?_ (Zb ?_ (Zb ?_ (Zb ?_ (Zb ?_ (Zb ?_ (Zb ?_ (Zb ?_ (Zb ?_ (Zb ?_ (Zb ?_ (Zb ?_ (Zb ?_ (Zb ?_ ZK))))))))))))))))) ?_
                 ·exact fun a w ux190 hE hM hp=>Zd hE Za ld rfl fun a hE=>⟨Kept.refl _ _,_,_,rfl,hE,rfl⟩
                 ·exact fun a w ux190 hE hM hp=>Zd hE Za ld rfl fun a hE=>⟨Kept.refl _ _,_,_,rfl,hE,rfl⟩
                 ·intro a w ux190 hE hM hp
                  have f0 : ux190 0 = (vI s133.2.2):=hp 0 _ rfl rfl
                  exact Zg hE Za ld rfl (lk rfl f0) Try.underlying50 ZV hi191.1 fun a hE=>⟨Kept.refl _ _,_,_,rfl,hE,rfl⟩
                 ·intro a w ux190 hE hM hp
                  have f1 : ux190 1 = (vI s160.2.2):=hp 1 _ rfl rfl
                  have f2 : ux190 2 = (ptr b7 (0 + (s133.2.2).toNat * 4)):=hp 0 _ rfl rfl
                  exact Zg hE Za ld (lk rfl f2) (lk rfl f1) Try.underlying42 ty5 hi194.1 fun a hE=>⟨Kept.refl _ _,_,_,rfl,hE,rfl⟩
                 ·intro a w ux190 hE hM hp
                  have f3 : ux190 3 = (ptr b7 (0 + (s133.2.2).toNat * 4 + (s160.2.2).toNat * 1)):=hp 0 _ rfl rfl
                  exact Zu (v:=(vB x195)) hE Za ld (lk rfl f3) ty5 rfl (At.vec (At.vec (hM.rawAt (pre:=[])) hi191.2) hi194.2) fun a hE=>⟨Kept.refl _ _,_,_,rfl,hE,rfl⟩
                 ·exact fun a w ux190 hE hM hp=>Zd hE Za ld rfl fun a hE=>⟨Kept.refl _ _,_,_,rfl,hE,rfl⟩
                 ·exact fun a w ux190 hE hM hp=>Zd hE Za ld rfl fun a hE=>⟨Kept.refl _ _,_,_,rfl,hE,rfl⟩
                 ·exact fun a w ux190 hE hM hp=>Zd hE Za ld rfl fun a hE=>⟨Kept.refl _ _,_,_,rfl,hE,rfl⟩
                 ·exact fun a w ux190 hE hM hp=>Zd hE Za ld rfl fun a hE=>⟨Kept.refl _ _,_,_,rfl,hE,rfl⟩
                 ·intro a w ux190 hE hM hp
                  have f7 : ux190 7 = (vI s13.2.2.1):=hp 0 _ rfl rfl
                  exact Zg hE Za ld rfl (lk rfl f7) Try.underlying50 ZV hi197.1 fun a hE=>⟨Kept.refl _ _,_,_,rfl,hE,rfl⟩
                 ·intro a w ux190 hE hM hp
                  have f8 : ux190 8 = (vI s160.2.2):=hp 1 _ rfl rfl
                  have f9 : ux190 9 = (ptr b7 (0 + (s13.2.2.1).toNat * 4)):=hp 0 _ rfl rfl
                  exact Zg hE Za ld (lk rfl f9) (lk rfl f8) Try.underlying42 ty5 hi200.1 fun a hE=>⟨Kept.refl _ _,_,_,rfl,hE,rfl⟩
                 ·intro a w ux190 hE hM hp
                  have f10 : ux190 10 = (ptr b7 (0 + (s13.2.2.1).toNat * 4 + (s160.2.2).toNat * 1)):=hp 0 _ rfl rfl
                  exact Zu (v:=(vB x201)) hE Za ld (lk rfl f10) ty5 rfl (At.vec (At.vec (hM.rawAt (pre:=[])) hi197.2) hi200.2) fun a hE=>⟨Kept.refl _ _,_,_,rfl,hE,rfl⟩
                 ·intro a w ux190 hE hM hp
                  have f5 : ux190 5 = (vI p0):=hp 0 _ rfl rfl
                  have f6 : ux190 6 = (vB x145):=hp 1 _ rfl rfl
                  have f11 : ux190 11 = (vB x201):=hp 2 _ rfl rfl
                  refine Zv hE Za ld (YL (Ys (lk rfl f5) (Ys (lk rfl f6) (Ys (lk rfl f11) Ve)))) TX (Z5 _ p0 x145 x201 r203 e204) ?_
                  rintro v w a ⟨rfl,hK⟩ hE
                  exact ⟨hK,_,_,rfl,hE,rfl⟩
                 ·intro a w ux190 hE hM hp
                  have f4 : ux190 4 = (vB x195):=hp 0 _ rfl rfl
                  have f12 : ux190 12 = (vB r203):=hp 1 _ rfl rfl
                  exact Zi hE Za ld (lk rfl f4) (lk rfl f12) (WE x195 r203) fun a hE=>⟨Kept.refl _ _,_,_,rfl,hE,rfl⟩
                 ·intro a w ux190 hE hM hp
                  have f0 : ux190 0 = (vI s133.2.2):=hp 0 _ rfl rfl
                  exact Zg hE Za ld rfl (lk rfl f0) Try.underlying50 ZV hi205.1 fun a hE=>⟨Kept.refl _ _,_,_,rfl,hE,rfl⟩
                 ·intro a w ux190 hE hM hp
                  have f1 : ux190 1 = (vI s160.2.2):=hp 1 _ rfl rfl
                  have f14 : ux190 14 = (ptr b7 (0 + (s133.2.2).toNat * 4)):=hp 0 _ rfl rfl
                  exact Zg hE Za ld (lk rfl f14) (lk rfl f1) Try.underlying42 ty5 hi208.1 fun a hE=>⟨Kept.refl _ _,_,_,rfl,hE,rfl⟩
                 ·intro a w ux190 hE hM hg
                  have hE:=hE.sub (e':=[(145,(vB (x195 ^^^ r203))),(147,(ptr b7 (0 + (s133.2.2).toNat * 4 + (s160.2.2).toNat * 1))),(0,vI p0),(3,(ptr b1 0)),(5,(ptr b3 0)),(6,(ptr b7 0)),(7,vB r82),(8,vI s13.2.2.1),(12,vI s133.2.2),(13,vB x145),(14,vI s160.2.2),(16,vI s13.2.2.1),(98,vI s133.2.2),(113,vI s160.2.2)]) ⟨lk rfl (hg 13 (by decide)),lk rfl (hg 15 (by decide)),rfl,rfl,rfl,rfl,rfl,rfl,rfl,rfl,rfl,rfl,rfl,rfl,trivial⟩
                  refine Zm (seg:=[(vB (x195 ^^^ r203))]) (cs':=enc (s160.2.1.setIfInBounds (s133.2.2).toNat (x206.setIfInBounds (s160.2.2).toNat (x195 ^^^ r203)))) hE hM Za rfl rfl rfl ty5 rfl (XM (o':=0 + (s160.2.2).toNat * 1) hi205 (ZE (v:=x206) (x:=x195 ^^^ r203) hi208.1) (by first | omega | (simp only [Flat.n] <;> omega))) (Flat.cell (x195 ^^^ r203 : UInt8)) (Yr (o':=0 + (s160.2.2).toNat * 1) hi205 (ZE (v:=x206) (x:=x195 ^^^ r203) hi208.1) (Zs (v:=x206) (x:=x195 ^^^ r203) hi208.1) (by first | omega | (simp only [Flat.n] <;> omega))) fun w a hM hE=>Zj (Yg (Zy (wp_region_lit (Zi hE Za ld rfl rfl rfl fun a hE=>Zd hE Za ld rfl fun a hE=>Zj (Zk ?_)))))
                  exact ⟨_,(ois hF167),hE.sub ⟨rfl,rfl,rfl,rfl,rfl,rfl,rfl,rfl,rfl,rfl,rfl,trivial⟩,hM⟩
               ·intro hb164
                have hs161:=ZA hs161 hb164
                refine wp_exit (Zo (Zo (Yt ?_)))
                have ht211:=hx162 _ (ois hs161)
                subst ht211
                refine Zk ?_
                exact ⟨hE.sub ⟨rfl,rfl,rfl,rfl,rfl,rfl,rfl,rfl,trivial⟩,hM⟩
              ·skip
               rintro a w ⟨hE,hM⟩
               have ht212:=Option.some.inj hF159
               subst ht212
               refine Zk ?_
               exact ⟨hE.sub ⟨rfl,rfl,rfl,rfl,rfl,rfl,rfl,rfl,trivial⟩,hM⟩
             ·intro hb156
              have hl154:=ZA hl154 hb156
              refine wp_skip ?_
              have ht213:=Option.some.inj hl154
              subst ht213
              refine Zk ?_
              exact ⟨hE.sub ⟨rfl,rfl,rfl,rfl,rfl,rfl,rfl,rfl,trivial⟩,hM⟩
            ·skip
             rintro a w ⟨hE,hM⟩
             refine Yg ?_
             have ht214:=Option.some.inj hF155
             subst ht214
             refine Zk ?_
             exact ⟨hE.sub ⟨rfl,rfl,rfl,rfl,rfl,rfl,rfl,rfl,trivial⟩,hM⟩
          ·skip
           rintro a w ⟨hE,hM⟩
           refine wp_region_lit (Zi hE Za ld rfl rfl rfl fun a hE=>Zd hE Za ld rfl fun a hE=>Zj (Zk ?_))
           exact ⟨_,(ois hF140),hE.sub ⟨rfl,rfl,rfl,rfl,rfl,rfl,rfl,rfl,trivial⟩,hM⟩
         ·intro hb137
          have hs134:=ZA hs134 hb137
          refine wp_exit (Zo (Zo (Yt ?_)))
          have ht215:=hx135 _ (ois hs134)
          subst ht215
          refine Zk ?_
          exact ⟨hE.sub ⟨rfl,rfl,rfl,rfl,rfl,rfl,trivial⟩,hM⟩
        ·skip
         rintro a w ⟨hE,hM⟩
         refine Yg (Zy (wp_region_lit (Zi hE Za ld rfl rfl rfl fun a hE=>Zd hE Za ld rfl fun a hE=>Zj (Zk ?_))))
         exact ⟨_,(ois hF132),hE.sub ⟨rfl,rfl,rfl,rfl,rfl,rfl,trivial⟩,hM⟩
  ·intro hb17
   have hs14:=ZA hs14 hb17
   refine wp_exit (Zo (Zo (Yt ?_)))
   have ht216:=hx15 _ (ois hs14)
   subst ht216
   refine Zk ?_
   have hM:=M.fst (l:=[_,_]) ((hM.pull (pre:=[_])).pull (pre:=[_]))
   exact ⟨(s13.2.1,s13.2.2.2),rfl,hE.sub ⟨rfl,rfl,rfl,trivial⟩,hM⟩
 ·skip
  rintro a w ⟨s12,ht,hE,hM⟩
  subst ht
  have hF11:=UK hF11
  refine Zy ?_
  obtain ⟨j217,hl218,hF219⟩:=bind_some hF11
  refine ZQ (fun a w=>Env 153 a [(4,vB j217.2),(5,(ptr b3 0))] ∧ M (Old w0) w0 w [raw b3 (enc j217.1)]) ?_ ?_
  ·skip
   refine YA (n:=153) (hd:=[_,_,_]) (tl:=[_]) Wa rfl rfl [151,152,4] (by decide) (fun w=>M (Old w0) w0 w [raw b7 (enc s12.1),raw b3 (enc (Vector.replicate 4 (Vector.replicate 4 (0 : UInt8))))]) (fun j=>([fun v _=>v = (vB s12.2),fun v _=>v = (Value.agg (enc s12.1).toArray),fun v _=>v = (vB s12.2)] : List (Value → World → Prop)).getD j (fun _ _=>True)) (fun _ _ h hk=>h.keep hk) (gup (Zh (Zh (Zh W9)))) hE hM.drew (ZP (Zb ?_ (Zb ?_ (Zb ?_ ZK)))) ?_
   ·exact fun a w ux220 hE hM hp=>Zd hE Za ld rfl fun a hE=>⟨Kept.refl _ _,_,_,rfl,hE,rfl⟩
   ·exact fun a w ux220 hE hM hp=>Zl (cs:=enc s12.1) hE Za ld rfl Yi rfl (hM.rawAt (pre:=[])) (Flat.len _) fun a hE=>⟨Kept.refl _ _,_,_,rfl,hE,rfl⟩
   ·intro a w ux220 hE hM hp
    have f0 : ux220 0 = (vB s12.2):=hp 0 _ rfl rfl
    exact Ze hE Za ld (lk rfl f0) fun a hE=>⟨Kept.refl _ _,_,_,rfl,hE,rfl⟩
   ·intro a w ux220 hE hM hg
    have hE:=hE.sub (e':=[(152,(Value.agg (enc s12.1).toArray)),(4,vB s12.2),(5,(ptr b3 0))]) ⟨lk rfl (hg 1 (by decide)),lk rfl (hg 2 (by decide)),rfl,trivial⟩
    have hM:=hM.pull (pre:=[_])
    refine Zm (seg:=enc s12.1) (cs':=enc s12.1) hE hM Za rfl rfl rfl Yi (Flat.len _) (zle flq) (Flat.cell _) (Zn flq) fun w a hM hE=>Zj ?_
    have ht221:=Option.some.inj hl218
    subst ht221
    refine Zk ?_
    have hM:=M.fst (l:=[_]) hM
    exact ⟨hE.sub ⟨rfl,rfl,trivial⟩,hM⟩
  ·skip
   rintro a w ⟨hE,hM⟩
   have hr:=Option.some.inj hF219
   subst hr
   have hq222 : Yy Try.prog _ _ (.cell 5 50) _:=ZX hE rfl Yi rfl (hM.rawAt (pre:=[])) (Flat.len _) rfl
   have hM:=M.fst (l:=[]) hM
   exact wp_ret (QL hE rfl (Zx hE rfl) hq222 ⟨_,rfl,rfl,hM.kept⟩)
def XH (p0 : Int) (p1 : (Vector (Vector UInt8 4) 4)) : Option (Bool) :=
 (Yb p0 p1).bind fun r3=>some (r3.1 != 0)
theorem UG (w0 : World) (p0 : Int) (p1 : (Vector (Vector UInt8 4) 4)) (r : Bool) (hF : XH p0 p1 = some r) :
  Calls Try.prog 124 [vI p0,(Value.agg (enc p1).toArray)].toArray w0 (fun en w'=>∃ v,en = .returned v ∧ (v = (vT r) ∧ Kept (Old w0) w0 w')):=by
 refine ZB (n:=15) Try.func124 rfl rfl (nbl rfl) rfl ?_
 intro a hE
 have hM:=M.start w0
 unfold XH at hF
 refine Zc (ZR (cs:=enc p1) hE hM Za ld rfl rfl fun b1 w a hM hE=>Ze hE Za ld rfl fun a hE=>Zf (Zc (Zd hE Za ld rfl fun a hE=>Zl (cs:=enc p1) hE Za ld rfl Yi rfl (hM.rawAt (pre:=[])) (Flat.len _) ?_))); intro a hE
 obtain ⟨r3,e4,hF⟩:=bind_some hF
 refine Zv hE Za ld rfl cb126 (Vj _ p0 p1 r3 e4) ?_
 rintro v w a ⟨rfl,hK⟩ hE
 have hM:=hM.keep hK
 refine Zd hE Za ld rfl fun a hE=>Yk hE Za ld rfl rfl fun a hE=>Yk hE Za ld rfl rfl fun a hE=>ZF hE hM Za ld Yi fun b5 w a hM hE=>Ze hE Za ld rfl fun a hE=>Zm (seg:=enc r3.2) (cs':=enc r3.2) hE hM Za rfl rfl rfl Yi (Flat.len _) (zle flq) (Flat.cell _) (Zn flq) fun w a hM hE=>Zf (Zc (Zd hE Za ld rfl fun a hE=>Zi hE Za ld rfl rfl (JG r3.1 0) fun a hE=>Ze hE Za ld rfl fun a hE=>Zf ?_))
 have hr:=Option.some.inj hF
 subst hr
 have hM:=M.fst (l:=[]) hM
 exact wp_ret (ZC hE rfl (Zx hE rfl) ⟨_,rfl,rfl,hM.kept⟩)
def Wb (p0 : (List UInt8)) (p1 : UInt8) : Option (Int) :=
 some (indexByte p0 p1)
theorem Tm (w0 : World) (p0 : (List UInt8)) (v0_1 : Value) (hv0_1 : Ro w0 p0 [v0_1]) (p1 : UInt8) (r : Int) (hF : Wb p0 p1 = some r) :
  Calls Try.prog 102 [v0_1,vB p1].toArray w0 (fun en w'=>∃ v,en = .returned v ∧ (v = (vI r) ∧ Kept (Old w0) w0 w')):=by
 refine ZB (n:=8) Try.func102 rfl rfl (nbl rfl) rfl ?_
 intro a hE
 have hM:=M.start w0
 unfold Wb at hF
 refine Zc (Ze hE Za ld rfl fun a hE=>Zf (Zc (Zd hE Za ld rfl fun a hE=>Zd hE Za ld rfl fun a hE=>Jc hE Za ld rfl Try.func142 rfl (by decide) (by kernel_rfl) (by kernel_rfl) (hM.rd hv0_1) fun a hE=>Ze hE Za ld rfl fun a hE=>Zf ?_)))
 have hr:=Option.some.inj hF
 subst hr
 exact wp_ret (ZC hE rfl (Zx hE rfl) ⟨_,rfl,rfl,hM.kept⟩)
def Yf (p0 : (List UInt8)) (s5 : Int) : Option (Fl Int (Fl Unit Bool)) :=
 if (decide (s5 < (p0.length : Int))) = true then ((idx p0 s5).bind fun x10=>(slc p0 (0 : Int) s5).bind fun l13=>(Wb l13 x10).bind fun r16=>if (decide (r16 ≥ 0)) = true then (some (Fl.ex (Fl.ex false))) else (some (Fl.nx (wr (s5 + 1))))) else (some (Fl.ex (Fl.nx ())))
def YV (p0 : (List UInt8)) : Option (Bool) :=
 (ZD (Yf p0) 0).bind fun j1=>j1.el (fun s4=>some true) (fun r=>some r)
theorem UF (w0 : World) (p0 : (List UInt8)) (v0_1 : Value) (hv0_1 : Ro w0 p0 [v0_1]) (r : Bool) (hF : YV p0 = some r) :
  Calls Try.prog 101 [v0_1].toArray w0 (fun en w'=>∃ v,en = .returned v ∧ (v = (vT r) ∧ Kept (Old w0) w0 w')):=by
 refine ZB (n:=19) Try.func101 rfl rfl (nbl rfl) rfl ?_
 intro a hE
 have hM:=M.start w0
 unfold YV at hF
 refine Zc (Ze hE Za ld rfl fun a hE=>Zf (wp_seq (Zc (Zd hE Za ld rfl fun a hE=>K6 hE Za ld rfl Try.underlying22 (hM.rd hv0_1) fun a hE=>Zd hE Za ld rfl fun a hE=>Zf ?_))))
 obtain ⟨j1,hl2,hF3⟩:=bind_some hF
 refine ZU (fun a w=>∃ s4 : Unit,j1 = Fl.nx s4 ∧ Env 19 a [] ∧ M (Old w0) w0 w []) ?_ ?_
 ·skip
  refine wp_block ?_
  refine ZG (fun (s5 : Int) a w=>Env 19 a [(0,v0_1),(5,v0_1),(6,(vI (p0.length : Int))),(7,vI s5)] ∧ M (Old w0) w0 w []) hl2 ⟨hE.sub ⟨rfl,rfl,rfl,rfl,trivial⟩,hM⟩ ?_
  rintro s5 a w ⟨hE,hM⟩ o8 hs6 hx7
  unfold Yf at hs6
  refine Zc (Zi hE Za ld rfl rfl rfl fun a hE=>Zf (wp_seq ?_))
  refine Zw hE rfl ?_ ?_
  ·intro hb9
   have hs6:=Zz hs6 hb9
   refine wp_skip (Zy (wp_seq (wp_block (Zc (Zd hE Za ld rfl ?_))))); intro a hE
   obtain ⟨x10,hi12,hs6⟩:=bix hs6
   refine WI hE Za ld rfl rfl Try.underlying22 ty5 (hM.rd hv0_1) hi12.1 fun a hE=>Zu (v:=(vB x10)) hE Za ld rfl ty5 rfl (VP (hM.rd hv0_1) hi12.2) fun a hE=>Ze hE Za ld rfl fun a hE=>Ze hE Za ld rfl fun a hE=>Zf (Zc (Zd hE Za ld rfl fun a hE=>Zd hE Za ld rfl ?_)); intro a hE
   obtain ⟨l13,e14,hs6⟩:=bind_some hs6
   refine H3 hE Za ld rfl rfl rfl rfl rfl Try.underlying22 ty5 (hM.rd hv0_1) e14 ?_; intro a hE
   have h15 : Rep.sat (Old w0) w0 l13 [(Wf v0_1 ((0 : Int)).toNat (s5).toNat 1)] []:=QK hv0_1 e14 -- ^
   refine Zd hE Za ld rfl ?_; intro a hE
   obtain ⟨r16,e17,hs6⟩:=bind_some hs6
   refine Zv hE Za ld rfl cb102 (Tm _ l13 (Wf v0_1 ((0 : Int)).toNat (s5).toNat 1) (hM.rdo h15) x10 r16 e17) ?_
   rintro v w a ⟨rfl,hK⟩ hE
   have hM:=hM.keep hK
   refine Zi hE Za ld rfl rfl rfl fun a hE=>Zf ?_
   refine Zw hE rfl ?_ ?_
   ·intro hb18
    have hs6:=Zz hs6 hb18
    refine Zc (Ze hE Za ld rfl fun a hE=>Zf ?_)
    have ht19:=hx7 _ (ois hs6)
    subst ht19
    have hr:=Option.some.inj hF3
    subst hr
    exact wp_ret (XT (ZI (ZI (XT (ZI (ZI (ZC hE rfl (Zx hE rfl) ⟨_,rfl,rfl,hM.kept⟩)))))))
   ·intro hb18
    have hs6:=ZA hs6 hb18
    refine wp_skip (Yg (Zy (wp_region_lit (Zi hE Za ld rfl rfl rfl fun a hE=>Zd hE Za ld rfl fun a hE=>Zj (Zk ?_)))))
    exact ⟨_,(ois hs6),hE.sub ⟨rfl,rfl,rfl,rfl,trivial⟩,hM⟩
  ·intro hb9
   have hs6:=ZA hs6 hb9
   refine wp_exit (Zo (Zo (Yt ?_)))
   have ht20:=hx7 _ (ois hs6)
   subst ht20
   refine Zk ?_
   exact ⟨(),rfl,hE.sub trivial,hM⟩
 ·skip
  rintro a w ⟨s4,ht,hE,hM⟩
  subst ht
  have hF3:=UK hF3
  refine Zy (Zc (Ze hE Za ld rfl fun a hE=>Zf ?_))
  have hr:=Option.some.inj hF3
  subst hr
  exact wp_ret (ZC hE rfl (Zx hE rfl) ⟨_,rfl,rfl,hM.kept⟩)
def YR (p0 : (Vector UInt8 16)) (s7 : Int) : Option (Fl Int (Fl Unit Bool)) :=
 if (decide (s7 < 16)) = true then ((Zq p0 s7).bind fun x12=>if (decide (x12 > 15)) = true then (some (Fl.ex (Fl.ex false))) else (some (Fl.nx (wr (s7 + 1))))) else (some (Fl.ex (Fl.nx ())))
def XQ (p0 : (Vector UInt8 16)) : Option (Bool) :=
 (ZD (YR p0) 0).bind fun j3=>j3.el (fun s6=>(slc p0.toList (0 : Int) (16 : Int)).bind fun l18=>(YV l18).bind fun r21=>some r21) (fun r=>some r)
theorem TF (w0 : World) (p0 : (Vector UInt8 16)) (r : Bool) (hF : XQ p0 = some r) :
  Calls Try.prog 125 [(Value.agg (enc p0).toArray)].toArray w0 (fun en w'=>∃ v,en = .returned v ∧ (v = (vT r) ∧ Kept (Old w0) w0 w')):=by
 refine ZB (n:=14) Try.func125 rfl rfl (nbl rfl) rfl ?_
 intro a hE
 have hM:=M.start w0
 unfold XQ at hF
 refine Zc (ZR (cs:=enc p0) hE hM Za ld rfl rfl fun b1 w a hM hE=>Ze hE Za ld rfl fun a hE=>Zf (wp_seq (Zc (Zl (cs:=enc p0) hE Za ld rfl Vg rfl (hM.rawAt (pre:=[])) (Flat.len _) fun a hE=>Zd hE Za ld rfl fun a hE=>Zf ?_))))
 obtain ⟨j3,hl4,hF5⟩:=bind_some hF
 refine ZU (fun a w=>∃ s6 : Unit,j3 = Fl.nx s6 ∧ Env 14 a [(1,(ptr b1 0))] ∧ M (Old w0) w0 w [raw b1 (enc p0)]) ?_ ?_
 ·skip
  refine wp_block ?_
  refine ZG (fun (s7 : Int) a w=>Env 14 a [(1,(ptr b1 0)),(5,(Value.agg (enc p0).toArray)),(6,vI s7)] ∧ M (Old w0) w0 w [raw b1 (enc p0)]) hl4 ⟨hE.sub ⟨rfl,rfl,rfl,trivial⟩,hM⟩ ?_
  rintro s7 a w ⟨hE,hM⟩ o10 hs8 hx9
  unfold YR at hs8
  refine Zc (Zi hE Za ld rfl rfl rfl fun a hE=>Zf (wp_seq ?_))
  refine Zw hE rfl ?_ ?_
  ·intro hb11
   have hs8:=Zz hs8 hb11
   refine wp_skip (Zy (wp_seq (wp_block (Zc ?_))))
   obtain ⟨x12,hi14,hs8⟩:=bvx hs8
   refine Vy hE Za ld rfl rfl Try.underlying51 ty5 rfl rfl hi14 rfl fun a hE=>Ze hE Za ld rfl fun a hE=>Zf (Zc (Zd hE Za ld rfl fun a hE=>Zi hE Za ld rfl rfl (bB_gtr x12 15) fun a hE=>Zf ?_))
   refine Zw hE rfl ?_ ?_
   ·intro hb15
    have hs8:=Zz hs8 hb15
    refine Zc (Ze hE Za ld rfl fun a hE=>Zf ?_)
    have ht16:=hx9 _ (ois hs8)
    subst ht16
    have hr:=Option.some.inj hF5
    subst hr
    have hM:=M.fst (l:=[]) hM
    exact wp_ret (XT (ZI (ZI (XT (ZI (ZI (ZC hE rfl (Zx hE rfl) ⟨_,rfl,rfl,hM.kept⟩)))))))
   ·intro hb15
    have hs8:=ZA hs8 hb15
    refine wp_skip (Yg (Zy (wp_region_lit (Zi hE Za ld rfl rfl rfl fun a hE=>Zd hE Za ld rfl fun a hE=>Zj (Zk ?_)))))
    exact ⟨_,(ois hs8),hE.sub ⟨rfl,rfl,rfl,trivial⟩,hM⟩
  ·intro hb11
   have hs8:=ZA hs8 hb11
   refine wp_exit (Zo (Zo (Yt ?_)))
   have ht17:=hx9 _ (ois hs8)
   subst ht17
   refine Zk ?_
   exact ⟨(),rfl,hE.sub ⟨rfl,trivial⟩,hM⟩
 ·skip
  rintro a w ⟨s6,ht,hE,hM⟩
  subst ht
  have hF5:=UK hF5
  refine Zy (Zc ?_)
  obtain ⟨l18,e19,hF5⟩:=bind_some hF5
  have hb20:=KB e19 -- ^
  refine UQ (N:=16) hE Za ld rfl rfl rfl rfl rfl Try.underlying51 ty5 hb20 ?_; intro a hE
  obtain ⟨r21,e22,hF5⟩:=bind_some hF5
  refine Zv hE Za ld rfl cb101 (UF _ l18 (Wf (.slice (some ⟨b1,0,none⟩) 16 16) ((0 : Int)).toNat ((16 : Int)).toNat 1) (QK (At.sat (hM.rawAt (pre:=[])) (by simp) (by decide)) e19) r21 e22) ?_
  rintro v w a ⟨rfl,hK⟩ hE
  have hM:=hM.keep hK
  refine Ze hE Za ld rfl fun a hE=>Zf ?_
  have hr:=Option.some.inj hF5
  subst hr
  have hM:=M.fst (l:=[]) hM
  exact wp_ret (ZC hE rfl (Zx hE rfl) ⟨_,rfl,rfl,hM.kept⟩)
def X0 (p0 : GCipher) : Option (Bool) :=
 ((Wj p0.Field).bind fun r6=>if r6 = true then ((YI p0.Box).bind fun r9=>if r9 = true then ((XH p0.Field p0.Mix).bind fun r12=>if r12 = true then ((XQ p0.Places).bind fun r15=>if r15 = true then ((Xb p0.Rounds 1 20).bind fun r18=>some r18) else (some false)) else (some false)) else (some false)) else (some false) : Option (Bool)).bind fun j3=>some j3
theorem T7 (w0 : World) (p0 : GCipher) (r : Bool) (hF : X0 p0 = some r) :
  Calls Try.prog 74 [(Value.agg (enc p0).toArray)].toArray w0 (fun en w'=>∃ v,en = .returned v ∧ (v = (vT r) ∧ Kept (Old w0) w0 w')):=by
 refine ZB (n:=28) Try.func74 rfl rfl (nbl rfl) rfl ?_
 intro a hE
 have hM:=M.start w0
 unfold X0 at hF
 refine Zc (ZR (cs:=cat [[vI p0.Field],enc p0.Box,enc p0.Mix,enc p0.Places,[vI p0.Rounds]]) hE hM Za ld rfl rfl fun b1 w a hM hE=>Ze hE Za ld rfl fun a hE=>Zf ?_)
 obtain ⟨j3,hl4,hF5⟩:=bind_some hF
 refine ZQ (fun a w=>Env 28 a [(2,vT j3)] ∧ M (Old w0) w0 w []) ?_ ?_
 ·skip
  refine wp_region_lit (Zp hE Za ld rfl (V3) fun a hE=>Zu (v:=(vI p0.Field)) hE Za ld rfl ty2 rfl (At.cat (pre:=[]) (hM.rawAt (pre:=[])) cl0) ?_); intro a hE
  obtain ⟨r6,e7,hl4⟩:=bind_some hl4
  refine Zv hE Za ld rfl cb47 (QJ _ p0.Field r6 e7) ?_
  rintro v w a ⟨rfl,hK⟩ hE
  have hM:=hM.keep hK
  refine Zd hE Za ld rfl ?_; intro a hE
  refine WF r6 (fun hb8=>?_) (fun hb8=>?_)
  ·have hl4:=Zz hl4 hb8
   refine Zp hE (Zt hE rfl (lkb rfl hb8)) (by decide) rfl (U1) fun a hE=>Zl (cs:=enc p0.Box) hE (Zt hE rfl (lkb rfl hb8)) (by decide) rfl Vl rfl (At.cat (pre:=[[vI p0.Field]]) (hM.rawAt (pre:=[])) (cl1 (n:=1) (m:=0) rfl cl0)) (Flat.len _) ?_; intro a hE
   obtain ⟨r9,e10,hl4⟩:=bind_some hl4
   refine Zv hE (Zt hE rfl (lkb rfl hb8)) (by decide) rfl cb123 (Ur _ p0.Box r9 e10) ?_
   rintro v w a ⟨rfl,hK⟩ hE
   have hM:=hM.keep hK
   refine YO hE Za ld (lkb rfl hb8) rfl fun a hE=>Zd hE Za ld rfl ?_; intro a hE
   refine WF r9 (fun hb11=>?_) (fun hb11=>?_)
   ·have hl4:=Zz hl4 hb11
    refine Zp hE (Zt hE rfl (lkb rfl hb11)) (by decide) rfl (V3) fun a hE=>Zu (v:=(vI p0.Field)) hE (Zt hE rfl (lkb rfl hb11)) (by decide) rfl ty2 rfl (At.cat (pre:=[]) (hM.rawAt (pre:=[])) cl0) fun a hE=>Zp hE (Zt hE rfl (lkb rfl hb11)) (by decide) rfl (Tx) fun a hE=>Zl (cs:=enc p0.Mix) hE (Zt hE rfl (lkb rfl hb11)) (by decide) rfl Yi rfl (At.cat (pre:=[[vI p0.Field],enc p0.Box]) (hM.rawAt (pre:=[])) (cl1 (n:=1) (m:=256) rfl (cl1 (n:=256) (m:=0) (Flat.len _) cl0))) (Flat.len _) ?_; intro a hE
    obtain ⟨r12,e13,hl4⟩:=bind_some hl4
    refine Zv hE (Zt hE rfl (lkb rfl hb11)) (by decide) rfl cb124 (UG _ p0.Field p0.Mix r12 e13) ?_
    rintro v w a ⟨rfl,hK⟩ hE
    have hM:=hM.keep hK
    refine YO hE Za ld (lkb rfl hb11) rfl fun a hE=>Zd hE Za ld rfl ?_; intro a hE
    refine WF r12 (fun hb14=>?_) (fun hb14=>?_)
    ·have hl4:=Zz hl4 hb14
     refine Zp hE (Zt hE rfl (lkb rfl hb14)) (by decide) rfl (TU) fun a hE=>Zl (cs:=enc p0.Places) hE (Zt hE rfl (lkb rfl hb14)) (by decide) rfl Vg rfl (At.cat (pre:=[[vI p0.Field],enc p0.Box,enc p0.Mix]) (hM.rawAt (pre:=[])) (cl1 (n:=1) (m:=272) rfl (cl1 (n:=256) (m:=16) (Flat.len _) (cl1 (n:=16) (m:=0) (Flat.len _) cl0)))) (Flat.len _) ?_; intro a hE
     obtain ⟨r15,e16,hl4⟩:=bind_some hl4
     refine Zv hE (Zt hE rfl (lkb rfl hb14)) (by decide) rfl cb125 (TF _ p0.Places r15 e16) ?_
     rintro v w a ⟨rfl,hK⟩ hE
     have hM:=hM.keep hK
     refine YO hE Za ld (lkb rfl hb14) rfl fun a hE=>Zd hE Za ld rfl ?_; intro a hE
     refine WF r15 (fun hb17=>?_) (fun hb17=>?_)
     ·have hl4:=Zz hl4 hb17
      refine Zp hE (Zt hE rfl (lkb rfl hb17)) (by decide) rfl (TR) fun a hE=>Zu (v:=(vI p0.Rounds)) hE (Zt hE rfl (lkb rfl hb17)) (by decide) rfl ty2 rfl (At.cat (pre:=[[vI p0.Field],enc p0.Box,enc p0.Mix,enc p0.Places]) (hM.rawAt (pre:=[])) (cl1 (n:=1) (m:=288) rfl (cl1 (n:=256) (m:=32) (Flat.len _) (cl1 (n:=16) (m:=16) (Flat.len _) (cl1 (n:=16) (m:=0) (Flat.len _) cl0))))) ?_; intro a hE
      obtain ⟨r18,e19,hl4⟩:=bind_some hl4
      refine Zv hE (Zt hE rfl (lkb rfl hb17)) (by decide) rfl cb49 (Vv _ p0.Rounds 1 20 r18 e19) ?_
      rintro v w a ⟨rfl,hK⟩ hE
      have hM:=hM.keep hK
      refine YO hE Za ld (lkb rfl hb17) rfl fun a hE=>Ze hE Za ld rfl fun a hE=>Zj ?_
      have ht20:=Option.some.inj hl4
      subst ht20
      refine Zk ?_
      have hM:=M.fst (l:=[]) hM
      exact ⟨hE.sub ⟨rfl,trivial⟩,hM⟩
     ·have hl4:=ZA hl4 hb17
      refine Zr hE rfl (lkb rfl hb17) rfl (by decide) fun a hE=>Zr hE rfl (lkb rfl hb17) rfl (by decide) fun a hE=>Zr hE rfl (lkb rfl hb17) rfl (by decide) fun a hE=>Yu hE Za ld (lkb rfl hb17) rfl fun a hE=>Ze hE Za ld rfl fun a hE=>Zj ?_
      have ht21:=Option.some.inj hl4
      subst ht21
      refine Zk ?_
      have hM:=M.fst (l:=[]) hM
      exact ⟨hE.sub ⟨rfl,trivial⟩,hM⟩
    ·have hl4:=ZA hl4 hb14
     refine Zr hE rfl (lkb rfl hb14) rfl (by decide) fun a hE=>Zr hE rfl (lkb rfl hb14) rfl (by decide) fun a hE=>Zr hE rfl (lkb rfl hb14) rfl (by decide) fun a hE=>Yu hE Za ld (lkb rfl hb14) rfl fun a hE=>Zd hE Za ld rfl fun a hE=>Zr hE rfl rfl rfl (by decide) fun a hE=>Zr hE rfl rfl rfl (by decide) fun a hE=>Zr hE rfl rfl rfl (by decide) fun a hE=>Yu hE Za ld rfl rfl fun a hE=>Ze hE Za ld rfl fun a hE=>Zj ?_
     have ht22:=Option.some.inj hl4
     subst ht22
     refine Zk ?_
     have hM:=M.fst (l:=[]) hM
     exact ⟨hE.sub ⟨rfl,trivial⟩,hM⟩
   ·have hl4:=ZA hl4 hb11
    refine Zr hE rfl (lkb rfl hb11) rfl (by decide) fun a hE=>Zr hE rfl (lkb rfl hb11) rfl (by decide) fun a hE=>Zr hE rfl (lkb rfl hb11) rfl (by decide) fun a hE=>Zr hE rfl (lkb rfl hb11) rfl (by decide) fun a hE=>Zr hE rfl (lkb rfl hb11) rfl (by decide) fun a hE=>Yu hE Za ld (lkb rfl hb11) rfl fun a hE=>Zd hE Za ld rfl fun a hE=>Zr hE rfl rfl rfl (by decide) fun a hE=>Zr hE rfl rfl rfl (by decide) fun a hE=>Zr hE rfl rfl rfl (by decide) fun a hE=>Yu hE Za ld rfl rfl fun a hE=>Zd hE Za ld rfl ?_; intro a hE
    refine Zr hE rfl rfl rfl (by decide) fun a hE=>Zr hE rfl rfl rfl (by decide) fun a hE=>Zr hE rfl rfl rfl (by decide) fun a hE=>Yu hE Za ld rfl rfl fun a hE=>Ze hE Za ld rfl fun a hE=>Zj ?_
    have ht23:=Option.some.inj hl4
    subst ht23
    refine Zk ?_
    have hM:=M.fst (l:=[]) hM
    exact ⟨hE.sub ⟨rfl,trivial⟩,hM⟩
  ·have hl4:=ZA hl4 hb8
   refine Zr hE rfl (lkb rfl hb8) rfl (by decide) fun a hE=>Zr hE rfl (lkb rfl hb8) rfl (by decide) fun a hE=>Zr hE rfl (lkb rfl hb8) rfl (by decide) fun a hE=>Yu hE Za ld (lkb rfl hb8) rfl fun a hE=>Zd hE Za ld rfl fun a hE=>Zr hE rfl rfl rfl (by decide) fun a hE=>Zr hE rfl rfl rfl (by decide) fun a hE=>Zr hE rfl rfl rfl (by decide) fun a hE=>Zr hE rfl rfl rfl (by decide) fun a hE=>Zr hE rfl rfl rfl (by decide) fun a hE=>Yu hE Za ld rfl rfl fun a hE=>Zd hE Za ld rfl ?_; intro a hE
   refine Zr hE rfl rfl rfl (by decide) fun a hE=>Zr hE rfl rfl rfl (by decide) fun a hE=>Zr hE rfl rfl rfl (by decide) fun a hE=>Yu hE Za ld rfl rfl fun a hE=>Zd hE Za ld rfl fun a hE=>Zr hE rfl rfl rfl (by decide) fun a hE=>Zr hE rfl rfl rfl (by decide) fun a hE=>Zr hE rfl rfl rfl (by decide) fun a hE=>Yu hE Za ld rfl rfl fun a hE=>Ze hE Za ld rfl fun a hE=>Zj ?_
   have ht24:=Option.some.inj hl4
   subst ht24
   refine Zk ?_
   have hM:=M.fst (l:=[]) hM
   exact ⟨hE.sub ⟨rfl,trivial⟩,hM⟩
 ·skip
  rintro a w ⟨hE,hM⟩
  have hr:=Option.some.inj hF5
  subst hr
  exact wp_ret (ZC hE rfl (Zx hE rfl) ⟨_,rfl,rfl,hM.kept⟩)
def XY (p0 : GCipher) (p1 : Int) : Option (Int) :=
 (X0 p0).bind fun r3=>if (!r3) = true then (some 1) else ((Xb p1 0 65535).bind fun r6=>if (!r6) = true then (some 2) else (some 0))
theorem Qg (w0 : World) (p0 : GCipher) (p1 : Int) (r : Int) (hF : XY p0 p1 = some r) :
  Calls Try.prog 68 [(Value.agg (enc p0).toArray),vI p1].toArray w0 (fun en w'=>∃ v,en = .returned v ∧ (v = (vI r) ∧ Kept (Old w0) w0 w')):=by
 refine ZB (n:=13) Try.func68 rfl rfl (nbl rfl) rfl ?_
 intro a hE
 have hM:=M.start w0
 unfold XY at hF
 refine Zc (ZR (cs:=cat [[vI p0.Field],enc p0.Box,enc p0.Mix,enc p0.Places,[vI p0.Rounds]]) hE hM Za ld rfl rfl fun b1 w a hM hE=>Ze hE Za ld rfl fun a hE=>Zf (wp_seq (wp_block (Zc (Zl (cs:=enc p0) hE Za ld rfl VQ rfl (hM.rawAt (pre:=[])) (ZZ (cl1 (n:=1) (m:=289) rfl (cl1 (n:=256) (m:=33) (Flat.len _) (cl1 (n:=16) (m:=17) (Flat.len _) (cl1 (n:=16) (m:=1) (Flat.len _) (cl1 (n:=1) (m:=0) rfl cl0)))))) ?_))))); intro a hE
 obtain ⟨r3,e4,hF⟩:=bind_some hF
 refine Zv hE Za ld rfl cb74 (T7 _ p0 r3 e4) ?_
 rintro v w a ⟨rfl,hK⟩ hE
 have hM:=hM.keep hK
 refine Ux hE Za ld rfl fun a hE=>Ze hE Za ld rfl fun a hE=>Zf ?_
 refine Zw hE rfl ?_ ?_
 ·intro hb5
  have hF:=Zz hF hb5
  refine Zc (Ze hE Za ld rfl fun a hE=>Zf ?_)
  have hr:=Option.some.inj hF
  subst hr
  have hM:=M.fst (l:=[]) hM
  exact wp_ret (XT (ZI (ZC hE rfl (Zx hE rfl) ⟨_,rfl,rfl,hM.kept⟩)))
 ·intro hb5
  have hF:=ZA hF hb5
  refine Zc (Zd hE Za ld rfl ?_); intro a hE
  obtain ⟨r6,e7,hF⟩:=bind_some hF
  refine Zv hE Za ld rfl cb49 (Vv _ p1 0 65535 r6 e7) ?_
  rintro v w a ⟨rfl,hK⟩ hE
  have hM:=hM.keep hK
  refine Ux hE Za ld rfl fun a hE=>Ze hE Za ld rfl fun a hE=>Zf ?_
  refine Zw hE rfl ?_ ?_
  ·intro hb8
   have hF:=Zz hF hb8
   refine Zc (Ze hE Za ld rfl fun a hE=>Zf ?_)
   have hr:=Option.some.inj hF
   subst hr
   have hM:=M.fst (l:=[]) hM
   exact wp_ret (XT (ZI (ZC hE rfl (Zx hE rfl) ⟨_,rfl,rfl,hM.kept⟩)))
  ·intro hb8
   have hF:=ZA hF hb8
   refine wp_skip (Yg (Zy (Zc (Ze hE Za ld rfl fun a hE=>Zf ?_))))
   have hr:=Option.some.inj hF
   subst hr
   have hM:=M.fst (l:=[]) hM
   exact wp_ret (ZC hE rfl (Zx hE rfl) ⟨_,rfl,rfl,hM.kept⟩)
def Yn (p0 : (Vector UInt8 256)) (s10 : (Vector UInt8 256) × Int) : Option (Fl ((Vector UInt8 256) × Int) (Vector UInt8 256)) :=
 if (decide (s10.2 < 256)) = true then ((Zq p0 s10.2).bind fun x15=>(Zq s10.1 (bI x15)).bind fun x19=>some (Fl.nx ((s10.1.setIfInBounds ((bI x15)).toNat (ZO s10.2)),wr (s10.2 + 1)))) else (some (Fl.ex s10.1))
def Xe (p0 : (Vector UInt8 256)) : Option ((Vector UInt8 256)) :=
 (ZD (Yn p0) ((Vector.replicate 256 (0 : UInt8)),0)).bind fun j7=>some j7
theorem UY (w0 : World) (p0 : (Vector UInt8 256)) (r : (Vector UInt8 256)) (hF : Xe p0 = some r) :
  Calls Try.prog 127 [(Value.agg (enc p0).toArray)].toArray w0 (fun en w'=>∃ v,en = .returned v ∧ (v = (Value.agg (enc r).toArray) ∧ Kept (Old w0) w0 w')):=by
 refine ZB (n:=18) Try.func127 rfl rfl (nbl rfl) rfl ?_
 intro a hE
 have hM:=M.start w0
 unfold Xe at hF
 refine Zc (ZR (cs:=enc p0) hE hM Za ld rfl rfl fun b1 w a hM hE=>ZF hE hM Za ld Vl fun b3 w a hM hE=>Zf (Zc (Y8 (parts:=[]) (vs:=[]) (cs:=enc (Vector.replicate 256 (0 : UInt8))) hE Za ld rfl rfl Vl rfl ty5 YB fun a hE=>ZF hE hM Za ld Vl fun b5 w a hM hE=>Zm (seg:=enc (Vector.replicate 256 (0 : UInt8))) (cs':=enc (Vector.replicate 256 (0 : UInt8))) hE hM Za rfl rfl rfl Vl (Flat.len _) (zle flq) (Flat.cell _) (Zn flq) fun w a hM hE=>Zf (wp_seq (Zc (Zl (cs:=enc p0) hE Za ld rfl Vl rfl (hM.rawAt (pre:=[_,_])) (Flat.len _) fun a hE=>Zd hE Za ld rfl fun a hE=>Zf ?_))))))
 obtain ⟨j7,hl8,hF9⟩:=bind_some hF
 refine ZU (fun a w=>Env 18 a [(2,(ptr b3 0)),(3,(ptr b5 0))] ∧ M (Old w0) w0 w [raw b5 (enc j7),raw b3 (enc (Vector.replicate 256 (0 : UInt8)))]) ?_ ?_
 ·skip
  refine wp_block ?_
  have hM:=M.fst (l:=[_,_]) ((hM.pull (pre:=[_])).pull (pre:=[_]))
  refine ZG (fun (s10 : (Vector UInt8 256) × Int) a w=>Env 18 a [(2,(ptr b3 0)),(3,(ptr b5 0)),(7,(Value.agg (enc p0).toArray)),(8,vI s10.2)] ∧ M (Old w0) w0 w [raw b5 (enc s10.1),raw b3 (enc (Vector.replicate 256 (0 : UInt8)))]) hl8 ⟨hE.sub ⟨rfl,rfl,rfl,rfl,trivial⟩,hM⟩ ?_
  rintro s10 a w ⟨hE,hM⟩ o13 hs11 hx12
  unfold Yn at hs11
  refine Zc (Zi hE Za ld rfl rfl rfl fun a hE=>Zf (wp_seq ?_))
  refine Zw hE rfl ?_ ?_
  ·intro hb14
   have hs11:=Zz hs11 hb14
   refine wp_skip (Zy (wp_seq (wp_block (Zc (Zd hE Za ld rfl ?_))))); intro a hE
   obtain ⟨x15,hi17,hs11⟩:=bvx hs11
   refine Vy hE Za ld rfl rfl Try.underlying49 ty5 rfl rfl hi17 rfl fun a hE=>Ze hE Za ld rfl fun a hE=>Ze hE Za ld rfl fun a hE=>Zf (wp_region_lit (Zd hE Za ld rfl fun a hE=>Zd hE Za ld rfl fun a hE=>XW hE Za ld rfl Try.underlying3 Try.underlying5 ?_)); intro a hE
   rw [Xq] at hE
   obtain ⟨x19,hi18,hs11⟩:=bvx hs11
   refine Zg hE Za ld rfl rfl Try.underlying49 ty5 hi18.1 fun a hE=>Zm (seg:=[(vB (ZO s10.2))]) (cs':=enc (s10.1.setIfInBounds ((bI x15)).toNat (ZO s10.2))) hE hM Za rfl rfl rfl ty5 rfl (ZE (v:=s10.1) (x:=ZO s10.2) hi18.1) (Flat.cell (ZO s10.2 : UInt8)) (Zs (v:=s10.1) (x:=ZO s10.2) hi18.1) fun w a hM hE=>Zj (Yg (Zy (wp_region_lit (Zi hE Za ld rfl rfl rfl fun a hE=>Zd hE Za ld rfl fun a hE=>Zj (Zk ?_)))))
   exact ⟨_,(ois hs11),hE.sub ⟨rfl,rfl,rfl,rfl,trivial⟩,hM⟩
  ·intro hb14
   have hs11:=ZA hs11 hb14
   refine wp_exit (Zo (Zo (Yt ?_)))
   have ht21:=hx12 _ (ois hs11)
   subst ht21
   refine Zk ?_
   exact ⟨hE.sub ⟨rfl,rfl,trivial⟩,hM⟩
 ·skip
  rintro a w ⟨hE,hM⟩
  refine Zy (Zc (Zl (cs:=enc j7) hE Za ld rfl Vl rfl (hM.rawAt (pre:=[])) (Flat.len _) ?_)); intro a hE
  have hM:=hM.pull (pre:=[_])
  refine Zm (seg:=enc j7) (cs':=enc j7) hE hM Za rfl rfl rfl Vl (Flat.len _) (zle flq) (Flat.cell _) (Zn flq) fun w a hM hE=>Zf ?_
  have hr:=Option.some.inj hF9
  subst hr
  have hq22 : Yy Try.prog _ _ (.cell 2 49) _:=ZX hE rfl Vl rfl (hM.rawAt (pre:=[])) (Flat.len _) rfl
  have hM:=M.fst (l:=[]) hM
  exact wp_ret (ZC hE rfl hq22 ⟨_,rfl,rfl,hM.kept⟩)
def Z9 (p0 : (Vector UInt8 16)) (s10 : (Vector UInt8 16) × Int) : Option (Fl ((Vector UInt8 16) × Int) (Vector UInt8 16)) :=
 if (decide (s10.2 < 16)) = true then ((Zq p0 s10.2).bind fun x15=>(Zq s10.1 (bI x15)).bind fun x19=>some (Fl.nx ((s10.1.setIfInBounds ((bI x15)).toNat (ZO s10.2)),wr (s10.2 + 1)))) else (some (Fl.ex s10.1))
def Yx (p0 : (Vector UInt8 16)) : Option ((Vector UInt8 16)) :=
 (ZD (Z9 p0) ((Vector.replicate 16 (0 : UInt8)),0)).bind fun j7=>some j7
theorem Uc (w0 : World) (p0 : (Vector UInt8 16)) (r : (Vector UInt8 16)) (hF : Yx p0 = some r) :
  Calls Try.prog 128 [(Value.agg (enc p0).toArray)].toArray w0 (fun en w'=>∃ v,en = .returned v ∧ (v = (Value.agg (enc r).toArray) ∧ Kept (Old w0) w0 w')):=by
 refine ZB (n:=18) Try.func128 rfl rfl (nbl rfl) rfl ?_
 intro a hE
 have hM:=M.start w0
 unfold Yx at hF
 refine Zc (ZR (cs:=enc p0) hE hM Za ld rfl rfl fun b1 w a hM hE=>ZF hE hM Za ld Vg fun b3 w a hM hE=>Zf (Zc (Y8 (parts:=[]) (vs:=[]) (cs:=enc (Vector.replicate 16 (0 : UInt8))) hE Za ld rfl rfl Vg rfl ty5 YB fun a hE=>ZF hE hM Za ld Vg fun b5 w a hM hE=>Zm (seg:=enc (Vector.replicate 16 (0 : UInt8))) (cs':=enc (Vector.replicate 16 (0 : UInt8))) hE hM Za rfl rfl rfl Vg (Flat.len _) (zle flq) (Flat.cell _) (Zn flq) fun w a hM hE=>Zf (wp_seq (Zc (Zl (cs:=enc p0) hE Za ld rfl Vg rfl (hM.rawAt (pre:=[_,_])) (Flat.len _) fun a hE=>Zd hE Za ld rfl fun a hE=>Zf ?_))))))
 obtain ⟨j7,hl8,hF9⟩:=bind_some hF
 refine ZU (fun a w=>Env 18 a [(2,(ptr b3 0)),(3,(ptr b5 0))] ∧ M (Old w0) w0 w [raw b5 (enc j7),raw b3 (enc (Vector.replicate 16 (0 : UInt8)))]) ?_ ?_
 ·skip
  refine wp_block ?_
  have hM:=M.fst (l:=[_,_]) ((hM.pull (pre:=[_])).pull (pre:=[_]))
  refine ZG (fun (s10 : (Vector UInt8 16) × Int) a w=>Env 18 a [(2,(ptr b3 0)),(3,(ptr b5 0)),(7,(Value.agg (enc p0).toArray)),(8,vI s10.2)] ∧ M (Old w0) w0 w [raw b5 (enc s10.1),raw b3 (enc (Vector.replicate 16 (0 : UInt8)))]) hl8 ⟨hE.sub ⟨rfl,rfl,rfl,rfl,trivial⟩,hM⟩ ?_
  rintro s10 a w ⟨hE,hM⟩ o13 hs11 hx12
  unfold Z9 at hs11
  refine Zc (Zi hE Za ld rfl rfl rfl fun a hE=>Zf (wp_seq ?_))
  refine Zw hE rfl ?_ ?_
  ·intro hb14
   have hs11:=Zz hs11 hb14
   refine wp_skip (Zy (wp_seq (wp_block (Zc (Zd hE Za ld rfl ?_))))); intro a hE
   obtain ⟨x15,hi17,hs11⟩:=bvx hs11
   refine Vy hE Za ld rfl rfl Try.underlying51 ty5 rfl rfl hi17 rfl fun a hE=>Ze hE Za ld rfl fun a hE=>Ze hE Za ld rfl fun a hE=>Zf (wp_region_lit (Zd hE Za ld rfl fun a hE=>Zd hE Za ld rfl fun a hE=>XW hE Za ld rfl Try.underlying3 Try.underlying5 ?_)); intro a hE
   rw [Xq] at hE
   obtain ⟨x19,hi18,hs11⟩:=bvx hs11
   refine Zg hE Za ld rfl rfl Try.underlying51 ty5 hi18.1 fun a hE=>Zm (seg:=[(vB (ZO s10.2))]) (cs':=enc (s10.1.setIfInBounds ((bI x15)).toNat (ZO s10.2))) hE hM Za rfl rfl rfl ty5 rfl (ZE (v:=s10.1) (x:=ZO s10.2) hi18.1) (Flat.cell (ZO s10.2 : UInt8)) (Zs (v:=s10.1) (x:=ZO s10.2) hi18.1) fun w a hM hE=>Zj (Yg (Zy (wp_region_lit (Zi hE Za ld rfl rfl rfl fun a hE=>Zd hE Za ld rfl fun a hE=>Zj (Zk ?_)))))
   exact ⟨_,(ois hs11),hE.sub ⟨rfl,rfl,rfl,rfl,trivial⟩,hM⟩
  ·intro hb14
   have hs11:=ZA hs11 hb14
   refine wp_exit (Zo (Zo (Yt ?_)))
   have ht21:=hx12 _ (ois hs11)
   subst ht21
   refine Zk ?_
   exact ⟨hE.sub ⟨rfl,rfl,trivial⟩,hM⟩
 ·skip
  rintro a w ⟨hE,hM⟩
  refine Zy (Zc (Zl (cs:=enc j7) hE Za ld rfl Vg rfl (hM.rawAt (pre:=[])) (Flat.len _) ?_)); intro a hE
  have hM:=hM.pull (pre:=[_])
  refine Zm (seg:=enc j7) (cs':=enc j7) hE hM Za rfl rfl rfl Vg (Flat.len _) (zle flq) (Flat.cell _) (Zn flq) fun w a hM hE=>Zf ?_
  have hr:=Option.some.inj hF9
  subst hr
  have hq22 : Yy Try.prog _ _ (.cell 2 51) _:=ZX hE rfl Vg rfl (hM.rawAt (pre:=[])) (Flat.len _) rfl
  have hM:=M.fst (l:=[]) hM
  exact wp_ret (ZC hE rfl hq22 ⟨_,rfl,rfl,hM.kept⟩)
def Y4 (s8 : (Vector (Vector (Vector UInt8 256) 4) 4) × Int) (s19 : (Vector (Vector (Vector UInt8 256) 4) 4) × Int) (s30 : (Vector (Vector (Vector UInt8 256) 4) 4) × Int) (r35 : UInt8) (s40 : (Vector (Vector (Vector UInt8 256) 4) 4) × Int) : Option (Fl ((Vector (Vector (Vector UInt8 256) 4) 4) × Int) (Vector (Vector (Vector UInt8 256) 4) 4)) :=
 if (decide (s40.2 < s30.2)) = true then ((Zq s40.1 s8.2).bind fun x47=>(Zq x47 s19.2).bind fun x50=>(Zq x50 s40.2).bind fun x53=>(Zq s40.1 s8.2).bind fun x56=>(Zq x56 s19.2).bind fun x59=>(Zq x59 (orI s30.2 s40.2)).bind fun x62=>some (Fl.nx ((s40.1.setIfInBounds (s8.2).toNat (x56.setIfInBounds (s19.2).toNat (x59.setIfInBounds ((orI s30.2 s40.2)).toNat (r35 ^^^ x53)))),wr (s40.2 + 1)))) else (some (Fl.ex s40.1))
def Y1 (p0 : Int) (s8 : (Vector (Vector (Vector UInt8 256) 4) 4) × Int) (s19 : (Vector (Vector (Vector UInt8 256) 4) 4) × Int) (x24 : UInt8) (s30 : (Vector (Vector (Vector UInt8 256) 4) 4) × Int) : Option (Fl ((Vector (Vector (Vector UInt8 256) 4) 4) × Int) (Vector (Vector (Vector UInt8 256) 4) 4)) :=
 if (decide (s30.2 < 256)) = true then ((ZN p0 x24 (ZO s30.2)).bind fun r35=>(ZD (Y4 s8 s19 s30 r35) (s30.1,0)).bind fun j37=>some (Fl.nx (j37,wr (s30.2 * 2)))) else (some (Fl.ex s30.1))
def Y0 (p0 : Int) (s8 : (Vector (Vector (Vector UInt8 256) 4) 4) × Int) (x14 : (Vector UInt8 4)) (s19 : (Vector (Vector (Vector UInt8 256) 4) 4) × Int) : Option (Fl ((Vector (Vector (Vector UInt8 256) 4) 4) × Int) (Vector (Vector (Vector UInt8 256) 4) 4)) :=
 if (decide (s19.2 < 4)) = true then ((Zq x14 s19.2).bind fun x24=>(ZD (Y1 p0 s8 s19 x24) (s19.1,1)).bind fun j27=>some (Fl.nx (j27,wr (s19.2 + 1)))) else (some (Fl.ex s19.1))
def Y2 (p0 : Int) (p1 : (Vector (Vector UInt8 4) 4)) (s8 : (Vector (Vector (Vector UInt8 256) 4) 4) × Int) : Option (Fl ((Vector (Vector (Vector UInt8 256) 4) 4) × Int) (Vector (Vector (Vector UInt8 256) 4) 4)) :=
 if (decide (s8.2 < 4)) = true then ((Zq p1 s8.2).bind fun x14=>(ZD (Y0 p0 s8 x14) (s8.1,0)).bind fun j16=>some (Fl.nx (j16,wr (s8.2 + 1)))) else (some (Fl.ex s8.1))
def Xt (p0 : Int) (p1 : (Vector (Vector UInt8 4) 4)) : Option ((Ref (Vector (Vector (Vector UInt8 256) 4) 4))) :=
 (ZD (Y2 p0 p1) ((Vector.replicate 4 (Vector.replicate 4 (Vector.replicate 256 (0 : UInt8)))),0)).bind fun j5=>some (⟨j5⟩ : (Ref (Vector (Vector (Vector UInt8 256) 4) 4)))
theorem V8 (w0 : World) (p0 : Int) (p1 : (Vector (Vector UInt8 4) 4)) (r : (Ref (Vector (Vector (Vector UInt8 256) 4) 4))) (hF : Xt p0 p1 = some r) :
  Calls Try.prog 129 [vI p0,(Value.agg (enc p1).toArray)].toArray w0 (fun en w'=>∃ v,en = .returned v ∧ (∃ (y1 : Value),v = y1 ∧ Fr w0 w' [own NoB (r : (Ref (Vector (Vector (Vector UInt8 256) 4) 4))) [y1]] ∧ Kept (Old w0) w0 w')):=by
 refine ZB (n:=62) Try.func129 rfl rfl (nbl rfl) rfl ?_
 intro a hE
 have hM:=M.start w0
 unfold Xt at hF
 refine Zc (ZR (cs:=enc p1) hE hM Za ld rfl rfl fun b1 w a hM hE=>Ze hE Za ld rfl fun a hE=>Zf (Zc (Y8 (parts:=[]) (vs:=[]) (cs:=enc (Vector.replicate 4 (Vector.replicate 4 (Vector.replicate 256 (0 : UInt8))))) hE Za ld rfl rfl ty180 rfl Qt YB fun a hE=>ZR (cs:=enc (Vector.replicate 4 (Vector.replicate 4 (Vector.replicate 256 (0 : UInt8))))) hE hM Za ld rfl rfl fun b3 w a hM hE=>Ze hE Za ld rfl fun a hE=>Zf (wp_seq (Zc (Zd hE Za ld rfl fun a hE=>Zf ?_))))))
 obtain ⟨j5,hl6,hF7⟩:=bind_some hF
 refine ZU (fun a w=>Env 62 a [(5,(ptr b3 0))] ∧ M (Old w0) w0 w [raw b3 (enc j5)]) ?_ ?_
 ·skip
  refine wp_block ?_
  refine ZG (fun (s8 : (Vector (Vector (Vector UInt8 256) 4) 4) × Int) a w=>Env 62 a [(0,vI p0),(3,(ptr b1 0)),(5,(ptr b3 0)),(14,vI s8.2)] ∧ M (Old w0) w0 w [raw b3 (enc s8.1),raw b1 (enc p1)]) hl6 ⟨hE.sub ⟨rfl,rfl,rfl,rfl,trivial⟩,hM⟩ ?_
  rintro s8 a w ⟨hE,hM⟩ o11 hs9 hx10
  unfold Y2 at hs9
  refine Zc (Zi hE Za ld rfl rfl rfl fun a hE=>Zf (wp_seq ?_))
  refine Zw hE rfl ?_ ?_
  ·intro hb12
   have hs9:=Zz hs9 hb12
   refine wp_skip (Zy (wp_seq (wp_block (Zc (Zd hE Za ld rfl fun a hE=>Ze hE Za ld rfl fun a hE=>Zf (Zc (Zd hE Za ld rfl ?_))))))); intro a hE
   obtain ⟨x14,hi13,hs9⟩:=bvx hs9
   refine Zg hE Za ld rfl rfl Try.underlying50 ZV hi13.1 fun a hE=>Zl (cs:=enc x14) hE Za ld rfl ZV rfl (At.vec (hM.rawAt (pre:=[_])) hi13.2) (Flat.len _) fun a hE=>Zd hE Za ld rfl fun a hE=>Zf ?_
   obtain ⟨j16,hl17,hF18⟩:=bind_some hs9
   refine ZU (fun a w=>Env 62 a [(0,vI p0),(3,(ptr b1 0)),(5,(ptr b3 0)),(14,vI s8.2)] ∧ M (Old w0) w0 w [raw b3 (enc j16),raw b1 (enc p1)]) ?_ ?_
   ·skip
    refine wp_block ?_
    refine ZG (fun (s19 : (Vector (Vector (Vector UInt8 256) 4) 4) × Int) a w=>Env 62 a [(0,vI p0),(3,(ptr b1 0)),(5,(ptr b3 0)),(6,vI s8.2),(14,vI s8.2),(19,(Value.agg (enc x14).toArray)),(20,vI s19.2)] ∧ M (Old w0) w0 w [raw b3 (enc s19.1),raw b1 (enc p1)]) hl17 ⟨hE.sub ⟨rfl,rfl,rfl,rfl,rfl,rfl,rfl,trivial⟩,hM⟩ ?_
    rintro s19 a w ⟨hE,hM⟩ o22 hs20 hx21
    unfold Y0 at hs20
    refine Zc (Zi hE Za ld rfl rfl rfl fun a hE=>Zf (wp_seq ?_))
    refine Zw hE rfl ?_ ?_
    ·intro hb23
     have hs20:=Zz hs20 hb23
     refine wp_skip (Zy (wp_seq (wp_block (Zc (Zd hE Za ld rfl ?_))))); intro a hE
     obtain ⟨x24,hi26,hs20⟩:=bvx hs20
     refine Vy hE Za ld rfl rfl Try.underlying42 ty5 rfl rfl hi26 rfl fun a hE=>Ze hE Za ld rfl fun a hE=>Ze hE Za ld rfl fun a hE=>Zf (Zc (Ze hE Za ld rfl fun a hE=>Zf ?_))
     obtain ⟨j27,hl28,hF29⟩:=bind_some hs20
     refine ZU (fun a w=>Env 62 a [(0,vI p0),(3,(ptr b1 0)),(5,(ptr b3 0)),(6,vI s8.2),(14,vI s8.2),(19,(Value.agg (enc x14).toArray)),(20,vI s19.2)] ∧ M (Old w0) w0 w [raw b3 (enc j27),raw b1 (enc p1)]) ?_ ?_
     ·skip
      refine wp_block ?_
      refine ZG (fun (s30 : (Vector (Vector (Vector UInt8 256) 4) 4) × Int) a w=>Env 62 a [(0,vI p0),(3,(ptr b1 0)),(5,(ptr b3 0)),(6,vI s8.2),(7,vI s19.2),(8,vB x24),(9,vI s30.2),(14,vI s8.2),(19,(Value.agg (enc x14).toArray)),(20,vI s19.2)] ∧ M (Old w0) w0 w [raw b3 (enc s30.1),raw b1 (enc p1)]) hl28 ⟨hE.sub ⟨rfl,rfl,rfl,rfl,rfl,rfl,rfl,rfl,rfl,rfl,trivial⟩,hM⟩ ?_
      rintro s30 a w ⟨hE,hM⟩ o33 hs31 hx32
      unfold Y1 at hs31
      refine wp_seq (Zc (Zd hE Za ld rfl fun a hE=>Zi hE Za ld rfl rfl rfl fun a hE=>Zf ?_))
      refine Zw hE rfl ?_ ?_
      ·intro hb34
       have hs31:=Zz hs31 hb34
       refine wp_skip (Zy (wp_seq (wp_block (Zc (Zd hE Za ld rfl fun a hE=>Zd hE Za ld rfl fun a hE=>Zd hE Za ld rfl fun a hE=>XW hE Za ld rfl Try.underlying3 Try.underlying5 ?_))))); intro a hE
       rw [Xq] at hE
       obtain ⟨r35,e36,hs31⟩:=bind_some hs31
       refine Zv hE Za ld rfl TX (Z5 _ p0 x24 (ZO s30.2) r35 e36) ?_
       rintro v w a ⟨rfl,hK⟩ hE
       have hM:=hM.keep hK
       refine Ze hE Za ld rfl fun a hE=>Zf (Zc (Zd hE Za ld rfl fun a hE=>Zd hE Za ld rfl fun a hE=>Zf ?_))
       obtain ⟨j37,hl38,hF39⟩:=bind_some hs31
       refine ZU (fun a w=>Env 62 a [(0,vI p0),(3,(ptr b1 0)),(5,(ptr b3 0)),(6,vI s8.2),(7,vI s19.2),(8,vB x24),(9,vI s30.2),(14,vI s8.2),(19,(Value.agg (enc x14).toArray)),(20,vI s19.2)] ∧ M (Old w0) w0 w [raw b3 (enc j37),raw b1 (enc p1)]) ?_ ?_
       ·skip
        refine wp_block ?_
        refine ZG (fun (s40 : (Vector (Vector (Vector UInt8 256) 4) 4) × Int) a w=>Env 62 a [(0,vI p0),(3,(ptr b1 0)),(5,(ptr b3 0)),(6,vI s8.2),(7,vI s19.2),(8,vB x24),(9,vI s30.2),(10,vB r35),(14,vI s8.2),(19,(Value.agg (enc x14).toArray)),(20,vI s19.2),(33,vI s30.2),(34,vI s40.2)] ∧ M (Old w0) w0 w [raw b3 (enc s40.1),raw b1 (enc p1)]) hl38 ⟨hE.sub ⟨rfl,rfl,rfl,rfl,rfl,rfl,rfl,rfl,rfl,rfl,rfl,rfl,rfl,trivial⟩,hM⟩ ?_
        rintro s40 a w ⟨hE,hM⟩ o43 hs41 hx42
        unfold Y4 at hs41
        refine Zc (Zi hE Za ld rfl rfl rfl fun a hE=>Zf (wp_seq ?_))
        refine Zw hE rfl ?_ ?_
        ·intro hb44
         have hs41:=Zz hs41 hb44
         refine wp_skip (Zy (wp_seq (wp_block (Zc (Zd hE Za ld rfl fun a hE=>Ze hE Za ld rfl fun a hE=>Zf ?_)))))
         obtain ⟨x47,hi46,hs41⟩:=bvx hs41
         obtain ⟨x50,hi49,hs41⟩:=bvx hs41
         obtain ⟨x53,hi52,hs41⟩:=bvx hs41
         obtain ⟨x56,hi55,hs41⟩:=bvx hs41
         obtain ⟨x59,hi58,hs41⟩:=bvx hs41
         obtain ⟨x62,hi61,hs41⟩:=bvx hs41
         refine YA (n:=62) (hd:=[_,_,_,_,_,_,_,_,_,_,_,_,_,_,_,_,_,_,_,_,_]) (tl:=[_]) Wa rfl rfl [37,38,39,40,41,42,43,44,45,46,47,48,49,50,51,52,53,54,55,56,57] (by decide) (fun w=>M (Old w0) w0 w [raw b3 (enc s40.1),raw b1 (enc p1)]) (fun j=>([fun v _=>v = (ptr b3 0),fun v _=>v = (vI s8.2),fun v _=>v = (vI s19.2),fun v _=>v = (vI s30.2),fun v _=>v = (vI s40.2),fun v _=>v = (vI (orI s30.2 s40.2)),fun v _=>v = (vB r35),fun v _=>v = (ptr b3 0),fun v _=>v = (vI s8.2),fun v _=>v = (vI s19.2),fun v _=>v = (vI s40.2),fun v _=>v = (ptr b3 0),fun v _=>v = (ptr b3 (0 + (s8.2).toNat * 1024)),fun v _=>v = (ptr b3 (0 + (s8.2).toNat * 1024 + (s19.2).toNat * 256)),fun v _=>v = (ptr b3 (0 + (s8.2).toNat * 1024 + (s19.2).toNat * 256 + (s40.2).toNat * 1)),fun v _=>v = (vB x53),fun v _=>v = (vB (r35 ^^^ x53)),fun v _=>v = (ptr b3 0),fun v _=>v = (ptr b3 (0 + (s8.2).toNat * 1024)),fun v _=>v = (ptr b3 (0 + (s8.2).toNat * 1024 + (s19.2).toNat * 256)),fun v _=>v = (ptr b3 (0 + (s8.2).toNat * 1024 + (s19.2).toNat * 256 + ((orI s30.2 s40.2)).toNat * 1))] : List (Value → World → Prop)).getD j (fun _ _=>True)) (fun _ _ h hk=>h.keep hk) (gup (Zh (Zh (Zh (Zh (Zh (Zh (Zh (Zh (Zh (Zh (Zh (Zh (Zh (Zh (Zh (Zh (Zh (Zh (Zh (Zh (Zh W9)))))))))))))))))))))) hE hM.drew (ZP (Zb ?_ (Zb ?_ (Zb ?_ (Zb ?_ (Zb ?_ (Zb ?_ (Zb ?_ (Zb ?_ (Zb ?_ (Zb ?_ (Zb ?_ (Zb ?_ (Zb ?_ (Zb ?_ (Zb ?_ (Zb ?_ (Zb ?_ (Zb ?_ (Zb ?_ (Zb ?_ (Zb ?_ ZK)))))))))))))))))))))) ?_
         ·exact fun a w ux45 hE hM hp=>Zd hE Za ld rfl fun a hE=>⟨Kept.refl _ _,_,_,rfl,hE,rfl⟩
         ·exact fun a w ux45 hE hM hp=>Zd hE Za ld rfl fun a hE=>⟨Kept.refl _ _,_,_,rfl,hE,rfl⟩
         ·exact fun a w ux45 hE hM hp=>Zd hE Za ld rfl fun a hE=>⟨Kept.refl _ _,_,_,rfl,hE,rfl⟩
         ·exact fun a w ux45 hE hM hp=>Zd hE Za ld rfl fun a hE=>⟨Kept.refl _ _,_,_,rfl,hE,rfl⟩
         ·exact fun a w ux45 hE hM hp=>Zd hE Za ld rfl fun a hE=>⟨Kept.refl _ _,_,_,rfl,hE,rfl⟩
         ·intro a w ux45 hE hM hp
          have f3 : ux45 3 = (vI s30.2):=hp 0 _ rfl rfl
          have f4 : ux45 4 = (vI s40.2):=hp 1 _ rfl rfl
          exact Zi hE Za ld (lk rfl f3) (lk rfl f4) rfl fun a hE=>⟨Kept.refl _ _,_,_,rfl,hE,rfl⟩
         ·exact fun a w ux45 hE hM hp=>Zd hE Za ld rfl fun a hE=>⟨Kept.refl _ _,_,_,rfl,hE,rfl⟩
         ·exact fun a w ux45 hE hM hp=>Zd hE Za ld rfl fun a hE=>⟨Kept.refl _ _,_,_,rfl,hE,rfl⟩
         ·exact fun a w ux45 hE hM hp=>Zd hE Za ld rfl fun a hE=>⟨Kept.refl _ _,_,_,rfl,hE,rfl⟩
         ·exact fun a w ux45 hE hM hp=>Zd hE Za ld rfl fun a hE=>⟨Kept.refl _ _,_,_,rfl,hE,rfl⟩
         ·exact fun a w ux45 hE hM hp=>Zd hE Za ld rfl fun a hE=>⟨Kept.refl _ _,_,_,rfl,hE,rfl⟩
         ·intro a w ux45 hE hM hp
          have f7 : ux45 7 = (ptr b3 0):=hp 0 _ rfl rfl
          exact Xd hE Za ld (lk rfl f7) fun a hE=>⟨Kept.refl _ _,_,_,rfl,hE,rfl⟩
         ·intro a w ux45 hE hM hp
          have f8 : ux45 8 = (vI s8.2):=hp 1 _ rfl rfl
          have f11 : ux45 11 = (ptr b3 0):=hp 0 _ rfl rfl
          exact Zg hE Za ld (lk rfl f11) (lk rfl f8) Try.underlying180 Qt hi46.1 fun a hE=>⟨Kept.refl _ _,_,_,rfl,hE,rfl⟩
         ·intro a w ux45 hE hM hp
          have f9 : ux45 9 = (vI s19.2):=hp 1 _ rfl rfl
          have f12 : ux45 12 = (ptr b3 (0 + (s8.2).toNat * 1024)):=hp 0 _ rfl rfl
          exact Zg hE Za ld (lk rfl f12) (lk rfl f9) Try.underlying178 K2 hi49.1 fun a hE=>⟨Kept.refl _ _,_,_,rfl,hE,rfl⟩
         ·intro a w ux45 hE hM hp
          have f10 : ux45 10 = (vI s40.2):=hp 1 _ rfl rfl
          have f13 : ux45 13 = (ptr b3 (0 + (s8.2).toNat * 1024 + (s19.2).toNat * 256)):=hp 0 _ rfl rfl
          exact Zg hE Za ld (lk rfl f13) (lk rfl f10) Try.underlying41 ty5 hi52.1 fun a hE=>⟨Kept.refl _ _,_,_,rfl,hE,rfl⟩
         ·intro a w ux45 hE hM hp
          have f14 : ux45 14 = (ptr b3 (0 + (s8.2).toNat * 1024 + (s19.2).toNat * 256 + (s40.2).toNat * 1)):=hp 0 _ rfl rfl
          exact Zu (v:=(vB x53)) hE Za ld (lk rfl f14) ty5 rfl (At.vec (At.vec (At.vec (hM.rawAt (pre:=[])) hi46.2) hi49.2) hi52.2) fun a hE=>⟨Kept.refl _ _,_,_,rfl,hE,rfl⟩
         ·intro a w ux45 hE hM hp
          have f6 : ux45 6 = (vB r35):=hp 0 _ rfl rfl
          have f15 : ux45 15 = (vB x53):=hp 1 _ rfl rfl
          exact Zi hE Za ld (lk rfl f6) (lk rfl f15) (WE r35 x53) fun a hE=>⟨Kept.refl _ _,_,_,rfl,hE,rfl⟩
         ·intro a w ux45 hE hM hp
          have f0 : ux45 0 = (ptr b3 0):=hp 0 _ rfl rfl
          exact Xd hE Za ld (lk rfl f0) fun a hE=>⟨Kept.refl _ _,_,_,rfl,hE,rfl⟩
         ·intro a w ux45 hE hM hp
          have f1 : ux45 1 = (vI s8.2):=hp 1 _ rfl rfl
          have f17 : ux45 17 = (ptr b3 0):=hp 0 _ rfl rfl
          exact Zg hE Za ld (lk rfl f17) (lk rfl f1) Try.underlying180 Qt hi55.1 fun a hE=>⟨Kept.refl _ _,_,_,rfl,hE,rfl⟩
         ·intro a w ux45 hE hM hp
          have f2 : ux45 2 = (vI s19.2):=hp 1 _ rfl rfl
          have f18 : ux45 18 = (ptr b3 (0 + (s8.2).toNat * 1024)):=hp 0 _ rfl rfl
          exact Zg hE Za ld (lk rfl f18) (lk rfl f2) Try.underlying178 K2 hi58.1 fun a hE=>⟨Kept.refl _ _,_,_,rfl,hE,rfl⟩
         ·intro a w ux45 hE hM hp
          have f5 : ux45 5 = (vI (orI s30.2 s40.2)):=hp 1 _ rfl rfl
          have f19 : ux45 19 = (ptr b3 (0 + (s8.2).toNat * 1024 + (s19.2).toNat * 256)):=hp 0 _ rfl rfl
          exact Zg hE Za ld (lk rfl f19) (lk rfl f5) Try.underlying41 ty5 hi61.1 fun a hE=>⟨Kept.refl _ _,_,_,rfl,hE,rfl⟩
         ·intro a w ux45 hE hM hg
          have hE:=hE.sub (e':=[(53,(vB (r35 ^^^ x53))),(57,(ptr b3 (0 + (s8.2).toNat * 1024 + (s19.2).toNat * 256 + ((orI s30.2 s40.2)).toNat * 1))),(0,vI p0),(3,(ptr b1 0)),(5,(ptr b3 0)),(6,vI s8.2),(7,vI s19.2),(8,vB x24),(9,vI s30.2),(10,vB r35),(11,vI s40.2),(14,vI s8.2),(19,(Value.agg (enc x14).toArray)),(20,vI s19.2),(33,vI s30.2),(34,vI s40.2),(35,(vT (decide (s40.2 < s30.2)))),(36,vI s40.2)]) ⟨lk rfl (hg 16 (by decide)),lk rfl (hg 20 (by decide)),rfl,rfl,rfl,rfl,rfl,rfl,rfl,rfl,rfl,rfl,rfl,rfl,rfl,rfl,rfl,rfl,trivial⟩
          refine Zm (seg:=[(vB (r35 ^^^ x53))]) (cs':=enc (s40.1.setIfInBounds (s8.2).toNat (x56.setIfInBounds (s19.2).toNat (x59.setIfInBounds ((orI s30.2 s40.2)).toNat (r35 ^^^ x53))))) hE hM Za rfl rfl rfl ty5 rfl (XM (o':=(s19.2).toNat * 256 + (0 + ((orI s30.2 s40.2)).toNat * 1)) hi55 (XM (o':=0 + ((orI s30.2 s40.2)).toNat * 1) hi58 (ZE (v:=x59) (x:=r35 ^^^ x53) hi61.1) (by first | omega | (simp only [Flat.n] <;> omega))) (by first | omega | (simp only [Flat.n] <;> omega))) (Flat.cell (r35 ^^^ x53 : UInt8)) (Yr (o':=(s19.2).toNat * 256 + (0 + ((orI s30.2 s40.2)).toNat * 1)) hi55 (XM (o':=0 + ((orI s30.2 s40.2)).toNat * 1) hi58 (ZE (v:=x59) (x:=r35 ^^^ x53) hi61.1) (by first | omega | (simp only [Flat.n] <;> omega))) (Yr (o':=0 + ((orI s30.2 s40.2)).toNat * 1) hi58 (ZE (v:=x59) (x:=r35 ^^^ x53) hi61.1) (Zs (v:=x59) (x:=r35 ^^^ x53) hi61.1) (by first | omega | (simp only [Flat.n] <;> omega))) (by first | omega | (simp only [Flat.n] <;> omega))) fun w a hM hE=>Zj (Yg (Zy (wp_region_lit (Zi hE Za ld rfl rfl rfl fun a hE=>Zd hE Za ld rfl fun a hE=>Zj (Zk ?_)))))
          exact ⟨_,(ois hs41),hE.sub ⟨rfl,rfl,rfl,rfl,rfl,rfl,rfl,rfl,rfl,rfl,rfl,rfl,rfl,trivial⟩,hM⟩
        ·intro hb44
         have hs41:=ZA hs41 hb44
         refine wp_exit (Zo (Zo (Yt ?_)))
         have ht64:=hx42 _ (ois hs41)
         subst ht64
         refine Zk ?_
         exact ⟨hE.sub ⟨rfl,rfl,rfl,rfl,rfl,rfl,rfl,rfl,rfl,rfl,trivial⟩,hM⟩
       ·skip
        rintro a w ⟨hE,hM⟩
        refine Yg (Zy (wp_region_lit (Zd hE Za ld rfl fun a hE=>Zi hE Za ld rfl rfl rfl fun a hE=>Ze hE Za ld rfl fun a hE=>Zj (Zk ?_))))
        exact ⟨_,(ois hF39),hE.sub ⟨rfl,rfl,rfl,rfl,rfl,rfl,rfl,rfl,rfl,rfl,trivial⟩,hM⟩
      ·intro hb34
       have hs31:=ZA hs31 hb34
       refine wp_exit (Zo (Zo (Yt ?_)))
       have ht65:=hx32 _ (ois hs31)
       subst ht65
       refine Zk ?_
       exact ⟨hE.sub ⟨rfl,rfl,rfl,rfl,rfl,rfl,rfl,trivial⟩,hM⟩
     ·skip
      rintro a w ⟨hE,hM⟩
      refine Yg (Zy (wp_region_lit (Zi hE Za ld rfl rfl rfl fun a hE=>Zd hE Za ld rfl fun a hE=>Zj (Zk ?_))))
      exact ⟨_,(ois hF29),hE.sub ⟨rfl,rfl,rfl,rfl,rfl,rfl,rfl,trivial⟩,hM⟩
    ·intro hb23
     have hs20:=ZA hs20 hb23
     refine wp_exit (Zo (Zo (Yt ?_)))
     have ht66:=hx21 _ (ois hs20)
     subst ht66
     refine Zk ?_
     exact ⟨hE.sub ⟨rfl,rfl,rfl,rfl,trivial⟩,hM⟩
   ·skip
    rintro a w ⟨hE,hM⟩
    refine Yg (Zy (wp_region_lit (Zi hE Za ld rfl rfl rfl fun a hE=>Zd hE Za ld rfl fun a hE=>Zj (Zk ?_))))
    exact ⟨_,(ois hF18),hE.sub ⟨rfl,rfl,rfl,rfl,trivial⟩,hM⟩
  ·intro hb12
   have hs9:=ZA hs9 hb12
   refine wp_exit (Zo (Zo (Yt ?_)))
   have ht67:=hx10 _ (ois hs9)
   subst ht67
   refine Zk ?_
   have hM:=M.fst (l:=[_]) hM
   exact ⟨hE.sub ⟨rfl,trivial⟩,hM⟩
 ·skip
  rintro a w ⟨hE,hM⟩
  refine Zy (Zc (Zd hE Za ld rfl fun a hE=>Ze hE Za ld rfl fun a hE=>Zf ?_))
  have hM:=M.toRefF (x:=j5) hM
  have hr:=Option.some.inj hF7
  subst hr
  exact wp_ret (ZC hE rfl (Zx hE rfl) ⟨_,rfl,(ptr b3 0),rfl,hM.outF (HV KX),hM.kept⟩)
def XI (p0 : GCipher) : Option ((Ref Gengine)) :=
 (Yb p0.Field p0.Mix).bind fun r3=>(Xe p0.Box).bind fun r8=>(Yx p0.Places).bind fun r10=>(Xt p0.Field p0.Mix).bind fun r12=>(Xt p0.Field r3.2).bind fun r15=>some (⟨(⟨p0.Box,r8,p0.Places,r10,r12,r15,p0.Rounds⟩ : Gengine)⟩ : (Ref Gengine))
theorem TC (w0 : World) (p0 : GCipher) (r : (Ref Gengine)) (hF : XI p0 = some r) :
  Calls Try.prog 75 [(Value.agg (enc p0).toArray)].toArray w0 (fun en w'=>∃ v,en = .returned v ∧ (∃ (y1 : Value),v = y1 ∧ Fr w0 w' [own NoB (r : (Ref Gengine)) [y1]] ∧ Kept (Old w0) w0 w')):=by
 refine ZB (n:=36) Try.func75 rfl rfl (nbl rfl) rfl ?_
 intro a hE
 have hM:=M.start w0
 unfold XI at hF
 refine Zc (ZR (cs:=cat [[vI p0.Field],enc p0.Box,enc p0.Mix,enc p0.Places,[vI p0.Rounds]]) hE hM Za ld rfl rfl fun b1 w a hM hE=>Ze hE Za ld rfl fun a hE=>Zf (Zc (Zp hE Za ld rfl (V3) fun a hE=>Zu (v:=(vI p0.Field)) hE Za ld rfl ty2 rfl (At.cat (pre:=[]) (hM.rawAt (pre:=[])) cl0) fun a hE=>Zp hE Za ld rfl (Tx) fun a hE=>Zl (cs:=enc p0.Mix) hE Za ld rfl Yi rfl (At.cat (pre:=[[vI p0.Field],enc p0.Box]) (hM.rawAt (pre:=[])) (cl1 (n:=1) (m:=256) rfl (cl1 (n:=256) (m:=0) (Flat.len _) cl0))) (Flat.len _) ?_))); intro a hE
 obtain ⟨r3,e4,hF⟩:=bind_some hF
 refine Zv hE Za ld rfl cb126 (Vj _ p0.Field p0.Mix r3 e4) ?_
 rintro v w a ⟨rfl,hK⟩ hE
 have hM:=hM.keep hK
 refine Zd hE Za ld rfl fun a hE=>Yk hE Za ld rfl rfl fun a hE=>Yk hE Za ld rfl rfl fun a hE=>ZF hE hM Za ld Yi fun b5 w a hM hE=>Ze hE Za ld rfl fun a hE=>Zm (seg:=enc r3.2) (cs':=enc r3.2) hE hM Za rfl rfl rfl Yi (Flat.len _) (zle flq) (Flat.cell _) (Zn flq) fun w a hM hE=>Zf (wp_seq ?_)
 obtain ⟨r8,e9,hF⟩:=bind_some hF
 obtain ⟨r10,e11,hF⟩:=bind_some hF
 obtain ⟨r12,e13,hF⟩:=bind_some hF
 obtain ⟨r15,e16,hF⟩:=bind_some hF
 refine Bo (n:=36) (hd:=[_,_,_,_,_,_,_,_,_,_,_,_,_,_,_,_,_,_,_,_,_]) (tl:=[_,_,_]) (its:=[raw b5 (enc r3.2),raw b1 (cat [[vI p0.Field],enc p0.Box,enc p0.Mix,enc p0.Places,[vI p0.Rounds]])]) Wa rfl rfl [13,14,15,16,17,18,19,20,21,22,23,24,25,26,27,28,29,30,31,32,33] (by decide) [(14,fun v=>own NoB (r12 : (Ref (Vector (Vector (Vector UInt8 256) 4) 4))) [v]),(18,fun v=>own NoB (r15 : (Ref (Vector (Vector (Vector UInt8 256) 4) 4))) [v])] rfl (fun j=>([fun v=>v = (ptr b1 (0 + 1)),fun v=>v = (Value.agg (enc p0.Box).toArray),fun v=>v = (ptr b1 (0 + 1)),fun v=>v = (Value.agg (enc p0.Box).toArray),fun v=>v = (Value.agg (enc r8).toArray),fun v=>v = (ptr b1 (0 + 273)),fun v=>v = (Value.agg (enc p0.Places).toArray),fun v=>v = (ptr b1 (0 + 273)),fun v=>v = (Value.agg (enc p0.Places).toArray),fun v=>v = (Value.agg (enc r10).toArray),fun v=>v = (ptr b1 (0 + 0)),fun v=>v = (vI p0.Field),fun v=>v = (ptr b1 (0 + 257)),fun v=>v = (Value.agg (enc p0.Mix).toArray),fun v=>True,fun v=>v = (ptr b1 (0 + 0)),fun v=>v = (vI p0.Field),fun v=>v = (Value.agg (enc r3.2).toArray),fun v=>True,fun v=>v = (ptr b1 (0 + 289)),fun v=>v = (vI p0.Rounds)] : List (Value → Prop)).getD j (fun _=>True)) hE hM.drew (ZP (Zb ?_ (Zb ?_ (Zb ?_ (Zb ?_ (Zb ?_ (Zb ?_ (Zb ?_ (Zb ?_ (Zb ?_ (Zb ?_ (Zb ?_ (Zb ?_ (Zb ?_ (Zb ?_ (Zb ?_ (Zb ?_ (Zb ?_ (Zb ?_ (Zb ?_ (Zb ?_ (Zb ?_ ZK)))))))))))))))))))))) ?_
 ·intro a w ux7 D hE hM hD hp
  have hM0:=hM
  exact Zp hE Za ld rfl (U1) fun a hE=>⟨_,_,rfl,hE,rfl,hM0.optKeep rfl⟩
 ·intro a w ux7 D hE hM hD hp
  have f0 : ux7 0 = (ptr b1 (0 + 1)):=(hp 0 _ rfl rfl).2
  have hM0:=hM
  have hM : M (Old w0) w0 w [raw b5 (enc r3.2),raw b1 (cat [[vI p0.Field],enc p0.Box,enc p0.Mix,enc p0.Places,[vI p0.Rounds]]),opt (D 14) (own NoB (r12 : (Ref (Vector (Vector (Vector UInt8 256) 4) 4))) [(ux7 14)]),opt (D 18) (own NoB (r15 : (Ref (Vector (Vector (Vector UInt8 256) 4) 4))) [(ux7 18)])]:=hM
  exact Zl (cs:=enc p0.Box) hE Za ld (lk rfl f0) Vl rfl (At.cat (pre:=[[vI p0.Field]]) (hM.rawAt (pre:=[_])) (cl1 (n:=1) (m:=0) rfl cl0)) (Flat.len _) fun a hE=>⟨_,_,rfl,hE,rfl,hM0.optKeep rfl⟩
 ·intro a w ux7 D hE hM hD hp
  have hM0:=hM
  exact Zp hE Za ld rfl (U1) fun a hE=>⟨_,_,rfl,hE,rfl,hM0.optKeep rfl⟩
 ·intro a w ux7 D hE hM hD hp
  have f2 : ux7 2 = (ptr b1 (0 + 1)):=(hp 0 _ rfl rfl).2
  have hM0:=hM
  have hM : M (Old w0) w0 w [raw b5 (enc r3.2),raw b1 (cat [[vI p0.Field],enc p0.Box,enc p0.Mix,enc p0.Places,[vI p0.Rounds]]),opt (D 14) (own NoB (r12 : (Ref (Vector (Vector (Vector UInt8 256) 4) 4))) [(ux7 14)]),opt (D 18) (own NoB (r15 : (Ref (Vector (Vector (Vector UInt8 256) 4) 4))) [(ux7 18)])]:=hM
  exact Zl (cs:=enc p0.Box) hE Za ld (lk rfl f2) Vl rfl (At.cat (pre:=[[vI p0.Field]]) (hM.rawAt (pre:=[_])) (cl1 (n:=1) (m:=0) rfl cl0)) (Flat.len _) fun a hE=>⟨_,_,rfl,hE,rfl,hM0.optKeep rfl⟩
 ·intro a w ux7 D hE hM hD hp
  have f3 : ux7 3 = (Value.agg (enc p0.Box).toArray):=(hp 0 _ rfl rfl).2
  have hM0:=hM
  refine Zv hE Za ld (YL (Ys (lk rfl f3) Ve)) cb127 (UY _ p0.Box r8 e9) ?_
  rintro v w a ⟨rfl,hK⟩ hE
  exact ⟨_,_,rfl,hE,rfl,(hM0.keep hK).optKeep rfl⟩
 ·intro a w ux7 D hE hM hD hp
  have hM0:=hM
  exact Zp hE Za ld rfl (TU) fun a hE=>⟨_,_,rfl,hE,rfl,hM0.optKeep rfl⟩
 ·intro a w ux7 D hE hM hD hp
  have f5 : ux7 5 = (ptr b1 (0 + 273)):=(hp 0 _ rfl rfl).2
  have hM0:=hM
  have hM : M (Old w0) w0 w [raw b5 (enc r3.2),raw b1 (cat [[vI p0.Field],enc p0.Box,enc p0.Mix,enc p0.Places,[vI p0.Rounds]]),opt (D 14) (own NoB (r12 : (Ref (Vector (Vector (Vector UInt8 256) 4) 4))) [(ux7 14)]),opt (D 18) (own NoB (r15 : (Ref (Vector (Vector (Vector UInt8 256) 4) 4))) [(ux7 18)])]:=hM
  exact Zl (cs:=enc p0.Places) hE Za ld (lk rfl f5) Vg rfl (At.cat (pre:=[[vI p0.Field],enc p0.Box,enc p0.Mix]) (hM.rawAt (pre:=[_])) (cl1 (n:=1) (m:=272) rfl (cl1 (n:=256) (m:=16) (Flat.len _) (cl1 (n:=16) (m:=0) (Flat.len _) cl0)))) (Flat.len _) fun a hE=>⟨_,_,rfl,hE,rfl,hM0.optKeep rfl⟩
 ·intro a w ux7 D hE hM hD hp
  have hM0:=hM
  exact Zp hE Za ld rfl (TU) fun a hE=>⟨_,_,rfl,hE,rfl,hM0.optKeep rfl⟩
 ·intro a w ux7 D hE hM hD hp
  have f7 : ux7 7 = (ptr b1 (0 + 273)):=(hp 0 _ rfl rfl).2
  have hM0:=hM
  have hM : M (Old w0) w0 w [raw b5 (enc r3.2),raw b1 (cat [[vI p0.Field],enc p0.Box,enc p0.Mix,enc p0.Places,[vI p0.Rounds]]),opt (D 14) (own NoB (r12 : (Ref (Vector (Vector (Vector UInt8 256) 4) 4))) [(ux7 14)]),opt (D 18) (own NoB (r15 : (Ref (Vector (Vector (Vector UInt8 256) 4) 4))) [(ux7 18)])]:=hM
  exact Zl (cs:=enc p0.Places) hE Za ld (lk rfl f7) Vg rfl (At.cat (pre:=[[vI p0.Field],enc p0.Box,enc p0.Mix]) (hM.rawAt (pre:=[_])) (cl1 (n:=1) (m:=272) rfl (cl1 (n:=256) (m:=16) (Flat.len _) (cl1 (n:=16) (m:=0) (Flat.len _) cl0)))) (Flat.len _) fun a hE=>⟨_,_,rfl,hE,rfl,hM0.optKeep rfl⟩
 ·intro a w ux7 D hE hM hD hp
  have f8 : ux7 8 = (Value.agg (enc p0.Places).toArray):=(hp 0 _ rfl rfl).2
  have hM0:=hM
  refine Zv hE Za ld (YL (Ys (lk rfl f8) Ve)) cb128 (Uc _ p0.Places r10 e11) ?_
  rintro v w a ⟨rfl,hK⟩ hE
  exact ⟨_,_,rfl,hE,rfl,(hM0.keep hK).optKeep rfl⟩
 ·intro a w ux7 D hE hM hD hp
  have hM0:=hM
  exact Zp hE Za ld rfl (V3) fun a hE=>⟨_,_,rfl,hE,rfl,hM0.optKeep rfl⟩
 ·intro a w ux7 D hE hM hD hp
  have f10 : ux7 10 = (ptr b1 (0 + 0)):=(hp 0 _ rfl rfl).2
  have hM0:=hM
  have hM : M (Old w0) w0 w [raw b5 (enc r3.2),raw b1 (cat [[vI p0.Field],enc p0.Box,enc p0.Mix,enc p0.Places,[vI p0.Rounds]]),opt (D 14) (own NoB (r12 : (Ref (Vector (Vector (Vector UInt8 256) 4) 4))) [(ux7 14)]),opt (D 18) (own NoB (r15 : (Ref (Vector (Vector (Vector UInt8 256) 4) 4))) [(ux7 18)])]:=hM
  exact Zu (v:=(vI p0.Field)) hE Za ld (lk rfl f10) ty2 rfl (At.cat (pre:=[]) (hM.rawAt (pre:=[_])) cl0) fun a hE=>⟨_,_,rfl,hE,rfl,hM0.optKeep rfl⟩
 ·intro a w ux7 D hE hM hD hp
  have hM0:=hM
  exact Zp hE Za ld rfl (Tx) fun a hE=>⟨_,_,rfl,hE,rfl,hM0.optKeep rfl⟩
 ·intro a w ux7 D hE hM hD hp
  have f12 : ux7 12 = (ptr b1 (0 + 257)):=(hp 0 _ rfl rfl).2
  have hM0:=hM
  have hM : M (Old w0) w0 w [raw b5 (enc r3.2),raw b1 (cat [[vI p0.Field],enc p0.Box,enc p0.Mix,enc p0.Places,[vI p0.Rounds]]),opt (D 14) (own NoB (r12 : (Ref (Vector (Vector (Vector UInt8 256) 4) 4))) [(ux7 14)]),opt (D 18) (own NoB (r15 : (Ref (Vector (Vector (Vector UInt8 256) 4) 4))) [(ux7 18)])]:=hM
  exact Zl (cs:=enc p0.Mix) hE Za ld (lk rfl f12) Yi rfl (At.cat (pre:=[[vI p0.Field],enc p0.Box]) (hM.rawAt (pre:=[_])) (cl1 (n:=1) (m:=256) rfl (cl1 (n:=256) (m:=0) (Flat.len _) cl0))) (Flat.len _) fun a hE=>⟨_,_,rfl,hE,rfl,hM0.optKeep rfl⟩
 ·intro a w ux7 D hE hM hD hp
  have f11 : ux7 11 = (vI p0.Field):=(hp 0 _ rfl rfl).2
  have f13 : ux7 13 = (Value.agg (enc p0.Mix).toArray):=(hp 1 _ rfl rfl).2
  have hM0:=hM
  have hM : M (Old w0) w0 w [raw b5 (enc r3.2),raw b1 (cat [[vI p0.Field],enc p0.Box,enc p0.Mix,enc p0.Places,[vI p0.Rounds]]),opt (D 14) (own NoB (r12 : (Ref (Vector (Vector (Vector UInt8 256) 4) 4))) [(ux7 14)]),opt (D 18) (own NoB (r15 : (Ref (Vector (Vector (Vector UInt8 256) 4) 4))) [(ux7 18)])]:=hM
  refine Zv hE Za ld (YL (Ys (lk rfl f11) (Ys (lk rfl f13) Ve))) cb129 (V8 _ p0.Field p0.Mix r12 e13) ?_
  rintro _ w a ⟨_,rfl,hFr,hK⟩ hE
  have hM:=hM0.add hK hFr
  exact ⟨_,_,rfl,hE,trivial,M.optFill (mk1:=[]) (mk2:=[_]) (f:=(fun v=>own NoB (r12 : (Ref (Vector (Vector (Vector UInt8 256) 4) 4))) [v])) hM rfl hD⟩
 ·intro a w ux7 D hE hM hD hp
  have hM0:=hM
  exact Zp hE Za ld rfl (V3) fun a hE=>⟨_,_,rfl,hE,rfl,hM0.optKeep rfl⟩
 ·intro a w ux7 D hE hM hD hp
  have f15 : ux7 15 = (ptr b1 (0 + 0)):=(hp 0 _ rfl rfl).2
  have hM0:=hM
  have hM : M (Old w0) w0 w [raw b5 (enc r3.2),raw b1 (cat [[vI p0.Field],enc p0.Box,enc p0.Mix,enc p0.Places,[vI p0.Rounds]]),opt (D 14) (own NoB (r12 : (Ref (Vector (Vector (Vector UInt8 256) 4) 4))) [(ux7 14)]),opt (D 18) (own NoB (r15 : (Ref (Vector (Vector (Vector UInt8 256) 4) 4))) [(ux7 18)])]:=hM
  exact Zu (v:=(vI p0.Field)) hE Za ld (lk rfl f15) ty2 rfl (At.cat (pre:=[]) (hM.rawAt (pre:=[_])) cl0) fun a hE=>⟨_,_,rfl,hE,rfl,hM0.optKeep rfl⟩
 ·intro a w ux7 D hE hM hD hp
  have hM0:=hM
  have hM : M (Old w0) w0 w [raw b5 (enc r3.2),raw b1 (cat [[vI p0.Field],enc p0.Box,enc p0.Mix,enc p0.Places,[vI p0.Rounds]]),opt (D 14) (own NoB (r12 : (Ref (Vector (Vector (Vector UInt8 256) 4) 4))) [(ux7 14)]),opt (D 18) (own NoB (r15 : (Ref (Vector (Vector (Vector UInt8 256) 4) 4))) [(ux7 18)])]:=hM
  exact Zl (cs:=enc r3.2) hE Za ld rfl Yi rfl (hM.rawAt (pre:=[])) (Flat.len _) fun a hE=>⟨_,_,rfl,hE,rfl,hM0.optKeep rfl⟩
 ·intro a w ux7 D hE hM hD hp
  have f16 : ux7 16 = (vI p0.Field):=(hp 0 _ rfl rfl).2
  have f17 : ux7 17 = (Value.agg (enc r3.2).toArray):=(hp 1 _ rfl rfl).2
  have hM0:=hM
  have hM : M (Old w0) w0 w [raw b5 (enc r3.2),raw b1 (cat [[vI p0.Field],enc p0.Box,enc p0.Mix,enc p0.Places,[vI p0.Rounds]]),opt (D 14) (own NoB (r12 : (Ref (Vector (Vector (Vector UInt8 256) 4) 4))) [(ux7 14)]),opt (D 18) (own NoB (r15 : (Ref (Vector (Vector (Vector UInt8 256) 4) 4))) [(ux7 18)])]:=hM
  refine Zv hE Za ld (YL (Ys (lk rfl f16) (Ys (lk rfl f17) Ve))) cb129 (V8 _ p0.Field r3.2 r15 e16) ?_
  rintro _ w a ⟨_,rfl,hFr,hK⟩ hE
  have hM:=hM0.add hK hFr
  exact ⟨_,_,rfl,hE,trivial,M.optFill (mk1:=[_]) (mk2:=[]) (f:=(fun v=>own NoB (r15 : (Ref (Vector (Vector (Vector UInt8 256) 4) 4))) [v])) hM rfl hD⟩
 ·intro a w ux7 D hE hM hD hp
  have hM0:=hM
  exact Zp hE Za ld rfl (TR) fun a hE=>⟨_,_,rfl,hE,rfl,hM0.optKeep rfl⟩
 ·intro a w ux7 D hE hM hD hp
  have f19 : ux7 19 = (ptr b1 (0 + 289)):=(hp 0 _ rfl rfl).2
  have hM0:=hM
  have hM : M (Old w0) w0 w [raw b5 (enc r3.2),raw b1 (cat [[vI p0.Field],enc p0.Box,enc p0.Mix,enc p0.Places,[vI p0.Rounds]]),opt (D 14) (own NoB (r12 : (Ref (Vector (Vector (Vector UInt8 256) 4) 4))) [(ux7 14)]),opt (D 18) (own NoB (r15 : (Ref (Vector (Vector (Vector UInt8 256) 4) 4))) [(ux7 18)])]:=hM
  exact Zu (v:=(vI p0.Rounds)) hE Za ld (lk rfl f19) ty2 rfl (At.cat (pre:=[[vI p0.Field],enc p0.Box,enc p0.Mix,enc p0.Places]) (hM.rawAt (pre:=[_])) (cl1 (n:=1) (m:=288) rfl (cl1 (n:=256) (m:=32) (Flat.len _) (cl1 (n:=16) (m:=16) (Flat.len _) (cl1 (n:=16) (m:=0) (Flat.len _) cl0))))) fun a hE=>⟨_,_,rfl,hE,rfl,hM0.optKeep rfl⟩
 ·intro a w ux7 hE hM hg
  have f1 : ux7 1 = (Value.agg (enc p0.Box).toArray):=hg 1 (by decide)
  have hM : M (Old w0) w0 w [raw b5 (enc r3.2),raw b1 (cat [[vI p0.Field],enc p0.Box,enc p0.Mix,enc p0.Places,[vI p0.Rounds]]),own NoB (r12 : (Ref (Vector (Vector (Vector UInt8 256) 4) 4))) [(ux7 14)],own NoB (r15 : (Ref (Vector (Vector (Vector UInt8 256) 4) 4))) [(ux7 18)]]:=hM
  have hE:=hE.sub (e':=[(14,(Value.agg (enc p0.Box).toArray)),(17,(Value.agg (enc r8).toArray)),(19,(Value.agg (enc p0.Places).toArray)),(22,(Value.agg (enc r10).toArray)),(27,(ux7 14)),(31,(ux7 18)),(33,vI p0.Rounds),(2,(Value.pointer none))]) ⟨lk rfl f1,lk rfl (hg 4 (by decide)),lk rfl (hg 6 (by decide)),lk rfl (hg 9 (by decide)),rfl,rfl,lk rfl (hg 20 (by decide)),rfl,trivial⟩
  refine QM (parts:=[(0,.tmp 14),(1,.tmp 17),(2,.tmp 19),(3,.tmp 22),(4,.tmp 27),(5,.tmp 31),(6,.tmp 33)]) (vs:=[(0,(Value.agg (enc p0.Box).toArray)),(1,(Value.agg (enc r8).toArray)),(2,(Value.agg (enc p0.Places).toArray)),(3,(Value.agg (enc r10).toArray)),(4,(ux7 14)),(5,(ux7 18)),(6,vI p0.Rounds)]) (cs:=cat [enc p0.Box,enc r8,enc p0.Places,enc r10,[(ux7 14)],[(ux7 18)],[vI p0.Rounds]]) hE Za ld rfl rfl T1 pl157 (WB (pre:=[]) (seg:=enc (Vector.replicate 256 (0 : UInt8))) (seg':=enc p0.Box) (post:=[enc (Vector.replicate 256 (0 : UInt8)),enc (Vector.replicate 16 (0 : UInt8)),enc (Vector.replicate 16 (0 : UInt8)),[(Value.pointer none)],[(Value.pointer none)],[vI 0]]) rfl cl0 (Flat.len _) (Flat.len _) rfl (WB (pre:=[enc p0.Box]) (seg:=enc (Vector.replicate 256 (0 : UInt8))) (seg':=enc r8) (post:=[enc (Vector.replicate 16 (0 : UInt8)),enc (Vector.replicate 16 (0 : UInt8)),[(Value.pointer none)],[(Value.pointer none)],[vI 0]]) rfl (cl1 (n:=256) (m:=0) (Flat.len _) cl0) (Flat.len _) (Flat.len _) rfl (WB (pre:=[enc p0.Box,enc r8]) (seg:=enc (Vector.replicate 16 (0 : UInt8))) (seg':=enc p0.Places) (post:=[enc (Vector.replicate 16 (0 : UInt8)),[(Value.pointer none)],[(Value.pointer none)],[vI 0]]) rfl (cl1 (n:=256) (m:=256) (Flat.len _) (cl1 (n:=256) (m:=0) (Flat.len _) cl0)) (Flat.len _) (Flat.len _) rfl (WB (pre:=[enc p0.Box,enc r8,enc p0.Places]) (seg:=enc (Vector.replicate 16 (0 : UInt8))) (seg':=enc r10) (post:=[[(Value.pointer none)],[(Value.pointer none)],[vI 0]]) rfl (cl1 (n:=256) (m:=272) (Flat.len _) (cl1 (n:=256) (m:=16) (Flat.len _) (cl1 (n:=16) (m:=0) (Flat.len _) cl0))) (Flat.len _) (Flat.len _) rfl (WB (pre:=[enc p0.Box,enc r8,enc p0.Places,enc r10]) (seg:=[(Value.pointer none)]) (seg':=[(ux7 14)]) (post:=[[(Value.pointer none)],[vI 0]]) rfl (cl1 (n:=256) (m:=288) (Flat.len _) (cl1 (n:=256) (m:=32) (Flat.len _) (cl1 (n:=16) (m:=16) (Flat.len _) (cl1 (n:=16) (m:=0) (Flat.len _) cl0)))) rfl rfl (TP (hM.ro (pre:=[_,_]) noB)) (WB (pre:=[enc p0.Box,enc r8,enc p0.Places,enc r10,[(ux7 14)]]) (seg:=[(Value.pointer none)]) (seg':=[(ux7 18)]) (post:=[[vI 0]]) rfl (cl1 (n:=256) (m:=289) (Flat.len _) (cl1 (n:=256) (m:=33) (Flat.len _) (cl1 (n:=16) (m:=17) (Flat.len _) (cl1 (n:=16) (m:=1) (Flat.len _) (cl1 (n:=1) (m:=0) rfl cl0))))) rfl rfl (TP (hM.ro (pre:=[_,_,_]) noB)) (WB (pre:=[enc p0.Box,enc r8,enc p0.Places,enc r10,[(ux7 14)],[(ux7 18)]]) (seg:=[vI 0]) (seg':=[vI p0.Rounds]) (post:=[]) rfl (cl1 (n:=256) (m:=290) (Flat.len _) (cl1 (n:=256) (m:=34) (Flat.len _) (cl1 (n:=16) (m:=18) (Flat.len _) (cl1 (n:=16) (m:=2) (Flat.len _) (cl1 (n:=1) (m:=1) rfl (cl1 (n:=1) (m:=0) rfl cl0)))))) rfl rfl rfl Jd))))))) fun a hE=>ZR (cs:=cat [enc p0.Box,enc r8,enc p0.Places,enc r10,[(ux7 14)],[(ux7 18)],[vI p0.Rounds]]) hE hM Za ld rfl rfl fun b18 w a hM hE=>Ze hE Za ld rfl fun a hE=>Zj (Zy ?_)
  have hM:=(hM.pull (pre:=[_,_,_,_])).pull (pre:=[_,_,_,_])
  have hM:=((hM.pack2 (it:=own NoB (⟨p0.Box,r8,p0.Places,r10,r12,r15,p0.Rounds⟩ : Gengine) (cat [enc p0.Box,enc r8,enc p0.Places,enc r10,[(ux7 14)],[(ux7 18)],[vI p0.Rounds]])) (U5 noB) (fun f0 f1 q0 q1=>(Jt q0 q1 (by simp)))).pull (pre:=[_])).pull (pre:=[_])
  have hM:=M.toRef (hM.pull (pre:=[_])) noB
  have hr:=Option.some.inj hF
  subst hr
  have hM:=M.fst (l:=[_]) hM
  exact wp_ret (ZC hE rfl (Zx hE rfl) ⟨_,rfl,(ptr b18 0),rfl,hM.outF (HV KX),hM.kept⟩)
def Z8 (p0 : (Ref Gengine)) (s35 : (Vector UInt8 16) × Int) : Option (Fl ((Vector UInt8 16) × Int) (Vector UInt8 16)) :=
 if (decide (s35.2 < 16)) = true then ((Zq s35.1 s35.2).bind fun x42=>(Zq s35.1 (wr (s35.2 - 1))).bind fun x45=>(Zq p0.v.box (bI x45)).bind fun x58=>(Zq s35.1 s35.2).bind fun x61=>some (Fl.nx ((s35.1.setIfInBounds (s35.2).toNat (x42 ^^^ x58)),wr (s35.2 + 1)))) else (some (Fl.ex s35.1))
def Yv (p0 : (Ref Gengine)) (p1 : (Vector UInt8 16)) (p2 : Int) : Option ((Vector UInt8 16)) :=
 ((Zq p1 (0 : Int)).bind fun x10=>(Zq p1 (15 : Int)).bind fun x13=>(Zq p0.v.box (bI (x13 ^^^ (ZO p2)))).bind fun x26=>(Zq p1 (0 : Int)).bind fun x29=>some (p1.setIfInBounds ((0 : Int)).toNat (x10 ^^^ x26)) : Option ((Vector UInt8 16))).bind fun j5=>(ZD (Z8 p0) (j5,1)).bind fun j32=>some j32
theorem Ud (w0 : World) (p0 : (Ref Gengine)) (v0_1 : Value) (hv0_1 : Ro w0 p0 [v0_1]) (p1 : (Vector UInt8 16)) (p2 : Int) (r : (Vector UInt8 16)) (hF : Yv p0 p1 p2 = some r) :
  Calls Try.prog 133 [v0_1,(Value.agg (enc p1).toArray),vI p2].toArray w0 (fun en w'=>∃ v,en = .returned v ∧ (v = (Value.agg (enc r).toArray) ∧ Kept (Old w0) w0 w')):=by
 refine ZB (n:=41) Try.func133 rfl rfl (nbl rfl) rfl ?_
 intro a hE
 have hM:=M.start w0
 unfold Yv at hF
 refine Zc (ZR (cs:=enc p1) hE hM Za ld rfl rfl fun b1 w a hM hE=>ZF hE hM Za ld ZL fun b3 w a hM hE=>Zf ?_)
 obtain ⟨j5,hl6,hF7⟩:=bind_some hF
 refine ZQ (fun a w=>Env 41 a [(0,v0_1),(4,(ptr b1 0)),(6,(ptr b3 0))] ∧ M (Old w0) w0 w [raw b3 (enc (Vector.replicate 16 (0 : UInt8))),raw b1 (enc j5)]) ?_ ?_
 ·skip
  obtain ⟨x10,hi9,hl6⟩:=bvx hl6
  obtain ⟨x13,hi12,hl6⟩:=bvx hl6
  obtain ⟨pb15,ds16,hv17,hx18,hA19,hB20⟩:=WX hv0_1 -- ^
  obtain ⟨u21,u23,rfl,h22,h24⟩:=Vx hx18 -- ^
  obtain ⟨x26,hi25,hl6⟩:=bvx hl6
  obtain ⟨x29,hi28,hl6⟩:=bvx hl6
  refine YA (n:=41) (hd:=[_,_,_,_,_,_,_,_,_,_,_,_,_,_]) (tl:=[_]) Wa rfl rfl [8,9,10,11,12,13,14,15,16,17,18,19,20,21] (by decide) (fun w=>M (Old w0) w0 w [raw b3 (enc (Vector.replicate 16 (0 : UInt8))),raw b1 (enc p1)]) (fun j=>([fun v _=>v = (ptr b1 (0 + ((0 : Int)).toNat * 1)),fun v _=>v = (vB x10),fun v _=>v = v0_1,fun v _=>v = (ptr b1 (0 + ((15 : Int)).toNat * 1)),fun v _=>v = (vB x13),fun v _=>v = (vI p2),fun v _=>v = (vB (ZO p2)),fun v _=>v = (vB (x13 ^^^ (ZO p2))),fun v _=>v = (ptr pb15 0),fun v _=>v = (ptr pb15 (0 + 0)),fun v _=>v = (ptr pb15 (0 + 0 + ((bI (x13 ^^^ (ZO p2)))).toNat * 1)),fun v _=>v = (vB x26),fun v _=>v = (vB (x10 ^^^ x26)),fun v _=>v = (ptr b1 (0 + ((0 : Int)).toNat * 1))] : List (Value → World → Prop)).getD j (fun _ _=>True)) (fun _ _ h hk=>h.keep hk) (gup (Zh (Zh (Zh (Zh (Zh (Zh (Zh (Zh (Zh (Zh (Zh (Zh (Zh (Zh W9))))))))))))))) hE hM.drew (ZP (Zb ?_ (Zb ?_ (Zb ?_ (Zb ?_ (Zb ?_ (Zb ?_ (Zb ?_ (Zb ?_ (Zb ?_ (Zb ?_ (Zb ?_ (Zb ?_ (Zb ?_ (Zb ?_ ZK))))))))))))))) ?_
  ·exact fun a w ux8 hE hM hp=>Zg hE Za ld rfl rfl Try.underlying55 ty5 hi9.1 fun a hE=>⟨Kept.refl _ _,_,_,rfl,hE,rfl⟩
  ·intro a w ux8 hE hM hp
   have f0 : ux8 0 = (ptr b1 (0 + ((0 : Int)).toNat * 1)):=hp 0 _ rfl rfl
   exact Zu (v:=(vB x10)) hE Za ld (lk rfl f0) ty5 rfl (At.vec (hM.rawAt (pre:=[_])) hi9.2) fun a hE=>⟨Kept.refl _ _,_,_,rfl,hE,rfl⟩
  ·exact fun a w ux8 hE hM hp=>Zd hE Za ld rfl fun a hE=>⟨Kept.refl _ _,_,_,rfl,hE,rfl⟩
  ·exact fun a w ux8 hE hM hp=>Zg hE Za ld rfl rfl Try.underlying55 ty5 hi12.1 fun a hE=>⟨Kept.refl _ _,_,_,rfl,hE,rfl⟩
  ·intro a w ux8 hE hM hp
   have f3 : ux8 3 = (ptr b1 (0 + ((15 : Int)).toNat * 1)):=hp 0 _ rfl rfl
   exact Zu (v:=(vB x13)) hE Za ld (lk rfl f3) ty5 rfl (At.vec (hM.rawAt (pre:=[_])) hi12.2) fun a hE=>⟨Kept.refl _ _,_,_,rfl,hE,rfl⟩
  ·exact fun a w ux8 hE hM hp=>Zd hE Za ld rfl fun a hE=>⟨Kept.refl _ _,_,_,rfl,hE,rfl⟩
  ·intro a w ux8 hE hM hp
   have f5 : ux8 5 = (vI p2):=hp 0 _ rfl rfl
   refine XW hE Za ld (lk rfl f5) Try.underlying2 Try.underlying5 ?_; intro a hE
   rw [Xq] at hE
   exact ⟨Kept.refl _ _,_,_,rfl,hE,rfl⟩
  ·intro a w ux8 hE hM hp
   have f4 : ux8 4 = (vB x13):=hp 0 _ rfl rfl
   have f6 : ux8 6 = (vB (ZO p2)):=hp 1 _ rfl rfl
   exact Zi hE Za ld (lk rfl f4) (lk rfl f6) (WE x13 (ZO p2)) fun a hE=>⟨Kept.refl _ _,_,_,rfl,hE,rfl⟩
  ·intro a w ux8 hE hM hp
   have f2 : ux8 2 = v0_1:=hp 0 _ rfl rfl
   exact Xd hE Za ld (lk (lk rfl f2) hv17) fun a hE=>⟨Kept.refl _ _,_,_,rfl,hE,rfl⟩
  ·intro a w ux8 hE hM hp
   have f8 : ux8 8 = (ptr pb15 0):=hp 0 _ rfl rfl
   exact Zp hE Za ld (lk rfl f8) (Kq) fun a hE=>⟨Kept.refl _ _,_,_,rfl,hE,rfl⟩
  ·intro a w ux8 hE hM hp
   have f7 : ux8 7 = (vB (x13 ^^^ (ZO p2))):=hp 1 _ rfl rfl
   have f9 : ux8 9 = (ptr pb15 (0 + 0)):=hp 0 _ rfl rfl
   exact Zg hE Za ld (lk rfl f9) (lk rfl f7) Try.underlying49 ty5 hi25.1 fun a hE=>⟨Kept.refl _ _,_,_,rfl,hE,rfl⟩
  ·intro a w ux8 hE hM hp
   have f10 : ux8 10 = (ptr pb15 (0 + 0 + ((bI (x13 ^^^ (ZO p2)))).toNat * 1)):=hp 0 _ rfl rfl
   exact Zu (v:=(vB x26)) hE Za ld (lk rfl f10) ty5 rfl (At.vec (At.cat (pre:=[]) (hM.atk hA19 hB20) cl0) hi25.2) fun a hE=>⟨Kept.refl _ _,_,_,rfl,hE,rfl⟩
  ·intro a w ux8 hE hM hp
   have f1 : ux8 1 = (vB x10):=hp 0 _ rfl rfl
   have f11 : ux8 11 = (vB x26):=hp 1 _ rfl rfl
   exact Zi hE Za ld (lk rfl f1) (lk rfl f11) (WE x10 x26) fun a hE=>⟨Kept.refl _ _,_,_,rfl,hE,rfl⟩
  ·exact fun a w ux8 hE hM hp=>Zg hE Za ld rfl rfl Try.underlying55 ty5 hi28.1 fun a hE=>⟨Kept.refl _ _,_,_,rfl,hE,rfl⟩
  ·intro a w ux8 hE hM hg
   have hE:=hE.sub (e':=[(20,(vB (x10 ^^^ x26))),(21,(ptr b1 (0 + ((0 : Int)).toNat * 1))),(0,v0_1),(4,(ptr b1 0)),(6,(ptr b3 0))]) ⟨lk rfl (hg 12 (by decide)),lk rfl (hg 13 (by decide)),rfl,rfl,rfl,trivial⟩
   have hM:=hM.pull (pre:=[_])
   refine Zm (seg:=[(vB (x10 ^^^ x26))]) (cs':=enc (p1.setIfInBounds ((0 : Int)).toNat (x10 ^^^ x26))) hE hM Za rfl rfl rfl ty5 rfl (ZE (v:=p1) (x:=x10 ^^^ x26) hi28.1) (Flat.cell (x10 ^^^ x26 : UInt8)) (Zs (v:=p1) (x:=x10 ^^^ x26) hi28.1) fun w a hM hE=>Zj ?_
   have ht31:=Option.some.inj hl6
   subst ht31
   refine Zk ?_
   have hM:=hM.pull (pre:=[_])
   exact ⟨hE.sub ⟨rfl,rfl,rfl,trivial⟩,hM⟩
 ·skip
  rintro a w ⟨hE,hM⟩
  refine wp_seq (Zc (Ze hE Za ld rfl fun a hE=>Zf ?_))
  obtain ⟨j32,hl33,hF34⟩:=bind_some hF7
  refine ZU (fun a w=>Env 41 a [(4,(ptr b1 0)),(6,(ptr b3 0))] ∧ M (Old w0) w0 w [raw b3 (enc (Vector.replicate 16 (0 : UInt8))),raw b1 (enc j32)]) ?_ ?_
  ·skip
   refine wp_block ?_
   refine ZG (fun (s35 : (Vector UInt8 16) × Int) a w=>Env 41 a [(0,v0_1),(4,(ptr b1 0)),(6,(ptr b3 0)),(7,vI s35.2)] ∧ M (Old w0) w0 w [raw b3 (enc (Vector.replicate 16 (0 : UInt8))),raw b1 (enc s35.1)]) hl33 ⟨hE.sub ⟨rfl,rfl,rfl,rfl,trivial⟩,hM⟩ ?_
   rintro s35 a w ⟨hE,hM⟩ o38 hs36 hx37
   unfold Z8 at hs36
   refine wp_seq (Zc (Zd hE Za ld rfl fun a hE=>Zi hE Za ld rfl rfl rfl fun a hE=>Zf ?_))
   refine Zw hE rfl ?_ ?_
   ·intro hb39
    have hs36:=Zz hs36 hb39
    refine wp_skip (Zy (wp_seq (wp_block ?_)))
    obtain ⟨x42,hi41,hs36⟩:=bvx hs36
    obtain ⟨x45,hi44,hs36⟩:=bvx hs36
    obtain ⟨pb47,ds48,hv49,hx50,hA51,hB52⟩:=WX hv0_1 -- ^
    obtain ⟨u53,u55,rfl,h54,h56⟩:=Vx hx50 -- ^
    obtain ⟨x58,hi57,hs36⟩:=bvx hs36
    obtain ⟨x61,hi60,hs36⟩:=bvx hs36
    refine YA (n:=41) (hd:=[_,_,_,_,_,_,_,_,_,_,_,_,_,_]) (tl:=[_]) Wa rfl rfl [26,27,28,29,30,31,32,33,34,35,36,37,38,39] (by decide) (fun w=>M (Old w0) w0 w [raw b3 (enc (Vector.replicate 16 (0 : UInt8))),raw b1 (enc s35.1)]) (fun j=>([fun v _=>v = (vI s35.2),fun v _=>v = (ptr b1 (0 + (s35.2).toNat * 1)),fun v _=>v = (vB x42),fun v _=>v = v0_1,fun v _=>v = (vI s35.2),fun v _=>v = (vI (wr (s35.2 - 1))),fun v _=>v = (ptr b1 (0 + ((wr (s35.2 - 1))).toNat * 1)),fun v _=>v = (vB x45),fun v _=>v = (ptr pb47 0),fun v _=>v = (ptr pb47 (0 + 0)),fun v _=>v = (ptr pb47 (0 + 0 + ((bI x45)).toNat * 1)),fun v _=>v = (vB x58),fun v _=>v = (vB (x42 ^^^ x58)),fun v _=>v = (ptr b1 (0 + (s35.2).toNat * 1))] : List (Value → World → Prop)).getD j (fun _ _=>True)) (fun _ _ h hk=>h.keep hk) (gup (Zh (Zh (Zh (Zh (Zh (Zh (Zh (Zh (Zh (Zh (Zh (Zh (Zh (Zh W9))))))))))))))) hE hM.drew (ZP (Zb ?_ (Zb ?_ (Zb ?_ (Zb ?_ (Zb ?_ (Zb ?_ (Zb ?_ (Zb ?_ (Zb ?_ (Zb ?_ (Zb ?_ (Zb ?_ (Zb ?_ (Zb ?_ ZK))))))))))))))) ?_
    ·exact fun a w ux40 hE hM hp=>Zd hE Za ld rfl fun a hE=>⟨Kept.refl _ _,_,_,rfl,hE,rfl⟩
    ·intro a w ux40 hE hM hp
     have f0 : ux40 0 = (vI s35.2):=hp 0 _ rfl rfl
     exact Zg hE Za ld rfl (lk rfl f0) Try.underlying55 ty5 hi41.1 fun a hE=>⟨Kept.refl _ _,_,_,rfl,hE,rfl⟩
    ·intro a w ux40 hE hM hp
     have f1 : ux40 1 = (ptr b1 (0 + (s35.2).toNat * 1)):=hp 0 _ rfl rfl
     exact Zu (v:=(vB x42)) hE Za ld (lk rfl f1) ty5 rfl (At.vec (hM.rawAt (pre:=[_])) hi41.2) fun a hE=>⟨Kept.refl _ _,_,_,rfl,hE,rfl⟩
    ·exact fun a w ux40 hE hM hp=>Zd hE Za ld rfl fun a hE=>⟨Kept.refl _ _,_,_,rfl,hE,rfl⟩
    ·exact fun a w ux40 hE hM hp=>Zd hE Za ld rfl fun a hE=>⟨Kept.refl _ _,_,_,rfl,hE,rfl⟩
    ·intro a w ux40 hE hM hp
     have f4 : ux40 4 = (vI s35.2):=hp 0 _ rfl rfl
     exact Zi hE Za ld (lk rfl f4) rfl rfl fun a hE=>⟨Kept.refl _ _,_,_,rfl,hE,rfl⟩
    ·intro a w ux40 hE hM hp
     have f5 : ux40 5 = (vI (wr (s35.2 - 1))):=hp 0 _ rfl rfl
     exact Zg hE Za ld rfl (lk rfl f5) Try.underlying55 ty5 hi44.1 fun a hE=>⟨Kept.refl _ _,_,_,rfl,hE,rfl⟩
    ·intro a w ux40 hE hM hp
     have f6 : ux40 6 = (ptr b1 (0 + ((wr (s35.2 - 1))).toNat * 1)):=hp 0 _ rfl rfl
     exact Zu (v:=(vB x45)) hE Za ld (lk rfl f6) ty5 rfl (At.vec (hM.rawAt (pre:=[_])) hi44.2) fun a hE=>⟨Kept.refl _ _,_,_,rfl,hE,rfl⟩
    ·intro a w ux40 hE hM hp
     have f3 : ux40 3 = v0_1:=hp 0 _ rfl rfl
     exact Xd hE Za ld (lk (lk rfl f3) hv49) fun a hE=>⟨Kept.refl _ _,_,_,rfl,hE,rfl⟩
    ·intro a w ux40 hE hM hp
     have f8 : ux40 8 = (ptr pb47 0):=hp 0 _ rfl rfl
     exact Zp hE Za ld (lk rfl f8) (Kq) fun a hE=>⟨Kept.refl _ _,_,_,rfl,hE,rfl⟩
    ·intro a w ux40 hE hM hp
     have f7 : ux40 7 = (vB x45):=hp 1 _ rfl rfl
     have f9 : ux40 9 = (ptr pb47 (0 + 0)):=hp 0 _ rfl rfl
     exact Zg hE Za ld (lk rfl f9) (lk rfl f7) Try.underlying49 ty5 hi57.1 fun a hE=>⟨Kept.refl _ _,_,_,rfl,hE,rfl⟩
    ·intro a w ux40 hE hM hp
     have f10 : ux40 10 = (ptr pb47 (0 + 0 + ((bI x45)).toNat * 1)):=hp 0 _ rfl rfl
     exact Zu (v:=(vB x58)) hE Za ld (lk rfl f10) ty5 rfl (At.vec (At.cat (pre:=[]) (hM.atk hA51 hB52) cl0) hi57.2) fun a hE=>⟨Kept.refl _ _,_,_,rfl,hE,rfl⟩
    ·intro a w ux40 hE hM hp
     have f2 : ux40 2 = (vB x42):=hp 0 _ rfl rfl
     have f11 : ux40 11 = (vB x58):=hp 1 _ rfl rfl
     exact Zi hE Za ld (lk rfl f2) (lk rfl f11) (WE x42 x58) fun a hE=>⟨Kept.refl _ _,_,_,rfl,hE,rfl⟩
    ·intro a w ux40 hE hM hp
     have f0 : ux40 0 = (vI s35.2):=hp 0 _ rfl rfl
     exact Zg hE Za ld rfl (lk rfl f0) Try.underlying55 ty5 hi60.1 fun a hE=>⟨Kept.refl _ _,_,_,rfl,hE,rfl⟩
    ·intro a w ux40 hE hM hg
     have hE:=hE.sub (e':=[(38,(vB (x42 ^^^ x58))),(39,(ptr b1 (0 + (s35.2).toNat * 1))),(0,v0_1),(4,(ptr b1 0)),(6,(ptr b3 0)),(7,vI s35.2),(22,vI s35.2),(23,(vT (decide (s35.2 < 16))))]) ⟨lk rfl (hg 12 (by decide)),lk rfl (hg 13 (by decide)),rfl,rfl,rfl,rfl,rfl,rfl,trivial⟩
     have hM:=hM.pull (pre:=[_])
     refine Zm (seg:=[(vB (x42 ^^^ x58))]) (cs':=enc (s35.1.setIfInBounds (s35.2).toNat (x42 ^^^ x58))) hE hM Za rfl rfl rfl ty5 rfl (ZE (v:=s35.1) (x:=x42 ^^^ x58) hi60.1) (Flat.cell (x42 ^^^ x58 : UInt8)) (Zs (v:=s35.1) (x:=x42 ^^^ x58) hi60.1) fun w a hM hE=>Zj (Yg (Zy (wp_region_lit (Zd hE Za ld rfl fun a hE=>Zi hE Za ld rfl rfl rfl fun a hE=>Ze hE Za ld rfl fun a hE=>Zj (Zk ?_)))))
     have hM:=hM.pull (pre:=[_])
     exact ⟨_,(ois hs36),hE.sub ⟨rfl,rfl,rfl,rfl,trivial⟩,hM⟩
   ·intro hb39
    have hs36:=ZA hs36 hb39
    refine wp_exit (Zo (Zo (Yt ?_)))
    have ht63:=hx37 _ (ois hs36)
    subst ht63
    refine Zk ?_
    exact ⟨hE.sub ⟨rfl,rfl,trivial⟩,hM⟩
  ·skip
   rintro a w ⟨hE,hM⟩
   refine Zy (Zc (Zl (cs:=enc j32) hE Za ld rfl ZL rfl (hM.rawAt (pre:=[_])) (Flat.len _) fun a hE=>Zm (seg:=enc j32) (cs':=enc j32) hE hM Za rfl rfl rfl ZL (Flat.len _) (zle flq) (Flat.cell _) (Zn flq) fun w a hM hE=>Zf ?_))
   have hr:=Option.some.inj hF34
   subst hr
   have hq64 : Yy Try.prog _ _ (.cell 6 55) _:=ZX hE rfl ZL rfl (hM.rawAt (pre:=[])) (Flat.len _) rfl
   have hM:=M.fst (l:=[]) hM
   exact wp_ret (ZC hE rfl hq64 ⟨_,rfl,rfl,hM.kept⟩)
def Yp (p0 : (Ref Gengine)) (p2 : Int) (s10 : (Vector UInt8 16) × (List (Vector UInt8 16)) × Int) : Option (Fl ((Vector UInt8 16) × (List (Vector UInt8 16)) × Int) (List (Vector UInt8 16))) :=
 if (decide (s10.2.2 ≤ p2)) = true then ((Yv p0 s10.1 s10.2.2).bind fun r17=>(app 16 s10.2.1 ([r17] : List (Vector UInt8 16))).bind fun l21=>some (Fl.nx (r17,(s10.2.1 ++ ([r17] : List (Vector UInt8 16))),wr (s10.2.2 + 1)))) else (some (Fl.ex s10.2.1))
def Xa (p0 : (Ref Gengine)) (p1 : (Vector UInt8 16)) (p2 : Int) : Option ((List (Vector UInt8 16))) :=
 (ZD (Yp p0 p2) (p1,([p1] : List (Vector UInt8 16)),1)).bind fun j5=>some j5
theorem UW (w0 : World) (p0 : (Ref Gengine)) (v0_1 : Value) (hv0_1 : Ro w0 p0 [v0_1]) (p1 : (Vector UInt8 16)) (p2 : Int) (r : (List (Vector UInt8 16))) (hF : Xa p0 p1 p2 = some r) :
  Calls Try.prog 77 [v0_1,(Value.agg (enc p1).toArray),vI p2].toArray w0 (fun en w'=>∃ v,en = .returned v ∧ (∃ (y1 : Value),v = y1 ∧ Fr w0 w' [osl NoB (r : List (Vector UInt8 16)) y1] ∧ Kept (Old w0) w0 w')):=by
 refine ZB (n:=25) Try.func77 rfl rfl (nbl rfl) rfl ?_
 intro a hE
 have hM:=M.start w0
 unfold Xa at hF
 refine Zc (ZR (cs:=enc p1) hE hM Za ld rfl rfl fun b1 w a hM hE=>Ze hE Za ld rfl fun a hE=>Zf (Zc (Zl (cs:=enc p1) hE Za ld rfl ZL rfl (hM.rawAt (pre:=[])) (Flat.len _) fun a hE=>Ti (xs:=[.tmp 9]) (l:=([p1] : List (Vector UInt8 16))) (vs:=[(Value.agg (enc p1).toArray)]) hE hM Za ld rfl rfl Try.underlying69 ZL rfl (by decide) rfl fun u3 w a hM hE=>Ze hE Za ld rfl fun a hE=>Zf (wp_seq (Zc (Ze hE Za ld rfl fun a hE=>Zf ?_))))))
 obtain ⟨j5,hl6,hF7⟩:=bind_some hF
 refine ZU (fun a w=>∃ (u8 : Value),Env 25 a [(7,u8)] ∧ M (Old w0) w0 w [osl NoB (j5 : List (Vector UInt8 16)) u8]) ?_ ?_
 ·skip
  refine wp_block ?_
  have hM:=hM.pull (pre:=[_])
  refine ZG (fun (s10 : (Vector UInt8 16) × (List (Vector UInt8 16)) × Int) a w=>∃ (u11 : Value),Env 25 a [(0,v0_1),(2,vI p2),(4,(ptr b1 0)),(7,u11),(8,vI s10.2.2)] ∧ M (Old w0) w0 w [raw b1 (enc s10.1),osl NoB (s10.2.1 : List (Vector UInt8 16)) u11]) hl6 ⟨u3,hE.sub ⟨rfl,rfl,rfl,rfl,rfl,trivial⟩,hM⟩ ?_
  rintro s10 a w ⟨u11,hE,hM⟩ o15 hs13 hx14
  unfold Yp at hs13
  refine wp_seq (Zc (Zd hE Za ld rfl fun a hE=>Zd hE Za ld rfl fun a hE=>Zi hE Za ld rfl rfl rfl fun a hE=>Zf ?_))
  refine Zw hE rfl ?_ ?_
  ·intro hb16
   have hs13:=Zz hs13 hb16
   refine wp_skip (Zy (wp_seq (wp_block (Zc (Zd hE Za ld rfl fun a hE=>Zl (cs:=enc s10.1) hE Za ld rfl ZL rfl (hM.rawAt (pre:=[])) (Flat.len _) fun a hE=>Zd hE Za ld rfl ?_))))); intro a hE
   obtain ⟨r17,e18,hs13⟩:=bind_some hs13
   refine Zv hE Za ld rfl cb133 (Ud _ p0 v0_1 (hM.rdo hv0_1) s10.1 s10.2.2 r17 e18) ?_
   rintro v w a ⟨rfl,hK⟩ hE
   have hM:=hM.keep hK
   refine Zm (seg:=enc r17) (cs':=enc r17) hE hM Za rfl rfl rfl ZL (Flat.len _) (zle flq) (Flat.cell _) (Zn flq) fun w a hM hE=>Zf (wp_region_lit (Zd hE Za ld rfl fun a hE=>Zl (cs:=enc r17) hE Za ld rfl ZL rfl (hM.rawAt (pre:=[])) (Flat.len _) fun a hE=>Ti (xs:=[.tmp 21]) (l:=([r17] : List (Vector UInt8 16))) (vs:=[(Value.agg (enc r17).toArray)]) hE hM Za ld rfl rfl Try.underlying69 ZL rfl (by decide) rfl ?_)); intro u19 w a hM hE
   obtain ⟨l21,e22,hs13⟩:=bind_some hs13
   obtain ⟨e25,rfl⟩:=K8 e22
   have hM:=hM.pull (pre:=[_,_])
   refine Ko hE hM Za ld rfl rfl (hM.sl (pre:=[_]) noB) Try.underlying69 ZL rfl (by decide) e25 fun u23 w a hM hE=>Ze hE Za ld rfl fun a hE=>Zj (Yg (Zy (wp_region_lit (Zd hE Za ld rfl fun a hE=>Zi hE Za ld rfl rfl rfl fun a hE=>Ze hE Za ld rfl fun a hE=>Zj (Zk ?_)))))
   have hM:=M.fst (l:=[_,_]) (hM.pull (pre:=[_,_]))
   exact ⟨_,(ois hs13),u23,hE.sub ⟨rfl,rfl,rfl,rfl,rfl,trivial⟩,hM⟩
  ·intro hb16
   have hs13:=ZA hs13 hb16
   refine wp_exit (Zo (Zo (Yt ?_)))
   have ht26:=hx14 _ (ois hs13)
   subst ht26
   refine Zk ?_
   have hM:=M.fst (l:=[_]) (hM.pull (pre:=[_]))
   exact ⟨u11,hE.sub ⟨rfl,trivial⟩,hM⟩
 ·skip
  rintro a w ⟨u8,hE,hM⟩
  refine Zy (Zc (Zd hE Za ld rfl fun a hE=>Ze hE Za ld rfl fun a hE=>Zf ?_))
  have hr:=Option.some.inj hF7
  subst hr
  exact wp_ret (ZC hE rfl (Zx hE rfl) ⟨_,rfl,u8,rfl,hM.outF (HU KX),hM.kept⟩)
def X1 (p0 : GCipher) (p1 : (Vector UInt8 16)) : Option (Gkeyed) :=
 (XI p0).bind fun r7=>(Xa r7 p1 p0.Rounds).bind fun r10=>some (⟨r7,r10⟩ : Gkeyed)
theorem Ql (w0 : World) (p0 : GCipher) (p1 : (Vector UInt8 16)) (r : Gkeyed) (hF : X1 p0 p1 = some r) :
  Calls Try.prog 69 [(Value.agg (enc p0).toArray),(Value.agg (enc p1).toArray)].toArray w0 (fun en w'=>∃ v,en = .returned v ∧ (∃ (y1 : Value) (y2 : Value),v = (Value.agg (cat [[y1],[y2]]).toArray) ∧ Fr w0 w' [own NoB (r.engine : (Ref Gengine)) [y1],osl NoB (r.keys : List (Vector UInt8 16)) y2] ∧ Kept (Old w0) w0 w')):=by
 refine ZB (n:=15) Try.func69 rfl rfl (nbl rfl) rfl ?_
 intro a hE
 have hM:=M.start w0
 unfold X1 at hF
 refine Zc (ZR (cs:=cat [[vI p0.Field],enc p0.Box,enc p0.Mix,enc p0.Places,[vI p0.Rounds]]) hE hM Za ld rfl rfl fun b1 w a hM hE=>ZR (cs:=enc p1) hE hM Za ld rfl rfl fun b3 w a hM hE=>ZF hE hM Za ld UM fun b5 w a hM hE=>Zf (Zc (Zl (cs:=enc p0) hE Za ld rfl VQ rfl (hM.rawAt (pre:=[_,_])) (ZZ (cl1 (n:=1) (m:=289) rfl (cl1 (n:=256) (m:=33) (Flat.len _) (cl1 (n:=16) (m:=17) (Flat.len _) (cl1 (n:=16) (m:=1) (Flat.len _) (cl1 (n:=1) (m:=0) rfl cl0)))))) ?_))); intro a hE
 obtain ⟨r7,e8,hF⟩:=bind_some hF
 refine Zv hE Za ld rfl cb75 (TC _ p0 r7 e8) ?_
 rintro u9 w a ⟨_,rfl,hFr,hK⟩ hE
 have hM:=hM.add hK hFr
 refine Ze hE Za ld rfl fun a hE=>Zf (Zc (Zd hE Za ld rfl fun a hE=>Zd hE Za ld rfl fun a hE=>Zl (cs:=enc p1) hE Za ld rfl ZL rfl (hM.rawAt (pre:=[_,_])) (Flat.len _) fun a hE=>Zp hE Za ld rfl (TR) fun a hE=>Zu (v:=(vI p0.Rounds)) hE Za ld rfl ty2 rfl (At.cat (pre:=[[vI p0.Field],enc p0.Box,enc p0.Mix,enc p0.Places]) (hM.rawAt (pre:=[_,_,_])) (cl1 (n:=1) (m:=288) rfl (cl1 (n:=256) (m:=32) (Flat.len _) (cl1 (n:=16) (m:=16) (Flat.len _) (cl1 (n:=16) (m:=0) (Flat.len _) cl0))))) ?_)); intro a hE
 obtain ⟨r10,e11,hF⟩:=bind_some hF
 refine Zv hE Za ld rfl cb77 (UW _ r7 u9 (hM.ro (pre:=[]) noB) p1 p0.Rounds r10 e11) ?_
 rintro u12 w a ⟨_,rfl,hFr,hK⟩ hE
 have hM:=hM.add hK hFr
 refine QM (parts:=[(0,.tmp 8),(1,.tmp 13)]) (vs:=[(0,u9),(1,u12)]) (cs:=cat [[u9],[u12]]) hE Za ld rfl rfl UM pl100 (WB (pre:=[]) (seg:=[(Value.pointer none)]) (seg':=[u9]) (post:=[[(Value.slice none 0 0)]]) rfl cl0 rfl rfl (TP (hM.ro (pre:=[_]) noB)) (WB (pre:=[[u9]]) (seg:=[(Value.slice none 0 0)]) (seg':=[u12]) (post:=[]) rfl (cl1 (n:=1) (m:=0) rfl cl0) rfl rfl (Hy (hM.sl (pre:=[]) noB)) Jd)) ?_; intro a hE
 have hM:=hM.pull (pre:=[_,_])
 refine Zm (seg:=cat [[u9],[u12]]) (cs':=cat [[u9],[u12]]) hE hM Za rfl rfl rfl UM (ZZ (cl1 (n:=1) (m:=1) rfl (cl1 (n:=1) (m:=0) rfl cl0))) (Nat.le_of_eq ((Nat.zero_add _).trans (Eq.trans (ZZ (cl1 (n:=1) (m:=1) rfl (cl1 (n:=1) (m:=0) rfl cl0))) (Eq.symm (ZZ (cl1 (n:=1) (m:=1) rfl (cl1 (n:=1) (m:=0) rfl cl0))))))) (Ta (cc1 (Rep.cell (hM.ro (pre:=[_,_]) noB)) (cc1 (Rep.cell (hM.sl (pre:=[_]) noB)) cc0))) (Zn (Eq.trans (ZZ (cl1 (n:=1) (m:=1) rfl (cl1 (n:=1) (m:=0) rfl cl0))) (Eq.symm (ZZ (cl1 (n:=1) (m:=1) rfl (cl1 (n:=1) (m:=0) rfl cl0)))))) fun w a hM hE=>Zf ?_
 have hr:=Option.some.inj hF
 subst hr
 have hq13 : Yy Try.prog _ _ (.cell 4 100) _:=ZX hE rfl UM rfl (hM.rawAt (pre:=[])) (ZZ (cl1 (n:=1) (m:=1) rfl (cl1 (n:=1) (m:=0) rfl cl0))) rfl
 have hM:=M.fst (l:=[_,_]) ((hM.pull (pre:=[_])).pull (pre:=[_,_]))
 exact wp_ret (ZC hE rfl hq13 ⟨_,rfl,u9,u12,rfl,hM.outF (HV (HU KX)),hM.kept⟩)
def YP (p1 : (Vector UInt8 16)) (s10 : (Vector UInt8 16) × Int) : Option (Fl ((Vector UInt8 16) × Int) (Vector UInt8 16)) :=
 if (decide (s10.2 < 16)) = true then ((Zq s10.1 s10.2).bind fun x17=>(Zq p1 s10.2).bind fun x20=>(Zq s10.1 s10.2).bind fun x23=>some (Fl.nx ((s10.1.setIfInBounds (s10.2).toNat (x17 ^^^ x20)),wr (s10.2 + 1)))) else (some (Fl.ex s10.1))
def Y3 (p0 : (Vector UInt8 16)) (p1 : (Vector UInt8 16)) : Option ((Vector UInt8 16)) :=
 (ZD (YP p1) (p0,0)).bind fun j7=>some j7
theorem VN (w0 : World) (p0 : (Vector UInt8 16)) (p1 : (Vector UInt8 16)) (r : (Vector UInt8 16)) (hF : Y3 p0 p1 = some r) :
  Calls Try.prog 130 [(Value.agg (enc p0).toArray),(Value.agg (enc p1).toArray)].toArray w0 (fun en w'=>∃ v,en = .returned v ∧ (v = (Value.agg (enc r).toArray) ∧ Kept (Old w0) w0 w')):=by
 refine ZB (n:=19) Try.func130 rfl rfl (nbl rfl) rfl ?_
 intro a hE
 have hM:=M.start w0
 unfold Y3 at hF
 refine Zc (ZR (cs:=enc p0) hE hM Za ld rfl rfl fun b1 w a hM hE=>ZR (cs:=enc p1) hE hM Za ld rfl rfl fun b3 w a hM hE=>ZF hE hM Za ld ZL fun b5 w a hM hE=>Zf (wp_seq (Zc (Zd hE Za ld rfl fun a hE=>Zf ?_))))
 obtain ⟨j7,hl8,hF9⟩:=bind_some hF
 refine ZU (fun a w=>Env 19 a [(2,(ptr b1 0)),(4,(ptr b5 0))] ∧ M (Old w0) w0 w [raw b5 (enc (Vector.replicate 16 (0 : UInt8))),raw b1 (enc j7)]) ?_ ?_
 ·skip
  refine wp_block ?_
  refine ZG (fun (s10 : (Vector UInt8 16) × Int) a w=>Env 19 a [(2,(ptr b1 0)),(3,(ptr b3 0)),(4,(ptr b5 0)),(6,vI s10.2)] ∧ M (Old w0) w0 w [raw b5 (enc (Vector.replicate 16 (0 : UInt8))),raw b3 (enc p1),raw b1 (enc s10.1)]) hl8 ⟨hE.sub ⟨rfl,rfl,rfl,rfl,trivial⟩,hM⟩ ?_
  rintro s10 a w ⟨hE,hM⟩ o13 hs11 hx12
  unfold YP at hs11
  refine Zc (Zi hE Za ld rfl rfl rfl fun a hE=>Zf (wp_seq ?_))
  refine Zw hE rfl ?_ ?_
  ·intro hb14
   have hs11:=Zz hs11 hb14
   refine wp_skip (Zy (wp_seq (wp_block (Zc (Zd hE Za ld rfl fun a hE=>Ze hE Za ld rfl fun a hE=>Zf ?_)))))
   obtain ⟨x17,hi16,hs11⟩:=bvx hs11
   obtain ⟨x20,hi19,hs11⟩:=bvx hs11
   obtain ⟨x23,hi22,hs11⟩:=bvx hs11
   refine YA (n:=19) (hd:=[_,_,_,_,_,_,_,_]) (tl:=[_]) Wa rfl rfl [9,10,11,12,13,14,15,16] (by decide) (fun w=>M (Old w0) w0 w [raw b5 (enc (Vector.replicate 16 (0 : UInt8))),raw b3 (enc p1),raw b1 (enc s10.1)]) (fun j=>([fun v _=>v = (vI s10.2),fun v _=>v = (ptr b1 (0 + (s10.2).toNat * 1)),fun v _=>v = (vB x17),fun v _=>v = (vI s10.2),fun v _=>v = (ptr b3 (0 + (s10.2).toNat * 1)),fun v _=>v = (vB x20),fun v _=>v = (vB (x17 ^^^ x20)),fun v _=>v = (ptr b1 (0 + (s10.2).toNat * 1))] : List (Value → World → Prop)).getD j (fun _ _=>True)) (fun _ _ h hk=>h.keep hk) (gup (Zh (Zh (Zh (Zh (Zh (Zh (Zh (Zh W9))))))))) hE hM.drew (ZP (Zb ?_ (Zb ?_ (Zb ?_ (Zb ?_ (Zb ?_ (Zb ?_ (Zb ?_ (Zb ?_ ZK))))))))) ?_
   ·exact fun a w ux15 hE hM hp=>Zd hE Za ld rfl fun a hE=>⟨Kept.refl _ _,_,_,rfl,hE,rfl⟩
   ·intro a w ux15 hE hM hp
    have f0 : ux15 0 = (vI s10.2):=hp 0 _ rfl rfl
    exact Zg hE Za ld rfl (lk rfl f0) Try.underlying55 ty5 hi16.1 fun a hE=>⟨Kept.refl _ _,_,_,rfl,hE,rfl⟩
   ·intro a w ux15 hE hM hp
    have f1 : ux15 1 = (ptr b1 (0 + (s10.2).toNat * 1)):=hp 0 _ rfl rfl
    exact Zu (v:=(vB x17)) hE Za ld (lk rfl f1) ty5 rfl (At.vec (hM.rawAt (pre:=[_,_])) hi16.2) fun a hE=>⟨Kept.refl _ _,_,_,rfl,hE,rfl⟩
   ·exact fun a w ux15 hE hM hp=>Zd hE Za ld rfl fun a hE=>⟨Kept.refl _ _,_,_,rfl,hE,rfl⟩
   ·intro a w ux15 hE hM hp
    have f3 : ux15 3 = (vI s10.2):=hp 0 _ rfl rfl
    exact Zg hE Za ld rfl (lk rfl f3) Try.underlying55 ty5 hi19.1 fun a hE=>⟨Kept.refl _ _,_,_,rfl,hE,rfl⟩
   ·intro a w ux15 hE hM hp
    have f4 : ux15 4 = (ptr b3 (0 + (s10.2).toNat * 1)):=hp 0 _ rfl rfl
    exact Zu (v:=(vB x20)) hE Za ld (lk rfl f4) ty5 rfl (At.vec (hM.rawAt (pre:=[_])) hi19.2) fun a hE=>⟨Kept.refl _ _,_,_,rfl,hE,rfl⟩
   ·intro a w ux15 hE hM hp
    have f2 : ux15 2 = (vB x17):=hp 0 _ rfl rfl
    have f5 : ux15 5 = (vB x20):=hp 1 _ rfl rfl
    exact Zi hE Za ld (lk rfl f2) (lk rfl f5) (WE x17 x20) fun a hE=>⟨Kept.refl _ _,_,_,rfl,hE,rfl⟩
   ·intro a w ux15 hE hM hp
    have f0 : ux15 0 = (vI s10.2):=hp 0 _ rfl rfl
    exact Zg hE Za ld rfl (lk rfl f0) Try.underlying55 ty5 hi22.1 fun a hE=>⟨Kept.refl _ _,_,_,rfl,hE,rfl⟩
   ·intro a w ux15 hE hM hg
    have hE:=hE.sub (e':=[(15,(vB (x17 ^^^ x20))),(16,(ptr b1 (0 + (s10.2).toNat * 1))),(2,(ptr b1 0)),(3,(ptr b3 0)),(4,(ptr b5 0)),(5,vI s10.2),(6,vI s10.2),(7,(vT (decide (s10.2 < 16)))),(8,vI s10.2)]) ⟨lk rfl (hg 6 (by decide)),lk rfl (hg 7 (by decide)),rfl,rfl,rfl,rfl,rfl,rfl,rfl,trivial⟩
    have hM:=hM.pull (pre:=[_,_])
    refine Zm (seg:=[(vB (x17 ^^^ x20))]) (cs':=enc (s10.1.setIfInBounds (s10.2).toNat (x17 ^^^ x20))) hE hM Za rfl rfl rfl ty5 rfl (ZE (v:=s10.1) (x:=x17 ^^^ x20) hi22.1) (Flat.cell (x17 ^^^ x20 : UInt8)) (Zs (v:=s10.1) (x:=x17 ^^^ x20) hi22.1) fun w a hM hE=>Zj (Yg (Zy (wp_region_lit (Zi hE Za ld rfl rfl rfl fun a hE=>Zd hE Za ld rfl fun a hE=>Zj (Zk ?_)))))
    have hM:=(hM.pull (pre:=[_,_])).pull (pre:=[_,_])
    exact ⟨_,(ois hs11),hE.sub ⟨rfl,rfl,rfl,rfl,trivial⟩,hM⟩
  ·intro hb14
   have hs11:=ZA hs11 hb14
   refine wp_exit (Zo (Zo (Yt ?_)))
   have ht25:=hx12 _ (ois hs11)
   subst ht25
   refine Zk ?_
   have hM:=M.fst (l:=[_,_]) ((hM.pull (pre:=[_,_])).pull (pre:=[_]))
   exact ⟨hE.sub ⟨rfl,rfl,trivial⟩,hM⟩
 ·skip
  rintro a w ⟨hE,hM⟩
  refine Zy (Zc (Zl (cs:=enc j7) hE Za ld rfl ZL rfl (hM.rawAt (pre:=[_])) (Flat.len _) fun a hE=>Zm (seg:=enc j7) (cs':=enc j7) hE hM Za rfl rfl rfl ZL (Flat.len _) (zle flq) (Flat.cell _) (Zn flq) fun w a hM hE=>Zf ?_))
  have hr:=Option.some.inj hF9
  subst hr
  have hq26 : Yy Try.prog _ _ (.cell 4 55) _:=ZX hE rfl ZL rfl (hM.rawAt (pre:=[])) (Flat.len _) rfl
  have hM:=M.fst (l:=[]) hM
  exact wp_ret (ZC hE rfl hq26 ⟨_,rfl,rfl,hM.kept⟩)
def Yo (p0 : (Vector UInt8 16)) (p1 : (Vector UInt8 16)) (s12 : (Vector UInt8 16) × Int) : Option (Fl ((Vector UInt8 16) × Int) (Vector UInt8 16)) :=
 if (decide (s12.2 < 16)) = true then ((Zq p0 s12.2).bind fun x17=>(Zq p1 (bI x17)).bind fun x21=>(Zq s12.1 s12.2).bind fun x24=>some (Fl.nx ((s12.1.setIfInBounds (s12.2).toNat x21),wr (s12.2 + 1)))) else (some (Fl.ex s12.1))
def Xc (p0 : (Vector UInt8 16)) (p1 : (Vector UInt8 16)) : Option ((Vector UInt8 16)) :=
 (ZD (Yo p0 p1) ((Vector.replicate 16 (0 : UInt8)),0)).bind fun j9=>some j9
theorem UX (w0 : World) (p0 : (Vector UInt8 16)) (p1 : (Vector UInt8 16)) (r : (Vector UInt8 16)) (hF : Xc p0 p1 = some r) :
  Calls Try.prog 132 [(Value.agg (enc p0).toArray),(Value.agg (enc p1).toArray)].toArray w0 (fun en w'=>∃ v,en = .returned v ∧ (v = (Value.agg (enc r).toArray) ∧ Kept (Old w0) w0 w')):=by
 refine ZB (n:=21) Try.func132 rfl rfl (nbl rfl) rfl ?_
 intro a hE
 have hM:=M.start w0
 unfold Xc at hF
 refine Zc (ZR (cs:=enc p0) hE hM Za ld rfl rfl fun b1 w a hM hE=>ZR (cs:=enc p1) hE hM Za ld rfl rfl fun b3 w a hM hE=>ZF hE hM Za ld ZL fun b5 w a hM hE=>Zf (Zc (Y8 (parts:=[]) (vs:=[]) (cs:=enc (Vector.replicate 16 (0 : UInt8))) hE Za ld rfl rfl ZL rfl ty5 YB fun a hE=>ZF hE hM Za ld ZL fun b7 w a hM hE=>Zm (seg:=enc (Vector.replicate 16 (0 : UInt8))) (cs':=enc (Vector.replicate 16 (0 : UInt8))) hE hM Za rfl rfl rfl ZL (Flat.len _) (zle flq) (Flat.cell _) (Zn flq) fun w a hM hE=>Zf (wp_seq (Zc (Zl (cs:=enc p0) hE Za ld rfl Vg rfl (hM.rawAt (pre:=[_,_,_])) (Flat.len _) fun a hE=>Zd hE Za ld rfl fun a hE=>Zf ?_))))))
 obtain ⟨j9,hl10,hF11⟩:=bind_some hF
 refine ZU (fun a w=>Env 21 a [(4,(ptr b5 0)),(5,(ptr b7 0))] ∧ M (Old w0) w0 w [raw b7 (enc j9),raw b5 (enc (Vector.replicate 16 (0 : UInt8)))]) ?_ ?_
 ·skip
  refine wp_block ?_
  have hM:=M.fst (l:=[_,_,_]) (((hM.pull (pre:=[_,_])).pull (pre:=[_,_])).pull (pre:=[_,_]))
  refine ZG (fun (s12 : (Vector UInt8 16) × Int) a w=>Env 21 a [(3,(ptr b3 0)),(4,(ptr b5 0)),(5,(ptr b7 0)),(9,(Value.agg (enc p0).toArray)),(10,vI s12.2)] ∧ M (Old w0) w0 w [raw b7 (enc s12.1),raw b5 (enc (Vector.replicate 16 (0 : UInt8))),raw b3 (enc p1)]) hl10 ⟨hE.sub ⟨rfl,rfl,rfl,rfl,rfl,trivial⟩,hM⟩ ?_
  rintro s12 a w ⟨hE,hM⟩ o15 hs13 hx14
  unfold Yo at hs13
  refine Zc (Zi hE Za ld rfl rfl rfl fun a hE=>Zf (wp_seq ?_))
  refine Zw hE rfl ?_ ?_
  ·intro hb16
   have hs13:=Zz hs13 hb16
   refine wp_skip (Zy (wp_seq (wp_block (Zc (Zd hE Za ld rfl ?_))))); intro a hE
   obtain ⟨x17,hi19,hs13⟩:=bvx hs13
   refine Vy hE Za ld rfl rfl Try.underlying51 ty5 rfl rfl hi19 rfl fun a hE=>Ze hE Za ld rfl fun a hE=>Ze hE Za ld rfl fun a hE=>Zf (wp_region_lit (Zd hE Za ld rfl fun a hE=>Zd hE Za ld rfl ?_)); intro a hE
   obtain ⟨x21,hi20,hs13⟩:=bvx hs13
   refine Zg hE Za ld rfl rfl Try.underlying55 ty5 hi20.1 fun a hE=>Zu (v:=(vB x21)) hE Za ld rfl ty5 rfl (At.vec (hM.rawAt (pre:=[_,_])) hi20.2) ?_; intro a hE
   obtain ⟨x24,hi23,hs13⟩:=bvx hs13
   refine Zg hE Za ld rfl rfl Try.underlying55 ty5 hi23.1 fun a hE=>Zm (seg:=[vB x21]) (cs':=enc (s12.1.setIfInBounds (s12.2).toNat x21)) hE hM Za rfl rfl rfl ty5 rfl (ZE (v:=s12.1) (x:=x21) hi23.1) (Flat.cell (x21 : UInt8)) (Zs (v:=s12.1) (x:=x21) hi23.1) fun w a hM hE=>Zj (Yg (Zy (wp_region_lit (Zi hE Za ld rfl rfl rfl fun a hE=>Zd hE Za ld rfl fun a hE=>Zj (Zk ?_)))))
   exact ⟨_,(ois hs13),hE.sub ⟨rfl,rfl,rfl,rfl,rfl,trivial⟩,hM⟩
  ·intro hb16
   have hs13:=ZA hs13 hb16
   refine wp_exit (Zo (Zo (Yt ?_)))
   have ht26:=hx14 _ (ois hs13)
   subst ht26
   refine Zk ?_
   have hM:=M.fst (l:=[_,_]) ((hM.pull (pre:=[_])).pull (pre:=[_]))
   exact ⟨hE.sub ⟨rfl,rfl,trivial⟩,hM⟩
 ·skip
  rintro a w ⟨hE,hM⟩
  refine Zy (Zc (Zl (cs:=enc j9) hE Za ld rfl ZL rfl (hM.rawAt (pre:=[])) (Flat.len _) ?_)); intro a hE
  have hM:=hM.pull (pre:=[_])
  refine Zm (seg:=enc j9) (cs':=enc j9) hE hM Za rfl rfl rfl ZL (Flat.len _) (zle flq) (Flat.cell _) (Zn flq) fun w a hM hE=>Zf ?_
  have hr:=Option.some.inj hF11
  subst hr
  have hq27 : Yy Try.prog _ _ (.cell 4 55) _:=ZX hE rfl ZL rfl (hM.rawAt (pre:=[])) (Flat.len _) rfl
  have hM:=M.fst (l:=[]) hM
  exact wp_ret (ZC hE rfl hq27 ⟨_,rfl,rfl,hM.kept⟩)
def YS (p0 : (Ref (Vector (Vector (Vector UInt8 256) 4) 4))) (s4 : (Vector UInt8 16) × Int) (j9 : UInt8 × UInt8 × UInt8 × UInt8) (s29 : (Vector UInt8 16) × Int) : Option (Fl ((Vector UInt8 16) × Int) (Vector UInt8 16)) :=
 if (decide (s29.2 < 4)) = true then ((Zq p0.v s29.2).bind fun x42=>(Zq x42 (0 : Int)).bind fun x45=>(Zq x45 (bI j9.1)).bind fun x48=>(Zq p0.v s29.2).bind fun x57=>(Zq x57 (1 : Int)).bind fun x60=>(Zq x60 (bI j9.2.1)).bind fun x63=>(Zq p0.v s29.2).bind fun x72=>(Zq x72 (2 : Int)).bind fun x75=>(Zq x75 (bI j9.2.2.1)).bind fun x78=>(Zq p0.v s29.2).bind fun x87=>(Zq x87 (3 : Int)).bind fun x90=>(Zq x90 (bI j9.2.2.2)).bind fun x93=>(Zq s29.1 (wr (s4.2 + s29.2))).bind fun x95=>some (Fl.nx ((s29.1.setIfInBounds ((wr (s4.2 + s29.2))).toNat (((x48 ^^^ x63) ^^^ x78) ^^^ x93)),wr (s29.2 + 1)))) else (some (Fl.ex s29.1))
def YQ (p0 : (Ref (Vector (Vector (Vector UInt8 256) 4) 4))) (s4 : (Vector UInt8 16) × Int) : Option (Fl ((Vector UInt8 16) × Int) (Vector UInt8 16)) :=
 if (decide (s4.2 < (s4.1.toList.length : Int))) = true then (((Zq s4.1 s4.2).bind fun x13=>(Zq s4.1 (wr (s4.2 + 1))).bind fun x16=>(Zq s4.1 (wr (s4.2 + 2))).bind fun x19=>(Zq s4.1 (wr (s4.2 + 3))).bind fun x22=>some (x13,x16,x19,x22) : Option (UInt8 × UInt8 × UInt8 × UInt8)).bind fun j9=>(ZD (YS p0 s4 j9) (s4.1,0)).bind fun j26=>some (Fl.nx (j26,wr (s4.2 + 4)))) else (some (Fl.ex s4.1))
def XL (p0 : (Ref (Vector (Vector (Vector UInt8 256) 4) 4))) (p1 : (Vector UInt8 16)) : Option ((Vector UInt8 16)) :=
 (ZD (YQ p0) (p1,0)).bind fun j1=>some j1
theorem TI (St : Nat → Prop) (W w0 : World) (its : List Item) (p0 : (Ref (Vector (Vector (Vector UInt8 256) 4) 4))) (v0_1 : Value) (hv0_1 : Rep.sat St W p0 [v0_1] []) (pb1 : Nat) (p1 : (Vector UInt8 16)) (hM : M St W w0 (raw pb1 (enc p1) :: its)) (r : (Vector UInt8 16)) (hF : XL p0 p1 = some r) :
  Calls Try.prog 131 [v0_1,(Value.slice (some ⟨pb1,0,none⟩) 16 16)].toArray w0 (fun en w'=>∃ v,en = .returned v ∧ (v = (Value.tuple [].toArray) ∧ M St W w' (raw pb1 (enc r) :: its))):=by
 refine ZB (n:=79) Try.func131 rfl rfl (nbl rfl) rfl ?_
 intro a hE
 unfold XL at hF
 refine Zc (Ze hE Za ld rfl fun a hE=>Zf ?_)
 obtain ⟨j1,hl2,hF3⟩:=bind_some hF
 refine ZU (fun a w=>Env 79 a [(1,(Value.slice (some ⟨pb1,0,none⟩) 16 16))] ∧ M St W w (raw pb1 (enc j1) :: its)) ?_ ?_
 ·skip
  refine wp_block ?_
  refine ZG (fun (s4 : (Vector UInt8 16) × Int) a w=>Env 79 a [(0,v0_1),(1,(Value.slice (some ⟨pb1,0,none⟩) 16 16)),(4,vI s4.2)] ∧ M St W w (raw pb1 (enc s4.1) :: its)) hl2 ⟨hE.sub ⟨rfl,rfl,rfl,trivial⟩,hM⟩ ?_
  rintro s4 a w ⟨hE,hM⟩ o7 hs5 hx6
  unfold YQ at hs5
  refine wp_seq (Zc (Zd hE Za ld rfl fun a hE=>Zd hE Za ld rfl fun a hE=>K6 hE Za ld rfl Try.underlying22 (HM (hM.rawAt (pre:=[]))) fun a hE=>Zi hE Za ld rfl rfl rfl fun a hE=>Zf ?_))
  refine Zw hE rfl ?_ ?_
  ·intro hb8
   have hs5:=Zz hs5 hb8
   refine wp_skip (Zy (wp_seq (wp_block ?_)))
   obtain ⟨j9,hl10,hF11⟩:=bind_some hs5
   refine ZQ (fun a w=>Env 79 a [(0,v0_1),(1,(Value.slice (some ⟨pb1,0,none⟩) 16 16)),(4,vI s4.2),(5,vB j9.1),(6,vB j9.2.1),(7,vB j9.2.2.1),(8,vB j9.2.2.2)] ∧ M St W w (raw pb1 (enc s4.1) :: its)) ?_ ?_
   ·skip
    obtain ⟨x13,hi15,hl10⟩:=bvx hl10
    obtain ⟨x16,hi18,hl10⟩:=bvx hl10
    obtain ⟨x19,hi21,hl10⟩:=bvx hl10
    obtain ⟨x22,hi24,hl10⟩:=bvx hl10
    refine YA (n:=79) (hd:=[_,_,_,_,_,_,_,_,_,_,_,_,_,_,_,_,_,_,_,_,_,_,_]) (tl:=[]) Wa rfl rfl [16,17,18,19,20,21,22,23,24,25,26,27,28,29,30,31,32,33,34,5,6,7,8] (by decide) (fun w=>M St W w (raw pb1 (enc s4.1) :: its)) (fun j=>([fun v _=>v = (Value.slice (some ⟨pb1,0,none⟩) 16 16),fun v _=>v = (vI s4.2),fun v _=>v = (ptr pb1 (0 + (s4.2).toNat * 1)),fun v _=>v = (vB x13),fun v _=>v = (Value.slice (some ⟨pb1,0,none⟩) 16 16),fun v _=>v = (vI s4.2),fun v _=>v = (vI (wr (s4.2 + 1))),fun v _=>v = (ptr pb1 (0 + ((wr (s4.2 + 1))).toNat * 1)),fun v _=>v = (vB x16),fun v _=>v = (Value.slice (some ⟨pb1,0,none⟩) 16 16),fun v _=>v = (vI s4.2),fun v _=>v = (vI (wr (s4.2 + 2))),fun v _=>v = (ptr pb1 (0 + ((wr (s4.2 + 2))).toNat * 1)),fun v _=>v = (vB x19),fun v _=>v = (Value.slice (some ⟨pb1,0,none⟩) 16 16),fun v _=>v = (vI s4.2),fun v _=>v = (vI (wr (s4.2 + 3))),fun v _=>v = (ptr pb1 (0 + ((wr (s4.2 + 3))).toNat * 1)),fun v _=>v = (vB x22),fun v _=>v = (vB x13),fun v _=>v = (vB x16),fun v _=>v = (vB x19),fun v _=>v = (vB x22)] : List (Value → World → Prop)).getD j (fun _ _=>True)) (fun _ _ h hk=>h.keep hk) (gup (Zh (Zh (Zh (Zh (Zh (Zh (Zh (Zh (Zh (Zh (Zh (Zh (Zh (Zh (Zh (Zh (Zh (Zh (Zh (Zh (Zh (Zh (Zh W9)))))))))))))))))))))))) hE hM.drew (ZP (Zb ?_ (Zb ?_ (Zb ?_ (Zb ?_ (Zb ?_ (Zb ?_ (Zb ?_ (Zb ?_ (Zb ?_ (Zb ?_ (Zb ?_ (Zb ?_ (Zb ?_ (Zb ?_ (Zb ?_ (Zb ?_ (Zb ?_ (Zb ?_ (Zb ?_ (Zb ?_ (Zb ?_ (Zb ?_ (Zb ?_ ZK)))))))))))))))))))))))) ?_
    ·exact fun a w ux12 hE hM hp=>Zd hE Za ld rfl fun a hE=>⟨Kept.refl _ _,_,_,rfl,hE,rfl⟩
    ·exact fun a w ux12 hE hM hp=>Zd hE Za ld rfl fun a hE=>⟨Kept.refl _ _,_,_,rfl,hE,rfl⟩
    ·intro a w ux12 hE hM hp
     have f0 : ux12 0 = (Value.slice (some ⟨pb1,0,none⟩) 16 16):=hp 0 _ rfl rfl
     have f1 : ux12 1 = (vI s4.2):=hp 1 _ rfl rfl
     exact Vd hE Za ld (lk rfl f0) (lk rfl f1) Try.underlying22 ty5 hi15.1 fun a hE=>⟨Kept.refl _ _,_,_,rfl,hE,rfl⟩
    ·intro a w ux12 hE hM hp
     have f2 : ux12 2 = (ptr pb1 (0 + (s4.2).toNat * 1)):=hp 0 _ rfl rfl
     exact Zu (v:=(vB x13)) hE Za ld (lk rfl f2) ty5 rfl (At.vec (hM.rawAt (pre:=[])) hi15.2) fun a hE=>⟨Kept.refl _ _,_,_,rfl,hE,rfl⟩
    ·exact fun a w ux12 hE hM hp=>Zd hE Za ld rfl fun a hE=>⟨Kept.refl _ _,_,_,rfl,hE,rfl⟩
    ·exact fun a w ux12 hE hM hp=>Zd hE Za ld rfl fun a hE=>⟨Kept.refl _ _,_,_,rfl,hE,rfl⟩
    ·intro a w ux12 hE hM hp
     have f5 : ux12 5 = (vI s4.2):=hp 0 _ rfl rfl
     exact Zi hE Za ld (lk rfl f5) rfl rfl fun a hE=>⟨Kept.refl _ _,_,_,rfl,hE,rfl⟩
    ·intro a w ux12 hE hM hp
     have f4 : ux12 4 = (Value.slice (some ⟨pb1,0,none⟩) 16 16):=hp 0 _ rfl rfl
     have f6 : ux12 6 = (vI (wr (s4.2 + 1))):=hp 1 _ rfl rfl
     exact Vd hE Za ld (lk rfl f4) (lk rfl f6) Try.underlying22 ty5 hi18.1 fun a hE=>⟨Kept.refl _ _,_,_,rfl,hE,rfl⟩
    ·intro a w ux12 hE hM hp
     have f7 : ux12 7 = (ptr pb1 (0 + ((wr (s4.2 + 1))).toNat * 1)):=hp 0 _ rfl rfl
     exact Zu (v:=(vB x16)) hE Za ld (lk rfl f7) ty5 rfl (At.vec (hM.rawAt (pre:=[])) hi18.2) fun a hE=>⟨Kept.refl _ _,_,_,rfl,hE,rfl⟩
    ·exact fun a w ux12 hE hM hp=>Zd hE Za ld rfl fun a hE=>⟨Kept.refl _ _,_,_,rfl,hE,rfl⟩
    ·exact fun a w ux12 hE hM hp=>Zd hE Za ld rfl fun a hE=>⟨Kept.refl _ _,_,_,rfl,hE,rfl⟩
    ·intro a w ux12 hE hM hp
     have f10 : ux12 10 = (vI s4.2):=hp 0 _ rfl rfl
     exact Zi hE Za ld (lk rfl f10) rfl rfl fun a hE=>⟨Kept.refl _ _,_,_,rfl,hE,rfl⟩
    ·intro a w ux12 hE hM hp
     have f9 : ux12 9 = (Value.slice (some ⟨pb1,0,none⟩) 16 16):=hp 0 _ rfl rfl
     have f11 : ux12 11 = (vI (wr (s4.2 + 2))):=hp 1 _ rfl rfl
     exact Vd hE Za ld (lk rfl f9) (lk rfl f11) Try.underlying22 ty5 hi21.1 fun a hE=>⟨Kept.refl _ _,_,_,rfl,hE,rfl⟩
    ·intro a w ux12 hE hM hp
     have f12 : ux12 12 = (ptr pb1 (0 + ((wr (s4.2 + 2))).toNat * 1)):=hp 0 _ rfl rfl
     exact Zu (v:=(vB x19)) hE Za ld (lk rfl f12) ty5 rfl (At.vec (hM.rawAt (pre:=[])) hi21.2) fun a hE=>⟨Kept.refl _ _,_,_,rfl,hE,rfl⟩
    ·exact fun a w ux12 hE hM hp=>Zd hE Za ld rfl fun a hE=>⟨Kept.refl _ _,_,_,rfl,hE,rfl⟩
    ·exact fun a w ux12 hE hM hp=>Zd hE Za ld rfl fun a hE=>⟨Kept.refl _ _,_,_,rfl,hE,rfl⟩
    ·intro a w ux12 hE hM hp
     have f15 : ux12 15 = (vI s4.2):=hp 0 _ rfl rfl
     exact Zi hE Za ld (lk rfl f15) rfl rfl fun a hE=>⟨Kept.refl _ _,_,_,rfl,hE,rfl⟩
    ·intro a w ux12 hE hM hp
     have f14 : ux12 14 = (Value.slice (some ⟨pb1,0,none⟩) 16 16):=hp 0 _ rfl rfl
     have f16 : ux12 16 = (vI (wr (s4.2 + 3))):=hp 1 _ rfl rfl
     exact Vd hE Za ld (lk rfl f14) (lk rfl f16) Try.underlying22 ty5 hi24.1 fun a hE=>⟨Kept.refl _ _,_,_,rfl,hE,rfl⟩
    ·intro a w ux12 hE hM hp
     have f17 : ux12 17 = (ptr pb1 (0 + ((wr (s4.2 + 3))).toNat * 1)):=hp 0 _ rfl rfl
     exact Zu (v:=(vB x22)) hE Za ld (lk rfl f17) ty5 rfl (At.vec (hM.rawAt (pre:=[])) hi24.2) fun a hE=>⟨Kept.refl _ _,_,_,rfl,hE,rfl⟩
    ·intro a w ux12 hE hM hp
     have f3 : ux12 3 = (vB x13):=hp 0 _ rfl rfl
     exact Ze hE Za ld (lk rfl f3) fun a hE=>⟨Kept.refl _ _,_,_,rfl,hE,rfl⟩
    ·intro a w ux12 hE hM hp
     have f8 : ux12 8 = (vB x16):=hp 0 _ rfl rfl
     exact Ze hE Za ld (lk rfl f8) fun a hE=>⟨Kept.refl _ _,_,_,rfl,hE,rfl⟩
    ·intro a w ux12 hE hM hp
     have f13 : ux12 13 = (vB x19):=hp 0 _ rfl rfl
     exact Ze hE Za ld (lk rfl f13) fun a hE=>⟨Kept.refl _ _,_,_,rfl,hE,rfl⟩
    ·intro a w ux12 hE hM hp
     have f18 : ux12 18 = (vB x22):=hp 0 _ rfl rfl
     exact Ze hE Za ld (lk rfl f18) fun a hE=>⟨Kept.refl _ _,_,_,rfl,hE,rfl⟩
    ·intro a w ux12 hE hM hg
     have hE:=hE.sub (e':=[(5,vB x13),(6,vB x16),(7,vB x19),(8,vB x22),(0,v0_1),(1,(Value.slice (some ⟨pb1,0,none⟩) 16 16)),(4,vI s4.2),(10,vI s4.2),(11,(Value.slice (some ⟨pb1,0,none⟩) 16 16)),(12,(vI (s4.1.toList.length : Int))),(13,(vT (decide (s4.2 < (s4.1.toList.length : Int)))))]) ⟨lk rfl (hg 19 (by decide)),lk rfl (hg 20 (by decide)),lk rfl (hg 21 (by decide)),lk rfl (hg 22 (by decide)),rfl,rfl,rfl,rfl,rfl,rfl,rfl,trivial⟩
     refine Zj ?_
     have ht25:=Option.some.inj hl10
     subst ht25
     refine Zk ?_
     exact ⟨hE.sub ⟨rfl,rfl,rfl,rfl,rfl,rfl,rfl,trivial⟩,hM⟩
   ·skip
    rintro a w ⟨hE,hM⟩
    refine Zc (Zd hE Za ld rfl fun a hE=>Zf ?_)
    obtain ⟨j26,hl27,hF28⟩:=bind_some hF11
    refine ZU (fun a w=>Env 79 a [(0,v0_1),(1,(Value.slice (some ⟨pb1,0,none⟩) 16 16)),(4,vI s4.2)] ∧ M St W w (raw pb1 (enc j26) :: its)) ?_ ?_
    ·skip
     refine wp_block ?_
     refine ZG (fun (s29 : (Vector UInt8 16) × Int) a w=>Env 79 a [(0,v0_1),(1,(Value.slice (some ⟨pb1,0,none⟩) 16 16)),(4,vI s4.2),(5,vB j9.1),(6,vB j9.2.1),(7,vB j9.2.2.1),(8,vB j9.2.2.2),(35,vI s29.2)] ∧ M St W w (raw pb1 (enc s29.1) :: its)) hl27 ⟨hE.sub ⟨rfl,rfl,rfl,rfl,rfl,rfl,rfl,rfl,trivial⟩,hM⟩ ?_
     rintro s29 a w ⟨hE,hM⟩ o32 hs30 hx31
     unfold YS at hs30
     refine Zc (Zi hE Za ld rfl rfl rfl fun a hE=>Zf (wp_seq ?_))
     refine Zw hE rfl ?_ ?_
     ·intro hb33
      have hs30:=Zz hs30 hb33
      refine wp_skip (Zy (wp_seq (wp_block (Zc (Zd hE Za ld rfl fun a hE=>Ze hE Za ld rfl fun a hE=>Zf ?_)))))
      obtain ⟨pb35,ds36,hv37,hx38,hA39,hB40⟩:=WX hv0_1 -- ^
      obtain ⟨rfl,_⟩:=VC.1 hx38 -- ^
      obtain ⟨x42,hi41,hs30⟩:=bvx hs30
      obtain ⟨x45,hi44,hs30⟩:=bvx hs30
      obtain ⟨x48,hi47,hs30⟩:=bvx hs30
      obtain ⟨pb50,ds51,hv52,hx53,hA54,hB55⟩:=WX hv0_1 -- ^
      obtain ⟨rfl,_⟩:=VC.1 hx53 -- ^
      obtain ⟨x57,hi56,hs30⟩:=bvx hs30
      obtain ⟨x60,hi59,hs30⟩:=bvx hs30
      obtain ⟨x63,hi62,hs30⟩:=bvx hs30
      obtain ⟨pb65,ds66,hv67,hx68,hA69,hB70⟩:=WX hv0_1 -- ^
      obtain ⟨rfl,_⟩:=VC.1 hx68 -- ^
      obtain ⟨x72,hi71,hs30⟩:=bvx hs30
      obtain ⟨x75,hi74,hs30⟩:=bvx hs30
      obtain ⟨x78,hi77,hs30⟩:=bvx hs30
      obtain ⟨pb80,ds81,hv82,hx83,hA84,hB85⟩:=WX hv0_1 -- ^
      obtain ⟨rfl,_⟩:=VC.1 hx83 -- ^
      obtain ⟨x87,hi86,hs30⟩:=bvx hs30
      obtain ⟨x90,hi89,hs30⟩:=bvx hs30
      obtain ⟨x93,hi92,hs30⟩:=bvx hs30
      obtain ⟨x95,hi97,hs30⟩:=bvx hs30
      refine YA (n:=79) (hd:=[_,_,_,_,_,_,_,_,_,_,_,_,_,_,_,_,_,_,_,_,_,_,_,_,_,_,_,_,_,_,_,_,_,_,_,_,_,_,_,_]) (tl:=[_]) Wa rfl rfl [38,39,40,41,42,43,44,45,46,47,48,49,50,51,52,53,54,55,56,57,58,59,60,61,62,63,64,65,66,67,68,69,70,71,72,73,74,75,76,77] (by decide) (fun w=>M St W w (raw pb1 (enc s29.1) :: its)) (fun j=>([fun v _=>v = (Value.slice (some ⟨pb1,0,none⟩) 16 16),fun v _=>v = (vI s4.2),fun v _=>v = (vI s29.2),fun v _=>v = (vI (wr (s4.2 + s29.2))),fun v _=>v = v0_1,fun v _=>v = (vI s29.2),fun v _=>v = (vB j9.1),fun v _=>v = (ptr pb35 0),fun v _=>v = (ptr pb35 (0 + (s29.2).toNat * 1024)),fun v _=>v = (ptr pb35 (0 + (s29.2).toNat * 1024 + ((0 : Int)).toNat * 256)),fun v _=>v = (ptr pb35 (0 + (s29.2).toNat * 1024 + ((0 : Int)).toNat * 256 + ((bI j9.1)).toNat * 1)),fun v _=>v = (vB x48),fun v _=>v = v0_1,fun v _=>v = (vI s29.2),fun v _=>v = (vB j9.2.1),fun v _=>v = (ptr pb50 0),fun v _=>v = (ptr pb50 (0 + (s29.2).toNat * 1024)),fun v _=>v = (ptr pb50 (0 + (s29.2).toNat * 1024 + ((1 : Int)).toNat * 256)),fun v _=>v = (ptr pb50 (0 + (s29.2).toNat * 1024 + ((1 : Int)).toNat * 256 + ((bI j9.2.1)).toNat * 1)),fun v _=>v = (vB x63),fun v _=>v = (vB (x48 ^^^ x63)),fun v _=>v = v0_1,fun v _=>v = (vI s29.2),fun v _=>v = (vB j9.2.2.1),fun v _=>v = (ptr pb65 0),fun v _=>v = (ptr pb65 (0 + (s29.2).toNat * 1024)),fun v _=>v = (ptr pb65 (0 + (s29.2).toNat * 1024 + ((2 : Int)).toNat * 256)),fun v _=>v = (ptr pb65 (0 + (s29.2).toNat * 1024 + ((2 : Int)).toNat * 256 + ((bI j9.2.2.1)).toNat * 1)),fun v _=>v = (vB x78),fun v _=>v = (vB ((x48 ^^^ x63) ^^^ x78)),fun v _=>v = v0_1,fun v _=>v = (vI s29.2),fun v _=>v = (vB j9.2.2.2),fun v _=>v = (ptr pb80 0),fun v _=>v = (ptr pb80 (0 + (s29.2).toNat * 1024)),fun v _=>v = (ptr pb80 (0 + (s29.2).toNat * 1024 + ((3 : Int)).toNat * 256)),fun v _=>v = (ptr pb80 (0 + (s29.2).toNat * 1024 + ((3 : Int)).toNat * 256 + ((bI j9.2.2.2)).toNat * 1)),fun v _=>v = (vB x93),fun v _=>v = (vB (((x48 ^^^ x63) ^^^ x78) ^^^ x93)),fun v _=>v = (ptr pb1 (0 + ((wr (s4.2 + s29.2))).toNat * 1))] : List (Value → World → Prop)).getD j (fun _ _=>True)) (fun _ _ h hk=>h.keep hk) (gup (Zh (Zh (Zh (Zh (Zh (Zh (Zh (Zh (Zh (Zh (Zh (Zh (Zh (Zh (Zh (Zh (Zh (Zh (Zh (Zh (Zh (Zh (Zh (Zh (Zh (Zh (Zh (Zh (Zh (Zh (Zh (Zh (Zh (Zh (Zh (Zh (Zh (Zh (Zh (Zh W9))))))))))))))))))))))))))))))))))))))))) hE hM.drew (ZP (Zb ?_ (Zb ?_ (Zb ?_ (Zb ?_ (Zb ?_ (Zb ?_ (Zb ?_ (Zb ?_ (Zb ?_ (Zb ?_ (Zb ?_ (Zb ?_ (Zb ?_ (Zb ?_ (Zb ?_ (Zb ?_ (Zb ?_ (Zb ?_ (Zb ?_ (Zb ?_ (Zb ?_ (Zb ?_ (Zb ?_ (Zb ?_ (Zb ?_ (Zb ?_ (Zb ?_ (Zb ?_ (Zb ?_ (Zb ?_ (Zb ?_ (Zb ?_ (Zb ?_ (Zb ?_ (Zb ?_ (Zb ?_ (Zb ?_ (Zb ?_ (Zb ?_ (Zb ?_ ZK))))))))))))))))))))))))))))))))))))))))) ?_
      ·exact fun a w ux34 hE hM hp=>Zd hE Za ld rfl fun a hE=>⟨Kept.refl _ _,_,_,rfl,hE,rfl⟩
      ·exact fun a w ux34 hE hM hp=>Zd hE Za ld rfl fun a hE=>⟨Kept.refl _ _,_,_,rfl,hE,rfl⟩
      ·exact fun a w ux34 hE hM hp=>Zd hE Za ld rfl fun a hE=>⟨Kept.refl _ _,_,_,rfl,hE,rfl⟩
      ·intro a w ux34 hE hM hp
       have f1 : ux34 1 = (vI s4.2):=hp 0 _ rfl rfl
       have f2 : ux34 2 = (vI s29.2):=hp 1 _ rfl rfl
       exact Zi hE Za ld (lk rfl f1) (lk rfl f2) rfl fun a hE=>⟨Kept.refl _ _,_,_,rfl,hE,rfl⟩
      ·exact fun a w ux34 hE hM hp=>Zd hE Za ld rfl fun a hE=>⟨Kept.refl _ _,_,_,rfl,hE,rfl⟩
      ·exact fun a w ux34 hE hM hp=>Zd hE Za ld rfl fun a hE=>⟨Kept.refl _ _,_,_,rfl,hE,rfl⟩
      ·exact fun a w ux34 hE hM hp=>Zd hE Za ld rfl fun a hE=>⟨Kept.refl _ _,_,_,rfl,hE,rfl⟩
      ·intro a w ux34 hE hM hp
       have f4 : ux34 4 = v0_1:=hp 0 _ rfl rfl
       exact Xd hE Za ld (lk (lk rfl f4) hv37) fun a hE=>⟨Kept.refl _ _,_,_,rfl,hE,rfl⟩
      ·intro a w ux34 hE hM hp
       have f5 : ux34 5 = (vI s29.2):=hp 1 _ rfl rfl
       have f7 : ux34 7 = (ptr pb35 0):=hp 0 _ rfl rfl
       exact Zg hE Za ld (lk rfl f7) (lk rfl f5) Try.underlying180 Qt hi41.1 fun a hE=>⟨Kept.refl _ _,_,_,rfl,hE,rfl⟩
      ·intro a w ux34 hE hM hp
       have f8 : ux34 8 = (ptr pb35 (0 + (s29.2).toNat * 1024)):=hp 0 _ rfl rfl
       exact Zg hE Za ld (lk rfl f8) rfl Try.underlying178 K2 hi44.1 fun a hE=>⟨Kept.refl _ _,_,_,rfl,hE,rfl⟩
      ·intro a w ux34 hE hM hp
       have f6 : ux34 6 = (vB j9.1):=hp 1 _ rfl rfl
       have f9 : ux34 9 = (ptr pb35 (0 + (s29.2).toNat * 1024 + ((0 : Int)).toNat * 256)):=hp 0 _ rfl rfl
       exact Zg hE Za ld (lk rfl f9) (lk rfl f6) Try.underlying41 ty5 hi47.1 fun a hE=>⟨Kept.refl _ _,_,_,rfl,hE,rfl⟩
      ·intro a w ux34 hE hM hp
       have f10 : ux34 10 = (ptr pb35 (0 + (s29.2).toNat * 1024 + ((0 : Int)).toNat * 256 + ((bI j9.1)).toNat * 1)):=hp 0 _ rfl rfl
       exact Zu (v:=(vB x48)) hE Za ld (lk rfl f10) ty5 rfl (At.vec (At.vec (At.vec (hM.atk hA39 hB40) hi41.2) hi44.2) hi47.2) fun a hE=>⟨Kept.refl _ _,_,_,rfl,hE,rfl⟩
      ·exact fun a w ux34 hE hM hp=>Zd hE Za ld rfl fun a hE=>⟨Kept.refl _ _,_,_,rfl,hE,rfl⟩
      ·exact fun a w ux34 hE hM hp=>Zd hE Za ld rfl fun a hE=>⟨Kept.refl _ _,_,_,rfl,hE,rfl⟩
      ·exact fun a w ux34 hE hM hp=>Zd hE Za ld rfl fun a hE=>⟨Kept.refl _ _,_,_,rfl,hE,rfl⟩
      ·intro a w ux34 hE hM hp
       have f12 : ux34 12 = v0_1:=hp 0 _ rfl rfl
       exact Xd hE Za ld (lk (lk rfl f12) hv52) fun a hE=>⟨Kept.refl _ _,_,_,rfl,hE,rfl⟩
      ·intro a w ux34 hE hM hp
       have f13 : ux34 13 = (vI s29.2):=hp 1 _ rfl rfl
       have f15 : ux34 15 = (ptr pb50 0):=hp 0 _ rfl rfl
       exact Zg hE Za ld (lk rfl f15) (lk rfl f13) Try.underlying180 Qt hi56.1 fun a hE=>⟨Kept.refl _ _,_,_,rfl,hE,rfl⟩
      ·intro a w ux34 hE hM hp
       have f16 : ux34 16 = (ptr pb50 (0 + (s29.2).toNat * 1024)):=hp 0 _ rfl rfl
       exact Zg hE Za ld (lk rfl f16) rfl Try.underlying178 K2 hi59.1 fun a hE=>⟨Kept.refl _ _,_,_,rfl,hE,rfl⟩
      ·intro a w ux34 hE hM hp
       have f14 : ux34 14 = (vB j9.2.1):=hp 1 _ rfl rfl
       have f17 : ux34 17 = (ptr pb50 (0 + (s29.2).toNat * 1024 + ((1 : Int)).toNat * 256)):=hp 0 _ rfl rfl
       exact Zg hE Za ld (lk rfl f17) (lk rfl f14) Try.underlying41 ty5 hi62.1 fun a hE=>⟨Kept.refl _ _,_,_,rfl,hE,rfl⟩
      ·intro a w ux34 hE hM hp
       have f18 : ux34 18 = (ptr pb50 (0 + (s29.2).toNat * 1024 + ((1 : Int)).toNat * 256 + ((bI j9.2.1)).toNat * 1)):=hp 0 _ rfl rfl
       exact Zu (v:=(vB x63)) hE Za ld (lk rfl f18) ty5 rfl (At.vec (At.vec (At.vec (hM.atk hA54 hB55) hi56.2) hi59.2) hi62.2) fun a hE=>⟨Kept.refl _ _,_,_,rfl,hE,rfl⟩
      ·intro a w ux34 hE hM hp
       have f11 : ux34 11 = (vB x48):=hp 0 _ rfl rfl
       have f19 : ux34 19 = (vB x63):=hp 1 _ rfl rfl
       exact Zi hE Za ld (lk rfl f11) (lk rfl f19) (WE x48 x63) fun a hE=>⟨Kept.refl _ _,_,_,rfl,hE,rfl⟩
      ·exact fun a w ux34 hE hM hp=>Zd hE Za ld rfl fun a hE=>⟨Kept.refl _ _,_,_,rfl,hE,rfl⟩
      ·exact fun a w ux34 hE hM hp=>Zd hE Za ld rfl fun a hE=>⟨Kept.refl _ _,_,_,rfl,hE,rfl⟩
      ·exact fun a w ux34 hE hM hp=>Zd hE Za ld rfl fun a hE=>⟨Kept.refl _ _,_,_,rfl,hE,rfl⟩
      ·intro a w ux34 hE hM hp
       have f21 : ux34 21 = v0_1:=hp 0 _ rfl rfl
       exact Xd hE Za ld (lk (lk rfl f21) hv67) fun a hE=>⟨Kept.refl _ _,_,_,rfl,hE,rfl⟩
      ·intro a w ux34 hE hM hp
       have f22 : ux34 22 = (vI s29.2):=hp 1 _ rfl rfl
       have f24 : ux34 24 = (ptr pb65 0):=hp 0 _ rfl rfl
       exact Zg hE Za ld (lk rfl f24) (lk rfl f22) Try.underlying180 Qt hi71.1 fun a hE=>⟨Kept.refl _ _,_,_,rfl,hE,rfl⟩
      ·intro a w ux34 hE hM hp
       have f25 : ux34 25 = (ptr pb65 (0 + (s29.2).toNat * 1024)):=hp 0 _ rfl rfl
       exact Zg hE Za ld (lk rfl f25) rfl Try.underlying178 K2 hi74.1 fun a hE=>⟨Kept.refl _ _,_,_,rfl,hE,rfl⟩
      ·intro a w ux34 hE hM hp
       have f23 : ux34 23 = (vB j9.2.2.1):=hp 1 _ rfl rfl
       have f26 : ux34 26 = (ptr pb65 (0 + (s29.2).toNat * 1024 + ((2 : Int)).toNat * 256)):=hp 0 _ rfl rfl
       exact Zg hE Za ld (lk rfl f26) (lk rfl f23) Try.underlying41 ty5 hi77.1 fun a hE=>⟨Kept.refl _ _,_,_,rfl,hE,rfl⟩
      ·intro a w ux34 hE hM hp
       have f27 : ux34 27 = (ptr pb65 (0 + (s29.2).toNat * 1024 + ((2 : Int)).toNat * 256 + ((bI j9.2.2.1)).toNat * 1)):=hp 0 _ rfl rfl
       exact Zu (v:=(vB x78)) hE Za ld (lk rfl f27) ty5 rfl (At.vec (At.vec (At.vec (hM.atk hA69 hB70) hi71.2) hi74.2) hi77.2) fun a hE=>⟨Kept.refl _ _,_,_,rfl,hE,rfl⟩
      ·intro a w ux34 hE hM hp
       have f20 : ux34 20 = (vB (x48 ^^^ x63)):=hp 0 _ rfl rfl
       have f28 : ux34 28 = (vB x78):=hp 1 _ rfl rfl
       exact Zi hE Za ld (lk rfl f20) (lk rfl f28) (WE (x48 ^^^ x63) x78) fun a hE=>⟨Kept.refl _ _,_,_,rfl,hE,rfl⟩
      ·exact fun a w ux34 hE hM hp=>Zd hE Za ld rfl fun a hE=>⟨Kept.refl _ _,_,_,rfl,hE,rfl⟩
      ·exact fun a w ux34 hE hM hp=>Zd hE Za ld rfl fun a hE=>⟨Kept.refl _ _,_,_,rfl,hE,rfl⟩
      ·exact fun a w ux34 hE hM hp=>Zd hE Za ld rfl fun a hE=>⟨Kept.refl _ _,_,_,rfl,hE,rfl⟩
      ·intro a w ux34 hE hM hp
       have f30 : ux34 30 = v0_1:=hp 0 _ rfl rfl
       exact Xd hE Za ld (lk (lk rfl f30) hv82) fun a hE=>⟨Kept.refl _ _,_,_,rfl,hE,rfl⟩
      ·intro a w ux34 hE hM hp
       have f31 : ux34 31 = (vI s29.2):=hp 1 _ rfl rfl
       have f33 : ux34 33 = (ptr pb80 0):=hp 0 _ rfl rfl
       exact Zg hE Za ld (lk rfl f33) (lk rfl f31) Try.underlying180 Qt hi86.1 fun a hE=>⟨Kept.refl _ _,_,_,rfl,hE,rfl⟩
      ·intro a w ux34 hE hM hp
       have f34 : ux34 34 = (ptr pb80 (0 + (s29.2).toNat * 1024)):=hp 0 _ rfl rfl
       exact Zg hE Za ld (lk rfl f34) rfl Try.underlying178 K2 hi89.1 fun a hE=>⟨Kept.refl _ _,_,_,rfl,hE,rfl⟩
      ·intro a w ux34 hE hM hp
       have f32 : ux34 32 = (vB j9.2.2.2):=hp 1 _ rfl rfl
       have f35 : ux34 35 = (ptr pb80 (0 + (s29.2).toNat * 1024 + ((3 : Int)).toNat * 256)):=hp 0 _ rfl rfl
       exact Zg hE Za ld (lk rfl f35) (lk rfl f32) Try.underlying41 ty5 hi92.1 fun a hE=>⟨Kept.refl _ _,_,_,rfl,hE,rfl⟩
      ·intro a w ux34 hE hM hp
       have f36 : ux34 36 = (ptr pb80 (0 + (s29.2).toNat * 1024 + ((3 : Int)).toNat * 256 + ((bI j9.2.2.2)).toNat * 1)):=hp 0 _ rfl rfl
       exact Zu (v:=(vB x93)) hE Za ld (lk rfl f36) ty5 rfl (At.vec (At.vec (At.vec (hM.atk hA84 hB85) hi86.2) hi89.2) hi92.2) fun a hE=>⟨Kept.refl _ _,_,_,rfl,hE,rfl⟩
      ·intro a w ux34 hE hM hp
       have f29 : ux34 29 = (vB ((x48 ^^^ x63) ^^^ x78)):=hp 0 _ rfl rfl
       have f37 : ux34 37 = (vB x93):=hp 1 _ rfl rfl
       exact Zi hE Za ld (lk rfl f29) (lk rfl f37) (WE ((x48 ^^^ x63) ^^^ x78) x93) fun a hE=>⟨Kept.refl _ _,_,_,rfl,hE,rfl⟩
      ·intro a w ux34 hE hM hp
       have f0 : ux34 0 = (Value.slice (some ⟨pb1,0,none⟩) 16 16):=hp 0 _ rfl rfl
       have f3 : ux34 3 = (vI (wr (s4.2 + s29.2))):=hp 1 _ rfl rfl
       exact Vd hE Za ld (lk rfl f0) (lk rfl f3) Try.underlying22 ty5 hi97.1 fun a hE=>⟨Kept.refl _ _,_,_,rfl,hE,rfl⟩
      ·intro a w ux34 hE hM hg
       have hE:=hE.sub (e':=[(76,(vB (((x48 ^^^ x63) ^^^ x78) ^^^ x93))),(77,(ptr pb1 (0 + ((wr (s4.2 + s29.2))).toNat * 1))),(0,v0_1),(1,(Value.slice (some ⟨pb1,0,none⟩) 16 16)),(4,vI s4.2),(5,vB j9.1),(6,vB j9.2.1),(7,vB j9.2.2.1),(8,vB j9.2.2.2),(9,vI s29.2),(35,vI s29.2),(36,(vT (decide (s29.2 < 4)))),(37,vI s29.2)]) ⟨lk rfl (hg 38 (by decide)),lk rfl (hg 39 (by decide)),rfl,rfl,rfl,rfl,rfl,rfl,rfl,rfl,rfl,rfl,rfl,trivial⟩
       refine Zm (seg:=[(vB (((x48 ^^^ x63) ^^^ x78) ^^^ x93))]) (cs':=enc (s29.1.setIfInBounds ((wr (s4.2 + s29.2))).toNat (((x48 ^^^ x63) ^^^ x78) ^^^ x93))) hE hM Za rfl rfl rfl ty5 rfl (ZE (v:=s29.1) (x:=((x48 ^^^ x63) ^^^ x78) ^^^ x93) hi97.1) (Flat.cell (((x48 ^^^ x63) ^^^ x78) ^^^ x93 : UInt8)) (Zs (v:=s29.1) (x:=((x48 ^^^ x63) ^^^ x78) ^^^ x93) hi97.1) fun w a hM hE=>Zj (Yg (Zy (wp_region_lit (Zi hE Za ld rfl rfl rfl fun a hE=>Zd hE Za ld rfl fun a hE=>Zj (Zk ?_)))))
       exact ⟨_,(ois hs30),hE.sub ⟨rfl,rfl,rfl,rfl,rfl,rfl,rfl,rfl,trivial⟩,hM⟩
     ·intro hb33
      have hs30:=ZA hs30 hb33
      refine wp_exit (Zo (Zo (Yt ?_)))
      have ht98:=hx31 _ (ois hs30)
      subst ht98
      refine Zk ?_
      exact ⟨hE.sub ⟨rfl,rfl,rfl,trivial⟩,hM⟩
    ·skip
     rintro a w ⟨hE,hM⟩
     refine Yg (Zy (wp_region_lit (Zd hE Za ld rfl fun a hE=>Zi hE Za ld rfl rfl rfl fun a hE=>Ze hE Za ld rfl fun a hE=>Zj (Zk ?_))))
     exact ⟨_,(ois hF28),hE.sub ⟨rfl,rfl,rfl,trivial⟩,hM⟩
  ·intro hb8
   have hs5:=ZA hs5 hb8
   refine wp_exit (Zo (Zo (Yt ?_)))
   have ht99:=hx6 _ (ois hs5)
   subst ht99
   refine Zk ?_
   exact ⟨hE.sub ⟨rfl,trivial⟩,hM⟩
 ·skip
  rintro a w ⟨hE,hM⟩
  have hr:=Option.some.inj hF3
  subst hr
  exact Bv hE (by rfl) ⟨_,rfl,rfl,hM⟩
def ZS (p0 : (Ref Gengine)) (s18 : (Vector UInt8 16) × Int) (s29 : (Vector UInt8 16) × Int) : Option (Fl ((Vector UInt8 16) × Int) (Vector UInt8 16)) :=
 if (decide (s29.2 < 16)) = true then ((Zq s18.1 s29.2).bind fun x34=>(Zq p0.v.box (bI x34)).bind fun x48=>(Zq s29.1 s29.2).bind fun x51=>some (Fl.nx ((s29.1.setIfInBounds (s29.2).toNat x48),wr (s29.2 + 1)))) else (some (Fl.ex s29.1))
def ZT (p0 : (Ref Gengine)) (p1 : (List (Vector UInt8 16))) (s18 : (Vector UInt8 16) × Int) : Option (Fl ((Vector UInt8 16) × Int) (Vector UInt8 16)) :=
 if (decide (s18.2 < (p1.length : Int))) = true then (((ZD (ZS p0 s18) (s18.1,0)).bind fun j26=>((Xc p0.v.places j26).bind fun r68=>some r68 : Option ((Vector UInt8 16))).bind fun j54=>(if (decide (s18.2 < (wr ((p1.length : Int) - 1)))) = true then ((slc j54.toList (0 : Int) (16 : Int)).bind fun l86=>(XL p0.v.mixer j54).bind fun r89=>some r89) else (some j54) : Option ((Vector UInt8 16))).bind fun j71=>(idx p1 s18.2).bind fun x94=>(Y3 j71 x94).bind fun r97=>some r97 : Option ((Vector UInt8 16))).bind fun j23=>some (Fl.nx (j23,wr (s18.2 + 1)))) else (some (Fl.ex s18.1))
def Z6 (p0 : (Ref Gengine)) (p1 : (List (Vector UInt8 16))) (p2 : (Vector UInt8 16)) : Option ((Vector UInt8 16)) :=
 ((idx p1 (0 : Int)).bind fun x9=>(Y3 p2 x9).bind fun r12=>some r12 : Option ((Vector UInt8 16))).bind fun j5=>(ZD (ZT p0 p1) (j5,1)).bind fun j15=>some j15
theorem VA (w0 : World) (p0 : (Ref Gengine)) (v0_1 : Value) (hv0_1 : Ro w0 p0 [v0_1]) (p1 : (List (Vector UInt8 16))) (v1_1 : Value) (hv1_1 : Ro w0 p1 [v1_1]) (p2 : (Vector UInt8 16)) (r : (Vector UInt8 16)) (hF : Z6 p0 p1 p2 = some r) :
  Calls Try.prog 134 [v0_1,v1_1,(Value.agg (enc p2).toArray)].toArray w0 (fun en w'=>∃ v,en = .returned v ∧ (v = (Value.agg (enc r).toArray) ∧ Kept (Old w0) w0 w')):=by
 refine ZB (n:=59) Try.func134 rfl rfl (nbl rfl) rfl ?_
 intro a hE
 have hM:=M.start w0
 unfold Z6 at hF
 refine Zc (ZR (cs:=enc p2) hE hM Za ld rfl rfl fun b1 w a hM hE=>ZF hE hM Za ld ZL fun b3 w a hM hE=>Zf ?_)
 obtain ⟨j5,hl6,hF7⟩:=bind_some hF
 refine ZQ (fun a w=>Env 59 a [(0,v0_1),(1,v1_1),(5,(ptr b1 0)),(6,(ptr b3 0))] ∧ M (Old w0) w0 w [raw b3 (enc (Vector.replicate 16 (0 : UInt8))),raw b1 (enc j5)]) ?_ ?_
 ·skip
  obtain ⟨x9,hi11,hl6⟩:=bix hl6
  obtain ⟨r12,e13,hl6⟩:=bind_some hl6
  refine YA (n:=59) (hd:=[_,_,_,_,_]) (tl:=[_]) Wa rfl rfl [10,11,12,13,14] (by decide) (fun w=>M (Old w0) w0 w [raw b3 (enc (Vector.replicate 16 (0 : UInt8))),raw b1 (enc p2)]) (fun j=>([fun v _=>v = (Value.agg (enc p2).toArray),fun v _=>v = v1_1,fun v _=>v = (ptr (sb v1_1) (so v1_1 + ((0 : Int)).toNat * 16)),fun v _=>v = (Value.agg (enc x9).toArray),fun v _=>v = (Value.agg (enc r12).toArray)] : List (Value → World → Prop)).getD j (fun _ _=>True)) (fun _ _ h hk=>h.keep hk) (gup (Zh (Zh (Zh (Zh (Zh W9)))))) hE hM.drew (ZP (Zb ?_ (Zb ?_ (Zb ?_ (Zb ?_ (Zb ?_ ZK)))))) ?_
  ·exact fun a w ux8 hE hM hp=>Zl (cs:=enc p2) hE Za ld rfl ZL rfl (hM.rawAt (pre:=[_])) (Flat.len _) fun a hE=>⟨Kept.refl _ _,_,_,rfl,hE,rfl⟩
  ·exact fun a w ux8 hE hM hp=>Zd hE Za ld rfl fun a hE=>⟨Kept.refl _ _,_,_,rfl,hE,rfl⟩
  ·intro a w ux8 hE hM hp
   have f1 : ux8 1 = v1_1:=hp 0 _ rfl rfl
   exact WI hE Za ld (lk rfl f1) rfl Try.underlying69 ZL (hM.rd hv1_1) hi11.1 fun a hE=>⟨Kept.refl _ _,_,_,rfl,hE,rfl⟩
  ·intro a w ux8 hE hM hp
   have f2 : ux8 2 = (ptr (sb v1_1) (so v1_1 + ((0 : Int)).toNat * 16)):=hp 0 _ rfl rfl
   exact Zl (cs:=enc x9) hE Za ld (lk rfl f2) ZL rfl (VP (hM.rd hv1_1) hi11.2) (Flat.len _) fun a hE=>⟨Kept.refl _ _,_,_,rfl,hE,rfl⟩
  ·intro a w ux8 hE hM hp
   have f0 : ux8 0 = (Value.agg (enc p2).toArray):=hp 0 _ rfl rfl
   have f3 : ux8 3 = (Value.agg (enc x9).toArray):=hp 1 _ rfl rfl
   refine Zv hE Za ld (YL (Ys (lk rfl f0) (Ys (lk rfl f3) Ve))) cb130 (VN _ p2 x9 r12 e13) ?_
   rintro v w a ⟨rfl,hK⟩ hE
   exact ⟨hK,_,_,rfl,hE,rfl⟩
  ·intro a w ux8 hE hM hg
   have hE:=hE.sub (e':=[(14,(Value.agg (enc r12).toArray)),(0,v0_1),(1,v1_1),(5,(ptr b1 0)),(6,(ptr b3 0))]) ⟨lk rfl (hg 4 (by decide)),rfl,rfl,rfl,rfl,trivial⟩
   have hM:=hM.pull (pre:=[_])
   refine Zm (seg:=enc r12) (cs':=enc r12) hE hM Za rfl rfl rfl ZL (Flat.len _) (zle flq) (Flat.cell _) (Zn flq) fun w a hM hE=>Zj ?_
   have ht14:=Option.some.inj hl6
   subst ht14
   refine Zk ?_
   have hM:=hM.pull (pre:=[_])
   exact ⟨hE.sub ⟨rfl,rfl,rfl,rfl,trivial⟩,hM⟩
 ·skip
  rintro a w ⟨hE,hM⟩
  refine wp_seq (Zc (Ze hE Za ld rfl fun a hE=>Zf ?_))
  obtain ⟨j15,hl16,hF17⟩:=bind_some hF7
  refine ZU (fun a w=>Env 59 a [(5,(ptr b1 0)),(6,(ptr b3 0))] ∧ M (Old w0) w0 w [raw b3 (enc (Vector.replicate 16 (0 : UInt8))),raw b1 (enc j15)]) ?_ ?_
  ·skip
   refine wp_block ?_
   refine ZG (fun (s18 : (Vector UInt8 16) × Int) a w=>Env 59 a [(0,v0_1),(1,v1_1),(5,(ptr b1 0)),(6,(ptr b3 0)),(7,vI s18.2)] ∧ M (Old w0) w0 w [raw b3 (enc (Vector.replicate 16 (0 : UInt8))),raw b1 (enc s18.1)]) hl16 ⟨hE.sub ⟨rfl,rfl,rfl,rfl,rfl,trivial⟩,hM⟩ ?_
   rintro s18 a w ⟨hE,hM⟩ o21 hs19 hx20
   unfold ZT at hs19
   refine wp_seq (Zc (Zd hE Za ld rfl fun a hE=>Zd hE Za ld rfl fun a hE=>K6 hE Za ld rfl Try.underlying69 (hM.rd hv1_1) fun a hE=>Zi hE Za ld rfl rfl rfl fun a hE=>Zf ?_))
   refine Zw hE rfl ?_ ?_
   ·intro hb22
    have hs19:=Zz hs19 hb22
    refine wp_skip (Zy ?_)
    obtain ⟨j23,hl24,hF25⟩:=bind_some hs19
    refine ZQ (fun a w=>Env 59 a [(0,v0_1),(1,v1_1),(5,(ptr b1 0)),(6,(ptr b3 0)),(7,vI s18.2)] ∧ M (Old w0) w0 w [raw b3 (enc (Vector.replicate 16 (0 : UInt8))),raw b1 (enc j23)]) ?_ ?_
    ·skip
     refine wp_block (wp_seq (Zc (Zl (cs:=enc s18.1) hE Za ld rfl ZL rfl (hM.rawAt (pre:=[_])) (Flat.len _) fun a hE=>Zd hE Za ld rfl fun a hE=>Zf ?_)))
     obtain ⟨j26,hl27,hF28⟩:=bind_some hl24
     refine ZU (fun a w=>Env 59 a [(0,v0_1),(1,v1_1),(5,(ptr b1 0)),(6,(ptr b3 0)),(7,vI s18.2)] ∧ M (Old w0) w0 w [raw b3 (enc (Vector.replicate 16 (0 : UInt8))),raw b1 (enc j26)]) ?_ ?_
     ·skip
      refine wp_block ?_
      refine ZG (fun (s29 : (Vector UInt8 16) × Int) a w=>Env 59 a [(0,v0_1),(1,v1_1),(5,(ptr b1 0)),(6,(ptr b3 0)),(7,vI s18.2),(21,(Value.agg (enc s18.1).toArray)),(22,vI s29.2)] ∧ M (Old w0) w0 w [raw b3 (enc (Vector.replicate 16 (0 : UInt8))),raw b1 (enc s29.1)]) hl27 ⟨hE.sub ⟨rfl,rfl,rfl,rfl,rfl,rfl,rfl,trivial⟩,hM⟩ ?_
      rintro s29 a w ⟨hE,hM⟩ o32 hs30 hx31
      unfold ZS at hs30
      refine Zc (Zi hE Za ld rfl rfl rfl fun a hE=>Zf (wp_seq ?_))
      refine Zw hE rfl ?_ ?_
      ·intro hb33
       have hs30:=Zz hs30 hb33
       refine wp_skip (Zy (wp_seq (wp_block (Zc (Zd hE Za ld rfl ?_))))); intro a hE
       obtain ⟨x34,hi36,hs30⟩:=bvx hs30
       refine Vy hE Za ld rfl rfl Try.underlying55 ty5 rfl rfl hi36 rfl fun a hE=>Ze hE Za ld rfl fun a hE=>Ze hE Za ld rfl fun a hE=>Zf (wp_region_lit (Zd hE Za ld rfl fun a hE=>Zd hE Za ld rfl fun a hE=>Zd hE Za ld rfl ?_)); intro a hE
       obtain ⟨pb37,ds38,hv39,hx40,hA41,hB42⟩:=WX hv0_1 -- ^
       obtain ⟨u43,u45,rfl,h44,h46⟩:=Vx hx40 -- ^
       refine Xd hE Za ld (lk rfl hv39) fun a hE=>Zp hE Za ld rfl (Kq) ?_; intro a hE
       obtain ⟨x48,hi47,hs30⟩:=bvx hs30
       refine Zg hE Za ld rfl rfl Try.underlying49 ty5 hi47.1 fun a hE=>Zu (v:=(vB x48)) hE Za ld rfl ty5 rfl (At.vec (At.cat (pre:=[]) (hM.atk hA41 hB42) cl0) hi47.2) ?_; intro a hE
       obtain ⟨x51,hi50,hs30⟩:=bvx hs30
       refine Zg hE Za ld rfl rfl Try.underlying55 ty5 hi50.1 ?_; intro a hE
       have hM:=hM.pull (pre:=[_])
       refine Zm (seg:=[vB x48]) (cs':=enc (s29.1.setIfInBounds (s29.2).toNat x48)) hE hM Za rfl rfl rfl ty5 rfl (ZE (v:=s29.1) (x:=x48) hi50.1) (Flat.cell (x48 : UInt8)) (Zs (v:=s29.1) (x:=x48) hi50.1) fun w a hM hE=>Zj (Yg (Zy (wp_region_lit (Zi hE Za ld rfl rfl rfl fun a hE=>Zd hE Za ld rfl fun a hE=>Zj (Zk ?_)))))
       have hM:=hM.pull (pre:=[_])
       exact ⟨_,(ois hs30),hE.sub ⟨rfl,rfl,rfl,rfl,rfl,rfl,rfl,trivial⟩,hM⟩
      ·intro hb33
       have hs30:=ZA hs30 hb33
       refine wp_exit (Zo (Zo (Yt ?_)))
       have ht53:=hx31 _ (ois hs30)
       subst ht53
       refine Zk ?_
       exact ⟨hE.sub ⟨rfl,rfl,rfl,rfl,rfl,trivial⟩,hM⟩
     ·skip
      rintro a w ⟨hE,hM⟩
      refine Zy ?_
      obtain ⟨j54,hl55,hF56⟩:=bind_some hF28
      refine ZQ (fun a w=>Env 59 a [(0,v0_1),(1,v1_1),(5,(ptr b1 0)),(6,(ptr b3 0)),(7,vI s18.2)] ∧ M (Old w0) w0 w [raw b3 (enc (Vector.replicate 16 (0 : UInt8))),raw b1 (enc j54)]) ?_ ?_
      ·skip
       obtain ⟨pb58,ds59,hv60,hx61,hA62,hB63⟩:=WX hv0_1 -- ^
       obtain ⟨u64,u66,rfl,h65,h67⟩:=Vx hx61 -- ^
       obtain ⟨r68,e69,hl55⟩:=bind_some hl55
       refine YA (n:=59) (hd:=[_,_,_,_,_,_]) (tl:=[_]) Wa rfl rfl [35,36,37,38,39,40] (by decide) (fun w=>M (Old w0) w0 w [raw b3 (enc (Vector.replicate 16 (0 : UInt8))),raw b1 (enc j26)]) (fun j=>([fun v _=>v = v0_1,fun v _=>v = (ptr pb58 0),fun v _=>v = (ptr pb58 (0 + 512)),fun v _=>v = (Value.agg (enc p0.v.places).toArray),fun v _=>v = (Value.agg (enc j26).toArray),fun v _=>v = (Value.agg (enc r68).toArray)] : List (Value → World → Prop)).getD j (fun _ _=>True)) (fun _ _ h hk=>h.keep hk) (gup (Zh (Zh (Zh (Zh (Zh (Zh W9))))))) hE hM.drew (ZP (Zb ?_ (Zb ?_ (Zb ?_ (Zb ?_ (Zb ?_ (Zb ?_ ZK))))))) ?_
       ·exact fun a w ux57 hE hM hp=>Zd hE Za ld rfl fun a hE=>⟨Kept.refl _ _,_,_,rfl,hE,rfl⟩
       ·intro a w ux57 hE hM hp
        have f0 : ux57 0 = v0_1:=hp 0 _ rfl rfl
        exact Xd hE Za ld (lk (lk rfl f0) hv60) fun a hE=>⟨Kept.refl _ _,_,_,rfl,hE,rfl⟩
       ·intro a w ux57 hE hM hp
        have f1 : ux57 1 = (ptr pb58 0):=hp 0 _ rfl rfl
        exact Zp hE Za ld (lk rfl f1) (Be) fun a hE=>⟨Kept.refl _ _,_,_,rfl,hE,rfl⟩
       ·intro a w ux57 hE hM hp
        have f2 : ux57 2 = (ptr pb58 (0 + 512)):=hp 0 _ rfl rfl
        exact Zl (cs:=enc p0.v.places) hE Za ld (lk rfl f2) Vg rfl (At.cat (pre:=[enc p0.v.box,enc p0.v.backBox]) (hM.atk hA62 hB63) (cl1 (n:=256) (m:=256) (Flat.len _) (cl1 (n:=256) (m:=0) (Flat.len _) cl0))) (Flat.len _) fun a hE=>⟨Kept.refl _ _,_,_,rfl,hE,rfl⟩
       ·exact fun a w ux57 hE hM hp=>Zl (cs:=enc j26) hE Za ld rfl ZL rfl (hM.rawAt (pre:=[_])) (Flat.len _) fun a hE=>⟨Kept.refl _ _,_,_,rfl,hE,rfl⟩
       ·intro a w ux57 hE hM hp
        have f3 : ux57 3 = (Value.agg (enc p0.v.places).toArray):=hp 0 _ rfl rfl
        have f4 : ux57 4 = (Value.agg (enc j26).toArray):=hp 1 _ rfl rfl
        refine Zv hE Za ld (YL (Ys (lk rfl f3) (Ys (lk rfl f4) Ve))) cb132 (UX _ p0.v.places j26 r68 e69) ?_
        rintro v w a ⟨rfl,hK⟩ hE
        exact ⟨hK,_,_,rfl,hE,rfl⟩
       ·intro a w ux57 hE hM hg
        have hE:=hE.sub (e':=[(40,(Value.agg (enc r68).toArray)),(0,v0_1),(1,v1_1),(5,(ptr b1 0)),(6,(ptr b3 0)),(7,vI s18.2)]) ⟨lk rfl (hg 5 (by decide)),rfl,rfl,rfl,rfl,rfl,trivial⟩
        have hM:=hM.pull (pre:=[_])
        refine Zm (seg:=enc r68) (cs':=enc r68) hE hM Za rfl rfl rfl ZL (Flat.len _) (zle flq) (Flat.cell _) (Zn flq) fun w a hM hE=>Zj ?_
        have ht70:=Option.some.inj hl55
        subst ht70
        refine Zk ?_
        have hM:=hM.pull (pre:=[_])
        exact ⟨hE.sub ⟨rfl,rfl,rfl,rfl,rfl,trivial⟩,hM⟩
      ·skip
       rintro a w ⟨hE,hM⟩
       obtain ⟨j71,hl72,hF73⟩:=bind_some hF56
       refine ZQ (fun a w=>Env 59 a [(0,v0_1),(1,v1_1),(5,(ptr b1 0)),(6,(ptr b3 0)),(7,vI s18.2)] ∧ M (Old w0) w0 w [raw b3 (enc (Vector.replicate 16 (0 : UInt8))),raw b1 (enc j71)]) ?_ ?_
       ·skip
        refine Zc (Zd hE Za ld rfl fun a hE=>Zd hE Za ld rfl fun a hE=>K6 hE Za ld rfl Try.underlying69 (hM.rd hv1_1) fun a hE=>Zi hE Za ld rfl rfl rfl fun a hE=>Zi hE Za ld rfl rfl rfl fun a hE=>Zf ?_)
        refine Zw hE rfl ?_ ?_
        ·intro hb74
         have hl72:=Zz hl72 hb74
         obtain ⟨pb76,ds77,hv78,hx79,hA80,hB81⟩:=WX hv0_1 -- ^
         obtain ⟨u82,u84,rfl,h83,h85⟩:=Vx hx79 -- ^
         obtain ⟨l86,e87,hl72⟩:=bind_some hl72
         have hb88:=KB e87 -- ^
         refine YA (n:=59) (hd:=[_,_,_,_,_]) (tl:=[_]) Wa rfl rfl [46,47,48,49,50] (by decide) (fun w=>M (Old w0) w0 w [raw b3 (enc (Vector.replicate 16 (0 : UInt8))),raw b1 (enc j54)]) (fun j=>([fun v _=>v = v0_1,fun v _=>v = (ptr pb76 0),fun v _=>v = (ptr pb76 (0 + 544)),fun v _=>v = u82,fun v _=>v = (Wf (.slice (some ⟨b1,0,none⟩) 16 16) ((0 : Int)).toNat ((16 : Int)).toNat 1)] : List (Value → World → Prop)).getD j (fun _ _=>True)) (fun _ _ h hk=>h.keep hk) (gup (Zh (Zh (Zh (Zh (Zh W9)))))) hE hM.drew (ZP (Zb ?_ (Zb ?_ (Zb ?_ (Zb ?_ (Zb ?_ ZK)))))) ?_
         ·exact fun a w ux75 hE hM hp=>Zd hE Za ld rfl fun a hE=>⟨Kept.refl _ _,_,_,rfl,hE,rfl⟩
         ·intro a w ux75 hE hM hp
          have f0 : ux75 0 = v0_1:=hp 0 _ rfl rfl
          exact Xd hE Za ld (lk (lk rfl f0) hv78) fun a hE=>⟨Kept.refl _ _,_,_,rfl,hE,rfl⟩
         ·intro a w ux75 hE hM hp
          have f1 : ux75 1 = (ptr pb76 0):=hp 0 _ rfl rfl
          exact Zp hE Za ld (lk rfl f1) (Bu) fun a hE=>⟨Kept.refl _ _,_,_,rfl,hE,rfl⟩
         ·intro a w ux75 hE hM hp
          have f2 : ux75 2 = (ptr pb76 (0 + 544)):=hp 0 _ rfl rfl
          exact Zu (v:=u82) hE Za ld (lk rfl f2) HY rfl (At.cat (pre:=[enc p0.v.box,enc p0.v.backBox,enc p0.v.places,enc p0.v.backPlaces]) (hM.atk hA80 hB81) (cl1 (n:=256) (m:=288) (Flat.len _) (cl1 (n:=256) (m:=32) (Flat.len _) (cl1 (n:=16) (m:=16) (Flat.len _) (cl1 (n:=16) (m:=0) (Flat.len _) cl0))))) fun a hE=>⟨Kept.refl _ _,_,_,rfl,hE,rfl⟩
         ·exact fun a w ux75 hE hM hp=>UQ (N:=16) hE Za ld rfl rfl rfl rfl rfl Try.underlying55 ty5 hb88 fun a hE=>⟨Kept.refl _ _,_,_,rfl,hE,rfl⟩
         ·intro a w ux75 hE hM hg
          have hE:=hE.sub (e':=[(49,u82),(50,(Wf (.slice (some ⟨b1,0,none⟩) 16 16) ((0 : Int)).toNat ((16 : Int)).toNat 1)),(0,v0_1),(1,v1_1),(5,(ptr b1 0)),(6,(ptr b3 0)),(7,vI s18.2),(41,vI s18.2),(42,v1_1),(43,(vI (p1.length : Int))),(44,(vI (wr ((p1.length : Int) - 1)))),(45,(vT (decide (s18.2 < (wr ((p1.length : Int) - 1))))))]) ⟨lk rfl (hg 3 (by decide)),lk rfl (hg 4 (by decide)),rfl,rfl,rfl,rfl,rfl,rfl,rfl,rfl,rfl,rfl,trivial⟩
          have hM:=hM.pull (pre:=[_])
          obtain ⟨r89,e90,hl72⟩:=bind_some hl72
          refine Zv hE Za ld rfl cb131 (TI _ _ _ _ p0.v.mixer u82 h83 b1 j54 hM r89 e90) ?_
          rintro v w a ⟨rfl,hM⟩ hE
          refine Zj ?_
          have ht91:=Option.some.inj hl72
          subst ht91
          refine Zk ?_
          have hM:=hM.pull (pre:=[_])
          exact ⟨hE.sub ⟨rfl,rfl,rfl,rfl,rfl,trivial⟩,hM⟩
        ·intro hb74
         have hl72:=ZA hl72 hb74
         refine wp_skip ?_
         have ht92:=Option.some.inj hl72
         subst ht92
         refine Zk ?_
         exact ⟨hE.sub ⟨rfl,rfl,rfl,rfl,rfl,trivial⟩,hM⟩
       ·skip
        rintro a w ⟨hE,hM⟩
        obtain ⟨x94,hi96,hF73⟩:=bix hF73
        obtain ⟨r97,e98,hF73⟩:=bind_some hF73
        refine YA (n:=59) (hd:=[_,_,_,_,_,_]) (tl:=[_]) Wa rfl rfl [52,53,54,55,56,57] (by decide) (fun w=>M (Old w0) w0 w [raw b3 (enc (Vector.replicate 16 (0 : UInt8))),raw b1 (enc j71)]) (fun j=>([fun v _=>v = (Value.agg (enc j71).toArray),fun v _=>v = v1_1,fun v _=>v = (vI s18.2),fun v _=>v = (ptr (sb v1_1) (so v1_1 + (s18.2).toNat * 16)),fun v _=>v = (Value.agg (enc x94).toArray),fun v _=>v = (Value.agg (enc r97).toArray)] : List (Value → World → Prop)).getD j (fun _ _=>True)) (fun _ _ h hk=>h.keep hk) (gup (Zh (Zh (Zh (Zh (Zh (Zh W9))))))) hE hM.drew (ZP (Zb ?_ (Zb ?_ (Zb ?_ (Zb ?_ (Zb ?_ (Zb ?_ ZK))))))) ?_
        ·exact fun a w ux93 hE hM hp=>Zl (cs:=enc j71) hE Za ld rfl ZL rfl (hM.rawAt (pre:=[_])) (Flat.len _) fun a hE=>⟨Kept.refl _ _,_,_,rfl,hE,rfl⟩
        ·exact fun a w ux93 hE hM hp=>Zd hE Za ld rfl fun a hE=>⟨Kept.refl _ _,_,_,rfl,hE,rfl⟩
        ·exact fun a w ux93 hE hM hp=>Zd hE Za ld rfl fun a hE=>⟨Kept.refl _ _,_,_,rfl,hE,rfl⟩
        ·intro a w ux93 hE hM hp
         have f1 : ux93 1 = v1_1:=hp 0 _ rfl rfl
         have f2 : ux93 2 = (vI s18.2):=hp 1 _ rfl rfl
         exact WI hE Za ld (lk rfl f1) (lk rfl f2) Try.underlying69 ZL (hM.rd hv1_1) hi96.1 fun a hE=>⟨Kept.refl _ _,_,_,rfl,hE,rfl⟩
        ·intro a w ux93 hE hM hp
         have f3 : ux93 3 = (ptr (sb v1_1) (so v1_1 + (s18.2).toNat * 16)):=hp 0 _ rfl rfl
         exact Zl (cs:=enc x94) hE Za ld (lk rfl f3) ZL rfl (VP (hM.rd hv1_1) hi96.2) (Flat.len _) fun a hE=>⟨Kept.refl _ _,_,_,rfl,hE,rfl⟩
        ·intro a w ux93 hE hM hp
         have f0 : ux93 0 = (Value.agg (enc j71).toArray):=hp 0 _ rfl rfl
         have f4 : ux93 4 = (Value.agg (enc x94).toArray):=hp 1 _ rfl rfl
         refine Zv hE Za ld (YL (Ys (lk rfl f0) (Ys (lk rfl f4) Ve))) cb130 (VN _ j71 x94 r97 e98) ?_
         rintro v w a ⟨rfl,hK⟩ hE
         exact ⟨hK,_,_,rfl,hE,rfl⟩
        ·intro a w ux93 hE hM hg
         have hE:=hE.sub (e':=[(57,(Value.agg (enc r97).toArray)),(0,v0_1),(1,v1_1),(5,(ptr b1 0)),(6,(ptr b3 0)),(7,vI s18.2)]) ⟨lk rfl (hg 5 (by decide)),rfl,rfl,rfl,rfl,rfl,trivial⟩
         have hM:=hM.pull (pre:=[_])
         refine Zm (seg:=enc r97) (cs':=enc r97) hE hM Za rfl rfl rfl ZL (Flat.len _) (zle flq) (Flat.cell _) (Zn flq) fun w a hM hE=>Zj (Yg ?_)
         have ht99:=Option.some.inj hF73
         subst ht99
         refine Zk ?_
         have hM:=hM.pull (pre:=[_])
         exact ⟨hE.sub ⟨rfl,rfl,rfl,rfl,rfl,trivial⟩,hM⟩
    ·skip
     rintro a w ⟨hE,hM⟩
     refine wp_region_lit (Zd hE Za ld rfl fun a hE=>Zi hE Za ld rfl rfl rfl fun a hE=>Ze hE Za ld rfl fun a hE=>Zj (Zk ?_))
     exact ⟨_,(ois hF25),hE.sub ⟨rfl,rfl,rfl,rfl,rfl,trivial⟩,hM⟩
   ·intro hb22
    have hs19:=ZA hs19 hb22
    refine wp_exit (Zo (Zo (Yt ?_)))
    have ht100:=hx20 _ (ois hs19)
    subst ht100
    refine Zk ?_
    exact ⟨hE.sub ⟨rfl,rfl,trivial⟩,hM⟩
  ·skip
   rintro a w ⟨hE,hM⟩
   refine Zy (Zc (Zl (cs:=enc j15) hE Za ld rfl ZL rfl (hM.rawAt (pre:=[_])) (Flat.len _) fun a hE=>Zm (seg:=enc j15) (cs':=enc j15) hE hM Za rfl rfl rfl ZL (Flat.len _) (zle flq) (Flat.cell _) (Zn flq) fun w a hM hE=>Zf ?_))
   have hr:=Option.some.inj hF17
   subst hr
   have hq101 : Yy Try.prog _ _ (.cell 6 55) _:=ZX hE rfl ZL rfl (hM.rawAt (pre:=[])) (Flat.len _) rfl
   have hM:=M.fst (l:=[]) hM
   exact wp_ret (ZC hE rfl hq101 ⟨_,rfl,rfl,hM.kept⟩)
def Yw (p0 : Gkeyed) (p1 : (Vector UInt8 16)) : Option ((Vector UInt8 16)) :=
 (Z6 p0.engine p0.keys p1).bind fun r7=>some r7
theorem Uf (w0 : World) (p0 : Gkeyed) (v0_1 : Value) (hv0_1 : Ro w0 p0.engine [v0_1]) (v0_2 : Value) (hv0_2 : Ro w0 p0.keys [v0_2]) (p1 : (Vector UInt8 16)) (r : (Vector UInt8 16)) (hF : Yw p0 p1 = some r) :
  Calls Try.prog 112 [(Value.agg (cat [[v0_1],[v0_2]]).toArray),(Value.agg (enc p1).toArray)].toArray w0 (fun en w'=>∃ v,en = .returned v ∧ (v = (Value.agg (enc r).toArray) ∧ Kept (Old w0) w0 w')):=by
 refine ZB (n:=11) Try.func112 rfl rfl (nbl rfl) rfl ?_
 intro a hE
 have hM:=M.start w0
 unfold Yw at hF
 refine Zc (ZR (cs:=cat [[v0_1],[v0_2]]) hE hM Za ld rfl rfl fun b1 w a hM hE=>ZR (cs:=enc p1) hE hM Za ld rfl rfl fun b3 w a hM hE=>ZF hE hM Za ld ZL fun b5 w a hM hE=>Zf (Zc (Zp hE Za ld rfl (Bt) fun a hE=>Zu (v:=v0_1) hE Za ld rfl ty98 rfl (At.cat (pre:=[]) (hM.rawAt (pre:=[_,_])) cl0) fun a hE=>Zp hE Za ld rfl (Bf) fun a hE=>Zu (v:=v0_2) hE Za ld rfl ty69 rfl (At.cat (pre:=[[v0_1]]) (hM.rawAt (pre:=[_,_])) (cl1 (n:=1) (m:=0) rfl cl0)) fun a hE=>Zl (cs:=enc p1) hE Za ld rfl ZL rfl (hM.rawAt (pre:=[_])) (Flat.len _) ?_))); intro a hE
 obtain ⟨r7,e8,hF⟩:=bind_some hF
 refine Zv hE Za ld rfl cb134 (VA _ p0.engine v0_1 (hM.rdo hv0_1) p0.keys v0_2 (hM.rdo hv0_2) p1 r7 e8) ?_
 rintro v w a ⟨rfl,hK⟩ hE
 have hM:=hM.keep hK
 refine Zm (seg:=enc r7) (cs':=enc r7) hE hM Za rfl rfl rfl ZL (Flat.len _) (zle flq) (Flat.cell _) (Zn flq) fun w a hM hE=>Zf ?_
 have hr:=Option.some.inj hF
 subst hr
 have hq9 : Yy Try.prog _ _ (.cell 4 55) _:=ZX hE rfl ZL rfl (hM.rawAt (pre:=[])) (Flat.len _) rfl
 have hM:=M.fst (l:=[]) hM
 exact wp_ret (ZC hE rfl hq9 ⟨_,rfl,rfl,hM.kept⟩)
def Xf (p0 : Gkeyed) (p1 : Int) : Option (Int) :=
 (Yw p0 (((Vector.replicate 16 (0 : UInt8)).setIfInBounds 0 (ZO p1)).setIfInBounds 1 (ZO (TL p1 8)))).bind fun r3=>(Zq r3 (0 : Int)).bind fun x8=>(Zq r3 (1 : Int)).bind fun x11=>some (wr ((bI x8) + (wr (256 * (bI x11)))))
theorem UO (w0 : World) (p0 : Gkeyed) (v0_1 : Value) (hv0_1 : Ro w0 p0.engine [v0_1]) (v0_2 : Value) (hv0_2 : Ro w0 p0.keys [v0_2]) (p1 : Int) (r : Int) (hF : Xf p0 p1 = some r) :
  Calls Try.prog 70 [(Value.agg (cat [[v0_1],[v0_2]]).toArray),vI p1].toArray w0 (fun en w'=>∃ v,en = .returned v ∧ (v = (vI r) ∧ Kept (Old w0) w0 w')):=by
 refine ZB (n:=22) Try.func70 rfl rfl (nbl rfl) rfl ?_
 intro a hE
 have hM:=M.start w0
 unfold Xf at hF
 refine Zc (ZR (cs:=cat [[v0_1],[v0_2]]) hE hM Za ld rfl rfl fun b1 w a hM hE=>Ze hE Za ld rfl fun a hE=>Zf (Zc (Zl (cs:=cat [[v0_1],[v0_2]]) hE Za ld rfl UM rfl (hM.rawAt (pre:=[])) (ZZ (cl1 (n:=1) (m:=1) rfl (cl1 (n:=1) (m:=0) rfl cl0))) fun a hE=>Zd hE Za ld rfl fun a hE=>XW hE Za ld rfl Try.underlying2 Try.underlying5 ?_))); intro a hE
 rw [Xq] at hE
 refine Zd hE Za ld rfl fun a hE=>Ji hE Za ld rfl rfl (HN _ _ (by decide)) fun a hE=>XW hE Za ld rfl Try.underlying2 Try.underlying5 ?_; intro a hE
 rw [Xq] at hE
 refine Y8 (parts:=[(0,.tmp 8),(1,.tmp 11)]) (vs:=[(0,(vB (ZO p1))),(1,(vB (ZO (TL p1 8))))]) (cs:=enc (((Vector.replicate 16 (0 : UInt8)).setIfInBounds 0 (ZO p1)).setIfInBounds 1 (ZO (TL p1 8)))) hE Za ld rfl rfl ZL rfl ty5 (VY (v:=(Vector.replicate 16 (0 : UInt8))) (x:=ZO p1) rfl (by decide) rfl (VY (v:=((Vector.replicate 16 (0 : UInt8)).setIfInBounds 0 (ZO p1))) (x:=ZO (TL p1 8)) rfl (by decide) rfl YB)) ?_; intro a hE
 obtain ⟨r3,e4,hF⟩:=bind_some hF
 refine Zv hE Za ld rfl cb112 (Uf _ p0 v0_1 (hM.rdo hv0_1) v0_2 (hM.rdo hv0_2) (((Vector.replicate 16 (0 : UInt8)).setIfInBounds 0 (ZO p1)).setIfInBounds 1 (ZO (TL p1 8))) r3 e4) ?_
 rintro v w a ⟨rfl,hK⟩ hE
 have hM:=hM.keep hK
 refine ZF hE hM Za ld ZL fun b5 w a hM hE=>Zm (seg:=enc r3) (cs':=enc r3) hE hM Za rfl rfl rfl ZL (Flat.len _) (zle flq) (Flat.cell _) (Zn flq) fun w a hM hE=>Zf (Zc ?_)
 obtain ⟨x8,hi7,hF⟩:=bvx hF
 refine Zg hE Za ld rfl rfl Try.underlying55 ty5 hi7.1 fun a hE=>Zu (v:=(vB x8)) hE Za ld rfl ty5 rfl (At.vec (hM.rawAt (pre:=[])) hi7.2) fun a hE=>XW hE Za ld rfl Try.underlying5 Try.underlying2 ?_; intro a hE
 rw [W8] at hE
 obtain ⟨x11,hi10,hF⟩:=bvx hF
 refine Zg hE Za ld rfl rfl Try.underlying55 ty5 hi10.1 fun a hE=>Zu (v:=(vB x11)) hE Za ld rfl ty5 rfl (At.vec (hM.rawAt (pre:=[])) hi10.2) fun a hE=>XW hE Za ld rfl Try.underlying5 Try.underlying2 ?_; intro a hE
 rw [W8] at hE
 refine Zi hE Za ld rfl rfl rfl fun a hE=>Zi hE Za ld rfl rfl rfl fun a hE=>Ze hE Za ld rfl fun a hE=>Zf ?_
 have hr:=Option.some.inj hF
 subst hr
 have hM:=M.fst (l:=[]) hM
 exact wp_ret (ZC hE rfl (Zx hE rfl) ⟨_,rfl,rfl,hM.kept⟩)
def Xi (r8 : Gkeyed) (s19 : (List (Int × Int)) × Int × Int) : Option (Fl ((List (Int × Int)) × Int × Int) (Int × Int × Int)) :=
 if ((WZ s19.1 s19.2.2).isSome) = true then (some (Fl.ex ((WZ s19.1 s19.2.2).getD 0,wr (s19.2.1 - ((WZ s19.1 s19.2.2).getD 0)),0))) else ((Xf r8 s19.2.2).bind fun r25=>some (Fl.nx ((V1 s19.1 s19.2.2 s19.2.1),wr (s19.2.1 + 1),r25)))
def WK (p0 : GCipher) (p1 : (Vector UInt8 16)) (p2 : Int) : Option (Int × Int × Int) :=
 (XY p0 p2).bind fun r5=>if (r5 != 0) = true then (some (0,0,r5)) else ((X1 p0 p1).bind fun r8=>(ZD (Xi r8) (([] : (List (Int × Int))),0,p2)).bind fun r=>some r)
theorem Q8 (w0 : World) (p0 : GCipher) (p1 : (Vector UInt8 16)) (p2 : Int) (r : Int × Int × Int) (hF : WK p0 p1 p2 = some r) :
  Calls Try.prog 27 [(Value.agg (enc p0).toArray),(Value.agg (enc p1).toArray),vI p2].toArray w0 (fun en w'=>∃ v,en = .returned v ∧ (v = (Value.tuple [vI r.1,vI r.2.1,vI r.2.2].toArray) ∧ Kept (Old w0) w0 w')):=by
 refine ZB (n:=44) Try.func27 rfl rfl (nbl rfl) rfl ?_
 intro a hE
 have hM:=M.start w0
 unfold WK at hF
 refine Zc (ZR (cs:=cat [[vI p0.Field],enc p0.Box,enc p0.Mix,enc p0.Places,[vI p0.Rounds]]) hE hM Za ld rfl rfl fun b1 w a hM hE=>ZR (cs:=enc p1) hE hM Za ld rfl rfl fun b3 w a hM hE=>Ze hE Za ld rfl fun a hE=>Ze hE Za ld rfl fun a hE=>Ze hE Za ld rfl fun a hE=>Zf (wp_seq (Zc (Zl (cs:=enc p0) hE Za ld rfl VQ rfl (hM.rawAt (pre:=[_])) (ZZ (cl1 (n:=1) (m:=289) rfl (cl1 (n:=256) (m:=33) (Flat.len _) (cl1 (n:=16) (m:=17) (Flat.len _) (cl1 (n:=16) (m:=1) (Flat.len _) (cl1 (n:=1) (m:=0) rfl cl0)))))) fun a hE=>Zd hE Za ld rfl ?_)))); intro a hE
 obtain ⟨r5,e6,hF⟩:=bind_some hF
 refine Zv hE Za ld rfl cb68 (Qg _ p0 p2 r5 e6) ?_
 rintro v w a ⟨rfl,hK⟩ hE
 have hM:=hM.keep hK
 refine Ze hE Za ld rfl fun a hE=>Zf (Zc (Zd hE Za ld rfl fun a hE=>Zi hE Za ld rfl rfl rfl fun a hE=>Zf ?_))
 refine Zw hE rfl ?_ ?_
 ·intro hb7
  have hF:=Zz hF hb7
  refine Zc (Zd hE Za ld rfl fun a hE=>Ze hE Za ld rfl fun a hE=>Ze hE Za ld rfl fun a hE=>Ze hE Za ld rfl fun a hE=>Zf ?_)
  have hr:=Option.some.inj hF
  subst hr
  have hM:=M.fst (l:=[]) hM
  exact wp_ret (ZI (KJ hE rfl (Zx hE rfl) (Zx hE rfl) (Zx hE rfl) ⟨_,rfl,rfl,hM.kept⟩))
 ·intro hb7
  have hF:=ZA hF hb7
  refine wp_skip (Zy (Zc (Zl (cs:=enc p0) hE Za ld rfl VQ rfl (hM.rawAt (pre:=[_])) (ZZ (cl1 (n:=1) (m:=289) rfl (cl1 (n:=256) (m:=33) (Flat.len _) (cl1 (n:=16) (m:=17) (Flat.len _) (cl1 (n:=16) (m:=1) (Flat.len _) (cl1 (n:=1) (m:=0) rfl cl0)))))) fun a hE=>Zl (cs:=enc p1) hE Za ld rfl ZL rfl (hM.rawAt (pre:=[])) (Flat.len _) ?_))); intro a hE
  obtain ⟨r8,e9,hF⟩:=bind_some hF
  refine Zv hE Za ld rfl cb69 (Ql _ p0 p1 r8 e9) ?_
  rintro v w a ⟨u10,u11,rfl,hFr,hK⟩ hE
  have hM:=hM.add hK hFr
  refine Hm (κ:=Int) (α:=Int) (S:=NoB) (Value.int .i64) hE hM noB Za ld fun b12 w a hM hE=>ZF hE hM Za ld UM fun b14 w a hM hE=>Zm (seg:=cat [[u10],[u11]]) (cs':=cat [[u10],[u11]]) hE hM Za rfl rfl rfl UM (ZZ (cl1 (n:=1) (m:=1) rfl (cl1 (n:=1) (m:=0) rfl cl0))) (Nat.le_of_eq ((Nat.zero_add _).trans (Eq.trans (ZZ (cl1 (n:=1) (m:=1) rfl (cl1 (n:=1) (m:=0) rfl cl0))) (Eq.symm (ZZ (cl1 (n:=1) (m:=1) rfl (cl1 (n:=1) (m:=0) rfl cl0))))))) (Ta (cc1 (Rep.cell (hM.ro (pre:=[_,_]) noB)) (cc1 (Rep.cell (hM.sl (pre:=[_,_,_]) noB)) cc0))) (Zn (Eq.trans (ZZ (cl1 (n:=1) (m:=1) rfl (cl1 (n:=1) (m:=0) rfl cl0))) (Eq.symm (ZZ (cl1 (n:=1) (m:=1) rfl (cl1 (n:=1) (m:=0) rfl cl0)))))) fun w a hM hE=>Ze hE Za ld rfl fun a hE=>Zf (Zc (Ze hE Za ld rfl fun a hE=>Zf ?_))
  obtain ⟨j16,hl17,hF18⟩:=bind_some hF
  refine ZU (fun _ _=>False) ?_ (fun _ _ h=>h.elim)
  ·skip
   refine wp_block ?_
   have hM:=M.fst (l:=[_,_,_,_]) ((((hM.pull (pre:=[_,_,_])).pull (pre:=[_,_,_])).pull (pre:=[_,_,_])).pull (pre:=[_,_,_]))
   refine ZG (fun (s19 : (List (Int × Int)) × Int × Int) a w=>Env 44 a [(2,vI s19.2.2),(10,(ptr b14 0)),(11,(Value.map (some b12))),(12,vI s19.2.1)] ∧ M (Old w0) w0 w [raw b14 (cat [[u10],[u11]]),Qh (Value.int .i64) NoB (s19.1 : (List (Int × Int))) b12,own NoB (r8.engine : (Ref Gengine)) [u10],osl NoB (r8.keys : List (Vector UInt8 16)) u11]) hl17 ⟨hE.sub ⟨rfl,rfl,rfl,rfl,trivial⟩,hM⟩ ?_
   rintro s19 a w ⟨hE,hM⟩ o22 hs20 hx21
   unfold Xi at hs20
   refine wp_seq (wp_block (wp_seq (Zc (Zd hE Za ld rfl fun a hE=>Zd hE Za ld rfl fun a hE=>JR (pre:=[_]) (vv:=vI) (zero:=(0 : Int)) (Kj Try.underlying2) hE hM Za ld rfl rfl Try.underlying102 (fun _=>rfl) (zv_of (by kernel_rfl) _) fun a hE=>Zd hE Za ld rfl fun a hE=>Yk hE Za ld rfl rfl fun a hE=>Yk hE Za ld rfl rfl fun a hE=>Ze hE Za ld rfl fun a hE=>Ze hE Za ld rfl fun a hE=>Zf (Zc (Zd hE Za ld rfl fun a hE=>Zf ?_))))))
   refine Zw hE rfl ?_ ?_
   ·intro hb23
    have hs20:=Zz hs20 hb23
    refine Zc (Zd hE Za ld rfl fun a hE=>Zd hE Za ld rfl fun a hE=>Zd hE Za ld rfl fun a hE=>Zi hE Za ld rfl rfl rfl fun a hE=>Ze hE Za ld rfl fun a hE=>Ze hE Za ld rfl fun a hE=>Ze hE Za ld rfl fun a hE=>Zf ?_)
    have ht24:=hx21 _ (ois hs20)
    subst ht24
    have hr:=Option.some.inj hF18
    subst hr
    have hM:=M.fst (l:=[]) hM
    exact wp_ret (ZI (XT (ZI (ZI (XT (ZI (KJ hE rfl (Zx hE rfl) (Zx hE rfl) (Zx hE rfl) ⟨_,rfl,rfl,hM.kept⟩)))))))
   ·intro hb23
    have hs20:=ZA hs20 hb23
    refine wp_skip (Zy (Zc (Zd hE Za ld rfl fun a hE=>Zd hE Za ld rfl fun a hE=>Zd hE Za ld rfl ?_))); intro a hE
    have hM:=hM.pull (pre:=[_])
    refine KM (vv:=vI) (Kj Try.underlying2) hE hM Za rfl rfl rfl Try.underlying102 (fun _=>rfl) fun w a hM hE=>Zf (wp_region_lit (Zl (cs:=cat [[u10],[u11]]) hE Za ld rfl UM rfl (hM.rawAt (pre:=[_])) (ZZ (cl1 (n:=1) (m:=1) rfl (cl1 (n:=1) (m:=0) rfl cl0))) fun a hE=>Zd hE Za ld rfl ?_)); intro a hE
    obtain ⟨r25,e26,hs20⟩:=bind_some hs20
    refine Zv hE Za ld rfl cb70 (UO _ r8 u10 (hM.ro (pre:=[_,_]) noB) u11 (hM.sl (pre:=[_,_,_]) noB) s19.2.2 r25 e26) ?_
    rintro v w a ⟨rfl,hK⟩ hE
    have hM:=hM.keep hK
    refine Ze hE Za ld rfl fun a hE=>Zj (Yg (Zy (wp_region_lit (Zd hE Za ld rfl fun a hE=>Zi hE Za ld rfl rfl rfl fun a hE=>Ze hE Za ld rfl fun a hE=>Zj (Zk ?_)))))
    have hM:=(((hM.pull (pre:=[_,_,_])).pull (pre:=[_,_,_])).pull (pre:=[_,_])).pull (pre:=[_,_,_])
    exact ⟨_,(ois hs20),hE.sub ⟨rfl,rfl,rfl,rfl,trivial⟩,hM⟩
def XA (p0 : GCipher) (p1 : (Vector UInt8 16)) (p2 : Int) : Option (Bool) :=
 ((Xr p0).bind fun r9=>(XP p1).bind fun r11=>(WH r9 r11 p2).bind fun r13=>some (r13.1,r13.2.1,r13.2.2) : Option (Int × Int × Int)).bind fun j5=>((Xr p0).bind fun r20=>(XP p1).bind fun r22=>(WK r20 r22 p2).bind fun r24=>some (r24.1,r24.2.1,r24.2.2) : Option (Int × Int × Int)).bind fun j16=>(if (j16.1 != j5.1) = true then (some true) else (if (j16.2.1 != j5.2.1) = true then (some true) else (some (j16.2.2 != j5.2.2))) : Option (Bool)).bind fun j27=>if j27 = true then (some false) else (some true)
theorem Uk (w0 : World) (p0 : GCipher) (p1 : (Vector UInt8 16)) (p2 : Int) (r : Bool) (hF : XA p0 p1 p2 = some r) :
  Calls Try.prog 5 [(Value.agg (enc p0).toArray),(Value.agg (enc p1).toArray),vI p2].toArray w0 (fun en w'=>∃ v,en = .returned v ∧ (v = (vT r) ∧ Kept (Old w0) w0 w')):=by
 refine ZB (n:=46) Try.func5 rfl rfl (nbl rfl) rfl ?_
 intro a hE
 have hM:=M.start w0
 unfold XA at hF
 refine Zc (ZR (cs:=cat [[vI p0.Field],enc p0.Box,enc p0.Mix,enc p0.Places,[vI p0.Rounds]]) hE hM Za ld rfl rfl fun b1 w a hM hE=>ZR (cs:=enc p1) hE hM Za ld rfl rfl fun b3 w a hM hE=>Ze hE Za ld rfl fun a hE=>Zf ?_)
 obtain ⟨j5,hl6,hF7⟩:=bind_some hF
 refine ZQ (fun a w=>Env 46 a [(2,vI p2),(3,(ptr b1 0)),(4,(ptr b3 0)),(7,vI j5.1),(8,vI j5.2.1),(9,vI j5.2.2)] ∧ M (Old w0) w0 w [raw b3 (enc p1),raw b1 (cat [[vI p0.Field],enc p0.Box,enc p0.Mix,enc p0.Places,[vI p0.Rounds]])]) ?_ ?_
 ·skip
  obtain ⟨r9,e10,hl6⟩:=bind_some hl6
  obtain ⟨r11,e12,hl6⟩:=bind_some hl6
  obtain ⟨r13,e14,hl6⟩:=bind_some hl6
  refine YA (n:=46) (hd:=[_,_,_,_,_,_,_,_,_,_,_,_,_]) (tl:=[]) Wa rfl rfl [14,15,16,17,18,19,13,20,21,22,7,8,9] (by decide) (fun w=>M (Old w0) w0 w [raw b3 (enc p1),raw b1 (cat [[vI p0.Field],enc p0.Box,enc p0.Mix,enc p0.Places,[vI p0.Rounds]])]) (fun j=>([fun v _=>v = (Value.agg (enc p0).toArray),fun v _=>v = (Value.agg (enc r9).toArray),fun v _=>v = (Value.agg (enc p1).toArray),fun v _=>v = (Value.agg (enc r11).toArray),fun v _=>v = (vI p2),fun v _=>v = (Value.tuple [vI r13.1,vI r13.2.1,vI r13.2.2].toArray),fun v _=>v = (Value.tuple [vI r13.1,vI r13.2.1,vI r13.2.2].toArray),fun v _=>v = (vI r13.1),fun v _=>v = (vI r13.2.1),fun v _=>v = (vI r13.2.2),fun v _=>v = (vI r13.1),fun v _=>v = (vI r13.2.1),fun v _=>v = (vI r13.2.2)] : List (Value → World → Prop)).getD j (fun _ _=>True)) (fun _ _ h hk=>h.keep hk) (gup (Zh (Zh (Zh (Zh (Zh (Zh (Zh (Zh (Zh (Zh (Zh (Zh (Zh W9)))))))))))))) hE hM.drew (ZP (Zb ?_ (Zb ?_ (Zb ?_ (Zb ?_ (Zb ?_ (Zb ?_ (Zb ?_ (Zb ?_ (Zb ?_ (Zb ?_ (Zb ?_ (Zb ?_ (Zb ?_ ZK)))))))))))))) ?_
  ·exact fun a w ux8 hE hM hp=>Zl (cs:=enc p0) hE Za ld rfl Jw rfl (hM.rawAt (pre:=[_])) (ZZ (cl1 (n:=1) (m:=289) rfl (cl1 (n:=256) (m:=33) (Flat.len _) (cl1 (n:=16) (m:=17) (Flat.len _) (cl1 (n:=16) (m:=1) (Flat.len _) (cl1 (n:=1) (m:=0) rfl cl0)))))) fun a hE=>⟨Kept.refl _ _,_,_,rfl,hE,rfl⟩
  ·intro a w ux8 hE hM hp
   have f0 : ux8 0 = (Value.agg (enc p0).toArray):=hp 0 _ rfl rfl
   refine Zv hE Za ld (YL (Ys (lk rfl f0) Ve)) cb25 (Ub _ p0 r9 e10) ?_
   rintro v w a ⟨rfl,hK⟩ hE
   exact ⟨hK,_,_,rfl,hE,rfl⟩
  ·exact fun a w ux8 hE hM hp=>Zl (cs:=enc p1) hE Za ld rfl ty44 rfl (hM.rawAt (pre:=[])) (Flat.len _) fun a hE=>⟨Kept.refl _ _,_,_,rfl,hE,rfl⟩
  ·intro a w ux8 hE hM hp
   have f2 : ux8 2 = (Value.agg (enc p1).toArray):=hp 0 _ rfl rfl
   refine Zv hE Za ld (YL (Ys (lk rfl f2) Ve)) cb26 (Ut _ p1 r11 e12) ?_
   rintro v w a ⟨rfl,hK⟩ hE
   exact ⟨hK,_,_,rfl,hE,rfl⟩
  ·exact fun a w ux8 hE hM hp=>Zd hE Za ld rfl fun a hE=>⟨Kept.refl _ _,_,_,rfl,hE,rfl⟩
  ·intro a w ux8 hE hM hp
   have f1 : ux8 1 = (Value.agg (enc r9).toArray):=hp 0 _ rfl rfl
   have f3 : ux8 3 = (Value.agg (enc r11).toArray):=hp 1 _ rfl rfl
   have f4 : ux8 4 = (vI p2):=hp 2 _ rfl rfl
   refine Zv hE Za ld (YL (Ys (lk rfl f1) (Ys (lk rfl f3) (Ys (lk rfl f4) Ve)))) cb24 (Q6 _ r9 r11 p2 r13 e14) ?_
   rintro v w a ⟨rfl,hK⟩ hE
   exact ⟨hK,_,_,rfl,hE,rfl⟩
  ·intro a w ux8 hE hM hp
   have f5 : ux8 5 = (Value.tuple [vI r13.1,vI r13.2.1,vI r13.2.2].toArray):=hp 0 _ rfl rfl
   exact Zd hE Za ld (lk rfl f5) fun a hE=>⟨Kept.refl _ _,_,_,rfl,hE,rfl⟩
  ·intro a w ux8 hE hM hp
   have f6 : ux8 6 = (Value.tuple [vI r13.1,vI r13.2.1,vI r13.2.2].toArray):=hp 0 _ rfl rfl
   exact Yk hE Za ld (lk rfl f6) rfl fun a hE=>⟨Kept.refl _ _,_,_,rfl,hE,rfl⟩
  ·intro a w ux8 hE hM hp
   have f6 : ux8 6 = (Value.tuple [vI r13.1,vI r13.2.1,vI r13.2.2].toArray):=hp 0 _ rfl rfl
   exact Yk hE Za ld (lk rfl f6) rfl fun a hE=>⟨Kept.refl _ _,_,_,rfl,hE,rfl⟩
  ·intro a w ux8 hE hM hp
   have f6 : ux8 6 = (Value.tuple [vI r13.1,vI r13.2.1,vI r13.2.2].toArray):=hp 0 _ rfl rfl
   exact Yk hE Za ld (lk rfl f6) rfl fun a hE=>⟨Kept.refl _ _,_,_,rfl,hE,rfl⟩
  ·intro a w ux8 hE hM hp
   have f7 : ux8 7 = (vI r13.1):=hp 0 _ rfl rfl
   exact Ze hE Za ld (lk rfl f7) fun a hE=>⟨Kept.refl _ _,_,_,rfl,hE,rfl⟩
  ·intro a w ux8 hE hM hp
   have f8 : ux8 8 = (vI r13.2.1):=hp 0 _ rfl rfl
   exact Ze hE Za ld (lk rfl f8) fun a hE=>⟨Kept.refl _ _,_,_,rfl,hE,rfl⟩
  ·intro a w ux8 hE hM hp
   have f9 : ux8 9 = (vI r13.2.2):=hp 0 _ rfl rfl
   exact Ze hE Za ld (lk rfl f9) fun a hE=>⟨Kept.refl _ _,_,_,rfl,hE,rfl⟩
  ·intro a w ux8 hE hM hg
   have hE:=hE.sub (e':=[(7,vI r13.1),(8,vI r13.2.1),(9,vI r13.2.2),(2,vI p2),(3,(ptr b1 0)),(4,(ptr b3 0)),(6,vT false)]) ⟨lk rfl (hg 10 (by decide)),lk rfl (hg 11 (by decide)),lk rfl (hg 12 (by decide)),rfl,rfl,rfl,rfl,trivial⟩
   refine Zj ?_
   have ht15:=Option.some.inj hl6
   subst ht15
   refine Zk ?_
   exact ⟨hE.sub ⟨rfl,rfl,rfl,rfl,rfl,rfl,trivial⟩,hM⟩
 ·skip
  rintro a w ⟨hE,hM⟩
  obtain ⟨j16,hl17,hF18⟩:=bind_some hF7
  refine ZQ (fun a w=>Env 46 a [(7,vI j5.1),(8,vI j5.2.1),(9,vI j5.2.2),(10,vI j16.1),(11,vI j16.2.1),(12,vI j16.2.2)] ∧ M (Old w0) w0 w []) ?_ ?_
  ·skip
   obtain ⟨r20,e21,hl17⟩:=bind_some hl17
   obtain ⟨r22,e23,hl17⟩:=bind_some hl17
   obtain ⟨r24,e25,hl17⟩:=bind_some hl17
   refine YA (n:=46) (hd:=[_,_,_,_,_,_,_,_,_,_,_,_,_]) (tl:=[]) Wa rfl rfl [24,25,26,27,28,29,23,30,31,32,10,11,12] (by decide) (fun w=>M (Old w0) w0 w [raw b3 (enc p1),raw b1 (cat [[vI p0.Field],enc p0.Box,enc p0.Mix,enc p0.Places,[vI p0.Rounds]])]) (fun j=>([fun v _=>v = (Value.agg (enc p0).toArray),fun v _=>v = (Value.agg (enc r20).toArray),fun v _=>v = (Value.agg (enc p1).toArray),fun v _=>v = (Value.agg (enc r22).toArray),fun v _=>v = (vI p2),fun v _=>v = (Value.tuple [vI r24.1,vI r24.2.1,vI r24.2.2].toArray),fun v _=>v = (Value.tuple [vI r24.1,vI r24.2.1,vI r24.2.2].toArray),fun v _=>v = (vI r24.1),fun v _=>v = (vI r24.2.1),fun v _=>v = (vI r24.2.2),fun v _=>v = (vI r24.1),fun v _=>v = (vI r24.2.1),fun v _=>v = (vI r24.2.2)] : List (Value → World → Prop)).getD j (fun _ _=>True)) (fun _ _ h hk=>h.keep hk) (gup (Zh (Zh (Zh (Zh (Zh (Zh (Zh (Zh (Zh (Zh (Zh (Zh (Zh W9)))))))))))))) hE hM.drew (ZP (Zb ?_ (Zb ?_ (Zb ?_ (Zb ?_ (Zb ?_ (Zb ?_ (Zb ?_ (Zb ?_ (Zb ?_ (Zb ?_ (Zb ?_ (Zb ?_ (Zb ?_ ZK)))))))))))))) ?_
   ·exact fun a w ux19 hE hM hp=>Zl (cs:=enc p0) hE Za ld rfl Jw rfl (hM.rawAt (pre:=[_])) (ZZ (cl1 (n:=1) (m:=289) rfl (cl1 (n:=256) (m:=33) (Flat.len _) (cl1 (n:=16) (m:=17) (Flat.len _) (cl1 (n:=16) (m:=1) (Flat.len _) (cl1 (n:=1) (m:=0) rfl cl0)))))) fun a hE=>⟨Kept.refl _ _,_,_,rfl,hE,rfl⟩
   ·intro a w ux19 hE hM hp
    have f0 : ux19 0 = (Value.agg (enc p0).toArray):=hp 0 _ rfl rfl
    refine Zv hE Za ld (YL (Ys (lk rfl f0) Ve)) cb25 (Ub _ p0 r20 e21) ?_
    rintro v w a ⟨rfl,hK⟩ hE
    exact ⟨hK,_,_,rfl,hE,rfl⟩
   ·exact fun a w ux19 hE hM hp=>Zl (cs:=enc p1) hE Za ld rfl ty44 rfl (hM.rawAt (pre:=[])) (Flat.len _) fun a hE=>⟨Kept.refl _ _,_,_,rfl,hE,rfl⟩
   ·intro a w ux19 hE hM hp
    have f2 : ux19 2 = (Value.agg (enc p1).toArray):=hp 0 _ rfl rfl
    refine Zv hE Za ld (YL (Ys (lk rfl f2) Ve)) cb26 (Ut _ p1 r22 e23) ?_
    rintro v w a ⟨rfl,hK⟩ hE
    exact ⟨hK,_,_,rfl,hE,rfl⟩
   ·exact fun a w ux19 hE hM hp=>Zd hE Za ld rfl fun a hE=>⟨Kept.refl _ _,_,_,rfl,hE,rfl⟩
   ·intro a w ux19 hE hM hp
    have f1 : ux19 1 = (Value.agg (enc r20).toArray):=hp 0 _ rfl rfl
    have f3 : ux19 3 = (Value.agg (enc r22).toArray):=hp 1 _ rfl rfl
    have f4 : ux19 4 = (vI p2):=hp 2 _ rfl rfl
    refine Zv hE Za ld (YL (Ys (lk rfl f1) (Ys (lk rfl f3) (Ys (lk rfl f4) Ve)))) cb27 (Q8 _ r20 r22 p2 r24 e25) ?_
    rintro v w a ⟨rfl,hK⟩ hE
    exact ⟨hK,_,_,rfl,hE,rfl⟩
   ·intro a w ux19 hE hM hp
    have f5 : ux19 5 = (Value.tuple [vI r24.1,vI r24.2.1,vI r24.2.2].toArray):=hp 0 _ rfl rfl
    exact Zd hE Za ld (lk rfl f5) fun a hE=>⟨Kept.refl _ _,_,_,rfl,hE,rfl⟩
   ·intro a w ux19 hE hM hp
    have f6 : ux19 6 = (Value.tuple [vI r24.1,vI r24.2.1,vI r24.2.2].toArray):=hp 0 _ rfl rfl
    exact Yk hE Za ld (lk rfl f6) rfl fun a hE=>⟨Kept.refl _ _,_,_,rfl,hE,rfl⟩
   ·intro a w ux19 hE hM hp
    have f6 : ux19 6 = (Value.tuple [vI r24.1,vI r24.2.1,vI r24.2.2].toArray):=hp 0 _ rfl rfl
    exact Yk hE Za ld (lk rfl f6) rfl fun a hE=>⟨Kept.refl _ _,_,_,rfl,hE,rfl⟩
   ·intro a w ux19 hE hM hp
    have f6 : ux19 6 = (Value.tuple [vI r24.1,vI r24.2.1,vI r24.2.2].toArray):=hp 0 _ rfl rfl
    exact Yk hE Za ld (lk rfl f6) rfl fun a hE=>⟨Kept.refl _ _,_,_,rfl,hE,rfl⟩
   ·intro a w ux19 hE hM hp
    have f7 : ux19 7 = (vI r24.1):=hp 0 _ rfl rfl
    exact Ze hE Za ld (lk rfl f7) fun a hE=>⟨Kept.refl _ _,_,_,rfl,hE,rfl⟩
   ·intro a w ux19 hE hM hp
    have f8 : ux19 8 = (vI r24.2.1):=hp 0 _ rfl rfl
    exact Ze hE Za ld (lk rfl f8) fun a hE=>⟨Kept.refl _ _,_,_,rfl,hE,rfl⟩
   ·intro a w ux19 hE hM hp
    have f9 : ux19 9 = (vI r24.2.2):=hp 0 _ rfl rfl
    exact Ze hE Za ld (lk rfl f9) fun a hE=>⟨Kept.refl _ _,_,_,rfl,hE,rfl⟩
   ·intro a w ux19 hE hM hg
    have hE:=hE.sub (e':=[(10,vI r24.1),(11,vI r24.2.1),(12,vI r24.2.2),(7,vI j5.1),(8,vI j5.2.1),(9,vI j5.2.2)]) ⟨lk rfl (hg 10 (by decide)),lk rfl (hg 11 (by decide)),lk rfl (hg 12 (by decide)),rfl,rfl,rfl,trivial⟩
    refine Zj ?_
    have ht26:=Option.some.inj hl17
    subst ht26
    refine Zk ?_
    have hM:=M.fst (l:=[]) hM
    exact ⟨hE.sub ⟨rfl,rfl,rfl,rfl,rfl,rfl,trivial⟩,hM⟩
  ·skip
   rintro a w ⟨hE,hM⟩
   refine wp_seq ?_
   obtain ⟨j27,hl28,hF29⟩:=bind_some hF18
   refine ZQ (fun a w=>Env 46 a [(45,vT j27)] ∧ M (Old w0) w0 w []) ?_ ?_
   ·skip
    refine wp_region_lit (Zd hE Za ld rfl fun a hE=>Zd hE Za ld rfl fun a hE=>Zi hE Za ld rfl rfl rfl fun a hE=>Zd hE Za ld rfl ?_); intro a hE
    refine WF (j16.1 != j5.1) (fun hb30=>?_) (fun hb30=>?_)
    ·have hl28:=Zz hl28 hb30
     refine Zr hE rfl (lkb rfl hb30) rfl (by decide) fun a hE=>Zr hE rfl (lkb rfl hb30) rfl (by decide) fun a hE=>Zr hE rfl (lkb rfl hb30) rfl (by decide) fun a hE=>YO hE Za ld (lkb rfl hb30) rfl fun a hE=>Zd hE Za ld rfl fun a hE=>Zr hE rfl rfl rfl (by decide) fun a hE=>Zr hE rfl rfl rfl (by decide) fun a hE=>Zr hE rfl rfl rfl (by decide) fun a hE=>YO hE Za ld rfl rfl fun a hE=>Zj ?_
     have ht31:=Option.some.inj hl28
     subst ht31
     refine Zk ?_
     exact ⟨hE.sub ⟨rfl,trivial⟩,hM⟩
    ·have hl28:=ZA hl28 hb30
     refine Zd hE (Zt hE rfl (lkb rfl hb30)) (by decide) rfl fun a hE=>Zd hE (Zt hE rfl (lkb rfl hb30)) (by decide) rfl fun a hE=>Zi hE (Zt hE rfl (lkb rfl hb30)) (by decide) rfl rfl rfl fun a hE=>Yu hE Za ld (lkb rfl hb30) rfl fun a hE=>Zd hE Za ld rfl ?_; intro a hE
     refine WF (j16.2.1 != j5.2.1) (fun hb32=>?_) (fun hb32=>?_)
     ·have hl28:=Zz hl28 hb32
      refine Zr hE rfl (lkb rfl hb32) rfl (by decide) fun a hE=>Zr hE rfl (lkb rfl hb32) rfl (by decide) fun a hE=>Zr hE rfl (lkb rfl hb32) rfl (by decide) fun a hE=>YO hE Za ld (lkb rfl hb32) rfl fun a hE=>Zj ?_
      have ht33:=Option.some.inj hl28
      subst ht33
      refine Zk ?_
      exact ⟨hE.sub ⟨rfl,trivial⟩,hM⟩
     ·have hl28:=ZA hl28 hb32
      refine Zd hE (Zt hE rfl (lkb rfl hb32)) (by decide) rfl fun a hE=>Zd hE (Zt hE rfl (lkb rfl hb32)) (by decide) rfl fun a hE=>Zi hE (Zt hE rfl (lkb rfl hb32)) (by decide) rfl rfl rfl fun a hE=>Yu hE Za ld (lkb rfl hb32) rfl fun a hE=>Zj ?_
      have ht34:=Option.some.inj hl28
      subst ht34
      refine Zk ?_
      exact ⟨hE.sub ⟨rfl,trivial⟩,hM⟩
   ·skip
    rintro a w ⟨hE,hM⟩
    refine Zw hE rfl ?_ ?_
    ·intro hb35
     have hF29:=Zz hF29 hb35
     refine Zc (Ze hE Za ld rfl fun a hE=>Zf ?_)
     have hr:=Option.some.inj hF29
     subst hr
     exact wp_ret (ZI (ZC hE rfl (Zx hE rfl) ⟨_,rfl,rfl,hM.kept⟩))
    ·intro hb35
     have hF29:=ZA hF29 hb35
     refine wp_skip (Zy (Zc (Ze hE Za ld rfl fun a hE=>Zf ?_)))
     have hr:=Option.some.inj hF29
     subst hr
     exact wp_ret (ZC hE rfl (Zx hE rfl) ⟨_,rfl,rfl,hM.kept⟩)
end

end Go.Proofs.Ytpjogonponkbmaa
