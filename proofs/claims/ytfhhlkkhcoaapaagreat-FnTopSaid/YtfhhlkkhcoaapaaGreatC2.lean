/- The walk of what the law reaches: contracts of functions. -/
import Derived.Test.YtfhhlkkhcoaapaaGreatC1
set_option linter.unusedVariables false
set_option linter.unusedSimpArgs false
set_option maxRecDepth 20000
set_option maxHeartbeats 400000
namespace Go.Proofs.YtfhhlkkhcoaapaaGreat
open Go Go.Proofs.Tryz
open Flat (enc)
noncomputable section
theorem Hy (n : World) (Z : Int) (p1 : V44) (r : UInt8 × V44) (hF : Wj Z p1 = some r) :
  Calls prog 265 [vI Z,Value.agg (enc p1).toArray].toArray n (Rt n (Value.tuple [vB r.1,Value.agg (enc r.2).toArray].toArray)):=by
 refine ce func265 ?_
 intro a H
 have I:=M.start n
 unfold Wj at hF
 refine Zb (ZY (cs:=enc p1) H I Za ld R R λy w a I H=>Zc H R λa H=>Zx H I Ve λo w a I H=>Ze (Zb ?_))
 obtain ⟨r5,e6,hF⟩:=p_1 hF
 refine c_k H I R (cbm func314) (jg _  r5 e6) λw a I H=>?_
 refine Zx H I Ve λt w a I H=>s_w r5 H I Za R R R Ve λw a I H=>Zc H R λa H=>Ze (s_2 (Zb (Zd H R λa H=>Ze ?_)))
 obtain ⟨j9,c0,aw⟩:=p_1 hF
 refine ZX (λa w=>∃ a0 : V44 × UInt8,j9 = Fl.nx a0 ∧ Env 153 a [(5,ptr o 0),(6,ptr t 0),(7,vB a0.2)] ∧ M (Old n) n w [raw t (enc a0.1),raw o xx]) ?_ ?_
 ·refine p_2 ?_
  refine ZN (λ(b : V44 × V44 × Int × UInt8) a w=>Env 153 a [(0,vI Z),(3,ptr y 0),(5,ptr o 0),(6,ptr t 0),(7,vB b.2.2.2),(16,vI b.2.2.1)] ∧ M (Old n) n w [raw t (enc b.2.1),raw o xx,raw y (enc b.1)]) c0 ⟨H.s,I⟩ ?_
  rintro b a w ⟨H,I⟩ ed af bs
  unfold X4 at af
  refine Zb (Zm H R R R λa H=>Ze (s_2 ?_))
  refine c_if H R af ?_ ?_
  ·intro c1 af
   refine t_2 (Zw (s_2 (p_2 (Zb (Zd H R λa H=>Zc H R λa H=>Ze (Zb (Zd H R λa H=>Zc H R λa H=>Ze ?_)))))))
   obtain ⟨Y,c2,am⟩:=p_1 af
   refine ZG (λa w=>Env 153 a [(0,vI Z),(3,ptr y 0),(5,ptr o 0),(6,ptr t 0),(7,vB b.2.2.2),(8,vI b.2.2.1),(9,vI Y),(16,vI b.2.2.1)] ∧ M (Old n) n w [raw t (enc b.2.1),raw o xx,raw y (enc b.1)]) ?_ ?_
   ·refine p_2 ?_
    refine ZN (λ(bq : Int) a w=>Env 153 a [(0,vI Z),(3,ptr y 0),(5,ptr o 0),(6,ptr t 0),(7,vB b.2.2.2),(8,vI b.2.2.1),(9,vI bq),(16,vI b.2.2.1)] ∧ M (Old n) n w [raw t (enc b.2.1),raw o xx,raw y (enc b.1)]) c2 ⟨H.s,I⟩ ?_
    rintro bq a w ⟨H,I⟩ ee bt c3
    unfold Kj at bt
    refine s_2 ?_
    obtain ⟨dq,B,an⟩:=p_1 bt
    refine ZG (λa w=>Env 153 a [(0,vI Z),(3,ptr y 0),(5,ptr o 0),(6,ptr t 0),(7,vB b.2.2.2),(8,vI b.2.2.1),(9,vI bq),(16,vI b.2.2.1),(29,vT dq)] ∧ M (Old n) n w [raw t (enc b.2.1),raw o xx,raw y (enc b.1)]) ?_ ?_
    ·refine s_1 (Zd H R λa H=>Zm H R R R λa H=>Zd H R λa H=>?_)
     refine Yq (decide (bq < 4)) (λi=>?_) (λi=>?_)
     ·have B:=Zt B i
      refine Zl H (Zh H R (lkb R i)) dd_ R λa H=>Zl H (Zh H R (lkb R i)) dd_ R λa H=>?_
      obtain ⟨ef,bu,B⟩:=bvx B
      refine ZI H (Zh H R (lkb R i)) dd_ R R p_3 Xo bu.1 λa H=>?_
      obtain ⟨c4,bv,B⟩:=bvx B
      refine ZI H (Zh H R (lkb R i)) dd_ R R p_4 ty5 bv.1 λa H=>ZL (v:=(vB c4)) H (Zh H R (lkb R i)) dd_ R ty5 R (At.vec (At.vec I.ra2 bu.2) bv.2) λa H=>Ye H (Zh H R (lkb R i)) dd_ R R (Zfd c4 0) λa H=>Z2 H (lkb R i) R λa H=>Zf ?_
      obtain rfl:=o_1 B
      refine Zi ?_
      exact ⟨H.s,I⟩
     have B:=Zs B i
     refine k_s H i R R R λa H=>k_s H i R R R λa H=>k_s H i R R R λa H=>k_s H i R R R λa H=>k_s H i R R R λa H=>k_s H i R R R λa H=>ZZ H (lkb R i) R λa H=>Zf ?_
     obtain rfl:=o_1 B
     refine Zi ?_
     exact ⟨H.s,I⟩
    rintro a w ⟨H,I⟩
    refine c_if H R an ?_ ?_
    ·intro c5 an
     refine t_2 (Zw (p_2 (s_1 (Zd H R λa H=>Zm H R R R λa H=>Zc H R λa H=>Zf (Yn (Zi ?_))))))
     exact ⟨_,ois an,H.s,I⟩
    intro c5 an
    refine s_3 (Zp (Zp (Yv ?_)))
    obtain rfl:=c3 _ (ois an)
    refine Zi ?_
    exact ⟨H.s,I⟩
   rintro a w ⟨H,I⟩
   refine s_2 (Zb (Zd H R λa H=>Zm H R R R λa H=>Ze ?_))
   refine c_if H R am ?_ ?_
   ·intro c6 am
    refine Zb (Xi (parts:=[]) (vs:=[]) (cs:=enc xc) H Za ld R R Ve R Xo YK λa H=>Zc H R λa H=>?_)
    have I:=I.pl1
    refine s_w xc H I Za R R R Ve λw a I H=>Ze ?_
    obtain rfl:=bs _ (ois am)
    obtain rfl:=o_1 aw
    have c7 : Z8 prog _ _ (.cell 5 59) _:=ZH H R Ve R I.ra0 (u_1 _) R
    exact u_2 (ZA (YZ (ZA (ZA (YZ (ZA (ZA (YN H R (Zy H R) c7 ⟨_,R,R,I.kept⟩))))))))
   intro c6 am
   refine t_2 (Zw ?_)
   obtain ⟨ch,C,c8⟩:=p_1 am
   refine ZG (λa w=>Env 153 a [(0,vI Z),(3,ptr y 0),(5,ptr o 0),(6,ptr t 0),(7,vB b.2.2.2),(8,vI b.2.2.1),(9,vI Y),(16,vI b.2.2.1)] ∧ M (Old n) n w [raw t (enc b.2.1),raw o xx,raw y (enc ch)]) ?_ ?_
   ·have I:=I.pl2
    obtain ⟨ag,bw,C⟩:=bvx C
    obtain ⟨a1,bx,C⟩:=bvx C
    obtain ⟨eg,a2,C⟩:=bvx C
    refine Y0 (its:=[raw t (enc b.2.1),raw o xx]) (mk:=([mkT 9 (raw y (enc b.1)) (raw y (enc (b.1.setIfInBounds (Y).toNat ag)))] : Mk)) [35,36,37,38,39,40,41,42,43,162] YJ R R dd_ R H (λu=>M.qT (M.q0 I.drew u)) (q_m (λ_=>R) (q_m (λ_=>R) (q_m (λ_=>R) (qsP (λz=>ZI z.E Za ld R R p_3 Xo bw.1 (kr0 R)) (qsP (v:=(Value.agg (enc ag).toArray)) ?_ (q_m (λ_=>R) (qsP (λz=>ZI z.E Za ld R R p_3 Xo bx.1 (kr0 R)) (qsP (v:=(Value.agg (enc a1).toArray)) ?_ (qsP (λz=>ZI z.E Za ld R R p_3 Xo a2.1 (kr0 R)) (q_t ?_ qs0)))))))))) ?_
    ·intro a w a3 D z
     have H:=z.E
     have hD : D 4 = false:=z.F
     have I:=z.M.togA (pre:=[_,_]) (Kb (j:=9) (k:=1) z.c R R R hD)
     exact Zu H R Xo R (At.vec I.ra2 bw.2) (u_1 _) λa H=>⟨t_6 _ _,_,R,H⟩
    ·intro a w a3 D z
     have H:=z.E
     have hD : D 7 = false:=z.F
     have I:=z.M.togA (pre:=[_,_]) (Kb (j:=9) (k:=9) z.c R R R hD)
     exact Zu H R Xo R (At.vec I.ra2 bx.2) (u_1 _) λa H=>⟨t_6 _ _,_,R,H⟩
    ·intro a w a3 D z
     have H:=z.E
     have hD : D 9 = false:=z.F
     have I:=(z.M.togA (pre:=[_,_]) hD).pl2
     exact Zk (seg:=enc ag) (cs':=enc (b.1.setIfInBounds (Y).toNat ag)) H I Za R R R Xo (u_1 _) (ZS (v:=b.1) (x:=ag) a2.1) (t_1 _) (ZF (v:=b.1) (x:=ag) a2.1) λw a I H=>⟨undef,_,R,Env.dummy H dd_,M.qTog (mk1:=[]) (mk2:=[]) I R,trivial⟩
    intro a w a3 D H I hG ao
    have d9:=ao 9 dd_
    have I:=I.togB (pre:=[_,_]) d9
    obtain ⟨eh,a4,C⟩:=bvx C
    refine ZC H R R p_3 Xo a4.1 λa H=>?_
    have I:=I.pl2
    refine Zk (seg:=enc a1) (cs':=enc ((b.1.setIfInBounds (Y).toNat ag).setIfInBounds (b.2.2.1).toNat a1)) H I Za R R R Xo (u_1 _) (ZS (v:=(b.1.setIfInBounds (Y).toNat ag)) (x:=a1) a4.1) (t_1 _) (ZF (v:=(b.1.setIfInBounds (Y).toNat ag)) (x:=a1) a4.1) λw a I H=>Zf ?_
    obtain rfl:=o_1 C
    refine Zi ?_
    have I:=I.pl2.pl2
    exact ⟨H.s,I⟩
   rintro a w ⟨H,I⟩
   obtain ⟨ds,G,m⟩:=p_1 c8
   refine ZG (λa w=>Env 153 a [(0,vI Z),(3,ptr y 0),(5,ptr o 0),(6,ptr t 0),(7,vB b.2.2.2),(8,vI b.2.2.1),(16,vI b.2.2.1)] ∧ M (Old n) n w [raw t (enc ds),raw o xx,raw y (enc ch)]) ?_ ?_
   ·obtain ⟨ah,bz,G⟩:=bvx G
    obtain ⟨a5,b0,G⟩:=bvx G
    obtain ⟨ei,a6,G⟩:=bvx G
    refine Y0 (its:=[raw o xx,raw y (enc ch)]) (mk:=([mkT 9 (raw t (enc b.2.1)) (raw t (enc (b.2.1.setIfInBounds (Y).toNat ah)))] : Mk)) [45,46,47,48,49,50,51,52,53,162] YJ R R dd_ R H (λu=>M.qT (M.q0 I.drew u)) (q_m (λ_=>R) (q_m (λ_=>R) (q_m (λ_=>R) (qsP (λz=>ZI z.E Za ld R R p_3 Xo bz.1 (kr0 R)) (qsP (v:=(Value.agg (enc ah).toArray)) ?_ (q_m (λ_=>R) (qsP (λz=>ZI z.E Za ld R R p_3 Xo b0.1 (kr0 R)) (qsP (v:=(Value.agg (enc a5).toArray)) ?_ (qsP (λz=>ZI z.E Za ld R R p_3 Xo a6.1 (kr0 R)) (q_t ?_ qs0)))))))))) ?_
    ·intro a w a7 D z
     have H:=z.E
     have hD : D 4 = false:=z.F
     have I:=z.M.togA (pre:=[_,_]) (Kb (j:=9) (k:=1) z.c R R R hD)
     exact Zu H R Xo R (At.vec I.ra2 bz.2) (u_1 _) λa H=>⟨t_6 _ _,_,R,H⟩
    ·intro a w a7 D z
     have H:=z.E
     have hD : D 7 = false:=z.F
     have I:=z.M.togA (pre:=[_,_]) (Kb (j:=9) (k:=9) z.c R R R hD)
     exact Zu H R Xo R (At.vec I.ra2 b0.2) (u_1 _) λa H=>⟨t_6 _ _,_,R,H⟩
    ·intro a w a7 D z
     have H:=z.E
     have hD : D 9 = false:=z.F
     have I:=(z.M.togA (pre:=[_,_]) hD).pl2
     exact Zk (seg:=enc ah) (cs':=enc (b.2.1.setIfInBounds (Y).toNat ah)) H I Za R R R Xo (u_1 _) (ZS (v:=b.2.1) (x:=ah) a6.1) (t_1 _) (ZF (v:=b.2.1) (x:=ah) a6.1) λw a I H=>⟨undef,_,R,Env.dummy H dd_,M.qTog (mk1:=[]) (mk2:=[]) I R,trivial⟩
    intro a w a7 D H I hG ao
    have d9:=ao 9 dd_
    have I:=I.togB (pre:=[_,_]) d9
    obtain ⟨ej,a8,G⟩:=bvx G
    refine ZC H R R p_3 Xo a8.1 λa H=>?_
    have I:=I.pl2
    refine Zk (seg:=enc a5) (cs':=enc ((b.2.1.setIfInBounds (Y).toNat ah).setIfInBounds (b.2.2.1).toNat a5)) H I Za R R R Xo (u_1 _) (ZS (v:=(b.2.1.setIfInBounds (Y).toNat ah)) (x:=a5) a8.1) (t_1 _) (ZF (v:=(b.2.1.setIfInBounds (Y).toNat ah)) (x:=a5) a8.1) λw a I H=>Zf ?_
    obtain rfl:=o_1 G
    refine Zi ?_
    exact ⟨H.s,I⟩
   rintro a w ⟨H,I⟩
   refine Zb (Zd H R λa H=>Zd H R λa H=>Zd H R λa H=>Zd H R λa H=>?_)
   obtain ⟨ek,b2,m⟩:=bvx m
   refine ZC H R R p_3 Xo b2.1 λa H=>?_
   obtain ⟨c9,b4,m⟩:=bvx m
   refine ZC H R R p_4 ty5 b4.1 λa H=>ZO (v:=(vB c9)) H R ty5 R (At.vec (At.vec I.ra2 b2.2) b4.2) λa H=>?_
   obtain ⟨aa,dt,m⟩:=p_1 m
   refine c_k H I R A5 (YR _ Z b.2.2.2 c9 aa dt) λw a I H=>?_
   refine Zc H R λa H=>Ze (Zb (Zd H R λa H=>Zd H R λa H=>Zd H R λa H=>?_))
   obtain ⟨em,b5,m⟩:=bvx m
   refine ZC H R R p_3 Xo b5.1 λa H=>?_
   obtain ⟨da,b6,m⟩:=bvx m
   refine ZC H R R p_4 ty5 b6.1 λa H=>ZO (v:=(vB da)) H R ty5 R (At.vec (At.vec I.ra2 b5.2) b6.2) λa H=>?_
   obtain ⟨br,du,m⟩:=p_1 m
   refine c_k H I R Zkt (Ti _ Z da br du) λw a I H=>?_
   refine Zc H R λa H=>Ze (s_2 (Zb (Zd H R λa H=>Ze ?_)))
   obtain ⟨db,dc,dd⟩:=p_1 m
   refine ZX (λa w=>Env 153 a [(0,vI Z),(3,ptr y 0),(5,ptr o 0),(6,ptr t 0),(7,vB aa),(8,vI b.2.2.1),(16,vI b.2.2.1)] ∧ M (Old n) n w [raw t (enc db.2),raw o xx,raw y (enc db.1)]) ?_ ?_
   ·refine p_2 ?_
    refine ZN (λ(A : V44 × V44 × Int) a w=>Env 153 a [(0,vI Z),(3,ptr y 0),(5,ptr o 0),(6,ptr t 0),(7,vB aa),(8,vI b.2.2.1),(10,vB br),(16,vI b.2.2.1),(70,vI A.2.2)] ∧ M (Old n) n w [raw t (enc A.2.1),raw o xx,raw y (enc A.1)]) dc ⟨H.s,I⟩ ?_
    rintro A a w ⟨H,I⟩ en d de
    unfold VO at d
    refine Zb (Zm H R R R λa H=>Ze (s_2 ?_))
    refine c_if H R d ?_ ?_
    ·intro dg d
     refine t_2 (Zw (s_2 (p_2 (Zb (Zd H R λa H=>Zc H R λa H=>Ze ?_)))))
     have I:=I.pl2
     obtain ⟨dx,a9,d⟩:=bvx d
     obtain ⟨ba,bb,d⟩:=bvx d
     obtain ⟨X,dh,d⟩:=p_1 d
     obtain ⟨dy,bc,d⟩:=bvx d
     obtain ⟨b8,bd,d⟩:=bvx d
     obtain ⟨ab,di,d⟩:=p_1 d
     obtain ⟨ap,aq,d⟩:=bvx d
     obtain ⟨dz,ai,d⟩:=bvx d
     obtain ⟨ax,ar,d⟩:=bvx d
     refine Y0 (its:=[raw t (enc A.2.1),raw o xx]) (mk:=([mkT 22 (raw y (enc A.1)) (raw y (enc (A.1.setIfInBounds (b.2.2.1).toNat (ap.setIfInBounds (A.2.2).toNat X))))] : Mk)) [73,74,75,76,77,78,79,80,81,82,83,84,85,86,87,88,89,90,91,92,93,94,175,95] YJ R R dd_ R H (λu=>M.qT (M.q0 I.drew u)) (q_m (λ_=>R) (q_m (λ_=>R) (q_m (λ_=>R) (q_m (λ_=>R) (q_m (λ_=>R) (q_m (λ_=>R) (q_m (λ_=>R) (qsP (λz=>ZI z.E Za ld R R p_3 Xo a9.1 (kr0 R)) (qsP (λz=>ZI z.E Za ld R R p_4 ty5 bb.1 (kr0 R)) (qsP (v:=(vB ba)) ?_ (q_m (λ_=>R) (qsP (λz=>ZW z.E Za ld R A5 (YR _ Z ba br X dh) (kc R)) (q_m (λ_=>R) (q_m (λ_=>R) (q_m (λ_=>R) (qsP (λz=>ZI z.E Za ld R R p_3 Xo bc.1 (kr0 R)) (qsP (λz=>ZI z.E Za ld R R p_4 ty5 bd.1 (kr0 R)) (qsP (λz=>ZL (v:=(vB b8)) z.E Za ld R ty5 R (At.vec (At.vec (z.M.ra0) bc.2) bd.2) (kr0 R)) (q_m (λ_=>R) (qsP (λz=>ZW z.E Za ld R A5 (YR _ Z b8 br ab di) (kc R)) (qsP (λz=>ZI z.E Za ld R R p_3 Xo aq.1 (kr0 R)) (qsP (λz=>ZI z.E Za ld R R p_4 ty5 ai.1 (kr0 R)) (q_t ?_ (qsP (λz=>ZI z.E Za ld R R p_3 Xo ar.1 (kr0 R)) qs0)))))))))))))))))))))))) ?_
     ·intro a w be D z
      have H:=z.E
      have hD : D 9 = false:=z.F
      have I:=z.M.togA (pre:=[_,_]) (Kb (j:=22) (k:=12) z.c R R R hD)
      exact ZO (v:=(vB ba)) H R ty5 R (At.vec (At.vec I.ra2 a9.2) bb.2) λa H=>⟨t_6 _ _,_,R,H⟩
     ·intro a w be D z
      have H:=z.E
      have hD : D 22 = false:=z.F
      have I:=(z.M.togA (pre:=[_,_]) hD).pl2
      exact Zk (seg:=[vB X]) (cs':=enc (A.1.setIfInBounds (b.2.2.1).toNat (ap.setIfInBounds (A.2.2).toNat X))) H I Za R R R ty5 R (WY (o':=0 + (A.2.2).toNat * 1) aq (ZS (v:=ap) (x:=X) ai.1) of_) (t_1 (X : UInt8)) (X5 (o':=0 + (A.2.2).toNat * 1) aq (ZS (v:=ap) (x:=X) ai.1) (ZF (v:=ap) (x:=X) ai.1) of_) λw a I H=>⟨undef,_,R,Env.dummy H dd_,M.qTog (mk1:=[]) (mk2:=[]) I R,trivial⟩
     intro a w be D H I hG ao
     have dv:=ao 22 dd_
     have I:=I.togB (pre:=[_,_]) dv
     obtain ⟨d0,aj,d⟩:=bvx d
     refine ZC H R R p_4 ty5 aj.1 λa H=>Zk (seg:=[vB ab]) (cs':=enc (A.2.1.setIfInBounds (b.2.2.1).toNat (ax.setIfInBounds (A.2.2).toNat ab))) H I Za R R R ty5 R (WY (o':=0 + (A.2.2).toNat * 1) ar (ZS (v:=ax) (x:=ab) aj.1) of_) (t_1 (ab : UInt8)) (X5 (o':=0 + (A.2.2).toNat * 1) ar (ZS (v:=ax) (x:=ab) aj.1) (ZF (v:=ax) (x:=ab) aj.1) of_) λw a I H=>Zf (Yn (Zw (s_1 (Zm H R R R λa H=>Zd H R λa H=>Zf (Zi ?_)))))
     exact ⟨_,ois d,H.s,I⟩
    intro dg d
    refine s_3 (Zp (Zp (Yv ?_)))
    obtain rfl:=de _ (ois d)
    refine Zi ?_
    exact ⟨H.s,I⟩
   rintro a w ⟨H,I⟩
   refine Zw (Zb (Zd H R λa H=>Ze ?_))
   obtain ⟨b9,ci,cj⟩:=p_1 dd
   refine ZX (λa w=>Env 153 a [(0,vI Z),(3,ptr y 0),(5,ptr o 0),(6,ptr t 0),(7,vB aa),(16,vI b.2.2.1)] ∧ M (Old n) n w [raw t (enc b9.2),raw o xx,raw y (enc b9.1)]) ?_ ?_
   ·refine p_2 ?_
    refine ZN (λ(h : V44 × V44 × Int) a w=>Env 153 a [(0,vI Z),(3,ptr y 0),(5,ptr o 0),(6,ptr t 0),(7,vB aa),(8,vI b.2.2.1),(16,vI b.2.2.1),(98,vI h.2.2)] ∧ M (Old n) n w [raw t (enc h.2.1),raw o xx,raw y (enc h.1)]) ci ⟨H.s,I⟩ ?_
    rintro h a w ⟨H,I⟩ d1 T cl
    unfold VF at T
    refine Zb (Zm H R R R λa H=>Ze (s_2 ?_))
    refine c_if H R T ?_ ?_
    ·intro cm T
     refine t_2 (Zw ?_)
     obtain ⟨ca,ac,cn⟩:=p_1 T
     refine ZG (λa w=>Env 153 a [(0,vI Z),(3,ptr y 0),(5,ptr o 0),(6,ptr t 0),(7,vB aa),(8,vI b.2.2.1),(16,vI b.2.2.1),(98,vI h.2.2)] ∧ M (Old n) n w [raw t (enc ca.2),raw o xx,raw y (enc ca.1)]) ?_ ?_
     ·refine p_2 (Zb (Zd H R λa H=>Zc H R λa H=>Ze (Zb (Zd H R λa H=>Zd H R λa H=>?_))))
      obtain ⟨d2,bg,ac⟩:=bvx ac
      refine ZC H R R p_3 Xo bg.1 λa H=>?_
      obtain ⟨ad,bh,ac⟩:=bvx ac
      refine ZC H R R p_4 ty5 bh.1 λa H=>ZO (v:=(vB ad)) H R ty5 R (At.vec (At.vec I.ra2 bg.2) bh.2) λa H=>Zc H R λa H=>Ze ?_
      obtain ⟨dj,U,co⟩:=p_1 ac
      refine ZG (λa w=>Env 153 a [(0,vI Z),(3,ptr y 0),(5,ptr o 0),(6,ptr t 0),(7,vB aa),(8,vI b.2.2.1),(12,vI h.2.2),(13,vB ad),(16,vI b.2.2.1),(98,vI h.2.2),(112,vT dj)] ∧ M (Old n) n w [raw t (enc h.2.1),raw o xx,raw y (enc h.1)]) ?_ ?_
      ·refine s_1 (Zd H R λa H=>Zd H R λa H=>Zm H R R R λa H=>Zd H R λa H=>?_)
       refine Yq (h.2.2 != b.2.2.1) (λq=>?_) (λq=>?_)
       ·have U:=Zt U q
        refine Zl H (Zh H R (lkb R q)) dd_ R λa H=>Ye H (Zh H R (lkb R q)) dd_ R R (Za2 ad 0) λa H=>Z2 H (lkb R q) R λa H=>Zf ?_
        obtain rfl:=o_1 U
        refine Zi ?_
        exact ⟨H.s,I⟩
       have U:=Zs U q
       refine k_s H q R R R λa H=>k_s H q R R R λa H=>ZZ H (lkb R q) R λa H=>Zf ?_
       obtain rfl:=o_1 U
       refine Zi ?_
       exact ⟨H.s,I⟩
      rintro a w ⟨H,I⟩
      obtain ⟨cb,ae,cp⟩:=p_1 co
      refine ZX (λa w=>Env 153 a [(0,vI Z),(3,ptr y 0),(5,ptr o 0),(6,ptr t 0),(7,vB aa),(8,vI b.2.2.1),(16,vI b.2.2.1),(98,vI h.2.2)] ∧ M (Old n) n w [raw t (enc cb.2),raw o xx,raw y (enc cb.1)]) ?_ ?_
      ·refine c_if H R ae ?_ ?_
       ·intro cr ae
        refine Zb (Zd H R λa H=>Ze ?_)
        obtain ⟨cc,ct,cu⟩:=p_1 ae
        refine ZX (λa w=>Env 153 a [(0,vI Z),(3,ptr y 0),(5,ptr o 0),(6,ptr t 0),(7,vB aa),(8,vI b.2.2.1),(16,vI b.2.2.1),(98,vI h.2.2)] ∧ M (Old n) n w [raw t (enc cc.2),raw o xx,raw y (enc cc.1)]) ?_ ?_
        ·refine p_2 ?_
         refine ZN (λ(l : V44 × V44 × Int) a w=>Env 153 a [(0,vI Z),(3,ptr y 0),(5,ptr o 0),(6,ptr t 0),(7,vB aa),(8,vI b.2.2.1),(12,vI h.2.2),(13,vB ad),(16,vI b.2.2.1),(98,vI h.2.2),(113,vI l.2.2)] ∧ M (Old n) n w [raw t (enc l.2.1),raw o xx,raw y (enc l.1)]) ct ⟨H.s,I⟩ ?_
         rintro l a w ⟨H,I⟩ d3 W cv
         unfold VJ at W
         refine Zb (Zm H R R R λa H=>Ze (s_2 ?_))
         refine c_if H R W ?_ ?_
         ·intro cw W
          refine t_2 (Zw (s_2 (p_2 (Zb (Zd H R λa H=>Zc H R λa H=>Ze ?_)))))
          obtain ⟨dk,e,f⟩:=p_1 W
          refine ZG (λa w=>Env 153 a [(0,vI Z),(3,ptr y 0),(5,ptr o 0),(6,ptr t 0),(7,vB aa),(8,vI b.2.2.1),(12,vI h.2.2),(13,vB ad),(14,vI l.2.2),(16,vI b.2.2.1),(98,vI h.2.2),(113,vI l.2.2)] ∧ M (Old n) n w [raw t (enc l.2.1),raw o xx,raw y (enc dk)]) ?_ ?_
          ·obtain ⟨d4,bi,e⟩:=bvx e
           obtain ⟨K,bj,e⟩:=bvx e
           obtain ⟨d5,bk,e⟩:=bvx e
           obtain ⟨cd,bl,e⟩:=bvx e
           obtain ⟨L,dl,e⟩:=p_1 e
           obtain ⟨ay,au,e⟩:=bvx e
           obtain ⟨d6,ak,e⟩:=bvx e
           refine Z7 [116,117,118,119,120,121,122,123,124,125,126,127,128,129,130,131] YJ R R dd_ R H I (q_m (λ_=>R) (q_m (λ_=>R) (qsP (λz=>ZI z.E Za ld R R p_3 Xo bi.1 (kr0 R)) (qsP (λz=>ZI z.E Za ld R R p_4 ty5 bj.1 (kr0 R)) (qsP (λz=>ZL (v:=(vB K)) z.E Za ld R ty5 R (At.vec (At.vec (z.M.ra2) bi.2) bj.2) (kr0 R)) (q_m (λ_=>R) (q_m (λ_=>R) (q_m (λ_=>R) (q_m (λ_=>R) (qsP (λz=>ZI z.E Za ld R R p_3 Xo bk.1 (kr0 R)) (qsP (λz=>ZI z.E Za ld R R p_4 ty5 bl.1 (kr0 R)) (qsP (λz=>ZL (v:=(vB cd)) z.E Za ld R ty5 R (At.vec (At.vec (z.M.ra2) bk.2) bl.2) (kr0 R)) (qsP (λz=>ZW z.E Za ld R A5 (YR _ Z ad cd L dl) (kc R)) (qsP (v:=(vB (K ^^^ L))) (λz=>Ye z.E Za ld R R (VH K L) (kr0 R)) (qsP (λz=>ZI z.E Za ld R R p_3 Xo au.1 (kr0 R)) (qsP (λz=>ZI z.E Za ld R R p_4 ty5 ak.1 (kr0 R)) qs0)))))))))))))))) ?_
           ·intro a w u H I
            have I:=I.pl2
            refine Zk (seg:=[vB (K ^^^ L)]) (cs':=enc (l.1.setIfInBounds (h.2.2).toNat (ay.setIfInBounds (l.2.2).toNat (K ^^^ L)))) H I Za R R R ty5 R (WY (o':=0 + (l.2.2).toNat * 1) au (ZS (v:=ay) (x:=K ^^^ L) ak.1) of_) (t_1 (K ^^^ L : UInt8)) (X5 (o':=0 + (l.2.2).toNat * 1) au (ZS (v:=ay) (x:=K ^^^ L) ak.1) (ZF (v:=ay) (x:=K ^^^ L) ak.1) of_) λw a I H=>Zf ?_
            obtain rfl:=o_1 e
            refine Zi ?_
            have I:=I.pl2.pl2
            exact ⟨H.s,I⟩
          rintro a w ⟨H,I⟩
          obtain ⟨d7,bm,f⟩:=bvx f
          obtain ⟨N,bn,f⟩:=bvx f
          obtain ⟨d8,bo,f⟩:=bvx f
          obtain ⟨cf,bp,f⟩:=bvx f
          obtain ⟨O,dm,f⟩:=p_1 f
          obtain ⟨az,av,f⟩:=bvx f
          obtain ⟨ea,al,f⟩:=bvx f
          refine Z7 [132,133,134,135,136,137,138,139,140,141,142,143,144,145,146,147] YJ R R dd_ R H I (q_m (λ_=>R) (q_m (λ_=>R) (qsP (λz=>ZI z.E Za ld R R p_3 Xo bm.1 (kr0 R)) (qsP (λz=>ZI z.E Za ld R R p_4 ty5 bn.1 (kr0 R)) (qsP (λz=>ZL (v:=(vB N)) z.E Za ld R ty5 R (At.vec (At.vec (z.M.ra0) bm.2) bn.2) (kr0 R)) (q_m (λ_=>R) (q_m (λ_=>R) (q_m (λ_=>R) (q_m (λ_=>R) (qsP (λz=>ZI z.E Za ld R R p_3 Xo bo.1 (kr0 R)) (qsP (λz=>ZI z.E Za ld R R p_4 ty5 bp.1 (kr0 R)) (qsP (λz=>ZL (v:=(vB cf)) z.E Za ld R ty5 R (At.vec (At.vec (z.M.ra0) bo.2) bp.2) (kr0 R)) (qsP (λz=>ZW z.E Za ld R A5 (YR _ Z ad cf O dm) (kc R)) (qsP (v:=(vB (N ^^^ O))) (λz=>Ye z.E Za ld R R (VH N O) (kr0 R)) (qsP (λz=>ZI z.E Za ld R R p_3 Xo av.1 (kr0 R)) (qsP (λz=>ZI z.E Za ld R R p_4 ty5 al.1 (kr0 R)) qs0)))))))))))))))) ?_
          ·intro a w u H I
           refine Zk (seg:=[vB (N ^^^ O)]) (cs':=enc (l.2.1.setIfInBounds (h.2.2).toNat (az.setIfInBounds (l.2.2).toNat (N ^^^ O)))) H I Za R R R ty5 R (WY (o':=0 + (l.2.2).toNat * 1) av (ZS (v:=az) (x:=N ^^^ O) al.1) of_) (t_1 (N ^^^ O : UInt8)) (X5 (o':=0 + (l.2.2).toNat * 1) av (ZS (v:=az) (x:=N ^^^ O) al.1) (ZF (v:=az) (x:=N ^^^ O) al.1) of_) λw a I H=>Zf (Yn (Zw (s_1 (Zm H R R R λa H=>Zd H R λa H=>Zf (Zi ?_)))))
           exact ⟨_,ois f,H.s,I⟩
         intro cw W
         refine s_3 (Zp (Zp (Yv ?_)))
         obtain rfl:=cv _ (ois W)
         refine Zi ?_
         exact ⟨H.s,I⟩
        rintro a w ⟨H,I⟩
        obtain rfl:=o_1 cu
        refine Zi ?_
        exact ⟨H.s,I⟩
       intro cr ae
       refine t_2 ?_
       obtain rfl:=o_1 ae
       refine Zi ?_
       exact ⟨H.s,I⟩
      rintro a w ⟨H,I⟩
      refine Yn ?_
      obtain rfl:=o_1 cp
      refine Zi ?_
      exact ⟨H.s,I⟩
     rintro a w ⟨H,I⟩
     refine s_1 (Zm H R R R λa H=>Zd H R λa H=>Zf (Zi ?_))
     exact ⟨_,ois cn,H.s,I⟩
    intro cm T
    refine s_3 (Zp (Zp (Yv ?_)))
    obtain rfl:=cl _ (ois T)
    refine Zi ?_
    exact ⟨H.s,I⟩
   rintro a w ⟨H,I⟩
   refine Yn (Zw (s_1 (Zm H R R R λa H=>Zd H R λa H=>Zf (Zi ?_))))
   exact ⟨_,ois cj,H.s,I⟩
  intro c1 af
  refine s_3 (Zp (Zp (Yv ?_)))
  obtain rfl:=bs _ (ois af)
  refine Zi ?_
  have I:=I.pl1.pl1.f_2
  exact ⟨(b.2.1,b.2.2.2),R,H.s,I⟩
 rintro a w ⟨a0,ht,H,I⟩
 subst ht
 have aw:=JM aw
 refine Zw ?_
 obtain ⟨cg,cx,cy⟩:=p_1 aw
 refine ZG (λa w=>Env 153 a [(4,vB cg.2),(5,ptr o 0)] ∧ M (Old n) n w [raw o (enc cg.1)]) ?_ ?_
 ·refine Z7 [151,152,4] YJ R R dd_ R H I (q_m (λ_=>R) (qsP (λz=>ZB z.E Za ld R Ve R (z.M.ra0) (u_1 _) (kr0 R)) (qsP (λz=>K3 z.E Za ld R (kr0 R)) qs0))) ?_
  ·intro a w u H I
   have I:=I.pl1
   refine s_w a0.1 H I Za R R R Ve λw a I H=>Zf ?_
   obtain rfl:=o_1 cx
   refine Zi ?_
   have I:=I.f_1
   exact ⟨H.s,I⟩
 rintro a w ⟨H,I⟩
 obtain rfl:=o_1 cy
 have cz : Z8 prog _ _ (.cell 5 59) _:=ZH H R Ve R I.ra0 (u_1 _) R
 exact u_2 (YN H R (Zy H R) cz ⟨_,R,R,I.kept⟩)
def TK (b : Int) (c : V44) : Option (Bool) :=
 (Wj b c).bind λd=>some (d.1 != 0)
theorem zQ (c : World) (d : Int) (b : V44) (r : Bool) (hF : TK d b = some r) :
  Calls prog 272 [vI d,Value.agg (enc b).toArray].toArray c (Rt c (vT r)):=by
 refine ce func272 ?_
 intro a H
 have I:=M.start c
 unfold TK at hF
 refine Zb (ZY (cs:=enc b) H I Za ld R R λh w a I H=>Zc H R λa H=>Ze (Zb (Zd H R λa H=>Zu H R Ve R I.ra0 (u_1 _) λa H=>?_)))
 obtain ⟨e,f,hF⟩:=p_1 hF
 refine c_k H I R (cbm func265) (Hy _ d b e f) λw a I H=>?_
 refine Zd H R λa H=>ZM H Za ld R R λa H=>ZM H Za ld R R λa H=>Zx H I Ve λi w a I H=>Zc H R λa H=>s_w e.2 H I Za R R R Ve λw a I H=>Ze (Zb (Zd H R λa H=>Zm H R R (Za2 e.1 0) λa H=>Zc H R λa H=>Ze ?_))
 obtain rfl:=o_1 hF
 exact u_2 (kr1 H R R I.kept)
def V5 (b : List UInt8) (c : UInt8) : Option (Int) :=
 some (indexByte b c)
theorem Bx (d : World) (e : List UInt8) (b : Value) (c : Ro d e [b]) (f : UInt8) (r : Int) (hF : V5 e f = some r) :
  Calls prog 218 [b,vB f].toArray d (Rt d (vI r)):=by
 refine ce func218 ?_
 intro a H
 have I:=M.start d
 unfold V5 at hF
 refine Zb (Zc H R λa H=>Ze (Zb (Zd H R λa H=>Zd H R λa H=>Zgl H Za ld R func287 R dd_ (by kernel_rfl) (by kernel_rfl) (I.rd c) λa H=>Zc H R λa H=>Ze ?_)))
 obtain rfl:=o_1 hF
 exact u_2 (kr1 H R R I.kept)
def WH (c : List UInt8) (b : Int) : Option (Fl Int (Fl Unit Bool)) :=
 if decide (b < (c.length : Int)) then ((idx c b).bind λd=>(slc c (0 : Int) b).bind λe=>(V5 e d).bind λf=>if decide (f ≥ 0) then (some (Fl.ex (Fl.ex false))) else (some (Fl.nx (wr (b + 1))))) else (some (Fl.ex (Fl.nx ())))
def Wh (b : List UInt8) : Option (Bool) :=
 (ZK (WH b) 0).bind λc=>c.el (λd=>some true) (λr=>some r)
theorem KP (e : World) (o : List UInt8) (d : Value) (c : Ro e o [d]) (r : Bool) (hF : Wh o = some r) :
  Calls prog 217 [d].toArray e (Rt e (vT r)):=by
 refine ce func217 ?_
 intro a H
 have I:=M.start e
 unfold Wh at hF
 refine Zb (Zc H R λa H=>Ze (s_2 (Zb (Zd H R λa H=>Yp H R o_2 (I.rd c) λa H=>Zd H R λa H=>Ze ?_))))
 obtain ⟨A,q,f⟩:=p_1 hF
 refine ZX (λa w=>∃ z : Unit,A = Fl.nx z ∧ Env 19 a [] ∧ M (Old e) e w []) ?_ ?_
 ·refine p_2 ?_
  refine ZN (λ(n : Int) a w=>Env 19 a [(0,d),(5,d),(6,vI (o.length : Int)),(7,vI n)] ∧ M (Old e) e w []) q ⟨H.s,I⟩ ?_
  rintro n a w ⟨H,I⟩ B b i
  unfold WH at b
  refine Zb (Zm H R R R λa H=>Ze (s_2 ?_))
  refine c_if H R b ?_ ?_
  ·intro t b
   refine t_2 (Zw (s_2 (p_2 (Zb (Zd H R λa H=>?_)))))
   obtain ⟨j,h,b⟩:=bix b
   refine Ys H R R o_2 ty5 (I.rd c) h.1 λa H=>ZO (v:=(vB j)) H R ty5 R (Xx (I.rd c) h.2) λa H=>Zc H R λa H=>Zc H R λa H=>Ze (Zb (Zd H R λa H=>Zd H R λa H=>?_))
   obtain ⟨k,l,b⟩:=p_1 b
   refine Uk H Za ld R R R R R o_2 ty5 (I.rd c) l λa H=>?_
   have u : Rep.sat (Old e) e k [ZV d ((0 : Int)).toNat (n).toNat 1] []:=Yo c l -- ^
   refine Zd H R λa H=>?_
   obtain ⟨x,y,b⟩:=p_1 b
   refine c_k H I R (cbm func218) (Bx _ k (ZV d ((0 : Int)).toNat (n).toNat 1) (I.rdo u) j x y) λw a I H=>?_
   refine Zm H R R R λa H=>Ze ?_
   refine c_if H R b ?_ ?_
   ·intro m b
    refine Zb (Zc H R λa H=>Ze ?_)
    obtain rfl:=i _ (ois b)
    obtain rfl:=o_1 f
    exact u_2 (YZ (ZA (ZA (YZ (ZA (ZA (kr1 H R R I.kept)))))))
   intro m b
   refine t_2 (Yn (Zw (s_1 (Zm H R R R λa H=>Zd H R λa H=>Zf (Zi ?_)))))
   exact ⟨_,ois b,H.s,I⟩
  intro t b
  refine s_3 (Zp (Zp (Yv ?_)))
  obtain rfl:=i _ (ois b)
  refine Zi ?_
  exact ⟨(),R,H.sub trivial,I⟩
 rintro a w ⟨z,ht,H,I⟩
 subst ht
 have f:=JM f
 refine Zw (Zb (Zc H R λa H=>Ze ?_))
 obtain rfl:=o_1 f
 exact u_2 (kr1 H R R I.kept)
def Ua (d : V16) (b : Int) : Option (Fl Int (Fl Unit Bool)) :=
 if decide (b < 16) then ((ZP d b).bind λc=>if decide (c > 15) then (some (Fl.ex (Fl.ex false))) else (some (Fl.nx (wr (b + 1))))) else (some (Fl.ex (Fl.nx ())))
def TT (d : V16) : Option (Bool) :=
 (ZK (Ua d) 0).bind λe=>e.el (λf=>(slc d.toList (0 : Int) (16 : Int)).bind λb=>(Wh b).bind λc=>some c) (λr=>some r)
theorem kD (d : World) (e : V16) (r : Bool) (hF : TT e = some r) :
  Calls prog 273 [Value.agg (enc e).toArray].toArray d (Rt d (vT r)):=by
 refine ce func273 ?_
 intro a H
 have I:=M.start d
 unfold TT at hF
 refine Zb (ZY (cs:=enc e) H I Za ld R R λf w a I H=>Zc H R λa H=>Ze (s_2 (Zb (Zu H R BL R I.ra0 (u_1 _) λa H=>Zd H R λa H=>Ze ?_))))
 obtain ⟨z,n,c⟩:=p_1 hF
 refine ZX (λa w=>∃ x : Unit,z = Fl.nx x ∧ Env 14 a [(1,ptr f 0)] ∧ M (Old d) d w [raw f (enc e)]) ?_ ?_
 ·refine p_2 ?_
  refine ZN (λ(y : Int) a w=>Env 14 a [(1,ptr f 0),(5,Value.agg (enc e).toArray),(6,vI y)] ∧ M (Old d) d w [raw f (enc e)]) n ⟨H.s,I⟩ ?_
  rintro y a w ⟨H,I⟩ A b h
  unfold Ua at b
  refine Zb (Zm H R R R λa H=>Ze (s_2 ?_))
  refine c_if H R b ?_ ?_
  ·intro i b
   refine t_2 (Zw (s_2 (p_2 (Zb ?_))))
   obtain ⟨o,j,b⟩:=bvx b
   refine Hg H Za ld R R u_5 ty5 R R j R λa H=>Zc H R λa H=>Ze (Zb (Zd H R λa H=>Zm H R R (bB_gtr o 15) λa H=>Ze ?_))
   refine c_if H R b ?_ ?_
   ·intro k b
    refine Zb (Zc H R λa H=>Ze ?_)
    obtain rfl:=h _ (ois b)
    obtain rfl:=o_1 c
    exact u_2 (YZ (ZA (ZA (YZ (ZA (ZA (kr1 H R R I.kept)))))))
   intro k b
   refine t_2 (Yn (Zw (s_1 (Zm H R R R λa H=>Zd H R λa H=>Zf (Zi ?_)))))
   exact ⟨_,ois b,H.s,I⟩
  intro i b
  refine s_3 (Zp (Zp (Yv ?_)))
  obtain rfl:=h _ (ois b)
  refine Zi ?_
  exact ⟨(),R,H.s,I⟩
 rintro a w ⟨x,ht,H,I⟩
 subst ht
 have c:=JM c
 refine Zw (Zb ?_)
 obtain ⟨q,l,c⟩:=p_1 c
 have m:=Ul l -- ^
 refine XH (N:=16) H Za ld R R R R R u_5 ty5 m λa H=>?_
 obtain ⟨t,u,c⟩:=p_1 c
 refine c_k H I R Zop (KP _ q (ZV (.slice (some ⟨f,0,none⟩) 16 16) ((0 : Int)).toNat ((16 : Int)).toNat 1) (Yo (At.sat I.ra0 (by simp) dd_) l) t u) λw a I H=>?_
 refine Zc H R λa H=>Ze ?_
 obtain rfl:=o_1 c
 exact u_2 (kr1 H R R I.kept)
def QK (b : GCipher) : Option (Bool) :=
 ((UN b.Field).bind λf=>if f then ((VL b.Box).bind λh=>if h then ((TK b.Field b.Mix).bind λc=>if c then ((TT b.Places).bind λd=>if d then ((Yy b.Rounds 1 20).bind λe=>some e) else (some false)) else (some false)) else (some false)) else (some false) : Option (Bool)).bind λi=>some i
theorem qp (i : World) (f : GCipher) (r : Bool) (hF : QK f = some r) :
  Calls prog 203 [Value.agg (enc f).toArray].toArray i (Rt i (vT r)):=by
 refine ce func203 ?_
 intro a H
 have I:=M.start i
 unfold QK at hF
 refine Zb (ZY (cs:=cat [[vI f.Field],enc f.Box,enc f.Mix,enc f.Places,[vI f.Rounds]]) H I Za ld R R λA w a I H=>Zc H R λa H=>Ze ?_)
 obtain ⟨y,b,l⟩:=p_1 hF
 refine ZG (λa w=>Env 28 a [(2,vT y)] ∧ M (Old i) i w []) ?_ ?_
 ·refine s_1 (Zr H R (Bg) λa H=>ZO (v:=(vI f.Field)) H R ty2 R (at_0 I.ra0) λa H=>?_)
  obtain ⟨u,z,b⟩:=p_1 b
  refine c_k H I R Zpl (HQ _ f.Field u z) λw a I H=>?_
  refine Zd H R λa H=>?_
  refine Yq u (λh=>?_) (λh=>?_)
  ·have b:=Zt b h
   refine Zo H (Zh H R (lkb R h)) dd_ R (HV) λa H=>ZB H (Zh H R (lkb R h)) dd_ R Wg R (at_1 I.ra0) (u_1 _) λa H=>?_
   obtain ⟨x,m,b⟩:=p_1 b
   refine ZW H (Zh H R (lkb R h)) dd_ R (cbm func271) (zb _ f.Box x m) ?_
   rintro v w a ⟨rfl,hK⟩ H
   have I:=I.keep hK
   refine Z2 H (lkb R h) R λa H=>Zd H R λa H=>?_
   refine Yq x (λc=>?_) (λc=>?_)
   ·have b:=Zt b c
    refine Zo H (Zh H R (lkb R c)) dd_ R (Bg) λa H=>ZL (v:=(vI f.Field)) H (Zh H R (lkb R c)) dd_ R ty2 R (at_0 I.ra0) λa H=>Zo H (Zh H R (lkb R c)) dd_ R (Hm) λa H=>ZB H (Zh H R (lkb R c)) dd_ R Ve R (at_2 I.ra0) (u_1 _) λa H=>?_
    obtain ⟨j,n,b⟩:=p_1 b
    refine ZW H (Zh H R (lkb R c)) dd_ R (cbm func272) (zQ _ f.Field f.Mix j n) ?_
    rintro v w a ⟨rfl,hK⟩ H
    have I:=I.keep hK
    refine Z2 H (lkb R c) R λa H=>Zd H R λa H=>?_
    refine Yq j (λd=>?_) (λd=>?_)
    ·have b:=Zt b d
     refine Zo H (Zh H R (lkb R d)) dd_ R (JC) λa H=>ZB H (Zh H R (lkb R d)) dd_ R BL R (at_3 I.ra0) (u_1 _) λa H=>?_
     obtain ⟨k,o,b⟩:=p_1 b
     refine ZW H (Zh H R (lkb R d)) dd_ R (cbm func273) (kD _ f.Places k o) ?_
     rintro v w a ⟨rfl,hK⟩ H
     have I:=I.keep hK
     refine Z2 H (lkb R d) R λa H=>Zd H R λa H=>?_
     refine Yq k (λe=>?_) (λe=>?_)
     ·have b:=Zt b e
      refine Zo H (Zh H R (lkb R e)) dd_ R (jY) λa H=>ZL (v:=(vI f.Rounds)) H (Zh H R (lkb R e)) dd_ R ty2 R (at_4 I.ra0) λa H=>?_
      obtain ⟨q,t,b⟩:=p_1 b
      refine ZW H (Zh H R (lkb R e)) dd_ R JI (Yw _ f.Rounds 1 20 q t) ?_
      rintro v w a ⟨rfl,hK⟩ H
      have I:=I.keep hK
      refine Z2 H (lkb R e) R λa H=>Zc H R λa H=>Zf ?_
      obtain rfl:=o_1 b
      refine Zi ?_
      have I:=I.f_0
      exact ⟨H.s,I⟩
     have b:=Zs b e
     refine k_s H e R R R λa H=>k_s H e R R R λa H=>k_s H e R R R λa H=>ZZ H (lkb R e) R λa H=>Zc H R λa H=>Zf ?_
     obtain rfl:=o_1 b
     refine Zi ?_
     have I:=I.f_0
     exact ⟨H.s,I⟩
    have b:=Zs b d
    refine k_s H d R R R λa H=>k_s H d R R R λa H=>k_s H d R R R λa H=>ZZ H (lkb R d) R λa H=>Zd H R λa H=>Zj H R R R dd_ λa H=>Zj H R R R dd_ λa H=>Zj H R R R dd_ λa H=>ZZ H R R λa H=>Zc H R λa H=>Zf ?_
    obtain rfl:=o_1 b
    refine Zi ?_
    have I:=I.f_0
    exact ⟨H.s,I⟩
   have b:=Zs b c
   refine k_s H c R R R λa H=>k_s H c R R R λa H=>k_s H c R R R λa H=>k_s H c R R R λa H=>k_s H c R R R λa H=>ZZ H (lkb R c) R λa H=>Zd H R λa H=>Zj H R R R dd_ λa H=>Zj H R R R dd_ λa H=>Zj H R R R dd_ λa H=>ZZ H R R λa H=>Zd H R λa H=>?_
   refine Zj H R R R dd_ λa H=>Zj H R R R dd_ λa H=>Zj H R R R dd_ λa H=>ZZ H R R λa H=>Zc H R λa H=>Zf ?_
   obtain rfl:=o_1 b
   refine Zi ?_
   have I:=I.f_0
   exact ⟨H.s,I⟩
  have b:=Zs b h
  refine k_s H h R R R λa H=>k_s H h R R R λa H=>k_s H h R R R λa H=>ZZ H (lkb R h) R λa H=>Zd H R λa H=>Zj H R R R dd_ λa H=>Zj H R R R dd_ λa H=>Zj H R R R dd_ λa H=>Zj H R R R dd_ λa H=>Zj H R R R dd_ λa H=>ZZ H R R λa H=>Zd H R λa H=>?_
  refine Zj H R R R dd_ λa H=>Zj H R R R dd_ λa H=>Zj H R R R dd_ λa H=>ZZ H R R λa H=>Zd H R λa H=>Zj H R R R dd_ λa H=>Zj H R R R dd_ λa H=>Zj H R R R dd_ λa H=>ZZ H R R λa H=>Zc H R λa H=>Zf ?_
  obtain rfl:=o_1 b
  refine Zi ?_
  have I:=I.f_0
  exact ⟨H.s,I⟩
 rintro a w ⟨H,I⟩
 obtain rfl:=o_1 l
 exact u_2 (kr1 H R R I.kept)
def UH (c : GCipher) (b : List UInt8) (d : Int) (e : Int) : Option (Int) :=
 (QK c).bind λf=>if !f then (some 1) else ((if decide ((b.length : Int) < d) then (some true) else (some (decide ((b.length : Int) > e))) : Option (Bool)).bind λh=>if h then (some 2) else (some 0))
theorem BW (i : World) (f : GCipher) (k : List UInt8) (h : Value) (d : Ro i k [h]) (l : Int) (n : Int) (r : Int) (hF : UH f k l n = some r) :
  Calls prog 110 [Value.agg (enc f).toArray,h,vI l,vI n].toArray i (Rt i (vI r)):=by
 refine ce func110 ?_
 intro a H
 have I:=M.start i
 unfold UH at hF
 refine Zb (ZY (cs:=cat [[vI f.Field],enc f.Box,enc f.Mix,enc f.Places,[vI f.Rounds]]) H I Za ld R R λu w a I H=>Zc H R λa H=>Ze (s_2 (p_2 (Zb (Zu H R Wk R I.ra0 cq λa H=>?_)))))
 obtain ⟨o,q,hF⟩:=p_1 hF
 refine c_k H I R (cbm func203) (qp _ f o q) λw a I H=>?_
 refine Qe H R λa H=>Zc H R λa H=>Ze ?_
 refine c_if H R hF ?_ ?_
 ·intro m hF
  refine Zb (Zc H R λa H=>Ze ?_)
  obtain rfl:=o_1 hF
  exact u_2 (YZ (ZA (kr1 H R R I.kept)))
 intro m hF
 obtain ⟨t,c,e⟩:=p_1 hF
 refine ZG (λa w=>Env 24 a [(13,vT t)] ∧ M (Old i) i w []) ?_ ?_
 ·refine s_1 (Zd H R λa H=>Yp H R o_2 (I.rd d) λa H=>Zd H R λa H=>Zm H R R R λa H=>Zd H R λa H=>?_)
  refine Yq (decide ((k.length : Int) < l)) (λb=>?_) (λb=>?_)
  ·have c:=Zt c b
   refine k_s H b R R R λa H=>k_s H b R R R λa H=>k_s H b R R R λa H=>k_s H b R R R λa H=>Z2 H (lkb R b) R λa H=>Zc H R λa H=>Zf ?_
   obtain rfl:=o_1 c
   refine Zi ?_
   have I:=I.f_0
   exact ⟨H.s,I⟩
  have c:=Zs c b
  refine Zl H (Zh H R (lkb R b)) dd_ R λa H=>Q7 H (Zh H R (lkb R b)) dd_ R o_2 (I.rd d) λa H=>Zl H (Zh H R (lkb R b)) dd_ R λa H=>Ye H (Zh H R (lkb R b)) dd_ R R R λa H=>ZZ H (lkb R b) R λa H=>Zc H R λa H=>Zf ?_
  obtain rfl:=o_1 c
  refine Zi ?_
  have I:=I.f_0
  exact ⟨H.s,I⟩
 rintro a w ⟨H,I⟩
 refine c_if H R e ?_ ?_
 ·intro j e
  refine Zb (Zc H R λa H=>Ze ?_)
  obtain rfl:=o_1 e
  exact u_2 (YZ (ZA (kr1 H R R I.kept)))
 intro j e
 refine t_2 (Yn (Zw (Zb (Zc H R λa H=>Ze ?_))))
 obtain rfl:=o_1 e
 exact u_2 (kr1 H R R I.kept)
def Va (d : V256) (b : V256 × Int) : Option (Fl (V256 × Int) V256) :=
 if decide (b.2 < 256) then ((ZP d b.2).bind λc=>(ZP b.1 (bI c)).bind λe=>some (Fl.nx ((b.1.setIfInBounds ((bI c)).toNat (Zz b.2)),wr (b.2 + 1)))) else (some (Fl.ex b.1))
def UR (b : V256) : Option (V256) :=
 (ZK (Va b) ((Vector.replicate 256 (0 : UInt8)),0)).bind λc=>some c
theorem yK (e : World) (k : V256) (r : V256) (hF : UR k = some r) :
  Calls prog 266 [Value.agg (enc k).toArray].toArray e (Rt e (Value.agg (enc r).toArray)):=by
 refine ce func266 ?_
 intro a H
 have I:=M.start e
 unfold UR at hF
 refine Zb (ZY (cs:=enc k) H I Za ld R R λz w a I H=>Zx H I Wg λl w a I H=>Ze (Zb (Xi (parts:=[]) (vs:=[]) (cs:=enc xe) H Za ld R R Wg R ty5 YK λa H=>Zx H I Wg λm w a I H=>s_w xe H I Za R R R Wg λw a I H=>Ze (s_2 (Zb (Zu H R Wg R I.ra2 (u_1 _) λa H=>Zd H R λa H=>Ze ?_))))))
 obtain ⟨t,n,o⟩:=p_1 hF
 refine ZX (λa w=>Env 18 a [(2,ptr l 0),(3,ptr m 0)] ∧ M (Old e) e w [raw m (enc t),raw l xB]) ?_ ?_
 ·refine p_2 ?_
  have I:=I.pl1.pl1.f_2
  refine ZN (λ(c : V256 × Int) a w=>Env 18 a [(2,ptr l 0),(3,ptr m 0),(7,Value.agg (enc k).toArray),(8,vI c.2)] ∧ M (Old e) e w [raw m (enc c.1),raw l xB]) n ⟨H.s,I⟩ ?_
  rintro c a w ⟨H,I⟩ u b f
  unfold Va at b
  refine Zb (Zm H R R R λa H=>Ze (s_2 ?_))
  refine c_if H R b ?_ ?_
  ·intro h b
   refine t_2 (Zw (s_2 (p_2 (Zb (Zd H R λa H=>?_)))))
   obtain ⟨q,i,b⟩:=bvx b
   refine Hg H Za ld R R u_4 ty5 R R i R λa H=>Zc H R λa H=>Zc H R λa H=>Ze (s_1 (Zd H R λa H=>Zd H R λa H=>Xq H Za ld R o_6 t_3 λa H=>?_))
   obtain ⟨y,d,b⟩:=bvx b
   refine ZC H R R u_4 ty5 d.1 λa H=>Zk (seg:=[vB (Zz c.2)]) (cs':=enc (c.1.setIfInBounds ((bI q)).toNat (Zz c.2))) H I Za R R R ty5 R (ZS (v:=c.1) (x:=Zz c.2) d.1) (t_1 (Zz c.2 : UInt8)) (ZF (v:=c.1) (x:=Zz c.2) d.1) λw a I H=>Zf (Yn (Zw (s_1 (Zm H R R R λa H=>Zd H R λa H=>Zf (Zi ?_)))))
   exact ⟨_,ois b,H.s,I⟩
  intro h b
  refine s_3 (Zp (Zp (Yv ?_)))
  obtain rfl:=f _ (ois b)
  refine Zi ?_
  exact ⟨H.s,I⟩
 rintro a w ⟨H,I⟩
 refine Zw (Zb (Zu H R Wg R I.ra0 (u_1 _) λa H=>?_))
 have I:=I.pl1
 refine s_w t H I Za R R R Wg λw a I H=>Ze ?_
 obtain rfl:=o_1 o
 have j : Z8 prog _ _ (.cell 2 56) _:=ZH H R Wg R I.ra0 (u_1 _) R
 exact u_2 (ZT H R j ⟨_,R,R,I.kept⟩)
def Wd (d : V16) (b : V16 × Int) : Option (Fl (V16 × Int) V16) :=
 if decide (b.2 < 16) then ((ZP d b.2).bind λc=>(ZP b.1 (bI c)).bind λe=>some (Fl.nx ((b.1.setIfInBounds ((bI c)).toNat (Zz b.2)),wr (b.2 + 1)))) else (some (Fl.ex b.1))
def Vk (b : V16) : Option (V16) :=
 (ZK (Wd b) ((Vector.replicate 16 (0 : UInt8)),0)).bind λc=>some c
theorem AJ (e : World) (k : V16) (r : V16) (hF : Vk k = some r) :
  Calls prog 267 [Value.agg (enc k).toArray].toArray e (Rt e (Value.agg (enc r).toArray)):=by
 refine ce func267 ?_
 intro a H
 have I:=M.start e
 unfold Vk at hF
 refine Zb (ZY (cs:=enc k) H I Za ld R R λz w a I H=>Zx H I BL λl w a I H=>Ze (Zb (Xi (parts:=[]) (vs:=[]) (cs:=enc xb) H Za ld R R BL R ty5 YK λa H=>Zx H I BL λm w a I H=>s_w xb H I Za R R R BL λw a I H=>Ze (s_2 (Zb (Zu H R BL R I.ra2 (u_1 _) λa H=>Zd H R λa H=>Ze ?_))))))
 obtain ⟨t,n,o⟩:=p_1 hF
 refine ZX (λa w=>Env 18 a [(2,ptr l 0),(3,ptr m 0)] ∧ M (Old e) e w [raw m (enc t),raw l xi]) ?_ ?_
 ·refine p_2 ?_
  have I:=I.pl1.pl1.f_2
  refine ZN (λ(c : V16 × Int) a w=>Env 18 a [(2,ptr l 0),(3,ptr m 0),(7,Value.agg (enc k).toArray),(8,vI c.2)] ∧ M (Old e) e w [raw m (enc c.1),raw l xi]) n ⟨H.s,I⟩ ?_
  rintro c a w ⟨H,I⟩ u b f
  unfold Wd at b
  refine Zb (Zm H R R R λa H=>Ze (s_2 ?_))
  refine c_if H R b ?_ ?_
  ·intro h b
   refine t_2 (Zw (s_2 (p_2 (Zb (Zd H R λa H=>?_)))))
   obtain ⟨q,i,b⟩:=bvx b
   refine Hg H Za ld R R u_5 ty5 R R i R λa H=>Zc H R λa H=>Zc H R λa H=>Ze (s_1 (Zd H R λa H=>Zd H R λa H=>Xq H Za ld R o_6 t_3 λa H=>?_))
   obtain ⟨y,d,b⟩:=bvx b
   refine ZC H R R u_5 ty5 d.1 λa H=>Zk (seg:=[vB (Zz c.2)]) (cs':=enc (c.1.setIfInBounds ((bI q)).toNat (Zz c.2))) H I Za R R R ty5 R (ZS (v:=c.1) (x:=Zz c.2) d.1) (t_1 (Zz c.2 : UInt8)) (ZF (v:=c.1) (x:=Zz c.2) d.1) λw a I H=>Zf (Yn (Zw (s_1 (Zm H R R R λa H=>Zd H R λa H=>Zf (Zi ?_)))))
   exact ⟨_,ois b,H.s,I⟩
  intro h b
  refine s_3 (Zp (Zp (Yv ?_)))
  obtain rfl:=f _ (ois b)
  refine Zi ?_
  exact ⟨H.s,I⟩
 rintro a w ⟨H,I⟩
 refine Zw (Zb (Zu H R BL R I.ra0 (u_1 _) λa H=>?_))
 have I:=I.pl1
 refine s_w t H I Za R R R BL λw a I H=>Ze ?_
 obtain rfl:=o_1 o
 have j : Z8 prog _ _ (.cell 2 60) _:=ZH H R BL R I.ra0 (u_1 _) R
 exact u_2 (ZT H R j ⟨_,R,R,I.kept⟩)
def Uw (h : (Vector (Vector V256 4) 4) × Int) (c : (Vector (Vector V256 4) 4) × Int) (d : (Vector (Vector V256 4) 4) × Int) (i : UInt8) (b : (Vector (Vector V256 4) 4) × Int) : Option (Fl ((Vector (Vector V256 4) 4) × Int) (Vector (Vector V256 4) 4)) :=
 if decide (b.2 < d.2) then ((ZP b.1 h.2).bind λj=>(ZP j c.2).bind λk=>(ZP k b.2).bind λl=>(ZP b.1 h.2).bind λe=>(ZP e c.2).bind λf=>(ZP f (orI d.2 b.2)).bind λm=>some (Fl.nx ((b.1.setIfInBounds (h.2).toNat (e.setIfInBounds (c.2).toNat (f.setIfInBounds ((orI d.2 b.2)).toNat (i ^^^ l)))),wr (b.2 + 1)))) else (some (Fl.ex b.1))
def UI (h : Int) (i : (Vector (Vector V256 4) 4) × Int) (c : (Vector (Vector V256 4) 4) × Int) (d : UInt8) (b : (Vector (Vector V256 4) 4) × Int) : Option (Fl ((Vector (Vector V256 4) 4) × Int) (Vector (Vector V256 4) 4)) :=
 if decide (b.2 < 256) then ((Z5 h d (Zz b.2)).bind λe=>(ZK (Uw i c b e) (b.1,0)).bind λf=>some (Fl.nx (f,wr (b.2 * 2)))) else (some (Fl.ex b.1))
def Uy (f : Int) (h : (Vector (Vector V256 4) 4) × Int) (c : Vector UInt8 4) (b : (Vector (Vector V256 4) 4) × Int) : Option (Fl ((Vector (Vector V256 4) 4) × Int) (Vector (Vector V256 4) 4)) :=
 if decide (b.2 < 4) then ((ZP c b.2).bind λd=>(ZK (UI f h b d) (b.1,1)).bind λe=>some (Fl.nx (e,wr (b.2 + 1)))) else (some (Fl.ex b.1))
def Uv (e : Int) (f : V44) (b : (Vector (Vector V256 4) 4) × Int) : Option (Fl ((Vector (Vector V256 4) 4) × Int) (Vector (Vector V256 4) 4)) :=
 if decide (b.2 < 4) then ((ZP f b.2).bind λc=>(ZK (Uy e b c) (b.1,0)).bind λd=>some (Fl.nx (d,wr (b.2 + 1)))) else (some (Fl.ex b.1))
def U6 (b : Int) (c : V44) : Option ((Ref (Vector (Vector V256 4) 4))) :=
 (ZK (Uv b c) ((Vector.replicate 4 (Vector.replicate 4 (Vector.replicate 256 (0 : UInt8)))),0)).bind λd=>some (⟨d⟩ : (Ref (Vector (Vector V256 4) 4)))
theorem AE (j : World) (C : Int) (F : V44) (r : (Ref xt)) (hF : U6 C F = some r) :
  Calls prog 268 [vI C,Value.agg (enc F).toArray].toArray j (e_r λv w'=>(∃ y1 : Value,v = y1 ∧ Fr j w' [own NoB (r : (Ref xt)) [y1]] ∧ Kept (Old j) j w')):=by
 refine ce func268 ?_
 intro a H
 have I:=M.start j
 unfold U6 at hF
 refine Zb (ZY (cs:=enc F) H I Za ld R R λq w a I H=>Zc H R λa H=>Ze (Zb (Xi (parts:=[]) (vs:=[]) (cs:=enc (Vector.replicate 4 (Vector.replicate 4 xe))) H Za ld R R ty322 R Zcb YK λa H=>ZY (cs:=enc (Vector.replicate 4 (Vector.replicate 4 xe))) H I Za ld R R λl w a I H=>Zc H R λa H=>Ze (s_2 (Zb (Zd H R λa H=>Ze ?_))))))
 obtain ⟨j5,aj,ak⟩:=p_1 hF
 refine ZX (λa w=>Env 62 a [(5,ptr l 0)] ∧ M (Old j) j w [raw l (enc j5)]) ?_ ?_
 ·refine p_2 ?_
  refine ZN (λ(o : xt × Int) a w=>Env 62 a [(0,vI C),(3,ptr q 0),(5,ptr l 0),(14,vI o.2)] ∧ M (Old j) j w [raw l (enc o.1),raw q (enc F)]) aj ⟨H.s,I⟩ ?_
  rintro o a w ⟨H,I⟩ au m T
  unfold Uv at m
  refine Zb (Zm H R R R λa H=>Ze (s_2 ?_))
  refine c_if H R m ?_ ?_
  ·intro U m
   refine t_2 (Zw (s_2 (p_2 (Zb (Zd H R λa H=>Zc H R λa H=>Ze (Zb (Zd H R λa H=>?_)))))))
   obtain ⟨y,K,m⟩:=bvx m
   refine ZC H R R p_3 Xo K.1 λa H=>Zu H R Xo R (At.vec I.ra1 K.2) (u_1 _) λa H=>Zd H R λa H=>Ze ?_
   obtain ⟨al,W,X⟩:=p_1 m
   refine ZX (λa w=>Env 62 a [(0,vI C),(3,ptr q 0),(5,ptr l 0),(14,vI o.2)] ∧ M (Old j) j w [raw l (enc al),raw q (enc F)]) ?_ ?_
   ·refine p_2 ?_
    refine ZN (λ(d : xt × Int) a w=>Env 62 a [(0,vI C),(3,ptr q 0),(5,ptr l 0),(6,vI o.2),(14,vI o.2),(19,Value.agg (enc y).toArray),(20,vI d.2)] ∧ M (Old j) j w [raw l (enc d.1),raw q (enc F)]) W ⟨H.s,I⟩ ?_
    rintro d a w ⟨H,I⟩ av e Y
    unfold Uy at e
    refine Zb (Zm H R R R λa H=>Ze (s_2 ?_))
    refine c_if H R e ?_ ?_
    ·intro Z e
     refine t_2 (Zw (s_2 (p_2 (Zb (Zd H R λa H=>?_)))))
     obtain ⟨G,aa,e⟩:=bvx e
     refine Hg H Za ld R R p_4 ty5 R R aa R λa H=>Zc H R λa H=>Zc H R λa H=>Ze (Zb (Zc H R λa H=>Ze ?_))
     obtain ⟨am,ab,ac⟩:=p_1 e
     refine ZX (λa w=>Env 62 a [(0,vI C),(3,ptr q 0),(5,ptr l 0),(6,vI o.2),(14,vI o.2),(19,Value.agg (enc y).toArray),(20,vI d.2)] ∧ M (Old j) j w [raw l (enc am),raw q (enc F)]) ?_ ?_
     ·refine p_2 ?_
      refine ZN (λ(c : xt × Int) a w=>Env 62 a [(0,vI C),(3,ptr q 0),(5,ptr l 0),(6,vI o.2),(7,vI d.2),(8,vB G),(9,vI c.2),(14,vI o.2),(19,Value.agg (enc y).toArray),(20,vI d.2)] ∧ M (Old j) j w [raw l (enc c.1),raw q (enc F)]) ab ⟨H.s,I⟩ ?_
      rintro c a w ⟨H,I⟩ aw f ad
      unfold UI at f
      refine s_2 (Zb (Zd H R λa H=>Zm H R R R λa H=>Ze ?_))
      refine c_if H R f ?_ ?_
      ·intro ae f
       refine t_2 (Zw (s_2 (p_2 (Zb (Zd H R λa H=>Zd H R λa H=>Zd H R λa H=>Xq H Za ld R o_6 t_3 λa H=>?_)))))
       obtain ⟨h,an,f⟩:=p_1 f
       refine c_k H I R A5 (YR _ C G (Zz c.2) h an) λw a I H=>?_
       refine Zc H R λa H=>Ze (Zb (Zd H R λa H=>Zd H R λa H=>Ze ?_))
       obtain ⟨ao,af,ag⟩:=p_1 f
       refine ZX (λa w=>Env 62 a [(0,vI C),(3,ptr q 0),(5,ptr l 0),(6,vI o.2),(7,vI d.2),(8,vB G),(9,vI c.2),(14,vI o.2),(19,Value.agg (enc y).toArray),(20,vI d.2)] ∧ M (Old j) j w [raw l (enc ao),raw q (enc F)]) ?_ ?_
       ·refine p_2 ?_
        refine ZN (λ(i : xt × Int) a w=>Env 62 a [(0,vI C),(3,ptr q 0),(5,ptr l 0),(6,vI o.2),(7,vI d.2),(8,vB G),(9,vI c.2),(10,vB h),(14,vI o.2),(19,Value.agg (enc y).toArray),(20,vI d.2),(33,vI c.2),(34,vI i.2)] ∧ M (Old j) j w [raw l (enc i.1),raw q (enc F)]) af ⟨H.s,I⟩ ?_
        rintro i a w ⟨H,I⟩ ax b ah
        unfold Uw at b
        refine Zb (Zm H R R R λa H=>Ze (s_2 ?_))
        refine c_if H R b ?_ ?_
        ·intro ai b
         refine t_2 (Zw (s_2 (p_2 (Zb (Zd H R λa H=>Zc H R λa H=>Ze ?_)))))
         obtain ⟨ay,L,b⟩:=bvx b
         obtain ⟨az,N,b⟩:=bvx b
         obtain ⟨k,O,b⟩:=bvx b
         obtain ⟨ap,A,b⟩:=bvx b
         obtain ⟨B,t,b⟩:=bvx b
         obtain ⟨a0,n,b⟩:=bvx b
         refine Z7 [37,38,39,40,41,42,43,44,45,46,47,48,49,50,51,52,53,54,55,56,57] YJ R R dd_ R H I (q_m (λ_=>R) (q_m (λ_=>R) (q_m (λ_=>R) (q_m (λ_=>R) (q_m (λ_=>R) (qsP (v:=(vI (orI c.2 i.2))) (λz=>Ye z.E Za ld R R R (kr0 R)) (q_m (λ_=>R) (q_m (λ_=>R) (q_m (λ_=>R) (q_m (λ_=>R) (q_m (λ_=>R) (qsP (λz=>Ya z.E Za ld R (kr0 R)) (qsP (λz=>ZI z.E Za ld R R p_7 Zcb L.1 (kr0 R)) (qsP (λz=>ZI z.E Za ld R R s_7 ty55 N.1 (kr0 R)) (qsP (λz=>ZI z.E Za ld R R u_7 ty5 O.1 (kr0 R)) (qsP (λz=>ZL (v:=(vB k)) z.E Za ld R ty5 R (At.vec (At.vec (At.vec (z.M.ra0) L.2) N.2) O.2) (kr0 R)) (qsP (v:=(vB (h ^^^ k))) (λz=>Ye z.E Za ld R R (VH h k) (kr0 R)) (qsP (λz=>Ya z.E Za ld R (kr0 R)) (qsP (λz=>ZI z.E Za ld R R p_7 Zcb A.1 (kr0 R)) (qsP (λz=>ZI z.E Za ld R R s_7 ty55 t.1 (kr0 R)) (qsP (λz=>ZI z.E Za ld R R u_7 ty5 n.1 (kr0 R)) qs0))))))))))))))))))))) ?_
         ·intro a w u H I
          refine Zk (seg:=[vB (h ^^^ k)]) (cs':=enc (i.1.setIfInBounds (o.2).toNat (ap.setIfInBounds (d.2).toNat (B.setIfInBounds ((orI c.2 i.2)).toNat (h ^^^ k))))) H I Za R R R ty5 R (WY (o':=(d.2).toNat * 256 + (0 + ((orI c.2 i.2)).toNat * 1)) A (WY (o':=0 + ((orI c.2 i.2)).toNat * 1) t (ZS (v:=B) (x:=h ^^^ k) n.1) of_) of_) (t_1 (h ^^^ k : UInt8)) (X5 (o':=(d.2).toNat * 256 + (0 + ((orI c.2 i.2)).toNat * 1)) A (WY (o':=0 + ((orI c.2 i.2)).toNat * 1) t (ZS (v:=B) (x:=h ^^^ k) n.1) of_) (X5 (o':=0 + ((orI c.2 i.2)).toNat * 1) t (ZS (v:=B) (x:=h ^^^ k) n.1) (ZF (v:=B) (x:=h ^^^ k) n.1) of_) of_) λw a I H=>Zf (Yn (Zw (s_1 (Zm H R R R λa H=>Zd H R λa H=>Zf (Zi ?_)))))
          exact ⟨_,ois b,H.s,I⟩
        intro ai b
        refine s_3 (Zp (Zp (Yv ?_)))
        obtain rfl:=ah _ (ois b)
        refine Zi ?_
        exact ⟨H.s,I⟩
       rintro a w ⟨H,I⟩
       refine Yn (Zw (s_1 (Zd H R λa H=>Zm H R R R λa H=>Zc H R λa H=>Zf (Zi ?_))))
       exact ⟨_,ois ag,H.s,I⟩
      intro ae f
      refine s_3 (Zp (Zp (Yv ?_)))
      obtain rfl:=ad _ (ois f)
      refine Zi ?_
      exact ⟨H.s,I⟩
     rintro a w ⟨H,I⟩
     refine Yn (Zw (s_1 (Zm H R R R λa H=>Zd H R λa H=>Zf (Zi ?_))))
     exact ⟨_,ois ac,H.s,I⟩
    intro Z e
    refine s_3 (Zp (Zp (Yv ?_)))
    obtain rfl:=Y _ (ois e)
    refine Zi ?_
    exact ⟨H.s,I⟩
   rintro a w ⟨H,I⟩
   refine Yn (Zw (s_1 (Zm H R R R λa H=>Zd H R λa H=>Zf (Zi ?_))))
   exact ⟨_,ois X,H.s,I⟩
  intro U m
  refine s_3 (Zp (Zp (Yv ?_)))
  obtain rfl:=T _ (ois m)
  refine Zi ?_
  have I:=I.f_1
  exact ⟨H.s,I⟩
 rintro a w ⟨H,I⟩
 refine Zw (Zb (Zd H R λa H=>Zc H R λa H=>Ze ?_))
 have I:=M.toRefF (x:=j5) I
 obtain rfl:=o_1 ak
 exact u_2 (ZT H R (Zy H R) ⟨_,R,ptr l 0,R,I.outF (He Yj),I.kept⟩)
def Ux (b : GCipher) : Option ((Ref Gengine)) :=
 (Wj b.Field b.Mix).bind λf=>(UR b.Box).bind λh=>(Vk b.Places).bind λc=>(U6 b.Field b.Mix).bind λd=>(U6 b.Field f.2).bind λe=>some (⟨(⟨b.Box,h,b.Places,c,d,e,b.Rounds⟩ : Gengine)⟩ : (Ref Gengine))
theorem B2 (k : World) (b : GCipher) (r : (Ref Gengine)) (hF : Ux b = some r) :
  Calls prog 199 [Value.agg (enc b).toArray].toArray k (e_r λv w'=>(∃ y : Value,v = y ∧ Fr k w' [own NoB r [y]] ∧ Kept (Old k) k w')):=by
 refine ce func199 ?_
 intro a H
 have I:=M.start k
 unfold Ux at hF
 refine Zb (ZY (cs:=cat [[vI b.Field],enc b.Box,enc b.Mix,enc b.Places,[vI b.Rounds]]) H I Za ld R R λA w a I H=>Zc H R λa H=>Ze (Zb (Zr H R (Bg) λa H=>ZO (v:=(vI b.Field)) H R ty2 R (at_0 I.ra0) λa H=>Zr H R (Hm) λa H=>Zu H R Ve R (at_2 I.ra0) (u_1 _) λa H=>?_)))
 obtain ⟨l,B,hF⟩:=p_1 hF
 refine c_k H I R (cbm func265) (Hy _ b.Field b.Mix l B) λw a I H=>?_
 refine Zd H R λa H=>ZM H Za ld R R λa H=>ZM H Za ld R R λa H=>Zx H I Ve λC w a I H=>Zc H R λa H=>s_w l.2 H I Za R R R Ve λw a I H=>Ze (s_2 ?_)
 obtain ⟨e,G,hF⟩:=p_1 hF
 obtain ⟨d,m,hF⟩:=p_1 hF
 obtain ⟨h,n,hF⟩:=p_1 hF
 obtain ⟨i,o,hF⟩:=p_1 hF
 refine Y0 (its:=[raw C (enc l.2),raw A (cat [[vI b.Field],enc b.Box,enc b.Mix,enc b.Places,[vI b.Rounds]])]) (mk:=([mkO 14 (λv=>own NoB (h : (Ref xt)) [v]),mkO 18 (λv=>own NoB (i : (Ref xt)) [v])] : Mk)) [13,14,15,16,17,18,19,20,21,22,23,24,25,26,27,28,29,30,31,32,33] YJ R R dd_ R H (λu=>M.qE (M.qE (M.q0 I.drew u) emO) emO) (qsP (λz=>Zo z.E Za ld R (HV) (kr0 R)) (qsP (λz=>ZB z.E Za ld R Wg R (at_1 (z.M.ra1)) (u_1 _) (kr0 R)) (qsP (λz=>Zo z.E Za ld R (HV) (kr0 R)) (qsP (λz=>ZB z.E Za ld R Wg R (at_1 (z.M.ra1)) (u_1 _) (kr0 R)) (qsP (λz=>ZW z.E Za ld R (cbm func266) (yK _ b.Box e G) (kc R)) (qsP (λz=>Zo z.E Za ld R (JC) (kr0 R)) (qsP (λz=>ZB z.E Za ld R BL R (at_3 (z.M.ra1)) (u_1 _) (kr0 R)) (qsP (λz=>Zo z.E Za ld R (JC) (kr0 R)) (qsP (λz=>ZB z.E Za ld R BL R (at_3 (z.M.ra1)) (u_1 _) (kr0 R)) (qsP (λz=>ZW z.E Za ld R (cbm func267) (AJ _ b.Places d m) (kc R)) (qsP (λz=>Zo z.E Za ld R (Bg) (kr0 R)) (qsP (λz=>ZL (v:=(vI b.Field)) z.E Za ld R ty2 R (at_0 (z.M.ra1)) (kr0 R)) (qsP (λz=>Zo z.E Za ld R (Hm) (kr0 R)) (qsP (λz=>ZB z.E Za ld R Ve R (at_2 (z.M.ra1)) (u_1 _) (kr0 R)) (q_t ?_ (qsP (λz=>Zo z.E Za ld R (Bg) (kr0 R)) (qsP (λz=>ZL (v:=(vI b.Field)) z.E Za ld R ty2 R (at_0 (z.M.ra1)) (kr0 R)) (qsP (λz=>ZB z.E Za ld R Ve R (z.M.ra0) (u_1 _) (kr0 R)) (q_t ?_ (qsP (λz=>Zo z.E Za ld R (jY) (kr0 R)) (qsP (λz=>ZL (v:=(vI b.Rounds)) z.E Za ld R ty2 R (at_4 (z.M.ra1)) (kr0 R)) qs0))))))))))))))))))))) ?_
 ·intro a w c D z
  have H:=z.E
  have hD : D 14 = false:=z.F
  have hM0:=z.M
  have I:=z.M
  refine Zn H R (cbm func268) (AE _ b.Field b.Mix h n) ?_
  rintro _ w a ⟨_,rfl,hFr,hK⟩ H
  have I:=hM0.add hK hFr
  exact ⟨_,_,R,H,M.qFill (mk1:=[]) (mk2:=[_]) (f:=(λv=>own NoB (h : (Ref xt)) [v])) I R hD,trivial⟩
 ·intro a w c D z
  have H:=z.E
  have hD : D 18 = false:=z.F
  have hM0:=z.M
  have I:=z.M
  refine Zn H R (cbm func268) (AE _ b.Field l.2 i o) ?_
  rintro _ w a ⟨_,rfl,hFr,hK⟩ H
  have I:=hM0.add hK hFr
  exact ⟨_,_,R,H,M.qFill (mk1:=[_]) (mk2:=[]) (f:=(λv=>own NoB (i : (Ref xt)) [v])) I R hD,trivial⟩
 intro a w c D H I hG j
 have q:=j 14 dd_
 have t:=j 18 dd_
 have I:=(I.sure (pre:=[_,_]) q).su3 t
 refine YQ (parts:=[(0,.tmp 14),(1,.tmp 17),(2,.tmp 19),(3,.tmp 22),(4,.tmp 27),(5,.tmp 31),(6,.tmp 33)]) (vs:=[(0,Value.agg (enc b.Box).toArray),(1,Value.agg (enc e).toArray),(2,Value.agg (enc b.Places).toArray),(3,Value.agg (enc d).toArray),(4,c 14),(5,c 18),(6,vI b.Rounds)]) (cs:=cat [enc b.Box,enc e,enc b.Places,enc d,[c 14],[c 18],[vI b.Rounds]]) H Za ld R R kQ pl280 (Yk (pre:=[]) (seg:=enc xe) (seg':=enc b.Box) (post:=[enc xe,enc xb,enc xb,xv,xv,[vI 0]]) R cl0 (u_1 _) (u_1 _) R (Yk (pre:=[enc b.Box]) (seg:=enc xe) (seg':=enc e) (post:=[enc xb,enc xb,xv,xv,[vI 0]]) R ck (u_1 _) (u_1 _) R (Yk (pre:=[enc b.Box,enc e]) (seg:=enc xb) (seg':=enc b.Places) (post:=[enc xb,xv,xv,[vI 0]]) R ck (u_1 _) (u_1 _) R (Yk (pre:=[enc b.Box,enc e,enc b.Places]) (seg:=enc xb) (seg':=enc d) (post:=[xv,xv,[vI 0]]) R ck (u_1 _) (u_1 _) R (Yk (pre:=[enc b.Box,enc e,enc b.Places,enc d]) (seg:=xv) (seg':=[c 14]) (post:=[xv,[vI 0]]) R ck R R (zG (I.rn2)) (Yk (pre:=[enc b.Box,enc e,enc b.Places,enc d,[c 14]]) (seg:=xv) (seg':=[c 18]) (post:=[[vI 0]]) R ck R R (zG (I.ro (pre:=[_,_,_]) noB)) (Yk (pre:=[enc b.Box,enc e,enc b.Places,enc d,[c 14],[c 18]]) (seg:=[vI 0]) (seg':=[vI b.Rounds]) (post:=[]) R ck R R R XL))))))) λa H=>ZY (cs:=cat [enc b.Box,enc e,enc b.Places,enc d,[c 14],[c 18],[vI b.Rounds]]) H I Za ld R R λx w a I H=>Zc H R λa H=>Zf (Zw ?_)
 have I:=I.pl4.pl4
 have I:=(((I.pack2 (it:=own NoB (⟨b.Box,e,b.Places,d,h,i,b.Rounds⟩ : Gengine) (cat [enc b.Box,enc e,enc b.Places,enc d,[c 14],[c 18],[vI b.Rounds]])) (Xl noB) (λK L q0 q1=>(Zir q0 q1 (by simp)))).pl1).pl1).pl1
 have I:=M.toRef I noB
 obtain rfl:=o_1 hF
 have I:=I.f_1
 exact u_2 (ZT H R (Zy H R) ⟨_,R,ptr x 0,R,I.outF (He Yj),I.kept⟩)
def Wb (f : (Ref Gengine)) (b : V16 × Int) : Option (Fl (V16 × Int) V16) :=
 if decide (b.2 < 16) then ((ZP b.1 b.2).bind λc=>(ZP b.1 (wr (b.2 - 1))).bind λd=>(ZP f.v.box (bI d)).bind λe=>(ZP b.1 b.2).bind λh=>some (Fl.nx ((b.1.setIfInBounds (b.2).toNat (c ^^^ e)),wr (b.2 + 1)))) else (some (Fl.ex b.1))
def Vj (h : (Ref Gengine)) (b : V16) (i : Int) : Option (V16) :=
 ((ZP b (0 : Int)).bind λc=>(ZP b (15 : Int)).bind λd=>(ZP h.v.box (bI (d ^^^ (Zz i)))).bind λe=>(ZP b (0 : Int)).bind λj=>some (b.setIfInBounds ((0 : Int)).toNat (c ^^^ e)) : Option (V16)).bind λk=>(ZK (Wb h) (k,1)).bind λf=>some f
theorem AM (n : World) (p0 : (Ref Gengine)) (j : Value) (k : Ro n p0 [j]) (C : V16) (p2 : Int) (r : V16) (hF : Vj p0 C p2 = some r) :
  Calls prog 274 [j,Value.agg (enc C).toArray,vI p2].toArray n (Rt n (Value.agg (enc r).toArray)):=by
 refine ce func274 ?_
 intro a H
 have I:=M.start n
 unfold Vj at hF
 refine Zb (ZY (cs:=enc C) H I Za ld R R λF w a I H=>Zx H I ZD λG w a I H=>Ze ?_)
 obtain ⟨j5,c,ag⟩:=p_1 hF
 refine ZG (λa w=>Env 41 a [(0,j),(4,ptr F 0),(6,ptr G 0)] ∧ M (Old n) n w [raw G xi,raw F (enc j5)]) ?_ ?_
 ·obtain ⟨d,K,c⟩:=bvx c
  obtain ⟨B,o,c⟩:=bvx c
  obtain ⟨aj,ak,L,N,O,T⟩:=TV k -- ^
  obtain ⟨ao,ap,rfl,aq,ar⟩:=Qj N -- ^
  obtain ⟨e,q,c⟩:=bvx c
  obtain ⟨au,l,c⟩:=bvx c
  refine Z7 [8,9,10,11,12,13,14,15,16,17,18,19,20,21] YJ R R dd_ R H I (qsP (λz=>ZI z.E Za ld R R u_3 ty5 K.1 (kr0 R)) (qsP (λz=>ZL (v:=(vB d)) z.E Za ld R ty5 R (At.vec (z.M.ra1) K.2) (kr0 R)) (q_m (λ_=>R) (qsP (λz=>ZI z.E Za ld R R u_3 ty5 o.1 (kr0 R)) (qsP (λz=>ZL (v:=(vB B)) z.E Za ld R ty5 R (At.vec (z.M.ra1) o.2) (kr0 R)) (q_m (λ_=>R) (qsP (λz=>Xq z.E Za ld R t_4 t_3 (kr0 R)) (qsP (v:=(vB (B ^^^ (Zz p2)))) (λz=>Ye z.E Za ld R R (VH B (Zz p2)) (kr0 R)) (qsP (λz=>Ya z.E Za ld (lk R L) (kr0 R)) (qsP (λz=>Zo z.E Za ld R (Zfp) (kr0 R)) (qsP (λz=>ZI z.E Za ld R R u_4 ty5 q.1 (kr0 R)) (qsP (λz=>ZL (v:=(vB e)) z.E Za ld R ty5 R (At.vec (at_0 (z.M.atk O T)) q.2) (kr0 R)) (qsP (v:=(vB (d ^^^ e))) (λz=>Ye z.E Za ld R R (VH d e) (kr0 R)) (qsP (λz=>ZI z.E Za ld R R u_3 ty5 l.1 (kr0 R)) qs0)))))))))))))) ?_
  ·intro a w u H I
   have I:=I.pl1
   refine Zk (seg:=[vB (d ^^^ e)]) (cs':=enc (C.setIfInBounds ((0 : Int)).toNat (d ^^^ e))) H I Za R R R ty5 R (ZS (v:=C) (x:=d ^^^ e) l.1) (t_1 (d ^^^ e : UInt8)) (ZF (v:=C) (x:=d ^^^ e) l.1) λw a I H=>Zf ?_
   obtain rfl:=o_1 c
   refine Zi ?_
   have I:=I.pl1
   exact ⟨H.s,I⟩
 rintro a w ⟨H,I⟩
 refine s_2 (Zb (Zc H R λa H=>Ze ?_))
 obtain ⟨U,W,X⟩:=p_1 ag
 refine ZX (λa w=>Env 41 a [(4,ptr F 0),(6,ptr G 0)] ∧ M (Old n) n w [raw G xi,raw F (enc U)]) ?_ ?_
 ·refine p_2 ?_
  refine ZN (λ(f : V16 × Int) a w=>Env 41 a [(0,j),(4,ptr F 0),(6,ptr G 0),(7,vI f.2)] ∧ M (Old n) n w [raw G xi,raw F (enc f.1)]) W ⟨H.s,I⟩ ?_
  rintro f a w ⟨H,I⟩ av b Y
  unfold Wb at b
  refine s_2 (Zb (Zd H R λa H=>Zm H R R R λa H=>Ze ?_))
  refine c_if H R b ?_ ?_
  ·intro Z b
   refine t_2 (Zw (s_2 (p_2 ?_)))
   obtain ⟨h,t,b⟩:=bvx b
   obtain ⟨ah,y,b⟩:=bvx b
   obtain ⟨al,am,aa,ab,ac,ad⟩:=TV k -- ^
   obtain ⟨aw,ax,rfl,ay,az⟩:=Qj ab -- ^
   obtain ⟨i,A,b⟩:=bvx b
   obtain ⟨a0,m,b⟩:=bvx b
   refine Z7 [26,27,28,29,30,31,32,33,34,35,36,37,38,39] YJ R R dd_ R H I (q_m (λ_=>R) (qsP (λz=>ZI z.E Za ld R R u_3 ty5 t.1 (kr0 R)) (qsP (λz=>ZL (v:=(vB h)) z.E Za ld R ty5 R (At.vec (z.M.ra1) t.2) (kr0 R)) (q_m (λ_=>R) (q_m (λ_=>R) (qsP (v:=(vI (wr (f.2 - 1)))) (λz=>Ye z.E Za ld R R R (kr0 R)) (qsP (λz=>ZI z.E Za ld R R u_3 ty5 y.1 (kr0 R)) (qsP (λz=>ZL (v:=(vB ah)) z.E Za ld R ty5 R (At.vec (z.M.ra1) y.2) (kr0 R)) (qsP (λz=>Ya z.E Za ld (lk R aa) (kr0 R)) (qsP (λz=>Zo z.E Za ld R (Zfp) (kr0 R)) (qsP (λz=>ZI z.E Za ld R R u_4 ty5 A.1 (kr0 R)) (qsP (λz=>ZL (v:=(vB i)) z.E Za ld R ty5 R (At.vec (at_0 (z.M.atk ac ad)) A.2) (kr0 R)) (qsP (v:=(vB (h ^^^ i))) (λz=>Ye z.E Za ld R R (VH h i) (kr0 R)) (qsP (λz=>ZI z.E Za ld R R u_3 ty5 m.1 (kr0 R)) qs0)))))))))))))) ?_
   ·intro a w u H I
    have I:=I.pl1
    refine Zk (seg:=[vB (h ^^^ i)]) (cs':=enc (f.1.setIfInBounds (f.2).toNat (h ^^^ i))) H I Za R R R ty5 R (ZS (v:=f.1) (x:=h ^^^ i) m.1) (t_1 (h ^^^ i : UInt8)) (ZF (v:=f.1) (x:=h ^^^ i) m.1) λw a I H=>Zf (Yn (Zw (s_1 (Zd H R λa H=>Zm H R R R λa H=>Zc H R λa H=>Zf (Zi ?_)))))
    have I:=I.pl1
    exact ⟨_,ois b,H.s,I⟩
  intro Z b
  refine s_3 (Zp (Zp (Yv ?_)))
  obtain rfl:=Y _ (ois b)
  refine Zi ?_
  exact ⟨H.s,I⟩
 rintro a w ⟨H,I⟩
 refine Zw (Zb (Zu H R ZD R I.ra1 (u_1 _) λa H=>s_w U H I Za R R R ZD λw a I H=>Ze ?_))
 obtain rfl:=o_1 X
 have ae : Z8 prog _ _ (.cell 6 53) _:=ZH H R ZD R I.ra0 (u_1 _) R
 exact u_2 (ZT H R ae ⟨_,R,R,I.kept⟩)
def Vb (d : (Ref Gengine)) (e : Int) (b : V16 × List V16 × Int) : Option (Fl (V16 × List V16 × Int) (List V16)) :=
 if decide (b.2.2 ≤ e) then ((Vj d b.1 b.2.2).bind λc=>(app 16 b.2.1 ([c] : List V16)).bind λf=>some (Fl.nx (c,b.2.1 ++ ([c] : List V16),wr (b.2.2 + 1)))) else (some (Fl.ex b.2.1))
def WA (c : (Ref Gengine)) (b : V16) (d : Int) : Option ((List V16)) :=
 (ZK (Vb c d) (b,([b] : List V16),1)).bind λe=>some e
theorem H8 (e : World) (n : (Ref Gengine)) (c : Value) (i : Ro e n [c]) (j : V16) (o : Int) (r : List V16) (hF : WA n j o = some r) :
  Calls prog 204 [c,Value.agg (enc j).toArray,vI o].toArray e (e_r λv w'=>(∃ A : Value,v = A ∧ Fr e w' [osl NoB r A] ∧ Kept (Old e) e w')):=by
 refine ce func204 ?_
 intro a H
 have I:=M.start e
 unfold WA at hF
 refine Zb (ZY (cs:=enc j) H I Za ld R R λB w a I H=>Zc H R λa H=>Ze (Zb (Zu H R ZD R I.ra0 (u_1 _) λa H=>ZR (xs:=[.tmp 9]) (l:=([j] : List V16)) (vs:=[Value.agg (enc j).toArray]) H I Za ld R R o_3 ZD R dd_ R λC w a I H=>Zc H R λa H=>Ze (s_2 (Zb (Zc H R λa H=>Ze ?_))))))
 obtain ⟨E,q,t⟩:=p_1 hF
 refine ZX (λa w=>∃ u8 : Value,Env 25 a [(7,u8)] ∧ M (Old e) e w [osl NoB E u8]) ?_ ?_
 ·refine p_2 ?_
  have I:=I.pl1
  refine ZN (λ(d : V16 × List V16 × Int) a w=>∃ f : Value,Env 25 a [(0,c),(2,vI o),(4,ptr B 0),(7,f),(8,vI d.2.2)] ∧ M (Old e) e w [raw B (enc d.1),osl NoB d.2.1 f]) q ⟨C,H.s,I⟩ ?_
  rintro d a w ⟨f,H,I⟩ F b k
  unfold Vb at b
  refine s_2 (Zb (Zd H R λa H=>Zd H R λa H=>Zm H R R R λa H=>Ze ?_))
  refine c_if H R b ?_ ?_
  ·intro m b
   refine t_2 (Zw (s_2 (p_2 (Zb (Zd H R λa H=>Zu H R ZD R I.ra0 (u_1 _) λa H=>Zd H R λa H=>?_)))))
   obtain ⟨h,u,b⟩:=p_1 b
   refine c_k H I R (cbm func274) (AM _ n c (I.rdo i) d.1 d.2.2 h u) λw a I H=>?_
   refine s_w h H I Za R R R ZD λw a I H=>Ze (s_1 (Zd H R λa H=>Zu H R ZD R I.ra0 (u_1 _) λa H=>ZR (xs:=[.tmp 21]) (l:=([h] : List V16)) (vs:=[Value.agg (enc h).toArray]) H I Za ld R R o_3 ZD R dd_ R λG w a I H=>?_))
   obtain ⟨K,x,b⟩:=p_1 b
   obtain ⟨y,rfl⟩:=Yc x
   have I:=I.pl2
   refine Yg H I Za ld R R (I.sl1) o_3 ZD R dd_ y λz w a I H=>Zc H R λa H=>Zf (Yn (Zw (s_1 (Zd H R λa H=>Zm H R R R λa H=>Zc H R λa H=>Zf (Zi ?_)))))
   have I:=I.pl2.f_2
   exact ⟨_,ois b,z,H.s,I⟩
  intro m b
  refine s_3 (Zp (Zp (Yv ?_)))
  obtain rfl:=k _ (ois b)
  refine Zi ?_
  have I:=I.pl1.f_1
  exact ⟨f,H.s,I⟩
 rintro a w ⟨u8,H,I⟩
 refine Zw (Zb (Zd H R λa H=>Zc H R λa H=>Ze ?_))
 obtain rfl:=o_1 t
 exact u_2 (ZT H R (Zy H R) ⟨_,R,u8,R,I.outF (Z1 Yj),I.kept⟩)
def Tf (c : GCipher) (e : V16) : Option (Gkeyed) :=
 (Ux c).bind λd=>(WA d e c.Rounds).bind λb=>some (⟨d,b⟩ : Gkeyed)
theorem Az (e : World) (b : GCipher) (h : V16) (r : Gkeyed) (hF : Tf b h = some r) :
  Calls prog 111 [Value.agg (enc b).toArray,Value.agg (enc h).toArray].toArray e (e_r λv w'=>(∃ k l : Value,v = (Value.agg (cat [[k],[l]]).toArray) ∧ Fr e w' [own NoB r.engine [k],osl NoB r.keys l] ∧ Kept (Old e) e w')):=by
 refine ce func111 ?_
 intro a H
 have I:=M.start e
 unfold Tf at hF
 refine Zb (ZY (cs:=cat [[vI b.Field],enc b.Box,enc b.Mix,enc b.Places,[vI b.Rounds]]) H I Za ld R R λo w a I H=>ZY (cs:=enc h) H I Za ld R R λq w a I H=>Zx H I kZ λt w a I H=>Ze (Zb (Zu H R Wk R I.ra2 cq λa H=>?_)))
 obtain ⟨m,n,hF⟩:=p_1 hF
 refine Zn H R (cbm func199) (B2 _ b m n) ?_
 rintro d w a ⟨_,rfl,hFr,hK⟩ H
 have I:=I.add hK hFr
 refine Zc H R λa H=>Ze (Zb (Zd H R λa H=>Zd H R λa H=>Zu H R ZD R I.ra2 (u_1 _) λa H=>Zr H R (jY) λa H=>ZO (v:=(vI b.Rounds)) H R ty2 R (at_4 I.ra3) λa H=>?_))
 obtain ⟨i,j,hF⟩:=p_1 hF
 refine Zn H R (cbm func204) (H8 _ m d (I.ro (pre:=[]) noB) h b.Rounds i j) ?_
 rintro c w a ⟨_,rfl,hFr,hK⟩ H
 have I:=I.add hK hFr
 refine YQ (parts:=[(0,.tmp 8),(1,.tmp 13)]) (vs:=[(0,d),(1,c)]) (cs:=cat [[d],[c]]) H Za ld R R kZ pl154 (Yk (pre:=[]) (seg:=xv) (seg':=[d]) (post:=[[xf]]) R cl0 R R (zG (I.ro (pre:=[_]) noB)) (Yk (pre:=[[d]]) (seg:=[xf]) (seg':=[c]) (post:=[]) R ck R R (Ym (I.sl0)) XL)) λa H=>?_
 have I:=I.pl2
 refine Zk (seg:=cat [[d],[c]]) (cs':=cat [[d],[c]]) H I Za R R R kZ cq (q_1 cq cq) (Z0 (cc1 (o_4 (I.rn2)) (cc1 (o_4 (I.sl1)) cc0))) (q_2 cq cq) λw a I H=>Ze ?_
 obtain rfl:=o_1 hF
 have f : Z8 prog _ _ (.cell 4 154) _:=ZH H R kZ R I.ra0 cq R
 have I:=I.pl1.pl2.f_2
 exact u_2 (ZT H R f ⟨_,R,d,c,R,I.outF (He (Z1 Yj)),I.kept⟩)
def Z4 (b : List UInt8) : Option ((List UInt8)) :=
 (app 1 ([] : List UInt8) b).bind λc=>some (([] : List UInt8) ++ b)
theorem Y1 (d : World) (i : List UInt8) (c : Value) (b : Ro d i [c]) (r : List UInt8) (hF : Z4 i = some r) :
  Calls prog 91 [c].toArray d (e_r λv w'=>(∃ j : Value,v = j ∧ Fr d w' [osl NoB r j] ∧ Kept (Old d) d w')):=by
 refine ce func91 ?_
 intro a H
 have I:=M.start d
 unfold Z4 at hF
 refine Zb (Zc H R λa H=>Ze (s_2 (Zb (Zd H R λa H=>Zfa H Za ld R R o_2 (I.rd b) λk a f H=>Ze ?_))))
 refine Zq H R ?_ ?_
 ·intro e
  have m:=f e
  have hF : some ([]) = some r:=by rw [m] at hF; simpa [app] using hF
  refine Zb (Zc H R λa H=>Ze ?_)
  have I:=M.nilS (α:=UInt8) NoB noB I
  obtain rfl:=o_1 hF
  exact u_2 (ZA (ZT H R (Zy H R) ⟨_,R,xf,R,I.outF (Z1 Yj),I.kept⟩))
 intro e
 refine t_2 (Zw (Zb (ZR (xs:=[]) (l:=xz) (vs:=[]) H I Za ld R R o_2 ty5 R dd_ R λq w a I H=>Zd H R λa H=>?_)))
 obtain ⟨t,n,hF⟩:=p_1 hF
 have h:=(Yc n).1
 refine Yg H I Za ld R R (I.rd b) o_2 ty5 R dd_ h λo w a I H=>Zc H R λa H=>Ze ?_
 obtain rfl:=o_1 hF
 exact u_2 (ZT H R (Zy H R) ⟨_,R,o,R,I.outF (Z1 Yj),I.kept⟩)
def H2 (b : List UInt8) : Option (Fl (List UInt8) (List UInt8)) :=
 if (Int.tmod (b.length : Int) 16) != 0 then ((app 1 b ([0] : List UInt8)).bind λc=>some (Fl.nx (b ++ ([0] : List UInt8)))) else (some (Fl.ex b))
def QZ (d : List UInt8) : Option ((List UInt8)) :=
 (Z4 d).bind λc=>(app 1 c ([1] : List UInt8)).bind λe=>(ZK (H2) (c ++ ([1] : List UInt8))).bind λb=>some b
theorem zX (d : World) (o : List UInt8) (c : Value) (h : Ro d o [c]) (r : List UInt8) (hF : QZ o = some r) :
  Calls prog 113 [c].toArray d (e_r λv w'=>(∃ z : Value,v = z ∧ Fr d w' [osl NoB r z] ∧ Kept (Old d) d w')):=by
 refine ce func113 ?_
 intro a H
 have I:=M.start d
 unfold QZ at hF
 refine Zb (Zc H R λa H=>Ze (Zb (Zd H R λa H=>?_)))
 obtain ⟨A,B,hF⟩:=p_1 hF
 refine Zn H R Zhj (Y1 _ o c (I.rdo h) A B) ?_
 rintro K w a ⟨_,rfl,hFr,hK⟩ H
 have I:=I.add hK hFr
 refine ZR (xs:=[.const (vB 1)]) (l:=xA) (vs:=[vB 1]) H I Za ld R R o_2 ty5 R dd_ R λL w a I H=>?_
 obtain ⟨N,C,hF⟩:=p_1 hF
 obtain ⟨q,rfl⟩:=Yc C
 have I:=I.pl1
 refine Yg H I Za ld R R (I.sl1) o_2 ty5 R dd_ q λu8 w a I H=>Zc H R λa H=>Ze ?_
 obtain ⟨t,i,j⟩:=p_1 hF
 refine ZG (λa w=>∃ e : Value,Env 16 a [(3,e)] ∧ M (Old d) d w [osl NoB t e]) ?_ ?_
 ·refine p_2 ?_
  have I:=I.f_1
  refine ZN (λ(k : List UInt8) a w=>∃ f : Value,Env 16 a [(3,f)] ∧ M (Old d) d w [osl NoB k f]) i ⟨u8,H.s,I⟩ ?_
  rintro k a w ⟨f,H,I⟩ E b m
  unfold H2 at b
  refine s_2 (Zb (Zd H R λa H=>Yp H R o_2 (I.sl0) λa H=>Zm H R R (J2 _ _ dd_) λa H=>Zm H R R R λa H=>Ze ?_))
  refine c_if H R b ?_ ?_
  ·intro n b
   refine t_2 (Zw (p_2 (s_1 (Zd H R λa H=>ZR (xs:=[.const (vB 0)]) (l:=([0] : List UInt8)) (vs:=[vB 0]) H I Za ld R R o_2 ty5 R dd_ R λF w a I H=>?_))))
   obtain ⟨G,u,b⟩:=p_1 b
   obtain ⟨x,rfl⟩:=Yc u
   have I:=I.pl1
   refine Yg H I Za ld R R (I.sl1) o_2 ty5 R dd_ x λy w a I H=>Zc H R λa H=>Zf (Yn (Zi ?_))
   have I:=I.f_1
   exact ⟨_,ois b,y,H.s,I⟩
  intro n b
  refine s_3 (Zp (Zp (Yv ?_)))
  obtain rfl:=m _ (ois b)
  refine Zi ?_
  exact ⟨f,H.s,I⟩
 rintro a w ⟨e,H,I⟩
 refine Zb (Zd H R λa H=>Zc H R λa H=>Ze ?_)
 obtain rfl:=o_1 j
 exact u_2 (ZT H R (Zy H R) ⟨_,R,e,R,I.outF (Z1 Yj),I.kept⟩)
def UE (e : List UInt8) (b : List V16 × Int) : Option (Fl (List V16 × Int) (List V16)) :=
 if decide (b.2 < (e.length : Int)) then ((slc e b.2 (wr (b.2 + 16))).bind λd=>(JS 16 d).bind λc=>(app 16 b.1 ([c] : List V16)).bind λf=>some (Fl.nx ((b.1 ++ ([c] : List V16)),wr (b.2 + 16)))) else (some (Fl.ex b.1))
def Ub (b : List UInt8) : Option ((List V16)) :=
 (ZK (UE b) (([] : List V16),0)).bind λc=>some c
theorem Hl (e : World) (B : List UInt8) (d : Value) (c : Ro e B [d]) (r : List V16) (hF : Ub B = some r) :
  Calls prog 177 [d].toArray e (e_r λv w'=>(∃ C : Value,v = C ∧ Fr e w' [osl NoB r C] ∧ Kept (Old e) e w')):=by
 refine ce func177 ?_
 intro a H
 have I:=M.start e
 unfold Ub at hF
 refine Zb (Zc H R λa H=>Ze (Zb (ZR (xs:=[]) (l:=([] : List V16)) (vs:=[]) H I Za ld R R o_3 ZD R dd_ R λE w a I H=>Zc H R λa H=>Ze (s_2 (Zb (Zc H R λa H=>Ze ?_))))))
 obtain ⟨F,t,u⟩:=p_1 hF
 refine ZX (λa w=>∃ o : Value,Env 23 a [(3,o)] ∧ M (Old e) e w [osl NoB F o]) ?_ ?_
 ·refine p_2 ?_
  refine ZN (λ(f : List V16 × Int) a w=>∃ q : Value,Env 23 a [(0,d),(3,q),(4,vI f.2)] ∧ M (Old e) e w [osl NoB f.1 q]) t ⟨E,H.s,I⟩ ?_
  rintro f a w ⟨q,H,I⟩ G b h
  unfold UE at b
  refine s_2 (Zb (Zd H R λa H=>Zd H R λa H=>Yp H R o_2 (I.rd c) λa H=>Zm H R R R λa H=>Ze ?_))
  refine c_if H R b ?_ ?_
  ·intro i b
   refine t_2 (Zw (s_2 (p_2 (s_1 (Zd H R λa H=>Zd H R λa H=>Zd H R λa H=>Zd H R λa H=>Zm H R R R λa H=>?_)))))
   obtain ⟨x,j,b⟩:=p_1 b
   refine Uk H Za ld R R R R R o_2 ty5 (I.rd c) j λa H=>?_
   have k : Rep.sat (Old e) e x [ZV d (f.2).toNat ((wr (f.2 + 16))).toNat 1] []:=Yo c j -- ^
   obtain ⟨m,n,b⟩:=p_1 b
   refine jo H Za ld R u_3 (I.rd k) (J0 n).1 dd_ λa H=>Zu H R ZD R (Za9 (I.rd k) n dd_) (u_1 _) λa H=>ZR (xs:=[.tmp 19]) (l:=([m] : List V16)) (vs:=[Value.agg (enc m).toArray]) H I Za ld R R o_3 ZD R dd_ R λK w a I H=>?_
   obtain ⟨L,y,b⟩:=p_1 b
   obtain ⟨z,rfl⟩:=Yc y
   have I:=I.pl1
   refine Yg H I Za ld R R (I.sl1) o_3 ZD R dd_ z λA w a I H=>Zc H R λa H=>Zf (Yn (Zw (s_1 (Zd H R λa H=>Zm H R R R λa H=>Zc H R λa H=>Zf (Zi ?_)))))
   have I:=I.f_1
   exact ⟨_,ois b,A,H.s,I⟩
  intro i b
  refine s_3 (Zp (Zp (Yv ?_)))
  obtain rfl:=h _ (ois b)
  refine Zi ?_
  exact ⟨q,H.s,I⟩
 rintro a w ⟨o,H,I⟩
 refine Zw (Zb (Zd H R λa H=>Zc H R λa H=>Ze ?_))
 obtain rfl:=o_1 u
 exact u_2 (ZT H R (Zy H R) ⟨_,R,o,R,I.outF (Z1 Yj),I.kept⟩)
def V7 (e : V16) (b : V16 × Int) : Option (Fl (V16 × Int) V16) :=
 if decide (b.2 < 16) then ((ZP b.1 b.2).bind λc=>(ZP e b.2).bind λd=>(ZP b.1 b.2).bind λf=>some (Fl.nx ((b.1.setIfInBounds (b.2).toNat (c ^^^ d)),wr (b.2 + 1)))) else (some (Fl.ex b.1))
def Yz (b : V16) (c : V16) : Option (V16) :=
 (ZK (V7 c) (b,0)).bind λd=>some d
theorem XT (j : World) (t : V16) (n : V16) (r : V16) (hF : Yz t n = some r) :
  Calls prog 206 [Value.agg (enc t).toArray,Value.agg (enc n).toArray].toArray j (Rt j (Value.agg (enc r).toArray)):=by
 refine ce func206 ?_
 intro a H
 have I:=M.start j
 unfold Yz at hF
 refine Zb (ZY (cs:=enc t) H I Za ld R R λo w a I H=>ZY (cs:=enc n) H I Za ld R R λB w a I H=>Zx H I ZD λq w a I H=>Ze (s_2 (Zb (Zd H R λa H=>Ze ?_))))
 obtain ⟨C,y,A⟩:=p_1 hF
 refine ZX (λa w=>Env 19 a [(2,ptr o 0),(4,ptr q 0)] ∧ M (Old j) j w [raw q xi,raw o (enc C)]) ?_ ?_
 ·refine p_2 ?_
  refine ZN (λ(e : V16 × Int) a w=>Env 19 a [(2,ptr o 0),(3,ptr B 0),(4,ptr q 0),(6,vI e.2)] ∧ M (Old j) j w [raw q xi,raw B (enc n),raw o (enc e.1)]) y ⟨H.s,I⟩ ?_
  rintro e a w ⟨H,I⟩ F b k
  unfold V7 at b
  refine Zb (Zm H R R R λa H=>Ze (s_2 ?_))
  refine c_if H R b ?_ ?_
  ·intro l b
   refine t_2 (Zw (s_2 (p_2 (Zb (Zd H R λa H=>Zc H R λa H=>Ze ?_)))))
   obtain ⟨c,h,b⟩:=bvx b
   obtain ⟨d,i,b⟩:=bvx b
   obtain ⟨G,f,b⟩:=bvx b
   refine Z7 [9,10,11,12,13,14,15,16] YJ R R dd_ R H I (q_m (λ_=>R) (qsP (λz=>ZI z.E Za ld R R u_3 ty5 h.1 (kr0 R)) (qsP (λz=>ZL (v:=(vB c)) z.E Za ld R ty5 R (At.vec (z.M.ra2) h.2) (kr0 R)) (q_m (λ_=>R) (qsP (λz=>ZI z.E Za ld R R u_3 ty5 i.1 (kr0 R)) (qsP (λz=>ZL (v:=(vB d)) z.E Za ld R ty5 R (At.vec (z.M.ra1) i.2) (kr0 R)) (qsP (v:=(vB (c ^^^ d))) (λz=>Ye z.E Za ld R R (VH c d) (kr0 R)) (qsP (λz=>ZI z.E Za ld R R u_3 ty5 f.1 (kr0 R)) qs0)))))))) ?_
   ·intro a w u H I
    have I:=I.pl2
    refine Zk (seg:=[vB (c ^^^ d)]) (cs':=enc (e.1.setIfInBounds (e.2).toNat (c ^^^ d))) H I Za R R R ty5 R (ZS (v:=e.1) (x:=c ^^^ d) f.1) (t_1 (c ^^^ d : UInt8)) (ZF (v:=e.1) (x:=c ^^^ d) f.1) λw a I H=>Zf (Yn (Zw (s_1 (Zm H R R R λa H=>Zd H R λa H=>Zf (Zi ?_)))))
    have I:=I.pl2.pl2
    exact ⟨_,ois b,H.s,I⟩
  intro l b
  refine s_3 (Zp (Zp (Yv ?_)))
  obtain rfl:=k _ (ois b)
  refine Zi ?_
  have I:=I.pl2.pl1.f_2
  exact ⟨H.s,I⟩
 rintro a w ⟨H,I⟩
 refine Zw (Zb (Zu H R ZD R I.ra1 (u_1 _) λa H=>s_w C H I Za R R R ZD λw a I H=>Ze ?_))
 obtain rfl:=o_1 A
 have m : Z8 prog _ _ (.cell 4 53) _:=ZH H R ZD R I.ra0 (u_1 _) R
 exact u_2 (ZT H R m ⟨_,R,R,I.kept⟩)
def Xe (e : V16) (f : V16) (b : V16 × Int) : Option (Fl (V16 × Int) V16) :=
 if decide (b.2 < 16) then ((ZP e b.2).bind λc=>(ZP f (bI c)).bind λd=>(ZP b.1 b.2).bind λh=>some (Fl.nx ((b.1.setIfInBounds (b.2).toNat d),wr (b.2 + 1)))) else (some (Fl.ex b.1))
def X3 (b : V16) (c : V16) : Option (V16) :=
 (ZK (Xe b c) ((Vector.replicate 16 (0 : UInt8)),0)).bind λd=>some d
theorem H3 (h : World) (o : V16) (q : V16) (r : V16) (hF : X3 o q = some r) :
  Calls prog 318 [Value.agg (enc o).toArray,Value.agg (enc q).toArray].toArray h (Rt h (Value.agg (enc r).toArray)):=by
 refine ce func318 ?_
 intro a H
 have I:=M.start h
 unfold X3 at hF
 refine Zb (ZY (cs:=enc o) H I Za ld R R λE w a I H=>ZY (cs:=enc q) H I Za ld R R λy w a I H=>Zx H I ZD λt w a I H=>Ze (Zb (Xi (parts:=[]) (vs:=[]) (cs:=enc xb) H Za ld R R ZD R ty5 YK λa H=>Zx H I ZD λu w a I H=>s_w xb H I Za R R R ZD λw a I H=>Ze (s_2 (Zb (Zu H R BL R I.ra3 (u_1 _) λa H=>Zd H R λa H=>Ze ?_))))))
 obtain ⟨z,i,j⟩:=p_1 hF
 refine ZX (λa w=>Env 21 a [(4,ptr t 0),(5,ptr u 0)] ∧ M (Old h) h w [raw u (enc z),raw t xi]) ?_ ?_
 ·refine p_2 ?_
  have I:=I.pl2.pl2.pl2.f_3
  refine ZN (λ(c : V16 × Int) a w=>Env 21 a [(3,ptr y 0),(4,ptr t 0),(5,ptr u 0),(9,Value.agg (enc o).toArray),(10,vI c.2)] ∧ M (Old h) h w [raw u (enc c.1),raw t xi,raw y (enc q)]) i ⟨H.s,I⟩ ?_
  rintro c a w ⟨H,I⟩ A b k
  unfold Xe at b
  refine Zb (Zm H R R R λa H=>Ze (s_2 ?_))
  refine c_if H R b ?_ ?_
  ·intro l b
   refine t_2 (Zw (s_2 (p_2 (Zb (Zd H R λa H=>?_)))))
   obtain ⟨B,m,b⟩:=bvx b
   refine Hg H Za ld R R u_5 ty5 R R m R λa H=>Zc H R λa H=>Zc H R λa H=>Ze (s_1 (Zd H R λa H=>Zd H R λa H=>?_))
   obtain ⟨d,f,b⟩:=bvx b
   refine ZC H R R u_3 ty5 f.1 λa H=>ZO (v:=(vB d)) H R ty5 R (At.vec I.ra2 f.2) λa H=>?_
   obtain ⟨C,e,b⟩:=bvx b
   refine ZC H R R u_3 ty5 e.1 λa H=>Zk (seg:=[vB d]) (cs':=enc (c.1.setIfInBounds (c.2).toNat d)) H I Za R R R ty5 R (ZS (v:=c.1) (x:=d) e.1) (t_1 (d : UInt8)) (ZF (v:=c.1) (x:=d) e.1) λw a I H=>Zf (Yn (Zw (s_1 (Zm H R R R λa H=>Zd H R λa H=>Zf (Zi ?_)))))
   exact ⟨_,ois b,H.s,I⟩
  intro l b
  refine s_3 (Zp (Zp (Yv ?_)))
  obtain rfl:=k _ (ois b)
  refine Zi ?_
  have I:=I.pl1.pl1.f_2
  exact ⟨H.s,I⟩
 rintro a w ⟨H,I⟩
 refine Zw (Zb (Zu H R ZD R I.ra0 (u_1 _) λa H=>?_))
 have I:=I.pl1
 refine s_w z H I Za R R R ZD λw a I H=>Ze ?_
 obtain rfl:=o_1 j
 have n : Z8 prog _ _ (.cell 4 53) _:=ZH H R ZD R I.ra0 (u_1 _) R
 exact u_2 (ZT H R n ⟨_,R,R,I.kept⟩)
def V9 (c : (Ref (Vector (Vector V256 4) 4))) (u : V16 × Int) (d : UInt8 × UInt8 × UInt8 × UInt8) (b : V16 × Int) : Option (Fl (V16 × Int) V16) :=
 if decide (b.2 < 4) then ((ZP c.v b.2).bind λe=>(ZP e (0 : Int)).bind λf=>(ZP f (bI d.1)).bind λh=>(ZP c.v b.2).bind λi=>(ZP i (1 : Int)).bind λj=>(ZP j (bI d.2.1)).bind λk=>(ZP c.v b.2).bind λl=>(ZP l (2 : Int)).bind λm=>(ZP m (bI d.2.2.1)).bind λn=>(ZP c.v b.2).bind λo=>(ZP o (3 : Int)).bind λq=>(ZP q (bI d.2.2.2)).bind λt=>(ZP b.1 (wr (u.2 + b.2))).bind λx=>some (Fl.nx ((b.1.setIfInBounds ((wr (u.2 + b.2))).toNat (((h ^^^ k) ^^^ n) ^^^ t)),wr (b.2 + 1)))) else (some (Fl.ex b.1))
def V8 (i : (Ref (Vector (Vector V256 4) 4))) (b : V16 × Int) : Option (Fl (V16 × Int) V16) :=
 if decide (b.2 < (b.1.toList.length : Int)) then (((ZP b.1 b.2).bind λc=>(ZP b.1 (wr (b.2 + 1))).bind λd=>(ZP b.1 (wr (b.2 + 2))).bind λe=>(ZP b.1 (wr (b.2 + 3))).bind λf=>some (c,d,e,f) : Option (UInt8 × UInt8 × UInt8 × UInt8)).bind λj=>(ZK (V9 i b j) (b.1,0)).bind λh=>some (Fl.nx (h,wr (b.2 + 4)))) else (some (Fl.ex b.1))
def UF (b : (Ref (Vector (Vector V256 4) 4))) (c : V16) : Option (V16) :=
 (ZK (V8 b) (c,0)).bind λd=>some d
theorem B4 (St : Nat → Prop) (W w0 : World) (its : List Item) (p0 : (Ref xt)) (i : Value) (C : Rep.sat St W p0 [i] []) (f : Nat) (p1 : V16) (I : M St W w0 (raw f (enc p1) :: its)) (r : V16) (hF : UF p0 p1 = some r) :
  Calls prog 319 [i,Value.slice (some ⟨f,0,none⟩) 16 16].toArray w0 (e_r λv w'=>(v = (Value.tuple [].toArray) ∧ M St W w' (raw f (enc r) :: its))):=by
 refine ce func319 ?_
 intro a H
 unfold UF at hF
 refine Zb (Zc H R λa H=>Ze ?_)
 obtain ⟨j1,bh,bi⟩:=p_1 hF
 refine ZX (λa w=>Env 79 a [(1,Value.slice (some ⟨f,0,none⟩) 16 16)] ∧ M St W w (raw f (enc j1) :: its)) ?_ ?_
 ·refine p_2 ?_
  refine ZN (λ(k : V16 × Int) a w=>Env 79 a [(0,i),(1,Value.slice (some ⟨f,0,none⟩) 16 16),(4,vI k.2)] ∧ M St W w (raw f (enc k.1) :: its)) bh ⟨H.s,I⟩ ?_
  rintro k a w ⟨H,I⟩ o7 E bj
  unfold V8 at E
  refine s_2 (Zb (Zd H R λa H=>Zd H R λa H=>Yp H R o_2 (Zpu I.ra0) λa H=>Zm H R R R λa H=>Ze ?_))
  refine c_if H R E ?_ ?_
  ·intro bk E
   refine t_2 (Zw (s_2 (p_2 ?_)))
   obtain ⟨t,o,av⟩:=p_1 E
   refine ZG (λa w=>Env 79 a [(0,i),(1,Value.slice (some ⟨f,0,none⟩) 16 16),(4,vI k.2),(5,vB t.1),(6,vB t.2.1),(7,vB t.2.2.1),(8,vB t.2.2.2)] ∧ M St W w (raw f (enc k.1) :: its)) ?_ ?_
   ·obtain ⟨F,O,o⟩:=bvx o
    obtain ⟨G,T,o⟩:=bvx o
    obtain ⟨K,U,o⟩:=bvx o
    obtain ⟨L,X,o⟩:=bvx o
    refine Zom (n:=79) (hd:=[_,_,_,_,_,_,_,_,_,_,_,_,_,_,_,_,_,_,_,_,_,_,_]) (tl:=[]) YJ R R [16,17,18,19,20,21,22,23,24,25,26,27,28,29,30,31,32,33,34,5,6,7,8] dd_ (λw=>M St W w (raw f (enc k.1) :: its)) (λj=>([λv _=>v = (Value.slice (some ⟨f,0,none⟩) 16 16),λv _=>v = (vI k.2),λv _=>v = (ptr f (0 + (k.2).toNat * 1)),λv _=>v = (vB F),λv _=>v = (Value.slice (some ⟨f,0,none⟩) 16 16),λv _=>v = (vI k.2),λv _=>v = (vI (wr (k.2 + 1))),λv _=>v = (ptr f (0 + ((wr (k.2 + 1))).toNat * 1)),λv _=>v = (vB G),λv _=>v = (Value.slice (some ⟨f,0,none⟩) 16 16),λv _=>v = (vI k.2),λv _=>v = (vI (wr (k.2 + 2))),λv _=>v = (ptr f (0 + ((wr (k.2 + 2))).toNat * 1)),λv _=>v = (vB K),λv _=>v = (Value.slice (some ⟨f,0,none⟩) 16 16),λv _=>v = (vI k.2),λv _=>v = (vI (wr (k.2 + 3))),λv _=>v = (ptr f (0 + ((wr (k.2 + 3))).toNat * 1)),λv _=>v = (vB L),λv _=>v = (vB F),λv _=>v = (vB G),λv _=>v = (vB K),λv _=>v = (vB L)] : List (Value → World → Prop)).getD j (λ_ _=>True)) (λ_ _ h hk=>h.keep hk) (gup gu23) H I.drew (st23 ?_ ?_ ?_ ?_ ?_ ?_ ?_ ?_ ?_ ?_ ?_ ?_ ?_ ?_ ?_ ?_ ?_ ?_ ?_ ?_ ?_ ?_ ?_) ?_
    ·exact qm
    ·exact qm
    ·intro a w c H I hp
     have f0 : c 0 = (Value.slice (some ⟨f,0,none⟩) 16 16):=hp 0 _ R R
     have f1 : c 1 = (vI k.2):=hp 1 _ R R
     exact Hd H Za ld (lk R f0) (lk R f1) o_2 ty5 O.1 λa H=>kq R H R
    ·intro a w c H I hp
     have f2 : c 2 = (ptr f (0 + (k.2).toNat * 1)):=hp 0 _ R R
     exact ZO (v:=(vB F)) H (lk R f2) ty5 R (At.vec I.ra0 O.2) λa H=>kq R H R
    ·exact qm
    ·exact qm
    ·intro a w c H I hp
     have f5 : c 5 = (vI k.2):=hp 0 _ R R
     exact Zm H (lk R f5) R R λa H=>kq R H R
    ·intro a w c H I hp
     have f4 : c 4 = (Value.slice (some ⟨f,0,none⟩) 16 16):=hp 0 _ R R
     have f6 : c 6 = (vI (wr (k.2 + 1))):=hp 1 _ R R
     exact Hd H Za ld (lk R f4) (lk R f6) o_2 ty5 T.1 λa H=>kq R H R
    ·intro a w c H I hp
     have f7 : c 7 = (ptr f (0 + ((wr (k.2 + 1))).toNat * 1)):=hp 0 _ R R
     exact ZO (v:=(vB G)) H (lk R f7) ty5 R (At.vec I.ra0 T.2) λa H=>kq R H R
    ·exact qm
    ·exact qm
    ·intro a w c H I hp
     have ak : c 10 = (vI k.2):=hp 0 _ R R
     exact Zm H (lk R ak) R R λa H=>kq R H R
    ·intro a w c H I hp
     have f9 : c 9 = (Value.slice (some ⟨f,0,none⟩) 16 16):=hp 0 _ R R
     have al : c 11 = (vI (wr (k.2 + 2))):=hp 1 _ R R
     exact Hd H Za ld (lk R f9) (lk R al) o_2 ty5 U.1 λa H=>kq R H R
    ·intro a w c H I hp
     have am : c 12 = (ptr f (0 + ((wr (k.2 + 2))).toNat * 1)):=hp 0 _ R R
     exact ZO (v:=(vB K)) H (lk R am) ty5 R (At.vec I.ra0 U.2) λa H=>kq R H R
    ·exact qm
    ·exact qm
    ·intro a w c H I hp
     have an : c 15 = (vI k.2):=hp 0 _ R R
     exact Zm H (lk R an) R R λa H=>kq R H R
    ·intro a w c H I hp
     have ao : c 14 = (Value.slice (some ⟨f,0,none⟩) 16 16):=hp 0 _ R R
     have ap : c 16 = (vI (wr (k.2 + 3))):=hp 1 _ R R
     exact Hd H Za ld (lk R ao) (lk R ap) o_2 ty5 X.1 λa H=>kq R H R
    ·intro a w c H I hp
     have aq : c 17 = (ptr f (0 + ((wr (k.2 + 3))).toNat * 1)):=hp 0 _ R R
     exact ZO (v:=(vB L)) H (lk R aq) ty5 R (At.vec I.ra0 X.2) λa H=>kq R H R
    ·intro a w c H I hp
     have f3 : c 3 = (vB F):=hp 0 _ R R
     exact Zc H (lk R f3) λa H=>kq R H R
    ·intro a w c H I hp
     have f8 : c 8 = (vB G):=hp 0 _ R R
     exact Zc H (lk R f8) λa H=>kq R H R
    ·intro a w c H I hp
     have ar : c 13 = (vB K):=hp 0 _ R R
     exact Zc H (lk R ar) λa H=>kq R H R
    ·intro a w c H I hp
     have au : c 18 = (vB L):=hp 0 _ R R
     exact Zc H (lk R au) λa H=>kq R H R
    intro a w c H I hg
    have H:=H.sub (e':=[(5,vB F),(6,vB G),(7,vB K),(8,vB L),(0,i),(1,Value.slice (some ⟨f,0,none⟩) 16 16),(4,vI k.2),(10,vI k.2),(11,Value.slice (some ⟨f,0,none⟩) 16 16),(12,vI (k.1.toList.length : Int)),(13,vT (decide (k.2 < (k.1.toList.length : Int))))]) ⟨lk R (hg 19 dd_),lk R (hg 20 dd_),lk R (hg 21 dd_),lk R (hg 22 dd_),R,R,R,R,R,R,R,trivial⟩
    refine Zf ?_
    obtain rfl:=o_1 o
    refine Zi ?_
    exact ⟨H.s,I⟩
   rintro a w ⟨H,I⟩
   refine Zb (Zd H R λa H=>Ze ?_)
   obtain ⟨bv,aw,ax⟩:=p_1 av
   refine ZX (λa w=>Env 79 a [(0,i),(1,Value.slice (some ⟨f,0,none⟩) 16 16),(4,vI k.2)] ∧ M St W w (raw f (enc bv) :: its)) ?_ ?_
   ·refine p_2 ?_
    refine ZN (λ(d : V16 × Int) a w=>Env 79 a [(0,i),(1,Value.slice (some ⟨f,0,none⟩) 16 16),(4,vI k.2),(5,vB t.1),(6,vB t.2.1),(7,vB t.2.2.1),(8,vB t.2.2.2),(35,vI d.2)] ∧ M St W w (raw f (enc d.1) :: its)) aw ⟨H.s,I⟩ ?_
    rintro d a w ⟨H,I⟩ cr e ay
    unfold V9 at e
    refine Zb (Zm H R R R λa H=>Ze (s_2 ?_))
    refine c_if H R e ?_ ?_
    ·intro az e
     refine t_2 (Zw (s_2 (p_2 (Zb (Zd H R λa H=>Zc H R λa H=>Ze ?_)))))
     obtain ⟨u,cl,a0,a1,a2,a3⟩:=TV C -- ^
     obtain ⟨rfl,_⟩:=H6.1 a1 -- ^
     obtain ⟨cs,Y,e⟩:=bvx e
     obtain ⟨ct,Z,e⟩:=bvx e
     obtain ⟨l,aa,e⟩:=bvx e
     obtain ⟨y,cm,a4,a5,a6,a7⟩:=TV C -- ^
     obtain ⟨rfl,_⟩:=H6.1 a5 -- ^
     obtain ⟨cu,ab,e⟩:=bvx e
     obtain ⟨cv,ac,e⟩:=bvx e
     obtain ⟨m,ad,e⟩:=bvx e
     obtain ⟨z,cn,a8,a9,ba,bb⟩:=TV C -- ^
     obtain ⟨rfl,_⟩:=H6.1 a9 -- ^
     obtain ⟨cw,ae,e⟩:=bvx e
     obtain ⟨cx,af,e⟩:=bvx e
     obtain ⟨q,ag,e⟩:=bvx e
     obtain ⟨A,co,bc,bd,be,bg⟩:=TV C -- ^
     obtain ⟨rfl,_⟩:=H6.1 bd -- ^
     obtain ⟨cy,ah,e⟩:=bvx e
     obtain ⟨cz,ai,e⟩:=bvx e
     obtain ⟨B,aj,e⟩:=bvx e
     obtain ⟨c0,N,e⟩:=bvx e
     refine Zom (n:=79) (hd:=[_,_,_,_,_,_,_,_,_,_,_,_,_,_,_,_,_,_,_,_,_,_,_,_,_,_,_,_,_,_,_,_,_,_,_,_,_,_,_,_]) (tl:=[_]) YJ R R [38,39,40,41,42,43,44,45,46,47,48,49,50,51,52,53,54,55,56,57,58,59,60,61,62,63,64,65,66,67,68,69,70,71,72,73,74,75,76,77] dd_ (λw=>M St W w (raw f (enc d.1) :: its)) (λj=>([λv _=>v = (Value.slice (some ⟨f,0,none⟩) 16 16),λv _=>v = (vI k.2),λv _=>v = (vI d.2),λv _=>v = (vI (wr (k.2 + d.2))),λv _=>v = i,λv _=>v = (vI d.2),λv _=>v = (vB t.1),λv _=>v = (ptr u 0),λv _=>v = (ptr u (0 + (d.2).toNat * 1024)),λv _=>v = (ptr u (0 + (d.2).toNat * 1024 + ((0 : Int)).toNat * 256)),λv _=>v = (ptr u (0 + (d.2).toNat * 1024 + ((0 : Int)).toNat * 256 + ((bI t.1)).toNat * 1)),λv _=>v = (vB l),λv _=>v = i,λv _=>v = (vI d.2),λv _=>v = (vB t.2.1),λv _=>v = (ptr y 0),λv _=>v = (ptr y (0 + (d.2).toNat * 1024)),λv _=>v = (ptr y (0 + (d.2).toNat * 1024 + ((1 : Int)).toNat * 256)),λv _=>v = (ptr y (0 + (d.2).toNat * 1024 + ((1 : Int)).toNat * 256 + ((bI t.2.1)).toNat * 1)),λv _=>v = (vB m),λv _=>v = (vB (l ^^^ m)),λv _=>v = i,λv _=>v = (vI d.2),λv _=>v = (vB t.2.2.1),λv _=>v = (ptr z 0),λv _=>v = (ptr z (0 + (d.2).toNat * 1024)),λv _=>v = (ptr z (0 + (d.2).toNat * 1024 + ((2 : Int)).toNat * 256)),λv _=>v = (ptr z (0 + (d.2).toNat * 1024 + ((2 : Int)).toNat * 256 + ((bI t.2.2.1)).toNat * 1)),λv _=>v = (vB q),λv _=>v = (vB ((l ^^^ m) ^^^ q)),λv _=>v = i,λv _=>v = (vI d.2),λv _=>v = (vB t.2.2.2),λv _=>v = (ptr A 0),λv _=>v = (ptr A (0 + (d.2).toNat * 1024)),λv _=>v = (ptr A (0 + (d.2).toNat * 1024 + ((3 : Int)).toNat * 256)),λv _=>v = (ptr A (0 + (d.2).toNat * 1024 + ((3 : Int)).toNat * 256 + ((bI t.2.2.2)).toNat * 1)),λv _=>v = (vB B),λv _=>v = (vB (((l ^^^ m) ^^^ q) ^^^ B)),λv _=>v = (ptr f (0 + ((wr (k.2 + d.2))).toNat * 1))] : List (Value → World → Prop)).getD j (λ_ _=>True)) (λ_ _ h hk=>h.keep hk) (gup (WE (WE (WE (WE (WE (WE (WE (WE (WE (WE (WE (WE (WE (WE (WE (WE (WE (WE (WE (WE (WE (WE (WE (WE (WE (WE (WE (WE (WE (WE (WE (WE (WE (WE (WE (WE (WE (WE (WE (WE gupN))))))))))))))))))))))))))))))))))))))))) H I.drew (Zhq (ZJ ?_ (ZJ ?_ (ZJ ?_ (ZJ ?_ (ZJ ?_ (ZJ ?_ (ZJ ?_ (ZJ ?_ (ZJ ?_ (ZJ ?_ (ZJ ?_ (ZJ ?_ (ZJ ?_ (ZJ ?_ (ZJ ?_ (ZJ ?_ (ZJ ?_ (ZJ ?_ (ZJ ?_ (ZJ ?_ (ZJ ?_ (ZJ ?_ (ZJ ?_ (ZJ ?_ (ZJ ?_ (ZJ ?_ (ZJ ?_ (ZJ ?_ (ZJ ?_ (ZJ ?_ (ZJ ?_ (ZJ ?_ (ZJ ?_ (ZJ ?_ (ZJ ?_ (ZJ ?_ (ZJ ?_ (ZJ ?_ (ZJ ?_ (ZJ ?_ Zd1))))))))))))))))))))))))))))))))))))))))) ?_
     ·exact qm
     ·exact qm
     ·exact qm
     ·intro a w b H I hp
      have f1 : b 1 = (vI k.2):=hp 0 _ R R
      have f2 : b 2 = (vI d.2):=hp 1 _ R R
      exact Zm H (lk R f1) (lk R f2) R λa H=>kq R H R
     ·exact qm
     ·exact qm
     ·exact qm
     ·intro a w b H I hp
      have f4 : b 4 = i:=hp 0 _ R R
      exact Ya H Za ld (lk (lk R f4) a0) λa H=>kq R H R
     ·intro a w b H I hp
      have f5 : b 5 = (vI d.2):=hp 1 _ R R
      have f7 : b 7 = (ptr u 0):=hp 0 _ R R
      exact ZC H (lk R f7) (lk R f5) p_7 Zcb Y.1 λa H=>kq R H R
     ·intro a w b H I hp
      have f8 : b 8 = (ptr u (0 + (d.2).toNat * 1024)):=hp 0 _ R R
      exact ZC H (lk R f8) R s_7 ty55 Z.1 λa H=>kq R H R
     ·intro a w b H I hp
      have f6 : b 6 = (vB t.1):=hp 1 _ R R
      have f9 : b 9 = (ptr u (0 + (d.2).toNat * 1024 + ((0 : Int)).toNat * 256)):=hp 0 _ R R
      exact ZC H (lk R f9) (lk R f6) u_7 ty5 aa.1 λa H=>kq R H R
     ·intro a w b H I hp
      have ak : b 10 = (ptr u (0 + (d.2).toNat * 1024 + ((0 : Int)).toNat * 256 + ((bI t.1)).toNat * 1)):=hp 0 _ R R
      exact ZO (v:=(vB l)) H (lk R ak) ty5 R (At.vec (At.vec (At.vec (I.atk a2 a3) Y.2) Z.2) aa.2) λa H=>kq R H R
     ·exact qm
     ·exact qm
     ·exact qm
     ·intro a w b H I hp
      have am : b 12 = i:=hp 0 _ R R
      exact Ya H Za ld (lk (lk R am) a4) λa H=>kq R H R
     ·intro a w b H I hp
      have ar : b 13 = (vI d.2):=hp 1 _ R R
      have an : b 15 = (ptr y 0):=hp 0 _ R R
      exact ZC H (lk R an) (lk R ar) p_7 Zcb ab.1 λa H=>kq R H R
     ·intro a w b H I hp
      have ap : b 16 = (ptr y (0 + (d.2).toNat * 1024)):=hp 0 _ R R
      exact ZC H (lk R ap) R s_7 ty55 ac.1 λa H=>kq R H R
     ·intro a w b H I hp
      have ao : b 14 = (vB t.2.1):=hp 1 _ R R
      have aq : b 17 = (ptr y (0 + (d.2).toNat * 1024 + ((1 : Int)).toNat * 256)):=hp 0 _ R R
      exact ZC H (lk R aq) (lk R ao) u_7 ty5 ad.1 λa H=>kq R H R
     ·intro a w b H I hp
      have au : b 18 = (ptr y (0 + (d.2).toNat * 1024 + ((1 : Int)).toNat * 256 + ((bI t.2.1)).toNat * 1)):=hp 0 _ R R
      exact ZO (v:=(vB m)) H (lk R au) ty5 R (At.vec (At.vec (At.vec (I.atk a6 a7) ab.2) ac.2) ad.2) λa H=>kq R H R
     ·intro a w b H I hp
      have al : b 11 = (vB l):=hp 0 _ R R
      have bw : b 19 = (vB m):=hp 1 _ R R
      exact Zm H (lk R al) (lk R bw) (VH l m) λa H=>kq R H R
     ·exact qm
     ·exact qm
     ·exact qm
     ·intro a w b H I hp
      have bx : b 21 = i:=hp 0 _ R R
      exact Ya H Za ld (lk (lk R bx) a8) λa H=>kq R H R
     ·intro a w b H I hp
      have bz : b 22 = (vI d.2):=hp 1 _ R R
      have b0 : b 24 = (ptr z 0):=hp 0 _ R R
      exact ZC H (lk R b0) (lk R bz) p_7 Zcb ae.1 λa H=>kq R H R
     ·intro a w b H I hp
      have b1 : b 25 = (ptr z (0 + (d.2).toNat * 1024)):=hp 0 _ R R
      exact ZC H (lk R b1) R s_7 ty55 af.1 λa H=>kq R H R
     ·intro a w b H I hp
      have b2 : b 23 = (vB t.2.2.1):=hp 1 _ R R
      have b3 : b 26 = (ptr z (0 + (d.2).toNat * 1024 + ((2 : Int)).toNat * 256)):=hp 0 _ R R
      exact ZC H (lk R b3) (lk R b2) u_7 ty5 ag.1 λa H=>kq R H R
     ·intro a w b H I hp
      have b4 : b 27 = (ptr z (0 + (d.2).toNat * 1024 + ((2 : Int)).toNat * 256 + ((bI t.2.2.1)).toNat * 1)):=hp 0 _ R R
      exact ZO (v:=(vB q)) H (lk R b4) ty5 R (At.vec (At.vec (At.vec (I.atk ba bb) ae.2) af.2) ag.2) λa H=>kq R H R
     ·intro a w b H I hp
      have b5 : b 20 = (vB (l ^^^ m)):=hp 0 _ R R
      have b6 : b 28 = (vB q):=hp 1 _ R R
      exact Zm H (lk R b5) (lk R b6) (VH (l ^^^ m) q) λa H=>kq R H R
     ·exact qm
     ·exact qm
     ·exact qm
     ·intro a w b H I hp
      have b7 : b 30 = i:=hp 0 _ R R
      exact Ya H Za ld (lk (lk R b7) bc) λa H=>kq R H R
     ·intro a w b H I hp
      have b8 : b 31 = (vI d.2):=hp 1 _ R R
      have b9 : b 33 = (ptr A 0):=hp 0 _ R R
      exact ZC H (lk R b9) (lk R b8) p_7 Zcb ah.1 λa H=>kq R H R
     ·intro a w b H I hp
      have ca : b 34 = (ptr A (0 + (d.2).toNat * 1024)):=hp 0 _ R R
      exact ZC H (lk R ca) R s_7 ty55 ai.1 λa H=>kq R H R
     ·intro a w b H I hp
      have cb : b 32 = (vB t.2.2.2):=hp 1 _ R R
      have cc : b 35 = (ptr A (0 + (d.2).toNat * 1024 + ((3 : Int)).toNat * 256)):=hp 0 _ R R
      exact ZC H (lk R cc) (lk R cb) u_7 ty5 aj.1 λa H=>kq R H R
     ·intro a w b H I hp
      have cd : b 36 = (ptr A (0 + (d.2).toNat * 1024 + ((3 : Int)).toNat * 256 + ((bI t.2.2.2)).toNat * 1)):=hp 0 _ R R
      exact ZO (v:=(vB B)) H (lk R cd) ty5 R (At.vec (At.vec (At.vec (I.atk be bg) ah.2) ai.2) aj.2) λa H=>kq R H R
     ·intro a w b H I hp
      have cf : b 29 = (vB ((l ^^^ m) ^^^ q)):=hp 0 _ R R
      have cg : b 37 = (vB B):=hp 1 _ R R
      exact Zm H (lk R cf) (lk R cg) (VH ((l ^^^ m) ^^^ q) B) λa H=>kq R H R
     ·intro a w b H I hp
      have f0 : b 0 = (Value.slice (some ⟨f,0,none⟩) 16 16):=hp 0 _ R R
      have f3 : b 3 = (vI (wr (k.2 + d.2))):=hp 1 _ R R
      exact Hd H Za ld (lk R f0) (lk R f3) o_2 ty5 N.1 λa H=>kq R H R
     intro a w b H I hg
     have H:=H.sub (e':=[(76,vB (((l ^^^ m) ^^^ q) ^^^ B)),(77,ptr f (0 + ((wr (k.2 + d.2))).toNat * 1)),(0,i),(1,Value.slice (some ⟨f,0,none⟩) 16 16),(4,vI k.2),(5,vB t.1),(6,vB t.2.1),(7,vB t.2.2.1),(8,vB t.2.2.2),(9,vI d.2),(35,vI d.2),(36,vT (decide (d.2 < 4))),(37,vI d.2)]) ⟨lk R (hg 38 dd_),lk R (hg 39 dd_),R,R,R,R,R,R,R,R,R,R,R,trivial⟩
     refine Zk (seg:=[vB (((l ^^^ m) ^^^ q) ^^^ B)]) (cs':=enc (d.1.setIfInBounds ((wr (k.2 + d.2))).toNat (((l ^^^ m) ^^^ q) ^^^ B))) H I Za R R R ty5 R (ZS (v:=d.1) (x:=((l ^^^ m) ^^^ q) ^^^ B) N.1) (t_1 (((l ^^^ m) ^^^ q) ^^^ B : UInt8)) (ZF (v:=d.1) (x:=((l ^^^ m) ^^^ q) ^^^ B) N.1) λw a I H=>Zf (Yn (Zw (s_1 (Zm H R R R λa H=>Zd H R λa H=>Zf (Zi ?_)))))
     exact ⟨_,ois e,H.s,I⟩
    intro az e
    refine s_3 (Zp (Zp (Yv ?_)))
    obtain rfl:=ay _ (ois e)
    refine Zi ?_
    exact ⟨H.s,I⟩
   rintro a w ⟨H,I⟩
   refine Yn (Zw (s_1 (Zd H R λa H=>Zm H R R R λa H=>Zc H R λa H=>Zf (Zi ?_))))
   exact ⟨_,ois ax,H.s,I⟩
  intro bk E
  refine s_3 (Zp (Zp (Yv ?_)))
  obtain rfl:=bj _ (ois E)
  refine Zi ?_
  exact ⟨H.s,I⟩
 rintro a w ⟨H,I⟩
 obtain rfl:=o_1 bi
 exact Zro H (by rfl) ⟨_,R,R,I⟩
def Xs (f : (Ref Gengine)) (c : V16 × Int) (b : V16 × Int) : Option (Fl (V16 × Int) V16) :=
 if decide (b.2 < 16) then ((ZP c.1 b.2).bind λd=>(ZP f.v.box (bI d)).bind λe=>(ZP b.1 b.2).bind λh=>some (Fl.nx ((b.1.setIfInBounds (b.2).toNat e),wr (b.2 + 1)))) else (some (Fl.ex b.1))
def Xp (d : (Ref Gengine)) (e : List V16) (b : V16 × Int) : Option (Fl (V16 × Int) V16) :=
 if decide (b.2 < (e.length : Int)) then (((ZK (Xs d b) (b.1,0)).bind λf=>((X3 d.v.places f).bind λh=>some h : Option (V16)).bind λc=>(if decide (b.2 < (wr ((e.length : Int) - 1))) then ((slc c.toList (0 : Int) (16 : Int)).bind λn=>(UF d.v.mixer c).bind λi=>some i) else (some c) : Option (V16)).bind λj=>(idx e b.2).bind λk=>(Yz j k).bind λl=>some l : Option (V16)).bind λm=>some (Fl.nx (m,wr (b.2 + 1)))) else (some (Fl.ex b.1))
def Y9 (e : (Ref Gengine)) (d : List V16) (f : V16) : Option (V16) :=
 ((idx d (0 : Int)).bind λh=>(Yz f h).bind λb=>some b : Option (V16)).bind λi=>(ZK (Xp e d) (i,1)).bind λc=>some c
theorem Ku (h : World) (B : (Ref Gengine)) (c : Value) (n : Ro h B [c]) (p1 : List V16) (d : Value) (f : Ro h p1 [d]) (p2 : V16) (r : V16) (hF : Y9 B p1 p2 = some r) :
  Calls prog 275 [c,d,Value.agg (enc p2).toArray].toArray h (Rt h (Value.agg (enc r).toArray)):=by
 refine ce func275 ?_
 intro a H
 have I:=M.start h
 unfold Y9 at hF
 refine Zb (ZY (cs:=enc p2) H I Za ld R R λk w a I H=>Zx H I ZD λm w a I H=>Ze ?_)
 obtain ⟨j5,t,a2⟩:=p_1 hF
 refine ZG (λa w=>Env 59 a [(0,c),(1,d),(5,ptr k 0),(6,ptr m 0)] ∧ M (Old h) h w [raw m xi,raw k (enc j5)]) ?_ ?_
 ·obtain ⟨x9,C,t⟩:=bix t
  obtain ⟨L,a3,t⟩:=p_1 t
  refine Z7 [10,11,12,13,14] YJ R R dd_ R H I (qsP (λz=>ZB z.E Za ld R ZD R (z.M.ra1) (u_1 _) (kr0 R)) (q_m (λ_=>R) (qsP (λz=>XD z.E Za ld R R o_3 ZD (z.M.rd f) C.1 (kr0 R)) (qsP (λz=>ZB z.E Za ld R ZD R (Xx (z.M.rd f) C.2) (u_1 _) (kr0 R)) (qsP (λz=>ZW z.E Za ld R z6 (XT _ p2 x9 L a3) (kc R)) qs0))))) ?_
  ·intro a w u H I
   have I:=I.pl1
   refine s_w L H I Za R R R ZD λw a I H=>Zf ?_
   obtain rfl:=o_1 t
   refine Zi ?_
   have I:=I.pl1
   exact ⟨H.s,I⟩
 rintro a w ⟨H,I⟩
 refine s_2 (Zb (Zc H R λa H=>Ze ?_))
 obtain ⟨O,T,U⟩:=p_1 a2
 refine ZX (λa w=>Env 59 a [(5,ptr k 0),(6,ptr m 0)] ∧ M (Old h) h w [raw m xi,raw k (enc O)]) ?_ ?_
 ·refine p_2 ?_
  refine ZN (λ(j : V16 × Int) a w=>Env 59 a [(0,c),(1,d),(5,ptr k 0),(6,ptr m 0),(7,vI j.2)] ∧ M (Old h) h w [raw m xi,raw k (enc j.1)]) T ⟨H.s,I⟩ ?_
  rintro j a w ⟨H,I⟩ bm i W
  unfold Xp at i
  refine s_2 (Zb (Zd H R λa H=>Zd H R λa H=>Yp H R o_3 (I.rd f) λa H=>Zm H R R R λa H=>Ze ?_))
  refine c_if H R i ?_ ?_
  ·intro X i
   refine t_2 (Zw ?_)
   obtain ⟨a4,Y,Z⟩:=p_1 i
   refine ZG (λa w=>Env 59 a [(0,c),(1,d),(5,ptr k 0),(6,ptr m 0),(7,vI j.2)] ∧ M (Old h) h w [raw m xi,raw k (enc a4)]) ?_ ?_
   ·refine p_2 (s_2 (Zb (Zu H R ZD R I.ra1 (u_1 _) λa H=>Zd H R λa H=>Ze ?_)))
    obtain ⟨aa,ab,ac⟩:=p_1 Y
    refine ZX (λa w=>Env 59 a [(0,c),(1,d),(5,ptr k 0),(6,ptr m 0),(7,vI j.2)] ∧ M (Old h) h w [raw m xi,raw k (enc aa)]) ?_ ?_
    ·refine p_2 ?_
     refine ZN (λ(o : V16 × Int) a w=>Env 59 a [(0,c),(1,d),(5,ptr k 0),(6,ptr m 0),(7,vI j.2),(21,Value.agg (enc j.1).toArray),(22,vI o.2)] ∧ M (Old h) h w [raw m xi,raw k (enc o.1)]) ab ⟨H.s,I⟩ ?_
     rintro o a w ⟨H,I⟩ bn b ad
     unfold Xs at b
     refine Zb (Zm H R R R λa H=>Ze (s_2 ?_))
     refine c_if H R b ?_ ?_
     ·intro ae b
      refine t_2 (Zw (s_2 (p_2 (Zb (Zd H R λa H=>?_)))))
      obtain ⟨bo,af,b⟩:=bvx b
      refine Hg H Za ld R R u_3 ty5 R R af R λa H=>Zc H R λa H=>Zc H R λa H=>Ze (s_1 (Zd H R λa H=>Zd H R λa H=>Zd H R λa H=>?_))
      obtain ⟨bd,be,ag,ah,ai,aj⟩:=TV n -- ^
      obtain ⟨bp,bq,rfl,br,bs⟩:=Qj ah -- ^
      refine Ya H Za ld (lk R ag) λa H=>Zr H R (Zfp) λa H=>?_
      obtain ⟨q,F,b⟩:=bvx b
      refine ZC H R R u_4 ty5 F.1 λa H=>ZO (v:=(vB q)) H R ty5 R (At.vec (at_0 (I.atk ai aj)) F.2) λa H=>?_
      obtain ⟨bt,y,b⟩:=bvx b
      refine ZC H R R u_3 ty5 y.1 λa H=>?_
      have I:=I.pl1
      refine Zk (seg:=[vB q]) (cs':=enc (o.1.setIfInBounds (o.2).toNat q)) H I Za R R R ty5 R (ZS (v:=o.1) (x:=q) y.1) (t_1 (q : UInt8)) (ZF (v:=o.1) (x:=q) y.1) λw a I H=>Zf (Yn (Zw (s_1 (Zm H R R R λa H=>Zd H R λa H=>Zf (Zi ?_)))))
      have I:=I.pl1
      exact ⟨_,ois b,H.s,I⟩
     intro ae b
     refine s_3 (Zp (Zp (Yv ?_)))
     obtain rfl:=ad _ (ois b)
     refine Zi ?_
     exact ⟨H.s,I⟩
    rintro a w ⟨H,I⟩
    refine Zw ?_
    obtain ⟨ak,A,al⟩:=p_1 ac
    refine ZG (λa w=>Env 59 a [(0,c),(1,d),(5,ptr k 0),(6,ptr m 0),(7,vI j.2)] ∧ M (Old h) h w [raw m xi,raw k (enc ak)]) ?_ ?_
    ·obtain ⟨bg,bh,am,an,ao,ap⟩:=TV n -- ^
     obtain ⟨u64,bu,rfl,bv,bw⟩:=Qj an -- ^
     obtain ⟨aq,a5,A⟩:=p_1 A
     refine Z7 [35,36,37,38,39,40] YJ R R dd_ R H I (q_m (λ_=>R) (qsP (λz=>Ya z.E Za ld (lk R am) (kr0 R)) (qsP (λz=>Zo z.E Za ld R (Zq5) (kr0 R)) (qsP (λz=>ZB z.E Za ld R BL R (at_2 (z.M.atk ao ap)) (u_1 _) (kr0 R)) (qsP (λz=>ZB z.E Za ld R ZD R (z.M.ra1) (u_1 _) (kr0 R)) (qsP (λz=>ZW z.E Za ld R (cbm func318) (H3 _ B.v.places aa aq a5) (kc R)) qs0)))))) ?_
     ·intro a w u H I
      have I:=I.pl1
      refine s_w aq H I Za R R R ZD λw a I H=>Zf ?_
      obtain rfl:=o_1 A
      refine Zi ?_
      have I:=I.pl1
      exact ⟨H.s,I⟩
    rintro a w ⟨H,I⟩
    obtain ⟨ar,e,l⟩:=p_1 al
    refine ZG (λa w=>Env 59 a [(0,c),(1,d),(5,ptr k 0),(6,ptr m 0),(7,vI j.2)] ∧ M (Old h) h w [raw m xi,raw k (enc ar)]) ?_ ?_
    ·refine Zb (Zd H R λa H=>Zd H R λa H=>Yp H R o_3 (I.rd f) λa H=>Zm H R R R λa H=>Zm H R R R λa H=>Ze ?_)
     refine c_if H R e ?_ ?_
     ·intro au e
      obtain ⟨bi,bj,av,aw,ax,ay⟩:=TV n -- ^
      obtain ⟨u82,u84,rfl,a6,bx⟩:=Qj aw -- ^
      obtain ⟨bz,a7,e⟩:=p_1 e
      have az:=Ul a7 -- ^
      refine Z7 [46,47,48,49,50] YJ R R dd_ R H I (q_m (λ_=>R) (qsP (λz=>Ya z.E Za ld (lk R av) (kr0 R)) (qsP (λz=>Zo z.E Za ld R (Zrp) (kr0 R)) (qsP (λz=>ZL (v:=u82) z.E Za ld R Zku R (at_4 (z.M.atk ax ay)) (kr0 R)) (qsP (λz=>XH (N:=16) z.E Za ld R R R R R u_3 ty5 az (kr0 R)) qs0))))) ?_
      ·intro a w u H I
       have I:=I.pl1
       obtain ⟨a8,a9,e⟩:=p_1 e
       refine Zn H R (cbm func319) (B4 _ _ _ _ B.v.mixer u82 a6 k ak I a8 a9) ?_
       rintro v w a ⟨rfl,I⟩ H
       refine Zf ?_
       obtain rfl:=o_1 e
       refine Zi ?_
       have I:=I.pl1
       exact ⟨H.s,I⟩
     intro au e
     refine t_2 ?_
     obtain rfl:=o_1 e
     refine Zi ?_
     exact ⟨H.s,I⟩
    rintro a w ⟨H,I⟩
    obtain ⟨ba,G,l⟩:=bix l
    obtain ⟨a0,bb,l⟩:=p_1 l
    refine Z7 [52,53,54,55,56,57] YJ R R dd_ R H I (qsP (λz=>ZB z.E Za ld R ZD R (z.M.ra1) (u_1 _) (kr0 R)) (q_m (λ_=>R) (q_m (λ_=>R) (qsP (λz=>XD z.E Za ld R R o_3 ZD (z.M.rd f) G.1 (kr0 R)) (qsP (λz=>ZB z.E Za ld R ZD R (Xx (z.M.rd f) G.2) (u_1 _) (kr0 R)) (qsP (λz=>ZW z.E Za ld R z6 (XT _ ar ba a0 bb) (kc R)) qs0)))))) ?_
    ·intro a w u H I
     have I:=I.pl1
     refine s_w a0 H I Za R R R ZD λw a I H=>Zf (Yn ?_)
     obtain rfl:=o_1 l
     refine Zi ?_
     have I:=I.pl1
     exact ⟨H.s,I⟩
   rintro a w ⟨H,I⟩
   refine s_1 (Zd H R λa H=>Zm H R R R λa H=>Zc H R λa H=>Zf (Zi ?_))
   exact ⟨_,ois Z,H.s,I⟩
  intro X i
  refine s_3 (Zp (Zp (Yv ?_)))
  obtain rfl:=W _ (ois i)
  refine Zi ?_
  exact ⟨H.s,I⟩
 rintro a w ⟨H,I⟩
 refine Zw (Zb (Zu H R ZD R I.ra1 (u_1 _) λa H=>s_w O H I Za R R R ZD λw a I H=>Ze ?_))
 obtain rfl:=o_1 U
 have K : Z8 prog _ _ (.cell 6 53) _:=ZH H R ZD R I.ra0 (u_1 _) R
 exact u_2 (ZT H R K ⟨_,R,R,I.kept⟩)
def UX (b : Gkeyed) (c : V16) : Option (V16) :=
 (Y9 b.engine b.keys c).bind λd=>some d
theorem AK (f : World) (h : Gkeyed) (b : Value) (d : Ro f h.engine [b]) (c : Value) (e : Ro f h.keys [c]) (i : V16) (r : V16) (hF : UX h i = some r) :
  Calls prog 205 [Value.agg (cat [[b],[c]]).toArray,Value.agg (enc i).toArray].toArray f (Rt f (Value.agg (enc r).toArray)):=by
 refine ce func205 ?_
 intro a H
 have I:=M.start f
 unfold UX at hF
 refine Zb (ZY (cs:=cat [[b],[c]]) H I Za ld R R λm w a I H=>ZY (cs:=enc i) H I Za ld R R λn w a I H=>Zx H I ZD λo w a I H=>Ze (Zb (Zr H R (Zlc) λa H=>ZO (v:=b) H R Zd4 R (at_0 I.ra2) λa H=>Zr H R (Zk6) λa H=>ZO (v:=c) H R BZ R (at_1 I.ra2) λa H=>Zu H R ZD R I.ra1 (u_1 _) λa H=>?_)))
 obtain ⟨k,l,hF⟩:=p_1 hF
 refine c_k H I R (cbm func275) (Ku _ h.engine b (I.rdo d) h.keys c (I.rdo e) i k l) λw a I H=>?_
 refine s_w k H I Za R R R ZD λw a I H=>Ze ?_
 obtain rfl:=o_1 hF
 have j : Z8 prog _ _ (.cell 4 53) _:=ZH H R ZD R I.ra0 (u_1 _) R
 exact u_2 (ZT H R j ⟨_,R,R,I.kept⟩)
def H5 (e : List V16) (b : List UInt8 × Int) : Option (Fl (List UInt8 × Int) (List UInt8)) :=
 if decide (b.2 < (e.length : Int)) then ((idx e b.2).bind λd=>(slc d.toList (0 : Int) (16 : Int)).bind λc=>(app 1 b.1 c).bind λf=>some (Fl.nx ((b.1 ++ c),wr (b.2 + 1)))) else (some (Fl.ex b.1))
def QU (b : List V16) : Option ((List UInt8)) :=
 (ZK (H5 b) (([] : List UInt8),0)).bind λc=>some c
theorem yc (e : World) (o : List V16) (d : Value) (c : Ro e o [d]) (r : List UInt8) (hF : QU o = some r) :
  Calls prog 207 [d].toArray e (e_r λv w'=>(∃ B : Value,v = B ∧ Fr e w' [osl NoB r B] ∧ Kept (Old e) e w')):=by
 refine ce func207 ?_
 intro a H
 have I:=M.start e
 unfold QU at hF
 refine Zb (Zc H R λa H=>Ze (Zb (ZR (xs:=[]) (l:=xz) (vs:=[]) H I Za ld R R o_2 ty5 R dd_ R λC w a I H=>Zc H R λa H=>Ze (s_2 (Zb (Zd H R λa H=>Yp H R o_3 (I.rd c) λa H=>Zd H R λa H=>Ze ?_))))))
 obtain ⟨E,q,t⟩:=p_1 hF
 refine ZX (λa w=>∃ m : Value,Env 18 a [(3,m)] ∧ M (Old e) e w [osl NoB E m]) ?_ ?_
 ·refine p_2 ?_
  refine ZN (λ(u : List UInt8 × Int) a w=>∃ n : Value,Env 18 a [(3,n),(7,d),(8,vI (o.length : Int)),(9,vI u.2)] ∧ M (Old e) e w [osl NoB u.1 n]) q ⟨C,H.s,I⟩ ?_
  rintro u a w ⟨n,H,I⟩ F b h
  unfold H5 at b
  refine Zb (Zm H R R R λa H=>Ze (s_2 ?_))
  refine c_if H R b ?_ ?_
  ·intro i b
   refine t_2 (Zw (s_2 (p_2 (Zb ?_))))
   obtain ⟨x,f,b⟩:=bix b
   refine Ys H R R o_3 ZD (I.rd c) f.1 λa H=>Zu H R ZD R (Xx (I.rd c) f.2) (u_1 _) λa H=>Zx H I ZD λG w a I H=>s_w x H I Za R R R ZD λw a I H=>Ze (s_1 (Zd H R λa H=>?_))
   obtain ⟨K,j,b⟩:=p_1 b
   have k:=Ul j -- ^
   refine XH (N:=16) H Za ld R R R R R u_3 ty5 k λa H=>?_
   obtain ⟨L,y,b⟩:=p_1 b
   obtain ⟨z,rfl⟩:=Yc y
   have I:=I.pl1
   refine Yg H I Za ld R R (Yo (At.sat I.ra1 (by simp) dd_) j) o_2 ty5 R dd_ z λA w a I H=>Zc H R λa H=>Zf (Yn (Zw (s_1 (Zm H R R R λa H=>Zd H R λa H=>Zf (Zi ?_)))))
   have I:=I.f_1
   exact ⟨_,ois b,A,H.s,I⟩
  intro i b
  refine s_3 (Zp (Zp (Yv ?_)))
  obtain rfl:=h _ (ois b)
  refine Zi ?_
  exact ⟨n,H.s,I⟩
 rintro a w ⟨m,H,I⟩
 refine Zw (Zb (Zd H R λa H=>Zc H R λa H=>Ze ?_))
 obtain rfl:=o_1 t
 exact u_2 (ZT H R (Zy H R) ⟨_,R,m,R,I.outF (Z1 Yj),I.kept⟩)
def W9 (i : Gkeyed) (h : List V16) (b : V16 × Int × List V16) : Option (Fl (V16 × Int × List V16) (List V16)) :=
 if decide (b.2.1 < (h.length : Int)) then ((idx h b.2.1).bind λd=>((Yz d b.1).bind λe=>(UX i e).bind λf=>some f : Option (V16)).bind λc=>(app 16 b.2.2 ([c] : List V16)).bind λj=>some (Fl.nx (c,wr (b.2.1 + 1),b.2.2 ++ ([c] : List V16)))) else (some (Fl.ex b.2.2))
def UQ (d : Gkeyed) (e : V16) (f : List UInt8) : Option ((List UInt8)) :=
 (Ub f).bind λh=>(ZK (W9 d h) (e,0,([] : List V16))).bind λb=>(QU b).bind λc=>some c
theorem yr (h : World) (O : Gkeyed) (c : Value) (q : Ro h O.engine [c]) (d : Value) (t : Ro h O.keys [d]) (X : V16) (Y : List UInt8) (j : Value) (x : Ro h Y [j]) (r : List UInt8) (hF : UQ O X Y = some r) :
  Calls prog 112 [Value.agg (cat [[c],[d]]).toArray,Value.agg (enc X).toArray,j].toArray h (e_r λv w'=>(∃ y1 : Value,v = y1 ∧ Fr h w' [osl NoB r y1] ∧ Kept (Old h) h w')):=by
 refine ce func112 ?_
 intro a H
 have I:=M.start h
 unfold UQ at hF
 refine Zb (ZY (cs:=cat [[c],[d]]) H I Za ld R R λT w a I H=>ZY (cs:=enc X) H I Za ld R R λU w a I H=>Zc H R λa H=>Ze (Zb (ZR (xs:=[]) (l:=([] : List V16)) (vs:=[]) H I Za ld R R o_3 ZD R dd_ R λu5 w a I H=>Zc H R λa H=>Ze (s_2 (Zb (Zd H R λa H=>?_))))))
 obtain ⟨A,e8,hF⟩:=p_1 hF
 refine Zn H R Zqh (Hl _ Y j (I.rdo x) A e8) ?_
 rintro W w a ⟨_,rfl,hFr,hK⟩ H
 have I:=I.add hK hFr
 refine Yp H R o_3 (I.sl0) λa H=>Zd H R λa H=>Ze ?_
 obtain ⟨B,C,k⟩:=p_1 hF
 refine ZX (λa w=>∃ n : Value,Env 30 a [(7,n)] ∧ M (Old h) h w [osl NoB B n]) ?_ ?_
 ·refine p_2 ?_
  have I:=I.pl1.pl3.pl3.pl3
  refine ZN (λ(f : V16 × Int × List V16) a w=>∃ i : Value,Env 30 a [(3,ptr T 0),(4,ptr U 0),(7,i),(12,W),(13,vI (A.length : Int)),(14,vI f.2.1)] ∧ M (Old h) h w [osl NoB A W,raw U (enc f.1),raw T (cat [[c],[d]]),osl NoB f.2.2 i]) C ⟨u5,H.s,I⟩ ?_
  rintro f a w ⟨i,H,I⟩ ak b F
  unfold W9 at b
  refine Zb (Zm H R R R λa H=>Ze (s_2 ?_))
  refine c_if H R b ?_ ?_
  ·intro G b
   refine t_2 (Zw (s_2 (p_2 (Zb ?_))))
   obtain ⟨K,o,b⟩:=bix b
   refine Ys H R R o_3 ZD (I.sl0) o.1 λa H=>Zu H R ZD R (Xx (I.sl0) o.2) (u_1 _) λa H=>Zx H I ZD λal w a I H=>s_w K H I Za R R R ZD λw a I H=>Ze ?_
   obtain ⟨y,e,m⟩:=p_1 b
   refine ZG (λa w=>Env 30 a [(3,ptr T 0),(4,ptr U 0),(7,i),(12,W),(13,vI (A.length : Int)),(14,vI f.2.1)] ∧ M (Old h) h w [osl NoB A W,raw U (enc y),raw T (cat [[c],[d]]),osl NoB f.2.2 i]) ?_ ?_
   ·obtain ⟨L,Z,e⟩:=p_1 e
    obtain ⟨N,aa,e⟩:=p_1 e
    refine Z7 [18,19,20,21,22] YJ R R dd_ R H I (qsP (λz=>ZB z.E Za ld R kZ R (z.M.ra3) cq (kr0 R)) (qsP (λz=>ZB z.E Za ld R ZD R (z.M.ra0) (u_1 _) (kr0 R)) (qsP (λz=>ZB z.E Za ld R ZD R (z.M.ra2) (u_1 _) (kr0 R)) (qsP (λz=>ZW z.E Za ld R z6 (XT _ K f.1 L Z) (kc R)) (qsP (λz=>ZW z.E Za ld R (cbm func205) (AK _ O c (z.M.rdo q) d (z.M.rdo t) L N aa) (kc R)) qs0))))) ?_
    ·intro a w u H I
     have I:=I.pl2
     refine s_w N H I Za R R R ZD λw a I H=>Zf ?_
     obtain rfl:=o_1 e
     refine Zi ?_
     have I:=I.pl4.pl4.pl2.pl4.f_4
     exact ⟨H.s,I⟩
   rintro a w ⟨H,I⟩
   refine s_1 (Zd H R λa H=>Zu H R ZD R I.ra1 (u_1 _) λa H=>ZR (xs:=[.tmp 24]) (l:=([y] : List V16)) (vs:=[Value.agg (enc y).toArray]) H I Za ld R R o_3 ZD R dd_ R λam w a I H=>?_)
   obtain ⟨an,ab,m⟩:=p_1 m
   obtain ⟨ac,rfl⟩:=Yc ab
   have I:=I.pl4
   refine Yg H I Za ld R R (I.sl1) o_3 ZD R dd_ ac λad w a I H=>Zc H R λa H=>Zf (Yn (Zw (s_1 (Zm H R R R λa H=>Zd H R λa H=>Zf (Zi ?_)))))
   have I:=I.pl4.pl4.pl4.f_4
   exact ⟨_,ois m,ad,H.s,I⟩
  intro G b
  refine s_3 (Zp (Zp (Yv ?_)))
  obtain rfl:=F _ (ois b)
  refine Zi ?_
  have I:=I.pl3.f_1
  exact ⟨i,H.s,I⟩
 rintro a w ⟨n,H,I⟩
 refine Zw (Zb (Zd H R λa H=>?_))
 obtain ⟨ae,af,k⟩:=p_1 k
 refine Zn H R (cbm func207) (yc _ B n (I.sl0) ae af) ?_
 rintro ag w a ⟨_,rfl,hFr,hK⟩ H
 have I:=I.add hK hFr
 refine Zc H R λa H=>Ze ?_
 obtain rfl:=o_1 k
 have I:=I.f_1
 exact u_2 (ZT H R (Zy H R) ⟨_,R,ag,R,I.outF (Z1 Yj),I.kept⟩)
def VN (f : GCipher) (j : V16) (k : V16) (h : List UInt8) : Option (List UInt8 × Int) :=
 (UH f h 0 2000).bind λi=>if i != 0 then (some ([],i)) else (((Tf f j).bind λb=>(QZ h).bind λc=>(UQ b k c).bind λd=>some d : Option ((List UInt8))).bind λe=>some (e,0))
theorem zt (q : World) (i : GCipher) (A : V16) (B : V16) (L : List UInt8) (j : Value) (l : Ro q L [j]) (r : List UInt8 × Int) (hF : VN i A B L = some r) :
  Calls prog 30 [Value.agg (enc i).toArray,Value.agg (enc A).toArray,Value.agg (enc B).toArray,j].toArray q (e_r λv w'=>(∃ y1 : Value,v = (Value.tuple [y1,vI r.2].toArray) ∧ Fr q w' [osl NoB r.1 y1] ∧ Kept (Old q) q w')):=by
 refine ce func30 ?_
 intro a H
 have I:=M.start q
 unfold VN at hF
 refine Zb (ZY (cs:=cat [[vI i.Field],enc i.Box,enc i.Mix,enc i.Places,[vI i.Rounds]]) H I Za ld R R λb1 w a I H=>ZY (cs:=enc A) H I Za ld R R λb3 w a I H=>ZY (cs:=enc B) H I Za ld R R λb5 w a I H=>Zc H R λa H=>Zc H R λa H=>Ze (s_2 (Zb (Zu H R Wk R I.ra2 cq λa H=>Zd H R λa H=>?_))))
 obtain ⟨r7,e8,hF⟩:=p_1 hF
 refine c_k H I R (cbm func110) (BW _ i L j (I.rdo l) 0 2000 r7 e8) λw a I H=>?_
 refine Zc H R λa H=>Ze (Zb (Zd H R λa H=>Zm H R R R λa H=>Ze ?_))
 refine c_if H R hF ?_ ?_
 ·intro N hF
  refine Zb (Zd H R λa H=>Zc H R λa H=>Zc H R λa H=>Ze ?_)
  have I:=M.nilS (α:=UInt8) NoB noB I
  obtain rfl:=o_1 hF
  have I:=I.f_1
  exact u_2 (ZA (YN H R (Zy H R) (Zy H R) ⟨_,R,xf,R,I.outF (Z1 Yj),I.kept⟩))
 intro N hF
 refine t_2 (Zw ?_)
 obtain ⟨O,d,C⟩:=p_1 hF
 refine ZG (λa w=>∃ n : Value,Env 24 a [(8,n),(9,vI 0)] ∧ M (Old q) q w [osl NoB O n]) ?_ ?_
 ·obtain ⟨e,T,d⟩:=p_1 d
  obtain ⟨o,U,d⟩:=p_1 d
  refine Y0 (its:=[raw b5 (enc B),raw b3 (enc A),raw b1 (cat [[vI i.Field],enc i.Box,enc i.Mix,enc i.Places,[vI i.Rounds]])]) (mk:=([mkO 2 (λv=>own NoB e (Value.cells v).toList),mkO 5 (λv=>osl NoB o v)] : Mk)) [17,18,19,20,21,22] YJ R R dd_ R H (λu=>M.qE (M.qE (M.q0 I.drew u) emO) emO) (qsP (λz=>ZB z.E Za ld R Wk R (z.M.ra2) cq (kr0 R)) (qsP (λz=>ZB z.E Za ld R ZD R (z.M.ra1) (u_1 _) (kr0 R)) (qsM (pr:=λv=>∃ cs,v = .agg cs) ?_ (qsP (λz=>ZB z.E Za ld R ZD R (z.M.ra0) (u_1 _) (kr0 R)) (q_m (λ_=>R) (q_t ?_ qs0)))))) ?_
  ·intro a w k D z
   have H:=z.E
   have hD : D 2 = false:=z.F
   have hM0:=z.M
   have I:=z.M
   refine Zn H R (cbm func111) (Az _ i A e T) ?_
   rintro _ w a ⟨G,K,rfl,hFr,hK⟩ H
   have I:=hM0.add hK hFr
   have I:=I.packL (m:=[own NoB e.engine [G],osl NoB e.keys K]) (it:=own NoB e (cat [[G],[K]])) (Xl noB) (λfp h=>by obtain ⟨_,_,rfl,_,W,_,_,rfl,_,X,rfl⟩:=h; exact Zdp W (UO.sat X) (by simp))
   exact ⟨_,_,R,H,M.qFill (mk1:=[]) (mk2:=[_]) (f:=(λv=>own NoB e (Value.cells v).toList)) I R hD,⟨_,R⟩⟩
  ·intro a w k D z
   have H:=z.E
   have hD : D 5 = false:=z.F
   have hM0:=z.M
   have I:=z.M
   refine Zn H R (cbm func113) (zX _ L j (I.rdo l) o U) ?_
   rintro _ w a ⟨_,rfl,hFr,hK⟩ H
   have I:=hM0.add hK hFr
   exact ⟨_,_,R,H,M.qFill (mk1:=[_]) (mk2:=[]) (f:=(λv=>osl NoB o v)) I R hD,trivial⟩
  intro a w k D H I hG x
  have d2:=x 2 dd_
  have d5:=x 5 dd_
  have I:=(I.su3 d2).sure (pre:=[_,_,_,_]) d5
  obtain ⟨b,c,Y,_,_⟩:=jX (I.ro (pre:=[_,_,_]) noB)
  have y : (k 2) = (Value.agg (cat [[b],[c]]).toArray):=yi Y (hG 2 d2 _ R).2
  have I:=I.pl3
  have I:=(I.recown (congrArg (λv=>(Value.cells v).toList) y)).unpackL (m:=[own NoB e.engine [b],own NoB e.keys [c]]) (λfp h=>by obtain ⟨_,_,rfl,W,X⟩:=Zao h; exact (XN.cons (Xl noB) W (XN.one (Xl noB) X)))
  simp only [l_c,l_n] at I
  have H:=H.setq (t:=19) R y
  obtain ⟨Z,aa,d⟩:=p_1 d
  refine Zn H R (cbm func112) (yr _ e b (I.ro (pre:=[]) noB) c (I.ro (pre:=[_]) noB) B o (k 5) (I.sl (pre:=[_,_,_,_,_]) noB) Z aa) ?_
  rintro ab w a ⟨_,rfl,hFr,hK⟩ H
  have I:=I.add hK hFr
  refine Zc H R λa H=>Zc H R λa H=>Zf ?_
  obtain rfl:=o_1 d
  refine Zi ?_
  have I:=I.f_1
  exact ⟨ab,H.s,I⟩
 rintro a w ⟨n,H,I⟩
 obtain rfl:=o_1 C
 exact u_2 (YN H R (Zy H R) (Zy H R) ⟨_,R,n,R,I.outF (Z1 Yj),I.kept⟩)
def QW (f : V256) (b : (Vector Bool 256) × Int) : Option (Fl ((Vector Bool 256) × Int) (Fl Unit Bool)) :=
 if decide (b.2 < 256) then ((ZP f b.2).bind λd=>(ZP b.1 (bI d)).bind λe=>if e then (some (Fl.ex (Fl.ex false))) else ((ZP f b.2).bind λc=>(ZP b.1 (bI c)).bind λh=>some (Fl.nx ((b.1.setIfInBounds ((bI c)).toNat true),wr (b.2 + 1))))) else (some (Fl.ex (Fl.nx ())))
def JF (b : V256) : Option (Bool) :=
 (ZK (QW b) ((Vector.replicate 256 false),0)).bind λc=>c.el (λd=>some true) (λr=>some r)
theorem Ze3 (j : World) (o : V256) (r : Bool) (hF : JF o = some r) :
  Calls prog 277 [Value.agg (enc o).toArray].toArray j (Rt j (vT r)):=by
 refine ce func277 ?_
 intro a H
 have I:=M.start j
 unfold JF at hF
 refine Zb (ZY (cs:=enc o) H I Za ld R R λy w a I H=>Zc H R λa H=>Ze (Zb (Xi (parts:=[]) (vs:=[]) (cs:=enc (Vector.replicate 256 false)) H Za ld R R Zem R ty4 YK λa H=>Zx H I Zem λz w a I H=>s_w (Vector.replicate 256 false) H I Za R R R Zem λw a I H=>Ze (s_2 (Zb (Zc H R λa H=>Ze ?_))))))
 obtain ⟨B,q,d⟩:=p_1 hF
 refine ZX (λa w=>∃ A : Unit,B = Fl.nx A ∧ Env 19 a [] ∧ M (Old j) j w []) ?_ ?_
 ·refine p_2 ?_
  refine ZN (λ(k : (Vector Bool 256) × Int) a w=>Env 19 a [(1,ptr y 0),(3,ptr z 0),(4,vI k.2)] ∧ M (Old j) j w [raw z (enc k.1),raw y (enc o)]) q ⟨H.s,I⟩ ?_
  rintro k a w ⟨H,I⟩ C b e
  unfold QW at b
  refine s_2 (Zb (Zd H R λa H=>Zm H R R R λa H=>Ze ?_))
  refine c_if H R b ?_ ?_
  ·intro l b
   refine t_2 (Zw (s_2 (p_2 (s_2 (Zb (Zd H R λa H=>?_))))))
   obtain ⟨t,f,b⟩:=bvx b
   refine ZC H R R u_4 ty5 f.1 λa H=>ZO (v:=(vB t)) H R ty5 R (At.vec I.ra1 f.2) λa H=>?_
   obtain ⟨u,h,b⟩:=bvx b
   refine ZC H R R o_8 ty4 h.1 λa H=>ZO (v:=(vT u)) H R ty4 R (At.vec I.ra0 h.2) λa H=>Ze ?_
   refine c_if H R b ?_ ?_
   ·intro m b
    refine Zb (Zc H R λa H=>Ze ?_)
    obtain rfl:=e _ (ois b)
    obtain rfl:=o_1 d
    exact u_2 (ZA (YZ (ZA (ZA (YZ (ZA (ZA (kr1 H R R I.kept))))))))
   intro m b
   refine t_2 (Zw (s_1 (Zd H R λa H=>?_)))
   obtain ⟨n,i,b⟩:=bvx b
   refine ZC H R R u_4 ty5 i.1 λa H=>ZO (v:=(vB n)) H R ty5 R (At.vec I.ra1 i.2) λa H=>?_
   obtain ⟨E,c,b⟩:=bvx b
   refine ZC H R R o_8 ty4 c.1 λa H=>Zk (seg:=[vT true]) (cs':=enc (k.1.setIfInBounds ((bI n)).toNat true)) H I Za R R R ty4 R (ZS (v:=k.1) (x:=true) c.1) (t_1 (true : Bool)) (ZF (v:=k.1) (x:=true) c.1) λw a I H=>Zf (Yn (Zw (s_1 (Zd H R λa H=>Zm H R R R λa H=>Zc H R λa H=>Zf (Zi ?_)))))
   exact ⟨_,ois b,H.s,I⟩
  intro l b
  refine s_3 (Zp (Zp (Yv ?_)))
  obtain rfl:=e _ (ois b)
  refine Zi ?_
  have I:=I.f_0
  exact ⟨(),R,H.sub trivial,I⟩
 rintro a w ⟨A,ht,H,I⟩
 subst ht
 have d:=JM d
 refine Zw (Zb (Zc H R λa H=>Ze ?_))
 obtain rfl:=o_1 d
 exact u_2 (kr1 H R R I.kept)
def U7 (d : V16) (b : (Vector Bool 16) × Int) : Option (Fl ((Vector Bool 16) × Int) (Fl Unit Bool)) :=
 if decide (b.2 < 16) then (((ZP d b.2).bind λe=>if decide (e ≥ 16) then (some true) else ((ZP d b.2).bind λf=>(ZP b.1 (bI f)).bind λh=>some h) : Option (Bool)).bind λi=>if i then (some (Fl.ex (Fl.ex false))) else ((ZP d b.2).bind λc=>(ZP b.1 (bI c)).bind λj=>some (Fl.nx ((b.1.setIfInBounds ((bI c)).toNat true),wr (b.2 + 1))))) else (some (Fl.ex (Fl.nx ())))
def Ko (b : V16) : Option (Bool) :=
 (ZK (U7 b) ((Vector.replicate 16 false),0)).bind λc=>c.el (λd=>some true) (λr=>some r)
theorem Zc3 (h : World) (t : V16) (r : Bool) (hF : Ko t = some r) :
  Calls prog 278 [Value.agg (enc t).toArray].toArray h (Rt h (vT r)):=by
 refine ce func278 ?_
 intro a H
 have I:=M.start h
 unfold Ko at hF
 refine Zb (ZY (cs:=enc t) H I Za ld R R λA w a I H=>Zc H R λa H=>Ze (Zb (Xi (parts:=[]) (vs:=[]) (cs:=enc (Vector.replicate 16 false)) H Za ld R R Zoj R ty4 YK λa H=>Zx H I Zoj λB w a I H=>s_w (Vector.replicate 16 false) H I Za R R R Zoj λw a I H=>Ze (s_2 (Zb (Zc H R λa H=>Ze ?_))))))
 obtain ⟨L,C,i⟩:=p_1 hF
 refine ZX (λa w=>∃ K : Unit,L = Fl.nx K ∧ Env 25 a [] ∧ M (Old h) h w []) ?_ ?_
 ·refine p_2 ?_
  refine ZN (λ(j : (Vector Bool 16) × Int) a w=>Env 25 a [(1,ptr A 0),(3,ptr B 0),(4,vI j.2)] ∧ M (Old h) h w [raw B (enc j.1),raw A (enc t)]) C ⟨H.s,I⟩ ?_
  rintro j a w ⟨H,I⟩ N e k
  unfold U7 at e
  refine s_2 (Zb (Zd H R λa H=>Zm H R R R λa H=>Ze ?_))
  refine c_if H R e ?_ ?_
  ·intro u e
   refine t_2 (Zw (s_2 (p_2 (s_2 ?_))))
   obtain ⟨E,c,d⟩:=p_1 e
   refine ZG (λa w=>Env 25 a [(1,ptr A 0),(3,ptr B 0),(4,vI j.2),(20,vT E)] ∧ M (Old h) h w [raw B (enc j.1),raw A (enc t)]) ?_ ?_
   ·refine s_1 (Zd H R λa H=>?_)
    obtain ⟨q,l,c⟩:=bvx c
    refine ZC H R R u_5 ty5 l.1 λa H=>ZO (v:=(vB q)) H R ty5 R (At.vec I.ra1 l.2) λa H=>Zm H R R (bB_geq q 16) λa H=>Zd H R λa H=>?_
    refine Yq (decide (q ≥ 16)) (λb=>?_) (λb=>?_)
    ·have c:=Zt c b
     refine k_s H b R R R λa H=>k_s H b R R R λa H=>k_s H b R R R λa H=>k_s H b R R R λa H=>k_s H b R R R λa H=>Z2 H (lkb R b) R λa H=>Zf ?_
     obtain rfl:=o_1 c
     refine Zi ?_
     exact ⟨H.s,I⟩
    have c:=Zs c b
    refine Zl H (Zh H R (lkb R b)) dd_ R λa H=>?_
    obtain ⟨F,m,c⟩:=bvx c
    refine ZI H (Zh H R (lkb R b)) dd_ R R u_5 ty5 m.1 λa H=>ZL (v:=(vB F)) H (Zh H R (lkb R b)) dd_ R ty5 R (At.vec I.ra1 m.2) λa H=>?_
    obtain ⟨G,n,c⟩:=bvx c
    refine ZI H (Zh H R (lkb R b)) dd_ R R underlying329 ty4 n.1 λa H=>ZL (v:=(vT G)) H (Zh H R (lkb R b)) dd_ R ty4 R (At.vec I.ra0 n.2) λa H=>ZZ H (lkb R b) R λa H=>Zf ?_
    obtain rfl:=o_1 c
    refine Zi ?_
    exact ⟨H.s,I⟩
   rintro a w ⟨H,I⟩
   refine c_if H R d ?_ ?_
   ·intro y d
    refine Zb (Zc H R λa H=>Ze ?_)
    obtain rfl:=k _ (ois d)
    obtain rfl:=o_1 i
    exact u_2 (ZA (YZ (ZA (ZA (YZ (ZA (ZA (kr1 H R R I.kept))))))))
   intro y d
   refine t_2 (Zw (s_1 (Zd H R λa H=>?_)))
   obtain ⟨z,o,d⟩:=bvx d
   refine ZC H R R u_5 ty5 o.1 λa H=>ZO (v:=(vB z)) H R ty5 R (At.vec I.ra1 o.2) λa H=>?_
   obtain ⟨O,f,d⟩:=bvx d
   refine ZC H R R underlying329 ty4 f.1 λa H=>Zk (seg:=[vT true]) (cs':=enc (j.1.setIfInBounds ((bI z)).toNat true)) H I Za R R R ty4 R (ZS (v:=j.1) (x:=true) f.1) (t_1 (true : Bool)) (ZF (v:=j.1) (x:=true) f.1) λw a I H=>Zf (Yn (Zw (s_1 (Zd H R λa H=>Zm H R R R λa H=>Zc H R λa H=>Zf (Zi ?_)))))
   exact ⟨_,ois d,H.s,I⟩
  intro u e
  refine s_3 (Zp (Zp (Yv ?_)))
  obtain rfl:=k _ (ois e)
  refine Zi ?_
  have I:=I.f_0
  exact ⟨(),R,H.sub trivial,I⟩
 rintro a w ⟨K,ht,H,I⟩
 subst ht
 have i:=JM i
 refine Zw (Zb (Zc H R λa H=>Ze ?_))
 obtain rfl:=o_1 i
 exact u_2 (kr1 H R R I.kept)
def JO (b : GCipher) : Option (Bool) :=
 ((Td b.Field).bind λh=>if !h then (some true) else ((JF b.Box).bind λc=>if !c then (some true) else ((Ko b.Places).bind λd=>if !d then (some true) else ((KA b.Rounds 1 20).bind λe=>some (!e)))) : Option (Bool)).bind λi=>if i then (some false) else ((V1 b.Field b.Mix).bind λf=>some f.2)
theorem Zf2 (i : World) (e : GCipher) (r : Bool) (hF : JO e = some r) :
  Calls prog 208 [Value.agg (enc e).toArray].toArray i (Rt i (vT r)):=by
 refine ce func208 ?_
 intro a H
 have I:=M.start i
 unfold JO at hF
 refine Zb (ZY (cs:=cat [[vI e.Field],enc e.Box,enc e.Mix,enc e.Places,[vI e.Rounds]]) H I Za ld R R λx w a I H=>Zc H R λa H=>Ze (s_2 ?_))
 obtain ⟨z,b,h⟩:=p_1 hF
 refine ZG (λa w=>Env 36 a [(1,ptr x 0),(26,vT z)] ∧ M (Old i) i w [raw x (cat [[vI e.Field],enc e.Box,enc e.Mix,enc e.Places,[vI e.Rounds]])]) ?_ ?_
 ·refine s_1 (Zr H R (Bg) λa H=>ZO (v:=(vI e.Field)) H R ty2 R (at_0 I.ra0) λa H=>?_)
  obtain ⟨y,A,b⟩:=p_1 b
  refine c_k H I R (cbm func276) (AA _ e.Field y A) λw a I H=>?_
  refine Qe H R λa H=>Zd H R λa H=>?_
  refine Yq (!y) (λf=>?_) (λf=>?_)
  ·have b:=Zt b f
   refine k_s H f R R R λa H=>k_s H f R R R λa H=>k_s H f R R R λa H=>k_s H f R R R λa H=>Z2 H (lkb R f) R λa H=>Zd H R λa H=>Zj H R R R dd_ λa H=>Zj H R R R dd_ λa H=>Zj H R R R dd_ λa H=>Zj H R R R dd_ λa H=>Z2 H R R λa H=>Zd H R λa H=>?_
   refine Zj H R R R dd_ λa H=>Zj H R R R dd_ λa H=>Zj H R R R dd_ λa H=>Zj H R R R dd_ λa H=>Z2 H R R λa H=>Zf ?_
   obtain rfl:=o_1 b
   refine Zi ?_
   exact ⟨H.s,I⟩
  have b:=Zs b f
  refine Zo H (Zh H R (lkb R f)) dd_ R (HV) λa H=>ZB H (Zh H R (lkb R f)) dd_ R Wg R (at_1 I.ra0) (u_1 _) λa H=>?_
  obtain ⟨j,n,b⟩:=p_1 b
  refine ZW H (Zh H R (lkb R f)) dd_ R (cbm func277) (Ze3 _ e.Box j n) ?_
  rintro v w a ⟨rfl,hK⟩ H
  have I:=I.keep hK
  refine QH H (Zh H R (lkb R f)) dd_ R λa H=>ZZ H (lkb R f) R λa H=>Zd H R λa H=>?_
  refine Yq (!j) (λc=>?_) (λc=>?_)
  ·have b:=Zt b c
   refine k_s H c R R R λa H=>k_s H c R R R λa H=>k_s H c R R R λa H=>k_s H c R R R λa H=>Z2 H (lkb R c) R λa H=>Zd H R λa H=>Zj H R R R dd_ λa H=>Zj H R R R dd_ λa H=>Zj H R R R dd_ λa H=>Zj H R R R dd_ λa H=>Z2 H R R λa H=>Zf ?_
   obtain rfl:=o_1 b
   refine Zi ?_
   exact ⟨H.s,I⟩
  have b:=Zs b c
  refine Zo H (Zh H R (lkb R c)) dd_ R (JC) λa H=>ZB H (Zh H R (lkb R c)) dd_ R BL R (at_3 I.ra0) (u_1 _) λa H=>?_
  obtain ⟨k,o,b⟩:=p_1 b
  refine ZW H (Zh H R (lkb R c)) dd_ R (cbm func278) (Zc3 _ e.Places k o) ?_
  rintro v w a ⟨rfl,hK⟩ H
  have I:=I.keep hK
  refine QH H (Zh H R (lkb R c)) dd_ R λa H=>ZZ H (lkb R c) R λa H=>Zd H R λa H=>?_
  refine Yq (!k) (λd=>?_) (λd=>?_)
  ·have b:=Zt b d
   refine k_s H d R R R λa H=>k_s H d R R R λa H=>k_s H d R R R λa H=>k_s H d R R R λa H=>Z2 H (lkb R d) R λa H=>Zf ?_
   obtain rfl:=o_1 b
   refine Zi ?_
   exact ⟨H.s,I⟩
  have b:=Zs b d
  refine Zo H (Zh H R (lkb R d)) dd_ R (jY) λa H=>ZL (v:=(vI e.Rounds)) H (Zh H R (lkb R d)) dd_ R ty2 R (at_4 I.ra0) λa H=>?_
  obtain ⟨q,t,b⟩:=p_1 b
  refine ZW H (Zh H R (lkb R d)) dd_ R (cbm func241) (y7 _ e.Rounds 1 20 q t) ?_
  rintro v w a ⟨rfl,hK⟩ H
  have I:=I.keep hK
  refine QH H (Zh H R (lkb R d)) dd_ R λa H=>ZZ H (lkb R d) R λa H=>Zf ?_
  obtain rfl:=o_1 b
  refine Zi ?_
  exact ⟨H.s,I⟩
 rintro a w ⟨H,I⟩
 refine c_if H R h ?_ ?_
 ·intro l h
  refine Zb (Zc H R λa H=>Ze ?_)
  obtain rfl:=o_1 h
  exact u_2 (ZA (kr1 H R R I.kept))
 intro l h
 refine t_2 (Zw (Zb (Zr H R (Bg) λa H=>ZO (v:=(vI e.Field)) H R ty2 R (at_0 I.ra0) λa H=>Zr H R (Hm) λa H=>Zu H R Ve R (at_2 I.ra0) (u_1 _) λa H=>?_)))
 obtain ⟨m,u,h⟩:=p_1 h
 refine c_k H I R (cbm func279) (Bw _ e.Field e.Mix m u) λw a I H=>?_
 refine Zd H R λa H=>ZM H Za ld R R λa H=>ZM H Za ld R R λa H=>Zx H I Ve λB w a I H=>s_w m.1 H I Za R R R Ve λw a I H=>Zc H R λa H=>Ze (Zb (Zd H R λa H=>Zc H R λa H=>Ze ?_))
 obtain rfl:=o_1 h
 exact u_2 (kr1 H R R I.kept)
def Kp (c : GCipher) (b : Int) (d : Int) (e : Int) : Option (Int) :=
 (JO c).bind λf=>if !f then (some 1) else ((if decide (b < d) then (some true) else (some (decide (b > e))) : Option (Bool)).bind λh=>if h then (some 2) else (some 0))
theorem Zak (f : World) (e : GCipher) (i : Int) (j : Int) (l : Int) (r : Int) (hF : Kp e i j l = some r) :
  Calls prog 114 [Value.agg (enc e).toArray,vI i,vI j,vI l].toArray f (Rt f (vI r)):=by
 refine ce func114 ?_
 intro a H
 have I:=M.start f
 unfold Kp at hF
 refine Zb (ZY (cs:=cat [[vI e.Field],enc e.Box,enc e.Mix,enc e.Places,[vI e.Rounds]]) H I Za ld R R λq w a I H=>Zc H R λa H=>Ze (s_2 (p_2 (Zb (Zu H R Wk R I.ra0 cq λa H=>?_)))))
 obtain ⟨m,n,hF⟩:=p_1 hF
 refine c_k H I R (cbm func208) (Zf2 _ e m n) λw a I H=>?_
 refine Qe H R λa H=>Zc H R λa H=>Ze ?_
 refine c_if H R hF ?_ ?_
 ·intro k hF
  refine Zb (Zc H R λa H=>Ze ?_)
  obtain rfl:=o_1 hF
  exact u_2 (YZ (ZA (kr1 H R R I.kept)))
 intro k hF
 obtain ⟨o,c,d⟩:=p_1 hF
 refine ZG (λa w=>Env 22 a [(13,vT o)] ∧ M (Old f) f w []) ?_ ?_
 ·refine s_1 (Zd H R λa H=>Zd H R λa H=>Zm H R R R λa H=>Zd H R λa H=>?_)
  refine Yq (decide (i < j)) (λb=>?_) (λb=>?_)
  ·have c:=Zt c b
   refine k_s H b R R R λa H=>k_s H b R R R λa H=>k_s H b R R R λa H=>Z2 H (lkb R b) R λa H=>Zc H R λa H=>Zf ?_
   obtain rfl:=o_1 c
   refine Zi ?_
   have I:=I.f_0
   exact ⟨H.s,I⟩
  have c:=Zs c b
  refine Zl H (Zh H R (lkb R b)) dd_ R λa H=>Zl H (Zh H R (lkb R b)) dd_ R λa H=>Ye H (Zh H R (lkb R b)) dd_ R R R λa H=>ZZ H (lkb R b) R λa H=>Zc H R λa H=>Zf ?_
  obtain rfl:=o_1 c
  refine Zi ?_
  have I:=I.f_0
  exact ⟨H.s,I⟩
 rintro a w ⟨H,I⟩
 refine c_if H R d ?_ ?_
 ·intro h d
  refine Zb (Zc H R λa H=>Ze ?_)
  obtain rfl:=o_1 d
  exact u_2 (YZ (ZA (kr1 H R R I.kept)))
 intro h d
 refine t_2 (Yn (Zw (Zb (Zc H R λa H=>Ze ?_))))
 obtain rfl:=o_1 d
 exact u_2 (kr1 H R R I.kept)
def Kk (b : List UInt8) : Option ((List UInt8)) :=
 (app 1 ([] : List UInt8) b).bind λc=>some (([] : List UInt8) ++ b)
theorem Zbf (d : World) (e : List UInt8) (b : Value) (c : Ro d e [b]) (r : List UInt8) (hF : Kk e = some r) :
  Calls prog 96 [b].toArray d (e_r λv w'=>(∃ f : Value,v = f ∧ Fr d w' [osl NoB r f] ∧ Kept (Old d) d w')):=by
 refine ce func96 ?_
 intro a H
 have I:=M.start d
 unfold Kk at hF
 refine Zb (Zc H R λa H=>Ze (Zb (ZR (xs:=[]) (l:=xz) (vs:=[]) H I Za ld R R o_2 ty5 R dd_ R λk w a I H=>Zd H R λa H=>?_)))
 obtain ⟨m,h,hF⟩:=p_1 hF
 have i:=(Yc h).1
 refine Yg H I Za ld R R (I.rd c) o_2 ty5 R dd_ i λj w a I H=>Zc H R λa H=>Ze ?_
 obtain rfl:=o_1 hF
 exact u_2 (ZT H R (Zy H R) ⟨_,R,j,R,I.outF (Z1 Yj),I.kept⟩)
def Be (b : List UInt8) : Option (Fl (List UInt8) (List UInt8)) :=
 if (Int.tmod (b.length : Int) 16) != 0 then ((app 1 b ([0] : List UInt8)).bind λc=>some (Fl.nx (b ++ ([0] : List UInt8)))) else (some (Fl.ex b))
def K9 (d : List UInt8) : Option ((List UInt8)) :=
 (Kk d).bind λc=>(app 1 c ([1] : List UInt8)).bind λe=>(ZK (Be) (c ++ ([1] : List UInt8))).bind λb=>some b
theorem Zdi (d : World) (o : List UInt8) (c : Value) (h : Ro d o [c]) (r : List UInt8) (hF : K9 o = some r) :
  Calls prog 118 [c].toArray d (e_r λv w'=>(∃ z : Value,v = z ∧ Fr d w' [osl NoB r z] ∧ Kept (Old d) d w')):=by
 refine ce func118 ?_
 intro a H
 have I:=M.start d
 unfold K9 at hF
 refine Zb (Zc H R λa H=>Ze (Zb (Zd H R λa H=>?_)))
 obtain ⟨A,B,hF⟩:=p_1 hF
 refine Zn H R (cbm func96) (Zbf _ o c (I.rdo h) A B) ?_
 rintro K w a ⟨_,rfl,hFr,hK⟩ H
 have I:=I.add hK hFr
 refine ZR (xs:=[.const (vB 1)]) (l:=xA) (vs:=[vB 1]) H I Za ld R R o_2 ty5 R dd_ R λL w a I H=>?_
 obtain ⟨N,C,hF⟩:=p_1 hF
 obtain ⟨q,rfl⟩:=Yc C
 have I:=I.pl1
 refine Yg H I Za ld R R (I.sl1) o_2 ty5 R dd_ q λu8 w a I H=>Zc H R λa H=>Ze ?_
 obtain ⟨t,i,j⟩:=p_1 hF
 refine ZG (λa w=>∃ e : Value,Env 16 a [(3,e)] ∧ M (Old d) d w [osl NoB t e]) ?_ ?_
 ·refine p_2 ?_
  have I:=I.f_1
  refine ZN (λ(k : List UInt8) a w=>∃ f : Value,Env 16 a [(3,f)] ∧ M (Old d) d w [osl NoB k f]) i ⟨u8,H.s,I⟩ ?_
  rintro k a w ⟨f,H,I⟩ E b m
  unfold Be at b
  refine s_2 (Zb (Zd H R λa H=>Yp H R o_2 (I.sl0) λa H=>Zm H R R (J2 _ _ dd_) λa H=>Zm H R R R λa H=>Ze ?_))
  refine c_if H R b ?_ ?_
  ·intro n b
   refine t_2 (Zw (p_2 (s_1 (Zd H R λa H=>ZR (xs:=[.const (vB 0)]) (l:=([0] : List UInt8)) (vs:=[vB 0]) H I Za ld R R o_2 ty5 R dd_ R λF w a I H=>?_))))
   obtain ⟨G,u,b⟩:=p_1 b
   obtain ⟨x,rfl⟩:=Yc u
   have I:=I.pl1
   refine Yg H I Za ld R R (I.sl1) o_2 ty5 R dd_ x λy w a I H=>Zc H R λa H=>Zf (Yn (Zi ?_))
   have I:=I.f_1
   exact ⟨_,ois b,y,H.s,I⟩
  intro n b
  refine s_3 (Zp (Zp (Yv ?_)))
  obtain rfl:=m _ (ois b)
  refine Zi ?_
  exact ⟨f,H.s,I⟩
 rintro a w ⟨e,H,I⟩
 refine Zb (Zd H R λa H=>Zc H R λa H=>Ze ?_)
 obtain rfl:=o_1 j
 exact u_2 (ZT H R (Zy H R) ⟨_,R,e,R,I.outF (Z1 Yj),I.kept⟩)
def Ta (d : List UInt8) (b : V16 × Int) : Option (Fl (V16 × Int) V16) :=
 if decide (b.2 < (d.length : Int)) then ((idx d b.2).bind λc=>(ZP b.1 b.2).bind λe=>some (Fl.nx ((b.1.setIfInBounds (b.2).toNat c),wr (b.2 + 1)))) else (some (Fl.ex b.1))
def Kf (b : List UInt8) : Option (V16) :=
 (ZK (Ta b) ((Vector.replicate 16 (0 : UInt8)),0)).bind λc=>some c
theorem Zb5 (h : World) (u : List UInt8) (e : Value) (c : Ro h u [e]) (r : V16) (hF : Kf u = some r) :
  Calls prog 211 [e].toArray h (Rt h (Value.agg (enc r).toArray)):=by
 refine ce func211 ?_
 intro a H
 have I:=M.start h
 unfold Kf at hF
 refine Zb (Zx H I ZD λn w a I H=>Ze (Zb (Xi (parts:=[]) (vs:=[]) (cs:=enc xb) H Za ld R R ZD R ty5 YK λa H=>Zx H I ZD λo w a I H=>s_w xb H I Za R R R ZD λw a I H=>Ze (s_2 (Zb (Zc H R λa H=>Ze ?_))))))
 obtain ⟨y,q,t⟩:=p_1 hF
 refine ZX (λa w=>Env 19 a [(2,ptr n 0),(3,ptr o 0)] ∧ M (Old h) h w [raw o (enc y),raw n xi]) ?_ ?_
 ·refine p_2 ?_
  refine ZN (λ(j : V16 × Int) a w=>Env 19 a [(0,e),(2,ptr n 0),(3,ptr o 0),(4,vI j.2)] ∧ M (Old h) h w [raw o (enc j.1),raw n xi]) q ⟨H.s,I⟩ ?_
  rintro j a w ⟨H,I⟩ z b k
  unfold Ta at b
  refine s_2 (Zb (Zd H R λa H=>Zd H R λa H=>Yp H R o_2 (I.rd c) λa H=>Zm H R R R λa H=>Ze ?_))
  refine c_if H R b ?_ ?_
  ·intro l b
   refine t_2 (Zw (s_2 (p_2 (s_1 (Zd H R λa H=>Zd H R λa H=>Zd H R λa H=>?_)))))
   obtain ⟨d,i,b⟩:=bix b
   refine Ys H R R o_2 ty5 (I.rd c) i.1 λa H=>ZO (v:=(vB d)) H R ty5 R (Xx (I.rd c) i.2) λa H=>?_
   obtain ⟨A,f,b⟩:=bvx b
   refine ZC H R R u_3 ty5 f.1 λa H=>Zk (seg:=[vB d]) (cs':=enc (j.1.setIfInBounds (j.2).toNat d)) H I Za R R R ty5 R (ZS (v:=j.1) (x:=d) f.1) (t_1 (d : UInt8)) (ZF (v:=j.1) (x:=d) f.1) λw a I H=>Zf (Yn (Zw (s_1 (Zd H R λa H=>Zm H R R R λa H=>Zc H R λa H=>Zf (Zi ?_)))))
   exact ⟨_,ois b,H.s,I⟩
  intro l b
  refine s_3 (Zp (Zp (Yv ?_)))
  obtain rfl:=k _ (ois b)
  refine Zi ?_
  exact ⟨H.s,I⟩
 rintro a w ⟨H,I⟩
 refine Zw (Zb (Zu H R ZD R I.ra0 (u_1 _) λa H=>?_))
 have I:=I.pl1
 refine s_w y H I Za R R R ZD λw a I H=>Ze ?_
 obtain rfl:=o_1 t
 have m : Z8 prog _ _ (.cell 2 53) _:=ZH H R ZD R I.ra0 (u_1 _) R
 exact u_2 (ZT H R m ⟨_,R,R,I.kept⟩)
def UC (d : List UInt8) (b : List V16 × Int) : Option (Fl (List V16 × Int) (List V16)) :=
 if decide (b.2 < (d.length : Int)) then ((slc d b.2 (if (d.length : Int) < (wr (b.2 + 16)) then (d.length : Int) else (wr (b.2 + 16)))).bind λe=>(Kf e).bind λc=>(app 16 b.1 ([c] : List V16)).bind λf=>some (Fl.nx ((b.1 ++ ([c] : List V16)),wr (b.2 + 16)))) else (some (Fl.ex b.1))
def Qz (b : List UInt8) : Option ((List V16)) :=
 (ZK (UC b) (([] : List V16),0)).bind λc=>some c
theorem qi (e : World) (i : List UInt8) (d : Value) (c : Ro e i [d]) (r : List V16) (hF : Qz i = some r) :
  Calls prog 117 [d].toArray e (e_r λv w'=>(∃ C : Value,v = C ∧ Fr e w' [osl NoB r C] ∧ Kept (Old e) e w')):=by
 refine ce func117 ?_
 intro a H
 have I:=M.start e
 unfold Qz at hF
 refine Zb (Zc H R λa H=>Ze (Zb (ZR (xs:=[]) (l:=([] : List V16)) (vs:=[]) H I Za ld R R o_3 ZD R dd_ R λE w a I H=>Zc H R λa H=>Ze (s_2 (Zb (Zc H R λa H=>Ze ?_))))))
 obtain ⟨F,t,u⟩:=p_1 hF
 refine ZX (λa w=>∃ o : Value,Env 25 a [(3,o)] ∧ M (Old e) e w [osl NoB F o]) ?_ ?_
 ·refine p_2 ?_
  refine ZN (λ(f : List V16 × Int) a w=>∃ q : Value,Env 25 a [(0,d),(3,q),(4,vI f.2)] ∧ M (Old e) e w [osl NoB f.1 q]) t ⟨E,H.s,I⟩ ?_
  rintro f a w ⟨q,H,I⟩ G b j
  unfold UC at b
  refine s_2 (Zb (Zd H R λa H=>Zd H R λa H=>Yp H R o_2 (I.rd c) λa H=>Zm H R R R λa H=>Ze ?_))
  refine c_if H R b ?_ ?_
  ·intro k b
   refine t_2 (Zw (s_2 (p_2 (s_1 (Zd H R λa H=>Zd H R λa H=>Zd H R λa H=>Zd H R λa H=>Zm H R R R λa H=>Zd H R λa H=>Yp H R o_2 (I.rd c) λa H=>Znx H Za ld R R λa H=>?_)))))
   obtain ⟨m,n,b⟩:=p_1 b
   refine Uk H Za ld R R R R R o_2 ty5 (I.rd c) n λa H=>?_
   have x : Rep.sat (Old e) e m [ZV d (f.2).toNat ((if (i.length : Int) < (wr (f.2 + 16)) then (i.length : Int) else (wr (f.2 + 16)))).toNat 1] []:=Yo c n -- ^
   obtain ⟨h,y,b⟩:=p_1 b
   refine c_k H I R (cbm func211) (Zb5 _ m (ZV d (f.2).toNat ((if (i.length : Int) < (wr (f.2 + 16)) then (i.length : Int) else (wr (f.2 + 16)))).toNat 1) (I.rdo x) h y) λw a I H=>?_
   refine ZR (xs:=[.tmp 21]) (l:=([h] : List V16)) (vs:=[Value.agg (enc h).toArray]) H I Za ld R R o_3 ZD R dd_ R λK w a I H=>?_
   obtain ⟨L,z,b⟩:=p_1 b
   obtain ⟨A,rfl⟩:=Yc z
   have I:=I.pl1
   refine Yg H I Za ld R R (I.sl1) o_3 ZD R dd_ A λB w a I H=>Zc H R λa H=>Zf (Yn (Zw (s_1 (Zd H R λa H=>Zm H R R R λa H=>Zc H R λa H=>Zf (Zi ?_)))))
   have I:=I.f_1
   exact ⟨_,ois b,B,H.s,I⟩
  intro k b
  refine s_3 (Zp (Zp (Yv ?_)))
  obtain rfl:=j _ (ois b)
  refine Zi ?_
  exact ⟨q,H.s,I⟩
 rintro a w ⟨o,H,I⟩
 refine Zw (Zb (Zd H R λa H=>Zc H R λa H=>Ze ?_))
 obtain rfl:=o_1 u
 exact u_2 (ZT H R (Zy H R) ⟨_,R,o,R,I.outF (Z1 Yj),I.kept⟩)
def T0 (e : V16) (b : V16 × Int) : Option (Fl (V16 × Int) V16) :=
 if decide (b.2 < 16) then ((ZP b.1 b.2).bind λc=>(ZP e b.2).bind λd=>(ZP b.1 b.2).bind λf=>some (Fl.nx ((b.1.setIfInBounds (b.2).toNat (c ^^^ d)),wr (b.2 + 1)))) else (some (Fl.ex b.1))
def Um (b : V16) (c : V16) : Option (V16) :=
 (ZK (T0 c) (b,0)).bind λd=>some d
theorem BE (j : World) (t : V16) (n : V16) (r : V16) (hF : Um t n = some r) :
  Calls prog 210 [Value.agg (enc t).toArray,Value.agg (enc n).toArray].toArray j (Rt j (Value.agg (enc r).toArray)):=by
 refine ce func210 ?_
 intro a H
 have I:=M.start j
 unfold Um at hF
 refine Zb (ZY (cs:=enc t) H I Za ld R R λo w a I H=>ZY (cs:=enc n) H I Za ld R R λB w a I H=>Zx H I ZD λq w a I H=>Ze (s_2 (Zb (Zc H R λa H=>Ze ?_))))
 obtain ⟨C,y,A⟩:=p_1 hF
 refine ZX (λa w=>Env 20 a [(2,ptr o 0),(4,ptr q 0)] ∧ M (Old j) j w [raw q xi,raw o (enc C)]) ?_ ?_
 ·refine p_2 ?_
  refine ZN (λ(e : V16 × Int) a w=>Env 20 a [(2,ptr o 0),(3,ptr B 0),(4,ptr q 0),(5,vI e.2)] ∧ M (Old j) j w [raw q xi,raw B (enc n),raw o (enc e.1)]) y ⟨H.s,I⟩ ?_
  rintro e a w ⟨H,I⟩ F b k
  unfold T0 at b
  refine s_2 (Zb (Zd H R λa H=>Zm H R R R λa H=>Ze ?_))
  refine c_if H R b ?_ ?_
  ·intro l b
   refine t_2 (Zw (s_2 (p_2 ?_)))
   obtain ⟨c,h,b⟩:=bvx b
   obtain ⟨d,i,b⟩:=bvx b
   obtain ⟨G,f,b⟩:=bvx b
   refine Z7 [10,11,12,13,14,15,16,17,18] YJ R R dd_ R H I (q_m (λ_=>R) (q_m (λ_=>R) (qsP (λz=>ZI z.E Za ld R R u_3 ty5 h.1 (kr0 R)) (qsP (λz=>ZL (v:=(vB c)) z.E Za ld R ty5 R (At.vec (z.M.ra2) h.2) (kr0 R)) (q_m (λ_=>R) (qsP (λz=>ZI z.E Za ld R R u_3 ty5 i.1 (kr0 R)) (qsP (λz=>ZL (v:=(vB d)) z.E Za ld R ty5 R (At.vec (z.M.ra1) i.2) (kr0 R)) (qsP (v:=(vB (c ^^^ d))) (λz=>Ye z.E Za ld R R (VH c d) (kr0 R)) (qsP (λz=>ZI z.E Za ld R R u_3 ty5 f.1 (kr0 R)) qs0))))))))) ?_
   ·intro a w u H I
    have I:=I.pl2
    refine Zk (seg:=[vB (c ^^^ d)]) (cs':=enc (e.1.setIfInBounds (e.2).toNat (c ^^^ d))) H I Za R R R ty5 R (ZS (v:=e.1) (x:=c ^^^ d) f.1) (t_1 (c ^^^ d : UInt8)) (ZF (v:=e.1) (x:=c ^^^ d) f.1) λw a I H=>Zf (Yn (Zw (s_1 (Zd H R λa H=>Zm H R R R λa H=>Zc H R λa H=>Zf (Zi ?_)))))
    have I:=I.pl2.pl2
    exact ⟨_,ois b,H.s,I⟩
  intro l b
  refine s_3 (Zp (Zp (Yv ?_)))
  obtain rfl:=k _ (ois b)
  refine Zi ?_
  have I:=I.pl2.pl1.f_2
  exact ⟨H.s,I⟩
 rintro a w ⟨H,I⟩
 refine Zw (Zb (Zu H R ZD R I.ra1 (u_1 _) λa H=>s_w C H I Za R R R ZD λw a I H=>Ze ?_))
 obtain rfl:=o_1 A
 have m : Z8 prog _ _ (.cell 4 53) _:=ZH H R ZD R I.ra0 (u_1 _) R
 exact u_2 (ZT H R m ⟨_,R,R,I.kept⟩)
def U8 (i : V256) (j : Int) (b : V16 × Int) : Option (Fl (V16 × Int) V16) :=
 if decide (b.2 < 16) then (((ZP b.1 (Int.tmod (wr (b.2 + 15)) 16)).bind λc=>(if b.2 == 0 then (some (c ^^^ (Zz j))) else (some c) : Option (UInt8)).bind λd=>(ZP b.1 b.2).bind λe=>(ZP i (bI d)).bind λf=>(ZP b.1 b.2).bind λk=>some (b.1.setIfInBounds (b.2).toNat (e ^^^ f)) : Option (V16)).bind λh=>some (Fl.nx (h,wr (b.2 + 1)))) else (some (Fl.ex b.1))
def Kq (b : V256) (c : V16) (d : Int) : Option (V16) :=
 (ZK (U8 b d) (c,0)).bind λe=>some e
theorem Zcn (i : World) (t : V256) (N : V16) (y : Int) (r : V16) (hF : Kq t N y = some r) :
  Calls prog 322 [Value.agg (enc t).toArray,Value.agg (enc N).toArray,vI y].toArray i (Rt i (Value.agg (enc r).toArray)):=by
 refine ce func322 ?_
 intro a H
 have I:=M.start i
 unfold Kq at hF
 refine Zb (ZY (cs:=enc t) H I Za ld R R λA w a I H=>ZY (cs:=enc N) H I Za ld R R λl w a I H=>Zx H I ZD λm w a I H=>Ze (s_2 (Zb (Zc H R λa H=>Ze ?_))))
 obtain ⟨X,O,T⟩:=p_1 hF
 refine ZX (λa w=>Env 34 a [(4,ptr l 0),(6,ptr m 0)] ∧ M (Old i) i w [raw m xi,raw l (enc X)]) ?_ ?_
 ·refine p_2 ?_
  refine ZN (λ(c : V16 × Int) a w=>Env 34 a [(2,vI y),(3,ptr A 0),(4,ptr l 0),(6,ptr m 0),(7,vI c.2)] ∧ M (Old i) i w [raw m xi,raw l (enc c.1),raw A (enc t)]) O ⟨H.s,I⟩ ?_
  rintro c a w ⟨H,I⟩ Y d B
  unfold U8 at d
  refine s_2 (Zb (Zd H R λa H=>Zm H R R R λa H=>Ze ?_))
  refine c_if H R d ?_ ?_
  ·intro C d
   refine t_2 (Zw ?_)
   obtain ⟨U,j,F⟩:=p_1 d
   refine ZG (λa w=>Env 34 a [(2,vI y),(3,ptr A 0),(4,ptr l 0),(6,ptr m 0),(7,vI c.2)] ∧ M (Old i) i w [raw m xi,raw l (enc U),raw A (enc t)]) ?_ ?_
   ·refine p_2 (Zb (Zd H R λa H=>Zm H R R R λa H=>Zm H R R (J2 _ _ dd_) λa H=>?_))
    obtain ⟨G,n,j⟩:=bvx j
    refine ZC H R R u_3 ty5 n.1 λa H=>ZO (v:=(vB G)) H R ty5 R (At.vec I.ra1 n.2) λa H=>Zc H R λa H=>Ze ?_
    obtain ⟨W,e,b⟩:=p_1 j
    refine ZG (λa w=>Env 34 a [(2,vI y),(3,ptr A 0),(4,ptr l 0),(6,ptr m 0),(7,vI c.2),(8,vB W)] ∧ M (Old i) i w [raw m xi,raw l (enc c.1),raw A (enc t)]) ?_ ?_
    ·refine Zb (Zd H R λa H=>Zm H R R R λa H=>Ze ?_)
     refine c_if H R e ?_ ?_
     ·intro K e
      refine s_1 (Zd H R λa H=>Zd H R λa H=>Xq H Za ld R t_4 t_3 λa H=>Zm H R R (VH G (Zz y)) λa H=>Zc H R λa H=>Zf ?_)
      obtain rfl:=o_1 e
      refine Zi ?_
      exact ⟨H.s,I⟩
     intro K e
     refine t_2 ?_
     obtain rfl:=o_1 e
     refine Zi ?_
     exact ⟨H.s,I⟩
    rintro a w ⟨H,I⟩
    obtain ⟨f,o,b⟩:=bvx b
    obtain ⟨h,q,b⟩:=bvx b
    obtain ⟨Z,k,b⟩:=bvx b
    refine Z7 [24,25,26,27,28,29,30,31,32] YJ R R dd_ R H I (q_m (λ_=>R) (q_m (λ_=>R) (qsP (λz=>ZI z.E Za ld R R u_3 ty5 o.1 (kr0 R)) (qsP (λz=>ZL (v:=(vB f)) z.E Za ld R ty5 R (At.vec (z.M.ra1) o.2) (kr0 R)) (q_m (λ_=>R) (qsP (λz=>ZI z.E Za ld R R u_4 ty5 q.1 (kr0 R)) (qsP (λz=>ZL (v:=(vB h)) z.E Za ld R ty5 R (At.vec (z.M.ra2) q.2) (kr0 R)) (qsP (v:=(vB (f ^^^ h))) (λz=>Ye z.E Za ld R R (VH f h) (kr0 R)) (qsP (λz=>ZI z.E Za ld R R u_3 ty5 k.1 (kr0 R)) qs0))))))))) ?_
    ·intro a w u H I
     have I:=I.pl1
     refine Zk (seg:=[vB (f ^^^ h)]) (cs':=enc (c.1.setIfInBounds (c.2).toNat (f ^^^ h))) H I Za R R R ty5 R (ZS (v:=c.1) (x:=f ^^^ h) k.1) (t_1 (f ^^^ h : UInt8)) (ZF (v:=c.1) (x:=f ^^^ h) k.1) λw a I H=>Zf (Yn ?_)
     obtain rfl:=o_1 b
     refine Zi ?_
     have I:=I.pl2.pl1.pl2
     exact ⟨H.s,I⟩
   rintro a w ⟨H,I⟩
   refine s_1 (Zd H R λa H=>Zm H R R R λa H=>Zc H R λa H=>Zf (Zi ?_))
   exact ⟨_,ois F,H.s,I⟩
  intro C d
  refine s_3 (Zp (Zp (Yv ?_)))
  obtain rfl:=B _ (ois d)
  refine Zi ?_
  have I:=I.pl1.pl1.f_2
  exact ⟨H.s,I⟩
 rintro a w ⟨H,I⟩
 refine Zw (Zb (Zu H R ZD R I.ra1 (u_1 _) λa H=>s_w X H I Za R R R ZD λw a I H=>Ze ?_))
 obtain rfl:=o_1 T
 have L : Z8 prog _ _ (.cell 6 53) _:=ZH H R ZD R I.ra0 (u_1 _) R
 exact u_2 (ZT H R L ⟨_,R,R,I.kept⟩)
def U9 (d : GCipher) (e : Int) (b : V16 × List V16 × Int) : Option (Fl (V16 × List V16 × Int) (List V16)) :=
 if decide (b.2.2 ≤ e) then ((Kq d.Box b.1 b.2.2).bind λc=>(app 16 b.2.1 ([c] : List V16)).bind λf=>some (Fl.nx (c,b.2.1 ++ ([c] : List V16),wr (b.2.2 + 1)))) else (some (Fl.ex b.2.1))
def Kh (c : GCipher) (b : V16) (d : Int) : Option ((List V16)) :=
 (ZK (U9 c d) (b,([b] : List V16),1)).bind λe=>some e
theorem Zco (e : World) (c : GCipher) (j : V16) (n : Int) (r : List V16) (hF : Kh c j n = some r) :
  Calls prog 280 [Value.agg (enc c).toArray,Value.agg (enc j).toArray,vI n].toArray e (e_r λv w'=>(∃ z : Value,v = z ∧ Fr e w' [osl NoB r z] ∧ Kept (Old e) e w')):=by
 refine ce func280 ?_
 intro a H
 have I:=M.start e
 unfold Kh at hF
 refine Zb (ZY (cs:=cat [[vI c.Field],enc c.Box,enc c.Mix,enc c.Places,[vI c.Rounds]]) H I Za ld R R λA w a I H=>ZY (cs:=enc j) H I Za ld R R λB w a I H=>Zc H R λa H=>Ze (Zb (Zu H R ZD R I.ra0 (u_1 _) λa H=>ZR (xs:=[.tmp 9]) (l:=([j] : List V16)) (vs:=[Value.agg (enc j).toArray]) H I Za ld R R o_3 ZD R dd_ R λC w a I H=>Zc H R λa H=>Ze (s_2 (Zb (Zc H R λa H=>Ze ?_))))))
 obtain ⟨E,o,q⟩:=p_1 hF
 refine ZX (λa w=>∃ f : Value,Env 26 a [(7,f)] ∧ M (Old e) e w [osl NoB E f]) ?_ ?_
 ·refine p_2 ?_
  have I:=I.pl2.pl2
  refine ZN (λ(d : V16 × List V16 × Int) a w=>∃ h : Value,Env 26 a [(2,vI n),(3,ptr A 0),(4,ptr B 0),(7,h),(8,vI d.2.2)] ∧ M (Old e) e w [raw B (enc d.1),raw A (cat [[vI c.Field],enc c.Box,enc c.Mix,enc c.Places,[vI c.Rounds]]),osl NoB d.2.1 h]) o ⟨C,H.s,I⟩ ?_
  rintro d a w ⟨h,H,I⟩ F b k
  unfold U9 at b
  refine s_2 (Zb (Zd H R λa H=>Zd H R λa H=>Zm H R R R λa H=>Ze ?_))
  refine c_if H R b ?_ ?_
  ·intro m b
   refine t_2 (Zw (s_2 (p_2 (Zb (Zr H R (HV) λa H=>Zu H R Wg R (at_1 I.ra1) (u_1 _) λa H=>Zu H R ZD R I.ra0 (u_1 _) λa H=>Zd H R λa H=>?_)))))
   obtain ⟨i,t,b⟩:=p_1 b
   refine c_k H I R (cbm func322) (Zcn _ c.Box d.1 d.2.2 i t) λw a I H=>?_
   refine s_w i H I Za R R R ZD λw a I H=>Ze (s_1 (Zd H R λa H=>Zu H R ZD R I.ra0 (u_1 _) λa H=>ZR (xs:=[.tmp 22]) (l:=([i] : List V16)) (vs:=[Value.agg (enc i).toArray]) H I Za ld R R o_3 ZD R dd_ R λG w a I H=>?_))
   obtain ⟨K,u,b⟩:=p_1 b
   obtain ⟨x,rfl⟩:=Yc u
   have I:=I.pl3
   refine Yg H I Za ld R R (I.sl1) o_3 ZD R dd_ x λy w a I H=>Zc H R λa H=>Zf (Yn (Zw (s_1 (Zd H R λa H=>Zm H R R R λa H=>Zc H R λa H=>Zf (Zi ?_)))))
   have I:=I.pl3.pl3.f_3
   exact ⟨_,ois b,y,H.s,I⟩
  intro m b
  refine s_3 (Zp (Zp (Yv ?_)))
  obtain rfl:=k _ (ois b)
  refine Zi ?_
  have I:=I.pl2.f_1
  exact ⟨h,H.s,I⟩
 rintro a w ⟨f,H,I⟩
 refine Zw (Zb (Zd H R λa H=>Zc H R λa H=>Ze ?_))
 obtain rfl:=o_1 q
 exact u_2 (ZT H R (Zy H R) ⟨_,R,f,R,I.outF (Z1 Yj),I.kept⟩)
def Uz (e : V256) (b : V16 × Int) : Option (Fl (V16 × Int) V16) :=
 if decide (b.2 < 16) then ((ZP b.1 b.2).bind λc=>(ZP e (bI c)).bind λd=>(ZP b.1 b.2).bind λf=>some (Fl.nx ((b.1.setIfInBounds (b.2).toNat d),wr (b.2 + 1)))) else (some (Fl.ex b.1))
def QI (b : V256) (c : V16) : Option (V16) :=
 (ZK (Uz b) (c,0)).bind λd=>some d
theorem qj (i : World) (m : V256) (q : V16) (r : V16) (hF : QI m q = some r) :
  Calls prog 282 [Value.agg (enc m).toArray,Value.agg (enc q).toArray].toArray i (Rt i (Value.agg (enc r).toArray)):=by
 refine ce func282 ?_
 intro a H
 have I:=M.start i
 unfold QI at hF
 refine Zb (ZY (cs:=enc m) H I Za ld R R λz w a I H=>ZY (cs:=enc q) H I Za ld R R λn w a I H=>Zx H I ZD λo w a I H=>Ze (s_2 (Zb (Zc H R λa H=>Ze ?_))))
 obtain ⟨A,t,u⟩:=p_1 hF
 refine ZX (λa w=>Env 18 a [(3,ptr n 0),(4,ptr o 0)] ∧ M (Old i) i w [raw o xi,raw n (enc A)]) ?_ ?_
 ·refine p_2 ?_
  refine ZN (λ(c : V16 × Int) a w=>Env 18 a [(2,ptr z 0),(3,ptr n 0),(4,ptr o 0),(5,vI c.2)] ∧ M (Old i) i w [raw o xi,raw n (enc c.1),raw z (enc m)]) t ⟨H.s,I⟩ ?_
  rintro c a w ⟨H,I⟩ B b j
  unfold Uz at b
  refine s_2 (Zb (Zd H R λa H=>Zm H R R R λa H=>Ze ?_))
  refine c_if H R b ?_ ?_
  ·intro k b
   refine t_2 (Zw (s_2 (p_2 (s_1 (Zd H R λa H=>Zd H R λa H=>?_)))))
   obtain ⟨y,f,b⟩:=bvx b
   refine ZC H R R u_3 ty5 f.1 λa H=>ZO (v:=(vB y)) H R ty5 R (At.vec I.ra1 f.2) λa H=>?_
   obtain ⟨d,h,b⟩:=bvx b
   refine ZC H R R u_4 ty5 h.1 λa H=>ZO (v:=(vB d)) H R ty5 R (At.vec I.ra2 h.2) λa H=>?_
   obtain ⟨C,e,b⟩:=bvx b
   refine ZC H R R u_3 ty5 e.1 λa H=>?_
   have I:=I.pl1
   refine Zk (seg:=[vB d]) (cs':=enc (c.1.setIfInBounds (c.2).toNat d)) H I Za R R R ty5 R (ZS (v:=c.1) (x:=d) e.1) (t_1 (d : UInt8)) (ZF (v:=c.1) (x:=d) e.1) λw a I H=>Zf (Yn (Zw (s_1 (Zd H R λa H=>Zm H R R R λa H=>Zc H R λa H=>Zf (Zi ?_)))))
   have I:=I.pl2.pl1.pl2
   exact ⟨_,ois b,H.s,I⟩
  intro k b
  refine s_3 (Zp (Zp (Yv ?_)))
  obtain rfl:=j _ (ois b)
  refine Zi ?_
  have I:=I.pl1.pl1.f_2
  exact ⟨H.s,I⟩
 rintro a w ⟨H,I⟩
 refine Zw (Zb (Zu H R ZD R I.ra1 (u_1 _) λa H=>s_w A H I Za R R R ZD λw a I H=>Ze ?_))
 obtain rfl:=o_1 u
 have l : Z8 prog _ _ (.cell 4 53) _:=ZH H R ZD R I.ra0 (u_1 _) R
 exact u_2 (ZT H R l ⟨_,R,R,I.kept⟩)
def Tb (e : V16) (f : V16) (b : V16 × Int) : Option (Fl (V16 × Int) V16) :=
 if decide (b.2 < 16) then ((ZP e b.2).bind λc=>(ZP f (bI c)).bind λd=>(ZP b.1 b.2).bind λh=>some (Fl.nx ((b.1.setIfInBounds (b.2).toNat d),wr (b.2 + 1)))) else (some (Fl.ex b.1))
def Kt (b : V16) (c : V16) : Option (V16) :=
 (ZK (Tb b c) ((Vector.replicate 16 (0 : UInt8)),0)).bind λd=>some d
theorem Zc2 (i : World) (o : V16) (q : V16) (r : V16) (hF : Kt o q = some r) :
  Calls prog 281 [Value.agg (enc o).toArray,Value.agg (enc q).toArray].toArray i (Rt i (Value.agg (enc r).toArray)):=by
 refine ce func281 ?_
 intro a H
 have I:=M.start i
 unfold Kt at hF
 refine Zb (ZY (cs:=enc o) H I Za ld R R λz w a I H=>ZY (cs:=enc q) H I Za ld R R λA w a I H=>Zx H I ZD λt w a I H=>Ze (Zb (Xi (parts:=[]) (vs:=[]) (cs:=enc xb) H Za ld R R ZD R ty5 YK λa H=>Zx H I ZD λu w a I H=>s_w xb H I Za R R R ZD λw a I H=>Ze (s_2 (Zb (Zc H R λa H=>Ze ?_))))))
 obtain ⟨B,j,k⟩:=p_1 hF
 refine ZX (λa w=>Env 20 a [(4,ptr t 0),(5,ptr u 0)] ∧ M (Old i) i w [raw u (enc B),raw t xi]) ?_ ?_
 ·refine p_2 ?_
  refine ZN (λ(c : V16 × Int) a w=>Env 20 a [(2,ptr z 0),(3,ptr A 0),(4,ptr t 0),(5,ptr u 0),(6,vI c.2)] ∧ M (Old i) i w [raw u (enc c.1),raw t xi,raw A (enc q),raw z (enc o)]) j ⟨H.s,I⟩ ?_
  rintro c a w ⟨H,I⟩ C b l
  unfold Tb at b
  refine s_2 (Zb (Zd H R λa H=>Zm H R R R λa H=>Ze ?_))
  refine c_if H R b ?_ ?_
  ·intro m b
   refine t_2 (Zw (s_2 (p_2 (s_1 (Zd H R λa H=>Zd H R λa H=>?_)))))
   obtain ⟨y,f,b⟩:=bvx b
   refine ZC H R R u_5 ty5 f.1 λa H=>ZO (v:=(vB y)) H R ty5 R (At.vec I.ra3 f.2) λa H=>?_
   obtain ⟨d,h,b⟩:=bvx b
   refine ZC H R R u_3 ty5 h.1 λa H=>ZO (v:=(vB d)) H R ty5 R (At.vec I.ra2 h.2) λa H=>?_
   obtain ⟨E,e,b⟩:=bvx b
   refine ZC H R R u_3 ty5 e.1 λa H=>Zk (seg:=[vB d]) (cs':=enc (c.1.setIfInBounds (c.2).toNat d)) H I Za R R R ty5 R (ZS (v:=c.1) (x:=d) e.1) (t_1 (d : UInt8)) (ZF (v:=c.1) (x:=d) e.1) λw a I H=>Zf (Yn (Zw (s_1 (Zd H R λa H=>Zm H R R R λa H=>Zc H R λa H=>Zf (Zi ?_)))))
   exact ⟨_,ois b,H.s,I⟩
  intro m b
  refine s_3 (Zp (Zp (Yv ?_)))
  obtain rfl:=l _ (ois b)
  refine Zi ?_
  have I:=I.pl1.pl1.f_2
  exact ⟨H.s,I⟩
 rintro a w ⟨H,I⟩
 refine Zw (Zb (Zu H R ZD R I.ra0 (u_1 _) λa H=>?_))
 have I:=I.pl1
 refine s_w B H I Za R R R ZD λw a I H=>Ze ?_
 obtain rfl:=o_1 k
 have n : Z8 prog _ _ (.cell 4 53) _:=ZH H R ZD R I.ra0 (u_1 _) R
 exact u_2 (ZT H R n ⟨_,R,R,I.kept⟩)
def VU (k : Int) (l : V44) (m : V16) (c : V16 × Int) (d : V16 × Int) (b : V16 × Int) : Option (Fl (V16 × Int) V16) :=
 if decide (b.2 < 4) then ((ZP b.1 (wr ((wr (4 * c.2)) + d.2))).bind λe=>(ZP l d.2).bind λf=>(ZP f b.2).bind λh=>(ZP m (wr ((wr (4 * c.2)) + b.2))).bind λi=>(YO k h i).bind λj=>(ZP b.1 (wr ((wr (4 * c.2)) + d.2))).bind λn=>some (Fl.nx ((b.1.setIfInBounds ((wr ((wr (4 * c.2)) + d.2))).toNat (e ^^^ j)),wr (b.2 + 1)))) else (some (Fl.ex b.1))
def T8 (e : Int) (f : V44) (h : V16) (c : V16 × Int) (b : V16 × Int) : Option (Fl (V16 × Int) V16) :=
 if decide (b.2 < 4) then ((ZK (VU e f h c b) (b.1,0)).bind λd=>some (Fl.nx (d,wr (b.2 + 1)))) else (some (Fl.ex b.1))
def TU (d : Int) (e : V44) (f : V16) (b : V16 × Int) : Option (Fl (V16 × Int) V16) :=
 if decide (b.2 < 4) then ((ZK (T8 d e f b) (b.1,0)).bind λc=>some (Fl.nx (c,wr (b.2 + 1)))) else (some (Fl.ex b.1))
def Jd (b : Int) (c : V44) (d : V16) : Option (V16) :=
 (ZK (TU b c d) ((Vector.replicate 16 (0 : UInt8)),0)).bind λe=>some e
theorem Zdf (j : World) (t : Int) (y : V44) (A : V16) (r : V16) (hF : Jd t y A = some r) :
  Calls prog 283 [vI t,Value.agg (enc y).toArray,Value.agg (enc A).toArray].toArray j (Rt j (Value.agg (enc r).toArray)):=by
 refine ce func283 ?_
 intro a H
 have I:=M.start j
 unfold Jd at hF
 refine Zb (ZY (cs:=enc y) H I Za ld R R λo w a I H=>ZY (cs:=enc A) H I Za ld R R λq w a I H=>Zx H I ZD λl w a I H=>Ze (Zb (Xi (parts:=[]) (vs:=[]) (cs:=enc xb) H Za ld R R ZD R ty5 YK λa H=>Zx H I ZD λm w a I H=>s_w xb H I Za R R R ZD λw a I H=>Ze (s_2 (Zb (Zc H R λa H=>Ze ?_))))))
 obtain ⟨j9,K,L⟩:=p_1 hF
 refine ZX (λa w=>Env 50 a [(6,ptr l 0),(7,ptr m 0)] ∧ M (Old j) j w [raw m (enc j9),raw l xi]) ?_ ?_
 ·refine p_2 ?_
  refine ZN (λ(c : V16 × Int) a w=>Env 50 a [(0,vI t),(4,ptr o 0),(5,ptr q 0),(6,ptr l 0),(7,ptr m 0),(8,vI c.2)] ∧ M (Old j) j w [raw m (enc c.1),raw l xi,raw q (enc A),raw o (enc y)]) K ⟨H.s,I⟩ ?_
  rintro c a w ⟨H,I⟩ aj d N
  unfold TU at d
  refine s_2 (Zb (Zd H R λa H=>Zm H R R R λa H=>Ze ?_))
  refine c_if H R d ?_ ?_
  ·intro O d
   refine t_2 (Zw (s_2 (p_2 (Zb (Zc H R λa H=>Ze ?_)))))
   obtain ⟨af,T,U⟩:=p_1 d
   refine ZX (λa w=>Env 50 a [(0,vI t),(4,ptr o 0),(5,ptr q 0),(6,ptr l 0),(7,ptr m 0),(8,vI c.2)] ∧ M (Old j) j w [raw m (enc af),raw l xi,raw q (enc A),raw o (enc y)]) ?_ ?_
   ·refine p_2 ?_
    refine ZN (λ(f : V16 × Int) a w=>Env 50 a [(0,vI t),(4,ptr o 0),(5,ptr q 0),(6,ptr l 0),(7,ptr m 0),(8,vI c.2),(9,vI f.2)] ∧ M (Old j) j w [raw m (enc f.1),raw l xi,raw q (enc A),raw o (enc y)]) T ⟨H.s,I⟩ ?_
    rintro f a w ⟨H,I⟩ ak e W
    unfold T8 at e
    refine s_2 (Zb (Zd H R λa H=>Zm H R R R λa H=>Ze ?_))
    refine c_if H R e ?_ ?_
    ·intro X e
     refine t_2 (Zw (s_2 (p_2 (Zb (Zc H R λa H=>Ze ?_)))))
     obtain ⟨ag,Y,Z⟩:=p_1 e
     refine ZX (λa w=>Env 50 a [(0,vI t),(4,ptr o 0),(5,ptr q 0),(6,ptr l 0),(7,ptr m 0),(8,vI c.2),(9,vI f.2)] ∧ M (Old j) j w [raw m (enc ag),raw l xi,raw q (enc A),raw o (enc y)]) ?_ ?_
     ·refine p_2 ?_
      refine ZN (λ(k : V16 × Int) a w=>Env 50 a [(0,vI t),(4,ptr o 0),(5,ptr q 0),(6,ptr l 0),(7,ptr m 0),(8,vI c.2),(9,vI f.2),(10,vI k.2)] ∧ M (Old j) j w [raw m (enc k.1),raw l xi,raw q (enc A),raw o (enc y)]) Y ⟨H.s,I⟩ ?_
      rintro k a w ⟨H,I⟩ al b aa
      unfold VU at b
      refine s_2 (Zb (Zd H R λa H=>Zm H R R R λa H=>Ze ?_))
      refine c_if H R b ?_ ?_
      ·intro ab b
       refine t_2 (Zw (s_2 (p_2 ?_)))
       obtain ⟨h,B,b⟩:=bvx b
       obtain ⟨am,C,b⟩:=bvx b
       obtain ⟨ac,F,b⟩:=bvx b
       obtain ⟨ad,G,b⟩:=bvx b
       obtain ⟨i,ah,b⟩:=p_1 b
       obtain ⟨an,n,b⟩:=bvx b
       refine Z7 [24,25,26,27,28,29,30,31,32,33,34,35,36,37,38,39,40,41,42,43,44,45,46,47,48] YJ R R dd_ R H I (q_m (λ_=>R) (qsP (v:=(vI (wr (4 * c.2)))) (λz=>Ye z.E Za ld R R R (kr0 R)) (q_m (λ_=>R) (qsP (v:=(vI (wr ((wr (4 * c.2)) + f.2)))) (λz=>Ye z.E Za ld R R R (kr0 R)) (q_m (λ_=>R) (qsP (v:=(vI (wr (4 * c.2)))) (λz=>Ye z.E Za ld R R R (kr0 R)) (q_m (λ_=>R) (qsP (v:=(vI (wr ((wr (4 * c.2)) + f.2)))) (λz=>Ye z.E Za ld R R R (kr0 R)) (qsP (λz=>ZI z.E Za ld R R u_3 ty5 B.1 (kr0 R)) (qsP (λz=>ZL (v:=(vB h)) z.E Za ld R ty5 R (At.vec (z.M.ra0) B.2) (kr0 R)) (q_m (λ_=>R) (q_m (λ_=>R) (q_m (λ_=>R) (qsP (λz=>ZI z.E Za ld R R p_3 Xo C.1 (kr0 R)) (qsP (λz=>ZI z.E Za ld R R p_4 ty5 F.1 (kr0 R)) (qsP (λz=>ZL (v:=(vB ac)) z.E Za ld R ty5 R (At.vec (At.vec (z.M.ra3) C.2) F.2) (kr0 R)) (q_m (λ_=>R) (qsP (v:=(vI (wr (4 * c.2)))) (λz=>Ye z.E Za ld R R R (kr0 R)) (q_m (λ_=>R) (qsP (v:=(vI (wr ((wr (4 * c.2)) + k.2)))) (λz=>Ye z.E Za ld R R R (kr0 R)) (qsP (λz=>ZI z.E Za ld R R u_3 ty5 G.1 (kr0 R)) (qsP (λz=>ZL (v:=(vB ad)) z.E Za ld R ty5 R (At.vec (z.M.ra2) G.2) (kr0 R)) (qsP (λz=>ZW z.E Za ld R ya (X9 _ t ac ad i ah) (kc R)) (qsP (v:=(vB (h ^^^ i))) (λz=>Ye z.E Za ld R R (VH h i) (kr0 R)) (qsP (λz=>ZI z.E Za ld R R u_3 ty5 n.1 (kr0 R)) qs0))))))))))))))))))))))))) ?_
       ·intro a w u H I
        refine Zk (seg:=[vB (h ^^^ i)]) (cs':=enc (k.1.setIfInBounds ((wr ((wr (4 * c.2)) + f.2))).toNat (h ^^^ i))) H I Za R R R ty5 R (ZS (v:=k.1) (x:=h ^^^ i) n.1) (t_1 (h ^^^ i : UInt8)) (ZF (v:=k.1) (x:=h ^^^ i) n.1) λw a I H=>Zf (Yn (Zw (s_1 (Zd H R λa H=>Zm H R R R λa H=>Zc H R λa H=>Zf (Zi ?_)))))
        exact ⟨_,ois b,H.s,I⟩
      intro ab b
      refine s_3 (Zp (Zp (Yv ?_)))
      obtain rfl:=aa _ (ois b)
      refine Zi ?_
      exact ⟨H.s,I⟩
     rintro a w ⟨H,I⟩
     refine Yn (Zw (s_1 (Zd H R λa H=>Zm H R R R λa H=>Zc H R λa H=>Zf (Zi ?_))))
     exact ⟨_,ois Z,H.s,I⟩
    intro X e
    refine s_3 (Zp (Zp (Yv ?_)))
    obtain rfl:=W _ (ois e)
    refine Zi ?_
    exact ⟨H.s,I⟩
   rintro a w ⟨H,I⟩
   refine Yn (Zw (s_1 (Zd H R λa H=>Zm H R R R λa H=>Zc H R λa H=>Zf (Zi ?_))))
   exact ⟨_,ois U,H.s,I⟩
  intro O d
  refine s_3 (Zp (Zp (Yv ?_)))
  obtain rfl:=N _ (ois d)
  refine Zi ?_
  have I:=I.pl1.pl1.f_2
  exact ⟨H.s,I⟩
 rintro a w ⟨H,I⟩
 refine Zw (Zb (Zu H R ZD R I.ra0 (u_1 _) λa H=>?_))
 have I:=I.pl1
 refine s_w j9 H I Za R R R ZD λw a I H=>Ze ?_
 obtain rfl:=o_1 L
 have ae : Z8 prog _ _ (.cell 6 53) _:=ZH H R ZD R I.ra0 (u_1 _) R
 exact u_2 (ZT H R ae ⟨_,R,R,I.kept⟩)
def W7 (d : GCipher) (m : Int) (n : List V16) (b : V16 × Int) : Option (Fl (V16 × Int) V16) :=
 if decide (b.2 ≤ m) then ((((QI d.Box b.1).bind λe=>(Kt d.Places e).bind λf=>some f : Option (V16)).bind λc=>(if decide (b.2 < m) then ((Jd d.Field d.Mix c).bind λh=>some h) else (some c) : Option (V16)).bind λi=>(idx n b.2).bind λj=>(Um i j).bind λk=>some k : Option (V16)).bind λl=>some (Fl.nx (l,wr (b.2 + 1)))) else (some (Fl.ex b.1))
def Vy (f : GCipher) (j : V16) (k : V16) (h : Int) : Option (V16) :=
 (Kh f j h).bind λi=>((idx i (0 : Int)).bind λb=>(Um k b).bind λc=>some c : Option (V16)).bind λd=>(ZK (W7 f h i) (d,1)).bind λe=>some e
theorem yh (j : World) (b : GCipher) (p1 : V16) (p2 : V16) (o : Int) (r : V16) (hF : Vy b p1 p2 o = some r) :
  Calls prog 209 [Value.agg (enc b).toArray,Value.agg (enc p1).toArray,Value.agg (enc p2).toArray,vI o].toArray j (Rt j (Value.agg (enc r).toArray)):=by
 refine ce func209 ?_
 intro a H
 have I:=M.start j
 unfold Vy at hF
 refine Zb (ZY (cs:=cat [[vI b.Field],enc b.Box,enc b.Mix,enc b.Places,[vI b.Rounds]]) H I Za ld R R λn w a I H=>ZY (cs:=enc p1) H I Za ld R R λb3 w a I H=>ZY (cs:=enc p2) H I Za ld R R λl w a I H=>Zx H I ZD λm w a I H=>Ze (Zb (Zu H R Wk R I.ra3 cq λa H=>Zu H R ZD R I.ra2 (u_1 _) λa H=>Zd H R λa H=>?_)))
 obtain ⟨x,ae,hF⟩:=p_1 hF
 refine Zn H R (cbm func280) (Zco _ b p1 o x ae) ?_
 rintro d w a ⟨_,rfl,hFr,hK⟩ H
 have I:=I.add hK hFr
 refine Zc H R λa H=>Ze ?_
 obtain ⟨af,f,y⟩:=p_1 hF
 refine ZG (λa w=>Env 48 a [(3,vI o),(4,ptr n 0),(6,ptr l 0),(8,ptr m 0),(9,d)] ∧ M (Old j) j w [osl NoB x d,raw m xi,raw l (enc af),raw n (cat [[vI b.Field],enc b.Box,enc b.Mix,enc b.Places,[vI b.Rounds]])]) ?_ ?_
 ·obtain ⟨ag,q,f⟩:=bix f
  obtain ⟨A,ah,f⟩:=p_1 f
  refine Z7 [15,16,17,18,19] YJ R R dd_ R H I (qsP (λz=>ZB z.E Za ld R ZD R (z.M.ra2) (u_1 _) (kr0 R)) (q_m (λ_=>R) (qsP (λz=>XD z.E Za ld R R o_3 ZD (z.M.sl0) q.1 (kr0 R)) (qsP (λz=>ZB z.E Za ld R ZD R (Xx (z.M.sl0) q.2) (u_1 _) (kr0 R)) (qsP (λz=>ZW z.E Za ld R Zpe (BE _ p2 ag A ah) (kc R)) qs0))))) ?_
  ·intro a w u H I
   have I:=I.pl2
   refine s_w A H I Za R R R ZD λw a I H=>Zf ?_
   obtain rfl:=o_1 f
   refine Zi ?_
   have I:=I.pl4.pl1.pl3.pl3.f_4
   exact ⟨H.s,I⟩
 rintro a w ⟨H,I⟩
 refine s_2 (Zb (Zc H R λa H=>Ze ?_))
 obtain ⟨B,C,F⟩:=p_1 y
 refine ZX (λa w=>Env 48 a [(6,ptr l 0),(8,ptr m 0)] ∧ M (Old j) j w [raw m xi,raw l (enc B)]) ?_ ?_
 ·refine p_2 ?_
  refine ZN (λ(k : V16 × Int) a w=>Env 48 a [(3,vI o),(4,ptr n 0),(6,ptr l 0),(8,ptr m 0),(9,d),(10,vI k.2)] ∧ M (Old j) j w [osl NoB x d,raw m xi,raw l (enc k.1),raw n (cat [[vI b.Field],enc b.Box,enc b.Mix,enc b.Places,[vI b.Rounds]])]) C ⟨H.s,I⟩ ?_
  rintro k a w ⟨H,I⟩ ao e G
  unfold W7 at e
  refine s_2 (Zb (Zd H R λa H=>Zd H R λa H=>Zm H R R R λa H=>Ze ?_))
  refine c_if H R e ?_ ?_
  ·intro K e
   refine t_2 (Zw ?_)
   obtain ⟨ai,L,N⟩:=p_1 e
   refine ZG (λa w=>Env 48 a [(3,vI o),(4,ptr n 0),(6,ptr l 0),(8,ptr m 0),(9,d),(10,vI k.2)] ∧ M (Old j) j w [osl NoB x d,raw m xi,raw l (enc ai),raw n (cat [[vI b.Field],enc b.Box,enc b.Mix,enc b.Places,[vI b.Rounds]])]) ?_ ?_
   ·refine p_2 ?_
    obtain ⟨O,h,T⟩:=p_1 L
    refine ZG (λa w=>Env 48 a [(3,vI o),(4,ptr n 0),(6,ptr l 0),(8,ptr m 0),(9,d),(10,vI k.2)] ∧ M (Old j) j w [osl NoB x d,raw m xi,raw l (enc O),raw n (cat [[vI b.Field],enc b.Box,enc b.Mix,enc b.Places,[vI b.Rounds]])]) ?_ ?_
    ·obtain ⟨U,aj,h⟩:=p_1 h
     obtain ⟨W,ak,h⟩:=p_1 h
     refine Z7 [25,26,27,28,29,30,31] YJ R R dd_ R H I (qsP (λz=>Zo z.E Za ld R (JC) (kr0 R)) (qsP (λz=>ZB z.E Za ld R BL R (at_3 (z.M.ra3)) (u_1 _) (kr0 R)) (qsP (λz=>Zo z.E Za ld R (HV) (kr0 R)) (qsP (λz=>ZB z.E Za ld R Wg R (at_1 (z.M.ra3)) (u_1 _) (kr0 R)) (qsP (λz=>ZB z.E Za ld R ZD R (z.M.ra2) (u_1 _) (kr0 R)) (qsP (λz=>ZW z.E Za ld R (cbm func282) (qj _ b.Box k.1 U aj) (kc R)) (qsP (λz=>ZW z.E Za ld R (cbm func281) (Zc2 _ b.Places U W ak) (kc R)) qs0))))))) ?_
     ·intro a w u H I
      have I:=I.pl2
      refine s_w W H I Za R R R ZD λw a I H=>Zf ?_
      obtain rfl:=o_1 h
      refine Zi ?_
      have I:=I.pl3.pl1.pl3.pl3
      exact ⟨H.s,I⟩
    rintro a w ⟨H,I⟩
    obtain ⟨X,c,i⟩:=p_1 T
    refine ZG (λa w=>Env 48 a [(3,vI o),(4,ptr n 0),(6,ptr l 0),(8,ptr m 0),(9,d),(10,vI k.2)] ∧ M (Old j) j w [osl NoB x d,raw m xi,raw l (enc X),raw n (cat [[vI b.Field],enc b.Box,enc b.Mix,enc b.Places,[vI b.Rounds]])]) ?_ ?_
    ·refine Zb (Zd H R λa H=>Zd H R λa H=>Zm H R R R λa H=>Ze ?_)
     refine c_if H R c ?_ ?_
     ·intro Y c
      refine s_1 (Zr H R (Bg) λa H=>ZO (v:=(vI b.Field)) H R ty2 R (at_0 I.ra3) λa H=>Zr H R (Hm) λa H=>Zu H R Ve R (at_2 I.ra3) (u_1 _) λa H=>Zu H R ZD R I.ra2 (u_1 _) λa H=>?_)
      obtain ⟨Z,al,c⟩:=p_1 c
      refine Zn H R (cbm func283) (Zdf _ b.Field b.Mix O Z al) ?_
      rintro v w a ⟨rfl,hK⟩ H
      have I:=(I.keep hK).pl2
      refine s_w Z H I Za R R R ZD λw a I H=>Zf ?_
      obtain rfl:=o_1 c
      refine Zi ?_
      have I:=I.pl3.pl1.pl3.pl3
      exact ⟨H.s,I⟩
     intro Y c
     refine t_2 ?_
     obtain rfl:=o_1 c
     refine Zi ?_
     exact ⟨H.s,I⟩
    rintro a w ⟨H,I⟩
    obtain ⟨am,t,i⟩:=bix i
    obtain ⟨aa,an,i⟩:=p_1 i
    refine Z7 [41,42,43,44,45,46] YJ R R dd_ R H I (qsP (λz=>ZB z.E Za ld R ZD R (z.M.ra2) (u_1 _) (kr0 R)) (q_m (λ_=>R) (q_m (λ_=>R) (qsP (λz=>XD z.E Za ld R R o_3 ZD (z.M.sl0) t.1 (kr0 R)) (qsP (λz=>ZB z.E Za ld R ZD R (Xx (z.M.sl0) t.2) (u_1 _) (kr0 R)) (qsP (λz=>ZW z.E Za ld R Zpe (BE _ X am aa an) (kc R)) qs0)))))) ?_
    ·intro a w u H I
     have I:=I.pl2
     refine s_w aa H I Za R R R ZD λw a I H=>Zf (Yn ?_)
     obtain rfl:=o_1 i
     refine Zi ?_
     have I:=I.pl3.pl1.pl3.pl3
     exact ⟨H.s,I⟩
   rintro a w ⟨H,I⟩
   refine s_1 (Zd H R λa H=>Zm H R R R λa H=>Zc H R λa H=>Zf (Zi ?_))
   exact ⟨_,ois N,H.s,I⟩
  intro K e
  refine s_3 (Zp (Zp (Yv ?_)))
  obtain rfl:=G _ (ois e)
  refine Zi ?_
  have I:=I.pl2.pl2.f_2
  exact ⟨H.s,I⟩
 rintro a w ⟨H,I⟩
 refine Zw (Zb (Zu H R ZD R I.ra1 (u_1 _) λa H=>s_w B H I Za R R R ZD λw a I H=>Ze ?_))
 obtain rfl:=o_1 F
 have ab : Z8 prog _ _ (.cell 8 53) _:=ZH H R ZD R I.ra0 (u_1 _) R
 exact u_2 (ZT H R ab ⟨_,R,R,I.kept⟩)
def UA (h : GCipher) (j : V16) (i : List V16) (b : V16 × Int × List V16) : Option (Fl (V16 × Int × List V16) (List V16)) :=
 if decide (b.2.1 < (i.length : Int)) then (((idx i b.2.1).bind λd=>(Um d b.1).bind λe=>(Vy h j e h.Rounds).bind λf=>some f : Option (V16)).bind λc=>(app 16 b.2.2 ([c] : List V16)).bind λk=>some (Fl.nx (c,wr (b.2.1 + 1),b.2.2 ++ ([c] : List V16)))) else (some (Fl.ex b.2.2))
def Qt (b : GCipher) (c : V16) (d : V16) (e : List V16) : Option ((List V16)) :=
 (ZK (UA b c e) (d,0,([] : List V16))).bind λf=>some f
theorem qA (j : World) (b : GCipher) (q : V16) (L : V16) (Y : List V16) (h : Value) (e : Ro j Y [h]) (r : List V16) (hF : Qt b q L Y = some r) :
  Calls prog 116 [Value.agg (enc b).toArray,Value.agg (enc q).toArray,Value.agg (enc L).toArray,h].toArray j (e_r λv w'=>(∃ Z : Value,v = Z ∧ Fr j w' [osl NoB r Z] ∧ Kept (Old j) j w')):=by
 refine ce func116 ?_
 intro a H
 have I:=M.start j
 unfold Qt at hF
 refine Zb (ZY (cs:=cat [[vI b.Field],enc b.Box,enc b.Mix,enc b.Places,[vI b.Rounds]]) H I Za ld R R λF w a I H=>ZY (cs:=enc q) H I Za ld R R λG w a I H=>ZY (cs:=enc L) H I Za ld R R λK w a I H=>Zc H R λa H=>Ze (Zb (ZR (xs:=[]) (l:=([] : List V16)) (vs:=[]) H I Za ld R R o_3 ZD R dd_ R λu7 w a I H=>Zc H R λa H=>Ze (s_2 (Zb (Zc H R λa H=>Ze ?_))))))
 obtain ⟨j9,t,x⟩:=p_1 hF
 refine ZX (λa w=>∃ m : Value,Env 34 a [(9,m)] ∧ M (Old j) j w [osl NoB j9 m]) ?_ ?_
 ·refine p_2 ?_
  have I:=I.pl3.pl3.pl3
  refine ZN (λ(f : V16 × Int × List V16) a w=>∃ i : Value,Env 34 a [(3,h),(4,ptr F 0),(5,ptr G 0),(6,ptr K 0),(9,i),(10,vI f.2.1)] ∧ M (Old j) j w [raw K (enc f.1),raw G (enc q),raw F (cat [[vI b.Field],enc b.Box,enc b.Mix,enc b.Places,[vI b.Rounds]]),osl NoB f.2.2 i]) t ⟨u7,H.s,I⟩ ?_
  rintro f a w ⟨i,H,I⟩ ac d y
  unfold UA at d
  refine s_2 (Zb (Zd H R λa H=>Zd H R λa H=>Yp H R o_3 (I.rd e) λa H=>Zm H R R R λa H=>Ze ?_))
  refine c_if H R d ?_ ?_
  ·intro A d
   refine t_2 (Zw (s_2 (p_2 ?_)))
   obtain ⟨o,c,k⟩:=p_1 d
   refine ZG (λa w=>Env 34 a [(3,h),(4,ptr F 0),(5,ptr G 0),(6,ptr K 0),(9,i),(10,vI f.2.1)] ∧ M (Old j) j w [raw K (enc o),raw G (enc q),raw F (cat [[vI b.Field],enc b.Box,enc b.Mix,enc b.Places,[vI b.Rounds]]),osl NoB f.2.2 i]) ?_ ?_
   ·obtain ⟨N,n,c⟩:=bix c
    obtain ⟨B,O,c⟩:=p_1 c
    obtain ⟨C,T,c⟩:=p_1 c
    refine Z7 [18,19,20,21,22,23,24,25,26,27,28] YJ R R dd_ R H I (qsP (λz=>ZB z.E Za ld R Wk R (z.M.ra2) cq (kr0 R)) (qsP (λz=>ZB z.E Za ld R ZD R (z.M.ra1) (u_1 _) (kr0 R)) (q_m (λ_=>R) (q_m (λ_=>R) (qsP (λz=>XD z.E Za ld R R o_3 ZD (z.M.rd e) n.1 (kr0 R)) (qsP (λz=>ZB z.E Za ld R ZD R (Xx (z.M.rd e) n.2) (u_1 _) (kr0 R)) (qsP (λz=>ZB z.E Za ld R ZD R (z.M.ra0) (u_1 _) (kr0 R)) (qsP (λz=>ZW z.E Za ld R Zpe (BE _ N f.1 B O) (kc R)) (qsP (λz=>Zo z.E Za ld R (jY) (kr0 R)) (qsP (λz=>ZL (v:=(vI b.Rounds)) z.E Za ld R ty2 R (at_4 (z.M.ra2)) (kr0 R)) (qsP (λz=>ZW z.E Za ld R (cbm func209) (yh _ b q B b.Rounds C T) (kc R)) qs0))))))))))) ?_
    ·intro a w u H I
     refine s_w C H I Za R R R ZD λw a I H=>Zf ?_
     obtain rfl:=o_1 c
     refine Zi ?_
     exact ⟨H.s,I⟩
   rintro a w ⟨H,I⟩
   refine s_1 (Zd H R λa H=>Zu H R ZD R I.ra0 (u_1 _) λa H=>ZR (xs:=[.tmp 30]) (l:=([o] : List V16)) (vs:=[Value.agg (enc o).toArray]) H I Za ld R R o_3 ZD R dd_ R λad w a I H=>?_)
   obtain ⟨ae,U,k⟩:=p_1 k
   obtain ⟨W,rfl⟩:=Yc U
   have I:=I.pl4
   refine Yg H I Za ld R R (I.sl1) o_3 ZD R dd_ W λX w a I H=>Zc H R λa H=>Zf (Yn (Zw (s_1 (Zd H R λa H=>Zm H R R R λa H=>Zc H R λa H=>Zf (Zi ?_)))))
   have I:=I.pl4.pl4.pl4.f_4
   exact ⟨_,ois k,X,H.s,I⟩
  intro A d
  refine s_3 (Zp (Zp (Yv ?_)))
  obtain rfl:=y _ (ois d)
  refine Zi ?_
  have I:=I.pl3.f_1
  exact ⟨i,H.s,I⟩
 rintro a w ⟨m,H,I⟩
 refine Zw (Zb (Zd H R λa H=>Zc H R λa H=>Ze ?_))
 obtain rfl:=o_1 x
 exact u_2 (ZT H R (Zy H R) ⟨_,R,m,R,I.outF (Z1 Yj),I.kept⟩)
def Hn (e : List V16) (b : List UInt8 × Int) : Option (Fl (List UInt8 × Int) (List UInt8)) :=
 if decide (b.2 < (e.length : Int)) then ((idx e b.2).bind λd=>(slc d.toList (0 : Int) (16 : Int)).bind λc=>(app 1 b.1 c).bind λf=>some (Fl.nx ((b.1 ++ c),wr (b.2 + 1)))) else (some (Fl.ex b.1))
def Kv (b : List V16) : Option ((List UInt8)) :=
 (ZK (Hn b) (([] : List UInt8),0)).bind λc=>some c
theorem Zcy (e : World) (z : List V16) (d : Value) (c : Ro e z [d]) (r : List UInt8) (hF : Kv z = some r) :
  Calls prog 115 [d].toArray e (e_r λv w'=>(∃ A : Value,v = A ∧ Fr e w' [osl NoB r A] ∧ Kept (Old e) e w')):=by
 refine ce func115 ?_
 intro a H
 have I:=M.start e
 unfold Kv at hF
 refine Zb (Zc H R λa H=>Ze (Zb (ZR (xs:=[]) (l:=xz) (vs:=[]) H I Za ld R R o_2 ty5 R dd_ R λB w a I H=>Zc H R λa H=>Ze (s_2 (Zb (Zc H R λa H=>Ze ?_))))))
 obtain ⟨C,o,q⟩:=p_1 hF
 refine ZX (λa w=>∃ m : Value,Env 19 a [(3,m)] ∧ M (Old e) e w [osl NoB C m]) ?_ ?_
 ·refine p_2 ?_
  refine ZN (λ(t : List UInt8 × Int) a w=>∃ n : Value,Env 19 a [(0,d),(3,n),(4,vI t.2)] ∧ M (Old e) e w [osl NoB t.1 n]) o ⟨B,H.s,I⟩ ?_
  rintro t a w ⟨n,H,I⟩ E b h
  unfold Hn at b
  refine s_2 (Zb (Zd H R λa H=>Zd H R λa H=>Yp H R o_3 (I.rd c) λa H=>Zm H R R R λa H=>Ze ?_))
  refine c_if H R b ?_ ?_
  ·intro i b
   refine t_2 (Zw (s_2 (p_2 (s_1 (Zd H R λa H=>Zd H R λa H=>Zd H R λa H=>?_)))))
   obtain ⟨F,f,b⟩:=bix b
   refine Ys H R R o_3 ZD (I.rd c) f.1 λa H=>?_
   obtain ⟨G,j,b⟩:=p_1 b
   have k:=Ul j -- ^
   refine XH (N:=16) H Za ld R R R R R u_3 ty5 k λa H=>?_
   obtain ⟨K,u,b⟩:=p_1 b
   obtain ⟨x,rfl⟩:=Yc u
   refine Yg H I Za ld R R (Yo (At.sat (Xx (I.rd c) f.2) (by simp) dd_) j) o_2 ty5 R dd_ x λy w a I H=>Zc H R λa H=>Zf (Yn (Zw (s_1 (Zd H R λa H=>Zm H R R R λa H=>Zc H R λa H=>Zf (Zi ?_)))))
   exact ⟨_,ois b,y,H.s,I⟩
  intro i b
  refine s_3 (Zp (Zp (Yv ?_)))
  obtain rfl:=h _ (ois b)
  refine Zi ?_
  exact ⟨n,H.s,I⟩
 rintro a w ⟨m,H,I⟩
 refine Zw (Zb (Zd H R λa H=>Zc H R λa H=>Ze ?_))
 obtain rfl:=o_1 q
 exact u_2 (ZT H R (Zy H R) ⟨_,R,m,R,I.outF (Z1 Yj),I.kept⟩)
def VZ (h : GCipher) (k : V16) (l : V16) (i : List UInt8) : Option (List UInt8 × Int) :=
 (Kp h (i.length : Int) 0 2000).bind λj=>if j != 0 then (some ([],j)) else (((K9 i).bind λb=>(Qz b).bind λc=>(Qt h k l c).bind λd=>(Kv d).bind λe=>some e : Option ((List UInt8))).bind λf=>some (f,0))
theorem A6 (l : World) (c : GCipher) (n : V16) (o : V16) (x : List UInt8) (e : Value) (h : Ro l x [e]) (r : List UInt8 × Int) (hF : VZ c n o x = some r) :
  Calls prog 31 [Value.agg (enc c).toArray,Value.agg (enc n).toArray,Value.agg (enc o).toArray,e].toArray l (e_r λv w'=>(∃ U : Value,v = (Value.tuple [U,vI r.2].toArray) ∧ Fr l w' [osl NoB r.1 U] ∧ Kept (Old l) l w')):=by
 refine ce func31 ?_
 intro a H
 have I:=M.start l
 unfold VZ at hF
 refine Zb (ZY (cs:=cat [[vI c.Field],enc c.Box,enc c.Mix,enc c.Places,[vI c.Rounds]]) H I Za ld R R λW w a I H=>ZY (cs:=enc n) H I Za ld R R λX w a I H=>ZY (cs:=enc o) H I Za ld R R λY w a I H=>Zc H R λa H=>Zc H R λa H=>Ze (s_2 (Zb (Zu H R Wk R I.ra2 cq λa H=>Zd H R λa H=>Yp H R o_2 (I.rd h) λa H=>?_))))
 obtain ⟨Z,e8,hF⟩:=p_1 hF
 refine c_k H I R (cbm func114) (Zak _ c (x.length : Int) 0 2000 Z e8) λw a I H=>?_
 refine Zc H R λa H=>Ze (Zb (Zd H R λa H=>Zm H R R R λa H=>Ze ?_))
 refine c_if H R hF ?_ ?_
 ·intro y hF
  refine Zb (Zd H R λa H=>Zc H R λa H=>Zc H R λa H=>Ze ?_)
  have I:=M.nilS (α:=UInt8) NoB noB I
  obtain rfl:=o_1 hF
  have I:=I.f_1
  exact u_2 (ZA (YN H R (Zy H R) (Zy H R) ⟨_,R,xf,R,I.outF (Z1 Yj),I.kept⟩))
 intro y hF
 refine t_2 (Zw ?_)
 obtain ⟨A,b,q⟩:=p_1 hF
 refine ZG (λa w=>∃ i : Value,Env 26 a [(8,i),(9,vI 0)] ∧ M (Old l) l w [osl NoB A i]) ?_ ?_
 ·obtain ⟨j,B,b⟩:=p_1 b
  obtain ⟨k,C,b⟩:=p_1 b
  refine Y0 (its:=[raw Y (enc o),raw X (enc n),raw W (cat [[vI c.Field],enc c.Box,enc c.Mix,enc c.Places,[vI c.Rounds]])]) (mk:=([mkO 4 (λv=>osl NoB j v),mkO 5 (λv=>osl NoB k v)] : Mk)) [18,19,20,21,22,23] YJ R R dd_ R H (λu=>M.qE (M.qE (M.q0 I.drew u) emO) emO) (qsP (λz=>ZB z.E Za ld R Wk R (z.M.ra2) cq (kr0 R)) (qsP (λz=>ZB z.E Za ld R ZD R (z.M.ra1) (u_1 _) (kr0 R)) (qsP (λz=>ZB z.E Za ld R ZD R (z.M.ra0) (u_1 _) (kr0 R)) (q_m (λ_=>R) (q_t ?_ (q_t ?_ qs0)))))) ?_
  ·intro a w d D z
   have H:=z.E
   have hD : D 4 = false:=z.F
   have hM0:=z.M
   have I:=z.M
   refine Zn H R (cbm func118) (Zdi _ x e (I.rdo h) j B) ?_
   rintro _ w a ⟨_,rfl,hFr,hK⟩ H
   have I:=hM0.add hK hFr
   exact ⟨_,_,R,H,M.qFill (mk1:=[]) (mk2:=[_]) (f:=(λv=>osl NoB j v)) I R hD,trivial⟩
  ·intro a w d D z
   have H:=z.E
   have hD : D 5 = false:=z.F
   have G : D 4 = true:=z.p 0 _ R R
   have hM0:=z.M
   have I:=z.M.su3 G
   refine Zn H R (cbm func117) (qi _ j (d 4) (I.sl3) k C) ?_
   rintro _ w a ⟨_,rfl,hFr,hK⟩ H
   have I:=hM0.add hK hFr
   exact ⟨_,_,R,H,M.qFill (mk1:=[_]) (mk2:=[]) (f:=(λv=>osl NoB k v)) I R hD,trivial⟩
  intro a w d D H I hG m
  have G:=m 4 dd_
  have d5:=m 5 dd_
  have I:=(I.su3 G).sure (pre:=[_,_,_,_]) d5
  obtain ⟨t,K,b⟩:=p_1 b
  refine Zn H R (cbm func116) (qA _ c n o k (d 5) (I.sl4) t K) ?_
  rintro L w a ⟨_,rfl,hFr,hK⟩ H
  have I:=I.add hK hFr
  obtain ⟨N,O,b⟩:=p_1 b
  refine Zn H R (cbm func115) (Zcy _ t L (I.sl0) N O) ?_
  rintro T w a ⟨_,rfl,hFr,hK⟩ H
  have I:=I.add hK hFr
  refine Zc H R λa H=>Zc H R λa H=>Zf ?_
  obtain rfl:=o_1 b
  refine Zi ?_
  have I:=I.f_1
  exact ⟨T,H.s,I⟩
 rintro a w ⟨i,H,I⟩
 obtain rfl:=o_1 q
 exact u_2 (YN H R (Zy H R) (Zy H R) ⟨_,R,i,R,I.outF (Z1 Yj),I.kept⟩)
def Us (b : List UInt8) (c : List UInt8) : Option (Bool) :=
 some (decide ((⟨b⟩ : Str) = (⟨c⟩ : Str)))
theorem J7 (f : World) (h : List UInt8) (b : Value) (d : Ro f h [b]) (i : List UInt8) (c : Value) (e : Ro f i [c]) (r : Bool) (hF : Us h i = some r) :
  Calls prog 17 [b,c].toArray f (Rt f (vT r)):=by
 refine ce func17 ?_
 intro a H
 have I:=M.start f
 unfold Us at hF
 refine Zb (Zc H R λa H=>Ze (Zb (Zd H R λa H=>Av H Za ld R o_2 t_3 underlying9 (I.rd d) λa H=>Zd H R λa H=>Av H Za ld R o_2 t_3 underlying9 (I.rd e) λa H=>s_eqS H Za ld R R λa H=>Zc H R λa H=>Ze ?_)))
 obtain rfl:=o_1 hF
 exact u_2 (kr1 H R R I.kept)
def Xt (f : (Ref Gengine)) (c : V16) (b : V16 × Int) : Option (Fl (V16 × Int) V16) :=
 if decide (b.2 < 16) then ((ZP c b.2).bind λd=>(ZP f.v.backBox (bI d)).bind λe=>(ZP b.1 b.2).bind λh=>some (Fl.nx ((b.1.setIfInBounds (b.2).toNat e),wr (b.2 + 1)))) else (some (Fl.ex b.1))
def Xu (e : (Ref Gengine)) (n : List V16) (c : V16 × Int) : Option (Fl (V16 × Int) V16) :=
 if decide (c.2 > 0) then ((((idx n c.2).bind λf=>(Yz c.1 f).bind λh=>some h : Option (V16)).bind λb=>(if decide (c.2 < (wr ((n.length : Int) - 1))) then ((slc b.toList (0 : Int) (16 : Int)).bind λo=>(UF e.v.backMixer b).bind λi=>some i) else (some b) : Option (V16)).bind λj=>((X3 e.v.backPlaces j).bind λk=>some k : Option (V16)).bind λd=>(ZK (Xt e d) (d,0)).bind λl=>some l : Option (V16)).bind λm=>some (Fl.nx (m,wr (c.2 - 1)))) else (some (Fl.ex c.1))
def XB (f : (Ref Gengine)) (c : List V16) (h : V16) : Option (V16) :=
 (ZK (Xu f c) (h,wr ((c.length : Int) - 1))).bind λi=>((idx c (0 : Int)).bind λd=>(Yz i d).bind λb=>some b : Option (V16)).bind λe=>some e
theorem Bi (h : World) (t : (Ref Gengine)) (d : Value) (m : Ro h t [d]) (p1 : List V16) (c : Value) (f : Ro h p1 [c]) (p2 : V16) (r : V16) (hF : XB t p1 p2 = some r) :
  Calls prog 285 [d,c,Value.agg (enc p2).toArray].toArray h (Rt h (Value.agg (enc r).toArray)):=by
 refine ce func285 ?_
 intro a H
 have I:=M.start h
 unfold XB at hF
 refine Zb (ZY (cs:=enc p2) H I Za ld R R λj w a I H=>Zx H I ZD λi w a I H=>Ze (s_2 (Zb (Zd H R λa H=>Yp H R o_3 (I.rd f) λa H=>Zm H R R R λa H=>Zc H R λa H=>Ze ?_))))
 obtain ⟨j5,a4,a5⟩:=p_1 hF
 refine ZX (λa w=>Env 59 a [(1,c),(5,ptr j 0),(6,ptr i 0)] ∧ M (Old h) h w [raw i xi,raw j (enc j5)]) ?_ ?_
 ·refine p_2 ?_
  refine ZN (λ(C : V16 × Int) a w=>Env 59 a [(0,d),(1,c),(5,ptr j 0),(6,ptr i 0),(7,vI C.2)] ∧ M (Old h) h w [raw i xi,raw j (enc C.1)]) a4 ⟨H.s,I⟩ ?_
  rintro C a w ⟨H,I⟩ br o O
  unfold Xu at o
  refine s_2 (Zb (Zd H R λa H=>Zm H R R R λa H=>Ze ?_))
  refine c_if H R o ?_ ?_
  ·intro T o
   refine t_2 (Zw ?_)
   obtain ⟨a6,U,W⟩:=p_1 o
   refine ZG (λa w=>Env 59 a [(0,d),(1,c),(5,ptr j 0),(6,ptr i 0),(7,vI C.2)] ∧ M (Old h) h w [raw i xi,raw j (enc a6)]) ?_ ?_
   ·refine p_2 ?_
    obtain ⟨X,k,Y⟩:=p_1 U
    refine ZG (λa w=>Env 59 a [(0,d),(1,c),(5,ptr j 0),(6,ptr i 0),(7,vI C.2)] ∧ M (Old h) h w [raw i xi,raw j (enc X)]) ?_ ?_
    ·obtain ⟨a7,F,k⟩:=bix k
     obtain ⟨Z,a8,k⟩:=p_1 k
     refine Z7 [17,18,19,20,21,22] YJ R R dd_ R H I (qsP (λz=>ZB z.E Za ld R ZD R (z.M.ra1) (u_1 _) (kr0 R)) (q_m (λ_=>R) (q_m (λ_=>R) (qsP (λz=>XD z.E Za ld R R o_3 ZD (z.M.rd f) F.1 (kr0 R)) (qsP (λz=>ZB z.E Za ld R ZD R (Xx (z.M.rd f) F.2) (u_1 _) (kr0 R)) (qsP (λz=>ZW z.E Za ld R z6 (XT _ C.1 a7 Z a8) (kc R)) qs0)))))) ?_
     ·intro a w u H I
      have I:=I.pl1
      refine s_w Z H I Za R R R ZD λw a I H=>Zf ?_
      obtain rfl:=o_1 k
      refine Zi ?_
      have I:=I.pl1
      exact ⟨H.s,I⟩
    rintro a w ⟨H,I⟩
    obtain ⟨aa,e,ab⟩:=p_1 Y
    refine ZG (λa w=>Env 59 a [(0,d),(1,c),(5,ptr j 0),(6,ptr i 0),(7,vI C.2)] ∧ M (Old h) h w [raw i xi,raw j (enc aa)]) ?_ ?_
    ·refine Zb (Zd H R λa H=>Zd H R λa H=>Yp H R o_3 (I.rd f) λa H=>Zm H R R R λa H=>Zm H R R R λa H=>Ze ?_)
     refine c_if H R e ?_ ?_
     ·intro ac e
      obtain ⟨bl,bm,ad,ae,af,ag⟩:=TV m -- ^
      obtain ⟨a9,ah,rfl,bs,ba⟩:=Qj ae -- ^
      obtain ⟨bt,bb,e⟩:=p_1 e
      have ai:=Ul bb -- ^
      refine Z7 [28,29,30,31,32] YJ R R dd_ R H I (q_m (λ_=>R) (qsP (λz=>Ya z.E Za ld (lk R ad) (kr0 R)) (qsP (λz=>Zo z.E Za ld R (Zrj) (kr0 R)) (qsP (λz=>ZL (v:=ah) z.E Za ld R Zku R (at_5 (z.M.atk af ag)) (kr0 R)) (qsP (λz=>XH (N:=16) z.E Za ld R R R R R u_3 ty5 ai (kr0 R)) qs0))))) ?_
      ·intro a w u H I
       have I:=I.pl1
       obtain ⟨bc,bd,e⟩:=p_1 e
       refine Zn H R (cbm func319) (B4 _ _ _ _ t.v.backMixer ah ba j X I bc bd) ?_
       rintro v w a ⟨rfl,I⟩ H
       refine Zf ?_
       obtain rfl:=o_1 e
       refine Zi ?_
       have I:=I.pl1
       exact ⟨H.s,I⟩
     intro ac e
     refine t_2 ?_
     obtain rfl:=o_1 e
     refine Zi ?_
     exact ⟨H.s,I⟩
    rintro a w ⟨H,I⟩
    obtain ⟨aj,y,ak⟩:=p_1 ab
    refine ZG (λa w=>Env 59 a [(0,d),(1,c),(5,ptr j 0),(6,ptr i 0),(7,vI C.2)] ∧ M (Old h) h w [raw i xi,raw j (enc aj)]) ?_ ?_
    ·obtain ⟨bn,bo,al,am,an,ao⟩:=TV m -- ^
     obtain ⟨bu,bv,rfl,bw,bx⟩:=Qj am -- ^
     obtain ⟨ap,be,y⟩:=p_1 y
     refine Z7 [34,35,36,37,38,39] YJ R R dd_ R H I (q_m (λ_=>R) (qsP (λz=>Ya z.E Za ld (lk R al) (kr0 R)) (qsP (λz=>Zo z.E Za ld R (Zqp) (kr0 R)) (qsP (λz=>ZB z.E Za ld R BL R (at_3 (z.M.atk an ao)) (u_1 _) (kr0 R)) (qsP (λz=>ZB z.E Za ld R ZD R (z.M.ra1) (u_1 _) (kr0 R)) (qsP (λz=>ZW z.E Za ld R (cbm func318) (H3 _ t.v.backPlaces aa ap be) (kc R)) qs0)))))) ?_
     ·intro a w u H I
      have I:=I.pl1
      refine s_w ap H I Za R R R ZD λw a I H=>Zf ?_
      obtain rfl:=o_1 y
      refine Zi ?_
      have I:=I.pl1
      exact ⟨H.s,I⟩
    rintro a w ⟨H,I⟩
    refine Zb (Zu H R ZD R I.ra1 (u_1 _) λa H=>Zd H R λa H=>Ze ?_)
    obtain ⟨bg,aq,ar⟩:=p_1 ak
    refine ZX (λa w=>Env 59 a [(0,d),(1,c),(5,ptr j 0),(6,ptr i 0),(7,vI C.2)] ∧ M (Old h) h w [raw i xi,raw j (enc bg)]) ?_ ?_
    ·refine p_2 ?_
     refine ZN (λ(n : V16 × Int) a w=>Env 59 a [(0,d),(1,c),(5,ptr j 0),(6,ptr i 0),(7,vI C.2),(40,Value.agg (enc aj).toArray),(41,vI n.2)] ∧ M (Old h) h w [raw i xi,raw j (enc n.1)]) aq ⟨H.s,I⟩ ?_
     rintro n a w ⟨H,I⟩ bz b au
     unfold Xt at b
     refine Zb (Zm H R R R λa H=>Ze (s_2 ?_))
     refine c_if H R b ?_ ?_
     ·intro av b
      refine t_2 (Zw (s_2 (p_2 (Zb (Zd H R λa H=>?_)))))
      obtain ⟨b0,aw,b⟩:=bvx b
      refine Hg H Za ld R R u_3 ty5 R R aw R λa H=>Zc H R λa H=>Zc H R λa H=>Ze (s_1 (Zd H R λa H=>Zd H R λa H=>Zd H R λa H=>?_))
      obtain ⟨bp,bq,ax,ay,az,a0⟩:=TV m -- ^
      obtain ⟨u82,u84,rfl,b2,b4⟩:=Qj ay -- ^
      refine Ya H Za ld (lk R ax) λa H=>Zr H R (Zr7) λa H=>?_
      obtain ⟨q,G,b⟩:=bvx b
      refine ZC H R R u_4 ty5 G.1 λa H=>ZO (v:=(vB q)) H R ty5 R (At.vec (at_1 (I.atk az a0)) G.2) λa H=>?_
      obtain ⟨b5,A,b⟩:=bvx b
      refine ZC H R R u_3 ty5 A.1 λa H=>?_
      have I:=I.pl1
      refine Zk (seg:=[vB q]) (cs':=enc (n.1.setIfInBounds (n.2).toNat q)) H I Za R R R ty5 R (ZS (v:=n.1) (x:=q) A.1) (t_1 (q : UInt8)) (ZF (v:=n.1) (x:=q) A.1) λw a I H=>Zf (Yn (Zw (s_1 (Zm H R R R λa H=>Zd H R λa H=>Zf (Zi ?_)))))
      have I:=I.pl1
      exact ⟨_,ois b,H.s,I⟩
     intro av b
     refine s_3 (Zp (Zp (Yv ?_)))
     obtain rfl:=au _ (ois b)
     refine Zi ?_
     exact ⟨H.s,I⟩
    rintro a w ⟨H,I⟩
    refine Yn ?_
    obtain rfl:=o_1 ar
    refine Zi ?_
    exact ⟨H.s,I⟩
   rintro a w ⟨H,I⟩
   refine s_1 (Zd H R λa H=>Zm H R R R λa H=>Zc H R λa H=>Zf (Zi ?_))
   exact ⟨_,ois W,H.s,I⟩
  intro T o
  refine s_3 (Zp (Zp (Yv ?_)))
  obtain rfl:=O _ (ois o)
  refine Zi ?_
  exact ⟨H.s,I⟩
 rintro a w ⟨H,I⟩
 refine Zw ?_
 obtain ⟨bh,l,a1⟩:=p_1 a5
 refine ZG (λa w=>Env 59 a [(6,ptr i 0)] ∧ M (Old h) h w [raw i (enc bh)]) ?_ ?_
 ·obtain ⟨bi,B,l⟩:=bix l
  obtain ⟨K,a2,l⟩:=p_1 l
  refine Z7 [54,55,56,57,58] YJ R R dd_ R H I (qsP (λz=>ZB z.E Za ld R ZD R (z.M.ra1) (u_1 _) (kr0 R)) (q_m (λ_=>R) (qsP (λz=>XD z.E Za ld R R o_3 ZD (z.M.rd f) B.1 (kr0 R)) (qsP (λz=>ZB z.E Za ld R ZD R (Xx (z.M.rd f) B.2) (u_1 _) (kr0 R)) (qsP (λz=>ZW z.E Za ld R z6 (XT _ j5 bi K a2) (kc R)) qs0))))) ?_
  ·intro a w u H I
   refine s_w K H I Za R R R ZD λw a I H=>Zf ?_
   obtain rfl:=o_1 l
   refine Zi ?_
   have I:=I.f_1
   exact ⟨H.s,I⟩
 rintro a w ⟨H,I⟩
 obtain rfl:=o_1 a1
 have L : Z8 prog _ _ (.cell 6 53) _:=ZH H R ZD R I.ra0 (u_1 _) R
 exact u_2 (ZT H R L ⟨_,R,R,I.kept⟩)
def UY (b : Gkeyed) (c : V16) : Option (V16) :=
 (XB b.engine b.keys c).bind λd=>some d
theorem AI (f : World) (h : Gkeyed) (b : Value) (d : Ro f h.engine [b]) (c : Value) (e : Ro f h.keys [c]) (i : V16) (r : V16) (hF : UY h i = some r) :
  Calls prog 213 [Value.agg (cat [[b],[c]]).toArray,Value.agg (enc i).toArray].toArray f (Rt f (Value.agg (enc r).toArray)):=by
 refine ce func213 ?_
 intro a H
 have I:=M.start f
 unfold UY at hF
 refine Zb (ZY (cs:=cat [[b],[c]]) H I Za ld R R λm w a I H=>ZY (cs:=enc i) H I Za ld R R λn w a I H=>Zx H I ZD λo w a I H=>Ze (Zb (Zr H R (Zlc) λa H=>ZO (v:=b) H R Zd4 R (at_0 I.ra2) λa H=>Zr H R (Zk6) λa H=>ZO (v:=c) H R BZ R (at_1 I.ra2) λa H=>Zu H R ZD R I.ra1 (u_1 _) λa H=>?_)))
 obtain ⟨k,l,hF⟩:=p_1 hF
 refine c_k H I R (cbm func285) (Bi _ h.engine b (I.rdo d) h.keys c (I.rdo e) i k l) λw a I H=>?_
 refine s_w k H I Za R R R ZD λw a I H=>Ze ?_
 obtain rfl:=o_1 hF
 have j : Z8 prog _ _ (.cell 4 53) _:=ZH H R ZD R I.ra0 (u_1 _) R
 exact u_2 (ZT H R j ⟨_,R,R,I.kept⟩)
def Wn (i : Gkeyed) (h : List V16) (b : V16 × Int × List V16) : Option (Fl (V16 × Int × List V16) (List V16)) :=
 if decide (b.2.1 < (h.length : Int)) then ((idx h b.2.1).bind λc=>((UY i c).bind λe=>(Yz e b.1).bind λd=>(app 16 b.2.2 ([d] : List V16)).bind λj=>some (b.2.2 ++ ([d] : List V16)) : Option ((List V16))).bind λf=>some (Fl.nx (c,wr (b.2.1 + 1),f))) else (some (Fl.ex b.2.2))
def VQ (d : Gkeyed) (e : V16) (f : List UInt8) : Option ((List UInt8)) :=
 (Ub f).bind λh=>(ZK (Wn d h) (e,0,([] : List V16))).bind λb=>(QU b).bind λc=>some c
theorem AT (i : World) (p0 : Gkeyed) (c : Value) (y : Ro i p0.engine [c]) (d : Value) (A : Ro i p0.keys [d]) (p1 : V16) (p2 : List UInt8) (j : Value) (B : Ro i p2 [j]) (r : List UInt8) (hF : VQ p0 p1 p2 = some r) :
  Calls prog 120 [Value.agg (cat [[c],[d]]).toArray,Value.agg (enc p1).toArray,j].toArray i (e_r λv w'=>(∃ y1 : Value,v = y1 ∧ Fr i w' [osl NoB r y1] ∧ Kept (Old i) i w')):=by
 refine ce func120 ?_
 intro a H
 have I:=M.start i
 unfold VQ at hF
 refine Zb (ZY (cs:=cat [[c],[d]]) H I Za ld R R λK w a I H=>ZY (cs:=enc p1) H I Za ld R R λL w a I H=>Zc H R λa H=>Ze (Zb (ZR (xs:=[]) (l:=([] : List V16)) (vs:=[]) H I Za ld R R o_3 ZD R dd_ R λu5 w a I H=>Zc H R λa H=>Ze (s_2 (Zb (Zd H R λa H=>?_))))))
 obtain ⟨G,e8,hF⟩:=p_1 hF
 refine Zn H R Zqh (Hl _ p2 j (I.rdo B) G e8) ?_
 rintro N w a ⟨_,rfl,hFr,hK⟩ H
 have I:=I.add hK hFr
 refine Yp H R o_3 (I.sl0) λa H=>Zd H R λa H=>Ze ?_
 obtain ⟨O,T,k⟩:=p_1 hF
 refine ZX (λa w=>∃ q : Value,Env 30 a [(7,q)] ∧ M (Old i) i w [osl NoB O q]) ?_ ?_
 ·refine p_2 ?_
  have I:=I.pl1.pl3.pl3.pl3
  refine ZN (λ(h : V16 × Int × List V16) a w=>∃ m : Value,Env 30 a [(3,ptr K 0),(4,ptr L 0),(7,m),(12,N),(13,vI (G.length : Int)),(14,vI h.2.1)] ∧ M (Old i) i w [osl NoB G N,raw L (enc h.1),raw K (cat [[c],[d]]),osl NoB h.2.2 m]) T ⟨u5,H.s,I⟩ ?_
  rintro h a w ⟨m,H,I⟩ aq b U
  unfold Wn at b
  refine Zb (Zm H R R R λa H=>Ze (s_2 ?_))
  refine c_if H R b ?_ ?_
  ·intro W b
   refine t_2 (Zw (s_2 (p_2 (Zb ?_))))
   obtain ⟨n,x,b⟩:=bix b
   refine Ys H R R o_3 ZD (I.sl0) x.1 λa H=>Zu H R ZD R (Xx (I.sl0) x.2) (u_1 _) λa H=>Zx H I ZD λC w a I H=>s_w n H I Za R R R ZD λw a I H=>Ze ?_
   obtain ⟨ae,e,X⟩:=p_1 b
   refine ZG (λa w=>∃ t : Value,Env 30 a [(3,ptr K 0),(4,ptr L 0),(7,t),(9,ptr C 0),(12,N),(13,vI (G.length : Int)),(14,vI h.2.1)] ∧ M (Old i) i w [raw C (enc n),osl NoB G N,raw L (enc h.1),raw K (cat [[c],[d]]),osl NoB ae t]) ?_ ?_
   ·obtain ⟨Y,af,e⟩:=p_1 e
    obtain ⟨o,ag,e⟩:=p_1 e
    refine Y0 (its:=[raw C (enc n),osl NoB G N,raw L (enc h.1),raw K (cat [[c],[d]]),osl NoB h.2.2 m]) (mk:=([mkO 6 (λv=>osl NoB (([o] : List V16) : List V16) v)] : Mk)) [18,19,20,21,22,23,24] YJ R R dd_ R H (λu=>M.qE (M.q0 I.drew u) emO) (q_m (λ_=>R) (qsP (λz=>ZB z.E Za ld R kZ R (z.M.ra3) cq (kr0 R)) (qsP (λz=>ZB z.E Za ld R ZD R (z.M.ra0) (u_1 _) (kr0 R)) (qsP (λz=>ZW z.E Za ld R (cbm func213) (AI _ p0 c (z.M.rdo y) d (z.M.rdo A) n Y af) (kc R)) (qsP (λz=>ZB z.E Za ld R ZD R (z.M.ra2) (u_1 _) (kr0 R)) (qsP (λz=>ZW z.E Za ld R z6 (XT _ Y h.1 o ag) (kc R)) (q_t ?_ qs0))))))) ?_
    ·intro a w Z D z
     have H:=z.E
     have hD : D 6 = false:=z.F
     have I:=z.M
     exact ZR (xs:=[.tmp 23]) (l:=([o] : List V16)) (vs:=[Value.agg (enc o).toArray]) H I Za ld R R o_3 ZD R dd_ R λar w a I H=>⟨_,_,R,H,M.qFill (mk1:=[]) (mk2:=[]) (f:=(λv=>osl NoB (([o] : List V16) : List V16) v)) I R hD,trivial⟩
    intro a w Z D H I hG aa
    have d6:=aa 6 dd_
    have I:=I.sure (pre:=[_,_,_,_,_]) d6
    obtain ⟨av,ah,e⟩:=p_1 e
    obtain ⟨ai,rfl⟩:=Yc ah
    have I:=I.pl4
    refine Yg H I Za ld R R (I.sl (pre:=[_,_,_,_,_]) noB) o_3 ZD R dd_ ai λaj w a I H=>Zc H R λa H=>Zf ?_
    obtain rfl:=o_1 e
    refine Zi ?_
    have I:=I.pl4.pl4.pl4.pl4.f_5
    exact ⟨aj,H.s,I⟩
   rintro a w ⟨t,H,I⟩
   refine s_1 (Zu H R ZD R I.ra0 (u_1 _) λa H=>?_)
   have I:=I.pl2
   refine s_w n H I Za R R R ZD λw a I H=>Zf (Yn (Zw (s_1 (Zm H R R R λa H=>Zd H R λa H=>Zf (Zi ?_)))))
   have I:=I.pl4.pl4.pl2.pl4.f_4
   exact ⟨_,ois X,t,H.s,I⟩
  intro W b
  refine s_3 (Zp (Zp (Yv ?_)))
  obtain rfl:=U _ (ois b)
  refine Zi ?_
  have I:=I.pl3.f_1
  exact ⟨m,H.s,I⟩
 rintro a w ⟨q,H,I⟩
 refine Zw (Zb (Zd H R λa H=>?_))
 obtain ⟨ak,al,k⟩:=p_1 k
 refine Zn H R (cbm func207) (yc _ O q (I.sl0) ak al) ?_
 rintro am w a ⟨_,rfl,hFr,hK⟩ H
 have I:=I.add hK hFr
 refine Zc H R λa H=>Ze ?_
 obtain rfl:=o_1 k
 have I:=I.f_1
 exact u_2 (ZT H R (Zy H R) ⟨_,R,am,R,I.outF (Z1 Yj),I.kept⟩)
def Xh (d : List UInt8) (e : UInt8) (b : Int) : Option (Fl Int (Fl Unit Int)) :=
 if decide (b ≥ 0) then ((idx d b).bind λc=>if c == e then (some (Fl.ex (Fl.ex b))) else (some (Fl.nx (wr (b - 1))))) else (some (Fl.ex (Fl.nx ())))
def XW (b : List UInt8) (c : UInt8) : Option (Int) :=
 (ZK (Xh b c) (wr ((b.length : Int) - 1))).bind λd=>d.el (λe=>some (-1)) (λr=>some r)
theorem JP (f : World) (o : List UInt8) (d : Value) (c : Ro f o [d]) (l : UInt8) (r : Int) (hF : XW o l = some r) :
  Calls prog 284 [d,vB l].toArray f (Rt f (vI r)):=by
 refine ce func284 ?_
 intro a H
 have I:=M.start f
 unfold XW at hF
 refine Zb (Zc H R λa H=>Ze (s_2 (Zb (Zd H R λa H=>Yp H R o_2 (I.rd c) λa H=>Zm H R R R λa H=>Zc H R λa H=>Ze ?_))))
 obtain ⟨u,m,e⟩:=p_1 hF
 refine ZX (λa w=>∃ q : Unit,u = Fl.nx q ∧ Env 20 a [] ∧ M (Old f) f w []) ?_ ?_
 ·refine p_2 ?_
  refine ZN (λ(t : Int) a w=>Env 20 a [(0,d),(1,vB l),(5,vI t)] ∧ M (Old f) f w []) m ⟨H.s,I⟩ ?_
  rintro t a w ⟨H,I⟩ x b i
  unfold Xh at b
  refine s_2 (Zb (Zd H R λa H=>Zm H R R R λa H=>Ze ?_))
  refine c_if H R b ?_ ?_
  ·intro n b
   refine t_2 (Zw (s_2 (p_2 (Zb (Zd H R λa H=>Zd H R λa H=>?_)))))
   obtain ⟨j,h,b⟩:=bix b
   refine Ys H R R o_2 ty5 (I.rd c) h.1 λa H=>ZO (v:=(vB j)) H R ty5 R (Xx (I.rd c) h.2) λa H=>Zd H R λa H=>Zm H R R (Zfd j l) λa H=>Ze ?_
   refine c_if H R b ?_ ?_
   ·intro k b
    refine Zb (Zd H R λa H=>Zc H R λa H=>Ze ?_)
    obtain rfl:=i _ (ois b)
    obtain rfl:=o_1 e
    exact u_2 (YZ (ZA (ZA (YZ (ZA (ZA (kr1 H R R I.kept)))))))
   intro k b
   refine t_2 (Yn (Zw (s_1 (Zd H R λa H=>Zm H R R R λa H=>Zc H R λa H=>Zf (Zi ?_)))))
   exact ⟨_,ois b,H.s,I⟩
  intro n b
  refine s_3 (Zp (Zp (Yv ?_)))
  obtain rfl:=i _ (ois b)
  refine Zi ?_
  exact ⟨(),R,H.sub trivial,I⟩
 rintro a w ⟨q,ht,H,I⟩
 subst ht
 have e:=JM e
 refine Zw (Zb (Zc H R λa H=>Ze ?_))
 obtain rfl:=o_1 e
 exact u_2 (kr1 H R R I.kept)
def Vl (b : List UInt8) (c : UInt8) : Option (Int) :=
 (XW b c).bind λd=>some d
theorem AF (d : World) (e : List UInt8) (b : Value) (c : Ro d e [b]) (f : UInt8) (r : Int) (hF : Vl e f = some r) :
  Calls prog 212 [b,vB f].toArray d (Rt d (vI r)):=by
 refine ce func212 ?_
 intro a H
 have I:=M.start d
 unfold Vl at hF
 refine Zb (Zc H R λa H=>Ze (Zb (Zd H R λa H=>Zd H R λa H=>?_)))
 obtain ⟨h,i,hF⟩:=p_1 hF
 refine c_k H I R (cbm func284) (JP _ e b (I.rdo c) f h i) λw a I H=>?_
 refine Zc H R λa H=>Ze ?_
 obtain rfl:=o_1 hF
 exact u_2 (kr1 H R R I.kept)
def QT (b : List UInt8) (c : List UInt8) : Option (Bool) :=
 some (decide ((⟨b⟩ : Str) = (⟨c⟩ : Str)))
theorem z8 (f : World) (h : List UInt8) (b : Value) (d : Ro f h [b]) (i : List UInt8) (c : Value) (e : Ro f i [c]) (r : Bool) (hF : QT h i = some r) :
  Calls prog 169 [b,c].toArray f (Rt f (vT r)):=by
 refine ce func169 ?_
 intro a H
 have I:=M.start f
 unfold QT at hF
 refine Zb (Zc H R λa H=>Ze (Zb (Zd H R λa H=>Av H Za ld R o_2 t_3 underlying9 (I.rd d) λa H=>Zd H R λa H=>Av H Za ld R o_2 t_3 underlying9 (I.rd e) λa H=>s_eqS H Za ld R R λa H=>Zc H R λa H=>Ze ?_)))
 obtain rfl:=o_1 hF
 exact u_2 (kr1 H R R I.kept)
def QN (b : List UInt8) : Option (List UInt8 × Bool) :=
 (Vl b 1).bind λc=>(if decide (c < 0) then (some true) else ((slc b (0 : Int) c).bind λi=>(QZ i).bind λd=>(QT d b).bind λe=>if !e then (some true) else (some (decide (c > 2000)))) : Option (Bool)).bind λj=>if j then (some ([],false)) else ((slc b (0 : Int) c).bind λf=>(Z4 f).bind λh=>some (h,true))
theorem qH (i : World) (q : List UInt8) (d : Value) (f : Ro i q [d]) (r : List UInt8 × Bool) (hF : QN q = some r) :
  Calls prog 119 [d].toArray i (e_r λv w'=>(∃ E : Value,v = (Value.tuple [E,vT r.2].toArray) ∧ Fr i w' [osl NoB r.1 E] ∧ Kept (Old i) i w')):=by
 refine ce func119 ?_
 intro a H
 have I:=M.start i
 unfold QN at hF
 refine Zb (Zc H R λa H=>Zc H R λa H=>Ze (Zb (Zd H R λa H=>?_)))
 obtain ⟨j,K,hF⟩:=p_1 hF
 refine c_k H I R (cbm func212) (AF _ q d (I.rdo f) 1 j K) λw a I H=>?_
 refine Zc H R λa H=>Ze (s_2 ?_)
 obtain ⟨L,c,h⟩:=p_1 hF
 refine ZG (λa w=>Env 26 a [(0,d),(4,vI j),(21,vT L)] ∧ M (Old i) i w []) ?_ ?_
 ·refine s_1 (Zd H R λa H=>Zm H R R R λa H=>Zd H R λa H=>?_)
  refine Yq (decide (j < 0)) (λb=>?_) (λb=>?_)
  ·have c:=Zt c b
   refine k_s H b R R R λa H=>k_s H b R R R λa H=>k_s H b R R R λa H=>k_s H b R R R λa H=>k_s H b R R R λa H=>k_s H b R R R λa H=>k_s H b R R R λa H=>Z2 H (lkb R b) R λa H=>Zd H R λa H=>Zj H R R R dd_ λa H=>Zj H R R R dd_ λa H=>Z2 H R R λa H=>?_
   refine Zf ?_
   obtain rfl:=o_1 c
   refine Zi ?_
   exact ⟨H.s,I⟩
  have c:=Zs c b
  refine Zl H (Zh H R (lkb R b)) dd_ R λa H=>Zl H (Zh H R (lkb R b)) dd_ R λa H=>?_
  obtain ⟨F,G,c⟩:=p_1 c
  refine Uk H (Zh H R (lkb R b)) dd_ R R R R R o_2 ty5 (I.rd f) G λa H=>?_
  have t : Rep.sat (Old i) i F [ZV d ((0 : Int)).toNat (j).toNat 1] []:=Yo f G -- ^
  obtain ⟨k,u,c⟩:=p_1 c
  refine ZW H (Zh H R (lkb R b)) dd_ R (cbm func113) (zX _ F (ZV d ((0 : Int)).toNat (j).toNat 1) (I.rdo t) k u) ?_
  rintro x w a ⟨_,rfl,hFr,hK⟩ H
  have I:=I.add hK hFr
  refine Zl H (Zh H R (lkb R b)) dd_ R λa H=>?_
  obtain ⟨l,y,c⟩:=p_1 c
  refine ZW H (Zh H R (lkb R b)) dd_ R (cbm func169) (z8 _ k x (I.sl0) q d (I.rdo f) l y) ?_
  rintro v w a ⟨rfl,hK⟩ H
  have I:=I.keep hK
  refine QH H (Zh H R (lkb R b)) dd_ R λa H=>ZZ H (lkb R b) R λa H=>Zd H R λa H=>?_
  refine Yq (!l) (λe=>?_) (λe=>?_)
  ·have c:=Zt c e
   refine k_s H e R R R λa H=>k_s H e R R R λa H=>Z2 H (lkb R e) R λa H=>Zf ?_
   obtain rfl:=o_1 c
   refine Zi ?_
   have I:=I.f_0
   exact ⟨H.s,I⟩
  have c:=Zs c e
  refine Zl H (Zh H R (lkb R e)) dd_ R λa H=>Ye H (Zh H R (lkb R e)) dd_ R R R λa H=>ZZ H (lkb R e) R λa H=>Zf ?_
  obtain rfl:=o_1 c
  refine Zi ?_
  have I:=I.f_0
  exact ⟨H.s,I⟩
 rintro a w ⟨H,I⟩
 refine c_if H R h ?_ ?_
 ·intro m h
  refine Zb (Zc H R λa H=>Zc H R λa H=>Ze ?_)
  have I:=M.nilS (α:=UInt8) NoB noB I
  obtain rfl:=o_1 h
  exact u_2 (ZA (YN H R (Zy H R) (Zy H R) ⟨_,R,xf,R,I.outF (Z1 Yj),I.kept⟩))
 intro m h
 refine t_2 (Zw (Zb (Zd H R λa H=>Zd H R λa H=>?_)))
 obtain ⟨n,o,h⟩:=p_1 h
 refine Uk H Za ld R R R R R o_2 ty5 (I.rd f) o λa H=>?_
 have z : Rep.sat (Old i) i n [ZV d ((0 : Int)).toNat (j).toNat 1] []:=Yo f o -- ^
 obtain ⟨A,B,h⟩:=p_1 h
 refine Zn H R Zhj (Y1 _ n (ZV d ((0 : Int)).toNat (j).toNat 1) (I.rdo z) A B) ?_
 rintro C w a ⟨_,rfl,hFr,hK⟩ H
 have I:=I.add hK hFr
 refine Zc H R λa H=>Zc H R λa H=>Ze ?_
 obtain rfl:=o_1 h
 exact u_2 (YN H R (Zy H R) (Zy H R) ⟨_,R,C,R,I.outF (Z1 Yj),I.kept⟩)
def VW (h : GCipher) (j : V16) (k : V16) (d : List UInt8) : Option (List UInt8 × Int) :=
 (UH h d 0 2016).bind λi=>if i != 0 then (some ([],i)) else (if (Int.tmod (d.length : Int) 16) != 0 then (some ([],5)) else (((Tf h j).bind λe=>(VQ e k d).bind λf=>(QN f).bind λb=>some (b.1,b.2) : Option (List UInt8 × Bool)).bind λc=>if !c.2 then (some ([],5)) else (some (c.1,0))))
theorem zj (N : World) (x : GCipher) (U : V16) (W : V16) (p3 : List UInt8) (y : Value) (q : Ro N p3 [y]) (r : List UInt8 × Int) (hF : VW x U W p3 = some r) :
  Calls prog 32 [Value.agg (enc x).toArray,Value.agg (enc U).toArray,Value.agg (enc W).toArray,y].toArray N (e_r λv w'=>(∃ y1 : Value,v = (Value.tuple [y1,vI r.2].toArray) ∧ Fr N w' [osl NoB r.1 y1] ∧ Kept (Old N) N w')):=by
 refine ce func32 ?_
 intro a H
 have I:=M.start N
 unfold VW at hF
 refine Zb (ZY (cs:=cat [[vI x.Field],enc x.Box,enc x.Mix,enc x.Places,[vI x.Rounds]]) H I Za ld R R λb1 w a I H=>ZY (cs:=enc U) H I Za ld R R λb3 w a I H=>ZY (cs:=enc W) H I Za ld R R λb5 w a I H=>Zc H R λa H=>Zc H R λa H=>Ze (s_2 (Zb (Zu H R Wk R I.ra2 cq λa H=>Zd H R λa H=>?_))))
 obtain ⟨r7,e8,hF⟩:=p_1 hF
 refine c_k H I R (cbm func110) (BW _ x p3 y (I.rdo q) 0 2016 r7 e8) λw a I H=>?_
 refine Zc H R λa H=>Ze (Zb (Zd H R λa H=>Zm H R R R λa H=>Ze ?_))
 refine c_if H R hF ?_ ?_
 ·intro ae hF
  refine Zb (Zd H R λa H=>Zc H R λa H=>Zc H R λa H=>Ze ?_)
  have I:=M.nilS (α:=UInt8) NoB noB I
  obtain rfl:=o_1 hF
  have I:=I.f_1
  exact u_2 (ZA (YN H R (Zy H R) (Zy H R) ⟨_,R,xf,R,I.outF (Z1 Yj),I.kept⟩))
 intro ae hF
 refine t_2 (Zw (s_2 (Zb (Zd H R λa H=>Yp H R o_2 (I.rd q) λa H=>Zm H R R (J2 _ _ dd_) λa H=>Zm H R R R λa H=>Ze ?_))))
 refine c_if H R hF ?_ ?_
 ·intro X hF
  refine Zb (Zc H R λa H=>Zc H R λa H=>Ze ?_)
  have I:=M.nilS (α:=UInt8) NoB noB I
  obtain rfl:=o_1 hF
  have I:=I.f_1
  exact u_2 (ZA (YN H R (Zy H R) (Zy H R) ⟨_,R,xf,R,I.outF (Z1 Yj),I.kept⟩))
 intro X hF
 refine t_2 (Zw ?_)
 obtain ⟨Y,j,l⟩:=p_1 hF
 refine ZG (λa w=>∃ K : Value,Env 36 a [(11,K),(12,vT Y.2)] ∧ M (Old N) N w [osl NoB Y.1 K]) ?_ ?_
 ·obtain ⟨k,af,j⟩:=p_1 j
  obtain ⟨L,ag,j⟩:=p_1 j
  obtain ⟨B,ah,j⟩:=p_1 j
  refine Y0 (its:=[raw b5 (enc W),raw b3 (enc U),raw b1 (cat [[vI x.Field],enc x.Box,enc x.Mix,enc x.Places,[vI x.Rounds]])]) (mk:=([mkO 2 (λv=>own NoB k (Value.cells v).toList),mkO 5 (λv=>osl NoB L v),mkO 6 (λv=>osl NoB B.1 (Uj v 0))] : Mk)) [24,25,26,27,28,29,30,23,31,32,11] YJ R R dd_ R H (λu=>M.qE (M.qE (M.qE (M.q0 I.drew u) emO) emO) emO) (qsP (λz=>ZB z.E Za ld R Wk R (z.M.ra2) cq (kr0 R)) (qsP (λz=>ZB z.E Za ld R ZD R (z.M.ra1) (u_1 _) (kr0 R)) (qsM (pr:=λv=>∃ cs,v = .agg cs) ?_ (qsP (λz=>ZB z.E Za ld R ZD R (z.M.ra0) (u_1 _) (kr0 R)) (q_m (λ_=>R) (q_t ?_ (qsM (pr:=λv=>v = (Value.tuple [Uj v 0,vT B.2].toArray)) ?_ (qsD (ds:=[6]) (f:=λus=>(Value.tuple [Uj (us.getD 0 undef) 0,vT B.2].toArray)) ?_ (qsD (ds:=[6]) (f:=λus=>(Uj (us.getD 0 undef) 0)) ?_ (qsP (λz=>ZM z.E Za ld R R (kr0 R)) (qsD (ds:=[6]) (f:=λus=>(Uj (us.getD 0 undef) 0)) ?_ qs0))))))))))) ?_
  ·intro a w e D z
   have H:=z.E
   have hD : D 2 = false:=z.F
   have hM0:=z.M
   have I:=z.M
   refine Zn H R (cbm func111) (Az _ x U k af) ?_
   rintro _ w a ⟨Z,aa,rfl,hFr,hK⟩ H
   have I:=hM0.add hK hFr
   have I:=I.packL (m:=[own NoB k.engine [Z],osl NoB k.keys aa]) (it:=own NoB k (cat [[Z],[aa]])) (Xl noB) (λfp h=>by obtain ⟨_,_,rfl,_,s1,_,_,rfl,_,s2,rfl⟩:=h; exact Zdp s1 (UO.sat s2) (by simp))
   exact ⟨_,_,R,H,M.qFill (mk1:=[]) (mk2:=[_,_]) (f:=(λv=>own NoB k (Value.cells v).toList)) I R hD,⟨_,R⟩⟩
  ·intro a w e D z
   have H:=z.E
   have hD : D 5 = false:=z.F
   have d2 : D 2 = true:=z.p 0 _ R R
   have hM0:=z.M
   have I:=z.M.su3 d2
   obtain ⟨b,d,T,n,o⟩:=jX (I.ro (pre:=[_,_,_]) noB)
   have A : (e 2) = (Value.agg (cat [[b],[d]]).toArray):=yi T (z.G 2 (by assumption) _ R).2
   refine Zn H (Ze1 (ym (lk R A) (ym R (ym R evsN)))) (cbm func120) (AT _ k b n d o W p3 y (I.rdo q) L ag) ?_
   rintro _ w a ⟨_,rfl,hFr,hK⟩ H
   have I:=hM0.add hK hFr
   exact ⟨_,_,R,H,M.qFill (mk1:=[_]) (mk2:=[_]) (f:=(λv=>osl NoB L v)) I R hD,trivial⟩
  ·intro a w e D z
   have H:=z.E
   have hD : D 6 = false:=z.F
   have d5 : D 5 = true:=z.p 0 _ R R
   have hM0:=z.M
   have I:=z.M.sure (pre:=[_,_,_,_]) d5
   refine Zn H R (cbm func119) (qH _ L (e 5) (I.sl4) B ah) ?_
   rintro _ w a ⟨ar,rfl,hFr,hK⟩ H
   have I:=hM0.add hK hFr
   exact ⟨_,_,R,H,M.qFill (mk1:=[_,_]) (mk2:=[]) (f:=(λv=>osl NoB B.1 (Uj v 0))) I R hD,R⟩
  ·intro a w e D z
   have H:=z.E
   have O : D 6 = true:=z.p 0 _ R R
   have g6:=z.G 6 O _ R
   have f6 : e 6 = (Value.tuple [Uj (e 6) 0,vT B.2].toArray):=g6.2
   exact Zd H (lk R f6) λa H=>⟨t_6 _ _,Zfe O Zg1,_,R,H⟩
  ·intro a w e D z
   have H:=z.E
   have d7 : D 7 = true:=z.p 0 _ R R
   have O : D 6 = true:=z.c 7 _ _ R (List.mem_of_getElem? (i:=0) R) R d7
   exact ZM H Za ld R R λa H=>⟨t_6 _ _,Zfe O Zg1,_,R,H⟩
  ·intro a w e D z
   have H:=z.E
   have d8 : D 8 = true:=z.p 0 _ R R
   have g8:=z.G 8 d8 _ R
   have O : D 6 = true:=g8.1 6 (show 6 ∈ [6] by decide)
   exact Zc H R λa H=>⟨t_6 _ _,Zfe O Zg1,_,R,H⟩
  intro a w e D H I hG C
  have d2:=C 2 dd_
  have d5:=C 5 dd_
  have O:=C 6 dd_
  have I:=((I.su3 d2).sure (pre:=[_,_,_,_]) d5).sure (pre:=[_,_,_,_,_]) O
  obtain ⟨b,d,T,_,_⟩:=jX (I.ro (pre:=[_,_,_]) noB)
  have A : (e 2) = (Value.agg (cat [[b],[d]]).toArray):=yi T (hG 2 d2 _ R).2
  have I:=I.pl3
  have I:=(I.recown (congrArg (λv=>(Value.cells v).toList) A)).unpackL (m:=[own NoB k.engine [b],own NoB k.keys [d]]) (λfp h=>by obtain ⟨_,_,rfl,s1,s2⟩:=Zao h; exact (XN.cons (Xl noB) s1 (XN.one (Xl noB) s2)))
  simp only [l_c,l_n] at I
  have H:=H.setq (t:=26) R A
  refine Zc H R λa H=>Zf ?_
  obtain rfl:=o_1 j
  refine Zi ?_
  have I:=I.pl6.f_1
  exact ⟨Uj (e 6) 0,H.s,I⟩
 rintro a w ⟨K,H,I⟩
 refine s_2 (Zb (Zd H R λa H=>Qe H R λa H=>Ze ?_))
 refine c_if H R l ?_ ?_
 ·intro ab l
  refine Zb (Zc H R λa H=>Zc H R λa H=>Ze ?_)
  have I:=M.nilS (α:=UInt8) NoB noB I
  obtain rfl:=o_1 l
  have I:=I.f_1
  exact u_2 (ZA (YN H R (Zy H R) (Zy H R) ⟨_,R,xf,R,I.outF (Z1 Yj),I.kept⟩))
 intro ab l
 refine t_2 (Zw (Zb (Zd H R λa H=>Zc H R λa H=>Zc H R λa H=>Ze ?_)))
 obtain rfl:=o_1 l
 exact u_2 (YN H R (Zy H R) (Zy H R) ⟨_,R,K,R,I.outF (Z1 Yj),I.kept⟩)
def Qr (b : Int) : Option ((Ref Gengine)) :=
 (Vr b).bind λc=>(Ux c).bind λd=>some d
theorem Al (b : World) (c : Int) (r : (Ref Gengine)) (hF : Qr c = some r) :
  Calls prog 106 [vI c].toArray b (e_r λv w'=>(∃ d : Value,v = d ∧ Fr b w' [own NoB r [d]] ∧ Kept (Old b) b w')):=by
 refine ce func106 ?_
 intro a H
 have I:=M.start b
 unfold Qr at hF
 refine Zb (Zc H R λa H=>Ze (Zb (Zd H R λa H=>?_)))
 obtain ⟨e,f,hF⟩:=p_1 hF
 refine c_k H I R (cbm func109) (H9 _ c e f) λw a I H=>?_
 obtain ⟨h,i,hF⟩:=p_1 hF
 refine Zn H R (cbm func199) (B2 _ e h i) ?_
 rintro j w a ⟨_,rfl,hFr,hK⟩ H
 have I:=I.add hK hFr
 refine Zc H R λa H=>Ze ?_
 obtain rfl:=o_1 hF
 exact u_2 (ZT H R (Zy H R) ⟨_,R,j,R,I.outF (He Yj),I.kept⟩)
def Wu (b : V32 × Int) : Option (Fl (V32 × Int) V32) :=
 if decide (b.2 < 32) then ((ZP b.1 b.2).bind λc=>some (Fl.nx ((b.1.setIfInBounds (b.2).toNat (Zz (wr (17 * b.2)))),wr (b.2 + 1)))) else (some (Fl.ex b.1))
def VS : Option (V32) :=
 (ZK (Wu) ((Vector.replicate 32 (0 : UInt8)),0)).bind λb=>some b
theorem zo (e : World)  (r : V32) (hF : VS  = some r) :
  Calls prog 176 [].toArray e (Rt e (Value.agg (enc r).toArray)):=by
 refine ce func176 ?_
 intro a H
 have I:=M.start e
 unfold VS at hF
 refine Zb (Zx H I Yi λj w a I H=>Ze (Zb (Xi (parts:=[]) (vs:=[]) (cs:=enc xd) H Za ld R R Yi R ty5 YK λa H=>Zx H I Yi λk w a I H=>s_w xd H I Za R R R Yi λw a I H=>Ze (s_2 (Zb (Zd H R λa H=>Ze ?_))))))
 obtain ⟨n,l,m⟩:=p_1 hF
 refine ZX (λa w=>Env 14 a [(0,ptr j 0),(1,ptr k 0)] ∧ M (Old e) e w [raw k (enc n),raw j xq]) ?_ ?_
 ·refine p_2 ?_
  refine ZN (λ(c : V32 × Int) a w=>Env 14 a [(0,ptr j 0),(1,ptr k 0),(4,vI c.2)] ∧ M (Old e) e w [raw k (enc c.1),raw j xq]) l ⟨H.s,I⟩ ?_
  rintro c a w ⟨H,I⟩ o b f
  unfold Wu at b
  refine Zb (Zm H R R R λa H=>Ze (s_2 ?_))
  refine c_if H R b ?_ ?_
  ·intro h b
   refine t_2 (Zw (s_2 (p_2 (Zb (Zd H R λa H=>Zc H R λa H=>Ze (s_1 (Zd H R λa H=>Zd H R λa H=>Zm H R R R λa H=>Xq H Za ld R o_6 t_3 λa H=>?_)))))))
   obtain ⟨q,d,b⟩:=bvx b
   refine ZC H R R p_6 ty5 d.1 λa H=>Zk (seg:=[vB (Zz (wr (17 * c.2)))]) (cs':=enc (c.1.setIfInBounds (c.2).toNat (Zz (wr (17 * c.2))))) H I Za R R R ty5 R (ZS (v:=c.1) (x:=Zz (wr (17 * c.2))) d.1) (t_1 (Zz (wr (17 * c.2)) : UInt8)) (ZF (v:=c.1) (x:=Zz (wr (17 * c.2))) d.1) λw a I H=>Zf (Yn (Zw (s_1 (Zm H R R R λa H=>Zd H R λa H=>Zf (Zi ?_)))))
   exact ⟨_,ois b,H.s,I⟩
  intro h b
  refine s_3 (Zp (Zp (Yv ?_)))
  obtain rfl:=f _ (ois b)
  refine Zi ?_
  exact ⟨H.s,I⟩
 rintro a w ⟨H,I⟩
 refine Zw (Zb (Zu H R Yi R I.ra0 (u_1 _) λa H=>?_))
 have I:=I.pl1
 refine s_w n H I Za R R R Yi λw a I H=>Ze ?_
 obtain rfl:=o_1 m
 have i : Z8 prog _ _ (.cell 0 32) _:=ZH H R Yi R I.ra0 (u_1 _) R
 exact u_2 (ZT H R i ⟨_,R,R,I.kept⟩)
def XX (b : Int) : Option ((List UInt8)) :=
 (if decide (b < 0) then (none) else (some ()) : Option (Unit)).bind λf=>(if decide ((wr (b - (wr (0 - 0)))) > 0) then ((mkS 1 (0 : UInt8) (wr (b - (wr (0 - 0))))).bind λc=>(slc c (0 : Int) (0 : Int)).bind λd=>some d) else (some ([])) : Option ((List UInt8))).bind λe=>some e
theorem HC (d : World) (i : Int) (r : List UInt8) (hF : XX i = some r) :
  Calls prog 251 [xf,vI i].toArray d (e_r λv w'=>(∃ o : Value,v = o ∧ Fr d w' [osl NoB r o] ∧ Kept (Old d) d w')):=by
 refine ce func251 ?_
 intro a H
 have I:=M.start d
 unfold XX at hF
 refine Zb (Zc H R λa H=>Ze ?_)
 obtain ⟨x,c,j⟩:=p_1 hF
 refine ZG (λa w=>Env 27 a [(0,xf),(1,vI i)] ∧ M (Old d) d w []) ?_ ?_
 ·refine Zb (Zd H R λa H=>Zm H R R R λa H=>Ze ?_)
  refine c_if H R c ?_ ?_
  ·intro k c
   cases c
  intro k c
  refine t_2 ?_
  obtain rfl:=o_1 c
  refine Zi ?_
  exact ⟨H.s,I⟩
 rintro a w ⟨H,I⟩
 obtain ⟨q,b,l⟩:=p_1 j
 refine ZG (λa w=>∃ h : Value,Env 27 a [(0,h)] ∧ M (Old d) d w [osl NoB q h]) ?_ ?_
 ·refine Zb (Zd H R λa H=>Zd H R λa H=>Zh9 H Za ld R o_2 λa H=>Zd H R λa H=>Zhf H Za ld R o_2 λa H=>Zm H R R R λa H=>Zm H R R R λa H=>Zc H R λa H=>Ze (Zb (Zd H R λa H=>Zm H R R R λa H=>Ze ?_)))
  refine c_if H R b ?_ ?_
  ·intro e b
   refine s_1 (Zd H R λa H=>Zd H R λa H=>Zh9 H Za ld R o_2 λa H=>Zji H Za ld R R o_2 ty5 λa H=>Zd H R λa H=>?_)
   obtain ⟨t,m,b⟩:=p_1 b
   refine Zm8 H I Za ld R R o_2 o_6 ty5 R dd_ dd_ (λ_=>H6.2 ⟨R,R⟩) m λn w a I H=>Zd H R λa H=>Zhf H Za ld R o_2 λa H=>?_
   obtain ⟨u,f,b⟩:=p_1 b
   refine Uk H Za ld R R R R R o_2 ty5 (I.sl0) f λa H=>?_
   have I:=I.cut noB f
   refine Zc H R λa H=>Zf ?_
   obtain rfl:=o_1 b
   refine Zi ?_
   exact ⟨ZV n ((0 : Int)).toNat ((0 : Int)).toNat 1,H.s,I⟩
  intro e b
  refine t_2 ?_
  obtain rfl:=o_1 b
  refine Zi ?_
  have I:=M.nilS (α:=UInt8) NoB noB I
  exact ⟨xf,H.s,I⟩
 rintro a w ⟨h,H,I⟩
 refine Zb (Zd H R λa H=>Zc H R λa H=>Ze ?_)
 obtain rfl:=o_1 l
 exact u_2 (ZT H R (Zy H R) ⟨_,R,h,R,I.outF (Z1 Yj),I.kept⟩)
def WX (d : (List (List UInt8))) (b : Int × Int) : Option (Fl (Int × Int) Int) :=
 if decide (b.1 < (d.length : Int)) then (((idx d b.1).bind λc=>(if decide ((wr (b.2 + (c.length : Int))) < 0) then (none) else (some ()) : Option (Unit)).bind λe=>some (wr (b.2 + (c.length : Int))) : Option (Int)).bind λf=>some (Fl.nx (wr (b.1 + 1),f))) else (some (Fl.ex b.2))
def WT (d : (List (List UInt8))) (b : Int × List UInt8) : Option (Fl (Int × List UInt8) (List UInt8)) :=
 if decide (b.1 < (d.length : Int)) then ((idx d b.1).bind λc=>(app 1 b.2 c).bind λe=>some (Fl.nx (wr (b.1 + 1),b.2 ++ c))) else (some (Fl.ex b.2))
def YE (d : (List (List UInt8))) : Option ((List UInt8)) :=
 (ZK (WX d) (0,0)).bind λe=>(XX e).bind λb=>(ZK (WT d) (0,b)).bind λc=>some c
theorem U2 (e : World) (u : xp) (c : Value) (b : Ro e u [c]) (r : List UInt8) (hF : YE u = some r) :
  Calls prog 179 [c].toArray e (e_r λv w'=>(∃ y1 : Value,v = y1 ∧ Fr e w' [osl NoB r y1] ∧ Kept (Old e) e w')):=by
 refine ce func179 ?_
 intro a H
 have I:=M.start e
 unfold YE at hF
 refine Zb (Zc H R λa H=>Ze (Zb (Zc H R λa H=>Ze (s_2 (Zb (Zd H R λa H=>Yp H R t_5 (I.rd b) λa H=>Zd H R λa H=>Ze ?_))))))
 obtain ⟨j1,L,q⟩:=p_1 hF
 refine ZX (λa w=>Env 36 a [(0,c),(3,vI j1)] ∧ M (Old e) e w []) ?_ ?_
 ·refine p_2 ?_
  refine ZN (λ(x : Int × Int) a w=>Env 36 a [(0,c),(3,vI x.2),(9,c),(10,vI (u.length : Int)),(11,vI x.1)] ∧ M (Old e) e w []) L ⟨H.s,I⟩ ?_
  rintro x a w ⟨H,I⟩ o7 h N
  unfold WX at h
  refine Zb (Zm H R R R λa H=>Ze (s_2 ?_))
  refine c_if H R h ?_ ?_
  ·intro O h
   refine t_2 (Zw ?_)
   obtain ⟨j9,i,y⟩:=p_1 h
   refine ZG (λa w=>Env 36 a [(0,c),(3,vI j9),(9,c),(10,vI (u.length : Int)),(11,vI x.1)] ∧ M (Old e) e w []) ?_ ?_
   ·refine p_2 (Zb ?_)
    obtain ⟨T,j,i⟩:=bix i
    refine Ys H R R t_5 Uf (I.rd b) j.1 λa H=>?_
    obtain ⟨ai,n,z⟩:=V2 b j.2 -- ^
    obtain ⟨U,rfl⟩:=U0 n -- ^
    have W:=n -- ^
    refine ZO (v:=U) H R Uf R (I.atk z (Qi b j.2)) λa H=>Zc H R λa H=>Ze (Zb (Zd H R λa H=>Zd H R λa H=>Yp H R o_2 (I.rd W) λa H=>Zm H R R R λa H=>Zc H R λa H=>Ze (Zb (Zd H R λa H=>Zm H R R R λa H=>Ze ?_))))
    obtain ⟨al,f,A⟩:=p_1 i
    refine ZX (λa w=>Env 36 a [(0,c),(3,vI (wr (x.2 + (T.length : Int)))),(9,c),(10,vI (u.length : Int)),(11,vI x.1)] ∧ M (Old e) e w []) ?_ ?_
    ·refine c_if H R f ?_ ?_
     ·intro B f
      cases f
     intro B f
     refine t_2 ?_
     obtain rfl:=o_1 f
     refine Zi ?_
     exact ⟨H.s,I⟩
    rintro a w ⟨H,I⟩
    refine Yn ?_
    obtain rfl:=o_1 A
    refine Zi ?_
    exact ⟨H.s,I⟩
   rintro a w ⟨H,I⟩
   refine s_1 (Zm H R R R λa H=>Zd H R λa H=>Zf (Zi ?_))
   exact ⟨_,ois y,H.s,I⟩
  intro O h
  refine s_3 (Zp (Zp (Yv ?_)))
  obtain rfl:=N _ (ois h)
  refine Zi ?_
  exact ⟨H.s,I⟩
 rintro a w ⟨H,I⟩
 refine Zw (Zb (Zd H R λa H=>?_))
 obtain ⟨X,Y,q⟩:=p_1 q
 refine Zn H R (cbm func251) (HC _ j1 X Y) ?_
 rintro Z w a ⟨_,rfl,hFr,hK⟩ H
 have I:=I.add hK hFr
 refine Zc H R λa H=>Ze (s_2 (Zb (Zd H R λa H=>Yp H R t_5 (I.rd b) λa H=>Zd H R λa H=>Ze ?_)))
 obtain ⟨aa,C,E⟩:=p_1 q
 refine ZX (λa w=>∃ l : Value,Env 36 a [(6,l)] ∧ M (Old e) e w [osl NoB aa l]) ?_ ?_
 ·refine p_2 ?_
  refine ZN (λ(t : Int × List UInt8) a w=>∃ m : Value,Env 36 a [(6,m),(25,c),(26,vI (u.length : Int)),(27,vI t.1)] ∧ M (Old e) e w [osl NoB t.2 m]) C ⟨Z,H.s,I⟩ ?_
  rintro t a w ⟨m,H,I⟩ am d F
  unfold WT at d
  refine Zb (Zm H R R R λa H=>Ze (s_2 ?_))
  refine c_if H R d ?_ ?_
  ·intro G d
   refine t_2 (Zw (s_2 (p_2 (Zb ?_))))
   obtain ⟨an,k,d⟩:=bix d
   refine Ys H R R t_5 Uf (I.rd b) k.1 λa H=>?_
   obtain ⟨aj,o,K⟩:=V2 b k.2 -- ^
   obtain ⟨ab,rfl⟩:=U0 o -- ^
   have ac:=o -- ^
   refine ZO (v:=ab) H R Uf R (I.atk K (Qi b k.2)) λa H=>Zc H R λa H=>Ze (s_1 (Zd H R λa H=>Zd H R λa H=>?_))
   obtain ⟨ao,ad,d⟩:=p_1 d
   obtain ⟨ae,rfl⟩:=Yc ad
   refine Yg H I Za ld R R (I.rd ac) o_2 ty5 R dd_ ae λaf w a I H=>Zc H R λa H=>Zf (Yn (Zw (s_1 (Zm H R R R λa H=>Zd H R λa H=>Zf (Zi ?_)))))
   exact ⟨_,ois d,af,H.s,I⟩
  intro G d
  refine s_3 (Zp (Zp (Yv ?_)))
  obtain rfl:=F _ (ois d)
  refine Zi ?_
  exact ⟨m,H.s,I⟩
 rintro a w ⟨l,H,I⟩
 refine Zw (Zb (Zd H R λa H=>Zc H R λa H=>Ze ?_))
 obtain rfl:=o_1 E
 exact u_2 (ZT H R (Zy H R) ⟨_,R,l,R,I.outF (Z1 Yj),I.kept⟩)
def Tn (c : Int) (b : List UInt8 × Int) : Option (Fl (List UInt8 × Int) (List UInt8)) :=
 if decide (b.2 ≥ 0) then ((XM (wr (8 * b.2))).bind λ_=>(app 1 b.1 ([Zz (Qp c (wr (8 * b.2)))] : List UInt8)).bind λd=>some (Fl.nx ((b.1 ++ ([Zz (Qp c (wr (8 * b.2)))] : List UInt8)),wr (b.2 - 1)))) else (some (Fl.ex b.1))
def XU (b : Int) (c : Int) : Option ((List UInt8)) :=
 (ZK (Tn b) (([] : List UInt8),wr (c - 1))).bind λd=>some d
theorem JW (c : World) (e : Int) (u : Int) (r : List UInt8) (hF : XU e u = some r) :
  Calls prog 232 [vI e,vI u].toArray c (e_r λv w'=>(∃ x : Value,v = x ∧ Fr c w' [osl NoB r x] ∧ Kept (Old c) c w')):=by
 refine ce func232 ?_
 intro a H
 have I:=M.start c
 unfold XU at hF
 refine Zb (Zc H R λa H=>Ze (Zb (ZR (xs:=[]) (l:=xz) (vs:=[]) H I Za ld R R o_2 ty5 R dd_ R λy w a I H=>Zc H R λa H=>Ze (s_2 (Zb (Zd H R λa H=>Zm H R R R λa H=>Zc H R λa H=>Ze ?_))))))
 obtain ⟨z,m,n⟩:=p_1 hF
 refine ZX (λa w=>∃ j : Value,Env 23 a [(5,j)] ∧ M (Old c) c w [osl NoB z j]) ?_ ?_
 ·refine p_2 ?_
  refine ZN (λ(f : List UInt8 × Int) a w=>∃ k : Value,Env 23 a [(0,vI e),(5,k),(6,vI f.2)] ∧ M (Old c) c w [osl NoB f.1 k]) m ⟨y,H.s,I⟩ ?_
  rintro f a w ⟨k,H,I⟩ A b h
  unfold Tn at b
  refine s_2 (Zb (Zd H R λa H=>Zm H R R R λa H=>Ze ?_))
  refine c_if H R b ?_ ?_
  ·intro i b
   refine t_2 (Zw (s_2 (p_2 (s_1 (Zd H R λa H=>Zd H R λa H=>Zd H R λa H=>Zm H R R R λa H=>?_)))))
   obtain ⟨_,d,b⟩:=p_1 b
   have d:=VG d
   refine yd H Za ld R R (Ze4 _ _ d) λa H=>Xq H Za ld R t_4 t_3 λa H=>ZR (xs:=[.tmp 19]) (l:=([Zz (Qp e (wr (8 * f.2)))] : List UInt8)) (vs:=[vB (Zz (Qp e (wr (8 * f.2))))]) H I Za ld R R o_2 ty5 R dd_ R λB w a I H=>?_
   obtain ⟨C,o,b⟩:=p_1 b
   obtain ⟨q,rfl⟩:=Yc o
   have I:=I.pl1
   refine Yg H I Za ld R R (I.sl1) o_2 ty5 R dd_ q λt w a I H=>Zc H R λa H=>Zf (Yn (Zw (s_1 (Zd H R λa H=>Zm H R R R λa H=>Zc H R λa H=>Zf (Zi ?_)))))
   have I:=I.f_1
   exact ⟨_,ois b,t,H.s,I⟩
  intro i b
  refine s_3 (Zp (Zp (Yv ?_)))
  obtain rfl:=h _ (ois b)
  refine Zi ?_
  exact ⟨k,H.s,I⟩
 rintro a w ⟨j,H,I⟩
 refine Zw (Zb (Zd H R λa H=>Zc H R λa H=>Ze ?_))
 obtain rfl:=o_1 n
 exact u_2 (ZT H R (Zy H R) ⟨_,R,j,R,I.outF (Z1 Yj),I.kept⟩)
def Qm (b : List UInt8) : Option (Fl (List UInt8) (List UInt8)) :=
 if (Int.tmod (b.length : Int) 16) != 8 then ((app 1 b ([0] : List UInt8)).bind λc=>some (Fl.nx (b ++ ([0] : List UInt8)))) else (some (Fl.ex b))
def Tr (d : List UInt8) : Option ((List UInt8)) :=
 (Z4 d).bind λe=>(app 1 e ([128] : List UInt8)).bind λh=>(ZK (Qm) (e ++ ([128] : List UInt8))).bind λb=>(XU (d.length : Int) 8).bind λc=>(app 1 b c).bind λf=>some (b ++ c)
theorem yT (f : World) (o : List UInt8) (c : Value) (e : Ro f o [c]) (r : List UInt8) (hF : Tr o = some r) :
  Calls prog 178 [c].toArray f (e_r λv w'=>(∃ F : Value,v = F ∧ Fr f w' [osl NoB r F] ∧ Kept (Old f) f w')):=by
 refine ce func178 ?_
 intro a H
 have I:=M.start f
 unfold Tr at hF
 refine Zb (Zc H R λa H=>Ze (Zb (Zd H R λa H=>?_)))
 obtain ⟨G,K,hF⟩:=p_1 hF
 refine Zn H R Zhj (Y1 _ o c (I.rdo e) G K) ?_
 rintro X w a ⟨_,rfl,hFr,hK⟩ H
 have I:=I.add hK hFr
 refine ZR (xs:=[.const (vB 128)]) (l:=([128] : List UInt8)) (vs:=[vB 128]) H I Za ld R R o_2 ty5 R dd_ R λY w a I H=>?_
 obtain ⟨Z,L,hF⟩:=p_1 hF
 obtain ⟨q,rfl⟩:=Yc L
 have I:=I.pl1
 refine Yg H I Za ld R R (I.sl1) o_2 ty5 R dd_ q λu8 w a I H=>Zc H R λa H=>Ze ?_
 obtain ⟨t,j,d⟩:=p_1 hF
 refine ZG (λa w=>∃ i : Value,Env 20 a [(0,c),(3,i)] ∧ M (Old f) f w [osl NoB t i]) ?_ ?_
 ·refine p_2 ?_
  have I:=I.f_1
  refine ZN (λ(k : List UInt8) a w=>∃ h : Value,Env 20 a [(0,c),(3,h)] ∧ M (Old f) f w [osl NoB k h]) j ⟨u8,H.s,I⟩ ?_
  rintro k a w ⟨h,H,I⟩ N b m
  unfold Qm at b
  refine s_2 (Zb (Zd H R λa H=>Yp H R o_2 (I.sl0) λa H=>Zm H R R (J2 _ _ dd_) λa H=>Zm H R R R λa H=>Ze ?_))
  refine c_if H R b ?_ ?_
  ·intro n b
   refine t_2 (Zw (p_2 (s_1 (Zd H R λa H=>ZR (xs:=[.const (vB 0)]) (l:=([0] : List UInt8)) (vs:=[vB 0]) H I Za ld R R o_2 ty5 R dd_ R λO w a I H=>?_))))
   obtain ⟨T,u,b⟩:=p_1 b
   obtain ⟨x,rfl⟩:=Yc u
   have I:=I.pl1
   refine Yg H I Za ld R R (I.sl1) o_2 ty5 R dd_ x λy w a I H=>Zc H R λa H=>Zf (Yn (Zi ?_))
   have I:=I.f_1
   exact ⟨_,ois b,y,H.s,I⟩
  intro n b
  refine s_3 (Zp (Zp (Yv ?_)))
  obtain rfl:=m _ (ois b)
  refine Zi ?_
  exact ⟨h,H.s,I⟩
 rintro a w ⟨i,H,I⟩
 refine Zb (Zd H R λa H=>Zd H R λa H=>Yp H R o_2 (I.rd e) λa H=>?_)
 obtain ⟨z,A,d⟩:=p_1 d
 refine Zn H R Zp8 (JW _ (o.length : Int) 8 z A) ?_
 rintro U w a ⟨_,rfl,hFr,hK⟩ H
 have I:=I.add hK hFr
 obtain ⟨W,B,d⟩:=p_1 d
 obtain ⟨C,rfl⟩:=Yc B
 have I:=I.pl1
 refine Yg H I Za ld R R (I.sl1) o_2 ty5 R dd_ C λE w a I H=>Zc H R λa H=>Ze ?_
 obtain rfl:=o_1 d
 have I:=I.f_1
 exact u_2 (ZT H R (Zy H R) ⟨_,R,E,R,I.outF (Z1 Yj),I.kept⟩)
def XI (b : (Ref Gengine)) (e : V16) (f : V16) : Option (V16) :=
 ((WA b e b.v.rounds).bind λc=>(Y9 b c f).bind λd=>some d : Option (V16)).bind λh=>some h
theorem JQ (j : World) (e : (Ref Gengine)) (c : Value) (b : Ro j e [c]) (k : V16) (l : V16) (r : V16) (hF : XI e k l = some r) :
  Calls prog 252 [c,Value.agg (enc k).toArray,Value.agg (enc l).toArray].toArray j (Rt j (Value.agg (enc r).toArray)):=by
 refine ce func252 ?_
 intro a H
 have I:=M.start j
 unfold XI at hF
 refine Zb (ZY (cs:=enc k) H I Za ld R R λT w a I H=>ZY (cs:=enc l) H I Za ld R R λU w a I H=>Zx H I ZD λA w a I H=>Ze ?_)
 obtain ⟨W,d,B⟩:=p_1 hF
 refine ZG (λa w=>Env 17 a [(6,ptr A 0)] ∧ M (Old j) j w [raw A (enc W)]) ?_ ?_
 ·obtain ⟨N,O,m,n,o,q⟩:=TV b -- ^
  obtain ⟨C,G,rfl,X,Y⟩:=Qj n -- ^
  obtain ⟨h,K,d⟩:=p_1 d
  refine Y0 (its:=[raw A xi,raw U (enc l),raw T (enc k)]) (mk:=([mkO 7 (λv=>osl NoB h v)] : Mk)) [7,8,9,10,11,12,13,14,15] YJ R R dd_ R H (λu=>M.qE (M.q0 I.drew u) emO) (q_m (λ_=>R) (q_m (λ_=>R) (qsP (λz=>ZB z.E Za ld R ZD R (z.M.ra2) (u_1 _) (kr0 R)) (q_m (λ_=>R) (qsP (λz=>Ya z.E Za ld (lk R m) (kr0 R)) (qsP (λz=>Zo z.E Za ld R (Zrq) (kr0 R)) (qsP (λz=>ZL (v:=(vI e.v.rounds)) z.E Za ld R ty2 R (At.cat (pre:=[enc e.v.box,enc e.v.backBox,enc e.v.places,enc e.v.backPlaces,[C],[G]]) (z.M.atk o q) ck) (kr0 R)) (q_t ?_ (qsP (λz=>ZB z.E Za ld R ZD R (z.M.ra1) (u_1 _) (kr0 R)) qs0))))))))) ?_
  ·intro a w i D z
   have H:=z.E
   have hD : D 7 = false:=z.F
   have hM0:=z.M
   have I:=z.M
   refine Zn H R (cbm func204) (H8 _ e c (I.rdo b) k e.v.rounds h K) ?_
   rintro _ w a ⟨_,rfl,hFr,hK⟩ H
   have I:=hM0.add hK hFr
   exact ⟨_,_,R,H,M.qFill (mk1:=[]) (mk2:=[]) (f:=(λv=>osl NoB h v)) I R hD,trivial⟩
  intro a w i D H I hG t
  have Z:=t 7 dd_
  have I:=I.su3 Z
  obtain ⟨x,L,d⟩:=p_1 d
  refine c_k H I R (cbm func275) (Ku _ e c (I.rdo b) h (i 7) (I.sl3) l x L) λw a I H=>?_
  refine s_w x H I Za R R R ZD λw a I H=>Zf ?_
  obtain rfl:=o_1 d
  refine Zi ?_
  have I:=I.f_1
  exact ⟨H.s,I⟩
 rintro a w ⟨H,I⟩
 obtain rfl:=o_1 B
 have y : Z8 prog _ _ (.cell 6 53) _:=ZH H R ZD R I.ra0 (u_1 _) R
 exact u_2 (ZT H R y ⟨_,R,R,I.kept⟩)
def WI (x : (Ref Gengine)) (y : V32) (z : V16) : Option (V32) :=
 (slc y.toList (0 : Int) (16 : Int)).bind λA=>(JS 16 A).bind λf=>(slc y.toList (16 : Int) (32 : Int)).bind λh=>(JS 16 h).bind λb=>(Yz f z).bind λc=>((XI x b c).bind λi=>(Yz i c).bind λj=>some j : Option (V16)).bind λd=>(Yz b z).bind λe=>((XI x d e).bind λk=>(Yz k e).bind λl=>some l : Option (V16)).bind λm=>((slc d.toList (0 : Int) (16 : Int)).bind λn=>(slc m.toList (0 : Int) (16 : Int)).bind λo=>(YE ([n,o] : (List (List UInt8)))).bind λq=>(JS 32 q).bind λt=>some t : Option (V32)).bind λu=>some u
theorem zn (n : World) (p0 : (Ref Gengine)) (c : Value) (l : Ro n p0 [c]) (p1 : V32) (A : V16) (r : V32) (hF : WI p0 p1 A = some r) :
  Calls prog 180 [c,Value.agg (enc p1).toArray,Value.agg (enc A).toArray].toArray n (Rt n (Value.agg (enc r).toArray)):=by
 refine ce func180 ?_
 intro a H
 have I:=M.start n
 unfold WI at hF
 refine Zb (ZY (cs:=enc p1) H I Za ld R R λb1 w a I H=>ZY (cs:=enc A) H I Za ld R R λb3 w a I H=>Zx H I Yi λB w a I H=>Ze (s_2 ?_))
 obtain ⟨l8,e9,hF⟩:=p_1 hF
 have T:=Ul e9 -- ^
 obtain ⟨U,W,hF⟩:=p_1 hF
 obtain ⟨a8,C,hF⟩:=p_1 hF
 have X:=Ul C -- ^
 obtain ⟨o,Y,hF⟩:=p_1 hF
 refine Y0 (its:=[raw B xq,raw b3 (enc A),raw b1 (enc p1)]) (mk:=([mkO 6 (λv=>Th v xi),mkO 7 (λv=>Th v xi)] : Mk)) [11,12,13,14,15,16,7,8] YJ R R dd_ R H (λu=>M.qE (M.qE (M.q0 I.drew u) emO) emO) (qsP (λz=>XH (N:=32) z.E Za ld R R R R R p_6 ty5 T (kr0 R)) (qsP (λz=>jo z.E Za ld R u_3 (Yo (At.sat (z.M.ra2) (by simp) dd_) e9) (J0 W).1 dd_ (kr0 R)) (qsP (λz=>ZB z.E Za ld R ZD R (Za9 (Yo (At.sat (z.M.ra2) (by simp) dd_) e9) W dd_) (u_1 _) (kr0 R)) (qsP (λz=>XH (N:=32) z.E Za ld R R R R R p_6 ty5 X (kr0 R)) (qsP (λz=>jo z.E Za ld R u_3 (Yo (At.sat (z.M.ra2) (by simp) dd_) C) (J0 Y).1 dd_ (kr0 R)) (qsP (λz=>ZB z.E Za ld R ZD R (Za9 (Yo (At.sat (z.M.ra2) (by simp) dd_) C) Y dd_) (u_1 _) (kr0 R)) (q_t ?_ (q_t ?_ qs0)))))))) ?_
 ·intro a w Z D z
  have H:=z.E
  have hD : D 6 = false:=z.F
  have I:=z.M
  refine Zx H I ZD λa9 w a I H=>?_
  have I:=I.pack1 (it:=Th _ xi) (λw w' fp ⟨b',e,k⟩ hb=>⟨b',e,XR w w' fp k hb⟩) (λfp k=>⟨_,R,k⟩)
  exact ⟨_,_,R,H,M.qFill (mk1:=[]) (mk2:=[_]) (f:=λv=>Th v xi) I R hD,trivial⟩
 ·intro a w Z D z
  have H:=z.E
  have hD : D 7 = false:=z.F
  have I:=z.M
  refine Zx H I ZD λba w a I H=>?_
  have I:=I.pack1 (it:=Th _ xi) (λw w' fp ⟨b',e,k⟩ hb=>⟨b',e,XR w w' fp k hb⟩) (λfp k=>⟨_,R,k⟩)
  exact ⟨_,_,R,H,M.qFill (mk1:=[_]) (mk2:=[]) (f:=λv=>Th v xi) I R hD,trivial⟩
 intro a w Z D H I hG y
 have d6:=y 6 dd_
 have d7:=y 7 dd_
 have I:=(I.sure (pre:=[_,_,_]) d6).pl
 obtain ⟨_,⟨i,aa,_⟩,_⟩:=I.head
 have I:=((I.pack1 XR (it:=raw i xi) (λfp ⟨b2,G,k2⟩=>by rw [aa] at G; simp [ptr] at G; subst G; exact k2)).sure (pre:=[_,_,_,_]) d7).pl
 obtain ⟨_,⟨j,ab,_⟩,_⟩:=I.head
 have I:=I.pack1 XR (it:=raw j xi) (λfp ⟨b2,G,k2⟩=>by rw [ab] at G; simp [ptr] at G; subst G; exact k2)
 have H:=H.setq (t:=7) R aa
 have H:=H.setq (t:=8) R ab
 have I:=I.pl1
 refine s_w U H I Za R R R ZD λw a I H=>?_
 have I:=I.pl1
 refine s_w o H I Za R R R ZD λw a I H=>Zf (Zw (Zb (Zu H R ZD R I.ra1 (u_1 _) λa H=>Zu H R ZD R I.ra3 (u_1 _) λa H=>?_)))
 obtain ⟨q,ar,hF⟩:=p_1 hF
 refine c_k H I R z6 (XT _ U A q ar) λw a I H=>?_
 refine Zx H I ZD λbe w a I H=>s_w q H I Za R R R ZD λw a I H=>Ze ?_
 obtain ⟨K,d,m⟩:=p_1 hF
 refine ZG (λa w=>Env 41 a [(0,c),(5,ptr b3 0),(6,ptr B 0),(7,ptr i 0),(8,ptr j 0)] ∧ M (Old n) n w [raw j (enc o),raw i (enc K),raw B xq,raw b3 (enc A)]) ?_ ?_
 ·obtain ⟨ac,au,d⟩:=p_1 d
  obtain ⟨ad,av,d⟩:=p_1 d
  refine Z7 [20,21,22,23,24,25] YJ R R dd_ R H I (q_m (λ_=>R) (qsP (λz=>ZB z.E Za ld R ZD R (z.M.ra1) (u_1 _) (kr0 R)) (qsP (λz=>ZB z.E Za ld R ZD R (z.M.ra0) (u_1 _) (kr0 R)) (qsP (λz=>ZW z.E Za ld R (cbm func252) (JQ _ p0 c (z.M.rdo l) o q ac au) (kc R)) (qsP (λz=>ZB z.E Za ld R ZD R (z.M.ra0) (u_1 _) (kr0 R)) (qsP (λz=>ZW z.E Za ld R z6 (XT _ ac q ad av) (kc R)) qs0)))))) ?_
  ·intro a w u H I
   have I:=I.pl2
   refine s_w ad H I Za R R R ZD λw a I H=>Zf ?_
   obtain rfl:=o_1 d
   refine Zi ?_
   have I:=I.pl4.pl4.pl2.pl4.f_4
   exact ⟨H.s,I⟩
 rintro a w ⟨H,I⟩
 refine Zb (Zu H R ZD R I.ra0 (u_1 _) λa H=>Zu H R ZD R I.ra3 (u_1 _) λa H=>?_)
 obtain ⟨x,aw,m⟩:=p_1 m
 refine c_k H I R z6 (XT _ o A x aw) λw a I H=>?_
 refine Zx H I ZD λbg w a I H=>s_w x H I Za R R R ZD λw a I H=>Ze ?_
 obtain ⟨ax,h,ae⟩:=p_1 m
 refine ZG (λa w=>Env 41 a [(6,ptr B 0),(7,ptr i 0),(8,ptr j 0)] ∧ M (Old n) n w [raw j (enc ax),raw i (enc K),raw B xq]) ?_ ?_
 ·obtain ⟨af,ay,h⟩:=p_1 h
  obtain ⟨ag,az,h⟩:=p_1 h
  refine Z7 [29,30,31,32,33,34] YJ R R dd_ R H I (q_m (λ_=>R) (qsP (λz=>ZB z.E Za ld R ZD R (z.M.ra2) (u_1 _) (kr0 R)) (qsP (λz=>ZB z.E Za ld R ZD R (z.M.ra0) (u_1 _) (kr0 R)) (qsP (λz=>ZW z.E Za ld R (cbm func252) (JQ _ p0 c (z.M.rdo l) K x af ay) (kc R)) (qsP (λz=>ZB z.E Za ld R ZD R (z.M.ra0) (u_1 _) (kr0 R)) (qsP (λz=>ZW z.E Za ld R z6 (XT _ af x ag az) (kc R)) qs0)))))) ?_
  ·intro a w u H I
   have I:=I.pl1
   refine s_w ag H I Za R R R ZD λw a I H=>Zf ?_
   obtain rfl:=o_1 h
   refine Zi ?_
   have I:=I.pl3.pl3.pl2.f_3
   exact ⟨H.s,I⟩
 rintro a w ⟨H,I⟩
 obtain ⟨a0,b,ah⟩:=p_1 ae
 refine ZG (λa w=>Env 41 a [(6,ptr B 0)] ∧ M (Old n) n w [raw B (enc a0)]) ?_ ?_
 ·obtain ⟨a1,L,b⟩:=p_1 b
  have ai:=Ul L -- ^
  obtain ⟨a2,O,b⟩:=p_1 b
  have aj:=Ul O -- ^
  refine Z7 [35,36] YJ R R dd_ R H I (qsP (λz=>XH (N:=16) z.E Za ld R R R R R u_3 ty5 ai (kr0 R)) (qsP (λz=>XH (N:=16) z.E Za ld R R R R R u_3 ty5 aj (kr0 R)) qs0)) ?_
  ·intro a w u H I
   refine TB (xs:=[.tmp 35,.tmp 36]) (vs:=[ZV (.slice (some ⟨i,0,none⟩) 16 16) ((0 : Int)).toNat ((16 : Int)).toNat 1,ZV (.slice (some ⟨j,0,none⟩) 16 16) ((0 : Int)).toNat ((16 : Int)).toNat 1]) H I Za ld R R t_5 Uf dd_ (WL (Ym (Yo (At.sat I.ra1 (by simp) dd_) L)) (WL (Ym (Yo (At.sat I.ra0 (by simp) dd_) O)) Aq)) λa3 w a I H=>?_
   obtain ⟨a4,a5,b⟩:=p_1 b
   refine Zn H R Zon (U2 _ ([a1,a2] : xp) (Value.slice (some ⟨a3,0,none⟩) 2 2) (Ac I.ra0 (I.rawLt (pre:=[])) ⟨Yo (At.sat I.ra2 (by simp) dd_) L,Yo (At.sat I.ra1 (by simp) dd_) O,trivial⟩ R) a4 a5) ?_
   rintro bh w a ⟨_,rfl,hFr,hK⟩ H
   have I:=I.add hK hFr
   obtain ⟨a6,ak,b⟩:=p_1 b
   refine jo H Za ld R p_6 (I.sl0) (J0 ak).1 dd_ λa H=>Zu H R Yi R (Za9 (I.sl0) ak dd_) (u_1 _) λa H=>?_
   have I:=I.pl4
   refine s_w a6 H I Za R R R Yi λw a I H=>Zf ?_
   obtain rfl:=o_1 b
   refine Zi ?_
   have I:=I.f_1
   exact ⟨H.s,I⟩
 rintro a w ⟨H,I⟩
 obtain rfl:=o_1 ah
 have al : Z8 prog _ _ (.cell 6 32) _:=ZH H R Yi R I.ra0 (u_1 _) R
 exact u_2 (ZT H R al ⟨_,R,R,I.kept⟩)
def Wo (f : (Ref Gengine)) (c : List V16) (b : V32 × Int) : Option (Fl (V32 × Int) V32) :=
 if decide (b.2 < (c.length : Int)) then ((idx c b.2).bind λd=>(WI f b.1 d).bind λe=>some (Fl.nx (e,wr (b.2 + 1)))) else (some (Fl.ex b.1))
def YC (e : (Ref Gengine)) (f : (List (List UInt8))) : Option (V32) :=
 (VS).bind λh=>(YE f).bind λi=>(Tr i).bind λb=>(Ub b).bind λc=>(ZK (Wo e c) (h,0)).bind λd=>some d
theorem X6 (e : World) (C : (Ref Gengine)) (c : Value) (i : Ro e C [c]) (E : xp) (d : Value) (j : Ro e E [d]) (r : V32) (hF : YC C E = some r) :
  Calls prog 84 [c,d].toArray e (Rt e (Value.agg (enc r).toArray)):=by
 refine ce func84 ?_
 intro a H
 have I:=M.start e
 unfold YC at hF
 refine Zb (Zx H I Yi λA w a I H=>Ze (Zb ?_))
 obtain ⟨N,T,hF⟩:=p_1 hF
 refine c_k H I R (cbm func176) (zo _  N T) λw a I H=>?_
 refine Zx H I Yi λB w a I H=>s_w N H I Za R R R Yi λw a I H=>Ze (s_2 (Zb (Zd H R λa H=>?_)))
 obtain ⟨O,U,hF⟩:=p_1 hF
 refine Zn H R Zon (U2 _ E d (I.rdo j) O U) ?_
 rintro W w a ⟨_,rfl,hFr,hK⟩ H
 have I:=I.add hK hFr
 obtain ⟨l,F,hF⟩:=p_1 hF
 refine Zn H R (cbm func178) (yT _ O W (I.sl0) l F) ?_
 rintro G w a ⟨_,rfl,hFr,hK⟩ H
 have I:=I.add hK hFr
 obtain ⟨k,K,hF⟩:=p_1 hF
 refine Zn H R Zqh (Hl _ l G (I.sl0) k K) ?_
 rintro m w a ⟨_,rfl,hFr,hK⟩ H
 have I:=I.add hK hFr
 refine Yp H R o_3 (I.sl0) λa H=>Zd H R λa H=>Ze ?_
 obtain ⟨n,o,q⟩:=p_1 hF
 refine ZX (λa w=>Env 24 a [(4,ptr A 0),(5,ptr B 0)] ∧ M (Old e) e w [raw B (enc n),raw A xq]) ?_ ?_
 ·refine p_2 ?_
  have I:=I.pl4.pl4.pl2.f_3
  refine ZN (λ(f : V32 × Int) a w=>Env 24 a [(0,c),(4,ptr A 0),(5,ptr B 0),(12,m),(13,vI (k.length : Int)),(14,vI f.2)] ∧ M (Old e) e w [osl NoB k m,raw B (enc f.1),raw A xq]) o ⟨H.s,I⟩ ?_
  rintro f a w ⟨H,I⟩ X b t
  unfold Wo at b
  refine Zb (Zm H R R R λa H=>Ze (s_2 ?_))
  refine c_if H R b ?_ ?_
  ·intro u b
   refine t_2 (Zw (s_2 (p_2 (Zb ?_))))
   obtain ⟨x,h,b⟩:=bix b
   refine Ys H R R o_3 ZD (I.sl0) h.1 λa H=>Zu H R ZD R (Xx (I.sl0) h.2) (u_1 _) λa H=>Zx H I ZD λY w a I H=>s_w x H I Za R R R ZD λw a I H=>Ze (s_1 (Zd H R λa H=>Zu H R Yi R I.ra2 (u_1 _) λa H=>Zu H R ZD R I.ra0 (u_1 _) λa H=>?_))
   obtain ⟨y,L,b⟩:=p_1 b
   refine Zn H R (cbm func180) (zn _ C c (I.rdo i) f.1 x y L) ?_
   rintro v w a ⟨rfl,hK⟩ H
   have I:=(I.keep hK).pl2
   refine s_w y H I Za R R R Yi λw a I H=>Zf (Yn (Zw (s_1 (Zm H R R R λa H=>Zd H R λa H=>Zf (Zi ?_)))))
   have I:=I.pl3.pl1.pl3.f_3
   exact ⟨_,ois b,H.s,I⟩
  intro u b
  refine s_3 (Zp (Zp (Yv ?_)))
  obtain rfl:=t _ (ois b)
  refine Zi ?_
  have I:=I.pl2.pl2.f_2
  exact ⟨H.s,I⟩
 rintro a w ⟨H,I⟩
 refine Zw (Zb (Zu H R Yi R I.ra0 (u_1 _) λa H=>?_))
 have I:=I.pl1
 refine s_w n H I Za R R R Yi λw a I H=>Ze ?_
 obtain rfl:=o_1 q
 have z : Z8 prog _ _ (.cell 4 32) _:=ZH H R Yi R I.ra0 (u_1 _) R
 exact u_2 (ZT H R z ⟨_,R,R,I.kept⟩)
def K6 (c : List UInt8) : Option (V32 × Int) :=
 if decide ((c.length : Int) > 1999) then (some ((Vector.replicate 32 (0 : UInt8)),2)) else ((Qr 8).bind λd=>(YC d ([([0] : List UInt8),c] : (List (List UInt8)))).bind λb=>some (b,0))
theorem Zdj (f : World) (h : List UInt8) (c : Value) (b : Ro f h [c]) (r : V32 × Int) (hF : K6 h = some r) :
  Calls prog 33 [c].toArray f (Rt f (Value.tuple [Value.agg (enc r.1).toArray,vI r.2].toArray)):=by
 refine ce func33 ?_
 intro a H
 have I:=M.start f
 unfold K6 at hF
 refine Zb (Zx H I Yi λt w a I H=>Zc H R λa H=>Ze (s_2 (Zb (Zd H R λa H=>Yp H R o_2 (I.rd b) λa H=>Zm H R R R λa H=>Ze ?_))))
 refine c_if H R hF ?_ ?_
 ·intro i hF
  refine Zb (Xi (parts:=[]) (vs:=[]) (cs:=enc xd) H Za ld R R Yi R ty5 YK λa H=>s_w xd H I Za R R R Yi λw a I H=>Zc H R λa H=>Ze ?_)
  obtain rfl:=o_1 hF
  have j : Z8 prog _ _ (.cell 2 32) _:=ZH H R Yi R I.ra0 (u_1 _) R
  exact u_2 (ZA (YN H R j (Zy H R) ⟨_,R,R,I.kept⟩))
 intro i hF
 refine t_2 (Zw (Zb ?_))
 obtain ⟨n,o,hF⟩:=p_1 hF
 refine Zn H R Zo0 (Al _ 8 n o) ?_
 rintro q w a ⟨_,rfl,hFr,hK⟩ H
 have I:=I.add hK hFr
 refine ZR (xs:=[.const (vB 0)]) (l:=([0] : List UInt8)) (vs:=[vB 0]) H I Za ld R R o_2 ty5 R dd_ R λu8 w a I H=>Zd H R λa H=>TB (xs:=[.tmp 9,.tmp 10]) (vs:=[u8,c]) H I Za ld R R t_5 Uf dd_ (WL (Ym (I.sl0)) (WL (Ym (I.rd b)) Aq)) λk w a I H=>?_
 obtain ⟨d,m,hF⟩:=p_1 hF
 refine Zn H R Zi5 (X6 _ n q (I.rn2) ([([0] : List UInt8),h] : xp) (Value.slice (some ⟨k,0,none⟩) 2 2) (Ac I.ra0 (I.rawLt (pre:=[])) ⟨I.sl1,I.rdo b,trivial⟩ R) d m) ?_
 rintro v w a ⟨rfl,hK⟩ H
 have I:=(I.keep hK).pl3
 refine s_w d H I Za R R R Yi λw a I H=>Zc H R λa H=>Ze ?_
 obtain rfl:=o_1 hF
 have e : Z8 prog _ _ (.cell 2 32) _:=ZH H R Yi R I.ra0 (u_1 _) R
 exact u_2 (YN H R e (Zy H R) ⟨_,R,R,I.kept⟩)
def Vz : Option (Ghasher) :=
 (Qr 8).bind λb=>some (⟨b⟩ : Ghasher)
theorem JZ (c : World)  (r : Ghasher) (hF : Vz  = some r) :
  Calls prog 81 [].toArray c (e_r λv w'=>(∃ e : Value,v = (Value.agg (cat [[e]]).toArray) ∧ Fr c w' [own NoB r.engine [e]] ∧ Kept (Old c) c w')):=by
 refine ce func81 ?_
 intro a H
 have I:=M.start c
 unfold Vz at hF
 refine Zb (Zx H I Hv λi w a I H=>Ze (Zb ?_))
 obtain ⟨f,h,hF⟩:=p_1 hF
 refine Zn H R Zo0 (Al _ 8 f h) ?_
 rintro b w a ⟨_,rfl,hFr,hK⟩ H
 have I:=I.add hK hFr
 refine YQ (parts:=[(0,.tmp 1)]) (vs:=[(0,b)]) (cs:=cat [[b]]) H Za ld R R Hv pl122 (Yk (pre:=[]) (seg:=xv) (seg':=[b]) (post:=[]) R cl0 R R (zG (I.ro (pre:=[]) noB)) XL) λa H=>?_
 have I:=I.pl1
 refine Zk (seg:=cat [[b]]) (cs':=cat [[b]]) H I Za R R R Hv cq (q_1 cq cq) (Z0 (cc1 (o_4 (I.ro (pre:=[_]) noB)) cc0)) (q_2 cq cq) λw a I H=>Ze ?_
 obtain rfl:=o_1 hF
 have d : Z8 prog _ _ (.cell 0 122) _:=ZH H R Hv R I.ra0 cq R
 have I:=I.pl1.f_1
 exact u_2 (ZT H R d ⟨_,R,b,R,I.outF (He Yj),I.kept⟩)
def KI (c : Int) (b : Int) : Option (Fl Int Int) :=
 if decide ((wr (2 * b)) < c) then (some (Fl.nx (wr (b * 2)))) else (some (Fl.ex b))
def To (b : Int) : Option (Int) :=
 (ZK (KI b) 1).bind λc=>some c
theorem zA (c : World) (d : Int) (r : Int) (hF : To d = some r) :
  Calls prog 195 [vI d].toArray c (Rt c (vI r)):=by
 refine ce func195 ?_
 intro a H
 have I:=M.start c
 unfold To at hF
 refine Zb (Zc H R λa H=>Ze (Zb (Zc H R λa H=>Ze ?_)))
 obtain ⟨k,e,f⟩:=p_1 hF
 refine ZG (λa w=>Env 11 a [(3,vI k)] ∧ M (Old c) c w []) ?_ ?_
 ·refine p_2 ?_
  refine ZN (λ(j : Int) a w=>Env 11 a [(0,vI d),(3,vI j)] ∧ M (Old c) c w []) e ⟨H.s,I⟩ ?_
  rintro j a w ⟨H,I⟩ l b h
  unfold KI at b
  refine s_2 (Zb (Zd H R λa H=>Zm H R R R λa H=>Zd H R λa H=>Zm H R R R λa H=>Ze ?_))
  refine c_if H R b ?_ ?_
  ·intro i b
   refine t_2 (Zw (p_2 (s_1 (Zd H R λa H=>Zm H R R R λa H=>Zc H R λa H=>Zf (Yn (Zi ?_))))))
   exact ⟨_,ois b,H.s,I⟩
  intro i b
  refine s_3 (Zp (Zp (Yv ?_)))
  obtain rfl:=h _ (ois b)
  refine Zi ?_
  exact ⟨H.s,I⟩
 rintro a w ⟨H,I⟩
 refine Zb (Zd H R λa H=>Zc H R λa H=>Ze ?_)
 obtain rfl:=o_1 f
 exact u_2 (kr1 H R R I.kept)
def WD (e : Ghasher) (f : V32) (h : V32) : Option (V32) :=
 ((slc f.toList (0 : Int) (32 : Int)).bind λb=>(slc h.toList (0 : Int) (32 : Int)).bind λc=>(YC e.engine ([([1] : List UInt8),b,c] : (List (List UInt8)))).bind λd=>some d : Option (V32)).bind λi=>some i
theorem Jo (G : World) (Y : Ghasher) (b : Value) (y : Ro G Y.engine [b]) (o : V32) (q : V32) (r : V32) (hF : WD Y o q = some r) :
  Calls prog 196 [Value.agg (cat [[b]]).toArray,Value.agg (enc o).toArray,Value.agg (enc q).toArray].toArray G (Rt G (Value.agg (enc r).toArray)):=by
 refine ce func196 ?_
 intro a H
 have I:=M.start G
 unfold WD at hF
 refine Zb (ZY (cs:=cat [[b]]) H I Za ld R R λK w a I H=>ZY (cs:=enc o) H I Za ld R R λh w a I H=>ZY (cs:=enc q) H I Za ld R R λn w a I H=>Zx H I Yi λA w a I H=>Ze ?_)
 obtain ⟨j9,d,L⟩:=p_1 hF
 refine ZG (λa w=>Env 14 a [(6,ptr A 0)] ∧ M (Old G) G w [raw A (enc j9)]) ?_ ?_
 ·obtain ⟨Z,B,d⟩:=p_1 d
  have O:=Ul B -- ^
  obtain ⟨aa,C,d⟩:=p_1 d
  have T:=Ul C -- ^
  refine Y0 (its:=[raw A xq,raw n (enc q),raw h (enc o),raw K (cat [[b]])]) (mk:=([mkO 2 (λv=>osl NoB (xA : List UInt8) v),mkL 5 [2] 3 (λus=>[us.getD 0 undef,ZV (.slice (some ⟨h,0,none⟩) 32 32) ((0 : Int)).toNat ((32 : Int)).toNat 1,ZV (.slice (some ⟨n,0,none⟩) 32 32) ((0 : Int)).toNat ((32 : Int)).toNat 1])] : Mk)) [7,8,9,10,11,12] YJ R R dd_ R H (λu=>M.qE (M.qE (M.q0 I.drew u) emL) emO) (qsP (λz=>Zo z.E Za ld R (Zky) (kr0 R)) (qsP (λz=>ZL (v:=b) z.E Za ld R Zd4 R (at_0 (z.M.ra3)) (kr0 R)) (q_t ?_ (qsP (λz=>XH (N:=32) z.E Za ld R R R R R p_6 ty5 O (kr0 R)) (qsP (λz=>XH (N:=32) z.E Za ld R R R R R p_6 ty5 T (kr0 R)) (q_t ?_ qs0)))))) ?_
  ·intro a w e D z
   have H:=z.E
   have hD : D 2 = false:=z.F
   have hsL : D 5 = false:=Kb (j:=5) (k:=0) z.c R R R hD
   have I:=z.M
   refine ZR (xs:=[.const (vB 1)]) (l:=xA) (vs:=[vB 1]) H I Za ld R R o_2 ty5 R dd_ R λaf w a I H=>?_
   have I:=M.litOff (its:=_ :: [raw A xq,raw n (enc q),raw h (enc o),raw K (cat [[b]])]) (mk:=([mkO 2 (λv=>osl NoB (xA : List UInt8) v)] : Mk)) (i:=5) (ds:=[2]) (m:=3) (f:=(λus=>[us.getD 0 undef,ZV (.slice (some ⟨h,0,none⟩) 32 32) ((0 : Int)).toNat ((32 : Int)).toNat 1,ZV (.slice (some ⟨n,0,none⟩) 32 32) ((0 : Int)).toNat ((32 : Int)).toNat 1])) I hsL
   exact ⟨_,_,R,H,M.litOn (its:=[raw A xq,raw n (enc q),raw h (enc o),raw K (cat [[b]])]) (mk:=([mkO 2 (λv=>osl NoB (xA : List UInt8) v)] : Mk)) (i:=5) (ds:=[2]) (m:=3) (f:=(λus=>[(us.getD 0 undef),(ZV (.slice (some ⟨h,0,none⟩) 32 32) ((0 : Int)).toNat ((32 : Int)).toNat 1),(ZV (.slice (some ⟨n,0,none⟩) 32 32) ((0 : Int)).toNat ((32 : Int)).toNat 1)])) (M.qFill (its:=[raw A xq,raw n (enc q),raw h (enc o),raw K (cat [[b]])]) (mk1:=[]) (mk2:=[]) (f:=(λv=>osl NoB (xA : List UInt8) v)) I R hD) hsL dd_,trivial⟩
  ·intro a w e D z
   have H:=z.E
   have hD : D 5 = false:=z.F
   have X : D 2 = true:=z.p 0 _ R R
   have I:=z.M.sure (pre:=[_,_,_,_]) X
   refine TB (xs:=[.tmp 9,.tmp 10,.tmp 11]) (vs:=[e 2,ZV (.slice (some ⟨h,0,none⟩) 32 32) ((0 : Int)).toNat ((32 : Int)).toNat 1,ZV (.slice (some ⟨n,0,none⟩) 32 32) ((0 : Int)).toNat ((32 : Int)).toNat 1]) H I Za ld R R t_5 Uf dd_ (WL (Ym (I.sl4)) (WL (Ym (Yo (At.sat I.ra2 (by simp) dd_) B)) (WL (Ym (Yo (At.sat I.ra1 (by simp) dd_) C)) Aq))) λag w a I H=>?_
   have I:=I.unsure (pre:=[_,_,_,_,_]) X
   exact ⟨_,_,R,H,M.litFill (its:=[raw A xq,raw n (enc q),raw h (enc o),raw K (cat [[b]])]) (mk:=([mkO 2 (λv=>osl NoB (xA : List UInt8) v)] : Mk)) (i:=5) (ds:=[2]) (m:=3) (f:=(λus=>[us.getD 0 undef,ZV (.slice (some ⟨h,0,none⟩) 32 32) ((0 : Int)).toNat ((32 : Int)).toNat 1,ZV (.slice (some ⟨n,0,none⟩) 32 32) ((0 : Int)).toNat ((32 : Int)).toNat 1])) I R hD dd_,trivial⟩
  intro a w e D H I hG x
  have X:=x 2 dd_
  have d5:=x 5 dd_
  have I:=((I.sure (pre:=[_,_,_,_]) X).sure (pre:=[_,_,_,_,_]) d5).pl
  obtain ⟨ab,ac,I⟩:=M.litOpen I
  have H:=H.setq (t:=12) R ac
  obtain ⟨U,ad,d⟩:=p_1 d
  refine Zn H R Zi5 (X6 _ Y.engine b (I.rdo y) ([xA,Z,aa] : xp) (Value.slice (some ⟨ab,0,none⟩) 3 3) (Ac I.ra0 (I.rawLt (pre:=[])) ⟨I.sl (pre:=[_,_,_,_,_]) noB,Yo (At.sat I.ra3 (by simp) dd_) B,Yo (At.sat I.ra2 (by simp) dd_) C,trivial⟩ R) U ad) ?_
  rintro v w a ⟨rfl,hK⟩ H
  have I:=(I.keep hK).pl1
  refine s_w U H I Za R R R Yi λw a I H=>Zf ?_
  obtain rfl:=o_1 d
  refine Zi ?_
  have I:=I.f_1
  exact ⟨H.s,I⟩
 rintro a w ⟨H,I⟩
 obtain rfl:=o_1 L
 have W : Z8 prog _ _ (.cell 6 32) _:=ZH H R Yi R I.ra0 (u_1 _) R
 exact u_2 (ZT H R W ⟨_,R,R,I.kept⟩)
def YS : Nat → Ghasher → (List V32) → Option (V32)
 | 0,_,_=>none
 | fu + 1,d,b=>if (b.length : Int) == 0 then ((YC d.engine ([] : (List (List UInt8)))).bind λm=>some m) else (if (b.length : Int) == 1 then ((idx b (0 : Int)).bind λe=>some e) else ((To (b.length : Int)).bind λc=>((slc b (0 : Int) c).bind λf=>(YS fu d f).bind λh=>(slc b c (b.length : Int)).bind λi=>(YS fu d i).bind λj=>(WD d h j).bind λk=>some k : Option (V32)).bind λl=>some l))
theorem Vq : ∀ (fu : Nat) (h : World) (k : Ghasher) (d : Value) (e : Ro h k.engine [d]) (l : List V32) (f : Value) (b : Ro h l [f]) (r : V32) (hF : YS fu k l = some r),
  Calls prog 104 [Value.agg (cat [[d]]).toArray,f].toArray h (Rt h (Value.agg (enc r).toArray)):=by
 intro fu
 induction fu with
 | zero=>intros; rename_i hF; unfold YS at hF; cases hF
 | succ fu ih =>
 have Vq:=λ(_ : Nat)=>ih
 intro h k d e l f b r hF
 refine ce func104 ?_
 intro a H
 have I:=M.start h
 unfold YS at hF
 refine Zb (ZY (cs:=cat [[d]]) H I Za ld R R λb1 w a I H=>Zx H I Yi λZ w a I H=>Ze (s_2 (Zb (Zd H R λa H=>Yp H R o_5 (I.rd b) λa H=>Ze (p_2 (Zb (Zm H R R R λa H=>Zc H R λa H=>Ze ?_)))))))
 refine c_if H R hF ?_ ?_
 ·intro F hF
  refine Zb (Zr H R (Zky) λa H=>ZO (v:=d) H R Zd4 R (at_0 I.ra1) λa H=>?_)
  obtain ⟨r6,e7,hF⟩:=p_1 hF
  refine c_k H I R Zi5 (X6 _ k.engine d (I.rdo e) ([] : xp) xf Zn4 r6 e7) λw a I H=>?_
  refine s_w r6 H I Za R R R Yi λw a I H=>Ze ?_
  obtain rfl:=o_1 hF
  have G : Z8 prog _ _ (.cell 4 32) _:=ZH H R Yi R I.ra0 (u_1 _) R
  exact u_2 (YZ (ZA (ZT H R G ⟨_,R,R,I.kept⟩)))
 intro F hF
 refine Zb (Zm H R R R λa H=>Zc H R λa H=>Ze ?_)
 refine c_if H R hF ?_ ?_
 ·intro K hF
  refine Zb (Zd H R λa H=>?_)
  obtain ⟨L,j,hF⟩:=bix hF
  refine Ys H R R o_5 Yi (I.rd b) j.1 λa H=>Zu H R Yi R (Xx (I.rd b) j.2) (u_1 _) λa H=>s_w L H I Za R R R Yi λw a I H=>Ze ?_
  obtain rfl:=o_1 hF
  have m : Z8 prog _ _ (.cell 4 32) _:=ZH H R Yi R I.ra0 (u_1 _) R
  exact u_2 (YZ (ZA (ZT H R m ⟨_,R,R,I.kept⟩)))
 intro K hF
 refine t_2 (Yn (Zw (Zb (Zd H R λa H=>Yp H R o_5 (I.rd b) λa H=>?_))))
 obtain ⟨i,N,hF⟩:=p_1 hF
 refine c_k H I R Zpt (zA _ (l.length : Int) i N) λw a I H=>?_
 refine Zc H R λa H=>Ze ?_
 obtain ⟨O,c,n⟩:=p_1 hF
 refine ZG (λa w=>Env 33 a [(4,ptr Z 0)] ∧ M (Old h) h w [raw Z (enc O)]) ?_ ?_
 ·obtain ⟨o,q,c⟩:=p_1 c
  have T : Rep.sat (Old h) h o [ZV f ((0 : Int)).toNat (i).toNat 32] []:=Yo b q -- ^
  obtain ⟨t,U,c⟩:=p_1 c
  obtain ⟨x,y,c⟩:=p_1 c
  have W : Rep.sat (Old h) h x [ZV f (i).toNat ((l.length : Int)).toNat 32] []:=Yo b y -- ^
  obtain ⟨A,X,c⟩:=p_1 c
  obtain ⟨B,Y,c⟩:=p_1 c
  refine Z7 [21,22,23,24,25,26,27,28,29,30,31,32] YJ R R dd_ R H I (qsP (λz=>ZB z.E Za ld R Hv R (z.M.ra1) cq (kr0 R)) (qsP (λz=>ZB z.E Za ld R Hv R (z.M.ra1) cq (kr0 R)) (q_m (λ_=>R) (q_m (λ_=>R) (qsP (λz=>Uk z.E Za ld R R (Ju R) R R o_5 Yi (z.M.rd b) q (kr0 R)) (qsP (λz=>ZW z.E Za ld R Zgz (Vq fu _ k d (z.M.rdo e) o (ZV f ((0 : Int)).toNat (i).toNat 32) (z.M.rdo T) t U) (kc R)) (qsP (λz=>ZB z.E Za ld R Hv R (z.M.ra1) cq (kr0 R)) (q_m (λ_=>R) (q_m (λ_=>R) (qsP (λz=>Uk z.E Za ld R (Ju R) R R R o_5 Yi (z.M.rd b) y (kr0 R)) (qsP (λz=>ZW z.E Za ld R Zgz (Vq fu _ k d (z.M.rdo e) x (ZV f (i).toNat ((l.length : Int)).toNat 32) (z.M.rdo W) A X) (kc R)) (qsP (λz=>ZW z.E Za ld R Zn5 (Jo _ k d (z.M.rdo e) t A B Y) (kc R)) qs0)))))))))))) ?_
  ·intro a w u H I
   refine s_w B H I Za R R R Yi λw a I H=>Zf ?_
   obtain rfl:=o_1 c
   refine Zi ?_
   have I:=I.f_1
   exact ⟨H.s,I⟩
 rintro a w ⟨H,I⟩
 obtain rfl:=o_1 n
 have C : Z8 prog _ _ (.cell 4 32) _:=ZH H R Yi R I.ra0 (u_1 _) R
 exact u_2 (ZT H R C ⟨_,R,R,I.kept⟩)
def Jb (b : List V32) : Option (V32 × Int) :=
 if decide ((b.length : Int) > 64) then (some ((Vector.replicate 32 (0 : UInt8)),2)) else ((Vz).bind λc=>(YS 64 c b).bind λd=>some (d,0))
theorem Zdl (e : World) (f : List V32) (b : Value) (c : Ro e f [b]) (r : V32 × Int) (hF : Jb f = some r) :
  Calls prog 34 [b].toArray e (Rt e (Value.tuple [Value.agg (enc r.1).toArray,vI r.2].toArray)):=by
 refine ce func34 ?_
 intro a H
 have I:=M.start e
 unfold Jb at hF
 refine Zb (Zx H I Yi λo w a I H=>Zc H R λa H=>Ze (s_2 (Zb (Zd H R λa H=>Yp H R o_5 (I.rd c) λa H=>Zm H R R R λa H=>Ze ?_))))
 refine c_if H R hF ?_ ?_
 ·intro h hF
  refine Zb (Xi (parts:=[]) (vs:=[]) (cs:=enc xd) H Za ld R R Yi R ty5 YK λa H=>s_w xd H I Za R R R Yi λw a I H=>Zc H R λa H=>Ze ?_)
  obtain rfl:=o_1 hF
  have i : Z8 prog _ _ (.cell 2 32) _:=ZH H R Yi R I.ra0 (u_1 _) R
  exact u_2 (ZA (YN H R i (Zy H R) ⟨_,R,R,I.kept⟩))
 intro h hF
 refine t_2 (Zw (Zb ?_))
 obtain ⟨j,l,hF⟩:=p_1 hF
 refine Zn H R cb81 (JZ _  j l) ?_
 rintro v w a ⟨m,rfl,hFr,hK⟩ H
 have I:=I.add hK hFr
 refine Zd H R λa H=>?_
 obtain ⟨k,n,hF⟩:=p_1 hF
 refine Zn H R Zgz (Vq 64 _ j m (I.ro (pre:=[]) noB) f b (I.rdo c) k n) ?_
 rintro v w a ⟨rfl,hK⟩ H
 have I:=(I.keep hK).pl1
 refine s_w k H I Za R R R Yi λw a I H=>Zc H R λa H=>Ze ?_
 obtain rfl:=o_1 hF
 have d : Z8 prog _ _ (.cell 2 32) _:=ZH H R Yi R I.ra0 (u_1 _) R
 exact u_2 (YN H R d (Zy H R) ⟨_,R,R,I.kept⟩)
def Vi (b : List V32) : Option (Int) :=
 some (b.length : Int)
theorem Bj (d : World) (e : List V32) (b : Value) (c : Ro d e [b]) (r : Int) (hF : Vi e = some r) :
  Calls prog 121 [b].toArray d (Rt d (vI r)):=by
 refine ce func121 ?_
 intro a H
 have I:=M.start d
 unfold Vi at hF
 refine Zb (Zc H R λa H=>Ze (Zb (Zd H R λa H=>Yp H R o_5 (I.rd c) λa H=>Zc H R λa H=>Ze ?_)))
 obtain rfl:=o_1 hF
 exact u_2 (kr1 H R R I.kept)
def YH : Nat → Ghasher → (List V32) → Int → Option ((List V32))
 | 0,_,_,_=>none
 | fu + 1,i,b,j=>if (b.length : Int) == 1 then (some ([] : List V32)) else ((To (b.length : Int)).bind λc=>if decide (j < c) then (((slc b (0 : Int) c).bind λk=>(YH fu i k j).bind λd=>(slc b c (b.length : Int)).bind λl=>(YS 64 i l).bind λe=>(app 32 d ([e] : List V32)).bind λq=>some (d ++ ([e] : List V32)) : Option ((List V32))).bind λt=>some t) else (((slc b c (b.length : Int)).bind λm=>(YH fu i m (wr (j - c))).bind λf=>(slc b (0 : Int) c).bind λn=>(YS 64 i n).bind λh=>(app 32 f ([h] : List V32)).bind λu=>some (f ++ ([h] : List V32)) : Option ((List V32))).bind λo=>some o))
theorem TR : ∀ (fu : Nat) (j : World) (t : Ghasher) (h : Value) (i : Ro j t.engine [h]) (q : List V32) (c : Value) (b : Ro j q [c]) (C : Int) (r : List V32) (hF : YH fu t q C = some r),
  Calls prog 122 [Value.agg (cat [[h]]).toArray,c,vI C].toArray j (e_r λv w'=>(∃ y1 : Value,v = y1 ∧ Fr j w' [osl NoB r y1] ∧ Kept (Old j) j w')):=by
 intro fu
 induction fu with
 | zero=>intros; rename_i hF; unfold YH at hF; cases hF
 | succ fu ih =>
 have TR:=λ(_ : Nat)=>ih
 intro j t h i q c b C r hF
 refine ce func122 ?_
 intro a H
 have I:=M.start j
 unfold YH at hF
 refine Zb (ZY (cs:=cat [[h]]) H I Za ld R R λb1 w a I H=>Zc H R λa H=>Ze (s_2 (Zb (Zd H R λa H=>Yp H R o_5 (I.rd b) λa H=>Zm H R R R λa H=>Ze ?_))))
 refine c_if H R hF ?_ ?_
 ·intro ab hF
  refine Zb (ZR (xs:=[]) (l:=([] : List V32)) (vs:=[]) H I Za ld R R o_5 Yi R dd_ R λu4 w a I H=>Zc H R λa H=>Ze ?_)
  obtain rfl:=o_1 hF
  have I:=I.f_1
  exact u_2 (ZA (ZT H R (Zy H R) ⟨_,R,u4,R,I.outF (Z1 Yj),I.kept⟩))
 intro ab hF
 refine t_2 (Zw (Zb (Zd H R λa H=>Yp H R o_5 (I.rd b) λa H=>?_)))
 obtain ⟨k,e7,hF⟩:=p_1 hF
 refine c_k H I R Zpt (zA _ (q.length : Int) k e7) λw a I H=>?_
 refine Zc H R λa H=>Ze (s_2 (Zb (Zd H R λa H=>Zd H R λa H=>Zm H R R R λa H=>Ze ?_)))
 refine c_if H R hF ?_ ?_
 ·intro ac hF
  obtain ⟨j9,d,G⟩:=p_1 hF
  refine ZG (λa w=>∃ n : Value,Env 46 a [(6,n)] ∧ M (Old j) j w [osl NoB j9 n]) ?_ ?_
  ·obtain ⟨K,L,d⟩:=p_1 d
   have ad : Rep.sat (Old j) j K [ZV c ((0 : Int)).toNat (k).toNat 32] []:=Yo b L -- ^
   obtain ⟨x,ae,d⟩:=p_1 d
   obtain ⟨N,O,d⟩:=p_1 d
   have af : Rep.sat (Old j) j N [ZV c (k).toNat ((q.length : Int)).toNat 32] []:=Yo b O -- ^
   refine Y0 (its:=[raw b1 (cat [[h]])]) (mk:=([mkO 5 (λv=>osl NoB x v)] : Mk)) [18,19,20,21,22,23,24,25,26,27] YJ R R dd_ R H (λu=>M.qE (M.q0 I.drew u) emO) (qsP (λz=>ZB z.E Za ld R Hv R (z.M.ra0) cq (kr0 R)) (q_m (λ_=>R) (q_m (λ_=>R) (qsP (λz=>Uk z.E Za ld R R (Ju R) R R o_5 Yi (z.M.rd b) L (kr0 R)) (q_m (λ_=>R) (q_t ?_ (qsP (λz=>ZB z.E Za ld R Hv R (z.M.ra0) cq (kr0 R)) (q_m (λ_=>R) (q_m (λ_=>R) (qsP (λz=>Uk z.E Za ld R (Ju R) R R R o_5 Yi (z.M.rd b) O (kr0 R)) qs0)))))))))) ?_
   ·intro a w T D z
    have H:=z.E
    have hD : D 5 = false:=z.F
    have hM0:=z.M
    have I:=z.M
    refine Zn H R Zpf (TR fu _ t h (I.rdo i) K (ZV c ((0 : Int)).toNat (k).toNat 32) (I.rdo ad) C x ae) ?_
    rintro _ w a ⟨_,rfl,hFr,hK⟩ H
    have I:=hM0.add hK hFr
    exact ⟨_,_,R,H,M.qFill (mk1:=[]) (mk2:=[]) (f:=(λv=>osl NoB x v)) I R hD,trivial⟩
   intro a w T D H I hG m
   have d5:=m 5 dd_
   have I:=I.sure (pre:=[_]) d5
   obtain ⟨y,ag,d⟩:=p_1 d
   refine c_k H I R Zgz (Vq 64 _ t h (I.rdo i) N (ZV c (k).toNat ((q.length : Int)).toNat 32) (I.rdo af) y ag) λw a I H=>?_
   refine ZR (xs:=[.tmp 28]) (l:=([y] : List V32)) (vs:=[Value.agg (enc y).toArray]) H I Za ld R R o_5 Yi R dd_ R λa0 w a I H=>?_
   obtain ⟨a1,ah,d⟩:=p_1 d
   obtain ⟨ai,rfl⟩:=Yc ah
   have I:=I.pl2
   refine Yg H I Za ld R R (I.sl1) o_5 Yi R dd_ ai λaj w a I H=>Zc H R λa H=>Zf ?_
   obtain rfl:=o_1 d
   refine Zi ?_
   have I:=I.f_1
   exact ⟨aj,H.s,I⟩
  rintro a w ⟨n,H,I⟩
  obtain rfl:=o_1 G
  exact u_2 (ZA (ZT H R (Zy H R) ⟨_,R,n,R,I.outF (Z1 Yj),I.kept⟩))
 intro ac hF
 refine t_2 (Zw ?_)
 obtain ⟨ak,e,U⟩:=p_1 hF
 refine ZG (λa w=>∃ o : Value,Env 46 a [(6,o)] ∧ M (Old j) j w [osl NoB ak o]) ?_ ?_
 ·obtain ⟨W,X,e⟩:=p_1 e
  have al : Rep.sat (Old j) j W [ZV c (k).toNat ((q.length : Int)).toNat 32] []:=Yo b X -- ^
  obtain ⟨A,am,e⟩:=p_1 e
  obtain ⟨Y,Z,e⟩:=p_1 e
  have an : Rep.sat (Old j) j Y [ZV c ((0 : Int)).toNat (k).toNat 32] []:=Yo b Z -- ^
  refine Y0 (its:=[raw b1 (cat [[h]])]) (mk:=([mkO 7 (λv=>osl NoB A v)] : Mk)) [31,32,33,34,35,36,37,38,39,40,41,42] YJ R R dd_ R H (λu=>M.qE (M.q0 I.drew u) emO) (qsP (λz=>ZB z.E Za ld R Hv R (z.M.ra0) cq (kr0 R)) (q_m (λ_=>R) (q_m (λ_=>R) (qsP (λz=>Uk z.E Za ld R (Ju R) R R R o_5 Yi (z.M.rd b) X (kr0 R)) (q_m (λ_=>R) (q_m (λ_=>R) (qsP (v:=(vI (wr (C - k)))) (λz=>Ye z.E Za ld R R R (kr0 R)) (q_t ?_ (qsP (λz=>ZB z.E Za ld R Hv R (z.M.ra0) cq (kr0 R)) (q_m (λ_=>R) (q_m (λ_=>R) (qsP (λz=>Uk z.E Za ld R R (Ju R) R R o_5 Yi (z.M.rd b) Z (kr0 R)) qs0)))))))))))) ?_
  ·intro a w aa D z
   have H:=z.E
   have hD : D 7 = false:=z.F
   have hM0:=z.M
   have I:=z.M
   refine Zn H R Zpf (TR fu _ t h (I.rdo i) W (ZV c (k).toNat ((q.length : Int)).toNat 32) (I.rdo al) (wr (C - k)) A am) ?_
   rintro _ w a ⟨_,rfl,hFr,hK⟩ H
   have I:=hM0.add hK hFr
   exact ⟨_,_,R,H,M.qFill (mk1:=[]) (mk2:=[]) (f:=(λv=>osl NoB A v)) I R hD,trivial⟩
  intro a w aa D H I hG m
  have d7:=m 7 dd_
  have I:=I.sure (pre:=[_]) d7
  obtain ⟨B,ao,e⟩:=p_1 e
  refine c_k H I R Zgz (Vq 64 _ t h (I.rdo i) Y (ZV c ((0 : Int)).toNat (k).toNat 32) (I.rdo an) B ao) λw a I H=>?_
  refine ZR (xs:=[.tmp 43]) (l:=([B] : List V32)) (vs:=[Value.agg (enc B).toArray]) H I Za ld R R o_5 Yi R dd_ R λa3 w a I H=>?_
  obtain ⟨a4,ap,e⟩:=p_1 e
  obtain ⟨aq,rfl⟩:=Yc ap
  have I:=I.pl2
  refine Yg H I Za ld R R (I.sl1) o_5 Yi R dd_ aq λar w a I H=>Zc H R λa H=>Zf ?_
  obtain rfl:=o_1 e
  refine Zi ?_
  have I:=I.f_1
  exact ⟨ar,H.s,I⟩
 rintro a w ⟨o,H,I⟩
 obtain rfl:=o_1 U
 exact u_2 (ZT H R (Zy H R) ⟨_,R,o,R,I.outF (Z1 Yj),I.kept⟩)
def Kx (b : List V32) (e : Int) : Option (List V32 × Int) :=
 (if decide ((b.length : Int) > 64) then (some true) else ((Vi b).bind λf=>(Yy e 0 (wr (f - 1))).bind λh=>some (!h)) : Option (Bool)).bind λi=>if i then (some ([],2)) else ((Vz).bind λc=>(YH 64 c b e).bind λd=>some (d,0))
theorem Zbm (h : World) (i : List V32) (e : Value) (f : Ro h i [e]) (j : Int) (r : List V32 × Int) (hF : Kx i j = some r) :
  Calls prog 35 [e,vI j].toArray h (e_r λv w'=>(∃ u : Value,v = (Value.tuple [u,vI r.2].toArray) ∧ Fr h w' [osl NoB r.1 u] ∧ Kept (Old h) h w')):=by
 refine ce func35 ?_
 intro a H
 have I:=M.start h
 unfold Kx at hF
 refine Zb (Zc H R λa H=>Zc H R λa H=>Ze (s_2 ?_))
 obtain ⟨y,c,d⟩:=p_1 hF
 refine ZG (λa w=>Env 21 a [(0,e),(1,vI j),(16,vT y)] ∧ M (Old h) h w []) ?_ ?_
 ·refine s_1 (Zd H R λa H=>Yp H R o_5 (I.rd f) λa H=>Zm H R R R λa H=>Zd H R λa H=>?_)
  refine Yq (decide ((i.length : Int) > 64)) (λb=>?_) (λb=>?_)
  ·have c:=Zt c b
   refine k_s H b R R R λa H=>k_s H b R R R λa H=>k_s H b R R R λa H=>k_s H b R R R λa H=>k_s H b R R R λa H=>k_s H b R R R λa H=>Z2 H (lkb R b) R λa H=>Zf ?_
   obtain rfl:=o_1 c
   refine Zi ?_
   exact ⟨H.s,I⟩
  have c:=Zs c b
  refine Zl H (Zh H R (lkb R b)) dd_ R λa H=>Zl H (Zh H R (lkb R b)) dd_ R λa H=>?_
  obtain ⟨x,z,c⟩:=p_1 c
  refine ZW H (Zh H R (lkb R b)) dd_ R (cbm func121) (Bj _ i e (I.rdo f) x z) ?_
  rintro v w a ⟨rfl,hK⟩ H
  have I:=I.keep hK
  refine Ye H (Zh H R (lkb R b)) dd_ R R R λa H=>?_
  obtain ⟨A,B,c⟩:=p_1 c
  refine ZW H (Zh H R (lkb R b)) dd_ R JI (Yw _ j 0 (wr (x - 1)) A B) ?_
  rintro v w a ⟨rfl,hK⟩ H
  have I:=I.keep hK
  refine QH H (Zh H R (lkb R b)) dd_ R λa H=>ZZ H (lkb R b) R λa H=>Zf ?_
  obtain rfl:=o_1 c
  refine Zi ?_
  exact ⟨H.s,I⟩
 rintro a w ⟨H,I⟩
 refine c_if H R d ?_ ?_
 ·intro k d
  refine Zb (Zc H R λa H=>Zc H R λa H=>Ze ?_)
  have I:=M.nilS (α:=V32) NoB noB I
  obtain rfl:=o_1 d
  exact u_2 (ZA (YN H R (Zy H R) (Zy H R) ⟨_,R,xf,R,I.outF (Z1 Yj),I.kept⟩))
 intro k d
 refine t_2 (Zw (Zb ?_))
 obtain ⟨l,m,d⟩:=p_1 d
 refine Zn H R cb81 (JZ _  l m) ?_
 rintro v w a ⟨n,rfl,hFr,hK⟩ H
 have I:=I.add hK hFr
 refine Zd H R λa H=>Zd H R λa H=>?_
 obtain ⟨o,q,d⟩:=p_1 d
 refine Zn H R Zpf (TR 64 _ l n (I.ro (pre:=[]) noB) i e (I.rdo f) j o q) ?_
 rintro t w a ⟨_,rfl,hFr,hK⟩ H
 have I:=I.add hK hFr
 refine Zc H R λa H=>Zc H R λa H=>Ze ?_
 obtain rfl:=o_1 d
 have I:=I.f_1
 exact u_2 (YN H R (Zy H R) (Zy H R) ⟨_,R,t,R,I.outF (Z1 Yj),I.kept⟩)
def YG : Nat → Ghasher → V32 → Int → Int → (List V32) → Option (V32 × Bool)
 | 0,_,_,_,_,_=>none
 | fu + 1,i,j,k,l,c=>if l == 1 then (some (j,(c.length : Int) == 0)) else (if (c.length : Int) == 0 then (some ((Vector.replicate 32 (0 : UInt8)),false)) else ((To l).bind λb=>(idx c (wr ((c.length : Int) - 1))).bind λd=>(slc c (0 : Int) (wr ((c.length : Int) - 1))).bind λe=>if decide (k < b) then ((YG fu i j k b e).bind λf=>(WD i f.1 d).bind λm=>some (m,f.2)) else ((YG fu i j (wr (k - b)) (wr (l - b)) e).bind λh=>(WD i d h.1).bind λn=>some (n,h.2))))
theorem TM : ∀ (fu : Nat) (j : World) (n : Ghasher) (c : Value) (d : Ro j n.engine [c]) (l : V32) (B : Int) (C : Int) (o : List V32) (h : Value) (b : Ro j o [h]) (r : V32 × Bool) (hF : YG fu n l B C o = some r),
  Calls prog 123 [Value.agg (cat [[c]]).toArray,Value.agg (enc l).toArray,vI B,vI C,h].toArray j (Rt j (Value.tuple [Value.agg (enc r.1).toArray,vT r.2].toArray)):=by
 intro fu
 induction fu with
 | zero=>intros; rename_i hF; unfold YG at hF; cases hF
 | succ fu ih =>
 have TM:=λ(_ : Nat)=>ih
 intro j n c d l B C o h b r hF
 refine ce func123 ?_
 intro a H
 have I:=M.start j
 unfold YG at hF
 refine Zb (ZY (cs:=cat [[c]]) H I Za ld R R λb1 w a I H=>ZY (cs:=enc l) H I Za ld R R λb3 w a I H=>Zx H I Yi λb5 w a I H=>Zc H R λa H=>Ze (s_2 (Zb (Zd H R λa H=>Zm H R R R λa H=>Ze ?_))))
 refine c_if H R hF ?_ ?_
 ·intro aa hF
  refine Zb (Zu H R Yi R I.ra1 (u_1 _) λa H=>Zd H R λa H=>Yp H R o_5 (I.rd b) λa H=>Zm H R R R λa H=>s_w l H I Za R R R Yi λw a I H=>Zc H R λa H=>Ze ?_)
  obtain rfl:=o_1 hF
  have ab : Z8 prog _ _ (.cell 10 32) _:=ZH H R Yi R I.ra0 (u_1 _) R
  exact u_2 (ZA (YN H R ab (Zy H R) ⟨_,R,R,I.kept⟩))
 intro aa hF
 refine t_2 (Zw (s_2 (Zb (Zd H R λa H=>Yp H R o_5 (I.rd b) λa H=>Zm H R R R λa H=>Ze ?_))))
 refine c_if H R hF ?_ ?_
 ·intro ac hF
  refine Zb (Xi (parts:=[]) (vs:=[]) (cs:=enc xd) H Za ld R R Yi R ty5 YK λa H=>s_w xd H I Za R R R Yi λw a I H=>Zc H R λa H=>Ze ?_)
  obtain rfl:=o_1 hF
  have G : Z8 prog _ _ (.cell 10 32) _:=ZH H R Yi R I.ra0 (u_1 _) R
  exact u_2 (ZA (YN H R G (Zy H R) ⟨_,R,R,I.kept⟩))
 intro ac hF
 refine t_2 (Zw (s_2 ?_))
 obtain ⟨i,ad,hF⟩:=p_1 hF
 obtain ⟨q,m,hF⟩:=bix hF
 refine Y0 (its:=[raw b5 xq,raw b3 (enc l),raw b1 (cat [[c]])]) (mk:=([mkO 8 (λv=>Th v xq)] : Mk)) [28,29,30,31,32,33,34,35,13,12] YJ R R dd_ R H (λu=>M.qE (M.q0 I.drew u) emO) (q_m (λ_=>R) (qsP (λz=>ZW z.E Za ld R Zpt (zA _ C i ad) (kc R)) (q_m (λ_=>R) (q_m (λ_=>R) (qsP (λz=>Q7 z.E Za ld R o_5 (z.M.rd b) (kr0 R)) (qsP (v:=(vI (wr ((o.length : Int) - 1)))) (λz=>Ye z.E Za ld R R R (kr0 R)) (qsP (λz=>XD z.E Za ld R R o_5 Yi (z.M.rd b) m.1 (kr0 R)) (qsP (λz=>ZB z.E Za ld R Yi R (Xx (z.M.rd b) m.2) (u_1 _) (kr0 R)) (q_t ?_ (qsP (λz=>K3 z.E Za ld R (kr0 R)) qs0)))))))))) ?_
 ·intro a w K D z
  have H:=z.E
  have hD : D 8 = false:=z.F
  have I:=z.M
  refine Zx H I Yi λan w a I H=>?_
  have I:=I.pack1 (it:=Th _ xq) (λw w' fp ⟨b',e,k⟩ hb=>⟨b',e,XR w w' fp k hb⟩) (λfp k=>⟨_,R,k⟩)
  exact ⟨_,_,R,H,M.qFill (mk1:=[]) (mk2:=[]) (f:=λv=>Th v xq) I R hD,trivial⟩
 intro a w K D H I hG L
 have d8:=L 8 dd_
 have I:=(I.sure (pre:=[_,_,_]) d8).pl
 obtain ⟨_,⟨ae,N,_⟩,_⟩:=I.head
 have I:=I.pack1 XR (it:=raw ae xq) (λfp ⟨b2,e2,k2⟩=>by rw [N] at e2; simp [ptr] at e2; subst e2; exact k2)
 have H:=H.setq (t:=13) R N
 refine s_w q H I Za R R R Yi λw a I H=>Zf (Zw (Zb (Zd H R λa H=>Zd H R λa H=>Yp H R o_5 (I.rd b) λa H=>Zm H R R R λa H=>?_)))
 obtain ⟨x,O,hF⟩:=p_1 hF
 refine Uk H Za ld R R R R R o_5 Yi (I.rd b) O λa H=>?_
 have T : Rep.sat (Old j) j x [ZV h ((0 : Int)).toNat ((wr ((o.length : Int) - 1))).toNat 32] []:=Yo b O -- ^
 refine Zc H R λa H=>Ze (s_2 (Zb (Zd H R λa H=>Zd H R λa H=>Zm H R R R λa H=>Ze ?_)))
 refine c_if H R hF ?_ ?_
 ·intro U hF
  refine Zb (Zu H R Hv R I.ra3 cq λa H=>Zu H R Yi R I.ra2 (u_1 _) λa H=>Zd H R λa H=>Zd H R λa H=>Zd H R λa H=>?_)
  obtain ⟨y,ag,hF⟩:=p_1 hF
  refine c_k H I R Zn0 (TM fu _ n c (I.rdo d) l B i x (ZV h ((0 : Int)).toNat ((wr ((o.length : Int) - 1))).toNat 32) (I.rdo T) y ag) λw a I H=>?_
  refine Zd H R λa H=>ZM H Za ld R R λa H=>ZM H Za ld R R λa H=>Zx H I Yi λaq w a I H=>s_w y.1 H I Za R R R Yi λw a I H=>Zc H R λa H=>Ze (Zb (Zu H R Hv R I.ra4 cq λa H=>Zu H R Yi R I.ra0 (u_1 _) λa H=>Zu H R Yi R I.ra1 (u_1 _) λa H=>?_))
  obtain ⟨W,ah,hF⟩:=p_1 hF
  refine c_k H I R Zn5 (Jo _ n c (I.rdo d) y.1 q W ah) λw a I H=>?_
  refine Zd H R λa H=>?_
  have I:=I.pl2
  refine s_w W H I Za R R R Yi λw a I H=>Zc H R λa H=>Ze ?_
  obtain rfl:=o_1 hF
  have X : Z8 prog _ _ (.cell 10 32) _:=ZH H R Yi R I.ra0 (u_1 _) R
  exact u_2 (ZA (YN H R X (Zy H R) ⟨_,R,R,I.kept⟩))
 intro U hF
 refine t_2 (Zw (Zb (Zu H R Hv R I.ra3 cq λa H=>Zu H R Yi R I.ra2 (u_1 _) λa H=>Zd H R λa H=>Zd H R λa H=>Zm H R R R λa H=>Zd H R λa H=>Zd H R λa H=>Zm H R R R λa H=>Zd H R λa H=>?_)))
 obtain ⟨A,ai,hF⟩:=p_1 hF
 refine c_k H I R Zn0 (TM fu _ n c (I.rdo d) l (wr (B - i)) (wr (C - i)) x (ZV h ((0 : Int)).toNat ((wr ((o.length : Int) - 1))).toNat 32) (I.rdo T) A ai) λw a I H=>?_
 refine Zd H R λa H=>ZM H Za ld R R λa H=>ZM H Za ld R R λa H=>Zx H I Yi λar w a I H=>s_w A.1 H I Za R R R Yi λw a I H=>Zc H R λa H=>Ze (Zb (Zu H R Hv R I.ra4 cq λa H=>Zu H R Yi R I.ra1 (u_1 _) λa H=>Zu H R Yi R I.ra0 (u_1 _) λa H=>?_))
 obtain ⟨Y,aj,hF⟩:=p_1 hF
 refine c_k H I R Zn5 (Jo _ n c (I.rdo d) q A.1 Y aj) λw a I H=>?_
 refine Zd H R λa H=>?_
 have I:=I.pl2
 refine s_w Y H I Za R R R Yi λw a I H=>Zc H R λa H=>Ze ?_
 obtain rfl:=o_1 hF
 have Z : Z8 prog _ _ (.cell 10 32) _:=ZH H R Yi R I.ra0 (u_1 _) R
 exact u_2 (YN H R Z (Zy H R) ⟨_,R,R,I.kept⟩)
def Ks (i : V32) (j : V32) (h : Int) (c : Int) (k : List V32) : Option (Bool) :=
 ((Yy c 1 64).bind λl=>if !l then (some true) else ((Yy h 0 (wr (c - 1))).bind λd=>some (!d)) : Option (Bool)).bind λm=>if m then (some false) else ((Vz).bind λe=>(YG 64 e j h c k).bind λb=>(if b.2 then (some (decide (b.1 = i))) else (some false) : Option (Bool)).bind λf=>some f)
theorem Zb6 (L : World) (X : V32) (U : V32) (Y : Int) (W : Int) (p4 : List V32) (A : Value) (O : Ro L p4 [A]) (r : Bool) (hF : Ks X U Y W p4 = some r) :
  Calls prog 36 [Value.agg (enc X).toArray,Value.agg (enc U).toArray,vI Y,vI W,A].toArray L (Rt L (vT r)):=by
 refine ce func36 ?_
 intro a H
 have I:=M.start L
 unfold Ks at hF
 refine Zb (ZY (cs:=enc X) H I Za ld R R λb1 w a I H=>ZY (cs:=enc U) H I Za ld R R λb3 w a I H=>Zc H R λa H=>Ze (s_2 ?_))
 obtain ⟨j5,l,q⟩:=p_1 hF
 refine ZG (λa w=>Env 38 a [(2,vI Y),(3,vI W),(4,A),(5,ptr b1 0),(6,ptr b3 0),(22,vT j5)] ∧ M (Old L) L w [raw b3 (enc U),raw b1 (enc X)]) ?_ ?_
 ·refine s_1 (Zd H R λa H=>?_)
  obtain ⟨r8,e9,l⟩:=p_1 l
  refine c_k H I R JI (Yw _ W 1 64 r8 e9) λw a I H=>?_
  refine Qe H R λa H=>Zd H R λa H=>?_
  refine Yq (!r8) (λb=>?_) (λb=>?_)
  ·have l:=Zt l b
   refine k_s H b R R R λa H=>k_s H b R R R λa H=>k_s H b R R R λa H=>k_s H b R R R λa H=>k_s H b R R R λa H=>Z2 H (lkb R b) R λa H=>Zf ?_
   obtain rfl:=o_1 l
   refine Zi ?_
   exact ⟨H.s,I⟩
  have l:=Zs l b
  refine Zl H (Zh H R (lkb R b)) dd_ R λa H=>Zl H (Zh H R (lkb R b)) dd_ R λa H=>Ye H (Zh H R (lkb R b)) dd_ R R R λa H=>?_
  obtain ⟨ah,ai,l⟩:=p_1 l
  refine ZW H (Zh H R (lkb R b)) dd_ R JI (Yw _ Y 0 (wr (W - 1)) ah ai) ?_
  rintro v w a ⟨rfl,hK⟩ H
  have I:=I.keep hK
  refine QH H (Zh H R (lkb R b)) dd_ R λa H=>ZZ H (lkb R b) R λa H=>Zf ?_
  obtain rfl:=o_1 l
  refine Zi ?_
  exact ⟨H.s,I⟩
 rintro a w ⟨H,I⟩
 refine c_if H R q ?_ ?_
 ·intro Z q
  refine Zb (Zc H R λa H=>Ze ?_)
  obtain rfl:=o_1 q
  exact u_2 (ZA (kr1 H R R I.kept))
 intro Z q
 refine t_2 (Zw (s_2 ?_))
 obtain ⟨y,aj,q⟩:=p_1 q
 obtain ⟨C,ak,q⟩:=p_1 q
 refine Y0 (its:=[raw b3 (enc U),raw b1 (enc X)]) (mk:=([mkO 0 (λv=>own NoB y (Value.cells v).toList),mkC 9 10 xq (enc C.1)] : Mk)) [24,25,26,27,28,29,23,30,31,11,48] YJ R R dd_ R H (λu=>M.qE (M.qE (M.q0 I.drew u) emC) emO) (qsM (pr:=λv=>∃ cs,v = .agg cs) ?_ (qsP (λz=>ZB z.E Za ld R Yi R (z.M.ra0) (u_1 _) (kr0 R)) (q_m (λ_=>R) (q_m (λ_=>R) (q_m (λ_=>R) (qsP (v:=(Value.tuple [Value.agg (enc C.1).toArray,vT C.2].toArray)) ?_ (q_m (λ_=>R) (qsP (λz=>ZM z.E Za ld R R (kr0 R)) (qsP (λz=>ZM z.E Za ld R R (kr0 R)) (q_t ?_ (q_t ?_ qs0))))))))))) ?_
 ·intro a w n D z
  have H:=z.E
  have hD : D 0 = false:=z.F
  have hM0:=z.M
  have I:=z.M
  refine Zn H R cb81 (JZ _  y aj) ?_
  rintro _ w a ⟨aa,rfl,hFr,hK⟩ H
  have I:=hM0.add hK hFr
  have I:=I.packL (m:=[own NoB y.engine [aa]]) (it:=own NoB y (cat [[aa]])) (Xl noB) (λfp h=>by obtain ⟨_,_,rfl,_,s1,rfl⟩:=h; exact Zj4 s1 (by simp))
  exact ⟨_,_,R,H,M.qFill (mk1:=[]) (mk2:=[_]) (f:=(λv=>own NoB y (Value.cells v).toList)) I R hD,⟨_,R⟩⟩
 ·intro a w n D z
  have H:=z.E
  have d0 : D 0 = true:=z.p 0 _ R R
  have I:=z.M.sure (pre:=[_,_]) d0
  obtain ⟨d,T,x⟩:=Zcc (I.rn2)
  have B : (n 0) = (Value.agg (cat [[d]]).toArray):=yi T (z.G 0 (by assumption) _ R).2
  refine Zn H (Ze1 (ym (lk R B) (ym R (ym R (ym R (ym R evsN)))))) Zn0 (TM 64 _ y d x U Y W p4 A (I.rdo O) C ak) ?_
  rintro v w a ⟨rfl,hK⟩ H
  exact ⟨hK,_,R,H⟩
 ·intro a w n D z
  have H:=z.E
  have hD : D 9 = false:=z.F
  have I:=z.M
  refine Zx H I Yi λau w a I H=>?_
  have hs : D 10 = false:=Kb (j:=10) (k:=0) z.c R R R hD
  exact ⟨_,_,R,H,M.qAlloc (mk1:=[_]) (mk2:=[]) I R hD hs dd_,trivial⟩
 ·intro a w n D z
  have H:=z.E
  have hD : D 10 = false:=z.F
  have d9 : D 9 = true:=z.p 0 _ R R
  have I:=z.M
  obtain ⟨av,N,I⟩:=M.openCellF (pre:=[_,_,_]) I d9 hD
  exact s_w C.1 H I Za (lk R N) R R Yi λw a I H=>⟨undef,_,R,Env.dummy H dd_,M.qStore (i:=9) (mk1:=[_]) (mk2:=[]) I R d9 N dd_,trivial⟩
 intro a w n D H I hG K
 have d0:=K 0 dd_
 have d9:=K 9 dd_
 have am:=K 10 dd_
 have I:=I.sure (pre:=[_,_]) d0
 obtain ⟨aw,an,I⟩:=M.openCellT (pre:=[_,_,_]) I d9 am
 obtain ⟨d,T,_⟩:=Zcc (I.ro (pre:=[_,_,_]) noB)
 have B : (n 0) = (Value.agg (cat [[d]]).toArray):=yi T (hG 0 d0 _ R).2
 have I:=I.pl3
 have I:=(I.recown (congrArg (λv=>(Value.cells v).toList) B)).unpackL (m:=[own NoB y.engine [d]]) (λfp h=>by obtain ⟨_,rfl,s1⟩:=Zgj h; exact XN.one (Xl noB) s1)
 simp only [l_c,l_n] at I
 have H:=H.setq (t:=24) R B
 have H:=H.setq (t:=11) R an
 refine Zc H R λa H=>Zf (Zw ?_)
 obtain ⟨ao,o,ab⟩:=p_1 q
 refine ZG (λa w=>Env 38 a [(10,vT ao)] ∧ M (Old L) L w []) ?_ ?_
 ·refine s_1 (Zd H R λa H=>Zd H R λa H=>?_)
  refine Yq C.2 (λe=>?_) (λe=>?_)
  ·have o:=Zt o e
   refine ZB H (Zh H R (lkb R e)) dd_ R Yi R I.ra1 (u_1 _) λa H=>ZB H (Zh H R (lkb R e)) dd_ R Yi R I.ra3 (u_1 _) λa H=>Zkc H (Zh H R (lkb R e)) dd_ R R (K4 p_6 ty5 R false R dd_ (QO t_3)) dd_ (by kernel_rfl) λa H=>Z2 H (lkb R e) R λa H=>Zc H R λa H=>Zf ?_
   obtain rfl:=o_1 o
   refine Zi ?_
   have I:=I.f_0
   exact ⟨H.s,I⟩
  have o:=Zs o e
  refine k_s H e R R R λa H=>k_s H e R R R λa H=>k_s H e R R R λa H=>ZZ H (lkb R e) R λa H=>Zc H R λa H=>Zf ?_
  obtain rfl:=o_1 o
  refine Zi ?_
  have I:=I.f_0
  exact ⟨H.s,I⟩
 rintro a w ⟨H,I⟩
 obtain rfl:=o_1 ab
 exact u_2 (kr1 H R R I.kept)
def VK (e : (List (List UInt8))) (f : (List UInt8) → Option (Bool)) (b : Int) : Option (Fl Int (Fl Unit Int)) :=
 if decide (b < (e.length : Int)) then ((idx e b).bind λc=>((f c)).bind λd=>if d then (some (Fl.ex (Fl.ex b))) else (some (Fl.nx (wr (b + 1))))) else (some (Fl.ex (Fl.nx ())))
def Ww (b : (List (List UInt8))) (c : (List UInt8) → Option (Bool)) : Option (Int) :=
 (ZK (VK b c) 0).bind λd=>d.el (λe=>some (-1)) (λr=>some r)
theorem Hj (f : World) (u : xp) (d : Value) (c : Ro f u [d]) (F : (List UInt8) → Option (Bool)) (t : Nat) (q1 : List Value) (k : Callable prog t) (x : ∀ (l : World),Kept (Old f) f l → ∀ (G : List UInt8) (m : Value) (_ : Ro l G [m]) (zr : Bool),F G = some zr → Calls prog t ([m] ++ q1).toArray l (λen O=>∃ v,en = .returned v ∧ (v = (vT zr) ∧ Kept (Old l) l O))) (r : Int) (hF : Ww u F = some r) :
  Calls prog 286 [d,Value.func (.func t) #[] q1.toArray].toArray f (Rt f (vI r)):=by
 refine ce func286 ?_
 intro a H
 have I:=M.start f
 unfold Ww at hF
 refine Zb (Zc H R λa H=>Ze (s_2 (Zb (Zd H R λa H=>Yp H R t_5 (I.rd c) λa H=>Zd H R λa H=>Ze ?_))))
 obtain ⟨T,y,h⟩:=p_1 hF
 refine ZX (λa w=>∃ K : Unit,T = Fl.nx K ∧ Env 19 a [] ∧ M (Old f) f w []) ?_ ?_
 ·refine p_2 ?_
  refine ZN (λ(L : Int) a w=>Env 19 a [(0,d),(1,Value.func (.func t) #[] q1.toArray),(7,vI (u.length : Int)),(8,vI L)] ∧ M (Old f) f w []) y ⟨H.s,I⟩ ?_
  rintro L a w ⟨H,I⟩ U b n
  unfold VK at b
  refine Zb (Zm H R R R λa H=>Ze (s_2 ?_))
  refine c_if H R b ?_ ?_
  ·intro z b
   refine t_2 (Zw (s_2 (p_2 (Zb (Zd H R λa H=>Zc H R λa H=>Ze (Zb (Zd H R λa H=>Zd H R λa H=>Zd H R λa H=>?_)))))))
   obtain ⟨A,e,b⟩:=bix b
   refine Ys H R R t_5 Uf (I.rd c) e.1 λa H=>?_
   obtain ⟨N,i,o⟩:=V2 c e.2 -- ^
   obtain ⟨j,rfl⟩:=U0 i -- ^
   have B:=i -- ^
   refine ZO (v:=j) H R Uf R (I.atk o (Qi c e.2)) λa H=>?_
   obtain ⟨C,E,b⟩:=p_1 b
   refine yS (vs:=[j]) H Za ld R R k (x _ I.kept A j (I.rdo B) C E) ?_
   rintro v w a ⟨rfl,hK⟩ H
   have I:=I.keep hK
   refine Ze ?_
   refine c_if H R b ?_ ?_
   ·intro q b
    refine Zb (Zd H R λa H=>Zc H R λa H=>Ze ?_)
    obtain rfl:=n _ (ois b)
    obtain rfl:=o_1 h
    exact u_2 (YZ (ZA (ZA (YZ (ZA (ZA (kr1 H R R I.kept)))))))
   intro q b
   refine t_2 (Yn (Zw (s_1 (Zm H R R R λa H=>Zd H R λa H=>Zf (Zi ?_)))))
   exact ⟨_,ois b,H.s,I⟩
  intro z b
  refine s_3 (Zp (Zp (Yv ?_)))
  obtain rfl:=n _ (ois b)
  refine Zi ?_
  exact ⟨(),R,H.sub trivial,I⟩
 rintro a w ⟨K,ht,H,I⟩
 subst ht
 have h:=JM h
 refine Zw (Zb (Zc H R λa H=>Ze ?_))
 obtain rfl:=o_1 h
 exact u_2 (kr1 H R R I.kept)
def Xw (b : (List (List UInt8))) (c : (List UInt8) → Option (Bool)) : Option (Bool) :=
 (Ww b c).bind λd=>some (decide (d ≥ 0))
theorem JR (e : World) (j : xp) (b : Value) (c : Ro e j [b]) (k : (List UInt8) → Option (Bool)) (i : Nat) (q1 : List Value) (f : Callable prog i) (l : ∀ (d : World),Kept (Old e) e d → ∀ (n : List UInt8) (h : Value) (_ : Ro d n [h]) (zr : Bool),k n = some zr → Calls prog i ([h] ++ q1).toArray d (λen o=>∃ v,en = .returned v ∧ (v = (vT zr) ∧ Kept (Old d) d o))) (r : Bool) (hF : Xw j k = some r) :
  Calls prog 215 [b,Value.func (.func i) #[] q1.toArray].toArray e (Rt e (vT r)):=by
 refine ce func215 ?_
 intro a H
 have I:=M.start e
 unfold Xw at hF
 refine Zb (Zc H R λa H=>Ze (Zb (Zd H R λa H=>Zd H R λa H=>?_)))
 obtain ⟨q,t,hF⟩:=p_1 hF
 refine c_k H I R (cbm func286) (Hj _ j b (I.rdo c) k i q1 f (λd m=>l d (I.kept.trans m)) q t) λw a I H=>?_
 refine Zm H R R R λa H=>Zc H R λa H=>Ze ?_
 obtain rfl:=o_1 hF
 exact u_2 (kr1 H R R I.kept)
def WG (b : List UInt8) (c : Int) : Option (Bool) :=
 some ((b.length : Int) != c)
theorem B3 (e : World) (j : List UInt8) (b : Value) (c : Ro e j [b]) (d : Nat) (f : Int) (h : At e d 0 ([vI f])) (i : Old e d) (r : Bool) (hF : WG j f = some r) :
  Calls prog 216 [b,ptr d 0].toArray e (Rt e (vT r)):=by
 refine ce func216 ?_
 intro a H
 have I:=M.start e
 unfold WG at hF
 refine Zb (Zc H R λa H=>Ze (Zb (Zd H R λa H=>Yp H R o_2 (I.rd c) λa H=>ZO (v:=(vI f)) H R ty3 R (I.atk h i) λa H=>Zm H R R R λa H=>Zc H R λa H=>Ze ?_)))
 obtain rfl:=o_1 hF
 exact u_2 (kr1 H R R I.kept)
def Vo (b : (List (List UInt8))) (c : Int) : Option (Bool) :=
 (if decide ((b.length : Int) ≤ 7) then ((Xw b (λd=>WG d c)).bind λe=>some (!e)) else (some false) : Option (Bool)).bind λf=>some f
theorem AL (i : World) (l : xp) (d : Value) (e : Ro i l [d]) (j : Int) (r : Bool) (hF : Vo l j = some r) :
  Calls prog 125 [d,vI j].toArray i (Rt i (vT r)):=by
 refine ce func125 ?_
 intro a H
 have I:=M.start i
 unfold Vo at hF
 refine Zb (ZY (cs:=[vI j]) H I Za ld R R λo w a I H=>Zc H R λa H=>Ze ?_)
 obtain ⟨q,c,m⟩:=p_1 hF
 refine ZG (λa w=>Env 14 a [(4,vT q)] ∧ M (Old i) i w []) ?_ ?_
 ·refine s_1 (Zd H R λa H=>Yp H R t_5 (I.rd e) λa H=>Zm H R R R λa H=>Zd H R λa H=>?_)
  refine Yq (decide ((l.length : Int) ≤ 7)) (λb=>?_) (λb=>?_)
  ·have c:=Zt c b
   refine Zl H (Zh H R (lkb R b)) dd_ R λa H=>Ae H (Zh H R (lkb R b)) dd_ R λa H=>?_
   obtain ⟨t,u,c⟩:=p_1 c
   refine ZW H (Zh H R (lkb R b)) dd_ R (cbm func215) (JR _ l d (I.rdo e) (λn=>WG n j) 216 [ptr o 0] (cbm func216) (λx k n f h zr zhr=>B3 x n f h o j (zq I.ra0 k (by simp [cat])) (Ha I.ra0 k (by simp [cat])) zr zhr) t u) ?_
   rintro v w a ⟨rfl,hK⟩ H
   have I:=I.keep hK
   refine QH H (Zh H R (lkb R b)) dd_ R λa H=>Z2 H (lkb R b) R λa H=>Zc H R λa H=>Zf ?_
   obtain rfl:=o_1 c
   refine Zi ?_
   have I:=I.f_0
   exact ⟨H.s,I⟩
  have c:=Zs c b
  refine k_s H b R R R λa H=>k_s H b R R R λa H=>k_s H b R R R λa H=>k_s H b R R R λa H=>ZZ H (lkb R b) R λa H=>Zc H R λa H=>Zf ?_
  obtain rfl:=o_1 c
  refine Zi ?_
  have I:=I.f_0
  exact ⟨H.s,I⟩
 rintro a w ⟨H,I⟩
 obtain rfl:=o_1 m
 exact u_2 (kr1 H R R I.kept)
def Qg (b : List UInt8) : Option (Int) :=
 some (b.length : Int)
theorem yJ (d : World) (e : List UInt8) (b : Value) (c : Ro d e [b]) (r : Int) (hF : Qg e = some r) :
  Calls prog 126 [b].toArray d (Rt d (vI r)):=by
 refine ce func126 ?_
 intro a H
 have I:=M.start d
 unfold Qg at hF
 refine Zb (Zc H R λa H=>Ze (Zb (Zd H R λa H=>Yp H R o_2 (I.rd c) λa H=>Zc H R λa H=>Ze ?_)))
 obtain rfl:=o_1 hF
 exact u_2 (kr1 H R R I.kept)
def UP (b : List UInt8) : Option (Bool) :=
 ((Wh b).bind λc=>if c then ((V5 b 0).bind λd=>some (decide (d < 0))) else (some false) : Option (Bool)).bind λe=>some e
theorem yu (f : World) (h : List UInt8) (d : Value) (e : Ro f h [d]) (r : Bool) (hF : UP h = some r) :
  Calls prog 127 [d].toArray f (Rt f (vT r)):=by
 refine ce func127 ?_
 intro a H
 have I:=M.start f
 unfold UP at hF
 refine Zb (Zc H R λa H=>Ze ?_)
 obtain ⟨k,c,i⟩:=p_1 hF
 refine ZG (λa w=>Env 10 a [(2,vT k)] ∧ M (Old f) f w []) ?_ ?_
 ·refine s_1 (Zd H R λa H=>?_)
  obtain ⟨j,l,c⟩:=p_1 c
  refine c_k H I R Zop (KP _ h d (I.rdo e) j l) λw a I H=>?_
  refine Zd H R λa H=>?_
  refine Yq j (λb=>?_) (λb=>?_)
  ·have c:=Zt c b
   refine Zl H (Zh H R (lkb R b)) dd_ R λa H=>?_
   obtain ⟨m,n,c⟩:=p_1 c
   refine ZW H (Zh H R (lkb R b)) dd_ R (cbm func218) (Bx _ h d (I.rdo e) 0 m n) ?_
   rintro v w a ⟨rfl,hK⟩ H
   have I:=I.keep hK
   refine Ye H (Zh H R (lkb R b)) dd_ R R R λa H=>Z2 H (lkb R b) R λa H=>Zc H R λa H=>Zf ?_
   obtain rfl:=o_1 c
   refine Zi ?_
   exact ⟨H.s,I⟩
  have c:=Zs c b
  refine k_s H b R R R λa H=>k_s H b R R R λa H=>k_s H b R R R λa H=>ZZ H (lkb R b) R λa H=>Zc H R λa H=>Zf ?_
  obtain rfl:=o_1 c
  refine Zi ?_
  exact ⟨H.s,I⟩
 rintro a w ⟨H,I⟩
 obtain rfl:=o_1 i
 exact u_2 (kr1 H R R I.kept)
-- value
/-! ### A range over slices.Backward: the polynomial's value -/
theorem yj (b c : UInt8) : ∀ (k i : Nat) (acc : Int),i + k = 8 → ∃ t,ZK (YT b c) (acc,(i : Int)) = some t
 | 0,i,acc,h=>by
  have : i = 8:=by omega
  subst this
  exact ⟨acc,We (by unfold YT; rfl)⟩
 | k + 1,i,acc,h=>by
  have d : decide ((i : Int) < 8) = true:=by simp only [decide_eq_true_eq]; omega
  have e : XM (i : Int) = some ():=by unfold XM; rw [if_pos (by omega)]
  have f : wr ((i : Int) + 1) = ((i + 1 : Nat) : Int):=by rw [YY (by omega)]; omega
  cases hc : (((qn c (i : Int)) &&& 1) == 1) with
  | true =>
   obtain ⟨t,ht⟩:=yj b c k (i + 1) (BY acc (BJ (bI b) (i : Int))) (by omega)
   refine ⟨t,?_⟩
   rw [WM (s':=(BY acc (BJ (bI b) (i : Int)),((i + 1 : Nat) : Int)))]
   ·exact ht
   ·unfold YT
    simp only [d,if_true,e,Option.bind_some,hc,f]
  | false =>
   obtain ⟨t,ht⟩:=yj b c k (i + 1) acc (by omega)
   refine ⟨t,?_⟩
   rw [WM (s':=(acc,((i + 1 : Nat) : Int)))]
   ·exact ht
   ·unfold YT
    simp only [d,if_true,e,Option.bind_some,hc,Bool.false_eq_true,if_false,f]
theorem jU (m : Int) : ∀ (k : Nat) (acc : Int),k ≤ 8 → ∃ t,ZK (WS m 8) (acc,(k : Int) + 7) = some t
 | 0,acc,_=>⟨acc,We (by unfold WS; rfl)⟩
 | k + 1,acc,h=>by
  have b : decide (((k + 1 : Nat) : Int) + 7 ≥ 8) = true:=by simp only [decide_eq_true_eq]; omega
  have c : XM (((k + 1 : Nat) : Int) + 7) = some ():=by unfold XM; rw [if_pos (by omega)]
  have e : wr ((((k + 1 : Nat) : Int) + 7) - 8) = (k : Int):=by rw [YY (by omega)]; omega
  have f : XM (k : Int) = some ():=by unfold XM; rw [if_pos (by omega)]
  have d : wr ((((k + 1 : Nat) : Int) + 7) - 1) = (k : Int) + 7:=by rw [YY (by omega)]; omega
  cases hc : ((Zin (Qp acc (((k + 1 : Nat) : Int) + 7)) 1) == 1) with
  | true =>
   obtain ⟨t,ht⟩:=jU m k (BY acc (BJ m (k : Int))) (by omega)
   refine ⟨t,?_⟩
   rw [WM (s':=(BY acc (BJ m (k : Int)),(k : Int) + 7))]
   ·exact ht
   ·unfold WS
    simp only [b,if_true,c,Option.bind_some,hc,d,e,f]
  | false =>
   obtain ⟨t,ht⟩:=jU m k acc (by omega)
   refine ⟨t,?_⟩
   rw [WM (s':=(acc,(k : Int) + 7))]
   ·exact ht
   ·unfold WS
    simp only [b,if_true,c,Option.bind_some,hc,Bool.false_eq_true,if_false,d]
theorem Zmx (m : Int) (x y : UInt8) : ∃ r,Z5 m x y = some r:=by
 obtain ⟨t,ht⟩:=yj x y 8 0 0 R
 obtain ⟨u,hu⟩:=jU m 8 t (Nat.le_refl _)
 have ht' : ZK (YT x y) (0,0) = some t:=ht
 have hu' : ZK (WS m 8) (t,15) = some u:=hu
 exact ⟨Zz u,by unfold Z5 Qc; simp only [ht',hu',Option.bind_some]⟩
def Za0 (m : Int) (x y : UInt8) : UInt8:=(Z5 m x y).getD 0
theorem kP (m : Int) (x y : UInt8) : Z5 m x y = some (Za0 m x y):=by
 obtain ⟨r,hr⟩:=Zmx m x y
 unfold Za0; rw [hr]; rfl
def Zdq (m : Int) (x : UInt8) (out a : UInt8) : UInt8:=Za0 m out x ^^^ a
def UW (c : Int) (b : List UInt8) (d : UInt8) : Option UInt8:=if b.length ≤ 140737488351232 then some (b.reverse.foldl (Zdq c d) 0) else none
section
open Go.RowKit Go.Shelf
attribute [local go_sem] Oper.semAt_some
/-- The iterator: for every loop body that keeps what lay below n₀. -/
theorem Zov (F : Fence) (n : Nat) (h7 : F.fn 323) (hro : F.round = none) (hn : 1 ≤ n) (l Bs n₀ b off cap : Nat) (zs : List UInt8) (hreach : zs.length ≤ 140737488351232) (hb : b < n₀) (J Jx : List (Int × UInt8) → World → Prop)
  (hY : ∀ pre x W,J pre W → pre.length < zs.length → YieldAt F (n - 1) prog l #[.int .i64 x.1,.int .u8 x.2.toNat] W λe W' =>
   (e = .returned (.bool true) ∧ J (pre ++ [x]) W' ∧ KpB n₀ Bs W W') ∨ (e = .returned (.bool false) ∧ Jx (pre ++ [x]) W'))
  (W : World) (hBs : W.cell? ⟨Bs,0,none⟩ = some (.slice (some ⟨b,off,none⟩) zs.length cap))
  (hc : ∀ j,j < zs.length → W.cell? ⟨b,off + j,none⟩ = some (.int .u8 (zs[j]?.getD 0).toNat)) (h0 : J [] W) :
  CallsIn F n prog 323 #[.func (.yield l) #[] #[],.pointer (some ⟨Bs,0,none⟩)] W λe W'=>(∃ v,e = .returned v) ∧
   ((∃ ys,ys = qG (Zbd zs) zs.length ∧ J ys W') ∨ (∃ pre,Jx pre W')):=by
 refine callsIn_of_wp func323 R h7 ?_ hro
 simp only [ntmps323,List.size_toArray,List.length_cons,List.length_nil,Nat.reduceAdd,Nat.reduceSub,Array.replicate_succ,Array.replicate_zero,List.push_toArray,List.append_toArray,List.nil_append,List.cons_append]
 gi_wp2
 gi_loopw [3] (λi wr=>∃ k : Nat,k ≤ zs.length ∧ i = .int .i64 ((zs.length : Int) - 1 - k) ∧ J (qG (Zbd zs) k) wr ∧ KpB n₀ Bs W wr)
  (λi _=>(intOf i + 1).toNat)
 case atStart=>exact ⟨0,Nat.zero_le _,by simp,h0,Below.refl _ _,rfl⟩
 case round =>
  obtain ⟨k,hk,rfl,hJs,hnx⟩:=hrel
  have hcx : k < zs.length → wr.cell? ⟨b,off + (zs.length - 1 - k),none⟩ = some (.int .u8 ((zs[zs.length - 1 - k]?.getD 0)).toNat):=λh=>(hnx.1.cell (p:=⟨b,off + (zs.length - 1 - k),none⟩) hb).trans (hc _ (by omega))
  have hBs' : wr.cell? ⟨Bs,0,none⟩ = some (.slice (some ⟨b,off,none⟩) zs.length cap):=(World.cell?_of_block (w:=W) (a:=⟨Bs,0,none⟩) hnx.2).trans hBs
  by_cases hlt : k < zs.length
  ·obtain ⟨fn,tmps,assign,body,hy,hR⟩:=hY _ (Zbd zs k) wr hJs (by rw [Zhg]; exact hlt)
   have e1 : (zs.length : Int) - 1 - k = ((zs.length - 1 - k : Nat) : Int):=by omega
   have hcx':=hcx hlt
   simp only [Zbd] at hy
   rw [e1] at hy ⊢
   obtain ⟨j,hj⟩ : ∃ j,zs.length - 1 - k = j:=⟨_,R⟩
   have hjl : j < zs.length:=by omega
   rw [hj] at hy hcx' ⊢
   obtain ⟨x,hx⟩ : ∃ x,zs[j]?.getD 0 = x:=⟨_,R⟩
   rw [hx] at hy hcx'
   gi_wp2
   refine hR.mono ?_
   rintro e W3 (⟨rfl,hJ3,hk3⟩ | ⟨rfl,hJx3⟩)
   ·gi_wp2
    go_roundw
    case rel=>exact ⟨k + 1,by omega,by simp; omega,by rw [Zlu]; exact hJ3,hnx.trans hk3⟩
    case measure=>simp [intOf]
   ·gi_wp2
    refine bodyPost_ret (results_none R _ _ _) R ?_
    exact ⟨⟨_,R⟩,.inr ⟨_,hJx3⟩⟩
  ·obtain rfl : k = zs.length:=by omega
   have e1 : (zs.length : Int) - 1 - (zs.length : Int) = -1:=by omega
   rw [e1]
   gi_wp2
   go_end0
   exact ⟨⟨_,R⟩,.inl ⟨_,R,hJs⟩⟩
/-- .. at the nil slice,or one without elements: no round. -/
theorem Zn1 (F : Fence) (n : Nat) (h7 : F.fn 323) (hro : F.round = none) (l Bs : Nat) (p : Option Addr) (cap : Nat) (J : List (Int × UInt8) → World → Prop) (W : World) (hBs : W.cell? ⟨Bs,0,none⟩ = some (.slice p 0 cap)) (h0 : J [] W) :
  CallsIn F n prog 323 #[.func (.yield l) #[] #[],.pointer (some ⟨Bs,0,none⟩)] W λe W'=>(∃ v,e = .returned v) ∧ J [] W':=by
 refine callsIn_of_wp func323 R h7 ?_ hro
 simp only [ntmps323,List.size_toArray,List.length_cons,List.length_nil,Nat.reduceAdd,Nat.reduceSub,Array.replicate_succ,Array.replicate_zero,List.push_toArray,List.append_toArray,List.nil_append,List.cons_append]
 gi_wp2
 gi_loopw [3] (λi wr=>i = .int .i64 (-1) ∧ J [] wr) (λ_ _=>0)
 case atStart=>exact ⟨rfl,h0⟩
 case round =>
  obtain ⟨rfl,hJs⟩:=hrel
  gi_wp2
  go_end0
  exact ⟨⟨_,R⟩,hJs⟩
theorem Zrf (F : Fence) (n : Nat) (b : F.fn 288) (hro : F.round = none) (a : Option Addr) (len cap : Nat) (w : World) :
  CallsIn F n prog 288 #[.slice a len cap] w λe w'=>e = .returned (.func (.func 323) #[] #[.pointer (some ⟨w.heap.size,0,none⟩)]) ∧ w' = w.alloc (.cells #[.slice a len cap] 22):=by
 refine callsIn_of_wp func288 R b ?_ hro
 simp only [ntmps288,List.size_toArray,List.length_cons,List.length_nil,Nat.reduceAdd,Nat.reduceSub,Array.replicate_succ,Array.replicate_zero,List.push_toArray,List.append_toArray,List.nil_append,List.cons_append]
 gi_wp2
 go_ret
 exact ⟨R,R⟩
theorem Zis (F : Fence) (n : Nat) (c : F.fn 323) (hro : F.round = none) (hn : 1 ≤ n) (Bs n₀ : Nat) (p : Option Addr) (cap : Nat) (zs : List UInt8) (hreach : zs.length ≤ 140737488351232) (w : World) (hBs : Bs < w.heap.size) (hn₀ : n₀ ≤ w.heap.size)
  (hc : w.cell? ⟨Bs,0,none⟩ = some (.slice p zs.length cap)) (hI : Byts n₀ w p zs) :
  SeqStopsK F n prog 323 #[.pointer (some ⟨Bs,0,none⟩)] (λx : Int × UInt8=>#[Value.int .i64 x.1,Value.int .u8 x.2.toNat]) (KpB n₀ Bs) (λys=>ys = qG (Zbd zs) zs.length)
   (λ_=>True) zs.length w:=λl J Jx W hW _ _ hY d=>by
 have hc':=(hW.cell (p:=⟨Bs,0,none⟩) hBs).trans hc
 rcases hI.below (hW.mono hn₀) with rfl | ⟨b,off,rfl,hb,hcs⟩
 ·exact (Zn1 F n c hro l Bs p cap J W hc' d).mono λe W' ⟨he,hj⟩=>⟨he,.inl ⟨_,R,hj⟩⟩
 ·refine (Zov F n c hro hn l Bs n₀ b off cap zs hreach hb J Jx hY W hc' hcs d).mono ?_
  rintro e W' ⟨he,⟨ys,rfl,hj⟩ | ⟨pre,hj⟩⟩
  ·exact ⟨he,.inl ⟨_,R,hj⟩⟩
  ·exact ⟨he,.inr ⟨_,trivial,hj⟩⟩
theorem Zpj (d : Int) (zs : List UInt8) (f : UInt8) (hreach : zs.length ≤ 140737488351232) (p : Option Addr) (cap : Nat) (w : World) (hI : Byts w.heap.size w p zs) :
  CallsIn Fence.wide 5 prog 219 #[vI d,.slice p zs.length cap,vB f] w λe W'=>e = .returned (vB (zs.reverse.foldl (Zdq d f) 0)) ∧ Below w.heap.size w W':=by
 have E : Fence.wide.fn 219:=trivial
 have G : Fence.wide.fn 288:=trivial
 have C : Fence.wide.fn 323:=trivial
 refine callsIn_of_wp_marks func219 R E ?_ R
 simp only [ntmps219,List.size_toArray,List.length_cons,List.length_nil,Nat.reduceAdd,Nat.reduceSub,Array.replicate_succ,Array.replicate_zero,List.push_toArray,List.append_toArray,List.nil_append,List.cons_append]
 gi_wp2_with (gi_at_call 288; refine (Zrf Fence.wide 4 G rfl _ _ _ _).mono ?_; rintro e w' ⟨rfl,rfl⟩)
 have bM:=Boxed.new w 170 (vI d)
 have bX:=Boxed.new (w.alloc (.cells #[vI d] 170)) 5 (vB f)
 have bS:=Boxed.new ((w.alloc (.cells #[vI d] 170)).alloc (.cells #[vB f] 5)) 5 (.int .u8 0)
 have bN:=Boxed.new (((w.alloc (.cells #[vI d] 170)).alloc (.cells #[vB f] 5)).alloc (.cells #[.int .u8 0] 5)) 22 (.slice p zs.length cap)
 simp only [World.size_alloc] at bX bS bN
 have m:=((bM.alloc (.cells #[vB f] 5)).alloc (.cells #[.int .u8 0] 5)).alloc (.cells #[.slice p zs.length cap] 22)
 have q:=(bX.alloc (.cells #[.int .u8 0] 5)).alloc (.cells #[.slice p zs.length cap] 22)
 have t:=bS.alloc (.cells #[.slice p zs.length cap] 22)
 have i : Below w.heap.size w ((((w.alloc (.cells #[vI d] 170)).alloc (.cells #[vB f] 5)).alloc (.cells #[.int .u8 0] 5)).alloc (.cells #[.slice p zs.length cap] 22)):=((((Below.refl _ w).alloc (Nat.le_refl _) _).alloc (by simp) _).alloc (by simp; omega) _).alloc (by simp; omega) _
 have hsz : ((((w.alloc (.cells #[vI d] 170)).alloc (.cells #[vB f] 5)).alloc (.cells #[.int .u8 0] 5)).alloc (.cells #[.slice p zs.length cap] 22)).heap.size = w.heap.size + 4:=by simp
 obtain ⟨W0,u⟩ : ∃ W0,((((w.alloc (.cells #[vI d] 170)).alloc (.cells #[vB f] 5)).alloc (.cells #[.int .u8 0] 5)).alloc (.cells #[.slice p zs.length cap] 22)) = W0:=⟨_,R⟩
 rw [u] at m q t bN i hsz ⊢
 clear bM bX bS u
 refine wpIn_rangeFunc_ownG (F:=Fence.wide) (n:=5) R (by omega) (gf:=323) (lb:=#[.pointer (some ⟨w.heap.size + 1 + 1 + 1,0,none⟩)]) R C (enters_of func323 (by kernel_rfl) R)
  (Zis Fence.wide 4 C rfl (by omega) (w.heap.size + 1 + 1 + 1) w.heap.size p cap zs hreach W0 (by omega) (by omega) bN.cell (hI.below i)) (λh k=>h.trans k)
  (λW l o o' hl h ho hw=>⟨belowK_b (w:=W0) (by omega) W l o o' hl h ho hw,World.putObj_heap_other (by omega)⟩) (Below.refl _ _) (λ_=>rfl)
  (λpre W=>(W.cell? ⟨w.heap.size,0,none⟩ = some (vI d) ∧ W.cell? ⟨w.heap.size + 1,0,none⟩ = some (vB f) ∧ Boxed W (w.heap.size + 1 + 1) 5 (vB ((pre.map (·.2)).foldl (Zdq d f) 0)) ∧ w.heap.size + 4 ≤ W.heap.size) ∧ Below w.heap.size w W)
  (λ_ _ _=>False)
  (OwnFrom.and (Own.from (λs A B row hs hg hr=>⟨cell_kept hs.1 hg hr,cell_kept hs.2.1 hg hr,hs.2.2.1.kept hg (λe=>by obtain ⟨o,ho,hc⟩:=hr _ e.symm; rw [show A.heap[w.heap.size + 1 + 1]? = _ from hs.2.2.1] at ho; cases ho; cases hc),Nat.le_trans hs.2.2.2 hg.size⟩) _) (ownFrom_below (Nat.le_refl _) (by omega)))
  (λ_ _ _ _ _ hs _ _=>hs)
  ⟨⟨m.cell,q.cell,t,by omega⟩,i⟩
  (λx=>{ tmps:=#[vI d,.slice p zs.length cap,vB f,.pointer (some ⟨w.heap.size,0,none⟩),undef,.pointer (some ⟨w.heap.size + 1,0,none⟩),.int .u8 0,.pointer (some ⟨w.heap.size + 1 + 1,0,none⟩),undef,vB x.2,.slice p zs.length cap,.func (.func 323) #[] #[.pointer (some ⟨w.heap.size + 1 + 1 + 1,0,none⟩)],.int .i64 x.1,vB x.2,undef,undef,undef,undef,undef,undef,undef],defers:=[] }) ?assign ?body ?done ?stop
 case assign =>
  intro l x W K hK
  gi_wp2
  exact hK
 case body =>
  rintro l pre x W ⟨⟨hm,hx,ho,z⟩,hB⟩ _
  have hout:=ho.cell
  generalize hacc : (pre.map (·.2)).foldl (Zdq d f) 0 = acc at ho hout
  have hcall:=CallsIn.inRound l (n:=2) (callsIn_wide.2 (YR W d acc f _ (kP d acc f)))
  gi_wp2_with (refine ⟨trivial,?_⟩; gi_at_call 289; refine hcall.mono ?_; rintro e W1 ⟨v,rfl,rfl,hk⟩; have j : Boxed W1 (w.heap.size + 1 + 1) 5 (vB acc):=(hk.block _ ho.lt).trans ho; have L:=j.cell; have N:=j.frozen)
  have hxr : ∀ a b : UInt8,Value.int .u8 (bits .xor .u8 a.toNat b.toNat) = vB (a ^^^ b):=λa b=>o_1 (VH a b)
  have y:=KeptB hk hB.size
  have hlt:=ho.lt
  have hle : w.heap.size ≤ w.heap.size + 1 + 1:=by omega
  refine ⟨(KeptF hk _).trans ((KeepsOthers.setCell _ _ _).from _),⟨y.setCell (p:=⟨w.heap.size + 1 + 1,0,none⟩) hle _,?_⟩,⟨?_,?_,?_,?_⟩,(hB.trans y).setCell (p:=⟨w.heap.size + 1 + 1,0,none⟩) hle _⟩
  ·refine (Below.heap_setCell _ _ _ _ (by show _ ≠ w.heap.size + 1 + 1; omega)).trans ?_
   exact hk.block _ (show w.heap.size + 1 + 1 + 1 < W.heap.size by omega)
  ·rw [World.cell?_setCell_other _ _ _ _ (by simp)]
   exact (cell?_of_heap (hk.block _ (show w.heap.size < W.heap.size by omega)) 0).trans hm
  ·rw [World.cell?_setCell_other _ _ _ _ (by simp)]
   exact (cell?_of_heap (hk.block _ (show w.heap.size + 1 < W.heap.size by omega)) 0).trans hx
  ·rw [List.map_append,List.foldl_append,hacc]
   have:=j.set (.int .u8 (bits .xor .u8 (Za0 d acc f).toNat x.2.toNat))
   rw [hxr] at this ⊢
   exact this
  ·have:=hk.size
   simp only [World.setCell,Array.size_modify]
   omega
 case done =>
  rintro D ys W hD rfl ⟨⟨hm,hx,ho,z⟩,hB⟩ hK
  rw [Znd] at ho
  generalize hacc : zs.reverse.foldl (Zdq d f) 0 = acc at ho
  have hout:=ho.cell
  gi_wp2
  refine ⟨by simp,.inl ⟨_,_,rfl,run_takeDeferred hK,?_⟩⟩
  exact ⟨_,results_tmp R _ _ _,by rw [hacc]; rfl,hB.trans (belowK_b (w:=w) (Nat.le_refl _) W D _ _ (by omega) hK R R)⟩
 case stop =>
  rintro D c pre W _ _ h _
  exact h.elim
end
end

end Go.Proofs.YtfhhlkkhcoaapaaGreat
