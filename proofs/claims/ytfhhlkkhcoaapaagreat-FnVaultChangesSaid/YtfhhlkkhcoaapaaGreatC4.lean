/- The walk of what the law reaches: contracts of functions. -/
import Derived.Test.YtfhhlkkhcoaapaaGreatC3
set_option linter.unusedVariables false
set_option linter.unusedSimpArgs false
set_option maxRecDepth 20000
set_option maxHeartbeats 400000
namespace Go.Proofs.YtfhhlkkhcoaapaaGreat
open Go Go.Proofs.Tryz
open Flat (enc)
noncomputable section
theorem Bo (w0 : World) (p0 : List UInt8) (G : Value) (O : Ro w0 p0 [G]) (r : Bool) (J : Un p0 = some r) :
  Calls prog 6 [G].toArray w0 (Rt w0 (vT r)):=by
 refine ce func6 ?_
 intro a H
 have I:=M.start w0
 unfold Un at J
 refine Zb (Zc H R λa H=>Ze (s_2 (Zb (Zd H R λa H=>?_))))
 obtain ⟨r1,e2,J⟩:=p_1 J
 refine c_k H I R (cbm func7) (Zec _ p0 G (I.rdo O) r1 e2) λw a I H=>?_
 refine Ze ?_
 refine c_if H R J ?_ ?_
 ·intro c7 J
  refine Zb (Zc H R λa H=>Ze ?_)
  obtain rfl:=o_1 J
  exact p_3 (ZJ (kr1 H R R I.kept))
 intro c7 J
 refine u_2 (ZA (Zb (Zd H R λa H=>?_)))
 obtain ⟨r4,e5,J⟩:=p_1 J
 refine Zp H R (cbm func57) (Bt _ p0 G (I.rdo O) r4 e5) ?_
 rintro v w a ⟨u6,u7,u8,rfl,hFr,hK⟩ H
 have I:=I.add hK hFr
 refine Zd H R λa H=>ZF H Za ld R R λa H=>ZF H Za ld R R λa H=>Zv H I ZG λb9 w a I H=>Zl (seg:=cV u6 u7 u8 r4.1) (cs':=cV u6 u7 u8 r4.1) H I Za R R R ZG cq (q_1 cq cq) (ZD (cc1 (t_2 (I.sl1)) (cc1 (s_1 (r4.1.Next : Int)) (cc1 (t_2 (I.sl2)) (cc1 (t_2 (I.sl3)) (cc1 (s_1 _) cc0)))))) (q_2 cq cq) λw a I H=>Zc H R λa H=>Ze (Zb (Zq H R ZG R I.ra0 cq λa H=>Zd H R λa H=>?_))
 obtain ⟨bn,c8,J⟩:=p_1 J
 refine Zp H R (cbm func43) (zH _ r4.1 u6 (I.sl1) u7 (I.sl2) u8 (I.sl3) r4.2 bn c8) ?_
 rintro v w a ⟨c9,rfl,hFr,hK⟩ H
 have I:=I.add hK hFr
 refine Zd H R λa H=>ZF H Za ld R R λa H=>ZF H Za ld R R λa H=>Zc H R λa H=>Zc H R λa H=>Ze (Zb (Zq H R ZG R I.ra1 cq λa H=>Zd H R λa H=>?_))
 obtain ⟨bo,da,J⟩:=p_1 J
 refine Zp H R (cbm func58) (Hd _ r4.1 u6 (I.sl2) u7 (I.sl3) u8 (I.sl4) r4.2 bo da) ?_
 rintro v w a ⟨db,rfl,hFr,hK⟩ H
 have I:=I.add hK hFr
 refine Zd H R λa H=>ZF H Za ld R R λa H=>ZF H Za ld R R λa H=>Zc H R λa H=>Zc H R λa H=>Ze (Zb (Zq H R ZG R I.ra2 cq λa H=>Zd H R λa H=>?_))
 obtain ⟨ap,dc,J⟩:=p_1 J
 refine Zp H R (cbm func55) (ye _ r4.1 u6 (I.sl3) u7 (I.sl4) u8 (I.sl5) r4.2 ap dc) ?_
 rintro v w a ⟨bp,bq,br,rfl,hFr,hK⟩ H
 have I:=I.add hK hFr
 refine Zd H R λa H=>ZF H Za ld R R λa H=>ZF H Za ld R R λa H=>Zv H I ZG λd2 w a I H=>Zl (seg:=cV bp bq br ap.1) (cs':=cV bp bq br ap.1) H I Za R R R ZG cq (q_1 cq cq) (ZD (cc1 (t_2 (I.sl1)) (cc1 (s_1 (ap.1.Next : Int)) (cc1 (t_2 (I.sl2)) (cc1 (t_2 (I.sl3)) (cc1 (s_1 _) cc0)))))) (q_2 cq cq) λw a I H=>Zc H R λa H=>Ze (Zb (Zq H R ZG R I.ra6 cq λa H=>Zd H R λa H=>?_))
 obtain ⟨aq,dd,J⟩:=p_1 J
 refine Zp H R (cbm func59) (Hj _ r4.1 u6 (I.sl7) u7 (I.sl (pre:=[_,_,_,_,_,_,_,_]) noB) u8 (I.sl (pre:=[_,_,_,_,_,_,_,_,_]) noB) r4.2 aq dd) ?_
 rintro v w a ⟨bs,bt,bu,rfl,hFr,hK⟩ H
 have I:=I.add hK hFr
 refine Zd H R λa H=>ZF H Za ld R R λa H=>ZF H Za ld R R λa H=>Zv H I ZG λd3 w a I H=>Zl (seg:=cV bs bt bu aq.1) (cs':=cV bs bt bu aq.1) H I Za R R R ZG cq (q_1 cq cq) (ZD (cc1 (t_2 (I.sl1)) (cc1 (s_1 (aq.1.Next : Int)) (cc1 (t_2 (I.sl2)) (cc1 (t_2 (I.sl3)) (cc1 (s_1 _) cc0)))))) (q_2 cq cq) λw a I H=>Zc H R λa H=>Ze (Zb (Zq H R ZG R I.ra10 cq λa H=>Zd H R λa H=>?_))
 obtain ⟨a6,de,J⟩:=p_1 J
 refine c_k H I R (cbm func56) (A9 _ r4.1 u6 (I.sl (pre:=[_,_,_,_,_,_,_,_,_,_,_]) noB) u7 (I.sl (pre:=[_,_,_,_,_,_,_,_,_,_,_,_]) noB) u8 (I.sl (pre:=[_,_,_,_,_,_,_,_,_,_,_,_,_]) noB) r4.2 a6 de) λw a I H=>?_
 refine Zd H R λa H=>ZF H Za ld R R λa H=>ZF H Za ld R R λa H=>Zv H I ZW λd4 w a I H=>Zl (seg:=enc a6.1) (cs':=enc a6.1) H I Za R R R ZW (u_1 _) (zle flq) (s_1 _) (Zh flq) λw a I H=>Zc H R λa H=>Ze (Zb (Zq H R ZG R I.ra11 cq λa H=>Zd H R λa H=>?_))
 obtain ⟨a7,dg,J⟩:=p_1 J
 refine c_k H I R (cbm func60) (AU _ r4.1 u6 (I.sl (pre:=[_,_,_,_,_,_,_,_,_,_,_,_]) noB) u7 (I.sl (pre:=[_,_,_,_,_,_,_,_,_,_,_,_,_]) noB) u8 (I.sl (pre:=[_,_,_,_,_,_,_,_,_,_,_,_,_,_]) noB) r4.2 a7 dg) λw a I H=>?_
 refine Zd H R λa H=>ZF H Za ld R R λa H=>ZF H Za ld R R λa H=>Zv H I ZW λd5 w a I H=>Zl (seg:=enc a7.1) (cs':=enc a7.1) H I Za R R R ZW (u_1 _) (zle flq) (s_1 _) (Zh flq) λw a I H=>Zc H R λa H=>Ze (s_2 ?_)
 obtain ⟨dh,d,q⟩:=p_1 J
 refine ZI (λa w=>Env 309 a [(0,G),(126,vT dh)] ∧ M (Old w0) w0 w []) ?_ ?_
 ·refine t_1 (Zd H R λa H=>Zd H R λa H=>Zn H R R R λa H=>Zd H R λa H=>?_)
  refine Yj (bn.2 != bo.2) (λB=>?_) (λB=>?_)
  ·have d:=Zt d B
   refine k_s H B R R R λa H=>k_s H B R R R λa H=>k_s H B R R R λa H=>k_s H B R R R λa H=>ZH H (lkb R B) R λa H=>Zd H R λa H=>Zf H R R R dd_ λa H=>Zf H R R R dd_ λa H=>Zf H R R R dd_ λa H=>ZH H R R λa H=>Zd H R λa H=>Zf H R R R dd_ λa H=>?_
   refine Zf H R R R dd_ λa H=>Zf H R R R dd_ λa H=>Zf H R R R dd_ λa H=>ZH H R R λa H=>Zd H R λa H=>Zf H R R R dd_ λa H=>Zf H R R R dd_ λa H=>Zf H R R R dd_ λa H=>ZH H R R λa H=>Zd H R λa H=>Zf H R R R dd_ λa H=>Zf H R R R dd_ λa H=>?_
   refine Zf H R R R dd_ λa H=>ZH H R R λa H=>Zj ?_
   obtain rfl:=o_1 d
   refine Zk ?_
   have I:=M.fst (l:=[]) I
   exact ⟨H.s,I⟩
  have d:=Zs d B
  refine Zo H (Zg H R (lkb R B)) dd_ R λa H=>Zo H (Zg H R (lkb R B)) dd_ R λa H=>?_
  obtain ⟨b7,di,d⟩:=p_1 d
  refine Z8 H (Zg H R (lkb R B)) dd_ R cb50 (Hr _ bn.1 c9 (I.sl (pre:=[_,_,_,_,_,_,_,_,_,_,_]) noB) bo.1 db (I.sl (pre:=[_,_,_,_,_,_,_,_,_,_]) noB) b7 di) ?_
  rintro v w a ⟨rfl,hK⟩ H
  have I:=I.keep hK
  refine KG H (Zg H R (lkb R B)) dd_ R λa H=>Z2 H (lkb R B) R λa H=>Zd H R λa H=>?_
  refine Yj (!b7) (λK=>?_) (λK=>?_)
  ·have d:=Zt d K
   refine k_s H K R R R λa H=>k_s H K R R R λa H=>k_s H K R R R λa H=>ZH H (lkb R K) R λa H=>Zd H R λa H=>Zf H R R R dd_ λa H=>Zf H R R R dd_ λa H=>Zf H R R R dd_ λa H=>Zf H R R R dd_ λa H=>ZH H R R λa H=>Zd H R λa H=>Zf H R R R dd_ λa H=>?_
   refine Zf H R R R dd_ λa H=>Zf H R R R dd_ λa H=>ZH H R R λa H=>Zd H R λa H=>Zf H R R R dd_ λa H=>Zf H R R R dd_ λa H=>Zf H R R R dd_ λa H=>ZH H R R λa H=>Zj ?_
   obtain rfl:=o_1 d
   refine Zk ?_
   have I:=M.fst (l:=[]) I
   exact ⟨H.s,I⟩
  have d:=Zs d K
  refine Zo H (Zg H R (lkb R K)) dd_ R λa H=>Zo H (Zg H R (lkb R K)) dd_ R λa H=>Yc H (Zg H R (lkb R K)) dd_ R R R λa H=>Z2 H (lkb R K) R λa H=>Zd H R λa H=>?_
  refine Yj (ap.2 != aq.2) (λC=>?_) (λC=>?_)
  ·have d:=Zt d C
   refine k_s H C R R R λa H=>k_s H C R R R λa H=>k_s H C R R R λa H=>k_s H C R R R λa H=>ZH H (lkb R C) R λa H=>Zd H R λa H=>Zf H R R R dd_ λa H=>Zf H R R R dd_ λa H=>Zf H R R R dd_ λa H=>ZH H R R λa H=>Zd H R λa H=>Zf H R R R dd_ λa H=>?_
   refine Zf H R R R dd_ λa H=>Zf H R R R dd_ λa H=>ZH H R R λa H=>Zj ?_
   obtain rfl:=o_1 d
   refine Zk ?_
   have I:=M.fst (l:=[]) I
   exact ⟨H.s,I⟩
  have d:=Zs d C
  refine Zx H (Zg H R (lkb R C)) dd_ R ZG R I.ra6 cq λa H=>Zx H (Zg H R (lkb R C)) dd_ R ZG R I.ra2 cq λa H=>?_
  obtain ⟨b8,dj,d⟩:=p_1 d
  refine Z8 H (Zg H R (lkb R C)) dd_ R cb47 (Hv _ ap.1 bp (I.sl7) bq (I.sl (pre:=[_,_,_,_,_,_,_,_]) noB) br (I.sl (pre:=[_,_,_,_,_,_,_,_,_]) noB) aq.1 bs (I.sl3) bt (I.sl4) bu (I.sl5) b8 dj) ?_
  rintro v w a ⟨rfl,hK⟩ H
  have I:=I.keep hK
  refine KG H (Zg H R (lkb R C)) dd_ R λa H=>Z2 H (lkb R C) R λa H=>Zd H R λa H=>?_
  refine Yj (!b8) (λL=>?_) (λL=>?_)
  ·have d:=Zt d L
   refine k_s H L R R R λa H=>k_s H L R R R λa H=>k_s H L R R R λa H=>ZH H (lkb R L) R λa H=>Zd H R λa H=>Zf H R R R dd_ λa H=>Zf H R R R dd_ λa H=>Zf H R R R dd_ λa H=>ZH H R R λa H=>Zj ?_
   obtain rfl:=o_1 d
   refine Zk ?_
   have I:=M.fst (l:=[]) I
   exact ⟨H.s,I⟩
  have d:=Zs d L
  refine Zo H (Zg H R (lkb R L)) dd_ R λa H=>Zo H (Zg H R (lkb R L)) dd_ R λa H=>Yc H (Zg H R (lkb R L)) dd_ R R R λa H=>Z2 H (lkb R L) R λa H=>Zd H R λa H=>?_
  refine Yj (a6.2 != a7.2) (λN=>?_) (λN=>?_)
  ·have d:=Zt d N
   refine k_s H N R R R λa H=>k_s H N R R R λa H=>k_s H N R R R λa H=>ZH H (lkb R N) R λa H=>Zj ?_
   obtain rfl:=o_1 d
   refine Zk ?_
   have I:=M.fst (l:=[]) I
   exact ⟨H.s,I⟩
  have d:=Zs d N
  refine Zx H (Zg H R (lkb R N)) dd_ R ZW R I.ra1 (u_1 _) λa H=>Zx H (Zg H R (lkb R N)) dd_ R ZW R I.ra0 (u_1 _) λa H=>Jx H (Zg H R (lkb R N)) dd_ R R (XX t_4 ty5 R false R dd_ (Xp u_3)) dd_ (by kernel_rfl) λa H=>Z2 H (lkb R N) R λa H=>Zj ?_
  obtain rfl:=o_1 d
  refine Zk ?_
  have I:=M.fst (l:=[]) I
  exact ⟨H.s,I⟩
 rintro a w ⟨H,I⟩
 refine c_if H R q ?_ ?_
 ·intro ca q
  refine Zb (Zc H R λa H=>Ze ?_)
  obtain rfl:=o_1 q
  exact p_3 (ZJ (kr1 H R R I.kept))
 intro ca q
 refine u_2 (ZA (Zb (Zd H R λa H=>?_)))
 obtain ⟨ac,dk,q⟩:=p_1 q
 refine Zp H R (cbm func61) (B5 _ p0 G (I.rdo O) ac dk) ?_
 rintro v w a ⟨a8,a9,ba,rfl,hFr,hK⟩ H
 have I:=I.add hK hFr
 refine Zd H R λa H=>ZF H Za ld R R λa H=>ZF H Za ld R R λa H=>Zv H I ZG λd6 w a I H=>Zv H I ZL λd7 w a I H=>?_
 have I:=I.pl1
 refine Zl (seg:=cV a8 a9 ba ac.1) (cs':=cV a8 a9 ba ac.1) H I Za R R R ZG cq (q_1 cq cq) (ZD (cc1 (t_2 (I.sl2)) (cc1 (s_1 (ac.1.Next : Int)) (cc1 (t_2 (I.sl3)) (cc1 (t_2 (I.sl4)) (cc1 (s_1 _) cc0)))))) (q_2 cq cq) λw a I H=>?_
 have I:=I.pl1
 refine Zl (seg:=enc ac.2) (cs':=enc ac.2) H I Za R R R ZL (u_1 _) (zle flq) (s_1 _) (Zh flq) λw a I H=>Ze (Zb (Zq H R ZG R I.ra1 cq λa H=>Zq H R ZL R I.ra0 (u_1 _) λa H=>?_))
 obtain ⟨A,dl,q⟩:=p_1 q
 refine Zp H R (cbm func41) (yB _ ac.1 a8 (I.sl2) a9 (I.sl3) ba (I.sl4) ac.2 A dl) ?_
 rintro v w a ⟨X,Y,Z,rfl,hFr,hK⟩ H
 have I:=I.add hK hFr
 refine Zd H R λa H=>ZF H Za ld R R λa H=>ZF H Za ld R R λa H=>Zv H I ZG λbb w a I H=>Zl (seg:=cV X Y Z A.1) (cs':=cV X Y Z A.1) H I Za R R R ZG cq (q_1 cq cq) (ZD (cc1 (t_2 (I.sl1)) (cc1 (s_1 (A.1.Next : Int)) (cc1 (t_2 (I.sl2)) (cc1 (t_2 (I.sl3)) (cc1 (s_1 _) cc0)))))) (q_2 cq cq) λw a I H=>Zc H R λa H=>Ze (Zb (Zq H R ZG R I.ra5 cq λa H=>Zq H R ZL R I.ra4 (u_1 _) λa H=>?_))
 obtain ⟨ar,dm,q⟩:=p_1 q
 refine Zp H R (cbm func62) (HL _ ac.1 a8 (I.sl6) a9 (I.sl7) ba (I.sl (pre:=[_,_,_,_,_,_,_,_]) noB) ac.2 ar dm) ?_
 rintro v w a ⟨bv,bw,bx,rfl,hFr,hK⟩ H
 have I:=I.add hK hFr
 refine Zd H R λa H=>ZF H Za ld R R λa H=>ZF H Za ld R R λa H=>Zv H I ZG λd8 w a I H=>Zl (seg:=cV bv bw bx ar.1) (cs':=cV bv bw bx ar.1) H I Za R R R ZG cq (q_1 cq cq) (ZD (cc1 (t_2 (I.sl1)) (cc1 (s_1 (ar.1.Next : Int)) (cc1 (t_2 (I.sl2)) (cc1 (t_2 (I.sl3)) (cc1 (s_1 _) cc0)))))) (q_2 cq cq) λw a I H=>Zc H R λa H=>Ze (Zb (Zd H R λa H=>?_))
 obtain ⟨W,dp,q⟩:=p_1 q
 refine Zp H R (cbm func63) (Aq _ p0 G (I.rdo O) W dp) ?_
 rintro v w a ⟨u83,u84,u85,rfl,hFr,hK⟩ H
 have I:=I.add hK hFr
 refine Zd H R λa H=>ZF H Za ld R R λa H=>ZF H Za ld R R λa H=>ZF H Za ld R R λa H=>Zv H I ZG λd9 w a I H=>Zv H I ZL λea w a I H=>?_
 have I:=I.pl1
 refine Zl (seg:=cV u83 u84 u85 W.1) (cs':=cV u83 u84 u85 W.1) H I Za R R R ZG cq (q_1 cq cq) (ZD (cc1 (t_2 (I.sl2)) (cc1 (s_1 (W.1.Next : Int)) (cc1 (t_2 (I.sl3)) (cc1 (t_2 (I.sl4)) (cc1 (s_1 _) cc0)))))) (q_2 cq cq) λw a I H=>Zc H R λa H=>?_
 have I:=I.pl1
 refine Zl (seg:=enc W.2.2) (cs':=enc W.2.2) H I Za R R R ZL (u_1 _) (zle flq) (s_1 _) (Zh flq) λw a I H=>Ze (Zb (Zq H R ZG R I.ra1 cq λa H=>Zd H R λa H=>Zq H R ZL R I.ra0 (u_1 _) λa H=>?_))
 obtain ⟨au,dq,q⟩:=p_1 q
 refine Zp H R (cbm func42) (jd _ W.1 u83 (I.sl2) u84 (I.sl3) u85 (I.sl4) W.2.1 W.2.2 au dq) ?_
 rintro v w a ⟨bz,b0,b1,rfl,hFr,hK⟩ H
 have I:=I.add hK hFr
 refine Zd H R λa H=>ZF H Za ld R R λa H=>ZF H Za ld R R λa H=>Zv H I ZG λeb w a I H=>Zl (seg:=cV bz b0 b1 au.1) (cs':=cV bz b0 b1 au.1) H I Za R R R ZG cq (q_1 cq cq) (ZD (cc1 (t_2 (I.sl1)) (cc1 (s_1 (au.1.Next : Int)) (cc1 (t_2 (I.sl2)) (cc1 (t_2 (I.sl3)) (cc1 (s_1 _) cc0)))))) (q_2 cq cq) λw a I H=>Zc H R λa H=>Ze (Zb (Zq H R ZG R I.ra5 cq λa H=>Zd H R λa H=>Zq H R ZL R I.ra4 (u_1 _) λa H=>?_))
 obtain ⟨av,dr,q⟩:=p_1 q
 refine Zp H R (cbm func64) (Bb _ W.1 u83 (I.sl6) u84 (I.sl7) u85 (I.sl (pre:=[_,_,_,_,_,_,_,_]) noB) W.2.1 W.2.2 av dr) ?_
 rintro v w a ⟨b2,aw,ax,rfl,hFr,hK⟩ H
 have I:=I.add hK hFr
 refine Zd H R λa H=>ZF H Za ld R R λa H=>ZF H Za ld R R λa H=>Zv H I ZG λds w a I H=>Zl (seg:=cV b2 aw ax av.1) (cs':=cV b2 aw ax av.1) H I Za R R R ZG cq (q_1 cq cq) (ZD (cc1 (t_2 (I.sl1)) (cc1 (s_1 (av.1.Next : Int)) (cc1 (t_2 (I.sl2)) (cc1 (t_2 (I.sl3)) (cc1 (s_1 _) cc0)))))) (q_2 cq cq) λw a I H=>Zc H R λa H=>Ze (s_2 ?_)
 obtain ⟨cb,e,c⟩:=p_1 q
 refine ZI (λa w=>Env 309 a [(0,G),(19,ptr bb 0),(20,vI A.2),(183,vT cb)] ∧ M (Old w0) w0 w [raw bb (cV X Y Z A.1),osl NoB A.1.Keys X,osl NoB A.1.Records Y,osl NoB A.1.Events Z]) ?_ ?_
 ·refine t_1 (Zd H R λa H=>Zd H R λa H=>Zn H R R R λa H=>Zd H R λa H=>?_)
  refine Yj (A.2 != ar.2) (λi=>?_) (λi=>?_)
  ·have e:=Zt e i
   refine k_s H i R R R λa H=>k_s H i R R R λa H=>k_s H i R R R λa H=>k_s H i R R R λa H=>ZH H (lkb R i) R λa H=>Zd H R λa H=>Zf H R R R dd_ λa H=>Zf H R R R dd_ λa H=>Zf H R R R dd_ λa H=>ZH H R R λa H=>Zd H R λa H=>Zf H R R R dd_ λa H=>?_
   refine Zf H R R R dd_ λa H=>Zf H R R R dd_ λa H=>Zf H R R R dd_ λa H=>ZH H R R λa H=>Zj ?_
   obtain rfl:=o_1 e
   refine Zk ?_
   have I:=(((I.pl (pre:=[_,_,_,_,_,_,_,_,_,_,_,_,_,_,_,_,_,_,_,_])).pl (pre:=[_,_,_,_,_,_,_,_,_,_,_,_,_,_,_,_,_,_,_,_])).pl (pre:=[_,_,_,_,_,_,_,_,_,_,_,_,_,_,_,_,_,_,_,_])).pl (pre:=[_,_,_,_,_,_,_,_,_,_,_,_,_,_,_,_,_,_,_,_])
   have I:=M.fst (l:=[_,_,_,_]) I
   exact ⟨H.s,I⟩
  have e:=Zs e i
  refine Zx H (Zg H R (lkb R i)) dd_ R ZG R (I.ra (pre:=[_,_,_,_,_,_,_,_,_,_,_,_,_,_,_,_,_])) cq λa H=>Zx H (Zg H R (lkb R i)) dd_ R ZG R I.ra13 cq λa H=>?_
  obtain ⟨be,cc,e⟩:=p_1 e
  refine Z8 H (Zg H R (lkb R i)) dd_ R cb47 (Hv _ A.1 X (I.sl (pre:=[_,_,_,_,_,_,_,_,_,_,_,_,_,_,_,_,_,_]) noB) Y (I.sl (pre:=[_,_,_,_,_,_,_,_,_,_,_,_,_,_,_,_,_,_,_]) noB) Z (I.sl (pre:=[_,_,_,_,_,_,_,_,_,_,_,_,_,_,_,_,_,_,_,_]) noB) ar.1 bv (I.sl (pre:=[_,_,_,_,_,_,_,_,_,_,_,_,_,_]) noB) bw (I.sl (pre:=[_,_,_,_,_,_,_,_,_,_,_,_,_,_,_]) noB) bx (I.sl (pre:=[_,_,_,_,_,_,_,_,_,_,_,_,_,_,_,_]) noB) be cc) ?_
  rintro v w a ⟨rfl,hK⟩ H
  have I:=I.keep hK
  refine KG H (Zg H R (lkb R i)) dd_ R λa H=>Z2 H (lkb R i) R λa H=>Zd H R λa H=>?_
  refine Yj (!be) (λt=>?_) (λt=>?_)
  ·have e:=Zt e t
   refine k_s H t R R R λa H=>k_s H t R R R λa H=>k_s H t R R R λa H=>ZH H (lkb R t) R λa H=>Zd H R λa H=>Zf H R R R dd_ λa H=>Zf H R R R dd_ λa H=>Zf H R R R dd_ λa H=>Zf H R R R dd_ λa H=>ZH H R R λa H=>Zj ?_
   obtain rfl:=o_1 e
   refine Zk ?_
   have I:=(((I.pl (pre:=[_,_,_,_,_,_,_,_,_,_,_,_,_,_,_,_,_,_,_,_])).pl (pre:=[_,_,_,_,_,_,_,_,_,_,_,_,_,_,_,_,_,_,_,_])).pl (pre:=[_,_,_,_,_,_,_,_,_,_,_,_,_,_,_,_,_,_,_,_])).pl (pre:=[_,_,_,_,_,_,_,_,_,_,_,_,_,_,_,_,_,_,_,_])
   have I:=M.fst (l:=[_,_,_,_]) I
   exact ⟨H.s,I⟩
  have e:=Zs e t
  refine Zo H (Zg H R (lkb R t)) dd_ R λa H=>Zo H (Zg H R (lkb R t)) dd_ R λa H=>Yc H (Zg H R (lkb R t)) dd_ R R R λa H=>Z2 H (lkb R t) R λa H=>Zd H R λa H=>?_
  refine Yj (au.2 != av.2) (λj=>?_) (λj=>?_)
  ·have e:=Zt e j
   refine k_s H j R R R λa H=>k_s H j R R R λa H=>k_s H j R R R λa H=>k_s H j R R R λa H=>ZH H (lkb R j) R λa H=>Zj ?_
   obtain rfl:=o_1 e
   refine Zk ?_
   have I:=(((I.pl (pre:=[_,_,_,_,_,_,_,_,_,_,_,_,_,_,_,_,_,_,_,_])).pl (pre:=[_,_,_,_,_,_,_,_,_,_,_,_,_,_,_,_,_,_,_,_])).pl (pre:=[_,_,_,_,_,_,_,_,_,_,_,_,_,_,_,_,_,_,_,_])).pl (pre:=[_,_,_,_,_,_,_,_,_,_,_,_,_,_,_,_,_,_,_,_])
   have I:=M.fst (l:=[_,_,_,_]) I
   exact ⟨H.s,I⟩
  have e:=Zs e j
  refine Zx H (Zg H R (lkb R j)) dd_ R ZG R I.ra4 cq λa H=>Zx H (Zg H R (lkb R j)) dd_ R ZG R I.ra0 cq λa H=>?_
  obtain ⟨cd,cf,e⟩:=p_1 e
  refine Z8 H (Zg H R (lkb R j)) dd_ R cb47 (Hv _ au.1 bz (I.sl5) b0 (I.sl6) b1 (I.sl7) av.1 b2 (I.sl1) aw (I.sl2) ax (I.sl3) cd cf) ?_
  rintro v w a ⟨rfl,hK⟩ H
  have I:=I.keep hK
  refine KG H (Zg H R (lkb R j)) dd_ R λa H=>Z2 H (lkb R j) R λa H=>Zj ?_
  obtain rfl:=o_1 e
  refine Zk ?_
  have I:=(((I.pl (pre:=[_,_,_,_,_,_,_,_,_,_,_,_,_,_,_,_,_,_,_,_])).pl (pre:=[_,_,_,_,_,_,_,_,_,_,_,_,_,_,_,_,_,_,_,_])).pl (pre:=[_,_,_,_,_,_,_,_,_,_,_,_,_,_,_,_,_,_,_,_])).pl (pre:=[_,_,_,_,_,_,_,_,_,_,_,_,_,_,_,_,_,_,_,_])
  have I:=M.fst (l:=[_,_,_,_]) I
  exact ⟨H.s,I⟩
 rintro a w ⟨H,I⟩
 refine c_if H R c ?_ ?_
 ·intro b3 c
  refine Zb (Zc H R λa H=>Ze ?_)
  obtain rfl:=o_1 c
  exact p_3 (ZJ (kr1 H R R I.kept))
 intro b3 c
 refine u_2 (ZA (Zb (Zd H R λa H=>?_)))
 obtain ⟨T,cg,c⟩:=p_1 c
 refine Zp H R (cbm func65) (As _ p0 G (I.rdo O) T cg) ?_
 rintro v w a ⟨ad,ae,af,rfl,hFr,hK⟩ H
 have I:=I.add hK hFr
 refine Zv H I ZG λdt w a I H=>Zl (seg:=cV ad ae af T) (cs':=cV ad ae af T) H I Za R R R ZG cq (q_1 cq cq) (ZD (cc1 (t_2 (I.sl1)) (cc1 (s_1 (T.Next : Int)) (cc1 (t_2 (I.sl2)) (cc1 (t_2 (I.sl3)) (cc1 (s_1 _) cc0)))))) (q_2 cq cq) λw a I H=>Ze (Zb (Zq H R ZG R I.ra0 cq λa H=>?_))
 obtain ⟨ay,ch,c⟩:=p_1 c
 refine Zp H R (cbm func44) (jn _ T ad (I.sl1) ae (I.sl2) af (I.sl3) ay ch) ?_
 rintro v w a ⟨ci,rfl,hFr,hK⟩ H
 have I:=I.add hK hFr
 refine Zd H R λa H=>ZF H Za ld R R λa H=>ZF H Za ld R R λa H=>Zc H R λa H=>Zc H R λa H=>Ze (Zb (Zq H R ZG R I.ra1 cq λa H=>?_))
 obtain ⟨az,cj,c⟩:=p_1 c
 refine Zp H R (cbm func66) (ju _ T ad (I.sl2) ae (I.sl3) af (I.sl4) az cj) ?_
 rintro v w a ⟨cl,rfl,hFr,hK⟩ H
 have I:=I.add hK hFr
 refine Zd H R λa H=>ZF H Za ld R R λa H=>ZF H Za ld R R λa H=>Zc H R λa H=>Zc H R λa H=>Ze (Zb (Zq H R ZG R I.ra2 cq λa H=>?_))
 obtain ⟨a0,cm,c⟩:=p_1 c
 refine Zp H R (cbm func67) (Hn _ T ad (I.sl3) ae (I.sl4) af (I.sl5) a0 cm) ?_
 rintro v w a ⟨cn,rfl,hFr,hK⟩ H
 have I:=I.add hK hFr
 refine Zd H R λa H=>ZF H Za ld R R λa H=>ZF H Za ld R R λa H=>Zc H R λa H=>Zc H R λa H=>Ze (Zb (Zq H R ZG R I.ra3 cq λa H=>?_))
 obtain ⟨a1,co,c⟩:=p_1 c
 refine Zp H R (cbm func68) (zI _ T ad (I.sl4) ae (I.sl5) af (I.sl6) a1 co) ?_
 rintro v w a ⟨cp,rfl,hFr,hK⟩ H
 have I:=I.add hK hFr
 refine Zd H R λa H=>ZF H Za ld R R λa H=>ZF H Za ld R R λa H=>Zc H R λa H=>Zc H R λa H=>Ze (Zb (Zd H R λa H=>?_))
 obtain ⟨U,cr,c⟩:=p_1 c
 refine Zp H R (cbm func69) (Ha _ p0 G (I.rdo O) U cr) ?_
 rintro v w a ⟨ak,al,am,bg,rfl,hFr,hK⟩ H
 have I:=I.add hK hFr
 refine Zd H R λa H=>ZF H Za ld R R λa H=>ZF H Za ld R R λa H=>Zv H I ZG λdu w a I H=>Zl (seg:=cV ak al am U.1) (cs':=cV ak al am U.1) H I Za R R R ZG cq (q_1 cq cq) (ZD (cc1 (t_2 (I.sl1)) (cc1 (s_1 (U.1.Next : Int)) (cc1 (t_2 (I.sl2)) (cc1 (t_2 (I.sl3)) (cc1 (s_1 _) cc0)))))) (q_2 cq cq) λw a I H=>Zc H R λa H=>Ze (Zb (Zq H R ZG R I.ra0 cq λa H=>Zd H R λa H=>?_))
 obtain ⟨a2,cs,c⟩:=p_1 c
 refine Zp H R (cbm func70) (Bp _ U.1 ak (I.sl1) al (I.sl2) am (I.sl3) U.2 bg (I.sl4) a2 cs) ?_
 rintro v w a ⟨ct,rfl,hFr,hK⟩ H
 have I:=I.add hK hFr
 refine Zd H R λa H=>ZF H Za ld R R λa H=>ZF H Za ld R R λa H=>Zc H R λa H=>Zc H R λa H=>Ze (Zb (Zq H R ZG R I.ra1 cq λa H=>Zd H R λa H=>?_))
 obtain ⟨a3,cu,c⟩:=p_1 c
 refine Zp H R (cbm func71) (Br _ U.1 ak (I.sl2) al (I.sl3) am (I.sl4) U.2 bg (I.sl5) a3 cu) ?_
 rintro v w a ⟨cv,rfl,hFr,hK⟩ H
 have I:=I.add hK hFr
 refine Zd H R λa H=>ZF H Za ld R R λa H=>ZF H Za ld R R λa H=>Zc H R λa H=>Zc H R λa H=>Ze (Zb (Zd H R λa H=>?_))
 obtain ⟨a4,cw,c⟩:=p_1 c
 refine Zp H R (cbm func72) (HD _ p0 G (I.rdo O) a4 cw) ?_
 rintro bh w a ⟨_,rfl,hFr,hK⟩ H
 have I:=I.add hK hFr
 refine Zc H R λa H=>Ze (Zb (Zd H R λa H=>?_))
 obtain ⟨an,cx,c⟩:=p_1 c
 refine c_k H I R (cbm func73) (JC _ a4 bh (I.sl0) an cx) λw a I H=>?_
 refine Zd H R λa H=>ZF H Za ld R R λa H=>ZF H Za ld R R λa H=>Zv H I ZW λdv w a I H=>Zl (seg:=enc an.1) (cs':=enc an.1) H I Za R R R ZW (u_1 _) (zle flq) (s_1 _) (Zh flq) λw a I H=>Zc H R λa H=>Ze (Zb (Zd H R λa H=>?_))
 obtain ⟨ao,cy,c⟩:=p_1 c
 refine c_k H I R (cbm func74) (Al _ a4 bh (I.sl1) ao cy) λw a I H=>?_
 refine Zd H R λa H=>ZF H Za ld R R λa H=>ZF H Za ld R R λa H=>Zv H I ZW λdw w a I H=>Zl (seg:=enc ao.1) (cs':=enc ao.1) H I Za R R R ZW (u_1 _) (zle flq) (s_1 _) (Zh flq) λw a I H=>Zc H R λa H=>Ze (s_2 ?_)
 obtain ⟨cz,b,aa⟩:=p_1 c
 refine ZI (λa w=>Env 309 a [(19,ptr bb 0),(20,vI A.2),(275,vT cz)] ∧ M (Old w0) w0 w [raw bb (cV X Y Z A.1),osl NoB A.1.Keys X,osl NoB A.1.Records Y,osl NoB A.1.Events Z]) ?_ ?_
 ·refine t_1 (Zd H R λa H=>Zd H R λa H=>Zn H R R R λa H=>Zd H R λa H=>?_)
  refine Yj (ay.2 != az.2) (λk=>?_) (λk=>?_)
  ·have b:=Zt b k
   refine k_s H k R R R λa H=>k_s H k R R R λa H=>k_s H k R R R λa H=>k_s H k R R R λa H=>ZH H (lkb R k) R λa H=>Zd H R λa H=>Zf H R R R dd_ λa H=>Zf H R R R dd_ λa H=>Zf H R R R dd_ λa H=>ZH H R R λa H=>Zd H R λa H=>Zf H R R R dd_ λa H=>?_
   refine Zf H R R R dd_ λa H=>Zf H R R R dd_ λa H=>Zf H R R R dd_ λa H=>ZH H R R λa H=>Zd H R λa H=>Zf H R R R dd_ λa H=>Zf H R R R dd_ λa H=>Zf H R R R dd_ λa H=>ZH H R R λa H=>Zd H R λa H=>Zf H R R R dd_ λa H=>Zf H R R R dd_ λa H=>?_
   refine Zf H R R R dd_ λa H=>Zf H R R R dd_ λa H=>ZH H R R λa H=>Zd H R λa H=>Zf H R R R dd_ λa H=>Zf H R R R dd_ λa H=>Zf H R R R dd_ λa H=>ZH H R R λa H=>Zd H R λa H=>Zf H R R R dd_ λa H=>Zf H R R R dd_ λa H=>Zf H R R R dd_ λa H=>?_
   refine ZH H R R λa H=>Zj ?_
   obtain rfl:=o_1 b
   refine Zk ?_
   have I:=(((I.pl (pre:=[_,_,_,_,_,_,_,_,_,_,_,_,_,_,_,_,_,_,_,_,_])).pl (pre:=[_,_,_,_,_,_,_,_,_,_,_,_,_,_,_,_,_,_,_,_,_])).pl (pre:=[_,_,_,_,_,_,_,_,_,_,_,_,_,_,_,_,_,_,_,_,_])).pl (pre:=[_,_,_,_,_,_,_,_,_,_,_,_,_,_,_,_,_,_,_,_,_])
   have I:=M.fst (l:=[_,_,_,_]) I
   exact ⟨H.s,I⟩
  have b:=Zs b k
  refine Zo H (Zg H R (lkb R k)) dd_ R λa H=>Zo H (Zg H R (lkb R k)) dd_ R λa H=>?_
  obtain ⟨bi,c0,b⟩:=p_1 b
  refine Z8 H (Zg H R (lkb R k)) dd_ R (cbm func75) (Za6 _ ay.1 ci (I.sl (pre:=[_,_,_,_,_,_,_,_,_,_,_,_,_]) noB) az.1 cl (I.sl (pre:=[_,_,_,_,_,_,_,_,_,_,_,_]) noB) bi c0) ?_
  rintro v w a ⟨rfl,hK⟩ H
  have I:=I.keep hK
  refine KG H (Zg H R (lkb R k)) dd_ R λa H=>Z2 H (lkb R k) R λa H=>Zd H R λa H=>?_
  refine Yj (!bi) (λu=>?_) (λu=>?_)
  ·have b:=Zt b u
   refine k_s H u R R R λa H=>k_s H u R R R λa H=>k_s H u R R R λa H=>ZH H (lkb R u) R λa H=>Zd H R λa H=>Zf H R R R dd_ λa H=>Zf H R R R dd_ λa H=>Zf H R R R dd_ λa H=>Zf H R R R dd_ λa H=>ZH H R R λa H=>Zd H R λa H=>Zf H R R R dd_ λa H=>?_
   refine Zf H R R R dd_ λa H=>Zf H R R R dd_ λa H=>ZH H R R λa H=>Zd H R λa H=>Zf H R R R dd_ λa H=>Zf H R R R dd_ λa H=>Zf H R R R dd_ λa H=>Zf H R R R dd_ λa H=>ZH H R R λa H=>Zd H R λa H=>Zf H R R R dd_ λa H=>Zf H R R R dd_ λa H=>?_
   refine Zf H R R R dd_ λa H=>ZH H R R λa H=>Zd H R λa H=>Zf H R R R dd_ λa H=>Zf H R R R dd_ λa H=>Zf H R R R dd_ λa H=>ZH H R R λa H=>Zj ?_
   obtain rfl:=o_1 b
   refine Zk ?_
   have I:=(((I.pl (pre:=[_,_,_,_,_,_,_,_,_,_,_,_,_,_,_,_,_,_,_,_,_])).pl (pre:=[_,_,_,_,_,_,_,_,_,_,_,_,_,_,_,_,_,_,_,_,_])).pl (pre:=[_,_,_,_,_,_,_,_,_,_,_,_,_,_,_,_,_,_,_,_,_])).pl (pre:=[_,_,_,_,_,_,_,_,_,_,_,_,_,_,_,_,_,_,_,_,_])
   have I:=M.fst (l:=[_,_,_,_]) I
   exact ⟨H.s,I⟩
  have b:=Zs b u
  refine Zo H (Zg H R (lkb R u)) dd_ R λa H=>Zo H (Zg H R (lkb R u)) dd_ R λa H=>Yc H (Zg H R (lkb R u)) dd_ R R R λa H=>Z2 H (lkb R u) R λa H=>Zd H R λa H=>?_
  refine Yj (a0.2 != a1.2) (λm=>?_) (λm=>?_)
  ·have b:=Zt b m
   refine k_s H m R R R λa H=>k_s H m R R R λa H=>k_s H m R R R λa H=>k_s H m R R R λa H=>ZH H (lkb R m) R λa H=>Zd H R λa H=>Zf H R R R dd_ λa H=>Zf H R R R dd_ λa H=>Zf H R R R dd_ λa H=>ZH H R R λa H=>Zd H R λa H=>Zf H R R R dd_ λa H=>?_
   refine Zf H R R R dd_ λa H=>Zf H R R R dd_ λa H=>Zf H R R R dd_ λa H=>ZH H R R λa H=>Zd H R λa H=>Zf H R R R dd_ λa H=>Zf H R R R dd_ λa H=>Zf H R R R dd_ λa H=>ZH H R R λa H=>Zd H R λa H=>Zf H R R R dd_ λa H=>Zf H R R R dd_ λa H=>?_
   refine Zf H R R R dd_ λa H=>ZH H R R λa H=>Zj ?_
   obtain rfl:=o_1 b
   refine Zk ?_
   have I:=(((I.pl (pre:=[_,_,_,_,_,_,_,_,_,_,_,_,_,_,_,_,_,_,_,_,_])).pl (pre:=[_,_,_,_,_,_,_,_,_,_,_,_,_,_,_,_,_,_,_,_,_])).pl (pre:=[_,_,_,_,_,_,_,_,_,_,_,_,_,_,_,_,_,_,_,_,_])).pl (pre:=[_,_,_,_,_,_,_,_,_,_,_,_,_,_,_,_,_,_,_,_,_])
   have I:=M.fst (l:=[_,_,_,_]) I
   exact ⟨H.s,I⟩
  have b:=Zs b m
  refine Zo H (Zg H R (lkb R m)) dd_ R λa H=>Zo H (Zg H R (lkb R m)) dd_ R λa H=>?_
  obtain ⟨bj,c1,b⟩:=p_1 b
  refine Z8 H (Zg H R (lkb R m)) dd_ R cb76 (Jv _ a0.1 cn (I.sl (pre:=[_,_,_,_,_,_,_,_,_,_,_]) noB) a1.1 cp (I.sl (pre:=[_,_,_,_,_,_,_,_,_,_]) noB) bj c1) ?_
  rintro v w a ⟨rfl,hK⟩ H
  have I:=I.keep hK
  refine KG H (Zg H R (lkb R m)) dd_ R λa H=>Z2 H (lkb R m) R λa H=>Zd H R λa H=>?_
  refine Yj (!bj) (λx=>?_) (λx=>?_)
  ·have b:=Zt b x
   refine k_s H x R R R λa H=>k_s H x R R R λa H=>k_s H x R R R λa H=>ZH H (lkb R x) R λa H=>Zd H R λa H=>Zf H R R R dd_ λa H=>Zf H R R R dd_ λa H=>Zf H R R R dd_ λa H=>Zf H R R R dd_ λa H=>ZH H R R λa H=>Zd H R λa H=>Zf H R R R dd_ λa H=>?_
   refine Zf H R R R dd_ λa H=>Zf H R R R dd_ λa H=>ZH H R R λa H=>Zd H R λa H=>Zf H R R R dd_ λa H=>Zf H R R R dd_ λa H=>Zf H R R R dd_ λa H=>ZH H R R λa H=>Zj ?_
   obtain rfl:=o_1 b
   refine Zk ?_
   have I:=(((I.pl (pre:=[_,_,_,_,_,_,_,_,_,_,_,_,_,_,_,_,_,_,_,_,_])).pl (pre:=[_,_,_,_,_,_,_,_,_,_,_,_,_,_,_,_,_,_,_,_,_])).pl (pre:=[_,_,_,_,_,_,_,_,_,_,_,_,_,_,_,_,_,_,_,_,_])).pl (pre:=[_,_,_,_,_,_,_,_,_,_,_,_,_,_,_,_,_,_,_,_,_])
   have I:=M.fst (l:=[_,_,_,_]) I
   exact ⟨H.s,I⟩
  have b:=Zs b x
  refine Zo H (Zg H R (lkb R x)) dd_ R λa H=>Zo H (Zg H R (lkb R x)) dd_ R λa H=>Yc H (Zg H R (lkb R x)) dd_ R R R λa H=>Z2 H (lkb R x) R λa H=>Zd H R λa H=>?_
  refine Yj (a2.2 != a3.2) (λn=>?_) (λn=>?_)
  ·have b:=Zt b n
   refine k_s H n R R R λa H=>k_s H n R R R λa H=>k_s H n R R R λa H=>k_s H n R R R λa H=>ZH H (lkb R n) R λa H=>Zd H R λa H=>Zf H R R R dd_ λa H=>Zf H R R R dd_ λa H=>Zf H R R R dd_ λa H=>ZH H R R λa H=>Zd H R λa H=>Zf H R R R dd_ λa H=>?_
   refine Zf H R R R dd_ λa H=>Zf H R R R dd_ λa H=>ZH H R R λa H=>Zj ?_
   obtain rfl:=o_1 b
   refine Zk ?_
   have I:=(((I.pl (pre:=[_,_,_,_,_,_,_,_,_,_,_,_,_,_,_,_,_,_,_,_,_])).pl (pre:=[_,_,_,_,_,_,_,_,_,_,_,_,_,_,_,_,_,_,_,_,_])).pl (pre:=[_,_,_,_,_,_,_,_,_,_,_,_,_,_,_,_,_,_,_,_,_])).pl (pre:=[_,_,_,_,_,_,_,_,_,_,_,_,_,_,_,_,_,_,_,_,_])
   have I:=M.fst (l:=[_,_,_,_]) I
   exact ⟨H.s,I⟩
  have b:=Zs b n
  refine Zo H (Zg H R (lkb R n)) dd_ R λa H=>Zo H (Zg H R (lkb R n)) dd_ R λa H=>?_
  obtain ⟨bk,c2,b⟩:=p_1 b
  refine Z8 H (Zg H R (lkb R n)) dd_ R cb76 (Jv _ a2.1 ct (I.sl4) a3.1 cv (I.sl3) bk c2) ?_
  rintro v w a ⟨rfl,hK⟩ H
  have I:=I.keep hK
  refine KG H (Zg H R (lkb R n)) dd_ R λa H=>Z2 H (lkb R n) R λa H=>Zd H R λa H=>?_
  refine Yj (!bk) (λy=>?_) (λy=>?_)
  ·have b:=Zt b y
   refine k_s H y R R R λa H=>k_s H y R R R λa H=>k_s H y R R R λa H=>ZH H (lkb R y) R λa H=>Zd H R λa H=>Zf H R R R dd_ λa H=>Zf H R R R dd_ λa H=>Zf H R R R dd_ λa H=>ZH H R R λa H=>Zj ?_
   obtain rfl:=o_1 b
   refine Zk ?_
   have I:=(((I.pl (pre:=[_,_,_,_,_,_,_,_,_,_,_,_,_,_,_,_,_,_,_,_,_])).pl (pre:=[_,_,_,_,_,_,_,_,_,_,_,_,_,_,_,_,_,_,_,_,_])).pl (pre:=[_,_,_,_,_,_,_,_,_,_,_,_,_,_,_,_,_,_,_,_,_])).pl (pre:=[_,_,_,_,_,_,_,_,_,_,_,_,_,_,_,_,_,_,_,_,_])
   have I:=M.fst (l:=[_,_,_,_]) I
   exact ⟨H.s,I⟩
  have b:=Zs b y
  refine Zo H (Zg H R (lkb R y)) dd_ R λa H=>Zo H (Zg H R (lkb R y)) dd_ R λa H=>Yc H (Zg H R (lkb R y)) dd_ R R R λa H=>Z2 H (lkb R y) R λa H=>Zd H R λa H=>?_
  refine Yj (an.2 != ao.2) (λz=>?_) (λz=>?_)
  ·have b:=Zt b z
   refine k_s H z R R R λa H=>k_s H z R R R λa H=>k_s H z R R R λa H=>ZH H (lkb R z) R λa H=>Zj ?_
   obtain rfl:=o_1 b
   refine Zk ?_
   have I:=(((I.pl (pre:=[_,_,_,_,_,_,_,_,_,_,_,_,_,_,_,_,_,_,_,_,_])).pl (pre:=[_,_,_,_,_,_,_,_,_,_,_,_,_,_,_,_,_,_,_,_,_])).pl (pre:=[_,_,_,_,_,_,_,_,_,_,_,_,_,_,_,_,_,_,_,_,_])).pl (pre:=[_,_,_,_,_,_,_,_,_,_,_,_,_,_,_,_,_,_,_,_,_])
   have I:=M.fst (l:=[_,_,_,_]) I
   exact ⟨H.s,I⟩
  have b:=Zs b z
  refine Zx H (Zg H R (lkb R z)) dd_ R ZW R I.ra1 (u_1 _) λa H=>Zx H (Zg H R (lkb R z)) dd_ R ZW R I.ra0 (u_1 _) λa H=>Jx H (Zg H R (lkb R z)) dd_ R R (XX t_4 ty5 R false R dd_ (Xp u_3)) dd_ (by kernel_rfl) λa H=>Z2 H (lkb R z) R λa H=>Zj ?_
  obtain rfl:=o_1 b
  refine Zk ?_
  have I:=(((I.pl (pre:=[_,_,_,_,_,_,_,_,_,_,_,_,_,_,_,_,_,_,_,_,_])).pl (pre:=[_,_,_,_,_,_,_,_,_,_,_,_,_,_,_,_,_,_,_,_,_])).pl (pre:=[_,_,_,_,_,_,_,_,_,_,_,_,_,_,_,_,_,_,_,_,_])).pl (pre:=[_,_,_,_,_,_,_,_,_,_,_,_,_,_,_,_,_,_,_,_,_])
  have I:=M.fst (l:=[_,_,_,_]) I
  exact ⟨H.s,I⟩
 rintro a w ⟨H,I⟩
 refine c_if H R aa ?_ ?_
 ·intro b4 aa
  refine Zb (Zc H R λa H=>Ze ?_)
  obtain rfl:=o_1 aa
  exact p_3 (ZJ (kr1 H R R I.kept))
 intro b4 aa
 refine u_2 (ZA ?_)
 obtain ⟨c3,E,ag⟩:=p_1 aa
 refine ZI (λa w=>∃ bl : Unit,c3 = Fl.nx bl ∧ Env 309 a [] ∧ M (Old w0) w0 w []) ?_ ?_
 ·refine Zb (Zd H R λa H=>Zn H R R R λa H=>Ze ?_)
  refine c_if H R E ?_ ?_
  ·intro b5 E
   refine Zb (Zm H R (XA) λa H=>ZB (v:=Z) H R T3 R (at_3 I.ra0) λa H=>?_)
   obtain ⟨ah,c4,E⟩:=p_1 E
   refine c_k H I R (cbm func73) (JC _ A.1.Events Z (I.sl3) ah c4) λw a I H=>?_
   refine Zd H R λa H=>ZF H Za ld R R λa H=>ZF H Za ld R R λa H=>Zv H I ZW λdx w a I H=>Zl (seg:=enc ah.1) (cs':=enc ah.1) H I Za R R R ZW (u_1 _) (zle flq) (s_1 _) (Zh flq) λw a I H=>Zc H R λa H=>Ze (Zb (Zq H R ZG R I.ra1 cq λa H=>?_))
   obtain ⟨bm,c5,E⟩:=p_1 E
   refine Zp H R (cbm func67) (Hn _ A.1 X (I.sl2) Y (I.sl3) Z (I.sl4) bm c5) ?_
   rintro v w a ⟨dy,rfl,hFr,hK⟩ H
   have I:=I.add hK hFr
   refine Zd H R λa H=>ZF H Za ld R R λa H=>ZF H Za ld R R λa H=>Zc H R λa H=>Zc H R λa H=>Ze ?_
   obtain ⟨c6,h,ab⟩:=p_1 E
   refine ZI (λa w=>Env 309 a [(308,vT c6)] ∧ M (Old w0) w0 w []) ?_ ?_
   ·refine t_1 (Zd H R λa H=>Zn H R R R λa H=>Zd H R λa H=>?_)
    refine Yj (ah.2 != 0) (λF=>?_) (λF=>?_)
    ·have h:=Zt h F
     refine k_s H F R R R λa H=>k_s H F R R R λa H=>ZH H (lkb R F) R λa H=>Zd H R λa H=>Zf H R R R dd_ λa H=>Zf H R R R dd_ λa H=>Zf H R R R dd_ λa H=>Zf H R R R dd_ λa H=>ZH H R R λa H=>Zd H R λa H=>Zf H R R R dd_ λa H=>Zf H R R R dd_ λa H=>?_
     refine Zf H R R R dd_ λa H=>Zf H R R R dd_ λa H=>Zf H R R R dd_ λa H=>Zf H R R R dd_ λa H=>ZH H R R λa H=>Zj ?_
     obtain rfl:=o_1 h
     refine Zk ?_
     have I:=M.fst (l:=[]) I
     exact ⟨H.s,I⟩
    have h:=Zs h F
    refine Zo H (Zg H R (lkb R F)) dd_ R λa H=>Yc H (Zg H R (lkb R F)) dd_ R R R λa H=>Z2 H (lkb R F) R λa H=>Zd H R λa H=>?_
    refine Yj (bm.2 != 0) (λo=>?_) (λo=>?_)
    ·have h:=Zt h o
     refine k_s H o R R R λa H=>k_s H o R R R λa H=>k_s H o R R R λa H=>k_s H o R R R λa H=>ZH H (lkb R o) R λa H=>Zd H R λa H=>Zf H R R R dd_ λa H=>Zf H R R R dd_ λa H=>Zf H R R R dd_ λa H=>Zf H R R R dd_ λa H=>Zf H R R R dd_ λa H=>Zf H R R R dd_ λa H=>?_
     refine ZH H R R λa H=>Zj ?_
     obtain rfl:=o_1 h
     refine Zk ?_
     have I:=M.fst (l:=[]) I
     exact ⟨H.s,I⟩
    have h:=Zs h o
    refine Zx H (Zg H R (lkb R o)) dd_ R ZW R I.ra1 (u_1 _) λa H=>Zi H (Zg H R (lkb R o)) dd_ R (J1) λa H=>Zx H (Zg H R (lkb R o)) dd_ R ZW R (at_4 I.ra2) (u_1 _) λa H=>Jx H (Zg H R (lkb R o)) dd_ R R (XX t_4 ty5 R false R dd_ (Xp u_3)) dd_ (by kernel_rfl) λa H=>Z2 H (lkb R o) R λa H=>Zd H R λa H=>?_
    refine Yj (!decide (ah.1 = A.1.Head)) (λf=>?_) (λf=>?_)
    ·have h:=Zt h f
     refine k_s H f R R R λa H=>k_s H f R R R λa H=>k_s H f R R R λa H=>k_s H f R R R λa H=>k_s H f R R R λa H=>k_s H f R R R λa H=>ZH H (lkb R f) R λa H=>Zj ?_
     obtain rfl:=o_1 h
     refine Zk ?_
     have I:=M.fst (l:=[]) I
     exact ⟨H.s,I⟩
    have h:=Zs h f
    refine Zo H (Zg H R (lkb R f)) dd_ R λa H=>W2 H (Zg H R (lkb R f)) dd_ R t_3 (I.sl0) λa H=>Zi H (Zg H R (lkb R f)) dd_ R (Ye) λa H=>Zz (v:=Y) H (Zg H R (lkb R f)) dd_ R Xr R (at_2 I.ra2) λa H=>W2 H (Zg H R (lkb R f)) dd_ R o_3 (I.sl4) λa H=>Yc H (Zg H R (lkb R f)) dd_ R R R λa H=>Z2 H (lkb R f) R λa H=>Zj ?_
    obtain rfl:=o_1 h
    refine Zk ?_
    have I:=M.fst (l:=[]) I
    exact ⟨H.s,I⟩
   rintro a w ⟨H,I⟩
   refine c_if H R ab ?_ ?_
   ·intro b6 ab
    refine Zb (Zc H R λa H=>Ze ?_)
    obtain rfl:=o_1 ab
    obtain rfl:=o_1 ag
    exact p_3 (ZJ (kr1 H R R I.kept))
   intro b6 ab
   refine u_2 ?_
   obtain rfl:=o_1 ab
   refine Zk ?_
   exact ⟨(),R,H.sub trivial,I⟩
  intro b5 E
  refine u_2 ?_
  obtain rfl:=o_1 E
  refine Zk ?_
  have I:=M.fst (l:=[]) I
  exact ⟨(),R,H.sub trivial,I⟩
 rintro a w ⟨bl,ht,H,I⟩
 subst ht
 have ag:=KT ag
 refine Zb (Zc H R λa H=>Ze ?_)
 obtain rfl:=o_1 ag
 exact p_3 (kr1 H R R I.kept)
end

end Go.Proofs.YtfhhlkkhcoaapaaGreat
