/- The walk of what the law reaches: contracts of functions. -/
import Derived.Test.YtfhhlkkhcoaapaaGreatC3
set_option linter.unusedVariables false
set_option linter.unusedSimpArgs false
set_option maxRecDepth 20000
set_option maxHeartbeats 400000
namespace Go.Proofs.YtfhhlkkhcoaapaaGreat
open Go Go.Proofs.Tryz
open Flat (enc)
noncomputable section
theorem yd (w0 : World) (p0 : xg) (e : Value) (ao : Ro w0 p0 [e]) (r : Bool) (J : QV p0 = some r) :
  Calls prog 5 [e].toArray w0 (Rt w0 (vT r)):=by
 refine ce func5 ?_
 intro a H
 have I:=M.start w0
 unfold QV at J
 refine Zb (Zc H R λa H=>Ze (s_2 (Zb (Zd H R ?_)))); intro a H
 obtain ⟨r1,e2,J⟩:=p_1 J
 refine c_k H I R (cbm func7) (Zcu _ p0 e (I.rdo ao) r1 e2) ?_; intro w a I H
 refine Ze ?_
 refine c_if H R J ?_ ?_
 ·intro gl J
  refine Zb (Zc H R λa H=>Ze ?_)
  obtain rfl:=o_1 J
  exact p_3 (ZI (kr1 H R R I.kept))
 intro gl J
 refine u_2 (Zz (Zb (Zd H R ?_))); intro a H
 obtain ⟨r4,e5,J⟩:=p_1 J
 refine Zp H R (cbm func45) (BG _ p0 e (I.rdo ao) r4 e5) ?_
 rintro v w a ⟨u6,u7,u8,u9,bi,rfl,hFr,hK⟩ H
 have I:=I.add hK hFr
 refine Zd H R λa H=>ZM H Za ld R R λa H=>ZM H Za ld R R λa H=>ZM H Za ld R R λa H=>ZM H Za ld R R λa H=>Zw H I ZF λh7 w a I H=>Zw H I ZE ?_; intro b8 w a I H
 have I:=I.pl1
 refine Zk (seg:=cV u6 u7 u8 r4.1) (cs':=cV u6 u7 u8 r4.1) H I Za R R R ZF cq (q_1 cq cq) (ZC (cc1 (t_2 (I.sl2)) (cc1 (s_1 (r4.1.Next : Int)) (cc1 (t_2 (I.sl3)) (cc1 (t_2 (I.sl4)) (cc1 (s_1 _) cc0)))))) (q_2 cq cq) λw a I H=>Zc H R λa H=>Zc H R ?_; intro a H
 have I:=I.pl1
 refine Zk (seg:=enc r4.2.2.2) (cs':=enc r4.2.2.2) H I Za R R R ZE (u_1 _) (zle flq) (s_1 _) (Zh flq) λw a I H=>Ze (Zb (Zq H R ZF R I.ra1 cq λa H=>Zd H R λa H=>Zd H R λa H=>Zq H R ZE R I.ra0 (u_1 _) ?_)); intro a H
 obtain ⟨B,gm,J⟩:=p_1 J
 refine Zp H R (cbm func39) (Hy _ r4.1 u6 (I.sl2) u7 (I.sl3) u8 (I.sl4) r4.2.1 u9 (I.sl5) r4.2.2.1 bi (I.sl6) r4.2.2.2 B gm) ?_
 rintro v w a ⟨aw,ax,ay,rfl,hFr,hK⟩ H
 have I:=I.add hK hFr
 refine Zd H R λa H=>ZM H Za ld R R λa H=>ZM H Za ld R R λa H=>ZM H Za ld R R λa H=>Zw H I ZF λb9 w a I H=>Zk (seg:=cV aw ax ay B.1) (cs':=cV aw ax ay B.1) H I Za R R R ZF cq (q_1 cq cq) (ZC (cc1 (t_2 (I.sl1)) (cc1 (s_1 (B.1.Next : Int)) (cc1 (t_2 (I.sl2)) (cc1 (t_2 (I.sl3)) (cc1 (s_1 _) cc0)))))) (q_2 cq cq) λw a I H=>Zc H R λa H=>Zc H R λa H=>Ze (Zb (Zq H R ZF R I.ra5 cq λa H=>Zd H R λa H=>Zd H R λa H=>Zq H R ZE R I.ra4 (u_1 _) ?_)); intro a H
 obtain ⟨ci,gn,J⟩:=p_1 J
 refine Zp H R (cbm func46) (Hz _ r4.1 u6 (I.sl6) u7 (I.sl7) u8 (I.sl8) r4.2.1 u9 (I.sl9) r4.2.2.1 bi (I.sl10) r4.2.2.2 ci gn) ?_
 rintro v w a ⟨dt,du,dv,rfl,hFr,hK⟩ H
 have I:=I.add hK hFr
 refine Zd H R λa H=>ZM H Za ld R R λa H=>ZM H Za ld R R λa H=>ZM H Za ld R R λa H=>Zw H I ZF λh8 w a I H=>Zk (seg:=cV dt du dv ci.1) (cs':=cV dt du dv ci.1) H I Za R R R ZF cq (q_1 cq cq) (ZC (cc1 (t_2 (I.sl1)) (cc1 (s_1 (ci.1.Next : Int)) (cc1 (t_2 (I.sl2)) (cc1 (t_2 (I.sl3)) (cc1 (s_1 _) cc0)))))) (q_2 cq cq) λw a I H=>Zc H R λa H=>Zc H R λa H=>Ze (s_2 ?_)
 obtain ⟨go,Y,cj⟩:=p_1 J
 refine ZJ (λa w=>Env 291 a [(0,e),(5,bi),(6,ptr b8 0),(7,ptr b9 0),(8,vI B.2.1),(9,vI B.2.2),(90,vT go)] ∧ M (Old w0) w0 w [raw b9 (cV aw ax ay B.1),osl NoB (B.1.Keys : List V16) aw,osl NoB (B.1.Records : List GRecord) ax,osl NoB (B.1.Events : List GEvent) ay,raw b8 (enc r4.2.2.2),osl NoB (r4.2.2.1 : List UInt8) bi]) ?_ ?_
 ·refine Ys (B.2.2 != ci.2.2) (λaf=>?_) (λaf=>?_)
  ·have Y:=Zt Y af
   refine Z9 [70,71,72,73,74,75,76,77,78,79,80,81,82,83,84,85,86,87,88,89,90] Yt R R (by decide) R H I (q_m (λ_=>R) (q_m (λ_=>R) (qsP (λz=>Z8 z.E Za ld R R R (kr0 R)) (q_m (λ_=>R) (qsP (λz=>Zf z.E R (lkb R af) R (by decide) (kr0 R)) (qsP (λz=>Zf z.E R (lkb R af) R (by decide) (kr0 R)) (qsP (λz=>Zf z.E R (lkb R af) R (by decide) (kr0 R)) (qsP (λz=>UM z.E Za ld (lkb R af) R (kr0 R)) (q_m (λ_=>R) (qsP (λz=>Zf z.E R R R (by decide) (kr0 R)) (qsP (λz=>Zf z.E R R R (by decide) (kr0 R)) (qsP (λz=>Zf z.E R R R (by decide) (kr0 R)) (qsP (λz=>Zf z.E R R R (by decide) (kr0 R)) (qsP (λz=>UM z.E Za ld R R (kr0 R)) (q_m (λ_=>R) (qsP (λz=>Zf z.E R R R (by decide) (kr0 R)) (qsP (λz=>Zf z.E R R R (by decide) (kr0 R)) (qsP (λz=>Zf z.E R R R (by decide) (kr0 R)) (qsP (λz=>Zf z.E R R R (by decide) (kr0 R)) (qsP (λz=>Zf z.E R R R (by decide) (kr0 R)) (qsP (λz=>UM z.E Za ld R R (kr0 R)) qs0))))))))))))))))))))) ?_
   ·intro a w u H I
    refine Zj ?_
    obtain rfl:=o_1 Y
    refine Zm ?_
    have I:=M.fst (l:=[_,_,_,_,_,_]) ((((((I.pl (pre:=[_,_,_,_,_,_,_,_,_,_,_,_,_,_])).pl9).pl9).pl9).pl9).pl9)
    exact ⟨H.s,I⟩
  have Y:=Zs Y af
  refine Ys (B.2.1 != ci.2.1) (λaj=>?_) (λaj=>?_)
  ·have Y:=Zt Y aj
   refine Z9 [70,71,72,73,74,75,76,77,78,79,80,81,82,83,84,85,86,87,88,89,90] Yt R R (by decide) R H I (q_m (λ_=>R) (q_m (λ_=>R) (qsP (λz=>Z8 z.E Za ld R R R (kr0 R)) (q_m (λ_=>R) (qsP (λz=>Zo z.E (Zi z.E R (lkb R af)) (by decide) R (kr0 R)) (qsP (λz=>Zo z.E (Zi z.E R (lkb R af)) (by decide) R (kr0 R)) (qsP (λz=>Z8 z.E (Zi z.E R (lkb R af)) (by decide) R R R (kr0 R)) (qsP (λz=>Um z.E Za ld (lkb R af) R (kr0 R)) (q_m (λ_=>R) (qsP (λz=>Zf z.E R (lkb R aj) R (by decide) (kr0 R)) (qsP (λz=>Zf z.E R (lkb R aj) R (by decide) (kr0 R)) (qsP (λz=>Zf z.E R (lkb R aj) R (by decide) (kr0 R)) (qsP (λz=>Zf z.E R (lkb R aj) R (by decide) (kr0 R)) (qsP (λz=>UM z.E Za ld (lkb R aj) R (kr0 R)) (q_m (λ_=>R) (qsP (λz=>Zf z.E R R R (by decide) (kr0 R)) (qsP (λz=>Zf z.E R R R (by decide) (kr0 R)) (qsP (λz=>Zf z.E R R R (by decide) (kr0 R)) (qsP (λz=>Zf z.E R R R (by decide) (kr0 R)) (qsP (λz=>Zf z.E R R R (by decide) (kr0 R)) (qsP (λz=>UM z.E Za ld R R (kr0 R)) qs0))))))))))))))))))))) ?_
   ·intro a w u H I
    refine Zj ?_
    obtain rfl:=o_1 Y
    refine Zm ?_
    have I:=M.fst (l:=[_,_,_,_,_,_]) ((((((I.pl (pre:=[_,_,_,_,_,_,_,_,_,_,_,_,_,_])).pl9).pl9).pl9).pl9).pl9)
    exact ⟨H.s,I⟩
  have Y:=Zs Y aj
  obtain ⟨eb,e0,Y⟩:=p_1 Y
  refine Ys (!eb) (λap=>?_) (λap=>?_)
  ·have Y:=Zt Y ap
   refine Z9 [70,71,72,73,74,75,76,77,78,79,80,81,82,83,84,85,86,87,88,89,90] Yt R R (by decide) R H I (q_m (λ_=>R) (q_m (λ_=>R) (qsP (λz=>Z8 z.E Za ld R R R (kr0 R)) (q_m (λ_=>R) (qsP (λz=>Zo z.E (Zi z.E R (lkb R af)) (by decide) R (kr0 R)) (qsP (λz=>Zo z.E (Zi z.E R (lkb R af)) (by decide) R (kr0 R)) (qsP (λz=>Z8 z.E (Zi z.E R (lkb R af)) (by decide) R R R (kr0 R)) (qsP (λz=>Um z.E Za ld (lkb R af) R (kr0 R)) (q_m (λ_=>R) (qsP (λz=>Zx z.E (Zi z.E R (lkb R aj)) (by decide) R ZF R (z.M.ra4) cq (kr0 R)) (qsP (λz=>Zx z.E (Zi z.E R (lkb R aj)) (by decide) R ZF R (z.M.ra0) cq (kr0 R)) (qsP (λz=>Yd z.E (Zi z.E R (lkb R aj)) (by decide) R cb47 (JO _ B.1 aw (z.M.sl5) ax (z.M.sl6) ay (z.M.sl7) ci.1 dt (z.M.sl1) du (z.M.sl2) dv (z.M.sl3) eb e0) (kc R)) (qsP (λz=>KW z.E (Zi z.E R (lkb R aj)) (by decide) R (kr0 R)) (qsP (λz=>Um z.E Za ld (lkb R aj) R (kr0 R)) (q_m (λ_=>R) (qsP (λz=>Zf z.E R (lkb R ap) R (by decide) (kr0 R)) (qsP (λz=>Zf z.E R (lkb R ap) R (by decide) (kr0 R)) (qsP (λz=>Zf z.E R (lkb R ap) R (by decide) (kr0 R)) (qsP (λz=>Zf z.E R (lkb R ap) R (by decide) (kr0 R)) (qsP (λz=>Zf z.E R (lkb R ap) R (by decide) (kr0 R)) (qsP (λz=>UM z.E Za ld (lkb R ap) R (kr0 R)) qs0))))))))))))))))))))) ?_
   ·intro a w u H I
    refine Zj ?_
    obtain rfl:=o_1 Y
    refine Zm ?_
    have I:=M.fst (l:=[_,_,_,_,_,_]) ((((((I.pl (pre:=[_,_,_,_,_,_,_,_,_,_,_,_,_,_])).pl9).pl9).pl9).pl9).pl9)
    exact ⟨H.s,I⟩
  have Y:=Zs Y ap
  obtain ⟨gp,gq,Y⟩:=p_1 Y
  obtain ⟨gr,gs,Y⟩:=p_1 Y
  refine Z9 [70,71,72,73,74,75,76,77,78,79,80,81,82,83,84,85,86,87,88,89,90] Yt R R (by decide) R H I (q_m (λ_=>R) (q_m (λ_=>R) (qsP (λz=>Z8 z.E Za ld R R R (kr0 R)) (q_m (λ_=>R) (qsP (λz=>Zo z.E (Zi z.E R (lkb R af)) (by decide) R (kr0 R)) (qsP (λz=>Zo z.E (Zi z.E R (lkb R af)) (by decide) R (kr0 R)) (qsP (λz=>Z8 z.E (Zi z.E R (lkb R af)) (by decide) R R R (kr0 R)) (qsP (λz=>Um z.E Za ld (lkb R af) R (kr0 R)) (q_m (λ_=>R) (qsP (λz=>Zx z.E (Zi z.E R (lkb R aj)) (by decide) R ZF R (z.M.ra4) cq (kr0 R)) (qsP (λz=>Zx z.E (Zi z.E R (lkb R aj)) (by decide) R ZF R (z.M.ra0) cq (kr0 R)) (qsP (λz=>Yd z.E (Zi z.E R (lkb R aj)) (by decide) R cb47 (JO _ B.1 aw (z.M.sl5) ax (z.M.sl6) ay (z.M.sl7) ci.1 dt (z.M.sl1) du (z.M.sl2) dv (z.M.sl3) eb e0) (kc R)) (qsP (λz=>KW z.E (Zi z.E R (lkb R aj)) (by decide) R (kr0 R)) (qsP (λz=>Um z.E Za ld (lkb R aj) R (kr0 R)) (q_m (λ_=>R) (qsP (λz=>Zx z.E (Zi z.E R (lkb R ap)) (by decide) R ZF R (z.M.ra9) cq (kr0 R)) (qsP (λz=>Yd z.E (Zi z.E R (lkb R ap)) (by decide) R cb48 (UX _ r4.1 u6 (z.M.sl10) u7 (z.M.sl11) u8 (z.M.sl12) gp gq) (kc R)) (qsP (λz=>Zx z.E (Zi z.E R (lkb R ap)) (by decide) R ZF R (z.M.ra9) cq (kr0 R)) (qsP (λz=>Yd z.E (Zi z.E R (lkb R ap)) (by decide) R (cbm func49) (y0 _ r4.1 u6 (z.M.sl10) u7 (z.M.sl11) u8 (z.M.sl12) gr gs) (kc R)) (qsP (λz=>Zgx z.E (Zi z.E R (lkb R ap)) (by decide) R R underlying4 (kr0 R)) (qsP (λz=>Um z.E Za ld (lkb R ap) R (kr0 R)) qs0))))))))))))))))))))) ?_
  ·intro a w u H I
   refine Zj ?_
   obtain rfl:=o_1 Y
   refine Zm ?_
   have I:=M.fst (l:=[_,_,_,_,_,_]) ((((((I.pl (pre:=[_,_,_,_,_,_,_,_,_,_,_,_,_,_])).pl9).pl9).pl9).pl9).pl9)
   exact ⟨H.s,I⟩
 rintro a w ⟨H,I⟩
 refine c_if H R cj ?_ ?_
 ·intro e1 cj
  refine Zb (Zc H R λa H=>Ze ?_)
  obtain rfl:=o_1 cj
  exact p_3 (ZI (kr1 H R R I.kept))
 intro e1 cj
 refine u_2 (Zz ?_)
 obtain ⟨gt,bu,be⟩:=p_1 cj
 refine ZJ (λa w=>∃ e3 : Unit,gt = Fl.nx e3 ∧ Env 291 a [(0,e)] ∧ M (Old w0) w0 w []) ?_ ?_
 ·refine Zb (Zd H R λa H=>Zn H R R R λa H=>Ze ?_)
  refine c_if H R bu ?_ ?_
  ·intro e4 bu
   refine Zb (Zq H R ZF R I.ra0 cq λa H=>Zd H R ?_); intro a H
   obtain ⟨ec,gu,bu⟩:=p_1 bu
   refine Zp H R cb43 (Kg _ B.1 aw (I.sl1) ax (I.sl2) ay (I.sl3) B.2.1 ec gu) ?_
   rintro v w a ⟨gv,rfl,hFr,hK⟩ H
   have I:=I.add hK hFr
   refine Zd H R λa H=>ZM H Za ld R R λa H=>ZM H Za ld R R λa H=>Zc H R λa H=>Zc H R λa H=>Ze (s_2 ?_)
   obtain ⟨gw,aq,T⟩:=p_1 bu
   refine ZJ (λa w=>Env 291 a [(0,e),(5,bi),(6,ptr b8 0),(7,ptr b9 0),(8,vI B.2.1),(111,vT gw)] ∧ M (Old w0) w0 w [raw b9 (cV aw ax ay B.1),osl NoB (B.1.Keys : List V16) aw,osl NoB (B.1.Records : List GRecord) ax,osl NoB (B.1.Events : List GEvent) ay,raw b8 (enc r4.2.2.2),osl NoB (r4.2.2.1 : List UInt8) bi]) ?_ ?_
   ·refine t_1 (Zd H R λa H=>Zn H R R R λa H=>Zd H R ?_); intro a H
    refine Ys (ec.2 != 0) (λaz=>?_) (λaz=>?_)
    ·have aq:=Zt aq az
     refine k_s H az R R R λa H=>k_s H az R R R λa H=>k_s H az R R R λa H=>k_s H az R R R λa H=>ZU H (lkb R az) R λa H=>Zd H R λa H=>Zf H R R R (by decide) λa H=>Zf H R R R (by decide) λa H=>Zf H R R R (by decide) λa H=>ZU H R R λa H=>Zj ?_
     obtain rfl:=o_1 aq
     refine Zm ?_
     have I:=M.fst (l:=[_,_,_,_,_,_]) I.pl6.pl6.pl6.pl6.pl6.pl6
     exact ⟨H.s,I⟩
    have aq:=Zs aq az
    refine Zo H (Zi H R (lkb R az)) (by decide) R λa H=>Zo H (Zi H R (lkb R az)) (by decide) R ?_; intro a H
    obtain ⟨e6,gx,aq⟩:=p_1 aq
    refine Yd H (Zi H R (lkb R az)) (by decide) R cb50 (KR _ ec.1 gv (I.sl0) r4.2.2.1 bi (I.sl6) e6 gx) ?_
    rintro v w a ⟨rfl,hK⟩ H
    have I:=I.keep hK
    refine KW H (Zi H R (lkb R az)) (by decide) R λa H=>Ye H (lkb R az) R λa H=>Zd H R ?_; intro a H
    refine Ys (!e6) (λa6=>?_) (λa6=>?_)
    ·have aq:=Zt aq a6
     refine k_s H a6 R R R λa H=>k_s H a6 R R R λa H=>k_s H a6 R R R λa H=>ZU H (lkb R a6) R λa H=>Zj ?_
     obtain rfl:=o_1 aq
     refine Zm ?_
     have I:=M.fst (l:=[_,_,_,_,_,_]) I.pl6.pl6.pl6.pl6.pl6.pl6
     exact ⟨H.s,I⟩
    have aq:=Zs aq a6
    refine Zx H (Zi H R (lkb R a6)) (by decide) R ZF R I.ra1 cq ?_; intro a H
    obtain ⟨gy,gz,aq⟩:=p_1 aq
    refine Yd H (Zi H R (lkb R a6)) (by decide) R cb48 (UX _ B.1 aw (I.sl2) ax (I.sl3) ay (I.sl4) gy gz) ?_
    rintro v w a ⟨rfl,hK⟩ H
    have I:=I.keep hK
    refine KW H (Zi H R (lkb R a6)) (by decide) R λa H=>Ye H (lkb R a6) R λa H=>Zj ?_
    obtain rfl:=o_1 aq
    refine Zm ?_
    have I:=M.fst (l:=[_,_,_,_,_,_]) I.pl6.pl6.pl6.pl6.pl6.pl6
    exact ⟨H.s,I⟩
   rintro a w ⟨H,I⟩
   refine c_if H R T ?_ ?_
   ·intro e7 T
    refine Zb (Zc H R λa H=>Ze ?_)
    obtain rfl:=o_1 T
    obtain rfl:=o_1 be
    exact p_3 (ZI (ZI (kr1 H R R I.kept)))
   intro e7 T
   refine u_2 (Zz (Zb (Zd H R ?_))); intro a H
   have I:=M.tailP (m:=[]) I
   obtain ⟨bv,g0,T⟩:=p_1 T
   refine Zp H R (cbm func26) (zY _ _ _ _ p0 e ao 907 I bv g0) ?_
   rintro v w a ⟨ca,rfl,I⟩ H
   have I:=M.tailU (m:=[_]) I
   simp only [List.cons_append,List.nil_append] at I
   refine Zc H R λa H=>Ze (s_2 ?_)
   obtain ⟨bw,g1,T⟩:=p_1 T
   obtain ⟨bb,g2,T⟩:=p_1 T
   refine Yl (its:=[raw b9 (cV aw ax ay B.1),osl NoB (B.1.Keys : List V16) aw,osl NoB (B.1.Records : List GRecord) ax,osl NoB (B.1.Events : List GEvent) ay,raw b8 (enc r4.2.2.2),osl NoB (r4.2.2.1 : List UInt8) bi]) (mk:=([([2],λbs _=>(tog (bs.getD 0 false) (raw ca (cat [[e],[vI bv.1],[Value.int .u64 bv.2]])) (raw ca (cat [[e],[vI bw.1.1],[Value.int .u64 bw.1.2]])))),mkO 3 (λv=>own NoB bb.1 (Value.cells (ZS v 0)).toList),mkD 7 8 3 xi (λv=>(Value.cells (ZS v 0)).toList)] : Mk)) [115,116,117,118,114,119,120,16,299] Yt R R (by decide) R H (λu=>M.qS (M.qE (M.qE (M.q0 I.drew u) emD) emO) λ_=>R) (qsP (λz=>Zx z.E Za ld R ZF R (z.M.ra0) cq (kr0 R)) (q_m (λ_=>R) (qsV (v:=(Value.agg (enc bw.2).toArray)) ?_ (qsM (pr:=λv=>v = (Value.tuple [ZS v 0,vI bb.2].toArray) ∧ ∃ cs,(ZS v 0) = .agg cs) ?_ (qsD (ds:=[3]) (f:=λus=>(Value.tuple [ZS (us.getD 0 undef) 0,vI bb.2].toArray)) ?_ (qsD (ds:=[3]) (f:=λus=>(ZS (us.getD 0 undef) 0)) ?_ (qsP (λz=>ZM z.E Za ld R R (kr0 R)) (qsM (pr:=λv=>True) ?_ (qsM (pr:=λv=>True) ?_ qs0))))))))) ?_
   ·intro a w a7 D z
    have H:=z.E
    have hD : D 2 = false:=z.F
    have I:=M.tailP (m:=[_]) ((z.M.togA (pre:=[_,_,_,_,_,_]) hD).pl6)
    refine Zp H R (cbm func51) (BJ _ _ _ _ ca p0 e ao (bv.1,bv.2) I bw g1) ?_
    rintro v w a ⟨rfl,I⟩ H
    have I:=M.tailU (m:=[_]) I
    simp only [List.cons_append,List.nil_append] at I
    exact ⟨_,R,H,M.qTogS (mk1:=[]) (mk2:=[_,_]) I R (by show tog (Xg D 2 2) (raw ca (cat [[e],[vI bv.1],[Value.int .u64 bv.2]])) (raw ca (cat [[e],[vI bw.1.1],[Value.int .u64 bw.1.2]])) = _; rw [tg1 A9])⟩
   ·intro a w a7 D z
    have H:=z.E
    have hD : D 3 = false:=z.F
    have hM0:=z.M
    have I:=z.M
    refine Zp H R (cbm func41) (zt _ B.1 aw (I.sl1) ax (I.sl2) ay (I.sl3) bw.2 bb g2) ?_
    rintro _ w a ⟨h9,ia,u80,rfl,hFr,hK⟩ H
    have I:=V4 (x:=bb.1) (hM0.add hK hFr) sio sio sio
    have hsD : D 8 = false:=WH (j:=8) (k:=2) z.c R R R hD
    have I:=M.dOff (its:=_ :: [raw b9 (cV aw ax ay B.1),osl NoB (B.1.Keys : List V16) aw,osl NoB (B.1.Records : List GRecord) ax,osl NoB (B.1.Events : List GEvent) ay,raw b8 (enc r4.2.2.2),osl NoB (r4.2.2.1 : List UInt8) bi]) (mk1:=([([2],λbs _=>(tog (bs.getD 0 false) (raw ca (cat [[e],[vI bv.1],[Value.int .u64 bv.2]])) (raw ca (cat [[e],[vI bw.1.1],[Value.int .u64 bw.1.2]])))),mkO 3 (λv=>own NoB bb.1 (Value.cells (ZS v 0)).toList)] : Mk)) (mk2:=([] : Mk)) (i:=7) (s:=8) (k:=3) (z:=cat xa) (f:=(λv=>(Value.cells (ZS v 0)).toList)) I hsD
    exact ⟨_,_,R,H,M.dOn (its:=[raw b9 (cV aw ax ay B.1),osl NoB (B.1.Keys : List V16) aw,osl NoB (B.1.Records : List GRecord) ax,osl NoB (B.1.Events : List GEvent) ay,raw b8 (enc r4.2.2.2),osl NoB (r4.2.2.1 : List UInt8) bi]) (mk1:=([([2],λbs _=>(tog (bs.getD 0 false) (raw ca (cat [[e],[vI bv.1],[Value.int .u64 bv.2]])) (raw ca (cat [[e],[vI bw.1.1],[Value.int .u64 bw.1.2]])))),mkO 3 (λv=>own NoB bb.1 (Value.cells (ZS v 0)).toList)] : Mk)) (mk2:=([] : Mk)) (i:=7) (s:=8) (k:=3) (z:=cat xa) (f:=(λv=>(Value.cells (ZS v 0)).toList)) (M.qFill (its:=[raw b9 (cV aw ax ay B.1),osl NoB (B.1.Keys : List V16) aw,osl NoB (B.1.Records : List GRecord) ax,osl NoB (B.1.Events : List GEvent) ay,raw b8 (enc r4.2.2.2),osl NoB (r4.2.2.1 : List UInt8) bi]) (mk1:=[_]) (mk2:=[_]) (f:=(λv=>own NoB bb.1 (Value.cells (ZS v 0)).toList)) I R hD) hsD (by decide),⟨R,⟨_,R⟩⟩⟩
   ·intro a w a7 D z
    have H:=z.E
    have d3 : D 3 = true:=z.p 0 _ R R
    have g3:=z.G 3 d3 _ R
    have f3 : a7 3 = (Value.tuple [ZS (a7 3) 0,vI bb.2].toArray):=g3.2.1
    exact Zd H (lk R f3) λa H=>⟨o_5 _ _,J8 d3 HJ,_,R,H⟩
   ·intro a w a7 D z
    have H:=z.E
    have d4 : D 4 = true:=z.p 0 _ R R
    have d3 : D 3 = true:=z.c 4 _ _ R (List.mem_of_getElem? (i:=0) R) R d4
    exact ZM H Za ld R R λa H=>⟨o_5 _ _,J8 d3 HJ,_,R,H⟩
   ·intro a w a7 D z
    have H:=z.E
    have hD : D 7 = false:=z.F
    have I:=z.M
    refine Zw H I ZF ?_; intro ie w a I H
    have hs : D 8 = false:=WH (j:=8) (k:=0) z.c R R R hD
    exact ⟨_,_,R,H,M.qAllocD (mk1:=[_,_]) (mk2:=[]) I R hD hs (by decide),trivial⟩
   ·intro a w a7 D z
    have H:=z.E
    have hD : D 8 = false:=z.F
    have d7 : D 7 = true:=z.p 0 _ R R
    have d5 : D 5 = true:=z.p 1 _ R R
    have g5:=z.G 5 d5 _ R
    have d3 : D 3 = true:=g5.1 3 (show 3 ∈ [3] by decide)
    have I:=z.M.sure (pre:=[_,_,_,_,_,_,_]) d3
    obtain ⟨ab,ac,ad,cb,cl,cm,cn⟩:=Xx (I.rn7)
    have b4 : (ZS (a7 3) 0) = (vcV ab ac ad bb.1):=Jw cb (z.G 3 (by assumption) _ R).2.2
    obtain ⟨ii,dy,I⟩:=M.openCellF (pre:=[_,_,_,_,_,_,_,_]) I d7 hD
    refine Zk (seg:=cV ab ac ad bb.1) (cs':=cV ab ac ad bb.1) H I Za (lk R dy) (lk R b4) R ZF cq (q_1 cq cq) (ZC (cc1 (t_2 cl) (cc1 (s_1 (bb.1.Next : Int)) (cc1 (t_2 cm) (cc1 (t_2 cn) (cc1 (s_1 _) cc0)))))) (q_2 cq cq) ?_; intro w a I H
    have I:=(M.recell I (show _ = (Value.cells (ZS (a7 3) 0)).toList from by rw [b4]; rfl)).unsure (pre:=[_,_,_,_,_,_,_,_]) d3
    exact ⟨undef,_,R,Env.dummy H (by decide),M.qStoreD (its:=[raw b9 (cV aw ax ay B.1),osl NoB (B.1.Keys : List V16) aw,osl NoB (B.1.Records : List GRecord) ax,osl NoB (B.1.Events : List GEvent) ay,raw b8 (enc r4.2.2.2),osl NoB (r4.2.2.1 : List UInt8) bi]) (mk1:=[_,_]) (mk2:=[]) (i:=7) (s:=8) (k:=3) (z:=cat xa) (f:=(λv=>(Value.cells (ZS v 0)).toList)) I R d7 dy (by decide) (by decide),trivial⟩
   intro a w a7 D H I hG ar
   have d2:=ar 2 (by decide)
   have d3:=ar 3 (by decide)
   have d7:=ar 7 (by decide)
   have d8:=ar 8 (by decide)
   have I:=(I.togB (pre:=[_,_,_,_,_,_]) d2).sure (pre:=[_,_,_,_,_,_,_]) d3
   obtain ⟨ik,g4,I⟩:=M.openCellT (pre:=[_,_,_,_,_,_,_,_]) I d7 d8
   obtain ⟨ab,ac,ad,cb,_,_,_⟩:=Xx (I.rn8)
   have b4 : (ZS (a7 3) 0) = (vcV ab ac ad bb.1):=Jw cb (hG 3 d3 _ R).2.2
   have I:=I.pl8
   have I:=(V9 (I.recown (congrArg (λv=>(Value.cells v).toList) b4))).pl3
   have I:=M.recell (c':=cV ab ac ad bb.1) I (congrArg (λv=>(Value.cells v).toList) b4)
   have H:=H.setq (t:=119) R b4
   have H:=H.setq (t:=16) R g4
   refine Zc H R λa H=>Zj (Zz (Zb (Zd H R λa H=>Zn H R R R λa H=>Ze ?_)))
   refine c_if H R T ?_ ?_
   ·intro e8 T
    refine Zb (Zq H R ZF R I.ra0 cq λa H=>Zd H R λa H=>Zq H R ZE R I.ra8 (u_1 _) ?_); intro a H
    obtain ⟨dc,g6,T⟩:=p_1 T
    refine Zp H R (cbm func42) (ym _ bb.1 ab (I.rn1) ac (I.rn2) ad (I.rn3) B.2.1 r4.2.2.2 dc g6) ?_
    rintro v w a ⟨ed,ee,ef,rfl,hFr,hK⟩ H
    have I:=I.add hK hFr
    refine Zd H R λa H=>ZM H Za ld R R λa H=>ZM H Za ld R R λa H=>Zw H I ZF λil w a I H=>Zk (seg:=cV ed ee ef dc.1) (cs':=cV ed ee ef dc.1) H I Za R R R ZF cq (q_1 cq cq) (ZC (cc1 (t_2 (I.sl1)) (cc1 (s_1 (dc.1.Next : Int)) (cc1 (t_2 (I.sl2)) (cc1 (t_2 (I.sl3)) (cc1 (s_1 _) cc0)))))) (q_2 cq cq) λw a I H=>Zc H R λa H=>Ze (Zb (Zd H R λa H=>Zn H R R R λa H=>Ze ?_))
    refine c_if H R T ?_ ?_
    ·intro e9 T
     refine Zb (Zq H R ZF R I.ra0 cq λa H=>Zd H R ?_); intro a H
     obtain ⟨dd,fa,T⟩:=p_1 T
     refine Zp H R cb43 (Kg _ dc.1 ed (I.sl1) ee (I.sl2) ef (I.sl3) B.2.1 dd fa) ?_
     rintro v w a ⟨fb,rfl,hFr,hK⟩ H
     have I:=I.add hK hFr
     refine Zd H R λa H=>ZM H Za ld R R λa H=>ZM H Za ld R R λa H=>Zc H R λa H=>Zc H R λa H=>Ze ?_
     obtain ⟨fc,a8,bx⟩:=p_1 T
     refine ZJ (λa w=>Env 291 a [(0,e),(145,vT fc)] ∧ M (Old w0) w0 w []) ?_ ?_
     ·refine t_1 (Zd H R λa H=>Zn H R R R λa H=>Zd H R ?_); intro a H
      refine Ys (dd.2 != 0) (λak=>?_) (λak=>?_)
      ·have a8:=Zt a8 ak
       refine k_s H ak R R R λa H=>k_s H ak R R R λa H=>k_s H ak R R R λa H=>k_s H ak R R R λa H=>ZU H (lkb R ak) R λa H=>Zj ?_
       obtain rfl:=o_1 a8
       refine Zm ?_
       have I:=M.fst (l:=[]) I
       exact ⟨H.s,I⟩
      have a8:=Zs a8 ak
      refine Zo H (Zi H R (lkb R ak)) (by decide) R λa H=>Zo H (Zi H R (lkb R ak)) (by decide) R ?_; intro a H
      obtain ⟨fd,fe,a8⟩:=p_1 a8
      refine Yd H (Zi H R (lkb R ak)) (by decide) R cb50 (KR _ dd.1 fb (I.sl0) r4.2.2.1 bi (I.sl14) fd fe) ?_
      rintro v w a ⟨rfl,hK⟩ H
      have I:=I.keep hK
      refine KW H (Zi H R (lkb R ak)) (by decide) R λa H=>Ye H (lkb R ak) R λa H=>Zj ?_
      obtain rfl:=o_1 a8
      refine Zm ?_
      have I:=M.fst (l:=[]) I
      exact ⟨H.s,I⟩
     rintro a w ⟨H,I⟩
     refine c_if H R bx ?_ ?_
     ·intro eg bx
      refine Zb (Zc H R λa H=>Ze ?_)
      obtain rfl:=o_1 bx
      obtain rfl:=o_1 be
      exact p_3 (ZI (kr1 H R R I.kept))
     intro eg bx
     refine u_2 ?_
     obtain rfl:=o_1 bx
     refine Zm ?_
     exact ⟨(),R,H.s,I⟩
    intro e9 T
    refine u_2 ?_
    obtain rfl:=o_1 T
    refine Zm ?_
    have I:=M.fst (l:=[]) I
    exact ⟨(),R,H.s,I⟩
   intro e8 T
   refine u_2 ?_
   obtain rfl:=o_1 T
   refine Zm ?_
   have I:=M.fst (l:=[]) I
   exact ⟨(),R,H.s,I⟩
  intro e4 bu
  refine u_2 ?_
  obtain rfl:=o_1 bu
  refine Zm ?_
  have I:=M.fst (l:=[]) I
  exact ⟨(),R,H.s,I⟩
 rintro a w ⟨e3,ht,H,I⟩
 subst ht
 have be:=Kv be
 refine Zb (Zd H R ?_); intro a H
 obtain ⟨b5,ff,be⟩:=p_1 be
 refine c_k H I R (cbm func52) (BA _ p0 e (I.rdo ao) b5 ff) ?_; intro w a I H
 refine Zw H I ZE λfg w a I H=>Zk (seg:=enc b5) (cs':=enc b5) H I Za R R R ZE (u_1 _) (zle flq) (s_1 _) (Zh flq) λw a I H=>Ze (Zb (Zq H R ZE R I.ra0 (u_1 _) ?_)); intro a H
 obtain ⟨a0,fh,be⟩:=p_1 be
 refine Zp H R (cbm func40) (z7 _ b5 a0 fh) ?_
 rintro v w a ⟨bn,bo,bp,rfl,hFr,hK⟩ H
 have I:=I.add hK hFr
 refine Zw H I ZF λU w a I H=>Zk (seg:=cV bn bo bp a0) (cs':=cV bn bo bp a0) H I Za R R R ZF cq (q_1 cq cq) (ZC (cc1 (t_2 (I.sl1)) (cc1 (s_1 (a0.Next : Int)) (cc1 (t_2 (I.sl2)) (cc1 (t_2 (I.sl3)) (cc1 (s_1 _) cc0)))))) (q_2 cq cq) λw a I H=>Ze (s_2 ?_)
 obtain ⟨fi,bz,a1⟩:=p_1 be
 refine ZJ (λa w=>Env 291 a [(0,e),(23,ptr U 0),(154,vT fi)] ∧ M (Old w0) w0 w [raw U (cV bn bo bp a0),osl NoB (a0.Keys : List V16) bn,osl NoB (a0.Records : List GRecord) bo,osl NoB (a0.Events : List GEvent) bp]) ?_ ?_
 ·obtain ⟨b6,fj,bz⟩:=p_1 bz
  refine Yl (its:=[raw U (cV bn bo bp a0),osl NoB (a0.Keys : List V16) bn,osl NoB (a0.Records : List GRecord) bo,osl NoB (a0.Events : List GEvent) bp,raw fg (enc b5)]) (mk:=([mkO 2 (λv=>own NoB b6 (Value.cells v).toList)] : Mk)) [150,151,152] Yt R R (by decide) R H (λu=>M.qE (M.q0 I.drew u) emO) (qsP (λz=>Zx z.E Za ld R ZF R (z.M.ra0) cq (kr0 R)) (qsP (λz=>Zx z.E Za ld R ZE R (z.M.ra4) (u_1 _) (kr0 R)) (qsM (pr:=λv=>∃ cs,v = .agg cs) ?_ qs0))) ?_
  ·intro a w de D z
   have H:=z.E
   have hD : D 2 = false:=z.F
   have hM0:=z.M
   have I:=z.M
   refine Zp H R (cbm func53) (Hw _ b5 b6 fj) ?_
   rintro _ w a ⟨hf,hg,hh,rfl,hFr,hK⟩ H
   have I:=V4 (x:=b6) (hM0.add hK hFr) sio sio sio
   exact ⟨_,_,R,H,M.qFill (mk1:=[]) (mk2:=[]) (f:=(λv=>own NoB b6 (Value.cells v).toList)) I R hD,⟨_,R⟩⟩
  intro a w de D H I hG ar
  have d2:=ar 2 (by decide)
  have I:=I.sure (pre:=[_,_,_,_,_]) d2
  obtain ⟨bq,br,bt,cb,_,_,_⟩:=Xx (I.rn5)
  have dg : (de 2) = (vcV bq br bt b6):=Jw cb (hG 2 d2 _ R).2
  have I:=I.pl5
  have I:=V9 (I.recown (congrArg (λv=>(Value.cells v).toList) dg))
  have H:=H.setq (t:=152) R dg
  obtain ⟨fk,fl,bz⟩:=p_1 bz
  refine c_k H I R cb47 (JO _ a0 bn (I.sl4) bo (I.sl5) bp (I.sl6) b6 bq (I.rn0) br (I.rn1) bt (I.rn2) fk fl) ?_; intro w a I H
  refine JD H R λa H=>Zj ?_
  obtain rfl:=o_1 bz
  refine Zm ?_
  have I:=M.fst (l:=[_,_,_,_]) I.pl6.pl6.pl6.pl6
  exact ⟨H.s,I⟩
 rintro a w ⟨H,I⟩
 refine c_if H R a1 ?_ ?_
 ·intro eh a1
  refine Zb (Zc H R λa H=>Ze ?_)
  obtain rfl:=o_1 a1
  exact p_3 (ZI (kr1 H R R I.kept))
 intro eh a1
 refine u_2 (Zz (Zb (Zd H R ?_))); intro a H
 have I:=M.tailP (m:=[]) I
 obtain ⟨dh,fm,a1⟩:=p_1 a1
 refine Zp H R (cbm func26) (zY _ _ _ _ p0 e ao 908 I dh fm) ?_
 rintro v w a ⟨y,rfl,I⟩ H
 have I:=M.tailU (m:=[_]) I
 simp only [List.cons_append,List.nil_append] at I
 refine Zc H R λa H=>Ze (s_2 (Zb (Zd H R ?_))); intro a H
 have I:=M.tailP (m:=[_]) I
 obtain ⟨fn,fo,a1⟩:=p_1 a1
 refine Zp H R cb29 (Ur _ _ _ _ y p0 e ao (dh.1,dh.2) 4 I fn fo) ?_
 rintro v w a ⟨rfl,I⟩ H
 have I:=M.tailU (m:=[_]) I
 simp only [List.cons_append,List.nil_append] at I
 refine Zn H R R R λa H=>Zc H R λa H=>Ze ?_
 obtain ⟨fp,ei,bc⟩:=p_1 a1
 refine Z7 (λa w=>∃ d : xv × Int × (List GRecord) × xu × V32,fp = Fl.nx d ∧ ∃ Z al an : Value,Env 291 a [(23,ptr U 0)] ∧ M (Old w0) w0 w [raw U (cat [[Z],[vI d.2.1],[al],[an],enc d.2.2.2.2]),osl NoB (d.1 : List V16) Z,osl NoB (d.2.2.1 : List GRecord) al,osl NoB (d.2.2.2.1 : List GEvent) an]) ?_ ?_
 ·refine p_2 ?_
  refine ZR (λ(b : xv × Int × (List GRecord) × xu × V32 × Int × Int × Int) a w=>∃ ag ah ai : Value,Env 291 a [(23,ptr U 0),(24,ptr y 0),(25,vI b.2.2.2.2.2.2.2)] ∧ M (Old w0) w0 w [raw y (cat [[e],[vI b.2.2.2.2.2.1],[Value.int .u64 b.2.2.2.2.2.2.1]]),raw U (cat [[ag],[vI b.2.1],[ah],[ai],enc b.2.2.2.2.1]),osl NoB (b.1 : List V16) ag,osl NoB (b.2.2.1 : List GRecord) ah,osl NoB (b.2.2.2.1 : List GEvent) ai]) ei ⟨bn,bo,bp,H.s,I⟩ ?_
  rintro b a w ⟨ag,ah,ai,H,I⟩ hi bj cw
  unfold U2 at bj
  refine s_2 (Zb (Zd H R λa H=>Zn H R R R λa H=>Ze ?_))
  refine c_if H R bj ?_ ?_
  ·intro ej bj
   refine u_2 (Zz ?_)
   obtain ⟨fq,W,b0⟩:=p_1 bj
   refine ZJ (λa w=>∃ bg : xv × Int × (List GRecord) × xu × V32 × Int × Int,fq = Fl.nx bg ∧ ∃ c1 c2 c3 : Value,Env 291 a [(23,ptr U 0),(24,ptr y 0),(25,vI b.2.2.2.2.2.2.2)] ∧ M (Old w0) w0 w [raw y (cat [[e],[vI bg.2.2.2.2.2.1],[Value.int .u64 bg.2.2.2.2.2.2]]),raw U (cat [[c1],[vI bg.2.1],[c2],[c3],enc bg.2.2.2.2.1]),osl NoB (bg.1 : List V16) c1,osl NoB (bg.2.2.1 : List GRecord) c2,osl NoB (bg.2.2.2.1 : List GEvent) c3]) ?_ ?_
   ·refine p_2 (Zb (Zd H R ?_)); intro a H
    have I:=M.tailP (m:=[_]) I
    obtain ⟨L,fr,W⟩:=p_1 W
    refine Zp H R (cbm func51) (BJ _ _ _ _ y p0 e ao (b.2.2.2.2.2.1,b.2.2.2.2.2.2.1) I L fr) ?_
    rintro v w a ⟨rfl,I⟩ H
    have I:=M.tailU (m:=[_]) I
    simp only [List.cons_append,List.nil_append] at I
    refine Zw H I ZE λb1 w a I H=>Zk (seg:=enc L.2) (cs':=enc L.2) H I Za R R R ZE (u_1 _) (zle flq) (s_1 _) (Zh flq) λw a I H=>Ze (Zb (Zd H R λa H=>YX H Za ld R s_4 t_3 ?_)); intro a H
    obtain ⟨hj,cx,W⟩:=bvx W
    refine ZO H R R u_3 ty5 cx.1 λa H=>Zk (seg:=[vB (Zv b.2.2.2.2.2.2.2)]) (cs':=enc (L.2.setIfInBounds (xj).toNat (Zv b.2.2.2.2.2.2.2))) H I Za R R R ty5 R (Ya (v:=L.2) (x:=Zv b.2.2.2.2.2.2.2) cx.1) (s_1 (Zv b.2.2.2.2.2.2.2 : UInt8)) (ZP (v:=L.2) (x:=Zv b.2.2.2.2.2.2.2) cx.1) λw a I H=>Ze (s_2 ?_)
    have I:=I.pl1
    obtain ⟨am,fs,W⟩:=p_1 W
    obtain ⟨X,ft,W⟩:=p_1 W
    obtain ⟨A,fu,W⟩:=p_1 W
    refine Yl (its:=[raw b1 (enc (L.2.setIfInBounds (xj).toNat (Zv b.2.2.2.2.2.2.2))),raw U (cat [[ag],[vI b.2.1],[ah],[ai],enc b.2.2.2.2.1]),osl NoB (b.1 : List V16) ag,osl NoB (b.2.2.1 : List GRecord) ah,osl NoB (b.2.2.2.1 : List GEvent) ai]) (mk:=([([6,7],λbs _=>(tog (bs.getD 0 false) (raw y (cat [[e],[vI L.1.1],[Value.int .u64 L.1.2]])) (tog (bs.getD 1 false) (raw y (cat [[e],[vI am.1.1],[Value.int .u64 am.1.2]])) (raw y (cat [[e],[vI X.1.1],[Value.int .u64 X.1.2]]))))),mkO 3 (λv=>osl NoB (([Zv b.2.2.2.2.2.2.2] : List UInt8) : List UInt8) v),mkO 7 (λv=>osl NoB (X.2 : List UInt8) v),mkO 9 (λv=>own NoB A.1 (Value.cells (ZS v 0)).toList),mkD 14 15 9 xi (λv=>(Value.cells (ZS v 0)).toList)] : Mk)) [170,171,172,173,174,175,176,177,178,179,169,180,181,182,27,306,28] Yt R R (by decide) R H (λu=>M.qS (M.qE (M.qE (M.qE (M.qE (M.q0 I.drew u) emD) emO) emO) emO) λ_=>R) (qsP (λz=>Zx z.E Za ld R ZF R (z.M.ra1) cq (kr0 R)) (q_m (λ_=>R) (qsP (λz=>YX z.E Za ld R s_4 t_3 (kr0 R)) (qsM (pr:=λv=>True) ?_ (q_m (λ_=>R) (q_m (λ_=>R) (qsV (v:=(vI am.2)) ?_ (qsM (pr:=λv=>True) ?_ (qsP (λz=>Zx z.E Za ld R ZE R (z.M.ra0) (u_1 _) (kr0 R)) (qsM (pr:=λv=>v = (Value.tuple [ZS v 0,vI A.2.1,vI A.2.2].toArray) ∧ ∃ cs,(ZS v 0) = .agg cs) ?_ (qsD (ds:=[9]) (f:=λus=>(Value.tuple [ZS (us.getD 0 undef) 0,vI A.2.1,vI A.2.2].toArray)) ?_ (qsD (ds:=[9]) (f:=λus=>(ZS (us.getD 0 undef) 0)) ?_ (qsP (λz=>ZM z.E Za ld R R (kr0 R)) (qsP (λz=>ZM z.E Za ld R R (kr0 R)) (qsM (pr:=λv=>True) ?_ (qsM (pr:=λv=>True) ?_ (qsP (λz=>T9 z.E Za ld R (kr0 R)) qs0))))))))))))))))) ?_
    ·intro a w ae D z
     have H:=z.E
     have hD : D 3 = false:=z.F
     have I:=z.M
     exact ZL (xs:=[.tmp 172]) (l:=([Zv b.2.2.2.2.2.2.2] : List UInt8)) (vs:=[vB (Zv b.2.2.2.2.2.2.2)]) H I Za ld R R o_2 ty5 R (by decide) R λhk w a I H=>⟨_,_,R,H,M.qFill (mk1:=[_]) (mk2:=[_,_,_]) (f:=(λv=>osl NoB (([Zv b.2.2.2.2.2.2.2] : List UInt8) : List UInt8) v)) I R hD,trivial⟩
    ·intro a w ae D z
     have H:=z.E
     have hD : D 6 = false:=z.F
     have I:=z.M.togA (pre:=[_,_,_,_,_]) hD
     have hNx : D 7 = false:=WH (j:=7) (k:=1) z.c R R R hD
     have I:=M.tailP (m:=[_]) I.pl5
     refine Zp H R cb29 (Ur _ _ _ _ y p0 e ao (L.1.1,L.1.2) 20 I am fs) ?_
     rintro v w a ⟨rfl,I⟩ H
     have I:=M.tailU (m:=[_]) I
     simp only [List.cons_append,List.nil_append] at I
     exact ⟨_,R,H,M.qTogS (mk1:=[]) (mk2:=[_,_,_,_]) I R (by show tog (Xg D 6 6) (raw y (cat [[e],[vI L.1.1],[Value.int .u64 L.1.2]])) (tog (Xg D 6 7) (raw y (cat [[e],[vI am.1.1],[Value.int .u64 am.1.2]])) (raw y (cat [[e],[vI X.1.1],[Value.int .u64 X.1.2]]))) = _; rw [tg1 A9,tg0 (updN (i:=6) hNx (by decide))])⟩
    ·intro a w ae D z
     have H:=z.E
     have hD : D 7 = false:=z.F
     have I:=z.M
     have fv : D 6 = true:=z.p 1 _ R R
     have I:=M.tailP (m:=[_]) (((I.togB (pre:=[_,_,_,_,_]) fv).togA (pre:=[_,_,_,_,_]) hD).pl5)
     refine Zp H R (cbm func54) (qw _ _ _ _ y p0 e ao (am.1.1,am.1.2) am.2 I X ft) ?_
     rintro hl w a ⟨_,rfl,I⟩ H
     have I:=M.tailU (m:=[_,_]) I
     simp only [List.cons_append,List.nil_append] at I
     have I:=I.pl7.pl1.pl7.pl7.pl7.pl7.pl7.pl7
     exact ⟨_,_,R,H,M.qUnconst (p:=([6,7],λbs _=>(tog (bs.getD 0 false) (raw y (cat [[e],[vI L.1.1],[Value.int .u64 L.1.2]])) (tog (bs.getD 1 false) (raw y (cat [[e],[vI am.1.1],[Value.int .u64 am.1.2]])) (raw y (cat [[e],[vI X.1.1],[Value.int .u64 X.1.2]])))))) (its:=[raw b1 (enc (L.2.setIfInBounds (xj).toNat (Zv b.2.2.2.2.2.2.2))),raw U (cat [[ag],[vI b.2.1],[ah],[ai],enc b.2.2.2.2.1]),osl NoB (b.1 : List V16) ag,osl NoB (b.2.2.1 : List GRecord) ah,osl NoB (b.2.2.2.1 : List GEvent) ai]) (mk1:=([] : Mk)) (mk2:=([mkO 3 (λv=>osl NoB (([Zv b.2.2.2.2.2.2.2] : List UInt8) : List UInt8) v),mkO 7 (λv=>osl NoB (X.2 : List UInt8) v),mkO 9 (λv=>own NoB A.1 (Value.cells (ZS v 0)).toList),mkD 14 15 9 xi (λv=>(Value.cells (ZS v 0)).toList)] : Mk)) (M.qFill (its:=[raw b1 (enc (L.2.setIfInBounds (xj).toNat (Zv b.2.2.2.2.2.2.2))),raw U (cat [[ag],[vI b.2.1],[ah],[ai],enc b.2.2.2.2.1]),osl NoB (b.1 : List V16) ag,osl NoB (b.2.2.1 : List GRecord) ah,osl NoB (b.2.2.2.1 : List GEvent) ai]) (mk1:=([([],λ_ _=>raw y (cat [[e],[vI X.1.1],[Value.int .u64 X.1.2]])),mkO 3 (λv=>osl NoB (([Zv b.2.2.2.2.2.2.2] : List UInt8) : List UInt8) v)] : Mk)) (mk2:=([mkO 9 (λv=>own NoB A.1 (Value.cells (ZS v 0)).toList),mkD 14 15 9 xi (λv=>(Value.cells (ZS v 0)).toList)] : Mk)) (f:=(λv=>osl NoB (X.2 : List UInt8) v)) I R hD) (by show tog (Xg D 7 6) (raw y (cat [[e],[vI L.1.1],[Value.int .u64 L.1.2]])) (tog (Xg D 7 7) (raw y (cat [[e],[vI am.1.1],[Value.int .u64 am.1.2]])) (raw y (cat [[e],[vI X.1.1],[Value.int .u64 X.1.2]]))) = _; rw [tg1 (updK fv),tg1 A9]),trivial⟩
    ·intro a w ae D z
     have H:=z.E
     have hD : D 9 = false:=z.F
     have d3 : D 3 = true:=z.p 1 _ R R
     have d7 : D 7 = true:=z.p 2 _ R R
     have hM0:=z.M
     have I:=(z.M.sure (pre:=[_,_,_,_,_,_]) d3).sure (pre:=[_,_,_,_,_,_,_]) d7
     refine Zp H R (cbm func39) (Hy _ (⟨b.1,b.2.1,b.2.2.1,b.2.2.2.1,b.2.2.2.2.1⟩ : GVault) ag (I.sl2) ah (I.sl3) ai (I.sl4) ([Zv b.2.2.2.2.2.2.2] : List UInt8) (ae 3) (I.sl6) X.2 (ae 7) (I.sl7) (L.2.setIfInBounds (xj).toNat (Zv b.2.2.2.2.2.2.2)) A fu) ?_
     rintro _ w a ⟨hm,hn,ho,rfl,hFr,hK⟩ H
     have I:=V4 (x:=A.1) (hM0.add hK hFr) sio sio sio
     have hsD : D 15 = false:=WH (j:=15) (k:=2) z.c R R R hD
     have I:=M.dOff (its:=_ :: [raw b1 (enc (L.2.setIfInBounds (xj).toNat (Zv b.2.2.2.2.2.2.2))),raw U (cat [[ag],[vI b.2.1],[ah],[ai],enc b.2.2.2.2.1]),osl NoB (b.1 : List V16) ag,osl NoB (b.2.2.1 : List GRecord) ah,osl NoB (b.2.2.2.1 : List GEvent) ai]) (mk1:=([([6,7],λbs _=>(tog (bs.getD 0 false) (raw y (cat [[e],[vI L.1.1],[Value.int .u64 L.1.2]])) (tog (bs.getD 1 false) (raw y (cat [[e],[vI am.1.1],[Value.int .u64 am.1.2]])) (raw y (cat [[e],[vI X.1.1],[Value.int .u64 X.1.2]]))))),mkO 3 (λv=>osl NoB (([Zv b.2.2.2.2.2.2.2] : List UInt8) : List UInt8) v),mkO 7 (λv=>osl NoB (X.2 : List UInt8) v),mkO 9 (λv=>own NoB A.1 (Value.cells (ZS v 0)).toList)] : Mk)) (mk2:=([] : Mk)) (i:=14) (s:=15) (k:=9) (z:=cat xa) (f:=(λv=>(Value.cells (ZS v 0)).toList)) I hsD
     exact ⟨_,_,R,H,M.dOn (its:=[raw b1 (enc (L.2.setIfInBounds (xj).toNat (Zv b.2.2.2.2.2.2.2))),raw U (cat [[ag],[vI b.2.1],[ah],[ai],enc b.2.2.2.2.1]),osl NoB (b.1 : List V16) ag,osl NoB (b.2.2.1 : List GRecord) ah,osl NoB (b.2.2.2.1 : List GEvent) ai]) (mk1:=([([6,7],λbs _=>(tog (bs.getD 0 false) (raw y (cat [[e],[vI L.1.1],[Value.int .u64 L.1.2]])) (tog (bs.getD 1 false) (raw y (cat [[e],[vI am.1.1],[Value.int .u64 am.1.2]])) (raw y (cat [[e],[vI X.1.1],[Value.int .u64 X.1.2]]))))),mkO 3 (λv=>osl NoB (([Zv b.2.2.2.2.2.2.2] : List UInt8) : List UInt8) v),mkO 7 (λv=>osl NoB (X.2 : List UInt8) v),mkO 9 (λv=>own NoB A.1 (Value.cells (ZS v 0)).toList)] : Mk)) (mk2:=([] : Mk)) (i:=14) (s:=15) (k:=9) (z:=cat xa) (f:=(λv=>(Value.cells (ZS v 0)).toList)) (M.qFill (its:=[raw b1 (enc (L.2.setIfInBounds (xj).toNat (Zv b.2.2.2.2.2.2.2))),raw U (cat [[ag],[vI b.2.1],[ah],[ai],enc b.2.2.2.2.1]),osl NoB (b.1 : List V16) ag,osl NoB (b.2.2.1 : List GRecord) ah,osl NoB (b.2.2.2.1 : List GEvent) ai]) (mk1:=[_,_,_]) (mk2:=[_]) (f:=(λv=>own NoB A.1 (Value.cells (ZS v 0)).toList)) I R hD) hsD (by decide),⟨R,⟨_,R⟩⟩⟩
    ·intro a w ae D z
     have H:=z.E
     have d9 : D 9 = true:=z.p 0 _ R R
     have g9:=z.G 9 d9 _ R
     have f9 : ae 9 = (Value.tuple [ZS (ae 9) 0,vI A.2.1,vI A.2.2].toArray):=g9.2.1
     exact Zd H (lk R f9) λa H=>⟨o_5 _ _,J8 d9 HJ,_,R,H⟩
    ·intro a w ae D z
     have H:=z.E
     have g7 : D 10 = true:=z.p 0 _ R R
     have d9 : D 9 = true:=z.c 10 _ _ R (List.mem_of_getElem? (i:=0) R) R g7
     exact ZM H Za ld R R λa H=>⟨o_5 _ _,J8 d9 HJ,_,R,H⟩
    ·intro a w ae D z
     have H:=z.E
     have hD : D 14 = false:=z.F
     have I:=z.M
     refine Zw H I ZF ?_; intro hp w a I H
     have hs : D 15 = false:=WH (j:=15) (k:=0) z.c R R R hD
     exact ⟨_,_,R,H,M.qAllocD (mk1:=[_,_,_,_]) (mk2:=[]) I R hD hs (by decide),trivial⟩
    ·intro a w ae D z
     have H:=z.E
     have hD : D 15 = false:=z.F
     have dx : D 14 = true:=z.p 0 _ R R
     have g8 : D 11 = true:=z.p 1 _ R R
     have ha:=z.G 11 g8 _ R
     have d9 : D 9 = true:=ha.1 9 (show 9 ∈ [9] by decide)
     have I:=z.M.sure (pre:=[_,_,_,_,_,_,_,_]) d9
     obtain ⟨n,o,q,cb,cc,cd,cf⟩:=Xx (I.rn8)
     have bk : (ZS (ae 9) 0) = (vcV n o q A.1):=Jw cb (z.G 9 (by assumption) _ R).2.2
     obtain ⟨hq,di,I⟩:=M.openCellF (pre:=[_,_,_,_,_,_,_,_,_]) I dx hD
     refine Zk (seg:=cV n o q A.1) (cs':=cV n o q A.1) H I Za (lk R di) (lk R bk) R ZF cq (q_1 cq cq) (ZC (cc1 (t_2 cc) (cc1 (s_1 (A.1.Next : Int)) (cc1 (t_2 cd) (cc1 (t_2 cf) (cc1 (s_1 _) cc0)))))) (q_2 cq cq) ?_; intro w a I H
     have I:=(M.recell I (show _ = (Value.cells (ZS (ae 9) 0)).toList from by rw [bk]; rfl)).unsure (pre:=[_,_,_,_,_,_,_,_,_]) d9
     exact ⟨undef,_,R,Env.dummy H (by decide),M.qStoreD (its:=[raw b1 (enc (L.2.setIfInBounds (xj).toNat (Zv b.2.2.2.2.2.2.2))),raw U (cat [[ag],[vI b.2.1],[ah],[ai],enc b.2.2.2.2.1]),osl NoB (b.1 : List V16) ag,osl NoB (b.2.2.1 : List GRecord) ah,osl NoB (b.2.2.2.1 : List GEvent) ai]) (mk1:=[_,_,_,_]) (mk2:=[]) (i:=14) (s:=15) (k:=9) (z:=cat xa) (f:=(λv=>(Value.cells (ZS v 0)).toList)) I R dx di (by decide) (by decide),trivial⟩
    intro a w ae D H I hG ar
    have d3:=ar 3 (by decide)
    have d6:=ar 6 (by decide)
    have d7:=ar 7 (by decide)
    have d9:=ar 9 (by decide)
    have dx:=ar 14 (by decide)
    have hb:=ar 15 (by decide)
    have I:=((((I.togB (pre:=[_,_,_,_,_]) d6).togB (pre:=[_,_,_,_,_]) d7).sure (pre:=[_,_,_,_,_,_]) d3).sure (pre:=[_,_,_,_,_,_,_]) d7).sure (pre:=[_,_,_,_,_,_,_,_]) d9
    obtain ⟨hr,fw,I⟩:=M.openCellT (pre:=[_,_,_,_,_,_,_,_,_]) I dx hb
    obtain ⟨n,o,q,cb,_,_,_⟩:=Xx (I.rn9)
    have bk : (ZS (ae 9) 0) = (vcV n o q A.1):=Jw cb (hG 9 d9 _ R).2.2
    have I:=I.pl9
    have I:=(V9 (I.recown (congrArg (λv=>(Value.cells v).toList) bk))).pl3
    have I:=M.recell (c':=cV n o q A.1) I (congrArg (λv=>(Value.cells v).toList) bk)
    have H:=H.setq (t:=180) R bk
    have H:=H.setq (t:=27) R fw
    refine Zc H R λa H=>Zj (Zz (s_2 (Zb (Zd H R λa H=>Zn H R R R λa H=>Ze ?_))))
    refine c_if H R W ?_ ?_
    ·intro ek W
     refine Zb (Zc H R λa H=>Ze ?_)
     obtain rfl:=o_1 W
     obtain rfl:=cw _ (ois b0)
     obtain rfl:=o_1 bc
     exact p_3 (ZI (Xl (ZI (ZI (Xl (ZI (ZI (kr1 H R R I.kept))))))))
    intro ek W
    refine u_2 (Zz (Zb (Zq H R ZF R I.ra0 cq ?_))); intro a H
    have I:=I.pl5
    refine Zk (seg:=cV n o q A.1) (cs':=cV n o q A.1) H I Za R R R ZF cq (q_1 cq cq) (ZC (cc1 (t_2 (I.rn2)) (cc1 (s_1 (A.1.Next : Int)) (cc1 (t_2 (I.rn3)) (cc1 (t_2 (I.rn4)) (cc1 (s_1 _) cc0)))))) (q_2 cq cq) λw a I H=>Ze (Zb (Zd H R ?_)); intro a H
    have I:=M.tailP (m:=[_]) I.pl9
    obtain ⟨co,fx,W⟩:=p_1 W
    refine Zp H R cb29 (Ur _ _ _ _ y p0 e ao (X.1.1,X.1.2) 4 I co fx) ?_
    rintro v w a ⟨rfl,I⟩ H
    have I:=M.tailU (m:=[_]) I
    simp only [List.cons_append,List.nil_append] at I
    refine Zn H R R R λa H=>Ze ?_
    obtain ⟨fy,au,cg⟩:=p_1 W
    refine Z7 (λa w=>∃ a4 : xv × Int × (List GRecord) × xu × V32,fy = Fl.nx a4 ∧ ∃ c4 c5 c6 : Value,Env 291 a [(23,ptr U 0),(24,ptr y 0),(25,vI b.2.2.2.2.2.2.2)] ∧ M (Old w0) w0 w [raw y (cat [[e],[vI co.1.1],[Value.int .u64 co.1.2]]),raw U (cat [[c4],[vI a4.2.1],[c5],[c6],enc a4.2.2.2.2]),osl NoB (a4.1 : List V16) c4,osl NoB (a4.2.2.1 : List GRecord) c5,osl NoB (a4.2.2.2.1 : List GEvent) c6]) ?_ ?_
    ·refine c_if H R au ?_ ?_
     ·intro em au
      refine Zb (Zq H R ZF R I.ra1 cq λa H=>Zd H R ?_); intro a H
      obtain ⟨a5,fz,au⟩:=p_1 au
      refine Zp H R (cbm func55) (Ak _ A.1 n (I.rn3) o (I.rn4) q (I.rn5) A.2.1 a5 fz) ?_
      rintro v w a ⟨cp,cr,ct,rfl,hFr,hK⟩ H
      have I:=I.add hK hFr
      refine Zd H R λa H=>ZM H Za ld R R λa H=>ZM H Za ld R R λa H=>Zw H I ZF λhu w a I H=>Zk (seg:=cV cp cr ct a5.1) (cs':=cV cp cr ct a5.1) H I Za R R R ZF cq (q_1 cq cq) (ZC (cc1 (t_2 (I.sl1)) (cc1 (s_1 (a5.1.Next : Int)) (cc1 (t_2 (I.sl2)) (cc1 (t_2 (I.sl3)) (cc1 (s_1 _) cc0)))))) (q_2 cq cq) λw a I H=>Zc H R λa H=>Ze (s_2 (Zb (Zd H R λa H=>Zn H R R R λa H=>Ze ?_)))
      refine c_if H R au ?_ ?_
      ·intro en au
       refine Zb (Zc H R λa H=>Ze ?_)
       obtain rfl:=o_1 au
       obtain rfl:=o_1 cg
       obtain rfl:=cw _ (ois b0)
       obtain rfl:=o_1 bc
       exact p_3 (ZI (ZI (Xl (ZI (ZI (Xl (ZI (ZI (kr1 H R R I.kept)))))))))
      intro en au
      refine u_2 (Zz (t_1 (Zq H R ZF R I.ra0 cq ?_))); intro a H
      have I:=I.pl5
      refine Zk (seg:=cV cp cr ct a5.1) (cs':=cV cp cr ct a5.1) H I Za R R R ZF cq (q_1 cq cq) (ZC (cc1 (t_2 (I.sl2)) (cc1 (s_1 (a5.1.Next : Int)) (cc1 (t_2 (I.sl3)) (cc1 (t_2 (I.sl4)) (cc1 (s_1 _) cc0)))))) (q_2 cq cq) λw a I H=>Zj ?_
      obtain rfl:=o_1 au
      refine Zm ?_
      have I:=M.fst (l:=[_,_,_,_,_]) I.pl4.pl4.pl4.pl3.pl5
      exact ⟨(a5.1.Keys,a5.1.Next,a5.1.Records,a5.1.Events,a5.1.Head),R,cp,cr,ct,H.s,I⟩
     intro em au
     refine u_2 ?_
     obtain rfl:=o_1 au
     refine Zm ?_
     have I:=M.fst (l:=[_,_,_,_,_]) I.pl3.toOsl0.pl4.toOsl0.pl5.toOsl0.pl1.pl2.pl4.pl4
     exact ⟨(A.1.Keys,A.1.Next,A.1.Records,A.1.Events,A.1.Head),R,n,o,q,H.s,I⟩
    rintro a w ⟨a4,ht,c4,c5,c6,H,I⟩
    subst ht
    have cg:=Kv cg
    refine YA ?_
    obtain rfl:=o_1 cg
    refine Zm ?_
    exact ⟨(a4.1,a4.2.1,a4.2.2.1,a4.2.2.2.1,a4.2.2.2.2,co.1.1,co.1.2),R,c4,c5,c6,H.s,I⟩
   rintro a w ⟨bg,ht,c1,c2,c3,H,I⟩
   subst ht
   have b0:=Kv b0
   refine t_1 (Zd H R λa H=>Zn H R R R λa H=>Zc H R λa H=>Zj (Zm ?_))
   exact ⟨_,ois b0,c1,c2,c3,H.s,I⟩
  intro ej bj
  refine o_4 (Zu (Zu (YQ ?_)))
  obtain rfl:=cw _ (ois bj)
  refine Zm ?_
  have I:=M.fst (l:=[_,_,_,_]) I.pl4.pl4.pl4.pl4
  exact ⟨(b.1,b.2.1,b.2.2.1,b.2.2.2.1,b.2.2.2.2.1),R,ag,ah,ai,H.s,I⟩
 rintro a w ⟨d,ht,Z,al,an,H,I⟩
 subst ht
 have bc:=Kv bc
 refine Zz (Zb (Zq H R ZF R I.ra0 cq ?_)); intro a H
 obtain ⟨dz,f0,bc⟩:=p_1 bc
 refine Zp H R (cbm func44) (HB _ (⟨d.1,d.2.1,d.2.2.1,d.2.2.2.1,d.2.2.2.2⟩ : GVault) Z (I.sl1) al (I.sl2) an (I.sl3) dz f0) ?_
 rintro v w a ⟨hw,rfl,hFr,hK⟩ H
 have I:=I.add hK hFr
 refine Zd H R λa H=>ZM H Za ld R R λa H=>ZM H Za ld R R λa H=>Zc H R λa H=>Zc H R λa H=>Ze (s_2 ?_)
 obtain ⟨f1,bl,b2⟩:=p_1 bc
 refine ZJ (λa w=>Env 291 a [(23,ptr U 0),(209,vT f1)] ∧ M (Old w0) w0 w [raw U (cat [[Z],[vI d.2.1],[al],[an],enc d.2.2.2.2]),osl NoB (d.1 : List V16) Z,osl NoB (d.2.2.1 : List GRecord) al,osl NoB (d.2.2.2.1 : List GEvent) an]) ?_ ?_
 ·refine t_1 (Zd H R λa H=>Zn H R R R λa H=>Zd H R ?_); intro a H
  refine Ys (dz.2 != 0) (λav=>?_) (λav=>?_)
  ·have bl:=Zt bl av
   refine k_s H av R R R λa H=>k_s H av R R R λa H=>k_s H av R R R λa H=>ZU H (lkb R av) R λa H=>Zj ?_
   obtain rfl:=o_1 bl
   refine Zm ?_
   have I:=M.fst (l:=[_,_,_,_]) I.pl4.pl4.pl4.pl4
   exact ⟨H.s,I⟩
  have bl:=Zs bl av
  refine Zo H (Zi H R (lkb R av)) (by decide) R λa H=>WE H (Zi H R (lkb R av)) (by decide) R p_6 (I.sl0) λa H=>Z8 H (Zi H R (lkb R av)) (by decide) R R R λa H=>Ye H (lkb R av) R λa H=>Zj ?_
  obtain rfl:=o_1 bl
  refine Zm ?_
  have I:=M.fst (l:=[_,_,_,_]) I.pl4.pl4.pl4.pl4
  exact ⟨H.s,I⟩
 rintro a w ⟨H,I⟩
 refine c_if H R b2 ?_ ?_
 ·intro eo b2
  refine Zb (Zc H R λa H=>Ze ?_)
  obtain rfl:=o_1 b2
  exact p_3 (ZI (kr1 H R R I.kept))
 intro eo b2
 refine u_2 (Zz ?_)
 obtain ⟨f2,ep,ch⟩:=p_1 b2
 refine ZJ (λa w=>∃ d0 : Unit,f2 = Fl.nx d0 ∧ Env 291 a [] ∧ M (Old w0) w0 w []) ?_ ?_
 ·obtain ⟨f4,a9,C⟩:=p_1 ep
  refine ZJ (λa w=>Env 291 a [(23,ptr U 0),(222,vT f4)] ∧ M (Old w0) w0 w [raw U (cat [[Z],[vI d.2.1],[al],[an],enc d.2.2.2.2]),osl NoB (d.1 : List V16) Z,osl NoB (d.2.2.1 : List GRecord) al,osl NoB (d.2.2.2.1 : List GEvent) an]) ?_ ?_
  ·refine t_1 (Zl H R (Yn) λa H=>ZB (v:=al) H R XO R (at_2 I.ra0) λa H=>YE H R o_3 (I.sl2) λa H=>Zn H R R R λa H=>Zd H R ?_); intro a H
   refine Ys (decide ((d.2.2.1.length : Int) > 0)) (λN=>?_) (λN=>?_)
   ·have a9:=Zt a9 N
    refine Zg H (Zi H R (lkb R N)) (by decide) R (Yn) λa H=>Zy (v:=al) H (Zi H R (lkb R N)) (by decide) R XO R (at_2 I.ra0) ?_; intro a H
    obtain ⟨c7,cy,a9⟩:=bix a9
    refine Yu H (Zi H R (lkb R N)) (by decide) R R o_3 Yf (I.sl2) cy.1 λa H=>Zg H (Zi H R (lkb R N)) (by decide) R (Uy) ?_; intro a H
    have I:=I.pl2
    obtain ⟨hc,I,_⟩:=I.open1 noB cy.2
    obtain ⟨_,hx,_⟩:=I.head
    obtain ⟨f5,f6,_,_,rfl,_,_,_⟩:=Q8 hx
    have I:=T3 I
    refine Zy (v:=f6) H (Zi H R (lkb R N)) (by decide) R X7 R (at_4 (I.holeAt (pre:=[_,_]))) λa H=>WE H (Zi H R (lkb R N)) (by decide) R o_2 (I.rn1) λa H=>Z8 H (Zi H R (lkb R N)) (by decide) R R R λa H=>ZU H (lkb R N) R λa H=>Zj ?_
    have I:=(VP (x:=c7) I siw siw).close0 noB cy.2
    obtain rfl:=o_1 a9
    refine Zm ?_
    have I:=I.pl3.pl1.pl3.pl3
    exact ⟨H.s,I⟩
   have a9:=Zs a9 N
   refine k_s H N R R R λa H=>k_s H N R R R λa H=>k_s H N R R R λa H=>k_s H N R R R λa H=>k_s H N R R R λa H=>k_s H N R R R λa H=>k_s H N R R R λa H=>Ye H (lkb R N) R λa H=>Zj ?_
   obtain rfl:=o_1 a9
   refine Zm ?_
   exact ⟨H.s,I⟩
  rintro a w ⟨H,I⟩
  refine c_if H R C ?_ ?_
  ·intro er C
   refine Zb (Zl H R (Yn) λa H=>ZB (v:=al) H R XO R (at_2 I.ra0) ?_); intro a H
   obtain ⟨h,dj,C⟩:=bix C
   refine YG H R R o_3 Yf (I.sl2) dj.1 ?_; intro a H
   have I:=I.pl2
   obtain ⟨hd,I,_⟩:=I.open1 noB dj.2
   obtain ⟨_,hx,_⟩:=I.head
   obtain ⟨bh,cu,_,_,rfl,_,_,_⟩:=Q8 hx
   have I:=T3 I
   refine Zq H R Yf R (I.holeAt (pre:=[_,_])) cq λa H=>Zw H I Yf λf7 w a I H=>Zk (seg:=cR bh cu h) (cs':=cR bh cu h) H I Za R R R Yf cq (q_1 cq cq) (ZC (cc1 (s_1 (h.Number : Int)) (cc1 (s_1 (h.Version : Int)) (cc1 (s_1 _) (cc1 (t_2 (I.rn1)) (cc1 (t_2 (I.rn2)) (cc1 (s_1 _) cc0))))))) (q_2 cq cq) λw a I H=>Ze (Zb (ZL (xs:=[]) (l:=xx) (vs:=[]) H I Za ld R R o_2 ty5 R (by decide) R λhy w a I H=>Zl H R (Uy) λa H=>ZB (v:=cu) H R X7 R (at_4 I.ra1) ?_)); intro a H
   obtain ⟨hz,f8,C⟩:=p_1 C
   obtain ⟨ga,rfl⟩:=Z1 f8
   refine Z3 H I Za ld R R (I.rn3) o_2 ty5 R (by decide) ga λc8 w a I H=>Zc H R λa H=>Ze (Zb (Zd H R λa H=>Zd H R ?_)); intro a H
   obtain ⟨b7,dk,C⟩:=bix C
   refine YG H R R o_2 ty5 (I.sl0) dk.1 λa H=>ZB (v:=(vB b7)) H R ty5 R (Xe (I.sl0) dk.2) λa H=>Zn H R R (Vs b7 1) ?_; intro a H
   obtain ⟨gb,dl,C⟩:=bix C
   refine YG H R R o_2 ty5 (I.sl0) dl.1 λa H=>Bj (i:=(xj).toNat) (k0:=0) (seg:=[vB (b7 ^^^ 1)]) (xo:=gb) (xn:=b7 ^^^ 1) H I Za R R R ty5 R (s_1 (b7 ^^^ 1 : UInt8)) dl.2 (AR (m:=1) R (by decide)) (Zh R) λw a I H=>Ze (Zb (Zd H R λa H=>Zl H R (Uy) ?_)); intro a H
   have I:=I.pl1
   refine Zk (seg:=[c8]) H I Za R R (ZX (I.sl1)) X7 R (YN (pre:=[[vI h.Number],[vI h.Version],enc h.Nonce,[bh]]) ck R) (t_2 (I.sl1)) (Z4 (pre:=[[vI h.Number],[vI h.Version],enc h.Nonce,[bh]]) ck R) λw a I H=>Ze (Zb (Zq H R ZF R I.ra5 cq λa H=>Zw H I ZF λgc w a I H=>Zk (seg:=cat [[Z],[vI d.2.1],[al],[an],enc d.2.2.2.2]) (cs':=cat [[Z],[vI d.2.1],[al],[an],enc d.2.2.2.2]) H I Za R R R ZF cq (q_1 cq cq) (ZC (cc1 (t_2 (I.sl7)) (cc1 (s_1 (d.2.1 : Int)) (cc1 (I.holeCell (pre:=[_,_,_,_,_])) (cc1 (t_2 (I.sl8)) (cc1 (s_1 _) cc0)))))) (q_2 cq cq) λw a I H=>Ze ?_))
   have es : ∀ v ∈ cR bh cu h,v.oneCell' = true:=(ZC (cc1 (s_1 (h.Number : Int)) (cc1 (s_1 (h.Version : Int)) (cc1 (s_1 _) (cc1 (t_2 (I.rn3)) (cc1 (t_2 (I.rn4)) (cc1 (s_1 _) cc0)))))))
   have I:=VP (x:=(⟨h.Number,h.Version,h.Nonce,h.Label,(xx ++ h.Body).set (xj).toNat (b7 ^^^ 1),h.Tag⟩ : GRecord)) I.pl8.pl8.pl8.pl7.pl5.pl5.pl8.pl7.pl8 siw sio
   obtain ⟨c9,et,C⟩:=p_1 C
   obtain ⟨a2,cz,bm,dm,eu,I⟩:=I.hdrFront es et
   have I:=M.recell (c':=enc a2) I.pl3 dm.symm
   refine s_2 ?_
   obtain ⟨ea,dp⟩ : ∃ x,slc (cz :: bm) (1 : Int) ((cz :: bm).length : Int) = some x:=⟨_,Zbi⟩
   have e_l310 : ea = bm:=o_1 (dp.symm.trans Zbi)
   refine Yl (its:=[raw f7 (enc a2),osl NoB ((cz :: bm) : List (Opq 52)) al,els NoB c9 (a2 :: bm),raw gc (cat [[Z],[vI d.2.1],[al],[an],enc d.2.2.2.2]),own NoB (h.Body : xg) [cu],raw U (cat [[Z],[vI d.2.1],[al],[an],enc d.2.2.2.2]),osl NoB (d.1 : List V16) Z,osl NoB (d.2.2.2.1 : List GEvent) an]) (mk:=([mkO 1 (λv=>osl NoB (([a2] : List (Opq 52)) : List (Opq 52)) v)] : Mk)) [240,241,242,243,244] Yt R R (by decide) R H (λu=>M.qE (M.q0 I.drew u) emO) (qsP (λz=>Zx z.E Za ld R Yf R (z.M.ra0) (u_1 _) (kr0 R)) (qsM (pr:=λv=>True) ?_ (qsP (λz=>Zg z.E Za ld R (Yn) (kr0 R)) (qsP (λz=>Zy (v:=al) z.E Za ld R XO R (at_2 (z.M.ra5)) (kr0 R)) (qsP (λz=>QZ z.E Za ld R R R R R o_3 Yf (z.M.sl1) dp (kr0 R)) qs0))))) ?_
   ·intro a w ew D z
    have H:=z.E
    have hD : D 1 = false:=z.F
    have I:=z.M
    exact ZL (xs:=[.tmp 240]) (l:=([a2] : List (Opq 52))) (vs:=[Value.agg (enc a2).toArray]) H I Za ld R R o_3 Yf R (by decide) R λh0 w a I H=>⟨_,_,R,H,M.qFill (mk1:=[]) (mk2:=[]) (f:=(λv=>osl NoB (([a2] : List (Opq 52)) : List (Opq 52)) v)) I R hD,trivial⟩
   intro a w ew D H I hG ar
   have d1:=ar 1 (by decide)
   have I:=I.sure (pre:=[_,_,_,_,_,_,_,_]) d1
   obtain ⟨h1,gd⟩ : ∃ x,app 112 ([a2] : List (Opq 52)) ea = some x:=⟨_,app_in (by rw [e_l310]; simpa using eu)⟩
   obtain ⟨ge,rfl⟩:=Z1 gd
   have I:=I.pl8
   refine Z3 H I Za ld R R (Xh (I.sl2) dp) o_3 Yf R (by decide) ge λda w a I H=>Zl H R (Yn) ?_; intro a H
   have I:=I.pl4
   refine Zk (seg:=[da]) H I Za R R (ZX (I.sl1)) XO R (YN (pre:=[[Z],[vI d.2.1]]) ck R) (t_2 (I.sl1)) (Z4 (pre:=[[Z],[vI d.2.1]]) ck R) λw a I H=>Zj ?_
   have I:=I.pl4.pl2
   have I:=M.recell (c':=cR bh c8 h) ((M.ofHdr (hs:=a2 :: bm) (by rw [e_l310] at I; exact I) noB).pl2) dm
   refine Zz (Zb (Zq H R ZF R I.ra2 cq ?_)); intro a H
   obtain ⟨dq,gf,C⟩:=p_1 C
   refine Zp H R (cbm func44) (HB _ (⟨d.1,d.2.1,c9,d.2.2.2.1,d.2.2.2.2⟩ : GVault) Z (I.sl6) da (I.sl1) an (I.sl7) dq gf) ?_
   rintro v w a ⟨h2,rfl,hFr,hK⟩ H
   have I:=I.add hK hFr
   refine Zd H R λa H=>ZM H Za ld R R λa H=>ZM H Za ld R R λa H=>Zc H R λa H=>Zc H R λa H=>Ze (Zb (Zq H R ZF R I.ra3 cq λa H=>Zl H R (VS) λa H=>ZB (v:=(vI h.Number)) H R ty2 R (at_0 I.ra1) ?_)); intro a H
   obtain ⟨gg,gh,C⟩:=p_1 C
   refine Zp H R cb43 (Kg _ (⟨d.1,d.2.1,c9,d.2.2.2.1,d.2.2.2.2⟩ : GVault) Z (I.sl7) da (I.sl2) an (I.sl8) h.Number gg gh) ?_
   rintro v w a ⟨u322,rfl,hFr,hK⟩ H
   have I:=I.add hK hFr
   refine Zd H R λa H=>ZM H Za ld R R λa H=>ZM H Za ld R R λa H=>Zc H R λa H=>Zc H R λa H=>Ze (Zb (Zq H R ZF R I.ra4 cq λa H=>Zl H R (VS) λa H=>ZB (v:=(vI h.Number)) H R ty2 R (at_0 I.ra2) ?_)); intro a H
   obtain ⟨cv,gi,C⟩:=p_1 C
   refine c_k H I R (cbm func56) (B0 _ (⟨d.1,d.2.1,c9,d.2.2.2.1,d.2.2.2.2⟩ : GVault) Z (I.sl8) da (I.sl3) an (I.sl9) h.Number cv gi) ?_; intro w a I H
   refine Zd H R λa H=>ZM H Za ld R R λa H=>ZM H Za ld R R λa H=>Zw H I Yq λh3 w a I H=>Zk (seg:=enc cv.1) (cs':=enc cv.1) H I Za R R R Yq (u_1 _) (zle flq) (s_1 _) (Zh flq) λw a I H=>Zc H R λa H=>Ze ?_
   obtain ⟨gj,aa,b3⟩:=p_1 C
   refine ZJ (λa w=>Env 291 a [(290,vT gj)] ∧ M (Old w0) w0 w []) ?_ ?_
   ·refine t_1 (Zd H R λa H=>Zn H R R R λa H=>Zd H R ?_); intro a H
    refine Ys (dq.2 != 0) (λa3=>?_) (λa3=>?_)
    ·have aa:=Zt aa a3
     refine k_s H a3 R R R λa H=>k_s H a3 R R R λa H=>ZU H (lkb R a3) R λa H=>Zd H R λa H=>Zf H R R R (by decide) λa H=>Zf H R R R (by decide) λa H=>Zf H R R R (by decide) λa H=>Zf H R R R (by decide) λa H=>Zf H R R R (by decide) λa H=>Zf H R R R (by decide) λa H=>Zf H R R R (by decide) λa H=>Zf H R R R (by decide) ?_; intro a H
     refine ZU H R R λa H=>Zd H R λa H=>Zf H R R R (by decide) λa H=>Zf H R R R (by decide) λa H=>Zf H R R R (by decide) λa H=>Zf H R R R (by decide) λa H=>Zf H R R R (by decide) λa H=>Zf H R R R (by decide) λa H=>Zf H R R R (by decide) λa H=>ZU H R R λa H=>Zj ?_
     obtain rfl:=o_1 aa
     refine Zm ?_
     have I:=M.fst (l:=[]) I
     exact ⟨H.s,I⟩
    have aa:=Zs aa a3
    refine Zo H (Zi H R (lkb R a3)) (by decide) R λa H=>Z8 H (Zi H R (lkb R a3)) (by decide) R R R λa H=>Ye H (lkb R a3) R λa H=>Zd H R ?_; intro a H
    refine Ys (cv.2 != 0) (λK=>?_) (λK=>?_)
    ·have aa:=Zt aa K
     refine k_s H K R R R λa H=>k_s H K R R R λa H=>k_s H K R R R λa H=>k_s H K R R R λa H=>k_s H K R R R λa H=>k_s H K R R R λa H=>k_s H K R R R λa H=>k_s H K R R R λa H=>ZU H (lkb R K) R λa H=>Zd H R λa H=>Zf H R R R (by decide) λa H=>Zf H R R R (by decide) ?_; intro a H
     refine Zf H R R R (by decide) λa H=>Zf H R R R (by decide) λa H=>Zf H R R R (by decide) λa H=>Zf H R R R (by decide) λa H=>Zf H R R R (by decide) λa H=>ZU H R R λa H=>Zj ?_
     obtain rfl:=o_1 aa
     refine Zm ?_
     have I:=M.fst (l:=[]) I
     exact ⟨H.s,I⟩
    have aa:=Zs aa K
    refine Zx H (Zi H R (lkb R K)) (by decide) R Yq R I.ra0 (u_1 _) λa H=>Zg H (Zi H R (lkb R K)) (by decide) R (Tl) λa H=>Zx H (Zi H R (lkb R K)) (by decide) R Yq R (at_5 I.ra3) (u_1 _) λa H=>Hx H (Zi H R (lkb R K)) (by decide) R R (WJ t_4 ty5 R false R (by decide) (XZ t_3)) (by decide) (by kernel_rfl) λa H=>Zo H (Zi H R (lkb R K)) (by decide) R λa H=>WE H (Zi H R (lkb R K)) (by decide) R p_6 (I.sl2) λa H=>Z8 H (Zi H R (lkb R K)) (by decide) R R R λa H=>Zgx H (Zi H R (lkb R K)) (by decide) R R underlying4 λa H=>Ye H (lkb R K) R λa H=>Zd H R ?_; intro a H
    refine Ys ((!decide (cv.1 = h.Tag)) != ((dq.1.length : Int) == 1)) (λO=>?_) (λO=>?_)
    ·have aa:=Zt aa O
     refine k_s H O R R R λa H=>k_s H O R R R λa H=>k_s H O R R R λa H=>k_s H O R R R λa H=>k_s H O R R R λa H=>k_s H O R R R λa H=>k_s H O R R R λa H=>ZU H (lkb R O) R λa H=>Zj ?_
     obtain rfl:=o_1 aa
     refine Zm ?_
     have I:=M.fst (l:=[]) I
     exact ⟨H.s,I⟩
    have aa:=Zs aa O
    refine Zx H (Zi H R (lkb R O)) (by decide) R Yq R I.ra0 (u_1 _) λa H=>Zg H (Zi H R (lkb R O)) (by decide) R (Tl) λa H=>Zx H (Zi H R (lkb R O)) (by decide) R Yq R (at_5 I.ra3) (u_1 _) λa H=>Hx H (Zi H R (lkb R O)) (by decide) R R (WJ t_4 ty5 R false R (by decide) (XZ t_3)) (by decide) (by kernel_rfl) λa H=>Zo H (Zi H R (lkb R O)) (by decide) R λa H=>Z8 H (Zi H R (lkb R O)) (by decide) R R R λa H=>Zgx H (Zi H R (lkb R O)) (by decide) R R underlying4 λa H=>Ye H (lkb R O) R λa H=>Zj ?_
    obtain rfl:=o_1 aa
    refine Zm ?_
    have I:=M.fst (l:=[]) I
    exact ⟨H.s,I⟩
   rintro a w ⟨H,I⟩
   refine c_if H R b3 ?_ ?_
   ·intro ex b3
    refine Zb (Zc H R λa H=>Ze ?_)
    obtain rfl:=o_1 b3
    obtain rfl:=o_1 ch
    exact p_3 (ZI (kr1 H R R I.kept))
   intro ex b3
   refine u_2 ?_
   obtain rfl:=o_1 b3
   refine Zm ?_
   exact ⟨(),R,H.sub trivial,I⟩
  intro er C
  refine u_2 ?_
  obtain rfl:=o_1 C
  refine Zm ?_
  have I:=M.fst (l:=[]) I
  exact ⟨(),R,H.sub trivial,I⟩
 rintro a w ⟨d0,ht,H,I⟩
 subst ht
 have ch:=Kv ch
 refine Zb (Zc H R λa H=>Ze ?_)
 obtain rfl:=o_1 ch
 exact p_3 (kr1 H R R I.kept)
end

end Go.Proofs.YtfhhlkkhcoaapaaGreat
