/- The walk of what the law reaches: contracts of functions. -/
import Derived.Test.YtfhhlkkhcoaapaaGreatC1
set_option linter.unusedVariables false
set_option linter.unusedSimpArgs false
set_option maxRecDepth 20000
set_option maxHeartbeats 400000
namespace Go.Proofs.YtfhhlkkhcoaapaaGreat
open Go Go.Proofs.Tryz
open Flat (enc)
noncomputable section
theorem jb (w0 : World) (b : GVault) (y : Value) (aa : Ro w0 b.Keys [y]) (B : Value) (ab : Ro w0 b.Records [B]) (C : Value) (ac : Ro w0 b.Events [C]) (p1 : List UInt8) (ak : Value) (av : Ro w0 p1 [ak]) (p2 : List UInt8) (al : Value) (aw : Ro w0 p2 [al]) (O : V16) (r : GVault × Int × Int) (J : TL b p1 p2 O = some r) :
  Calls prog 46 [vcV y B C b,ak,al,Value.agg (enc O).toArray].toArray w0 (e_r λv w'=>(∃ y1 y2 y3 : Value,v = (Value.tuple [vcV y1 y2 y3 r.1,vI r.2.1,vI r.2.2].toArray) ∧ Fr w0 w' [osl NoB r.1.Keys y1,osl NoB r.1.Records y2,osl NoB r.1.Events y3] ∧ Kept (Old w0) w0 w')):=by
 refine ce func46 ?_
 intro a H
 have I:=M.start w0
 unfold TL at J
 refine Zb (Z1 (cs:=cV y B C b) H I Za ld R R λb1 w a I H=>Z1 (cs:=enc O) H I Za ld R R λb3 w a I H=>Zv H I ZG λb5 w a I H=>Zc H R λa H=>Zc H R λa H=>Ze (s_2 (p_2 (Zb (Zq H R ZG R I.ra2 cq λa H=>?_)))))
 obtain ⟨r7,e8,J⟩:=p_1 J
 refine c_k H I R yN (UG _ b y (I.rdo aa) B (I.rdo ab) C (I.rdo ac) r7 e8) λw a I H=>?_
 refine Kp H R λa H=>Zc H R λa H=>Ze ?_
 refine c_if H R J ?_ ?_
 ·intro bo J
  refine Zb (Yi (parts:=[]) (vs:=[]) (cs:=cat xa) H Za ld R R ZG Ju YF λa H=>Zl (seg:=cat xa) (cs':=cat xa) H I Za R R R ZG cq (q_1 cq cq) (ZD (cc1 ZZ (cc1 (s_1 xi) (cc1 ZZ (cc1 ZZ (cc1 (s_1 _) cc0)))))) (q_2 cq cq) λw a I H=>Zc H R λa H=>Zc H R λa H=>Ze ?_)
  have I:=M.nilS (α:=GEvent) NoB noB (M.nilS (α:=GRecord) NoB noB (M.nilS (α:=V16) NoB noB I))
  obtain rfl:=o_1 J
  have a9 : Z7 prog _ _ (.cell 8 79) _:=ZE H R ZG R I.ra3 cq R
  have I:=M.fst (l:=[_,_,_]) I.pl1.pl2
  exact p_3 (Xa (ZJ (AS H R a9 (Zy H R) (Zy H R) ⟨_,R,xd,xd,xd,R,I.outF (ZK (ZK (ZK Yd))),I.kept⟩)))
 intro bo J
 obtain ⟨bp,ai,T⟩:=p_1 J
 refine ZI (λa w=>Env 89 a [(1,ak),(2,al),(4,ptr b1 0),(7,ptr b3 0),(8,ptr b5 0),(18,vT bp)] ∧ M (Old w0) w0 w [raw b5 xh,raw b3 (enc O),raw b1 (cV y B C b)]) ?_ ?_
 ·refine t_1 (Zd H R λa H=>Yu H R o_2 (I.rd av) λa H=>Zn H R R R λa H=>Zd H R λa H=>?_)
  refine Yj (decide ((p1.length : Int) > 32)) (λU=>?_) (λU=>?_)
  ·have ai:=Zt ai U
   refine k_s H U R R R λa H=>k_s H U R R R λa H=>k_s H U R R R λa H=>ZH H (lkb R U) R λa H=>Zc H R λa H=>Zj ?_
   obtain rfl:=o_1 ai
   refine Zk ?_
   exact ⟨H.s,I⟩
  have ai:=Zs ai U
  refine Zo H (Zg H R (lkb R U)) dd_ R λa H=>W2 H (Zg H R (lkb R U)) dd_ R o_2 (I.rd aw) λa H=>Yc H (Zg H R (lkb R U)) dd_ R R R λa H=>Z2 H (lkb R U) R λa H=>Zc H R λa H=>Zj ?_
  obtain rfl:=o_1 ai
  refine Zk ?_
  exact ⟨H.s,I⟩
 rintro a w ⟨H,I⟩
 refine c_if H R T ?_ ?_
 ·intro ba T
  refine Zb (Yi (parts:=[]) (vs:=[]) (cs:=cat xa) H Za ld R R ZG Ju YF λa H=>Zl (seg:=cat xa) (cs':=cat xa) H I Za R R R ZG cq (q_1 cq cq) (ZD (cc1 ZZ (cc1 (s_1 xi) (cc1 ZZ (cc1 ZZ (cc1 (s_1 _) cc0)))))) (q_2 cq cq) λw a I H=>Zc H R λa H=>Zc H R λa H=>Ze ?_)
  have I:=M.nilS (α:=GEvent) NoB noB (M.nilS (α:=GRecord) NoB noB (M.nilS (α:=V16) NoB noB I))
  obtain rfl:=o_1 T
  have bb : Z7 prog _ _ (.cell 8 79) _:=ZE H R ZG R I.ra3 cq R
  have I:=M.fst (l:=[_,_,_]) I.pl1.pl2
  exact p_3 (Xa (ZJ (AS H R bb (Zy H R) (Zy H R) ⟨_,R,xd,xd,xd,R,I.outF (ZK (ZK (ZK Yd))),I.kept⟩)))
 intro ba T
 refine Zb (Zq H R ZG R I.ra2 cq λa H=>Zq H R ZL R I.ra1 (u_1 _) λa H=>?_)
 obtain ⟨bq,br,T⟩:=p_1 T
 refine c_k H I R (cbm func150) (Bv _ b y (I.rdo aa) B (I.rdo ab) C (I.rdo ac) O bq br) λw a I H=>?_
 refine Zc H R λa H=>Ze ?_
 refine c_if H R T ?_ ?_
 ·intro bc T
  refine Zb (Yi (parts:=[]) (vs:=[]) (cs:=cat xa) H Za ld R R ZG Ju YF λa H=>Zl (seg:=cat xa) (cs':=cat xa) H I Za R R R ZG cq (q_1 cq cq) (ZD (cc1 ZZ (cc1 (s_1 xi) (cc1 ZZ (cc1 ZZ (cc1 (s_1 _) cc0)))))) (q_2 cq cq) λw a I H=>Zc H R λa H=>Zc H R λa H=>Ze ?_)
  have I:=M.nilS (α:=GEvent) NoB noB (M.nilS (α:=GRecord) NoB noB (M.nilS (α:=V16) NoB noB I))
  obtain rfl:=o_1 T
  have bd : Z7 prog _ _ (.cell 8 79) _:=ZE H R ZG R I.ra3 cq R
  have I:=M.fst (l:=[_,_,_]) I.pl1.pl2
  exact p_3 (Xa (ZJ (AS H R bd (Zy H R) (Zy H R) ⟨_,R,xd,xd,xd,R,I.outF (ZK (ZK (ZK Yd))),I.kept⟩)))
 intro bc T
 obtain ⟨bs,W,K⟩:=p_1 T
 refine ZI (λa w=>Env 89 a [(1,ak),(2,al),(4,ptr b1 0),(7,ptr b3 0),(8,ptr b5 0),(33,vT bs)] ∧ M (Old w0) w0 w [raw b5 xh,raw b3 (enc O),raw b1 (cV y B C b)]) ?_ ?_
 ·refine t_1 (Zm H R (Ye) λa H=>ZB (v:=B) H R Xr R (at_2 I.ra2) λa H=>Yu H R o_3 (I.rd ab) λa H=>Zn H R R R λa H=>Zd H R λa H=>?_)
  refine Yj ((b.Records.length : Int) == 12) (λL=>?_) (λL=>?_)
  ·have W:=Zt W L
   refine k_s H L R R R λa H=>k_s H L R R R λa H=>k_s H L R R R λa H=>k_s H L R R R λa H=>ZH H (lkb R L) R λa H=>Zd H R λa H=>Zf H R R R dd_ λa H=>Zf H R R R dd_ λa H=>Zf H R R R dd_ λa H=>ZH H R R λa H=>Zc H R λa H=>Zj ?_
   obtain rfl:=o_1 W
   refine Zk ?_
   exact ⟨H.s,I⟩
  have W:=Zs W L
  refine Zi H (Zg H R (lkb R L)) dd_ R (XA) λa H=>Zz (v:=C) H (Zg H R (lkb R L)) dd_ R T3 R (at_3 I.ra2) λa H=>W2 H (Zg H R (lkb R L)) dd_ R p_4 (I.rd ac) λa H=>Yc H (Zg H R (lkb R L)) dd_ R R R λa H=>Z2 H (lkb R L) R λa H=>Zd H R λa H=>?_
  refine Yj ((b.Events.length : Int) == 60) (λX=>?_) (λX=>?_)
  ·have W:=Zt W X
   refine k_s H X R R R λa H=>k_s H X R R R λa H=>k_s H X R R R λa H=>ZH H (lkb R X) R λa H=>Zc H R λa H=>Zj ?_
   obtain rfl:=o_1 W
   refine Zk ?_
   exact ⟨H.s,I⟩
  have W:=Zs W X
  refine Zi H (Zg H R (lkb R X)) dd_ R (Qw) λa H=>Zz (v:=(vI b.Next)) H (Zg H R (lkb R X)) dd_ R ty2 R (at_1 I.ra2) λa H=>Yc H (Zg H R (lkb R X)) dd_ R R R λa H=>Z2 H (lkb R X) R λa H=>Zc H R λa H=>Zj ?_
  obtain rfl:=o_1 W
  refine Zk ?_
  exact ⟨H.s,I⟩
 rintro a w ⟨H,I⟩
 refine c_if H R K ?_ ?_
 ·intro be K
  refine Zb (Yi (parts:=[]) (vs:=[]) (cs:=cat xa) H Za ld R R ZG Ju YF λa H=>Zl (seg:=cat xa) (cs':=cat xa) H I Za R R R ZG cq (q_1 cq cq) (ZD (cc1 ZZ (cc1 (s_1 xi) (cc1 ZZ (cc1 ZZ (cc1 (s_1 _) cc0)))))) (q_2 cq cq) λw a I H=>Zc H R λa H=>Zc H R λa H=>Ze ?_)
  have I:=M.nilS (α:=GEvent) NoB noB (M.nilS (α:=GRecord) NoB noB (M.nilS (α:=V16) NoB noB I))
  obtain rfl:=o_1 K
  have bg : Z7 prog _ _ (.cell 8 79) _:=ZE H R ZG R I.ra3 cq R
  have I:=M.fst (l:=[_,_,_]) I.pl1.pl2
  exact p_3 (Xa (ZJ (AS H R bg (Zy H R) (Zy H R) ⟨_,R,xd,xd,xd,R,I.outF (ZK (ZK (ZK Yd))),I.kept⟩)))
 intro be K
 refine u_2 (Yy (ZA (Zb (Zq H R ZG R I.ra2 cq λa H=>?_))))
 obtain ⟨d,bt,K⟩:=p_1 K
 refine Zp H R Zfu (Jj _ b y (I.rdo aa) B (I.rdo ab) C (I.rdo ac) d bt) ?_
 rintro v w a ⟨N,ay,Z,rfl,hFr,hK⟩ H
 have I:=I.add hK hFr
 refine Zv H I ZG λaz w a I H=>Zl (seg:=cV N ay Z d) (cs':=cV N ay Z d) H I Za R R R ZG cq (q_1 cq cq) (ZD (cc1 (t_2 (I.sl1)) (cc1 (s_1 (d.Next : Int)) (cc1 (t_2 (I.sl2)) (cc1 (t_2 (I.sl3)) (cc1 (s_1 _) cc0)))))) (q_2 cq cq) λw a I H=>Ze (s_2 ?_)
 obtain ⟨ae,bu,K⟩:=p_1 K
 refine Ys (its:=[raw az (cV N ay Z d),osl NoB d.Keys N,osl NoB d.Records ay,osl NoB d.Events Z,raw b5 xh,raw b3 (enc O),raw b1 (cV y B C b)]) (mk:=([mkO 8 (λv=>osl NoB ae v),mkO 10 (λv=>Wk v xg)] : Mk)) [52,53,54,55,56,57,58,59,60,61,12] Yx R R dd_ R H (λu=>M.qE (M.qE (M.q0 I.drew u) emO) emO) (qsP (λz=>Zi z.E Za ld R (Qw) (kr0 R)) (qsP (λz=>Zz (v:=(vI b.Next)) z.E Za ld R ty2 R (at_1 (z.M.ra6)) (kr0 R)) (qsP (λz=>Zi z.E Za ld R (Xw) (kr0 R)) (qsP (λz=>Zz (v:=y) z.E Za ld R TF R (at_0 (z.M.ra6)) (kr0 R)) (qsP (λz=>W2 z.E Za ld R s_3 (z.M.rd aa) (kr0 R)) (qsP (v:=(vI (wr ((b.Keys.length : Int) - 1)))) (λz=>Yc z.E Za ld R R R (kr0 R)) (qsP (λz=>Zx z.E Za ld R ZL R (z.M.ra5) (u_1 _) (kr0 R)) (q_m (λ_=>R) (q_t ?_ (qsD (ds:=[8]) (f:=λus=>(Value.agg (cat [[vI b.Next],[vI (wr ((b.Keys.length : Int) - 1))],enc O,[us.getD 0 undef],[xd],enc xb]).toArray)) ?_ (q_t ?_ qs0))))))))))) ?_
 ·intro a w i D z
  have H:=z.E
  have hD : D 8 = false:=z.F
  have hM0:=z.M
  have I:=z.M
  refine Zp H R cb96 (QT _ p1 ak (I.rdo av) ae bu) ?_
  rintro _ w a ⟨_,rfl,hFr,hK⟩ H
  have I:=hM0.add hK hFr
  exact ⟨_,_,R,H,M.qFill (mk1:=[]) (mk2:=[_]) (f:=(λv=>osl NoB ae v)) I R hD,trivial⟩
 ·intro a w i D z
  have H:=z.E
  have d8 : D 8 = true:=z.p 3 _ R R
  have I:=z.M.sure (pre:=[_,_,_,_,_,_,_]) d8
  exact Yi (parts:=[(0,.tmp 53),(1,.tmp 57),(2,.tmp 58),(3,.tmp 60)]) (vs:=[(0,vI b.Next),(1,vI (wr ((b.Keys.length : Int) - 1))),(2,Value.agg (enc O).toArray),(3,i 8)]) (cs:=cat [[vI b.Next],[vI (wr ((b.Keys.length : Int) - 1))],enc O,[i 8],[xd],enc xb]) H Za ld R R Yk pl98 (Ya (pre:=[]) (seg:=[vI 0]) (seg':=[vI b.Next]) (post:=[[vI 0],enc xc,[xd],[xd],enc xb]) R cl0 R R R (Ya (pre:=[[vI b.Next]]) (seg:=[vI 0]) (seg':=[vI (wr ((b.Keys.length : Int) - 1))]) (post:=[enc xc,[xd],[xd],enc xb]) R ck R R R (Ya (pre:=[[vI b.Next],[vI (wr ((b.Keys.length : Int) - 1))]]) (seg:=enc xc) (seg':=enc O) (post:=[[xd],[xd],enc xb]) R ck (u_1 _) (u_1 _) R (Ya (pre:=[[vI b.Next],[vI (wr ((b.Keys.length : Int) - 1))],enc O]) (seg:=[xd]) (seg':=[i 8]) (post:=[[xd],enc xb]) R ck R R (Z5 (I.sl7)) YF)))) λa H=>⟨p_5 _ _,AF d8 yn,_,R,H⟩
 ·intro a w i D z
  have H:=z.E
  have hD : D 10 = false:=z.F
  have I:=z.M
  refine Zv H I Yk λcc w a I H=>?_
  have I:=I.pack1 (it:=Wk _ xg) (λw w' fp ⟨b',e,k⟩ hb=>⟨b',e,YN w w' fp k hb⟩) (λfp k=>⟨_,R,k⟩)
  exact ⟨_,_,R,H,M.qFill (mk1:=[_]) (mk2:=[]) (f:=λv=>Wk v xg) I R hD,trivial⟩
 intro a w i D H I hG am
 have d8:=am 8 dd_
 have bv:=am 10 dd_
 have I:=((I.sure (pre:=[_,_,_,_,_,_,_]) d8).sure (pre:=[_,_,_,_,_,_,_,_]) bv).pl
 obtain ⟨_,⟨a0,bh,_⟩,_⟩:=I.head
 have I:=I.pack1 YN (it:=raw a0 xg) (λfp ⟨b2,e2,k2⟩=>by rw [bh] at e2; simp [ptr] at e2; subst e2; exact k2)
 have H:=H.setq (t:=12) R bh
 refine Zl (seg:=cat [[vI b.Next],[vI (wr ((b.Keys.length : Int) - 1))],enc O,[i 8],[xd],enc xb]) (cs':=cat [[vI b.Next],[vI (wr ((b.Keys.length : Int) - 1))],enc O,[i 8],[xd],enc xb]) H I Za R R R Yk cq (q_1 cq cq) (ZD (cc1 (s_1 (b.Next : Int)) (cc1 (s_1 (wr ((b.Keys.length : Int) - 1) : Int)) (cc1 (s_1 _) (cc1 (t_2 (I.sl (pre:=[_,_,_,_,_,_,_,_]) noB)) (cc1 ZZ (cc1 (s_1 _) cc0))))))) (q_2 cq cq) λw a I H=>Zj (ZA (Zb (Zq H R ZG R I.ra7 cq λa H=>Zq H R Yk R I.ra0 cq λa H=>Zd H R λa H=>?_)))
 obtain ⟨an,bx,K⟩:=p_1 K
 refine Zp H R Zik (K8 _ b y (I.rdo aa) B (I.rdo ab) C (I.rdo ac) (⟨b.Next,wr ((b.Keys.length : Int) - 1),O,ae,[],xb⟩ : GRecord) (i 8) (I.sl (pre:=[_,_,_,_,_,_,_,_]) noB) xd Zdr p2 al (I.rdo aw) an bx) ?_
 rintro af w a ⟨_,rfl,hFr,hK⟩ H
 have I:=I.add hK hFr
 refine Zm H R (Qh) λa H=>?_
 have I:=I.pl1
 refine Zl (seg:=[af]) H I Za R R (Z5 (I.sl1)) Wo R (ft_4 R) (t_2 (I.sl1)) (sp_4 R) λw a I H=>Ze (Zb (Zq H R ZG R I.ra8 cq λa H=>Zq H R Yk R I.ra0 cq λa H=>?_))
 obtain ⟨Y,bz,K⟩:=p_1 K
 refine c_k H I R Zck (Ks _ b y (I.rdo aa) B (I.rdo ab) C (I.rdo ac) (⟨b.Next,wr ((b.Keys.length : Int) - 1),O,ae,an,xb⟩ : GRecord) (i 8) (I.sl (pre:=[_,_,_,_,_,_,_,_,_]) noB) af (I.sl1) Y bz) λw a I H=>?_
 refine Zm H R (Qg) λa H=>Zl (seg:=enc Y) H I Za R R R ZW (u_1 _) (Xf (pre:=[[vI b.Next],[vI (wr ((b.Keys.length : Int) - 1))],enc O,[i 8],[af]]) ck flq) (s_1 _) (Ym (pre:=[[vI b.Next],[vI (wr ((b.Keys.length : Int) - 1))],enc O,[i 8],[af]]) ck flq) λw a I H=>Ze (Zb (Zm H R (Ye) λa H=>ZB (v:=ay) H R Xr R (at_2 I.ra2) λa H=>Zq H R Yk R I.ra0 cq λa H=>?_))
 have I:=I.pl1.pl9
 have I:=I.pack2 (it:=own NoB (⟨b.Next,wr ((b.Keys.length : Int) - 1),O,ae,an,Y⟩ : GRecord) (cat [[vI b.Next],[vI (wr ((b.Keys.length : Int) - 1))],enc O,[i 8],[af],enc Y])) (Wa noB) (λf0 f1 q0 q1=>(JU (X5.sat q0) (X5.sat q1) (by simp)))
 refine KR (xs:=[.tmp 73]) (seg:=cat [[vI b.Next],[vI (wr ((b.Keys.length : Int) - 1))],enc O,[i 8],[af],enc Y]) H I noB Za ld R R o_3 Yk R dd_ λcf w a I H=>?_
 obtain ⟨cg,b0,K⟩:=p_1 K
 obtain ⟨b4,rfl⟩:=ZU b0
 have I:=I.pl4
 refine Q4 H I noB Za ld R R o_3 Yk R dd_ b4 λag w a I H=>Zm H R (Ye) λa H=>?_
 have I:=I.pl2
 refine Zl (seg:=[ag]) H I Za R R (Z5 (I.sl1)) Xr R (ft_2 R) (t_2 (I.sl1)) (sp_2 R) λw a I H=>Ze (Zb (Zm H R (Qw) λa H=>ZB (v:=(vI d.Next)) H R ty2 R (at_1 I.ra0) λa H=>Zn H R R R λa H=>Zm H R (Qw) λa H=>Zl (seg:=[vI (wr (d.Next + 1))]) H I Za R R R ty2 R (Xf (pre:=[[N]]) ck R) (s_1 (wr (d.Next + 1) : Int)) (Ym (pre:=[[N]]) ck R) λw a I H=>Ze ?_))
 obtain ⟨au,a1,bi⟩:=p_1 K
 refine ZI (λa w=>∃ a4 a5 a6 : Value,Env 89 a [(8,ptr b5 0),(9,vI au.2.2.2.2.2.2),(10,vI au.2.2.2.2.2.1)] ∧ M (Old w0) w0 w [raw b5 (cat [[a4],[vI au.2.1],[a5],[a6],enc au.2.2.2.2.1]),osl NoB au.1 a4,osl NoB au.2.2.1 a5,osl NoB au.2.2.2.1 a6]) ?_ ?_
 ·have I:=I.pl5.pl5.pl3.pl5
  have I:=I.packL (m:=[_,_,_]) (it:=AE NoB [_,_,_]) (B0.mono noB) (λfp h=>Xz.reloc h (ZK (ZK (ZK Yd))))
  obtain ⟨ah,b6,a1⟩:=p_1 a1
  refine Ys (its:=[raw az (cat [[N],[vI (wr (d.Next + 1))],[ag],[Z],enc d.Head]),raw a0 (cat [[vI b.Next],[vI (wr ((b.Keys.length : Int) - 1))],enc O,[i 8],[af],enc Y]),raw b3 (enc O),raw b1 (cV y B C b)]) (mk:=([mkW 8 5 b5 xh (λv=>(Value.cells v).toList),mkU 5 (AE NoB [osl NoB d.Keys N,osl NoB ((d.Records ++ ([(⟨b.Next,wr ((b.Keys.length : Int) - 1),O,ae,an,Y⟩ : GRecord)] : List GRecord)) : List GRecord) ag,osl NoB d.Events Z]) (λv=>own NoB ah (Value.cells v).toList)] : Mk)) [81,82,83,84,85,86,87,88,97] Yx R R dd_ R H (λu=>M.qS (M.qS (M.q0 I.drew u) λ_=>R) λ_=>R) (qsP (v:=(Value.agg (cat [[N],[vI (wr (d.Next + 1))],[ag],[Z],enc d.Head]).toArray)) ?_ (qsP (λz=>Zi z.E Za ld R (VC) (kr0 R)) (qsP (v:=(vI b.Next)) ?_ (qsP (λz=>Zi z.E Za ld R (Qg) (kr0 R)) (qsP (v:=(Value.agg (enc Y).toArray)) ?_ (qsM (pr:=λv=>∃ cs,v = .agg cs) ?_ (qsP (λz=>Zi z.E Za ld R (VC) (kr0 R)) (qsP (λz=>Zz (v:=(vI b.Next)) z.E Za ld R ty2 R (at_0 (z.M.ra1)) (kr0 R)) (q_t ?_ qs0))))))))) ?_
  ·intro a w ad D z
   have H:=z.E
   have hD : D 0 = false:=z.F
   have I:=z.M.togA (pre:=[_,_,_,_]) (VE (j:=8) (k:=2) z.c R R R hD)
   exact Zq H R ZG R I.ra0 cq λa H=>⟨p_5 _ _,_,R,H⟩
  ·intro a w ad D z
   have H:=z.E
   have hD : D 2 = false:=z.F
   have I:=z.M.togA (pre:=[_,_,_,_]) (VE (j:=8) (k:=4) z.c R R R hD)
   exact ZB (v:=(vI b.Next)) H R ty2 R (at_0 I.ra1) λa H=>⟨p_5 _ _,_,R,H⟩
  ·intro a w ad D z
   have H:=z.E
   have hD : D 4 = false:=z.F
   have I:=z.M.togA (pre:=[_,_,_,_]) (VE (j:=8) (k:=6) z.c R R R hD)
   exact Zq H R ZW R (at_5 I.ra1) (u_1 _) λa H=>⟨p_5 _ _,_,R,H⟩
  ·intro a w ad D z
   have H:=z.E
   have hD : D 5 = false:=z.F
   have I:=((z.M.togA (pre:=[_,_,_,_]) (VE (j:=8) (k:=0) z.c R R R hD)).togA (pre:=[_,_,_,_,_]) hD).pl
   have I:=I.unpackL (m:=[_,_,_]) (λfp h=>Xz.mono h (λ_ h=>h.elim))
   simp only [List.cons_append,List.nil_append] at I
   have I:=I.pl2.pl2.pl2
   refine Zp H R Zf1 (K0 _ _ _ _ (⟨d.Keys,wr (d.Next + 1),d.Records ++ ([(⟨b.Next,wr ((b.Keys.length : Int) - 1),O,ae,an,Y⟩ : GRecord)] : List GRecord),d.Events,d.Head⟩ : GVault) N ag Z 1 b.Next Y I ah b6) ?_
   rintro v w a ⟨u85,u86,u87,rfl,I⟩ H
   have I:=K5 (x:=ah) I sio sio sio
   have bj : D 8 = false:=VE (j:=8) (k:=0) z.c R R R hD
   exact ⟨_,_,R,H,M.qUnconst (p:=mkW 8 5 b5 xh (λv=>(Value.cells v).toList)) (its:=[raw az (cat [[N],[vI (wr (d.Next + 1))],[ag],[Z],enc d.Head]),raw a0 (cat [[vI b.Next],[vI (wr ((b.Keys.length : Int) - 1))],enc O,[i 8],[af],enc Y]),raw b3 (enc O),raw b1 (cV y B C b)]) (mk1:=([] : Mk)) (mk2:=([mkU 5 (AE NoB [osl NoB d.Keys N,osl NoB ((d.Records ++ ([(⟨b.Next,wr ((b.Keys.length : Int) - 1),O,ae,an,Y⟩ : GRecord)] : List GRecord)) : List GRecord) ag,osl NoB d.Events Z]) (λv=>own NoB ah (Value.cells v).toList)] : Mk)) (M.qTogS (p:=mkU 5 (AE NoB [osl NoB d.Keys N,osl NoB ((d.Records ++ ([(⟨b.Next,wr ((b.Keys.length : Int) - 1),O,ae,an,Y⟩ : GRecord)] : List GRecord)) : List GRecord) ag,osl NoB d.Events Z]) (λv=>own NoB ah (Value.cells v).toList)) (its:=[raw az (cat [[N],[vI (wr (d.Next + 1))],[ag],[Z],enc d.Head]),raw a0 (cat [[vI b.Next],[vI (wr ((b.Keys.length : Int) - 1))],enc O,[i 8],[af],enc Y]),raw b3 (enc O),raw b1 (cV y B C b)]) (mk1:=([([],λ_ _=>raw b5 xh)] : Mk)) (mk2:=([] : Mk)) I R Zdz) (zp bj),⟨_,R⟩⟩
  ·intro a w ad D z
   have H:=z.E
   have hD : D 8 = false:=z.F
   have d5 : D 5 = true:=z.p 0 _ R R
   have I:=(z.M.togB (pre:=[_,_,_,_,_]) d5).togA (pre:=[_,_,_,_]) hD
   obtain ⟨n,o,q,a7,ao,ap,aq⟩:=UD (I.ro (pre:=[_,_,_,_,_]) noB)
   have aj : (ad 5) = (vcV n o q ah):=z4 a7 (z.G 5 (by assumption) _ R).2
   have I:=I.pl4
   refine Zl (seg:=cV n o q ah) (cs':=cV n o q ah) H I Za R (lk R aj) R ZG cq (q_1 cq cq) (ZD (cc1 (t_2 ao) (cc1 (s_1 (ah.Next : Int)) (cc1 (t_2 ap) (cc1 (t_2 aq) (cc1 (s_1 _) cc0)))))) (q_2 cq cq) λw a I H=>?_
   have I:=(M.recell I (show _ = (Value.cells (ad 5)).toList from by rw [aj]; rfl)).untogB (pre:=[_,_,_,_,_]) (A:=AE NoB [osl NoB d.Keys N,osl NoB ((d.Records ++ ([(⟨b.Next,wr ((b.Keys.length : Int) - 1),O,ae,an,Y⟩ : GRecord)] : List GRecord)) : List GRecord) ag,osl NoB d.Events Z]) d5
   exact ⟨undef,_,R,Env.dummy H dd_,M.qTogS (p:=mkW 8 5 b5 xh (λv=>(Value.cells v).toList)) (its:=[raw az (cat [[N],[vI (wr (d.Next + 1))],[ag],[Z],enc d.Head]),raw a0 (cat [[vI b.Next],[vI (wr ((b.Keys.length : Int) - 1))],enc O,[i 8],[af],enc Y]),raw b3 (enc O),raw b1 (cV y B C b)]) (mk1:=[]) (mk2:=[_]) I R kw,trivial⟩
  intro a w ad D H I hG am
  have d5:=am 5 dd_
  have d8:=am 8 dd_
  have I:=(I.togB (pre:=[_,_,_,_]) d8).togB (pre:=[_,_,_,_,_]) d5
  obtain ⟨n,o,q,a7,_,_,_⟩:=UD (I.ro (pre:=[_,_,_,_,_]) noB)
  have aj : (ad 5) = (vcV n o q ah):=z4 a7 (hG 5 d5 _ R).2
  have I:=I.pl5
  have I:=(Ja (I.recown (congrArg (λv=>(Value.cells v).toList) aj))).pl7
  have I:=M.recell (c':=cV n o q ah) I (congrArg (λv=>(Value.cells v).toList) aj)
  have H:=H.setq (t:=86) R aj
  refine Zc H R λa H=>Zc H R λa H=>Zj ?_
  obtain rfl:=o_1 a1
  refine Zk ?_
  have I:=M.fst (l:=[_,_,_,_]) I.pl1.toOsl0.pl2.toOsl0.pl3.toOsl0.pl1.pl2.pl3
  exact ⟨n,o,q,H.s,I⟩
 rintro a w ⟨a4,a5,a6,H,I⟩
 obtain rfl:=o_1 bi
 have bl : Z7 prog _ _ (.cell 8 79) _:=ZE H R ZG R I.ra0 cq R
 have I:=M.fst (l:=[_,_,_]) I.pl3.pl3.pl3
 exact p_3 (AS H R bl (Zy H R) (Zy H R) ⟨_,R,a4,a5,a6,R,I.outF (ZK (ZK (ZK Yd))),I.kept⟩)
def Kx (c : List UInt8) (b : List V16 × Int × List GRecord × List GEvent × V32 × Int × Int × Int) : Option (Fl (List V16 × Int × List GRecord × List GEvent × V32 × Int × Int × Int) (List V16 × Int × List GRecord × List GEvent × V32 × Int × Int)) :=
 if decide (b.2.2.2.2.2.2.2 > 0) then ((((ZO c (b.2.2.2.2.2.1,b.2.2.2.2.2.2.1) 6).bind λd=>(if d.2 == 0 then ((YI c (d.1.1,d.1.2)).bind λx=>(V7 (⟨b.1,b.2.1,b.2.2.1,b.2.2.2.1,b.2.2.2.2.1⟩ : GVault) x.2).bind λl=>some (l.1.Keys,l.1.Next,l.1.Records,l.1.Events,l.1.Head,x.1.1,x.1.2,l.2)) else (if d.2 == 1 then ((ZO c (d.1.1,d.1.2) (if 1 > (wr (b.2.1 - 1)) then 1 else (wr (b.2.1 - 1)))).bind λy=>(Vp (⟨b.1,b.2.1,b.2.2.1,b.2.2.2.1,b.2.2.2.2.1⟩ : GVault) (wr (1 + y.2))).bind λm=>some (m.1.Keys,m.1.Next,m.1.Records,m.1.Events,m.1.Head,y.1.1,y.1.2,m.2)) else (if d.2 == 2 then ((ZO c (d.1.1,d.1.2) (if 1 > (wr (b.2.1 - 1)) then 1 else (wr (b.2.1 - 1)))).bind λn=>(YI c (n.1.1,n.1.2)).bind λo=>(UB (⟨b.1,b.2.1,b.2.2.1,b.2.2.2.1,b.2.2.2.2.1⟩ : GVault) (wr (1 + n.2)) o.2).bind λe=>some (e.1.Keys,e.1.Next,e.1.Records,e.1.Events,e.1.Head,o.1.1,o.1.2,e.2)) else ((Uu c (d.1.1,d.1.2)).bind λq=>(VM c (q.1.1,q.1.2) 12).bind λt=>(YI c (t.1.1,t.1.2)).bind λu=>(TL (⟨b.1,b.2.1,b.2.2.1,b.2.2.2.1,b.2.2.2.2.1⟩ : GVault) q.2 t.2 u.2).bind λf=>some (f.1.Keys,f.1.Next,f.1.Records,f.1.Events,f.1.Head,u.1.1,u.1.2,f.2.2)))) : Option (List V16 × Int × List GRecord × List GEvent × V32 × Int × Int × Int)).bind λh=>some (h.1,h.2.1,h.2.2.1,h.2.2.2.1,h.2.2.2.2.1,h.2.2.2.2.2.1,h.2.2.2.2.2.2.1,h.2.2.2.2.2.2.2) : Option (List V16 × Int × List GRecord × List GEvent × V32 × Int × Int × Int)).bind λi=>(if i.2.2.2.2.2.2.2 == 0 then (some (i.1,i.2.1,i.2.2.1,i.2.2.2.1,i.2.2.2.2.1)) else (some (b.1,b.2.1,b.2.2.1,b.2.2.2.1,b.2.2.2.2.1)) : Option (List V16 × Int × List GRecord × List GEvent × V32)).bind λj=>some (j.1,j.2.1,j.2.2.1,j.2.2.2.1,j.2.2.2.2,i.2.2.2.2.2.1,i.2.2.2.2.2.2.1) : Option (List V16 × Int × List GRecord × List GEvent × V32 × Int × Int)).bind λk=>some (Fl.nx (k.1,k.2.1,k.2.2.1,k.2.2.2.1,k.2.2.2.2.1,k.2.2.2.2.2.1,k.2.2.2.2.2.2,wr (b.2.2.2.2.2.2.2 - 1)))) else (some (Fl.ex (b.1,b.2.1,b.2.2.1,b.2.2.2.1,b.2.2.2.2.1,b.2.2.2.2.2.1,b.2.2.2.2.2.2.1)))
def QU (b : List UInt8) (j : (Int × Int)) : Option ((Int × Int) × GVault) :=
 (YI b (j.1,j.2)).bind λi=>(TW i.2).bind λh=>(ZO b (i.1.1,i.1.2) 4).bind λd=>(ZO b (d.1.1,d.1.2) 7).bind λe=>(Xv b (e.1.1,e.1.2) ([d.2,e.2] : List Int)).bind λf=>(ZQ (Kx b) (h.Keys,h.Next,h.Records,h.Events,h.Head,f.1.1,f.1.2,f.2)).bind λc=>some ((c.2.2.2.2.2.1,c.2.2.2.2.2.2),(⟨c.1,c.2.1,c.2.2.1,c.2.2.2.1,c.2.2.2.2.1⟩ : GVault))
theorem kC (St : Nat → Prop) (W w0 : World) (r0 : Item) (e : Nat) (ak : List UInt8) (d : Value) (ah : Rep.sat St W ak [d] []) (p0 : xw) (I : M St W w0 [raw e (cat [[d],[vI p0.1],[Value.int .u64 p0.2]]),r0]) (r : xw × GVault) (J : QU ak p0 = some r) :
  Calls prog 240 [ptr e 0].toArray w0 (e_r λv w'=>(∃ y1 y2 y3 : Value,v = (vcV y1 y2 y3 r.2) ∧ M St W w' [raw e (cat [[d],[vI r.1.1],[Value.int .u64 r.1.2]]),osl NoB r.2.Keys y1,osl NoB r.2.Records y2,osl NoB r.2.Events y3,r0])):=by
 refine ce func240 ?_
 intro a H
 unfold QU at J
 refine Zb (Zv H I ZG λb1 w a I H=>Ze (Zb (Zd H R λa H=>?_)))
 have I:=M.tailP (m:=[_]) I.pl1
 obtain ⟨r3,e4,J⟩:=p_1 J
 refine Zp H R yW (Xy _ _ _ _ e ak d ah (p0.1,p0.2) I r3 e4) ?_
 rintro v w a ⟨rfl,I⟩ H
 have I:=M.tailU (m:=[_]) I
 simp only [List.cons_append,List.nil_append] at I
 obtain ⟨r5,e6,J⟩:=p_1 J
 refine Zp H R (cbm func53) (y5 _ r3.2 r5 e6) ?_
 rintro v w a ⟨u7,u8,u9,rfl,hFr,hK⟩ H
 have I:=I.add hK hFr
 refine Zv H I ZG λT w a I H=>Zl (seg:=cV u7 u8 u9 r5) (cs':=cV u7 u8 u9 r5) H I Za R R R ZG cq (q_1 cq cq) (ZD (cc1 (t_2 (I.sl1)) (cc1 (s_1 (r5.Next : Int)) (cc1 (t_2 (I.sl2)) (cc1 (t_2 (I.sl3)) (cc1 (s_1 _) cc0)))))) (q_2 cq cq) λw a I H=>Ze (s_2 (Zb (Zd H R λa H=>Zd H R λa H=>?_)))
 have I:=M.tailP (m:=[_]) I.pl4
 obtain ⟨br,di,J⟩:=p_1 J
 refine Zp H R Kc (ZT _ _ _ _ e ak d ah (r3.1.1,r3.1.2) 4 I br di) ?_
 rintro v w a ⟨rfl,I⟩ H
 have I:=M.tailU (m:=[_]) I
 simp only [List.cons_append,List.nil_append] at I
 refine Zd H R λa H=>?_
 have I:=M.tailP (m:=[_]) I
 obtain ⟨bt,dj,J⟩:=p_1 J
 refine Zp H R Kc (ZT _ _ _ _ e ak d ah (br.1.1,br.1.2) 7 I bt dj) ?_
 rintro v w a ⟨rfl,I⟩ H
 have I:=M.tailU (m:=[_]) I
 simp only [List.cons_append,List.nil_append] at I
 refine ZM (xs:=[.tmp 12,.tmp 14]) (l:=([br.2,bt.2] : List Int)) (vs:=[vI br.2,vI bt.2]) H I Za ld R R t_3 ty2 R dd_ R λdk w a I H=>?_
 have I:=M.tailP (m:=[_,_]) I.pl1
 obtain ⟨dl,dm,J⟩:=p_1 J
 refine Zp H R yO (Vi _ _ _ _ e ak d ah (bt.1.1,bt.1.2) ([br.2,bt.2] : List Int) dk I dl dm) ?_
 rintro v w a ⟨rfl,I⟩ H
 have I:=M.tailU (m:=[_,_]) I
 simp only [List.cons_append,List.nil_append] at I
 refine Zc H R λa H=>Ze ?_
 obtain ⟨az,cr,ct⟩:=p_1 J
 refine ZV (λa w=>∃ bu bv bw : Value,Env 79 a [(2,ptr b1 0),(3,ptr T 0)] ∧ M St W w [raw e (cat [[d],[vI az.2.2.2.2.2.1],[Value.int .u64 az.2.2.2.2.2.2]]),raw T (cat [[bu],[vI az.2.1],[bv],[bw],enc az.2.2.2.2.1]),raw b1 xh,r0,osl NoB az.1 bu,osl NoB az.2.2.1 bv,osl NoB az.2.2.2.1 bw]) ?_ ?_
 ·refine p_2 ?_
  have I:=(I.pl5.pl5.pl5.pl7.pl7.pl7.pl6.pl7).drop
  refine ZP (λ(b : List V16 × Int × List GRecord × List GEvent × V32 × Int × Int × Int) a w=>∃ h u32 n : Value,Env 79 a [(0,ptr e 0),(2,ptr b1 0),(3,ptr T 0),(4,vI b.2.2.2.2.2.2.2)] ∧ M St W w [raw e (cat [[d],[vI b.2.2.2.2.2.1],[Value.int .u64 b.2.2.2.2.2.2.1]]),raw T (cat [[h],[vI b.2.1],[u32],[n],enc b.2.2.2.2.1]),raw b1 xh,r0,osl NoB b.1 h,osl NoB b.2.2.1 u32,osl NoB b.2.2.2.1 n]) cr ⟨u7,u8,u9,H.s,I⟩ ?_
  rintro b a w ⟨h,u32,n,H,I⟩ em a8 cu
  unfold Kx at a8
  refine s_2 (Zb (Zd H R λa H=>Zn H R R R λa H=>Ze ?_))
  refine c_if H R a8 ?_ ?_
  ·intro cv a8
   refine u_2 (ZA ?_)
   obtain ⟨bn,cw,cx⟩:=p_1 a8
   refine ZI (λa w=>∃ b9 ca cb : Value,Env 79 a [(0,ptr e 0),(2,ptr b1 0),(3,ptr T 0),(4,vI b.2.2.2.2.2.2.2)] ∧ M St W w [raw e (cat [[d],[vI bn.2.2.2.2.2.1],[Value.int .u64 bn.2.2.2.2.2.2]]),raw T (cat [[b9],[vI bn.2.1],[ca],[cb],enc bn.2.2.2.2.1]),raw b1 xh,r0,osl NoB bn.1 b9,osl NoB bn.2.2.1 ca,osl NoB bn.2.2.2.1 cb]) ?_ ?_
   ·refine p_2 (Zb (Yi (parts:=[]) (vs:=[]) (cs:=cat xa) H Za ld R R ZG Ju YF λa H=>Zv H I ZG λaj w a I H=>Zl (seg:=cat xa) (cs':=cat xa) H I Za R R R ZG cq (q_1 cq cq) (ZD (cc1 ZZ (cc1 (s_1 xi) (cc1 ZZ (cc1 ZZ (cc1 (s_1 _) cc0)))))) (q_2 cq cq) λw a I H=>Zc H R λa H=>Ze ?_))
    obtain ⟨aq,b4,cy⟩:=p_1 cw
    refine ZI (λa w=>∃ bx bz b0 : Value,Env 79 a [(0,ptr e 0),(2,ptr b1 0),(3,ptr T 0),(4,vI b.2.2.2.2.2.2.2),(5,ptr aj 0),(6,vI aq.2.2.2.2.2.2.2)] ∧ M St W w [raw aj (cat [[bx],[vI aq.2.1],[bz],[b0],enc aq.2.2.2.2.1]),raw e (cat [[d],[vI aq.2.2.2.2.2.1],[Value.int .u64 aq.2.2.2.2.2.2.1]]),raw T (cat [[h],[vI b.2.1],[u32],[n],enc b.2.2.2.2.1]),raw b1 xh,r0,osl NoB b.1 h,osl NoB b.2.2.1 u32,osl NoB b.2.2.2.1 n,osl NoB aq.1 bx,osl NoB aq.2.2.1 bz,osl NoB aq.2.2.2.1 b0]) ?_ ?_
    ·refine Zb (Zd H R λa H=>?_)
     have I:=M.tailP (m:=[_]) I.pl1
     obtain ⟨q,dp,b4⟩:=p_1 b4
     refine Zp H R Kc (ZT _ _ _ _ e ak d ah (b.2.2.2.2.2.1,b.2.2.2.2.2.2.1) 6 I q dp) ?_
     rintro v w a ⟨rfl,I⟩ H
     have I:=M.tailU (m:=[_]) I
     simp only [List.cons_append,List.nil_append] at I
     refine Ze (p_2 (Zb (Zn H R R R λa H=>Zc H R λa H=>Ze ?_)))
     obtain ⟨be,o,cz⟩:=p_1 b4
     refine ZV (λa w=>∃ cc cd cf : Value,Env 79 a [(0,ptr e 0),(2,ptr b1 0),(3,ptr T 0),(4,vI b.2.2.2.2.2.2.2),(5,ptr aj 0),(6,vI be.2.2.2.2.2.2.2)] ∧ M St W w [raw e (cat [[d],[vI be.2.2.2.2.2.1],[Value.int .u64 be.2.2.2.2.2.2.1]]),raw aj (cat [[cc],[vI be.2.1],[cd],[cf],enc be.2.2.2.2.1]),raw T (cat [[h],[vI b.2.1],[u32],[n],enc b.2.2.2.2.1]),raw b1 xh,r0,osl NoB b.1 h,osl NoB b.2.2.1 u32,osl NoB b.2.2.2.1 n,osl NoB be.1 cc,osl NoB be.2.2.1 cd,osl NoB be.2.2.2.1 cf]) ?_ ?_
     ·refine c_if H R o ?_ ?_
      ·intro c0 o
       have I:=I.pl1.pl1
       obtain ⟨a2,dq,o⟩:=p_1 o
       obtain ⟨au,dr,o⟩:=p_1 o
       refine Ys (its:=[raw T (cat [[h],[vI b.2.1],[u32],[n],enc b.2.2.2.2.1]),raw b1 xh,r0,osl NoB b.1 h,osl NoB b.2.2.1 u32,osl NoB b.2.2.2.1 n]) (mk:=([mkW 7 3 aj xh (λv=>(Value.cells (Yw v 0)).toList),([2],λbs _=>(tog (bs.getD 0 false) (raw e (cat [[d],[vI q.1.1],[Value.int .u64 q.1.2]])) (raw e (cat [[d],[vI a2.1.1],[Value.int .u64 a2.1.2]])))),mkO 3 (λv=>own NoB au.1 (Value.cells (Yw v 0)).toList)] : Mk)) [39,40,41,42,38,43,44,86] Yx R R dd_ R H (λu=>M.qS (M.qS (M.qE (M.q0 I.drew u) emO) λ_=>R) λ_=>R) (qsP (v:=(Value.agg (cat [[h],[vI b.2.1],[u32],[n],enc b.2.2.2.2.1]).toArray)) ?_ (q_m (λ_=>R) (qsV (v:=(Value.agg (enc a2.2).toArray)) ?_ (qsM (pr:=λv=>v = (Value.tuple [Yw v 0,vI au.2].toArray) ∧ ∃ cs,(Yw v 0) = .agg cs) ?_ (qsD (ds:=[3]) (f:=λus=>(Value.tuple [Yw (us.getD 0 undef) 0,vI au.2].toArray)) ?_ (qsD (ds:=[3]) (f:=λus=>(Yw (us.getD 0 undef) 0)) ?_ (qsP (λz=>ZF z.E Za ld R R (kr0 R)) (q_t ?_ qs0)))))))) ?_
       ·intro a w ao D z
        have H:=z.E
        have hD : D 0 = false:=z.F
        have I:=z.M.togA (pre:=[_,_,_,_,_,_]) (VE (j:=7) (k:=2) z.c R R R hD)
        exact Zq H R ZG R I.ra0 cq λa H=>⟨p_5 _ _,_,R,H⟩
       ·intro a w ao D z
        have H:=z.E
        have hD : D 2 = false:=z.F
        have I:=M.tailP (m:=[_]) ((z.M.togA (pre:=[_,_,_,_,_,_,_]) hD).pl7)
        refine Zp H R yW (Xy _ _ _ _ e ak d ah (q.1.1,q.1.2) I a2 dq) ?_
        rintro v w a ⟨rfl,I⟩ H
        have I:=M.tailU (m:=[_]) I
        simp only [List.cons_append,List.nil_append] at I
        exact ⟨_,R,H,M.qTogS (mk1:=[_]) (mk2:=[_]) I R (by show tog (Xu D 2 2) (raw e (cat [[d],[vI q.1.1],[Value.int .u64 q.1.2]])) (raw e (cat [[d],[vI a2.1.1],[Value.int .u64 a2.1.2]])) = _; rw [tg1 A6])⟩
       ·intro a w ao D z
        have H:=z.E
        have hD : D 3 = false:=z.F
        have hM0:=z.M
        have I:=z.M.togA (pre:=[_,_,_,_,_,_]) (VE (j:=7) (k:=1) z.c R R R hD)
        refine Zp H R (cbm func62) (HL _ (⟨b.1,b.2.1,b.2.2.1,b.2.2.2.1,b.2.2.2.2.1⟩ : GVault) h (I.sl3) u32 (I.sl4) n (I.sl5) a2.2 au dr) ?_
        rintro _ w a ⟨en,eo,ep,rfl,hFr,hK⟩ H
        have I:=K5 (x:=au.1) (hM0.add hK hFr) sio sio sio
        have cg : D 7 = false:=VE (j:=7) (k:=1) z.c R R R hD
        have I:=I.togA (pre:=[_,_,_,_,_,_,_]) cg
        exact ⟨_,_,R,H,M.qUnconst (p:=mkW 7 3 aj xh (λv=>(Value.cells (Yw v 0)).toList)) (its:=[raw T (cat [[h],[vI b.2.1],[u32],[n],enc b.2.2.2.2.1]),raw b1 xh,r0,osl NoB b.1 h,osl NoB b.2.2.1 u32,osl NoB b.2.2.2.1 n]) (mk1:=([] : Mk)) (mk2:=([([2],λbs _=>(tog (bs.getD 0 false) (raw e (cat [[d],[vI q.1.1],[Value.int .u64 q.1.2]])) (raw e (cat [[d],[vI a2.1.1],[Value.int .u64 a2.1.2]])))),mkO 3 (λv=>own NoB au.1 (Value.cells (Yw v 0)).toList)] : Mk)) (M.qFill (its:=[raw T (cat [[h],[vI b.2.1],[u32],[n],enc b.2.2.2.2.1]),raw b1 xh,r0,osl NoB b.1 h,osl NoB b.2.2.1 u32,osl NoB b.2.2.2.1 n]) (mk1:=([([],λ_ _=>raw aj xh),([2],λbs _=>(tog (bs.getD 0 false) (raw e (cat [[d],[vI q.1.1],[Value.int .u64 q.1.2]])) (raw e (cat [[d],[vI a2.1.1],[Value.int .u64 a2.1.2]]))))] : Mk)) (mk2:=([] : Mk)) (f:=(λv=>own NoB au.1 (Value.cells (Yw v 0)).toList)) I R hD) (zp cg),⟨R,⟨_,R⟩⟩⟩
       ·intro a w ao D z
        have H:=z.E
        have d3 : D 3 = true:=z.p 0 _ R R
        have g3:=z.G 3 d3 _ R
        have f3 : ao 3 = (Value.tuple [Yw (ao 3) 0,vI au.2].toArray):=g3.2.1
        exact Zd H (lk R f3) λa H=>⟨p_5 _ _,AF d3 yn,_,R,H⟩
       ·intro a w ao D z
        have H:=z.E
        have d4 : D 4 = true:=z.p 0 _ R R
        have d3 : D 3 = true:=z.c 4 _ _ R (List.mem_of_getElem? (i:=0) R) R d4
        exact ZF H Za ld R R λa H=>⟨p_5 _ _,AF d3 yn,_,R,H⟩
       ·intro a w ao D z
        have H:=z.E
        have hD : D 7 = false:=z.F
        have d5 : D 5 = true:=z.p 0 _ R R
        have g5:=z.G 5 d5 _ R
        have d3 : D 3 = true:=g5.1 3 (show 3 ∈ [3] by decide)
        have I:=(z.M.sure (pre:=[_,_,_,_,_,_,_,_]) d3).togA (pre:=[_,_,_,_,_,_]) hD
        obtain ⟨X,Y,Z,ar,bg,bh,bi⟩:=UD (I.ro (pre:=[_,_,_,_,_,_,_,_]) noB)
        have a9 : (Yw (ao 3) 0) = (vcV X Y Z au.1):=z4 ar (z.G 3 (by assumption) _ R).2.2
        have I:=I.pl6
        refine Zl (seg:=cV X Y Z au.1) (cs':=cV X Y Z au.1) H I Za R (lk R a9) R ZG cq (q_1 cq cq) (ZD (cc1 (t_2 bg) (cc1 (s_1 (au.1.Next : Int)) (cc1 (t_2 bh) (cc1 (t_2 bi) (cc1 (s_1 _) cc0)))))) (q_2 cq cq) λw a I H=>?_
        have I:=(M.recell I (show _ = (Value.cells (Yw (ao 3) 0)).toList from by rw [a9]; rfl)).unsure (pre:=[_,_,_,_,_,_,_,_]) d3
        exact ⟨undef,_,R,Env.dummy H dd_,M.qTogS (p:=mkW 7 3 aj xh (λv=>(Value.cells (Yw v 0)).toList)) (its:=[raw T (cat [[h],[vI b.2.1],[u32],[n],enc b.2.2.2.2.1]),raw b1 xh,r0,osl NoB b.1 h,osl NoB b.2.2.1 u32,osl NoB b.2.2.2.1 n]) (mk1:=[]) (mk2:=[_,_]) I R kw,trivial⟩
       intro a w ao D H I hG af
       have d2:=af 2 dd_
       have d3:=af 3 dd_
       have d7:=af 7 dd_
       have I:=((I.togB (pre:=[_,_,_,_,_,_]) d7).togB (pre:=[_,_,_,_,_,_,_]) d2).sure (pre:=[_,_,_,_,_,_,_,_]) d3
       obtain ⟨X,Y,Z,ar,_,_,_⟩:=UD (I.ro (pre:=[_,_,_,_,_,_,_,_]) noB)
       have a9 : (Yw (ao 3) 0) = (vcV X Y Z au.1):=z4 ar (hG 3 d3 _ R).2.2
       have I:=I.pl8
       have I:=(Ja (I.recown (congrArg (λv=>(Value.cells v).toList) a9))).pl9
       have I:=M.recell (c':=cV X Y Z au.1) I (congrArg (λv=>(Value.cells v).toList) a9)
       have H:=H.setq (t:=43) R a9
       refine Zc H R λa H=>Zj ?_
       obtain rfl:=o_1 o
       refine Zk ?_
       have I:=I.pl1.toOsl0.pl2.toOsl0.pl3.toOsl0.pl1.pl2.pl9.pl9.pl9.pl9.pl9.pl9.pl9.pl10
       exact ⟨X,Y,Z,H.s,I⟩
      intro c0 o
      refine Zb (Zn H R R R λa H=>Zc H R λa H=>Ze ?_)
      refine c_if H R o ?_ ?_
      ·intro c1 o
       have I:=I.pl1.pl1
       obtain ⟨a0,dt,o⟩:=p_1 o
       obtain ⟨av,du,o⟩:=p_1 o
       refine Ys (its:=[raw T (cat [[h],[vI b.2.1],[u32],[n],enc b.2.2.2.2.1]),raw b1 xh,r0,osl NoB b.1 h,osl NoB b.2.2.1 u32,osl NoB b.2.2.2.1 n]) (mk:=([mkW 12 8 aj xh (λv=>(Value.cells (Yw v 0)).toList),([6],λbs _=>(tog (bs.getD 0 false) (raw e (cat [[d],[vI q.1.1],[Value.int .u64 q.1.2]])) (raw e (cat [[d],[vI a0.1.1],[Value.int .u64 a0.1.2]])))),mkO 8 (λv=>own NoB av.1 (Value.cells (Yw v 0)).toList)] : Mk)) [48,49,50,51,52,53,54,55,56,47,57,58,91] Yx R R dd_ R H (λu=>M.qS (M.qS (M.qE (M.q0 I.drew u) emO) λ_=>R) λ_=>R) (qsP (v:=(Value.agg (cat [[h],[vI b.2.1],[u32],[n],enc b.2.2.2.2.1]).toArray)) ?_ (q_m (λ_=>R) (qsP (λz=>Zi z.E Za ld R (Qw) (kr0 R)) (qsP (v:=(vI b.2.1)) ?_ (qsP (v:=(vI (wr (b.2.1 - 1)))) (λz=>Yc z.E Za ld R R R (kr0 R)) (qsP (λz=>s_max z.E Za ld R R (kr0 R)) (qsV (v:=(vI a0.2)) ?_ (qsP (v:=(vI (wr (1 + a0.2)))) (λz=>Yc z.E Za ld R R R (kr0 R)) (qsM (pr:=λv=>v = (Value.tuple [Yw v 0,vI av.2].toArray) ∧ ∃ cs,(Yw v 0) = .agg cs) ?_ (qsD (ds:=[8]) (f:=λus=>(Value.tuple [Yw (us.getD 0 undef) 0,vI av.2].toArray)) ?_ (qsD (ds:=[8]) (f:=λus=>(Yw (us.getD 0 undef) 0)) ?_ (qsP (λz=>ZF z.E Za ld R R (kr0 R)) (q_t ?_ qs0))))))))))))) ?_
       ·intro a w an D z
        have H:=z.E
        have hD : D 0 = false:=z.F
        have I:=z.M.togA (pre:=[_,_,_,_,_,_]) (VE (j:=12) (k:=2) z.c R R R hD)
        exact Zq H R ZG R I.ra0 cq λa H=>⟨p_5 _ _,_,R,H⟩
       ·intro a w an D z
        have H:=z.E
        have hD : D 3 = false:=z.F
        have I:=z.M.togA (pre:=[_,_,_,_,_,_]) (VE (j:=12) (k:=5) z.c R R R hD)
        exact ZB (v:=(vI b.2.1)) H R ty2 R (at_1 I.ra0) λa H=>⟨p_5 _ _,_,R,H⟩
       ·intro a w an D z
        have H:=z.E
        have hD : D 6 = false:=z.F
        have I:=M.tailP (m:=[_]) ((z.M.togA (pre:=[_,_,_,_,_,_,_]) hD).pl7)
        refine Zp H R Kc (ZT _ _ _ _ e ak d ah (q.1.1,q.1.2) (if 1 > (wr (b.2.1 - 1)) then 1 else (wr (b.2.1 - 1))) I a0 dt) ?_
        rintro v w a ⟨rfl,I⟩ H
        have I:=M.tailU (m:=[_]) I
        simp only [List.cons_append,List.nil_append] at I
        exact ⟨_,R,H,M.qTogS (mk1:=[_]) (mk2:=[_]) I R (by show tog (Xu D 6 6) (raw e (cat [[d],[vI q.1.1],[Value.int .u64 q.1.2]])) (raw e (cat [[d],[vI a0.1.1],[Value.int .u64 a0.1.2]])) = _; rw [tg1 A6])⟩
       ·intro a w an D z
        have H:=z.E
        have hD : D 8 = false:=z.F
        have hM0:=z.M
        have I:=z.M.togA (pre:=[_,_,_,_,_,_]) (VE (j:=12) (k:=1) z.c R R R hD)
        refine Zp H R (cbm func59) (Hj _ (⟨b.1,b.2.1,b.2.2.1,b.2.2.2.1,b.2.2.2.2.1⟩ : GVault) h (I.sl3) u32 (I.sl4) n (I.sl5) (wr (1 + a0.2)) av du) ?_
        rintro _ w a ⟨ew,ex,ey,rfl,hFr,hK⟩ H
        have I:=K5 (x:=av.1) (hM0.add hK hFr) sio sio sio
        have a3 : D 12 = false:=VE (j:=12) (k:=1) z.c R R R hD
        have I:=I.togA (pre:=[_,_,_,_,_,_,_]) a3
        exact ⟨_,_,R,H,M.qUnconst (p:=mkW 12 8 aj xh (λv=>(Value.cells (Yw v 0)).toList)) (its:=[raw T (cat [[h],[vI b.2.1],[u32],[n],enc b.2.2.2.2.1]),raw b1 xh,r0,osl NoB b.1 h,osl NoB b.2.2.1 u32,osl NoB b.2.2.2.1 n]) (mk1:=([] : Mk)) (mk2:=([([6],λbs _=>(tog (bs.getD 0 false) (raw e (cat [[d],[vI q.1.1],[Value.int .u64 q.1.2]])) (raw e (cat [[d],[vI a0.1.1],[Value.int .u64 a0.1.2]])))),mkO 8 (λv=>own NoB av.1 (Value.cells (Yw v 0)).toList)] : Mk)) (M.qFill (its:=[raw T (cat [[h],[vI b.2.1],[u32],[n],enc b.2.2.2.2.1]),raw b1 xh,r0,osl NoB b.1 h,osl NoB b.2.2.1 u32,osl NoB b.2.2.2.1 n]) (mk1:=([([],λ_ _=>raw aj xh),([6],λbs _=>(tog (bs.getD 0 false) (raw e (cat [[d],[vI q.1.1],[Value.int .u64 q.1.2]])) (raw e (cat [[d],[vI a0.1.1],[Value.int .u64 a0.1.2]]))))] : Mk)) (mk2:=([] : Mk)) (f:=(λv=>own NoB av.1 (Value.cells (Yw v 0)).toList)) I R hD) (zp a3),⟨R,⟨_,R⟩⟩⟩
       ·intro a w an D z
        have H:=z.E
        have d8 : D 8 = true:=z.p 0 _ R R
        have g8:=z.G 8 d8 _ R
        have f8 : an 8 = (Value.tuple [Yw (an 8) 0,vI av.2].toArray):=g8.2.1
        exact Zd H (lk R f8) λa H=>⟨p_5 _ _,AF d8 yn,_,R,H⟩
       ·intro a w an D z
        have H:=z.E
        have d9 : D 9 = true:=z.p 0 _ R R
        have d8 : D 8 = true:=z.c 9 _ _ R (List.mem_of_getElem? (i:=0) R) R d9
        exact ZF H Za ld R R λa H=>⟨p_5 _ _,AF d8 yn,_,R,H⟩
       ·intro a w an D z
        have H:=z.E
        have hD : D 12 = false:=z.F
        have a1 : D 10 = true:=z.p 0 _ R R
        have ch:=z.G 10 a1 _ R
        have d8 : D 8 = true:=ch.1 8 (show 8 ∈ [8] by decide)
        have I:=(z.M.sure (pre:=[_,_,_,_,_,_,_,_]) d8).togA (pre:=[_,_,_,_,_,_]) hD
        obtain ⟨aa,ab,ac,ar,bj,bk,bl⟩:=UD (I.ro (pre:=[_,_,_,_,_,_,_,_]) noB)
        have ba : (Yw (an 8) 0) = (vcV aa ab ac av.1):=z4 ar (z.G 8 (by assumption) _ R).2.2
        have I:=I.pl6
        refine Zl (seg:=cV aa ab ac av.1) (cs':=cV aa ab ac av.1) H I Za R (lk R ba) R ZG cq (q_1 cq cq) (ZD (cc1 (t_2 bj) (cc1 (s_1 (av.1.Next : Int)) (cc1 (t_2 bk) (cc1 (t_2 bl) (cc1 (s_1 _) cc0)))))) (q_2 cq cq) λw a I H=>?_
        have I:=(M.recell I (show _ = (Value.cells (Yw (an 8) 0)).toList from by rw [ba]; rfl)).unsure (pre:=[_,_,_,_,_,_,_,_]) d8
        exact ⟨undef,_,R,Env.dummy H dd_,M.qTogS (p:=mkW 12 8 aj xh (λv=>(Value.cells (Yw v 0)).toList)) (its:=[raw T (cat [[h],[vI b.2.1],[u32],[n],enc b.2.2.2.2.1]),raw b1 xh,r0,osl NoB b.1 h,osl NoB b.2.2.1 u32,osl NoB b.2.2.2.1 n]) (mk1:=[]) (mk2:=[_,_]) I R kw,trivial⟩
       intro a w an D H I hG af
       have d6:=af 6 dd_
       have d8:=af 8 dd_
       have b5:=af 12 dd_
       have I:=((I.togB (pre:=[_,_,_,_,_,_]) b5).togB (pre:=[_,_,_,_,_,_,_]) d6).sure (pre:=[_,_,_,_,_,_,_,_]) d8
       obtain ⟨aa,ab,ac,ar,_,_,_⟩:=UD (I.ro (pre:=[_,_,_,_,_,_,_,_]) noB)
       have ba : (Yw (an 8) 0) = (vcV aa ab ac av.1):=z4 ar (hG 8 d8 _ R).2.2
       have I:=I.pl8
       have I:=(Ja (I.recown (congrArg (λv=>(Value.cells v).toList) ba))).pl9
       have I:=M.recell (c':=cV aa ab ac av.1) I (congrArg (λv=>(Value.cells v).toList) ba)
       have H:=H.setq (t:=57) R ba
       refine Zc H R λa H=>Zj ?_
       obtain rfl:=o_1 o
       refine Zk ?_
       have I:=I.pl1.toOsl0.pl2.toOsl0.pl3.toOsl0.pl1.pl2.pl9.pl9.pl9.pl9.pl9.pl9.pl9.pl10
       exact ⟨aa,ab,ac,H.s,I⟩
      intro c1 o
      refine Zb (Zn H R R R λa H=>Zc H R λa H=>Ze ?_)
      refine c_if H R o ?_ ?_
      ·intro c4 o
       have I:=I.pl1.pl1
       obtain ⟨ai,c5,o⟩:=p_1 o
       obtain ⟨am,c6,o⟩:=p_1 o
       obtain ⟨al,c7,o⟩:=p_1 o
       refine Ys (its:=[raw T (cat [[h],[vI b.2.1],[u32],[n],enc b.2.2.2.2.1]),raw b1 xh,r0,osl NoB b.1 h,osl NoB b.2.2.1 u32,osl NoB b.2.2.2.1 n]) (mk:=([mkW 14 10 aj xh (λv=>(Value.cells (Yw v 0)).toList),([6,9],λbs _=>(tog (bs.getD 0 false) (raw e (cat [[d],[vI q.1.1],[Value.int .u64 q.1.2]])) (tog (bs.getD 1 false) (raw e (cat [[d],[vI ai.1.1],[Value.int .u64 ai.1.2]])) (raw e (cat [[d],[vI am.1.1],[Value.int .u64 am.1.2]]))))),mkO 10 (λv=>own NoB al.1 (Value.cells (Yw v 0)).toList)] : Mk)) [62,63,64,65,66,67,68,69,70,71,72,61,73,74,93] Yx R R dd_ R H (λu=>M.qS (M.qS (M.qE (M.q0 I.drew u) emO) λ_=>R) λ_=>R) (qsP (v:=(Value.agg (cat [[h],[vI b.2.1],[u32],[n],enc b.2.2.2.2.1]).toArray)) ?_ (q_m (λ_=>R) (qsP (λz=>Zi z.E Za ld R (Qw) (kr0 R)) (qsP (v:=(vI b.2.1)) ?_ (qsP (v:=(vI (wr (b.2.1 - 1)))) (λz=>Yc z.E Za ld R R R (kr0 R)) (qsP (λz=>s_max z.E Za ld R R (kr0 R)) (qsV (v:=(vI ai.2)) ?_ (qsP (v:=(vI (wr (1 + ai.2)))) (λz=>Yc z.E Za ld R R R (kr0 R)) (q_m (λ_=>R) (qsV (v:=(Value.agg (enc am.2).toArray)) ?_ (qsM (pr:=λv=>v = (Value.tuple [Yw v 0,vI al.2].toArray) ∧ ∃ cs,(Yw v 0) = .agg cs) ?_ (qsD (ds:=[10]) (f:=λus=>(Value.tuple [Yw (us.getD 0 undef) 0,vI al.2].toArray)) ?_ (qsD (ds:=[10]) (f:=λus=>(Yw (us.getD 0 undef) 0)) ?_ (qsP (λz=>ZF z.E Za ld R R (kr0 R)) (q_t ?_ qs0))))))))))))))) ?_
       ·intro a w ag D z
        have H:=z.E
        have hD : D 0 = false:=z.F
        have I:=z.M.togA (pre:=[_,_,_,_,_,_]) (VE (j:=14) (k:=2) z.c R R R hD)
        exact Zq H R ZG R I.ra0 cq λa H=>⟨p_5 _ _,_,R,H⟩
       ·intro a w ag D z
        have H:=z.E
        have hD : D 3 = false:=z.F
        have I:=z.M.togA (pre:=[_,_,_,_,_,_]) (VE (j:=14) (k:=5) z.c R R R hD)
        exact ZB (v:=(vI b.2.1)) H R ty2 R (at_1 I.ra0) λa H=>⟨p_5 _ _,_,R,H⟩
       ·intro a w ag D z
        have H:=z.E
        have hD : D 6 = false:=z.F
        have I:=z.M.togA (pre:=[_,_,_,_,_,_,_]) hD
        have hNx : D 9 = false:=VE (j:=9) (k:=1) z.c R R R hD
        have I:=M.tailP (m:=[_]) I.pl7
        refine Zp H R Kc (ZT _ _ _ _ e ak d ah (q.1.1,q.1.2) (if 1 > (wr (b.2.1 - 1)) then 1 else (wr (b.2.1 - 1))) I ai c5) ?_
        rintro v w a ⟨rfl,I⟩ H
        have I:=M.tailU (m:=[_]) I
        simp only [List.cons_append,List.nil_append] at I
        exact ⟨_,R,H,M.qTogS (mk1:=[_]) (mk2:=[_]) I R (by show tog (Xu D 6 6) (raw e (cat [[d],[vI q.1.1],[Value.int .u64 q.1.2]])) (tog (Xu D 6 9) (raw e (cat [[d],[vI ai.1.1],[Value.int .u64 ai.1.2]])) (raw e (cat [[d],[vI am.1.1],[Value.int .u64 am.1.2]]))) = _; rw [tg1 A6,tg0 (updN (i:=6) hNx dd_)])⟩
       ·intro a w ag D z
        have H:=z.E
        have hD : D 9 = false:=z.F
        have I:=z.M
        have c8 : D 6 = true:=z.p 1 _ R R
        have I:=M.tailP (m:=[_]) (((I.togB (pre:=[_,_,_,_,_,_,_]) c8).togA (pre:=[_,_,_,_,_,_,_]) hD).pl7)
        refine Zp H R yW (Xy _ _ _ _ e ak d ah (ai.1.1,ai.1.2) I am c6) ?_
        rintro v w a ⟨rfl,I⟩ H
        have I:=M.tailU (m:=[_]) I
        simp only [List.cons_append,List.nil_append] at I
        exact ⟨_,R,H,M.qTogS (mk1:=[_]) (mk2:=[_]) I R (by show tog (Xu D 9 6) (raw e (cat [[d],[vI q.1.1],[Value.int .u64 q.1.2]])) (tog (Xu D 9 9) (raw e (cat [[d],[vI ai.1.1],[Value.int .u64 ai.1.2]])) (raw e (cat [[d],[vI am.1.1],[Value.int .u64 am.1.2]]))) = _; rw [tg1 (updK c8),tg1 A6])⟩
       ·intro a w ag D z
        have H:=z.E
        have hD : D 10 = false:=z.F
        have hM0:=z.M
        have I:=z.M.togA (pre:=[_,_,_,_,_,_]) (VE (j:=14) (k:=1) z.c R R R hD)
        refine Zp H R (cbm func64) (Bb _ (⟨b.1,b.2.1,b.2.2.1,b.2.2.2.1,b.2.2.2.2.1⟩ : GVault) h (I.sl3) u32 (I.sl4) n (I.sl5) (wr (1 + ai.2)) am.2 al c7) ?_
        rintro _ w a ⟨eb,ec,ed,rfl,hFr,hK⟩ H
        have I:=K5 (x:=al.1) (hM0.add hK hFr) sio sio sio
        have b6 : D 14 = false:=VE (j:=14) (k:=1) z.c R R R hD
        have I:=I.togA (pre:=[_,_,_,_,_,_,_]) b6
        exact ⟨_,_,R,H,M.qUnconst (p:=mkW 14 10 aj xh (λv=>(Value.cells (Yw v 0)).toList)) (its:=[raw T (cat [[h],[vI b.2.1],[u32],[n],enc b.2.2.2.2.1]),raw b1 xh,r0,osl NoB b.1 h,osl NoB b.2.2.1 u32,osl NoB b.2.2.2.1 n]) (mk1:=([] : Mk)) (mk2:=([([6,9],λbs _=>(tog (bs.getD 0 false) (raw e (cat [[d],[vI q.1.1],[Value.int .u64 q.1.2]])) (tog (bs.getD 1 false) (raw e (cat [[d],[vI ai.1.1],[Value.int .u64 ai.1.2]])) (raw e (cat [[d],[vI am.1.1],[Value.int .u64 am.1.2]]))))),mkO 10 (λv=>own NoB al.1 (Value.cells (Yw v 0)).toList)] : Mk)) (M.qFill (its:=[raw T (cat [[h],[vI b.2.1],[u32],[n],enc b.2.2.2.2.1]),raw b1 xh,r0,osl NoB b.1 h,osl NoB b.2.2.1 u32,osl NoB b.2.2.2.1 n]) (mk1:=([([],λ_ _=>raw aj xh),([6,9],λbs _=>(tog (bs.getD 0 false) (raw e (cat [[d],[vI q.1.1],[Value.int .u64 q.1.2]])) (tog (bs.getD 1 false) (raw e (cat [[d],[vI ai.1.1],[Value.int .u64 ai.1.2]])) (raw e (cat [[d],[vI am.1.1],[Value.int .u64 am.1.2]])))))] : Mk)) (mk2:=([] : Mk)) (f:=(λv=>own NoB al.1 (Value.cells (Yw v 0)).toList)) I R hD) (zp b6),⟨R,⟨_,R⟩⟩⟩
       ·intro a w ag D z
        have H:=z.E
        have a1 : D 10 = true:=z.p 0 _ R R
        have ch:=z.G 10 a1 _ R
        have dv : ag 10 = (Value.tuple [Yw (ag 10) 0,vI al.2].toArray):=ch.2.1
        exact Zd H (lk R dv) λa H=>⟨p_5 _ _,AF a1 yn,_,R,H⟩
       ·intro a w ag D z
        have H:=z.E
        have dw : D 11 = true:=z.p 0 _ R R
        have a1 : D 10 = true:=z.c 11 _ _ R (List.mem_of_getElem? (i:=0) R) R dw
        exact ZF H Za ld R R λa H=>⟨p_5 _ _,AF a1 yn,_,R,H⟩
       ·intro a w ag D z
        have H:=z.E
        have hD : D 14 = false:=z.F
        have b5 : D 12 = true:=z.p 0 _ R R
        have dx:=z.G 12 b5 _ R
        have a1 : D 10 = true:=dx.1 10 (show 10 ∈ [10] by decide)
        have I:=(z.M.sure (pre:=[_,_,_,_,_,_,_,_]) a1).togA (pre:=[_,_,_,_,_,_]) hD
        obtain ⟨B,C,K,ar,a5,a6,a7⟩:=UD (I.ro (pre:=[_,_,_,_,_,_,_,_]) noB)
        have ax : (Yw (ag 10) 0) = (vcV B C K al.1):=z4 ar (z.G 10 (by assumption) _ R).2.2
        have I:=I.pl6
        refine Zl (seg:=cV B C K al.1) (cs':=cV B C K al.1) H I Za R (lk R ax) R ZG cq (q_1 cq cq) (ZD (cc1 (t_2 a5) (cc1 (s_1 (al.1.Next : Int)) (cc1 (t_2 a6) (cc1 (t_2 a7) (cc1 (s_1 _) cc0)))))) (q_2 cq cq) λw a I H=>?_
        have I:=(M.recell I (show _ = (Value.cells (Yw (ag 10) 0)).toList from by rw [ax]; rfl)).unsure (pre:=[_,_,_,_,_,_,_,_]) a1
        exact ⟨undef,_,R,Env.dummy H dd_,M.qTogS (p:=mkW 14 10 aj xh (λv=>(Value.cells (Yw v 0)).toList)) (its:=[raw T (cat [[h],[vI b.2.1],[u32],[n],enc b.2.2.2.2.1]),raw b1 xh,r0,osl NoB b.1 h,osl NoB b.2.2.1 u32,osl NoB b.2.2.2.1 n]) (mk1:=[]) (mk2:=[_,_]) I R kw,trivial⟩
       intro a w ag D H I hG af
       have d6:=af 6 dd_
       have d9:=af 9 dd_
       have a1:=af 10 dd_
       have dy:=af 14 dd_
       have I:=(((I.togB (pre:=[_,_,_,_,_,_]) dy).togB (pre:=[_,_,_,_,_,_,_]) d6).togB (pre:=[_,_,_,_,_,_,_]) d9).sure (pre:=[_,_,_,_,_,_,_,_]) a1
       obtain ⟨B,C,K,ar,_,_,_⟩:=UD (I.ro (pre:=[_,_,_,_,_,_,_,_]) noB)
       have ax : (Yw (ag 10) 0) = (vcV B C K al.1):=z4 ar (hG 10 a1 _ R).2.2
       have I:=I.pl8
       have I:=(Ja (I.recown (congrArg (λv=>(Value.cells v).toList) ax))).pl9
       have I:=M.recell (c':=cV B C K al.1) I (congrArg (λv=>(Value.cells v).toList) ax)
       have H:=H.setq (t:=73) R ax
       refine Zc H R λa H=>Zj ?_
       obtain rfl:=o_1 o
       refine Zk ?_
       have I:=I.pl1.toOsl0.pl2.toOsl0.pl3.toOsl0.pl1.pl2.pl9.pl9.pl9.pl9.pl9.pl9.pl9.pl10
       exact ⟨B,C,K,H.s,I⟩
      intro c4 o
      have I:=I.pl1.pl1
      obtain ⟨y,c9,o⟩:=p_1 o
      obtain ⟨A,da,o⟩:=p_1 o
      obtain ⟨ae,db,o⟩:=p_1 o
      obtain ⟨U,dc,o⟩:=p_1 o
      refine Ys (its:=[raw T (cat [[h],[vI b.2.1],[u32],[n],enc b.2.2.2.2.1]),raw b1 xh,r0,osl NoB b.1 h,osl NoB b.2.2.1 u32,osl NoB b.2.2.2.1 n]) (mk:=([mkW 12 7 aj xh (λv=>(Value.cells (Yw v 0)).toList),([2,4,6],λbs _=>(tog (bs.getD 0 false) (raw e (cat [[d],[vI q.1.1],[Value.int .u64 q.1.2]])) (tog (bs.getD 1 false) (raw e (cat [[d],[vI y.1.1],[Value.int .u64 y.1.2]])) (tog (bs.getD 2 false) (raw e (cat [[d],[vI A.1.1],[Value.int .u64 A.1.2]])) (raw e (cat [[d],[vI ae.1.1],[Value.int .u64 ae.1.2]])))))),mkO 2 (λv=>osl NoB y.2 v),mkO 4 (λv=>osl NoB A.2 v),mkO 7 (λv=>own NoB U.1 (Value.cells (Yw v 0)).toList)] : Mk)) [25,26,27,28,29,30,31,32,24,33,34,35,91] Yx R R dd_ R H (λu=>M.qS (M.qS (M.qE (M.qE (M.qE (M.q0 I.drew u) emO) emO) emO) λ_=>R) λ_=>R) (qsP (v:=(Value.agg (cat [[h],[vI b.2.1],[u32],[n],enc b.2.2.2.2.1]).toArray)) ?_ (q_m (λ_=>R) (q_t ?_ (q_m (λ_=>R) (q_t ?_ (q_m (λ_=>R) (qsV (v:=(Value.agg (enc ae.2).toArray)) ?_ (qsM (pr:=λv=>v = (Value.tuple [Yw v 0,vI U.2.1,vI U.2.2].toArray) ∧ ∃ cs,(Yw v 0) = .agg cs) ?_ (qsD (ds:=[7]) (f:=λus=>(Value.tuple [Yw (us.getD 0 undef) 0,vI U.2.1,vI U.2.2].toArray)) ?_ (qsD (ds:=[7]) (f:=λus=>(Yw (us.getD 0 undef) 0)) ?_ (qsP (λz=>ZF z.E Za ld R R (kr0 R)) (qsP (λz=>ZF z.E Za ld R R (kr0 R)) (q_t ?_ qs0))))))))))))) ?_
      ·intro a w ad D z
       have H:=z.E
       have hD : D 0 = false:=z.F
       have I:=z.M.togA (pre:=[_,_,_,_,_,_]) (VE (j:=12) (k:=2) z.c R R R hD)
       exact Zq H R ZG R I.ra0 cq λa H=>⟨p_5 _ _,_,R,H⟩
      ·intro a w ad D z
       have H:=z.E
       have hD : D 2 = false:=z.F
       have I:=z.M.togA (pre:=[_,_,_,_,_,_,_]) hD
       have hNx : D 4 = false:=VE (j:=4) (k:=1) z.c R R R hD
       have I:=M.tailP (m:=[_]) I.pl7
       refine Zp H R (cbm func147) (Bd _ _ _ _ e ak d ah (q.1.1,q.1.2) I y c9) ?_
       rintro ee w a ⟨_,rfl,I⟩ H
       have I:=M.tailU (m:=[_,_]) I
       simp only [List.cons_append,List.nil_append] at I
       have I:=I.pl8.pl8.pl8.pl8.pl8.pl8.pl8.pl8
       exact ⟨_,_,R,H,M.qUnconst (p:=([2,4,6],λbs _=>(tog (bs.getD 0 false) (raw e (cat [[d],[vI q.1.1],[Value.int .u64 q.1.2]])) (tog (bs.getD 1 false) (raw e (cat [[d],[vI y.1.1],[Value.int .u64 y.1.2]])) (tog (bs.getD 2 false) (raw e (cat [[d],[vI A.1.1],[Value.int .u64 A.1.2]])) (raw e (cat [[d],[vI ae.1.1],[Value.int .u64 ae.1.2]]))))))) (its:=[raw T (cat [[h],[vI b.2.1],[u32],[n],enc b.2.2.2.2.1]),raw b1 xh,r0,osl NoB b.1 h,osl NoB b.2.2.1 u32,osl NoB b.2.2.2.1 n]) (mk1:=([mkW 12 7 aj xh (λv=>(Value.cells (Yw v 0)).toList)] : Mk)) (mk2:=([mkO 2 (λv=>osl NoB y.2 v),mkO 4 (λv=>osl NoB A.2 v),mkO 7 (λv=>own NoB U.1 (Value.cells (Yw v 0)).toList)] : Mk)) (M.qFill (its:=[raw T (cat [[h],[vI b.2.1],[u32],[n],enc b.2.2.2.2.1]),raw b1 xh,r0,osl NoB b.1 h,osl NoB b.2.2.1 u32,osl NoB b.2.2.2.1 n]) (mk1:=([mkW 12 7 aj xh (λv=>(Value.cells (Yw v 0)).toList),([],λ_ _=>raw e (cat [[d],[vI y.1.1],[Value.int .u64 y.1.2]]))] : Mk)) (mk2:=([mkO 4 (λv=>osl NoB A.2 v),mkO 7 (λv=>own NoB U.1 (Value.cells (Yw v 0)).toList)] : Mk)) (f:=(λv=>osl NoB y.2 v)) I R hD) (by show tog (Xu D 2 2) (raw e (cat [[d],[vI q.1.1],[Value.int .u64 q.1.2]])) (tog (Xu D 2 4) (raw e (cat [[d],[vI y.1.1],[Value.int .u64 y.1.2]])) (tog (Xu D 2 6) (raw e (cat [[d],[vI A.1.1],[Value.int .u64 A.1.2]])) (raw e (cat [[d],[vI ae.1.1],[Value.int .u64 ae.1.2]])))) = _; rw [tg1 A6,tg0 (updN (i:=2) hNx dd_)]),trivial⟩
      ·intro a w ad D z
       have H:=z.E
       have hD : D 4 = false:=z.F
       have I:=z.M
       have b7 : D 2 = true:=z.p 1 _ R R
       have I:=(I.togB (pre:=[_,_,_,_,_,_,_]) b7).togA (pre:=[_,_,_,_,_,_,_]) hD
       have hNx : D 6 = false:=VE (j:=6) (k:=1) z.c R R R hD
       have I:=M.tailP (m:=[_]) I.pl7
       refine Zp H R (cbm func80) (Av _ _ _ _ e ak d ah (y.1.1,y.1.2) 12 I A da) ?_
       rintro ef w a ⟨_,rfl,I⟩ H
       have I:=M.tailU (m:=[_,_]) I
       simp only [List.cons_append,List.nil_append] at I
       have I:=I.pl9.pl1.pl9.pl9.pl9.pl9.pl9.pl9.pl9.pl9
       exact ⟨_,_,R,H,M.qUnconst (p:=([2,4,6],λbs _=>(tog (bs.getD 0 false) (raw e (cat [[d],[vI q.1.1],[Value.int .u64 q.1.2]])) (tog (bs.getD 1 false) (raw e (cat [[d],[vI y.1.1],[Value.int .u64 y.1.2]])) (tog (bs.getD 2 false) (raw e (cat [[d],[vI A.1.1],[Value.int .u64 A.1.2]])) (raw e (cat [[d],[vI ae.1.1],[Value.int .u64 ae.1.2]]))))))) (its:=[raw T (cat [[h],[vI b.2.1],[u32],[n],enc b.2.2.2.2.1]),raw b1 xh,r0,osl NoB b.1 h,osl NoB b.2.2.1 u32,osl NoB b.2.2.2.1 n]) (mk1:=([mkW 12 7 aj xh (λv=>(Value.cells (Yw v 0)).toList)] : Mk)) (mk2:=([mkO 2 (λv=>osl NoB y.2 v),mkO 4 (λv=>osl NoB A.2 v),mkO 7 (λv=>own NoB U.1 (Value.cells (Yw v 0)).toList)] : Mk)) (M.qFill (its:=[raw T (cat [[h],[vI b.2.1],[u32],[n],enc b.2.2.2.2.1]),raw b1 xh,r0,osl NoB b.1 h,osl NoB b.2.2.1 u32,osl NoB b.2.2.2.1 n]) (mk1:=([mkW 12 7 aj xh (λv=>(Value.cells (Yw v 0)).toList),([],λ_ _=>raw e (cat [[d],[vI A.1.1],[Value.int .u64 A.1.2]])),mkO 2 (λv=>osl NoB y.2 v)] : Mk)) (mk2:=([mkO 7 (λv=>own NoB U.1 (Value.cells (Yw v 0)).toList)] : Mk)) (f:=(λv=>osl NoB A.2 v)) I R hD) (by show tog (Xu D 4 2) (raw e (cat [[d],[vI q.1.1],[Value.int .u64 q.1.2]])) (tog (Xu D 4 4) (raw e (cat [[d],[vI y.1.1],[Value.int .u64 y.1.2]])) (tog (Xu D 4 6) (raw e (cat [[d],[vI A.1.1],[Value.int .u64 A.1.2]])) (raw e (cat [[d],[vI ae.1.1],[Value.int .u64 ae.1.2]])))) = _; rw [tg1 (updK b7),tg1 A6,tg0 (updN (i:=4) hNx dd_)]),trivial⟩
      ·intro a w ad D z
       have H:=z.E
       have hD : D 6 = false:=z.F
       have I:=z.M
       have ci : D 4 = true:=z.p 1 _ R R
       have b7 : D 2 = true:=z.c 4 _ _ R (List.mem_of_getElem? (i:=1) R) R ci
       have I:=M.tailP (m:=[_]) ((((I.togB (pre:=[_,_,_,_,_,_,_]) b7).togB (pre:=[_,_,_,_,_,_,_]) ci).togA (pre:=[_,_,_,_,_,_,_]) hD).pl7)
       refine Zp H R yW (Xy _ _ _ _ e ak d ah (A.1.1,A.1.2) I ae db) ?_
       rintro v w a ⟨rfl,I⟩ H
       have I:=M.tailU (m:=[_]) I
       simp only [List.cons_append,List.nil_append] at I
       exact ⟨_,R,H,M.qTogS (mk1:=[_]) (mk2:=[_,_,_]) I R (by show tog (Xu D 6 2) (raw e (cat [[d],[vI q.1.1],[Value.int .u64 q.1.2]])) (tog (Xu D 6 4) (raw e (cat [[d],[vI y.1.1],[Value.int .u64 y.1.2]])) (tog (Xu D 6 6) (raw e (cat [[d],[vI A.1.1],[Value.int .u64 A.1.2]])) (raw e (cat [[d],[vI ae.1.1],[Value.int .u64 ae.1.2]])))) = _; rw [tg1 (updK b7),tg1 (updK ci),tg1 A6])⟩
      ·intro a w ad D z
       have H:=z.E
       have hD : D 7 = false:=z.F
       have d2 : D 2 = true:=z.p 1 _ R R
       have d4 : D 4 = true:=z.p 2 _ R R
       have hM0:=z.M
       have I:=((z.M.sure (pre:=[_,_,_,_,_,_,_,_]) d2).sure (pre:=[_,_,_,_,_,_,_,_,_]) d4).togA (pre:=[_,_,_,_,_,_]) (VE (j:=12) (k:=1) z.c R R R hD)
       refine Zp H R (cbm func46) (jb _ (⟨b.1,b.2.1,b.2.2.1,b.2.2.2.1,b.2.2.2.2.1⟩ : GVault) h (I.sl3) u32 (I.sl4) n (I.sl5) y.2 (ad 2) (I.sl (pre:=[_,_,_,_,_,_,_,_]) noB) A.2 (ad 4) (I.sl (pre:=[_,_,_,_,_,_,_,_,_]) noB) ae.2 U dc) ?_
       rintro _ w a ⟨eg,eh,ei,rfl,hFr,hK⟩ H
       have I:=K5 (x:=U.1) (hM0.add hK hFr) sio sio sio
       have a3 : D 12 = false:=VE (j:=12) (k:=1) z.c R R R hD
       have I:=I.togA (pre:=[_,_,_,_,_,_,_]) a3
       exact ⟨_,_,R,H,M.qUnconst (p:=mkW 12 7 aj xh (λv=>(Value.cells (Yw v 0)).toList)) (its:=[raw T (cat [[h],[vI b.2.1],[u32],[n],enc b.2.2.2.2.1]),raw b1 xh,r0,osl NoB b.1 h,osl NoB b.2.2.1 u32,osl NoB b.2.2.2.1 n]) (mk1:=([] : Mk)) (mk2:=([([2,4,6],λbs _=>(tog (bs.getD 0 false) (raw e (cat [[d],[vI q.1.1],[Value.int .u64 q.1.2]])) (tog (bs.getD 1 false) (raw e (cat [[d],[vI y.1.1],[Value.int .u64 y.1.2]])) (tog (bs.getD 2 false) (raw e (cat [[d],[vI A.1.1],[Value.int .u64 A.1.2]])) (raw e (cat [[d],[vI ae.1.1],[Value.int .u64 ae.1.2]])))))),mkO 2 (λv=>osl NoB y.2 v),mkO 4 (λv=>osl NoB A.2 v),mkO 7 (λv=>own NoB U.1 (Value.cells (Yw v 0)).toList)] : Mk)) (M.qFill (its:=[raw T (cat [[h],[vI b.2.1],[u32],[n],enc b.2.2.2.2.1]),raw b1 xh,r0,osl NoB b.1 h,osl NoB b.2.2.1 u32,osl NoB b.2.2.2.1 n]) (mk1:=([([],λ_ _=>raw aj xh),([2,4,6],λbs _=>(tog (bs.getD 0 false) (raw e (cat [[d],[vI q.1.1],[Value.int .u64 q.1.2]])) (tog (bs.getD 1 false) (raw e (cat [[d],[vI y.1.1],[Value.int .u64 y.1.2]])) (tog (bs.getD 2 false) (raw e (cat [[d],[vI A.1.1],[Value.int .u64 A.1.2]])) (raw e (cat [[d],[vI ae.1.1],[Value.int .u64 ae.1.2]])))))),mkO 2 (λv=>osl NoB y.2 v),mkO 4 (λv=>osl NoB A.2 v)] : Mk)) (mk2:=([] : Mk)) (f:=(λv=>own NoB U.1 (Value.cells (Yw v 0)).toList)) I R hD) (zp a3),⟨R,⟨_,R⟩⟩⟩
      ·intro a w ad D z
       have H:=z.E
       have d7 : D 7 = true:=z.p 0 _ R R
       have g7:=z.G 7 d7 _ R
       have f7 : ad 7 = (Value.tuple [Yw (ad 7) 0,vI U.2.1,vI U.2.2].toArray):=g7.2.1
       exact Zd H (lk R f7) λa H=>⟨p_5 _ _,AF d7 yn,_,R,H⟩
      ·intro a w ad D z
       have H:=z.E
       have d8 : D 8 = true:=z.p 0 _ R R
       have d7 : D 7 = true:=z.c 8 _ _ R (List.mem_of_getElem? (i:=0) R) R d8
       exact ZF H Za ld R R λa H=>⟨p_5 _ _,AF d7 yn,_,R,H⟩
      ·intro a w ad D z
       have H:=z.E
       have hD : D 12 = false:=z.F
       have d9 : D 9 = true:=z.p 0 _ R R
       have g9:=z.G 9 d9 _ R
       have d7 : D 7 = true:=g9.1 7 (show 7 ∈ [7] by decide)
       have I:=(z.M.sure (pre:=[_,_,_,_,_,_,_,_,_,_]) d7).togA (pre:=[_,_,_,_,_,_]) hD
       obtain ⟨L,N,O,ar,bb,bc,bd⟩:=UD (I.ro (pre:=[_,_,_,_,_,_,_,_,_,_]) noB)
       have ay : (Yw (ad 7) 0) = (vcV L N O U.1):=z4 ar (z.G 7 (by assumption) _ R).2.2
       have I:=I.pl6
       refine Zl (seg:=cV L N O U.1) (cs':=cV L N O U.1) H I Za R (lk R ay) R ZG cq (q_1 cq cq) (ZD (cc1 (t_2 bb) (cc1 (s_1 (U.1.Next : Int)) (cc1 (t_2 bc) (cc1 (t_2 bd) (cc1 (s_1 _) cc0)))))) (q_2 cq cq) λw a I H=>?_
       have I:=(M.recell I (show _ = (Value.cells (Yw (ad 7) 0)).toList from by rw [ay]; rfl)).unsure (pre:=[_,_,_,_,_,_,_,_,_,_]) d7
       exact ⟨undef,_,R,Env.dummy H dd_,M.qTogS (p:=mkW 12 7 aj xh (λv=>(Value.cells (Yw v 0)).toList)) (its:=[raw T (cat [[h],[vI b.2.1],[u32],[n],enc b.2.2.2.2.1]),raw b1 xh,r0,osl NoB b.1 h,osl NoB b.2.2.1 u32,osl NoB b.2.2.2.1 n]) (mk1:=[]) (mk2:=[_,_,_,_]) I R kw,trivial⟩
      intro a w ad D H I hG af
      have d2:=af 2 dd_
      have d4:=af 4 dd_
      have d6:=af 6 dd_
      have d7:=af 7 dd_
      have b5:=af 12 dd_
      have I:=((((((I.togB (pre:=[_,_,_,_,_,_]) b5).togB (pre:=[_,_,_,_,_,_,_]) d2).togB (pre:=[_,_,_,_,_,_,_]) d4).togB (pre:=[_,_,_,_,_,_,_]) d6).sure (pre:=[_,_,_,_,_,_,_,_]) d2).sure (pre:=[_,_,_,_,_,_,_,_,_]) d4).sure (pre:=[_,_,_,_,_,_,_,_,_,_]) d7
      obtain ⟨L,N,O,ar,_,_,_⟩:=UD (I.ro (pre:=[_,_,_,_,_,_,_,_,_,_]) noB)
      have ay : (Yw (ad 7) 0) = (vcV L N O U.1):=z4 ar (hG 7 d7 _ R).2.2
      have I:=I.pl10
      have I:=(Ja (I.recown (congrArg (λv=>(Value.cells v).toList) ay))).pl9
      have I:=M.recell (c':=cV L N O U.1) I (congrArg (λv=>(Value.cells v).toList) ay)
      have H:=H.setq (t:=33) R ay
      refine Zc H R λa H=>Zj ?_
      obtain rfl:=o_1 o
      refine Zk ?_
      have I:=((I.pl1.toOsl0.pl2.toOsl0.pl3.toOsl0.pl1.pl2.pl9.pl9.pl9.pl9.pl9.pl9.pl9.pl10.pl12).drop.pl11).drop
      exact ⟨L,N,O,H.s,I⟩
     rintro a w ⟨cc,cd,cf,H,I⟩
     refine Yy ?_
     obtain rfl:=o_1 cz
     refine Zk ?_
     have I:=I.pl10.pl10.pl10.pl10.pl10.pl10.pl10.pl10.pl10.pl9.pl10
     exact ⟨cc,cd,cf,H.s,I⟩
    rintro a w ⟨bx,bz,b0,H,I⟩
    refine Zb (Zd H R λa H=>Zn H R R R λa H=>Ze ?_)
    obtain ⟨bm,a4,cj⟩:=p_1 cy
    refine ZV (λa w=>∃ bo bp bq : Value,Env 79 a [(0,ptr e 0),(2,ptr b1 0),(3,ptr T 0),(4,vI b.2.2.2.2.2.2.2)] ∧ M St W w [raw e (cat [[d],[vI aq.2.2.2.2.2.1],[Value.int .u64 aq.2.2.2.2.2.2.1]]),raw T (cat [[bo],[vI bm.2.1],[bp],[bq],enc bm.2.2.2.2]),raw b1 xh,r0,osl NoB bm.1 bo,osl NoB bm.2.2.1 bp,osl NoB bm.2.2.2.1 bq]) ?_ ?_
    ·refine c_if H R a4 ?_ ?_
     ·intro cl a4
      refine t_1 (Zq H R ZG R I.ra0 cq λa H=>?_)
      have I:=I.pl2
      refine Zl (seg:=cat [[bx],[vI aq.2.1],[bz],[b0],enc aq.2.2.2.2.1]) (cs':=cat [[bx],[vI aq.2.1],[bz],[b0],enc aq.2.2.2.2.1]) H I Za R R R ZG cq (q_1 cq cq) (ZD (cc1 (t_2 (I.sl (pre:=[_,_,_,_,_,_,_,_]) noB)) (cc1 (s_1 (aq.2.1 : Int)) (cc1 (t_2 (I.sl (pre:=[_,_,_,_,_,_,_,_,_]) noB)) (cc1 (t_2 (I.sl (pre:=[_,_,_,_,_,_,_,_,_,_]) noB)) (cc1 (s_1 _) cc0)))))) (q_2 cq cq) λw a I H=>Zj ?_
      obtain rfl:=o_1 a4
      refine Zk ?_
      have I:=((((I.pl10.pl10.pl10.pl7.pl7.pl5.pl7.pl10).drop.pl9).drop.pl8).drop.pl7).drop
      exact ⟨bx,bz,b0,H.s,I⟩
     intro cl a4
     refine u_2 ?_
     obtain rfl:=o_1 a4
     refine Zk ?_
     have I:=((((I.pl7.pl7.pl7.pl7.pl7.pl7.pl7.pl10).drop.pl9).drop.pl8).drop.pl7).drop
     exact ⟨h,u32,n,H.s,I⟩
    rintro a w ⟨bo,bp,bq,H,I⟩
    refine Yy ?_
    obtain rfl:=o_1 cj
    refine Zk ?_
    exact ⟨bo,bp,bq,H.s,I⟩
   rintro a w ⟨b9,ca,cb,H,I⟩
   refine t_1 (Zd H R λa H=>Zn H R R R λa H=>Zc H R λa H=>Zj (Zk ?_))
   exact ⟨_,ois cx,b9,ca,cb,H.s,I⟩
  intro cv a8
  refine s_4 (Zu (Zu (YE ?_)))
  obtain rfl:=cu _ (ois a8)
  refine Zk ?_
  exact ⟨h,u32,n,H.s,I⟩
 rintro a w ⟨bu,bv,bw,H,I⟩
 refine ZA (Zb (Zq H R ZG R I.ra1 cq λa H=>?_))
 have I:=I.pl2
 refine Zl (seg:=cat [[bu],[vI az.2.1],[bv],[bw],enc az.2.2.2.2.1]) (cs':=cat [[bu],[vI az.2.1],[bv],[bw],enc az.2.2.2.2.1]) H I Za R R R ZG cq (q_1 cq cq) (ZD (cc1 (t_2 (I.sl4)) (cc1 (s_1 (az.2.1 : Int)) (cc1 (t_2 (I.sl5)) (cc1 (t_2 (I.sl6)) (cc1 (s_1 _) cc0)))))) (q_2 cq cq) λw a I H=>Ze ?_
 obtain rfl:=o_1 ct
 have cm : Z7 prog _ _ (.cell 2 79) _:=ZE H R ZG R I.ra0 cq R
 have I:=((I.pl3.pl6.pl6.pl6.pl5.pl6).drop.pl5).drop
 exact p_3 (ZY H R cm ⟨_,R,bu,bv,bw,R,I⟩)
def WL (d : List UInt8) (C : (Int × Int)) : Option ((Int × Int) × GVault) :=
 (QU d (C.1,C.2)).bind λb=>(some ((b.2.Records.length : Int),(b.2.Events.length : Int)) : Option (Int × Int)).bind λf=>((ZO d (b.1.1,b.1.2) 16).bind λc=>(if c.2 == 0 then ((ZO d (c.1.1,c.1.2) 32).bind λn=>(Z4 b.2.Head n.2).bind λz=>(Z4 b.2.Head n.2).bind λF=>some (b.2.Keys,b.2.Next,b.2.Records,b.2.Events,b.2.Head.setIfInBounds (n.2).toNat (z + 1),n.1.1,n.1.2)) else (if c.2 == 1 then (if decide (f.1 > 0) then ((ZO d (c.1.1,c.1.2) f.1).bind λm=>(idx b.2.Records m.2).bind λe=>if decide ((e.Body.length : Int) > 0) then ((idx e.Body (0 : Int)).bind λA=>(idx e.Body (0 : Int)).bind λG=>some (b.2.Keys,b.2.Next,b.2.Records.set (m.2).toNat (⟨e.Number,e.Version,e.Nonce,e.Label,(e.Body.set ((0 : Int)).toNat (A + 1)),e.Tag⟩ : GRecord),b.2.Events,b.2.Head,m.1.1,m.1.2)) else (some (b.2.Keys,b.2.Next,b.2.Records,b.2.Events,b.2.Head,m.1.1,m.1.2))) else (some (b.2.Keys,b.2.Next,b.2.Records,b.2.Events,b.2.Head,c.1.1,c.1.2))) else (if c.2 == 2 then (if decide (f.1 > 0) then ((ZO d (c.1.1,c.1.2) f.1).bind λo=>(idx b.2.Records o.2).bind λh=>(ZO d (o.1.1,o.1.2) 32).bind λq=>(Z4 h.Tag q.2).bind λB=>(Z4 h.Tag q.2).bind λK=>(idx b.2.Records o.2).bind λL=>some (b.2.Keys,b.2.Next,b.2.Records.set (o.2).toNat (⟨h.Number,h.Version,h.Nonce,h.Label,h.Body,(h.Tag.setIfInBounds (q.2).toNat (B + 1))⟩ : GRecord),b.2.Events,b.2.Head,q.1.1,q.1.2)) else (some (b.2.Keys,b.2.Next,b.2.Records,b.2.Events,b.2.Head,c.1.1,c.1.2))) else (if c.2 == 3 then (if decide (f.2 > 0) then ((slc b.2.Events (0 : Int) (wr (f.2 - 1))).bind λu=>some (b.2.Keys,b.2.Next,b.2.Records,u,b.2.Head,c.1.1,c.1.2)) else (some (b.2.Keys,b.2.Next,b.2.Records,b.2.Events,b.2.Head,c.1.1,c.1.2))) else (if c.2 == 4 then (if decide (f.1 > 0) then ((slc b.2.Records (1 : Int) (b.2.Records.length : Int)).bind λx=>some (b.2.Keys,b.2.Next,x,b.2.Events,b.2.Head,c.1.1,c.1.2)) else (some (b.2.Keys,b.2.Next,b.2.Records,b.2.Events,b.2.Head,c.1.1,c.1.2))) else (if c.2 == 5 then ((Xv d (c.1.1,c.1.2) ([0,1000001,1000000,1] : List Int)).bind λt=>some (b.2.Keys,t.2,b.2.Records,b.2.Events,b.2.Head,t.1.1,t.1.2)) else (if c.2 == 6 then (some ([],b.2.Next,b.2.Records,b.2.Events,b.2.Head,c.1.1,c.1.2)) else (if c.2 == 7 then (if decide (f.1 > 1) then ((Zd8 b.2.Records).bind λy=>some (b.2.Keys,b.2.Next,y,b.2.Events,b.2.Head,c.1.1,c.1.2)) else (some (b.2.Keys,b.2.Next,b.2.Records,b.2.Events,b.2.Head,c.1.1,c.1.2))) else (if c.2 == 8 then ((Xv d (c.1.1,c.1.2) ([0,2,5] : List Int)).bind λk=>(Xv d (k.1.1,k.1.2) ([0,1,7] : List Int)).bind λl=>(app 48 b.2.Events ([(⟨k.2,l.2,Vector.replicate 32 (0 : UInt8)⟩ : GEvent)] : List GEvent)).bind λE=>some (b.2.Keys,b.2.Next,b.2.Records,b.2.Events ++ ([(⟨k.2,l.2,(Vector.replicate 32 (0 : UInt8))⟩ : GEvent)] : List GEvent),b.2.Head,l.1.1,l.1.2)) else (some (b.2.Keys,b.2.Next,b.2.Records,b.2.Events,b.2.Head,c.1.1,c.1.2)))))))))) : Option (List V16 × Int × List GRecord × List GEvent × V32 × Int × Int)).bind λi=>some (i.1,i.2.1,i.2.2.1,i.2.2.2.1,i.2.2.2.2.1,i.2.2.2.2.2.1,i.2.2.2.2.2.2) : Option (List V16 × Int × List GRecord × List GEvent × V32 × Int × Int)).bind λj=>some ((j.2.2.2.2.2.1,j.2.2.2.2.2.2),(⟨j.1,j.2.1,j.2.2.1,j.2.2.2.1,j.2.2.2.2.1⟩ : GVault))
theorem Kw (St : Nat → Prop) (W w0 : World) (r0 : Item) (q : Nat) (T : List UInt8) (d : Value) (N : Rep.sat St W T [d] []) (p0 : xw) (I : M St W w0 [raw q (cat [[d],[vI p0.1],[Value.int .u64 p0.2]]),r0]) (r : xw × GVault) (J : WL T p0 = some r) :
  Calls prog 145 [ptr q 0].toArray w0 (e_r λv w'=>(∃ y1 y2 y3 : Value,v = (vcV y1 y2 y3 r.2) ∧ M St W w' [raw q (cat [[d],[vI r.1.1],[Value.int .u64 r.1.2]]),osl NoB r.2.Keys y1,osl NoB r.2.Records y2,osl NoB r.2.Events y3,r0])):=by
 refine ce func145 ?_
 intro a H
 unfold WL at J
 refine Zb (Zv H I ZG λb1 w a I H=>Ze (Zb (Zd H R λa H=>?_)))
 have I:=M.tailP (m:=[_]) I.pl1
 obtain ⟨B,e4,J⟩:=p_1 J
 refine Zp H R (cbm func240) (kC _ _ _ _ q T d N (p0.1,p0.2) I B e4) ?_
 rintro v w a ⟨G,C,U,rfl,I⟩ H
 have I:=M.tailU (m:=[_,_,_,_]) I
 simp only [List.cons_append,List.nil_append] at I
 refine Zv H I ZG λb8 w a I H=>Zl (seg:=cV G C U B.2) (cs':=cV G C U B.2) H I Za R R R ZG cq (q_1 cq cq) (ZD (cc1 (t_2 (I.sl2)) (cc1 (s_1 (B.2.Next : Int)) (cc1 (t_2 (I.sl3)) (cc1 (t_2 (I.sl4)) (cc1 (s_1 _) cc0)))))) (q_2 cq cq) λw a I H=>Ze ?_
 obtain ⟨am,b6,b7⟩:=p_1 J
 refine ZI (λa w=>Env 137 a [(0,ptr q 0),(2,ptr b1 0),(3,ptr b8 0),(4,vI am.1),(5,vI am.2)] ∧ M St W w [raw b8 (cV G C U B.2),raw q (cat [[d],[vI B.1.1],[Value.int .u64 B.1.2]]),osl NoB B.2.Keys G,osl NoB B.2.Records C,osl NoB B.2.Events U,raw b1 xh,r0]) ?_ ?_
 ·refine Z9 [12,13,14,15,16,17,4,5] Yx R R dd_ R H I (qsP (λz=>Zi z.E Za ld R (Ye) (kr0 R)) (qsP (λz=>Zz (v:=C) z.E Za ld R Xr R (at_2 (z.M.ra0)) (kr0 R)) (qsP (λz=>W2 z.E Za ld R o_3 (z.M.sl3) (kr0 R)) (qsP (λz=>Zi z.E Za ld R (XA) (kr0 R)) (qsP (λz=>Zz (v:=U) z.E Za ld R T3 R (at_3 (z.M.ra0)) (kr0 R)) (qsP (λz=>W2 z.E Za ld R p_4 (z.M.sl4) (kr0 R)) (qsP (λz=>Qs z.E Za ld R (kr0 R)) (qsP (λz=>Qs z.E Za ld R (kr0 R)) qs0)))))))) ?_
  ·intro a w u H I
   refine Zj ?_
   obtain rfl:=o_1 b6
   refine Zk ?_
   exact ⟨H.s,I⟩
 rintro a w ⟨H,I⟩
 obtain ⟨Z,ar,b9⟩:=p_1 b7
 refine ZI (λa w=>∃ an ao ap : Value,Env 137 a [(2,ptr b1 0),(3,ptr b8 0)] ∧ M St W w [raw b8 (cat [[an],[vI Z.2.1],[ao],[ap],enc Z.2.2.2.2.1]),raw q (cat [[d],[vI Z.2.2.2.2.2.1],[Value.int .u64 Z.2.2.2.2.2.2]]),raw b1 xh,r0,osl NoB Z.1 an,osl NoB Z.2.2.1 ao,osl NoB Z.2.2.2.1 ap]) ?_ ?_
 ·refine Zb (Zd H R λa H=>?_)
  have I:=M.tailP (m:=[_]) I.pl1
  obtain ⟨K,cy,ar⟩:=p_1 ar
  refine Zp H R Kc (ZT _ _ _ _ q T d N (B.1.1,B.1.2) 16 I K cy) ?_
  rintro v w a ⟨rfl,I⟩ H
  have I:=M.tailU (m:=[_]) I
  simp only [List.cons_append,List.nil_append] at I
  refine Ze (p_2 (Zb (Zn H R R R λa H=>Zc H R λa H=>Ze ?_)))
  obtain ⟨ah,b,ca⟩:=p_1 ar
  refine ZV (λa w=>∃ a4 a5 a6 : Value,Env 137 a [(2,ptr b1 0),(3,ptr b8 0)] ∧ M St W w [raw q (cat [[d],[vI ah.2.2.2.2.2.1],[Value.int .u64 ah.2.2.2.2.2.2]]),raw b8 (cat [[a4],[vI ah.2.1],[a5],[a6],enc ah.2.2.2.2.1]),raw b1 xh,r0,osl NoB ah.1 a4,osl NoB ah.2.2.1 a5,osl NoB ah.2.2.2.1 a6]) ?_ ?_
  ·refine c_if H R b ?_ ?_
   ·intro cb b
    refine t_1 (Zd H R λa H=>?_)
    have I:=M.tailP (m:=[_]) I
    obtain ⟨a7,cz,b⟩:=p_1 b
    refine Zp H R Kc (ZT _ _ _ _ q T d N (K.1.1,K.1.2) 32 I a7 cz) ?_
    rintro v w a ⟨rfl,I⟩ H
    have I:=M.tailU (m:=[_]) I
    simp only [List.cons_append,List.nil_append] at I
    refine Zm H R (J1) λa H=>?_
    obtain ⟨af,ba,b⟩:=bvx b
    refine ZR H R R t_4 ty5 ba.1 λa H=>ZB (v:=(vB af)) H R ty5 R (At.vec (at_4 I.ra1) ba.2) λa H=>Zn H R R (Zd2 af 1) λa H=>Zm H R (J1) λa H=>?_
    obtain ⟨ds,aj,b⟩:=bvx b
    refine ZR H R R t_4 ty5 aj.1 λa H=>?_
    have I:=I.pl1
    refine Zl (seg:=[vB (af + 1)]) (cs':=cat [[G],[vI B.2.Next],[C],[U],enc (B.2.Head.setIfInBounds (a7.2).toNat (af + 1))]) H I Za R R R ty5 R (J8 (o':=0 + (a7.2).toNat * 1) (pre:=[[G],[vI B.2.Next],[C],[U]]) (seg:=enc B.2.Head) (post:=[]) ck (Yf (v:=B.2.Head) (x:=af + 1) aj.1) (by first | omega | (simp only [Flat.n] <;> omega))) (s_1 (af + 1 : UInt8)) (Qu (o':=0 + (a7.2).toNat * 1) (pre:=[[G],[vI B.2.Next],[C],[U]]) (seg:=enc B.2.Head) (post:=[]) ck (Yf (v:=B.2.Head) (x:=af + 1) aj.1) (ZS (v:=B.2.Head) (x:=af + 1) aj.1) (by first | omega | (simp only [Flat.n] <;> omega))) λw a I H=>Zj ?_
    obtain rfl:=o_1 b
    refine Zk ?_
    have I:=I.pl4.pl4.pl4.pl6.pl6.pl5.pl6
    exact ⟨G,C,U,H.s,I⟩
   intro cb b
   refine Zb (Zn H R R R λa H=>Zc H R λa H=>Ze ?_)
   refine c_if H R b ?_ ?_
   ·intro cc b
    refine Zb (Zd H R λa H=>Zn H R R R λa H=>Ze ?_)
    refine c_if H R b ?_ ?_
    ·intro cd b
     refine s_2 ?_
     have I:=I.pl3
     have I:=I.packL (m:=[_]) (it:=AE NoB [_]) (B0.mono noB) (λfp h=>Xz.reloc h (ZK Yd))
     obtain ⟨ae,c0,b⟩:=p_1 b
     obtain ⟨O,au,b⟩:=bix b
     refine Ys (its:=[raw b8 (cV G C U B.2),osl NoB B.2.Keys G,osl NoB B.2.Events U,raw b1 xh,r0]) (mk:=([([4],λbs _=>(tog (bs.getD 0 false) (raw q (cat [[d],[vI K.1.1],[Value.int .u64 K.1.2]])) (raw q (cat [[d],[vI ae.1.1],[Value.int .u64 ae.1.2]])))),mkU 6 (AE NoB [osl NoB B.2.Records C]) (λv=>opnI (B.2.Records : List GRecord) (ae.2).toNat C O v),mkO 7 (λv=>Wk v xg)] : Mk)) [34,35,36,37,38,39,40,6] Yx R R dd_ R H (λu=>M.qS (M.qS (M.qE (M.q0 I.drew u) emO) λ_=>R) λ_=>R) (qsP (λz=>Zi z.E Za ld R (Ye) (kr0 R)) (qsP (λz=>Zz (v:=C) z.E Za ld R Xr R (at_2 (z.M.ra0)) (kr0 R)) (q_m (λ_=>R) (q_m (λ_=>R) (qsV (v:=(vI ae.2)) ?_ (qsP (v:=(ptr (sb C) (so C + (ae.2).toNat * 52))) ?_ (qsM (pr:=λv=>∃ cs,v = .agg cs) ?_ (q_t ?_ qs0)))))))) ?_
     ·intro a w ag D z
      have H:=z.E
      have hD : D 4 = false:=z.F
      have I:=M.tailP (m:=[_]) ((z.M.togA (pre:=[_,_,_,_,_]) hD).pl5)
      refine Zp H R Kc (ZT _ _ _ _ q T d N (K.1.1,K.1.2) am.1 I ae c0) ?_
      rintro v w a ⟨rfl,I⟩ H
      have I:=M.tailU (m:=[_]) I
      simp only [List.cons_append,List.nil_append] at I
      exact ⟨_,R,H,M.qTogS (mk1:=[]) (mk2:=[_,_]) I R (by show tog (Xu D 4 4) (raw q (cat [[d],[vI K.1.1],[Value.int .u64 K.1.2]])) (raw q (cat [[d],[vI ae.1.1],[Value.int .u64 ae.1.2]])) = _; rw [tg1 A6])⟩
     ·intro a w ag D z
      have H:=z.E
      have hD : D 5 = false:=z.F
      have I:=z.M
      have c1 : D 6 = false:=VE (j:=6) (k:=0) z.c R R R hD
      have I:=(I.togA (pre:=[_,_,_,_,_,_]) c1).pl
      have I:=I.unpackL (m:=[_]) (λfp h=>Xz.mono h (λ_ h=>h.elim))
      simp only [List.cons_append,List.nil_append] at I
      exact Yp H R R o_3 Yk (I.sl0) au.1 λa H=>⟨p_5 _ _,_,R,H⟩
     ·intro a w ag D z
      have H:=z.E
      have hD : D 6 = false:=z.F
      have I:=(z.M.togA (pre:=[_,_,_,_,_,_]) hD).pl
      have I:=I.unpackL (m:=[_]) (λfp h=>Xz.mono h (λ_ h=>h.elim))
      simp only [List.cons_append,List.nil_append] at I
      obtain ⟨de,I,cf,cg⟩:=I.opn au.2
      exact Zq H R Yk R cf cg λa H=>⟨_,_,R,H,M.qTogS (mk1:=([([4],λbs _=>(tog (bs.getD 0 false) (raw q (cat [[d],[vI K.1.1],[Value.int .u64 K.1.2]])) (raw q (cat [[d],[vI ae.1.1],[Value.int .u64 ae.1.2]]))))] : Mk)) (mk2:=([mkO 7 (λv=>Wk v xg)] : Mk)) I R Zdz,⟨_,R⟩⟩
     ·intro a w ag D z
      have H:=z.E
      have hD : D 7 = false:=z.F
      have I:=z.M
      refine Zv H I Yk λdt w a I H=>?_
      have I:=I.pack1 (it:=Wk _ xg) (λw w' fp ⟨b',e,k⟩ hb=>⟨b',e,YN w w' fp k hb⟩) (λfp k=>⟨_,R,k⟩)
      exact ⟨_,_,R,H,M.qFill (mk1:=[_,_]) (mk2:=[]) (f:=λv=>Wk v xg) I R hD,trivial⟩
     intro a w ag D H I hG Y
     have d4:=Y 4 dd_
     have d6:=Y 6 dd_
     have d7:=Y 7 dd_
     have I:=(((I.togB (pre:=[_,_,_,_,_]) d4).togB (pre:=[_,_,_,_,_,_]) d6).sure (pre:=[_,_,_,_,_,_,_]) d7).pl
     obtain ⟨_,⟨c4,ch,_⟩,_⟩:=I.head
     have I:=I.pack1 YN (it:=raw c4 xg) (λfp ⟨b2,e2,k2⟩=>by rw [ch] at e2; simp [ptr] at e2; subst e2; exact k2)
     have I:=I.pl7.opnOut
     obtain ⟨u64,av,c6,_,_⟩:=Yl (I.ro (pre:=[]) noB)
     have bb : (ag 6) = (vcR u64 av O):=z4 c6 (hG 6 d6 _ R).2
     have I:=JY (M.opnCs (congrArg (λv=>(Value.cells v).toList) bb) I)
     have H:=H.setq (t:=40) R bb
     have H:=H.setq (t:=6) R ch
     have I:=I.pl3
     refine Zl (seg:=cR u64 av O) (cs':=cR u64 av O) H I Za R R R Yk cq (q_1 cq cq) (ZD (cc1 (s_1 (O.Number : Int)) (cc1 (s_1 (O.Version : Int)) (cc1 (s_1 _) (cc1 (t_2 (I.ro (pre:=[_]) noB)) (cc1 (t_2 (I.rn2)) (cc1 (s_1 _) cc0))))))) (q_2 cq cq) λw a I H=>Zj (ZA (Zb (Zm H R (Qh) λa H=>ZB (v:=av) H R Wo R (at_4 I.ra0) λa H=>Yu H R o_2 (I.rn2) λa H=>Zn H R R R λa H=>Ze ?_)))
     refine c_if H R b ?_ ?_
     ·intro ci b
      refine t_1 (Zm H R (Qh) λa H=>ZB (v:=av) H R Wo R (at_4 I.ra0) λa H=>?_)
      obtain ⟨aq,bc,b⟩:=bix b
      refine Yp H R R o_2 ty5 (I.rn2) bc.1 λa H=>ZB (v:=(vB aq)) H R ty5 R (YG (I.rn2) bc.2) λa H=>Zn H R R (Zd2 aq 1) λa H=>?_
      obtain ⟨c7,aw,b⟩:=bix b
      refine Yp H R R o_2 ty5 (I.rn2) aw.1 λa H=>?_
      have I:=I.pl2.toOsl (List.getElem?_eq_some_iff.1 aw.2).1
      refine BS (i:=(xi).toNat) (k0:=0) (seg:=[vB (aq + 1)]) (xo:=c7) (xn:=aq + 1) H I Za R R R ty5 R (s_1 (aq + 1 : UInt8)) aw.2 (zh (m:=1) R dd_) (Zh R) λw a I H=>?_
      have I:=I.toOwn noB
      refine Zj ?_
      have I:=(QK (x:=(⟨O.Number,O.Version,O.Nonce,O.Label,O.Body.set (xi).toNat (aq + 1),O.Tag⟩ : GRecord)) I.pl9.pl9.pl9.pl9.pl9.pl9.pl7.pl9.pl8.pl9 siw siw).close1 noB
      obtain rfl:=o_1 b
      refine Zk ?_
      have I:=(I.pl4.pl1.pl4.pl6.pl6.pl6.pl7.pl7).drop
      exact ⟨G,C,U,H.s,I⟩
     intro ci b
     refine u_2 ?_
     have I:=(QK (x:=O) I.pl9.pl9.pl9.pl9.pl9.pl9.pl6.pl9.pl9.pl9 siw siw).close0 noB au.2
     obtain rfl:=o_1 b
     refine Zk ?_
     have I:=(I.pl4.pl1.pl4.pl6.pl6.pl6.pl7.pl7).drop
     exact ⟨G,C,U,H.s,I⟩
    intro cd b
    refine u_2 ?_
    obtain rfl:=o_1 b
    refine Zk ?_
    have I:=I.pl4.pl4.pl4.pl6.pl6.pl6.pl6
    exact ⟨G,C,U,H.s,I⟩
   intro cc b
   refine Zb (Zn H R R R λa H=>Zc H R λa H=>Ze ?_)
   refine c_if H R b ?_ ?_
   ·intro cj b
    refine Zb (Zd H R λa H=>Zn H R R R λa H=>Ze ?_)
    refine c_if H R b ?_ ?_
    ·intro cl b
     refine Zb (Zd H R λa H=>Zd H R λa H=>?_)
     have I:=M.tailP (m:=[_]) I
     obtain ⟨bp,c8,b⟩:=p_1 b
     refine Zp H R Kc (ZT _ _ _ _ q T d N (K.1.1,K.1.2) am.1 I bp c8) ?_
     rintro v w a ⟨rfl,I⟩ H
     have I:=M.tailU (m:=[_]) I
     simp only [List.cons_append,List.nil_append] at I
     refine Zc H R λa H=>Ze (Zb (Zm H R (Ye) λa H=>ZB (v:=C) H R Xr R (at_2 I.ra1) λa H=>Zd H R λa H=>?_))
     obtain ⟨o,bd,b⟩:=bix b
     refine Yp H R R o_3 Yk (I.sl3) bd.1 λa H=>?_
     have I:=I.pl3
     obtain ⟨dg,I,_⟩:=I.open1 noB bd.2
     obtain ⟨_,hx,_⟩:=I.head
     obtain ⟨u84,u85,_,_,rfl,_,_,_⟩:=Hk hx
     have I:=JY I
     refine Zq H R Yk R (I.holeAt (pre:=[_,_])) cq λa H=>Zv H I Yk λdv w a I H=>Zl (seg:=cR u84 u85 o) (cs':=cR u84 u85 o) H I Za R R R Yk cq (q_1 cq cq) (ZD (cc1 (s_1 (o.Number : Int)) (cc1 (s_1 (o.Version : Int)) (cc1 (s_1 _) (cc1 (t_2 (I.ro (pre:=[_]) noB)) (cc1 (t_2 (I.rn2)) (cc1 (s_1 _) cc0))))))) (q_2 cq cq) λw a I H=>Ze (Zb (Zd H R λa H=>?_))
     have I:=M.tailP (m:=[_]) I.pl4
     obtain ⟨ai,c9,b⟩:=p_1 b
     refine Zp H R Kc (ZT _ _ _ _ q T d N (bp.1.1,bp.1.2) 32 I ai c9) ?_
     rintro v w a ⟨rfl,I⟩ H
     have I:=M.tailU (m:=[_]) I
     simp only [List.cons_append,List.nil_append] at I
     refine Zm H R (Qg) λa H=>?_
     obtain ⟨aa,be,b⟩:=bvx b
     refine ZR H R R t_4 ty5 be.1 λa H=>ZB (v:=(vB aa)) H R ty5 R (At.vec (at_5 I.ra1) be.2) λa H=>Zn H R R (Zd2 aa 1) λa H=>Zm H R (Qg) λa H=>?_
     obtain ⟨dw,ak,b⟩:=bvx b
     refine ZR H R R t_4 ty5 ak.1 λa H=>?_
     have I:=I.pl1
     refine Zl (seg:=[vB (aa + 1)]) (cs':=cat [[vI o.Number],[vI o.Version],enc o.Nonce,[u84],[u85],enc (o.Tag.setIfInBounds (ai.2).toNat (aa + 1))]) H I Za R R R ty5 R (J8 (o':=0 + (ai.2).toNat * 1) (pre:=[[vI o.Number],[vI o.Version],enc o.Nonce,[u84],[u85]]) (seg:=enc o.Tag) (post:=[]) ck (Yf (v:=o.Tag) (x:=aa + 1) ak.1) (by first | omega | (simp only [Flat.n] <;> omega))) (s_1 (aa + 1 : UInt8)) (Qu (o':=0 + (ai.2).toNat * 1) (pre:=[[vI o.Number],[vI o.Version],enc o.Nonce,[u84],[u85]]) (seg:=enc o.Tag) (post:=[]) ck (Yf (v:=o.Tag) (x:=aa + 1) ak.1) (ZS (v:=o.Tag) (x:=aa + 1) ak.1) (by first | omega | (simp only [Flat.n] <;> omega))) λw a I H=>Ze (t_1 (Zm H R (Ye) λa H=>ZB (v:=C) H R Xr R (at_2 I.ra5) λa H=>Zd H R λa H=>Zq H R Yk R I.ra0 cq λa H=>?_))
     obtain ⟨dx,bq,b⟩:=bix b
     refine zY (pre:=[_,_,_,_]) H I Za ld R R o_3 Yk bq.1 λa H=>?_
     have I:=I.pl4
     refine qa (k0:=0) (seg:=cat [[vI o.Number],[vI o.Version],enc o.Nonce,[u84],[u85],enc (o.Tag.setIfInBounds (ai.2).toNat (aa + 1))]) (cs':=cat [[vI o.Number],[vI o.Version],enc o.Nonce,[u84],[u85],enc (o.Tag.setIfInBounds (ai.2).toNat (aa + 1))]) H I noB Za R R R Yk cq (ZD (cc1 (s_1 (o.Number : Int)) (cc1 (s_1 (o.Version : Int)) (cc1 (s_1 _) (cc1 (t_2 (I.ro (pre:=[_,_,_]) noB)) (cc1 (t_2 (I.ro (pre:=[_,_,_,_]) noB)) (cc1 (s_1 _) cc0))))))) (q_1 cq cq) (q_2 cq cq) λw a I H=>?_
     have I:=(QK (x:=(⟨o.Number,o.Version,o.Nonce,o.Label,o.Body,o.Tag.setIfInBounds (ai.2).toNat (aa + 1)⟩ : GRecord)) I.pl9.pl9.pl9.pl9.pl9.pl7.pl7.pl7.pl9.pl9 siw siw).close1 noB
     refine Zj ?_
     obtain rfl:=o_1 b
     refine Zk ?_
     have I:=(I.pl5.pl1.pl5.pl7.pl7.pl7.pl7.pl7).drop
     exact ⟨G,C,U,H.s,I⟩
    intro cl b
    refine u_2 ?_
    obtain rfl:=o_1 b
    refine Zk ?_
    have I:=I.pl4.pl4.pl4.pl6.pl6.pl6.pl6
    exact ⟨G,C,U,H.s,I⟩
   intro cj b
   refine Zb (Zn H R R R λa H=>Zc H R λa H=>Ze ?_)
   refine c_if H R b ?_ ?_
   ·intro br b
    refine Zb (Zd H R λa H=>Zn H R R R λa H=>Ze ?_)
    refine c_if H R b ?_ ?_
    ·intro bt b
     refine t_1 (Zm H R (XA) λa H=>ZB (v:=U) H R T3 R (at_3 I.ra1) λa H=>Zd H R λa H=>Zn H R R R λa H=>?_)
     obtain ⟨dh,bg,b⟩:=p_1 b
     refine Q2 H Za ld R R R R R p_4 Xn (I.sl4) bg λa H=>Zm H R (XA) λa H=>?_
     have I:=(I.pl4.cut noB bg).pl2
     refine Zl (seg:=[Yg U (xi).toNat ((wr (am.2 - 1))).toNat 34]) H I Za R R (Z5 (I.sl1)) T3 R (Xf (pre:=[[G],[vI B.2.Next],[C]]) ck R) (t_2 (I.sl1)) (Ym (pre:=[[G],[vI B.2.Next],[C]]) ck R) λw a I H=>Zj ?_
     obtain rfl:=o_1 b
     refine Zk ?_
     have I:=I.pl1.pl4.pl4.pl6.pl6.pl5.pl6
     exact ⟨G,C,Yg U (xi).toNat ((wr (am.2 - 1))).toNat 34,H.s,I⟩
    intro bt b
    refine u_2 ?_
    obtain rfl:=o_1 b
    refine Zk ?_
    have I:=I.pl4.pl4.pl4.pl6.pl6.pl6.pl6
    exact ⟨G,C,U,H.s,I⟩
   intro br b
   refine Zb (Zn H R R R λa H=>Zc H R λa H=>Ze ?_)
   refine c_if H R b ?_ ?_
   ·intro bu b
    refine Zb (Zd H R λa H=>Zn H R R R λa H=>Ze ?_)
    refine c_if H R b ?_ ?_
    ·intro bv b
     refine t_1 (Zm H R (Ye) λa H=>ZB (v:=C) H R Xr R (at_2 I.ra1) λa H=>?_)
     obtain ⟨di,bh,b⟩:=p_1 b
     refine Q2 H Za ld R R R R R o_3 Yk (I.sl3) bh λa H=>Zm H R (Ye) λa H=>?_
     have I:=(I.pl3.cutF noB bh).pl2
     refine Zl (seg:=[Yg C ((1 : Int)).toNat ((B.2.Records.length : Int)).toNat 52]) H I Za R R (Z5 (I.sl1)) Xr R (ft_2 R) (t_2 (I.sl1)) (sp_2 R) λw a I H=>Zj ?_
     obtain rfl:=o_1 b
     refine Zk ?_
     have I:=I.pl4.pl2.pl4.pl6.pl6.pl5.pl6
     exact ⟨G,Yg C ((1 : Int)).toNat ((B.2.Records.length : Int)).toNat 52,U,H.s,I⟩
    intro bv b
    refine u_2 ?_
    obtain rfl:=o_1 b
    refine Zk ?_
    have I:=I.pl4.pl4.pl4.pl6.pl6.pl6.pl6
    exact ⟨G,C,U,H.s,I⟩
   intro bu b
   refine Zb (Zn H R R R λa H=>Zc H R λa H=>Ze ?_)
   refine c_if H R b ?_ ?_
   ·intro bw b
    refine t_1 (Zd H R λa H=>ZM (xs:=[.const (vI 0),.const (vI 1000001),.const (vI 1000000),.const (vI 1)]) (l:=([0,1000001,1000000,1] : List Int)) (vs:=[vI 0,vI 1000001,vI 1000000,vI 1]) H I Za ld R R t_3 ty2 R dd_ R λcm w a I H=>?_)
    have I:=M.tailP (m:=[_,_]) I.pl1
    obtain ⟨ax,cn,b⟩:=p_1 b
    refine Zp H R yO (Vi _ _ _ _ q T d N (K.1.1,K.1.2) ([0,1000001,1000000,1] : List Int) cm I ax cn) ?_
    rintro v w a ⟨rfl,I⟩ H
    have I:=M.tailU (m:=[_,_]) I
    simp only [List.cons_append,List.nil_append] at I
    refine Zm H R (Qw) λa H=>?_
    have I:=I.pl2
    refine Zl (seg:=[vI ax.2]) H I Za R R R ty2 R (Xf (pre:=[[G]]) ck R) (s_1 (ax.2 : Int)) (Ym (pre:=[[G]]) ck R) λw a I H=>Zj ?_
    obtain rfl:=o_1 b
    refine Zk ?_
    have I:=(I.pl5.pl5.pl5.pl7.pl7.pl5.pl6.pl7).drop
    exact ⟨G,C,U,H.s,I⟩
   intro bw b
   refine Zb (Zn H R R R λa H=>Zc H R λa H=>Ze ?_)
   refine c_if H R b ?_ ?_
   ·intro bx b
    refine t_1 (Zm H R (Xw) λa H=>?_)
    have I:=I.pl1
    refine Zl (seg:=[xd]) H I Za R R R TF R (Xf (pre:=[]) cl0 R) ZZ (Ym (pre:=[]) cl0 R) λw a I H=>Zj ?_
    obtain rfl:=o_1 b
    refine Zk ?_
    have I:=(((((((((M.nilS (α:=V16) NoB noB I).pl5).pl5).pl2).pl7).pl7).pl5).pl6).pl7).drop
    exact ⟨xd,C,U,H.s,I⟩
   intro bx b
   refine Zb (Zn H R R R λa H=>Zc H R λa H=>Ze ?_)
   refine c_if H R b ?_ ?_
   ·intro bz b
    refine Zb (Zd H R λa H=>Zn H R R R λa H=>Ze ?_)
    refine c_if H R b ?_ ?_
    ·intro b0 b
     obtain ⟨dj,ay,b⟩:=p_1 b
     have I:=I.pl3
     obtain ⟨ab,ac,ad,I⟩:=I.hdrSwap ay
     refine Zb (Zm H R (Ye) λa H=>ZB (v:=C) H R Xr R (at_2 I.ra3) λa H=>?_)
     obtain ⟨al,bi⟩ : ∃ x,idx (ab :: ac :: ad) xi = some x:=⟨_,R⟩
     have az:=B4 bi
     refine Yp H R R o_3 Yk (I.sl0) az.1 λa H=>Zq H R Yk R (YG (I.sl0) az.2) (u_1 _) λa H=>Zv H I Yk λdk w a I H=>Zl (seg:=enc al) (cs':=enc al) H I Za R R R Yk (u_1 _) (q_1 (u_1 _) cq) (s_1 _) (q_2 (u_1 _) cq) λw a I H=>Ze (s_2 ?_)
     obtain ⟨a0,bj⟩ : ∃ x,idx (ab :: ac :: ad) (1 : Int) = some x:=⟨_,R⟩
     have a1:=B4 bj
     obtain ⟨co,bk⟩ : ∃ x,idx (ab :: ac :: ad) xi = some x:=⟨_,R⟩
     have a2:=B4 bk
     refine Z9 [111,112,113,114,115,116,117] Yx R R dd_ R H I (qsP (λz=>Zi z.E Za ld R (Ye) (kr0 R)) (qsP (λz=>Zz (v:=C) z.E Za ld R Xr R (at_2 (z.M.ra4)) (kr0 R)) (qsP (λz=>Zi z.E Za ld R (Ye) (kr0 R)) (qsP (λz=>Zz (v:=C) z.E Za ld R Xr R (at_2 (z.M.ra4)) (kr0 R)) (qsP (λz=>Z6 z.E Za ld R R o_3 Yk (z.M.sl1) a1.1 (kr0 R)) (qsP (λz=>Zx z.E Za ld R Yk R (YG (z.M.sl1) a1.2) (u_1 _) (kr0 R)) (qsP (λz=>Z6 z.E Za ld R R o_3 Yk (z.M.sl1) a2.1 (kr0 R)) qs0))))))) ?_
     ·intro a w u H I
      have I:=I.pl1
      refine BS (i:=(xi).toNat) (k0:=0) (seg:=enc a0) (xo:=co) (xn:=a0) H I Za R R R Yk (u_1 _) (s_1 _) a2.2 (zh (m:=52) (u_1 _) dd_) (Zh flq) λw a I H=>Zj (ZA (t_1 (Zm H R (Ye) λa H=>ZB (v:=C) H R Xr R (at_2 I.ra4) λa H=>Zq H R Yk R I.ra1 (u_1 _) λa H=>?_)))
      obtain ⟨cp,bl⟩ : ∃ x,idx ((ab :: ac :: ad).set (xi).toNat a0) (1 : Int) = some x:=⟨_,R⟩
      have a3:=B4 bl
      refine Yp H R R o_3 Yk (I.sl0) a3.1 λa H=>BS (i:=((1 : Int)).toNat) (k0:=0) (seg:=enc al) (xo:=cp) (xn:=al) H I Za R R R Yk (u_1 _) (s_1 _) a3.2 (zh (m:=52) (u_1 _) dd_) (Zh flq) λw a I H=>Zj ?_
      obtain rfl:=o_1 bi
      obtain rfl:=o_1 bj
      obtain rfl:=o_1 bk
      obtain rfl:=o_1 bl
      have I:=M.hdrSwapOf (x:=ab) (y:=ac) (r:=ad) I.pl2.pl1 ay
      obtain rfl:=o_1 b
      refine Zk ?_
      have I:=(I.pl5.pl1.pl5.pl7.pl7.pl7.pl7.pl7).drop
      exact ⟨G,C,U,H.s,I⟩
    intro b0 b
    refine u_2 ?_
    obtain rfl:=o_1 b
    refine Zk ?_
    have I:=I.pl4.pl4.pl4.pl6.pl6.pl6.pl6
    exact ⟨G,C,U,H.s,I⟩
   intro bz b
   refine Zb (Zn H R R R λa H=>Zc H R λa H=>Ze ?_)
   refine c_if H R b ?_ ?_
   ·intro b3 b
    obtain ⟨A,cr,b⟩:=p_1 b
    obtain ⟨L,ct,b⟩:=p_1 b
    refine Ys (its:=[raw b8 (cV G C U B.2),osl NoB B.2.Keys G,osl NoB B.2.Records C,osl NoB B.2.Events U,raw b1 xh,r0]) (mk:=([([4,7],λbs _=>(tog (bs.getD 0 false) (raw q (cat [[d],[vI K.1.1],[Value.int .u64 K.1.2]])) (tog (bs.getD 1 false) (raw q (cat [[d],[vI A.1.1],[Value.int .u64 A.1.2]])) (raw q (cat [[d],[vI L.1.1],[Value.int .u64 L.1.2]]))))),mkO 3 (λv=>osl NoB (([0,2,5] : List Int) : List Int) v),mkO 6 (λv=>osl NoB (([0,1,7] : List Int) : List Int) v),mkO 9 (λv=>osl NoB (([(⟨A.2,L.2,xb⟩ : GEvent)] : List GEvent) : List GEvent) v)] : Mk)) [124,125,126,127,128,129,130,131,132,133] Yx R R dd_ R H (λu=>M.qS (M.qE (M.qE (M.qE (M.q0 I.drew u) emO) emO) emO) λ_=>R) (qsP (λz=>Zi z.E Za ld R (XA) (kr0 R)) (qsP (λz=>Zz (v:=U) z.E Za ld R T3 R (at_3 (z.M.ra0)) (kr0 R)) (q_m (λ_=>R) (q_t ?_ (qsV (v:=(vI A.2)) ?_ (q_m (λ_=>R) (q_t ?_ (qsV (v:=(vI L.2)) ?_ (qsP (λz=>Yi (parts:=[(0,.tmp 128),(1,.tmp 131)]) (vs:=[(0,vI A.2),(1,vI L.2)]) (cs:=cat [[vI A.2],[vI L.2],enc xb]) z.E Za ld R R Xn Zap (Ya (pre:=[]) (seg:=[vI 0]) (seg':=[vI A.2]) (post:=[[vI 0],enc xb]) R cl0 R R R (Ya (pre:=[[vI A.2]]) (seg:=[vI 0]) (seg':=[vI L.2]) (post:=[enc xb]) R ck R R R YF)) (kr0 R)) (q_t ?_ qs0)))))))))) ?_
    ·intro a w X D z
     have H:=z.E
     have hD : D 3 = false:=z.F
     have I:=z.M
     exact ZM (xs:=[.const (vI 0),.const (vI 2),.const (vI 5)]) (l:=([0,2,5] : List Int)) (vs:=[vI 0,vI 2,vI 5]) H I Za ld R R t_3 ty2 R dd_ R λdl w a I H=>⟨_,_,R,H,M.qFill (mk1:=[_]) (mk2:=[_,_]) (f:=(λv=>osl NoB (([0,2,5] : List Int) : List Int) v)) I R hD,trivial⟩
    ·intro a w X D z
     have H:=z.E
     have hD : D 4 = false:=z.F
     have d3 : D 3 = true:=z.p 1 _ R R
     have I:=(z.M.sure (pre:=[_,_,_,_,_,_,_]) d3).togA (pre:=[_,_,_,_,_,_]) hD
     have hNx : D 7 = false:=VE (j:=7) (k:=2) z.c R R R hD
     have I:=M.tailP (m:=[_,_]) I.pl7.pl7
     refine Zp H R yO (Vi _ _ _ _ q T d N (K.1.1,K.1.2) ([0,2,5] : List Int) (X 3) I A cr) ?_
     rintro v w a ⟨rfl,I⟩ H
     have I:=M.tailU (m:=[_,_]) I
     simp only [List.cons_append,List.nil_append] at I
     have I:=I.pl1.pl7.pl7.pl7.pl7.pl7.pl7.pl7.unsure (pre:=[_,_,_,_,_,_,_]) d3
     exact ⟨_,R,H,M.qTogS (mk1:=[]) (mk2:=[_,_,_]) I R (by show tog (Xu D 4 4) (raw q (cat [[d],[vI K.1.1],[Value.int .u64 K.1.2]])) (tog (Xu D 4 7) (raw q (cat [[d],[vI A.1.1],[Value.int .u64 A.1.2]])) (raw q (cat [[d],[vI L.1.1],[Value.int .u64 L.1.2]]))) = _; rw [tg1 A6,tg0 (updN (i:=4) hNx dd_)])⟩
    ·intro a w X D z
     have H:=z.E
     have hD : D 6 = false:=z.F
     have I:=z.M
     exact ZM (xs:=[.const (vI 0),.const (vI 1),.const (vI 7)]) (l:=([0,1,7] : List Int)) (vs:=[vI 0,vI 1,vI 7]) H I Za ld R R t_3 ty2 R dd_ R λdm w a I H=>⟨_,_,R,H,M.qFill (mk1:=[_,_]) (mk2:=[_]) (f:=(λv=>osl NoB (([0,1,7] : List Int) : List Int) v)) I R hD,trivial⟩
    ·intro a w X D z
     have H:=z.E
     have hD : D 7 = false:=z.F
     have d6 : D 6 = true:=z.p 1 _ R R
     have I:=z.M.sure (pre:=[_,_,_,_,_,_,_,_]) d6
     have cu : D 4 = true:=z.p 2 _ R R
     have I:=M.tailP (m:=[_,_]) ((((I.togB (pre:=[_,_,_,_,_,_]) cu).togA (pre:=[_,_,_,_,_,_]) hD).pl8).pl7)
     refine Zp H R yO (Vi _ _ _ _ q T d N (A.1.1,A.1.2) ([0,1,7] : List Int) (X 6) I L ct) ?_
     rintro v w a ⟨rfl,I⟩ H
     have I:=M.tailU (m:=[_,_]) I
     simp only [List.cons_append,List.nil_append] at I
     have I:=I.pl1.pl8.pl8.pl8.pl8.pl8.pl8.pl8.pl8.unsure (pre:=[_,_,_,_,_,_,_,_]) d6
     exact ⟨_,R,H,M.qTogS (mk1:=[]) (mk2:=[_,_,_]) I R (by show tog (Xu D 7 4) (raw q (cat [[d],[vI K.1.1],[Value.int .u64 K.1.2]])) (tog (Xu D 7 7) (raw q (cat [[d],[vI A.1.1],[Value.int .u64 A.1.2]])) (raw q (cat [[d],[vI L.1.1],[Value.int .u64 L.1.2]]))) = _; rw [tg1 (updK cu),tg1 A6])⟩
    ·intro a w X D z
     have H:=z.E
     have hD : D 9 = false:=z.F
     have I:=z.M
     exact ZM (xs:=[.tmp 132]) (l:=([(⟨A.2,L.2,xb⟩ : GEvent)] : List GEvent)) (vs:=[Value.agg (enc (⟨A.2,L.2,xb⟩ : GEvent)).toArray]) H I Za ld R R p_4 Xn R dd_ R λdp w a I H=>⟨_,_,R,H,M.qFill (mk1:=[_,_,_]) (mk2:=[]) (f:=(λv=>osl NoB (([(⟨A.2,L.2,xb⟩ : GEvent)] : List GEvent) : List GEvent) v)) I R hD,trivial⟩
    intro a w X D H I hG Y
    have d3:=Y 3 dd_
    have d4:=Y 4 dd_
    have d6:=Y 6 dd_
    have d7:=Y 7 dd_
    have d9:=Y 9 dd_
    have I:=((((I.togB (pre:=[_,_,_,_,_,_]) d4).togB (pre:=[_,_,_,_,_,_]) d7).sure (pre:=[_,_,_,_,_,_,_]) d3).sure (pre:=[_,_,_,_,_,_,_,_]) d6).sure (pre:=[_,_,_,_,_,_,_,_,_]) d9
    obtain ⟨dq,cv,b⟩:=p_1 b
    obtain ⟨cw,rfl⟩:=ZU cv
    have I:=I.pl3
    refine ZX H I Za ld R R (I.sl (pre:=[_,_,_,_,_,_,_,_,_]) noB) p_4 Xn R dd_ cw λbm w a I H=>Zm H R (XA) λa H=>?_
    have I:=I.pl1
    refine Zl (seg:=[bm]) H I Za R R (Z5 (I.sl1)) T3 R (Xf (pre:=[[G],[vI B.2.Next],[C]]) ck R) (t_2 (I.sl1)) (Ym (pre:=[[G],[vI B.2.Next],[C]]) ck R) λw a I H=>Zj ?_
    obtain rfl:=o_1 b
    refine Zk ?_
    have I:=(((I.pl1.pl3.pl3.pl5.pl5.pl5.pl6.pl9).drop.pl8).drop.pl7).drop
    exact ⟨G,C,bm,H.s,I⟩
   intro b3 b
   refine u_2 ?_
   obtain rfl:=o_1 b
   refine Zk ?_
   have I:=I.pl4.pl4.pl4.pl6.pl6.pl6.pl6
   exact ⟨G,C,U,H.s,I⟩
  rintro a w ⟨a4,a5,a6,H,I⟩
  refine Yy ?_
  obtain rfl:=o_1 ca
  refine Zk ?_
  have I:=I.pl6.pl6.pl6.pl6.pl6.pl5.pl6
  exact ⟨a4,a5,a6,H.s,I⟩
 rintro a w ⟨an,ao,ap,H,I⟩
 refine Zb (Zq H R ZG R I.ra0 cq λa H=>?_)
 have I:=I.pl2
 refine Zl (seg:=cat [[an],[vI Z.2.1],[ao],[ap],enc Z.2.2.2.2.1]) (cs':=cat [[an],[vI Z.2.1],[ao],[ap],enc Z.2.2.2.2.1]) H I Za R R R ZG cq (q_1 cq cq) (ZD (cc1 (t_2 (I.sl4)) (cc1 (s_1 (Z.2.1 : Int)) (cc1 (t_2 (I.sl5)) (cc1 (t_2 (I.sl6)) (cc1 (s_1 _) cc0)))))) (q_2 cq cq) λw a I H=>Ze ?_
 obtain rfl:=o_1 b9
 have b4 : Z7 prog _ _ (.cell 2 79) _:=ZE H R ZG R I.ra0 cq R
 have I:=((I.pl3.pl6.pl6.pl6.pl6.pl6).drop.pl5).drop
 exact p_3 (ZY H R b4 ⟨_,R,an,ao,ap,R,I⟩)
def W1 (h : List UInt8) : Option (GVault × Int) :=
 (X6 h).bind λl=>(WL h (l.1,l.2)).bind λb=>(if decide ((b.2.Records.length : Int) > 0) then ((ZO h (b.1.1,b.1.2) 6).bind λf=>some (f.1.1,f.1.2,decide (f.2 > 0))) else (some (b.1.1,b.1.2,false)) : Option (Int × Int × Bool)).bind λe=>if e.2.2 then (((ZO h (e.1,e.2.1) (b.2.Records.length : Int)).bind λi=>(idx b.2.Records i.2).bind λj=>some (b.2.Keys,b.2.Next,b.2.Records,b.2.Events,b.2.Head,j.Number) : Option (List V16 × Int × List GRecord × List GEvent × V32 × Int)).bind λc=>some ((⟨c.1,c.2.1,c.2.2.1,c.2.2.2.1,c.2.2.2.2.1⟩ : GVault),c.2.2.2.2.2)) else (((ZO h (e.1,e.2.1) 9).bind λk=>some (b.2.Keys,b.2.Next,b.2.Records,b.2.Events,b.2.Head,k.2) : Option (List V16 × Int × List GRecord × List GEvent × V32 × Int)).bind λd=>some ((⟨d.1,d.2.1,d.2.2.1,d.2.2.2.1,d.2.2.2.2.1⟩ : GVault),d.2.2.2.2.2))
theorem J7 (N : World) (p0 : List UInt8) (b : Value) (o : Ro N p0 [b]) (r : GVault × Int) (J : W1 p0 = some r) :
  Calls prog 162 [b].toArray N (e_r λv w'=>(∃ y1 y2 y3 : Value,v = (Value.tuple [vcV y1 y2 y3 r.1,vI r.2].toArray) ∧ Fr N w' [osl NoB r.1.Keys y1,osl NoB r.1.Records y2,osl NoB r.1.Events y3] ∧ Kept (Old N) N w')):=by
 refine ce func162 ?_
 intro a H
 have I:=M.start N
 unfold W1 at J
 refine Zb (Zv H I ZG λT w a I H=>Zc H R λa H=>Ze (Zb (Zd H R λa H=>?_)))
 have I:=M.tailP (m:=[]) I
 obtain ⟨r3,e4,J⟩:=p_1 J
 refine Zp H R cb77 (Tp _ _ _ _ p0 b o I r3 e4) ?_
 rintro v w a ⟨y,rfl,I⟩ H
 have I:=M.tailU (m:=[_]) I
 simp only [List.cons_append,List.nil_append] at I
 refine Zc H R λa H=>Ze (Zb (Zd H R λa H=>?_))
 have I:=M.tailP (m:=[_]) I
 obtain ⟨h,e8,J⟩:=p_1 J
 refine Zp H R Ze8 (Kw _ _ _ _ y p0 b o (r3.1,r3.2) I h e8) ?_
 rintro v w a ⟨q,d,f,rfl,I⟩ H
 have I:=M.tailU (m:=[_,_,_,_]) I
 simp only [List.cons_append,List.nil_append] at I
 refine Zv H I ZG λU w a I H=>Zl (seg:=cV q d f h.2) (cs':=cV q d f h.2) H I Za R R R ZG cq (q_1 cq cq) (ZD (cc1 (t_2 (I.sl2)) (cc1 (s_1 (h.2.Next : Int)) (cc1 (t_2 (I.sl3)) (cc1 (t_2 (I.sl4)) (cc1 (s_1 _) cc0)))))) (q_2 cq cq) λw a I H=>Ze (s_2 ?_)
 obtain ⟨i,n,t⟩:=p_1 J
 refine ZI (λa w=>Env 33 a [(2,ptr T 0),(4,ptr y 0),(5,ptr U 0),(18,vT i.2.2)] ∧ M (Old N) N w [raw U (cV q d f h.2),raw y (cat [[b],[vI i.1],[Value.int .u64 i.2.1]]),osl NoB h.2.Keys q,osl NoB h.2.Records d,osl NoB h.2.Events f,raw T xh]) ?_ ?_
 ·refine t_1 (Zm H R (Ye) λa H=>ZB (v:=d) H R Xr R (at_2 I.ra0) λa H=>Yu H R o_3 (I.sl3) λa H=>Zn H R R R λa H=>Zd H R λa H=>?_)
  refine Yj (decide ((h.2.Records.length : Int) > 0)) (λe=>?_) (λe=>?_)
  ·have n:=Zt n e
   refine Zo H (Zg H R (lkb R e)) dd_ R λa H=>?_
   have I:=M.tailP (m:=[_]) I.pl1
   obtain ⟨ao,ap,n⟩:=p_1 n
   refine Z8 H (Zg H R (lkb R e)) dd_ R Kc (ZT _ _ _ _ y p0 b o (h.1.1,h.1.2) 6 I ao ap) ?_
   rintro v w a ⟨rfl,I⟩ H
   have I:=M.tailU (m:=[_]) I
   simp only [List.cons_append,List.nil_append] at I
   refine Yc H (Zg H R (lkb R e)) dd_ R R R λa H=>ZH H (lkb R e) R λa H=>Zj ?_
   obtain rfl:=o_1 n
   refine Zk ?_
   have I:=I.pl5.pl5.pl5.pl5.pl4.pl5
   exact ⟨H.s,I⟩
  have n:=Zs n e
  refine k_s H e R R R λa H=>k_s H e R R R λa H=>k_s H e R R R λa H=>Z2 H (lkb R e) R λa H=>Zj ?_
  obtain rfl:=o_1 n
  refine Zk ?_
  exact ⟨H.s,I⟩
 rintro a w ⟨H,I⟩
 refine c_if H R t ?_ ?_
 ·intro ae t
  obtain ⟨C,x,af⟩:=p_1 t
  refine ZI (λa w=>∃ W X Y : Value,Env 33 a [(2,ptr T 0),(3,vI C.2.2.2.2.2)] ∧ M (Old N) N w [raw T (cat [[W],[vI C.2.1],[X],[Y],enc C.2.2.2.2.1]),osl NoB C.1 W,osl NoB C.2.2.1 X,osl NoB C.2.2.2.1 Y]) ?_ ?_
  ·have I:=I.pl5.pl2
   obtain ⟨G,aq,x⟩:=p_1 x
   obtain ⟨ag,ac,x⟩:=bix x
   refine Ys (its:=[raw U (cV q d f h.2),osl NoB h.2.Keys q,osl NoB h.2.Records d,osl NoB h.2.Events f]) (mk:=([mkT 11 (raw T xh) (raw T (cV q d f h.2)),([7],λbs _=>(tog (bs.getD 0 false) (raw y (cat [[b],[vI i.1],[Value.int .u64 i.2.1]])) (raw y (cat [[b],[vI G.1.1],[Value.int .u64 G.1.2]]))))] : Mk)) [19,20,21,22,23,24,25,26,27,28,29,44] Yx R R dd_ R H (λu=>M.qT (M.qS (M.q0 I.drew u) λ_=>R)) (qsP (v:=(vcV q d f h.2)) ?_ (qsP (λz=>Zi z.E Za ld R (Ye) (kr0 R)) (qsP (λz=>Zz (v:=d) z.E Za ld R Xr R (at_2 (z.M.ra0)) (kr0 R)) (q_m (λ_=>R) (qsP (λz=>Zi z.E Za ld R (Ye) (kr0 R)) (qsP (λz=>Zz (v:=d) z.E Za ld R Xr R (at_2 (z.M.ra0)) (kr0 R)) (qsP (λz=>W2 z.E Za ld R o_3 (z.M.sl2) (kr0 R)) (qsV (v:=(vI G.2)) ?_ (qsP (λz=>Z6 z.E Za ld R R o_3 Yk (z.M.sl2) ac.1 (kr0 R)) (qsP (λz=>Zi z.E Za ld R (VC) (kr0 R)) (qsP (v:=(vI ag.Number)) ?_ (q_t ?_ qs0)))))))))))) ?_
   ·intro a w A D z
    have H:=z.E
    have hD : D 0 = false:=z.F
    have I:=z.M.togA (pre:=[_,_,_,_]) (VE (j:=11) (k:=0) z.c R R R hD)
    exact Zq H R ZG R I.ra0 cq λa H=>⟨p_5 _ _,_,R,H⟩
   ·intro a w A D z
    have H:=z.E
    have hD : D 7 = false:=z.F
    have I:=M.tailP (m:=[_]) ((z.M.togA (pre:=[_,_,_,_,_]) hD).pl5)
    refine Zp H R Kc (ZT _ _ _ _ y p0 b o (i.1,i.2.1) (h.2.Records.length : Int) I G aq) ?_
    rintro v w a ⟨rfl,I⟩ H
    have I:=M.tailU (m:=[_]) I
    simp only [List.cons_append,List.nil_append] at I
    exact ⟨_,R,H,M.qTogS (mk1:=[_]) (mk2:=[]) I R (by show tog (Xu D 7 7) (raw y (cat [[b],[vI i.1],[Value.int .u64 i.2.1]])) (raw y (cat [[b],[vI G.1.1],[Value.int .u64 G.1.2]])) = _; rw [tg1 A6])⟩
   ·intro a w A D z
    have H:=z.E
    have I:=z.M
    obtain ⟨ay,ah,ai⟩:=Y2 (I.sl2) ac.2
    obtain ⟨a1,a2,rfl,_,_⟩:=Yl ah
    exact ZB (v:=(vI ag.Number)) H R ty2 R (at_0 ai) λa H=>⟨p_5 _ _,_,R,H⟩
   ·intro a w A D z
    have H:=z.E
    have hD : D 11 = false:=z.F
    have I:=(z.M.togA (pre:=[_,_,_,_]) hD).pl4
    exact Zl (seg:=cV q d f h.2) (cs':=cV q d f h.2) H I Za R R R ZG cq (q_1 cq cq) (ZD (cc1 (t_2 (I.sl2)) (cc1 (s_1 (h.2.Next : Int)) (cc1 (t_2 (I.sl3)) (cc1 (t_2 (I.sl4)) (cc1 (s_1 _) cc0)))))) (q_2 cq cq) λw a I H=>⟨undef,_,R,Env.dummy H dd_,M.qTog (mk1:=[]) (mk2:=[_]) I R,trivial⟩
   intro a w A D H I hG B
   have d7:=B 7 dd_
   have ar:=B 11 dd_
   have I:=(I.togB (pre:=[_,_,_,_]) ar).togB (pre:=[_,_,_,_,_]) d7
   refine Zc H R λa H=>Zj ?_
   obtain rfl:=o_1 x
   refine Zk ?_
   have I:=M.fst (l:=[_,_,_,_]) I.pl3.pl3.pl3.pl4
   exact ⟨q,d,f,H.s,I⟩
  rintro a w ⟨W,X,Y,H,I⟩
  obtain rfl:=o_1 af
  have aj : Z7 prog _ _ (.cell 2 79) _:=ZE H R ZG R I.ra0 cq R
  have I:=M.fst (l:=[_,_,_]) I.pl3.pl3.pl3
  exact p_3 (ZJ (Yq H R aj (Zy H R) ⟨_,R,W,X,Y,R,I.outF (ZK (ZK (ZK Yd))),I.kept⟩))
 intro ae t
 refine u_2 (ZA ?_)
 obtain ⟨K,O,ak⟩:=p_1 t
 refine ZI (λa w=>∃ Z aa ab : Value,Env 33 a [(2,ptr T 0),(3,vI K.2.2.2.2.2)] ∧ M (Old N) N w [raw T (cat [[Z],[vI K.2.1],[aa],[ab],enc K.2.2.2.2.1]),osl NoB K.1 Z,osl NoB K.2.2.1 aa,osl NoB K.2.2.2.1 ab]) ?_ ?_
 ·have I:=I.pl1
  obtain ⟨L,au,O⟩:=p_1 O
  refine Ys (its:=[raw U (cV q d f h.2),osl NoB h.2.Keys q,osl NoB h.2.Records d,osl NoB h.2.Events f,raw T xh]) (mk:=([([2],λbs _=>(tog (bs.getD 0 false) (raw y (cat [[b],[vI i.1],[Value.int .u64 i.2.1]])) (raw y (cat [[b],[vI L.1.1],[Value.int .u64 L.1.2]]))))] : Mk)) [30,31,32] Yx R R dd_ R H (λu=>M.qS (M.q0 I.drew u) λ_=>R) (qsP (λz=>Zx z.E Za ld R ZG R (z.M.ra0) cq (kr0 R)) (q_m (λ_=>R) (qsV (v:=(vI L.2)) ?_ qs0))) ?_
  ·intro a w al D z
   have H:=z.E
   have hD : D 2 = false:=z.F
   have I:=M.tailP (m:=[_]) ((z.M.togA (pre:=[_,_,_,_,_]) hD).pl5)
   refine Zp H R Kc (ZT _ _ _ _ y p0 b o (i.1,i.2.1) 9 I L au) ?_
   rintro v w a ⟨rfl,I⟩ H
   have I:=M.tailU (m:=[_]) I
   simp only [List.cons_append,List.nil_append] at I
   exact ⟨_,R,H,M.qTogS (mk1:=[]) (mk2:=[]) I R (by show tog (Xu D 2 2) (raw y (cat [[b],[vI i.1],[Value.int .u64 i.2.1]])) (raw y (cat [[b],[vI L.1.1],[Value.int .u64 L.1.2]])) = _; rw [tg1 A6])⟩
  intro a w al D H I hG B
  have d2:=B 2 dd_
  have I:=(I.togB (pre:=[_,_,_,_,_]) d2).pl4
  refine Zl (seg:=cV q d f h.2) (cs':=cV q d f h.2) H I Za R R R ZG cq (q_1 cq cq) (ZD (cc1 (t_2 (I.sl2)) (cc1 (s_1 (h.2.Next : Int)) (cc1 (t_2 (I.sl3)) (cc1 (t_2 (I.sl4)) (cc1 (s_1 _) cc0)))))) (q_2 cq cq) λw a I H=>Zc H R λa H=>Zj ?_
  obtain rfl:=o_1 O
  refine Zk ?_
  have I:=M.fst (l:=[_,_,_,_]) I.pl4.pl4.pl4.pl3
  exact ⟨q,d,f,H.s,I⟩
 rintro a w ⟨Z,aa,ab,H,I⟩
 obtain rfl:=o_1 ak
 have am : Z7 prog _ _ (.cell 2 79) _:=ZE H R ZG R I.ra0 cq R
 have I:=M.fst (l:=[_,_,_]) I.pl3.pl3.pl3
 exact p_3 (Yq H R am (Zy H R) ⟨_,R,Z,aa,ab,R,I.outF (ZK (ZK (ZK Yd))),I.kept⟩)
def WR (c : List UInt8) : Option (GVault × Int) :=
 (W1 c).bind λb=>some (b.1,b.2)
theorem Bt (e : World) (k : List UInt8) (b : Value) (c : Ro e k [b]) (r : GVault × Int) (J : WR k = some r) :
  Calls prog 57 [b].toArray e (e_r λv w'=>(∃ m n o : Value,v = (Value.tuple [vcV m n o r.1,vI r.2].toArray) ∧ Fr e w' [osl NoB r.1.Keys m,osl NoB r.1.Records n,osl NoB r.1.Events o] ∧ Kept (Old e) e w')):=by
 refine ce func57 ?_
 intro a H
 have I:=M.start e
 unfold WR at J
 refine Zb (Zv H I ZG λt w a I H=>Zc H R λa H=>Ze (Zb (Zd H R λa H=>?_)))
 obtain ⟨d,q,J⟩:=p_1 J
 refine Zp H R (cbm func162) (J7 _ k b (I.rdo c) d q) ?_
 rintro v w a ⟨f,h,i,rfl,hFr,hK⟩ H
 have I:=I.add hK hFr
 refine Zd H R λa H=>ZF H Za ld R R λa H=>ZF H Za ld R R λa H=>Zv H I ZG λu w a I H=>Zl (seg:=cV f h i d.1) (cs':=cV f h i d.1) H I Za R R R ZG cq (q_1 cq cq) (ZD (cc1 (t_2 (I.sl1)) (cc1 (s_1 (d.1.Next : Int)) (cc1 (t_2 (I.sl2)) (cc1 (t_2 (I.sl3)) (cc1 (s_1 _) cc0)))))) (q_2 cq cq) λw a I H=>Zc H R λa H=>Ze (Zb (Zq H R ZG R I.ra0 cq λa H=>Zd H R λa H=>?_))
 have I:=I.pl4
 refine Zl (seg:=cV f h i d.1) (cs':=cV f h i d.1) H I Za R R R ZG cq (q_1 cq cq) (ZD (cc1 (t_2 (I.sl2)) (cc1 (s_1 (d.1.Next : Int)) (cc1 (t_2 (I.sl3)) (cc1 (t_2 (I.sl4)) (cc1 (s_1 _) cc0)))))) (q_2 cq cq) λw a I H=>Zc H R λa H=>Ze ?_
 obtain rfl:=o_1 J
 have j : Z7 prog _ _ (.cell 2 79) _:=ZE H R ZG R I.ra0 cq R
 have I:=M.fst (l:=[_,_,_]) I.pl4.pl4.pl4
 exact p_3 (Yq H R j (Zy H R) ⟨_,R,f,h,i,R,I.outF (ZK (ZK (ZK Yd))),I.kept⟩)
def Yb (b : List V16) : Option (Int) :=
 some (b.length : Int)
theorem YJ (d : World) (e : List V16) (b : Value) (c : Ro d e [b]) (r : Int) (J : Yb e = some r) :
  Calls prog 135 [b].toArray d (Rt d (vI r)):=by
 refine ce func135 ?_
 intro a H
 have I:=M.start d
 unfold Yb at J
 refine Zb (Zc H R λa H=>Ze (Zb (Zd H R λa H=>Yu H R s_3 (I.rd c) λa H=>Zc H R λa H=>Ze ?_)))
 obtain rfl:=o_1 J
 exact p_3 (kr1 H R R I.kept)
def X7 (b : Int) (c : Int) (d : Int) : Option (Bool) :=
 (if decide (c ≤ b) then (some (decide (b ≤ d))) else (some false) : Option (Bool)).bind λe=>some e
theorem X4 (d : World) (e : Int) (f : Int) (i : Int) (r : Bool) (J : X7 e f i = some r) :
  Calls prog 108 [vI e,vI f,vI i].toArray d (Rt d (vT r)):=by
 refine ce func108 ?_
 intro a H
 have I:=M.start d
 unfold X7 at J
 refine Zb (Zc H R λa H=>Ze ?_)
 obtain ⟨j,c,h⟩:=p_1 J
 refine ZI (λa w=>Env 15 a [(6,vT j)] ∧ M (Old d) d w []) ?_ ?_
 ·refine t_1 (Zd H R λa H=>Zd H R λa H=>Zn H R R R λa H=>Zd H R λa H=>?_)
  refine Yj (decide (f ≤ e)) (λb=>?_) (λb=>?_)
  ·have c:=Zt c b
   refine Zo H (Zg H R (lkb R b)) dd_ R λa H=>Zo H (Zg H R (lkb R b)) dd_ R λa H=>Yc H (Zg H R (lkb R b)) dd_ R R R λa H=>ZH H (lkb R b) R λa H=>Zc H R λa H=>Zj ?_
   obtain rfl:=o_1 c
   refine Zk ?_
   exact ⟨H.s,I⟩
  have c:=Zs c b
  refine k_s H b R R R λa H=>k_s H b R R R λa H=>k_s H b R R R λa H=>Z2 H (lkb R b) R λa H=>Zc H R λa H=>Zj ?_
  obtain rfl:=o_1 c
  refine Zk ?_
  exact ⟨H.s,I⟩
 rintro a w ⟨H,I⟩
 obtain rfl:=o_1 h
 exact p_3 (kr1 H R R I.kept)
def Xt (e : List GEvent) (f : GEvent → Option (Bool)) (b : Int) : Option (Fl Int (Fl Unit Int)) :=
 if decide (b < (e.length : Int)) then ((idx e b).bind λc=>((f c)).bind λd=>if d then (some (Fl.ex (Fl.ex b))) else (some (Fl.nx (wr (b + 1))))) else (some (Fl.ex (Fl.nx ())))
def Y1 (b : List GEvent) (c : GEvent → Option (Bool)) : Option (Int) :=
 (ZQ (Xt b c) 0).bind λd=>d.el (λe=>some (-1)) (λr=>some r)
theorem Qi (e : World) (o : List GEvent) (d : Value) (c : Ro e o [d]) (z : GEvent → Option (Bool)) (m : Nat) (q1 : List Value) (i : Callable prog m) (q : ∀ (n : World),Kept (Old e) e n → ∀ (A : GEvent) (zr : Bool),z A = some zr → Calls prog m ([Value.agg (enc A).toArray] ++ q1).toArray n (λen E=>∃ v,en = .returned v ∧ (v = (vT zr) ∧ Kept (Old n) n E))) (r : Int) (J : Y1 o z = some r) :
  Calls prog 248 [d,Value.func (.func m) #[] q1.toArray].toArray e (Rt e (vI r)):=by
 refine ce func248 ?_
 intro a H
 have I:=M.start e
 unfold Y1 at J
 refine Zb (Zc H R λa H=>Ze (s_2 (Zb (Zd H R λa H=>Yu H R p_4 (I.rd c) λa H=>Zd H R λa H=>Ze ?_))))
 obtain ⟨F,t,f⟩:=p_1 J
 refine ZV (λa w=>∃ B : Unit,F = Fl.nx B ∧ Env 19 a [] ∧ M (Old e) e w []) ?_ ?_
 ·refine p_2 ?_
  refine ZP (λ(C : Int) a w=>Env 19 a [(0,d),(1,Value.func (.func m) #[] q1.toArray),(7,vI (o.length : Int)),(8,vI C)] ∧ M (Old e) e w []) t ⟨H.s,I⟩ ?_
  rintro C a w ⟨H,I⟩ G b j
  unfold Xt at b
  refine Zb (Zn H R R R λa H=>Ze (s_2 ?_))
  refine c_if H R b ?_ ?_
  ·intro u b
   refine u_2 (ZA (s_2 (p_2 (Zb (Zd H R λa H=>Zc H R λa H=>Ze (Zb (Zd H R λa H=>Zd H R λa H=>Zd H R λa H=>?_)))))))
   obtain ⟨k,h,b⟩:=bix b
   refine Yp H R R p_4 Xn (I.rd c) h.1 λa H=>Zq H R Xn R (YG (I.rd c) h.2) cq λa H=>?_
   obtain ⟨x,y,b⟩:=p_1 b
   refine kD (vs:=[Value.agg (enc k).toArray]) H Za ld R R i (q _ I.kept k x y) ?_
   rintro v w a ⟨rfl,hK⟩ H
   have I:=I.keep hK
   refine Ze ?_
   refine c_if H R b ?_ ?_
   ·intro l b
    refine Zb (Zd H R λa H=>Zc H R λa H=>Ze ?_)
    obtain rfl:=j _ (ois b)
    obtain rfl:=o_1 f
    exact p_3 (Xa (ZJ (ZJ (Xa (ZJ (ZJ (kr1 H R R I.kept)))))))
   intro l b
   refine u_2 (Yy (ZA (t_1 (Zn H R R R λa H=>Zd H R λa H=>Zj (Zk ?_)))))
   exact ⟨_,ois b,H.s,I⟩
  intro u b
  refine s_4 (Zu (Zu (YE ?_)))
  obtain rfl:=j _ (ois b)
  refine Zk ?_
  exact ⟨(),R,H.sub trivial,I⟩
 rintro a w ⟨B,ht,H,I⟩
 subst ht
 have f:=KT f
 refine ZA (Zb (Zc H R λa H=>Ze ?_))
 obtain rfl:=o_1 f
 exact p_3 (kr1 H R R I.kept)
def Yn (b : List GEvent) (c : GEvent → Option (Bool)) : Option (Bool) :=
 (Y1 b c).bind λd=>some (decide (d ≥ 0))
theorem Wp (d : World) (i : List GEvent) (b : Value) (c : Ro d i [b]) (j : GEvent → Option (Bool)) (h : Nat) (q1 : List Value) (f : Callable prog h) (k : ∀ (e : World),Kept (Old d) d e → ∀ (m : GEvent) (zr : Bool),j m = some zr → Calls prog h ([Value.agg (enc m).toArray] ++ q1).toArray e (λen n=>∃ v,en = .returned v ∧ (v = (vT zr) ∧ Kept (Old e) e n))) (r : Bool) (J : Yn i j = some r) :
  Calls prog 157 [b,Value.func (.func h) #[] q1.toArray].toArray d (Rt d (vT r)):=by
 refine ce func157 ?_
 intro a H
 have I:=M.start d
 unfold Yn at J
 refine Zb (Zc H R λa H=>Ze (Zb (Zd H R λa H=>Zd H R λa H=>?_)))
 obtain ⟨o,q,J⟩:=p_1 J
 refine c_k H I R (cbm func248) (Qi _ i b (I.rdo c) j h q1 f (λe l=>k e (I.kept.trans l)) o q) λw a I H=>?_
 refine Zn H R R R λa H=>Zc H R λa H=>Ze ?_
 obtain rfl:=o_1 J
 exact p_3 (kr1 H R R I.kept)
def Kv (b : Int) : Option (Bool) :=
 (X7 b 0 1000000).bind λc=>some c
theorem jo (b : World) (c : Int) (r : Bool) (J : Kv c = some r) :
  Calls prog 249 [vI c].toArray b (Rt b (vT r)):=by
 refine ce func249 ?_
 intro a H
 have I:=M.start b
 unfold Kv at J
 refine Zb (Zc H R λa H=>Ze (Zb (Zd H R λa H=>?_)))
 obtain ⟨d,e,J⟩:=p_1 J
 refine c_k H I R AA (X4 _ c 0 1000000 d e) λw a I H=>?_
 refine Zc H R λa H=>Ze ?_
 obtain rfl:=o_1 J
 exact p_3 (kr1 H R R I.kept)
def Ti (b : GEvent) : Option (Bool) :=
 ((X7 b.Kind 1 4).bind λc=>if c then ((Kv b.Number).bind λd=>some d) else (some false) : Option (Bool)).bind λe=>some e
theorem By (e : World) (d : GEvent) (r : Bool) (J : Ti d = some r) :
  Calls prog 159 [Value.agg (enc d).toArray].toArray e (Rt e (vT r)):=by
 refine ce func159 ?_
 intro a H
 have I:=M.start e
 unfold Ti at J
 refine Zb (Z1 (cs:=cat [[vI d.Kind],[vI d.Number],enc d.Tag]) H I Za ld R R λn w a I H=>Zc H R λa H=>Ze ?_)
 obtain ⟨j,c,f⟩:=p_1 J
 refine ZI (λa w=>Env 11 a [(2,vT j)] ∧ M (Old e) e w []) ?_ ?_
 ·refine t_1 (Zm H R (KY) λa H=>ZB (v:=(vI d.Kind)) H R ty2 R (at_0 I.ra0) λa H=>?_)
  obtain ⟨i,k,c⟩:=p_1 c
  refine c_k H I R AA (X4 _ d.Kind 1 4 i k) λw a I H=>?_
  refine Zd H R λa H=>?_
  refine Yj i (λb=>?_) (λb=>?_)
  ·have c:=Zt c b
   refine Zi H (Zg H R (lkb R b)) dd_ R (JI) λa H=>Zz (v:=(vI d.Number)) H (Zg H R (lkb R b)) dd_ R ty2 R (at_1 I.ra0) λa H=>?_
   obtain ⟨m,h,c⟩:=p_1 c
   refine Z8 H (Zg H R (lkb R b)) dd_ R (cbm func249) (jo _ d.Number m h) ?_
   rintro v w a ⟨rfl,hK⟩ H
   have I:=I.keep hK
   refine ZH H (lkb R b) R λa H=>Zc H R λa H=>Zj ?_
   obtain rfl:=o_1 c
   refine Zk ?_
   have I:=M.fst (l:=[]) I
   exact ⟨H.s,I⟩
  have c:=Zs c b
  refine k_s H b R R R λa H=>k_s H b R R R λa H=>k_s H b R R R λa H=>Z2 H (lkb R b) R λa H=>Zc H R λa H=>Zj ?_
  obtain rfl:=o_1 c
  refine Zk ?_
  have I:=M.fst (l:=[]) I
  exact ⟨H.s,I⟩
 rintro a w ⟨H,I⟩
 obtain rfl:=o_1 f
 exact p_3 (kr1 H R R I.kept)
def Tl (b : GEvent) : Option (Bool) :=
 (Ti b).bind λc=>some (!c)
theorem yA (c : World) (b : GEvent) (r : Bool) (J : Tl b = some r) :
  Calls prog 158 [Value.agg (enc b).toArray].toArray c (Rt c (vT r)):=by
 refine ce func158 ?_
 intro a H
 have I:=M.start c
 unfold Tl at J
 refine Zb (Z1 (cs:=cat [[vI b.Kind],[vI b.Number],enc b.Tag]) H I Za ld R R λf w a I H=>Zc H R λa H=>Ze (Zb (Zq H R Xn R I.ra0 cq λa H=>?_)))
 obtain ⟨d,e,J⟩:=p_1 J
 refine c_k H I R (cbm func159) (By _ b d e) λw a I H=>?_
 refine Kp H R λa H=>Zc H R λa H=>Ze ?_
 obtain rfl:=o_1 J
 exact p_3 (kr1 H R R I.kept)
def UE (d : GVault) (b : Int) : Option (Fl Int (Fl Unit Bool)) :=
 if decide (b < (d.Records.length : Int)) then ((idx d.Records b).bind λc=>((X7 c.Number 1 (wr (d.Next - 1))).bind λe=>if !e then (some true) else (if decide (b > 0) then ((idx d.Records (wr (b - 1))).bind λf=>some (decide (f.Number ≥ c.Number))) else (some false)) : Option (Bool)).bind λh=>if h then (some (Fl.ex (Fl.ex false))) else (((Yb d.Keys).bind λi=>(X7 c.Version 0 (wr (i - 1))).bind λj=>if !j then (some true) else (if decide ((c.Label.length : Int) > 32) then (some true) else (some (decide ((c.Body.length : Int) > 200)))) : Option (Bool)).bind λk=>if k then (some (Fl.ex (Fl.ex false))) else (some (Fl.nx (wr (b + 1)))))) else (some (Fl.ex (Fl.nx ())))
def Wx (b : GVault) : Option (Bool) :=
 ((Yb b.Keys).bind λf=>(X7 f 1 8).bind λh=>if !h then (some true) else ((X7 b.Next 1 1000000).bind λc=>if !c then (some true) else (if decide ((b.Records.length : Int) > 12) then (some true) else (some (decide ((b.Events.length : Int) > 60))))) : Option (Bool)).bind λi=>if i then (some false) else ((ZQ (UE b) 0).bind λd=>d.el (λj=>(Yn b.Events (λk=>Tl k)).bind λe=>some (!e)) (λr=>some r))
theorem QJ (L : World) (t : GVault) (b : Value) (C : Ro L t.Keys [b]) (h : Value) (x : Ro L t.Records [h]) (y : Value) (T : Ro L t.Events [y]) (r : Bool) (J : Wx t = some r) :
  Calls prog 48 [vcV b h y t].toArray L (Rt L (vT r)):=by
 refine ce func48 ?_
 intro a H
 have I:=M.start L
 unfold Wx at J
 refine Zb (Z1 (cs:=cV b h y t) H I Za ld R R λZ w a I H=>Zc H R λa H=>Ze (s_2 ?_))
 obtain ⟨j3,k,U⟩:=p_1 J
 refine ZI (λa w=>Env 84 a [(1,ptr Z 0),(27,vT j3)] ∧ M (Old L) L w [raw Z (cV b h y t)]) ?_ ?_
 ·refine t_1 (Zm H R (Xw) λa H=>ZB (v:=b) H R TF R (at_0 I.ra0) λa H=>?_)
  obtain ⟨r6,e7,k⟩:=p_1 k
  refine c_k H I R zW (YJ _ t.Keys b (I.rdo C) r6 e7) λw a I H=>?_
  obtain ⟨r8,e9,k⟩:=p_1 k
  refine c_k H I R AA (X4 _ r6 1 8 r8 e9) λw a I H=>?_
  refine Kp H R λa H=>Zd H R λa H=>?_
  refine Yj (!r8) (λm=>?_) (λm=>?_)
  ·have k:=Zt k m
   refine k_s H m R R R λa H=>k_s H m R R R λa H=>k_s H m R R R λa H=>k_s H m R R R λa H=>ZH H (lkb R m) R λa H=>Zd H R λa H=>Zf H R R R dd_ λa H=>Zf H R R R dd_ λa H=>Zf H R R R dd_ λa H=>Zf H R R R dd_ λa H=>ZH H R R λa H=>Zd H R λa H=>?_
   refine Zf H R R R dd_ λa H=>Zf H R R R dd_ λa H=>Zf H R R R dd_ λa H=>Zf H R R R dd_ λa H=>ZH H R R λa H=>Zj ?_
   obtain rfl:=o_1 k
   refine Zk ?_
   exact ⟨H.s,I⟩
  have k:=Zs k m
  refine Zi H (Zg H R (lkb R m)) dd_ R (Qw) λa H=>Zz (v:=(vI t.Next)) H (Zg H R (lkb R m)) dd_ R ty2 R (at_1 I.ra0) λa H=>?_
  obtain ⟨ah,aw,k⟩:=p_1 k
  refine Z8 H (Zg H R (lkb R m)) dd_ R AA (X4 _ t.Next 1 1000000 ah aw) ?_
  rintro v w a ⟨rfl,hK⟩ H
  have I:=I.keep hK
  refine KG H (Zg H R (lkb R m)) dd_ R λa H=>Z2 H (lkb R m) R λa H=>Zd H R λa H=>?_
  refine Yj (!ah) (λn=>?_) (λn=>?_)
  ·have k:=Zt k n
   refine k_s H n R R R λa H=>k_s H n R R R λa H=>k_s H n R R R λa H=>k_s H n R R R λa H=>ZH H (lkb R n) R λa H=>Zd H R λa H=>Zf H R R R dd_ λa H=>Zf H R R R dd_ λa H=>Zf H R R R dd_ λa H=>Zf H R R R dd_ λa H=>ZH H R R λa H=>Zj ?_
   obtain rfl:=o_1 k
   refine Zk ?_
   exact ⟨H.s,I⟩
  have k:=Zs k n
  refine Zi H (Zg H R (lkb R n)) dd_ R (Ye) λa H=>Zz (v:=h) H (Zg H R (lkb R n)) dd_ R Xr R (at_2 I.ra0) λa H=>W2 H (Zg H R (lkb R n)) dd_ R o_3 (I.rd x) λa H=>Yc H (Zg H R (lkb R n)) dd_ R R R λa H=>Z2 H (lkb R n) R λa H=>Zd H R λa H=>?_
  refine Yj (decide ((t.Records.length : Int) > 12)) (λo=>?_) (λo=>?_)
  ·have k:=Zt k o
   refine k_s H o R R R λa H=>k_s H o R R R λa H=>k_s H o R R R λa H=>k_s H o R R R λa H=>ZH H (lkb R o) R λa H=>Zj ?_
   obtain rfl:=o_1 k
   refine Zk ?_
   exact ⟨H.s,I⟩
  have k:=Zs k o
  refine Zi H (Zg H R (lkb R o)) dd_ R (XA) λa H=>Zz (v:=y) H (Zg H R (lkb R o)) dd_ R T3 R (at_3 I.ra0) λa H=>W2 H (Zg H R (lkb R o)) dd_ R p_4 (I.rd T) λa H=>Yc H (Zg H R (lkb R o)) dd_ R R R λa H=>Z2 H (lkb R o) R λa H=>Zj ?_
  obtain rfl:=o_1 k
  refine Zk ?_
  exact ⟨H.s,I⟩
 rintro a w ⟨H,I⟩
 refine c_if H R U ?_ ?_
 ·intro ai U
  refine Zb (Zc H R λa H=>Ze ?_)
  obtain rfl:=o_1 U
  exact p_3 (ZJ (kr1 H R R I.kept))
 intro ai U
 refine u_2 (ZA (s_2 (Zb (Zm H R (Ye) λa H=>ZB (v:=h) H R Xr R (at_2 I.ra0) λa H=>Yu H R o_3 (I.rd x) λa H=>Zd H R λa H=>Ze ?_))))
 obtain ⟨ax,aj,B⟩:=p_1 U
 refine ZV (λa w=>∃ ak : Unit,ax = Fl.nx ak ∧ Env 84 a [(1,ptr Z 0)] ∧ M (Old L) L w [raw Z (cV b h y t)]) ?_ ?_
 ·refine p_2 ?_
  refine ZP (λ(N : Int) a w=>Env 84 a [(1,ptr Z 0),(29,h),(30,vI (t.Records.length : Int)),(31,vI N)] ∧ M (Old L) L w [raw Z (cV b h y t)]) aj ⟨H.s,I⟩ ?_
  rintro N a w ⟨H,I⟩ bb A W
  unfold UE at A
  refine Zb (Zn H R R R λa H=>Ze (s_2 ?_))
  refine c_if H R A ?_ ?_
  ·intro al A
   refine u_2 (ZA (s_2 (p_2 (Zb (Zd H R λa H=>?_)))))
   obtain ⟨d,X,A⟩:=bix A
   refine Yp H R R o_3 Yk (I.rd x) X.1 λa H=>?_
   obtain ⟨a6,am,an⟩:=Y2 x X.2 -- ^
   obtain ⟨O,aa,rfl,ad,ao⟩:=Yl am -- ^
   refine Zq H R Yk R (I.atk an (XM x X.2)) cq λa H=>Zv H I Yk λap w a I H=>Zc H R λa H=>Zl (seg:=cR O aa d) (cs':=cR O aa d) H I Za R R R Yk cq (q_1 cq cq) (ZD (cc1 (s_1 (d.Number : Int)) (cc1 (s_1 (d.Version : Int)) (cc1 (s_1 _) (cc1 (t_2 (I.rd ad)) (cc1 (t_2 (I.rd ao)) (cc1 (s_1 _) cc0))))))) (q_2 cq cq) λw a I H=>Ze (s_2 ?_)
   obtain ⟨ay,i,G⟩:=p_1 A
   refine ZI (λa w=>Env 84 a [(1,ptr Z 0),(4,ptr ap 0),(29,h),(30,vI (t.Records.length : Int)),(31,vI N),(58,vT ay)] ∧ M (Old L) L w [raw ap (cR O aa d),raw Z (cV b h y t)]) ?_ ?_
   ·obtain ⟨ab,ae,i⟩:=p_1 i
    refine Yj (!ab) (λe=>?_) (λe=>?_)
    ·have i:=Zt i e
     refine Z9 [36,37,38,39,40,41,42,43,44,45,46,47,48,49,50,51,52,53,54,55,56,57,58] Yx R R dd_ R H I (qsP (λz=>Zi z.E Za ld R (VC) (kr0 R)) (qsP (λz=>Zz (v:=(vI d.Number)) z.E Za ld R ty2 R (at_0 (z.M.ra0)) (kr0 R)) (qsP (λz=>Zi z.E Za ld R (Qw) (kr0 R)) (qsP (λz=>Zz (v:=(vI t.Next)) z.E Za ld R ty2 R (at_1 (z.M.ra1)) (kr0 R)) (qsP (v:=(vI (wr (t.Next - 1)))) (λz=>Yc z.E Za ld R R R (kr0 R)) (qsP (λz=>Z8 z.E Za ld R AA (X4 _ d.Number 1 (wr (t.Next - 1)) ab ae) (kc R)) (qsP (λz=>KG z.E Za ld R (kr0 R)) (q_m (λ_=>R) (qsP (λz=>Zf z.E R (lkb R e) R dd_ (kr0 R)) (qsP (λz=>Zf z.E R (lkb R e) R dd_ (kr0 R)) (qsP (λz=>Zf z.E R (lkb R e) R dd_ (kr0 R)) (qsP (λz=>Vv z.E R R dd_ (kr0 R)) (qsP (λz=>Vv z.E R R dd_ (kr0 R)) (qsP (λz=>Vv z.E R R dd_ (kr0 R)) (qsP (λz=>Vv z.E R R dd_ (kr0 R)) (qsP (λz=>Vv z.E R R dd_ (kr0 R)) (qsP (λz=>Vv z.E R R dd_ (kr0 R)) (qsP (λz=>Vv z.E R R dd_ (kr0 R)) (qsP (λz=>Vv z.E R R dd_ (kr0 R)) (qsP (λz=>Vv z.E R R dd_ (kr0 R)) (qsP (λz=>Vv z.E R R dd_ (kr0 R)) (qsP (λz=>Zf z.E R (lkb R e) R dd_ (kr0 R)) (qsP (λz=>Q8 z.E Za ld (lkb R e) R (kr0 R)) qs0))))))))))))))))))))))) ?_
     ·intro a w u H I
      refine Zj ?_
      obtain rfl:=o_1 i
      refine Zk ?_
      exact ⟨H.s,I⟩
    have i:=Zs i e
    refine Yj (decide (N > 0)) (λc=>?_) (λc=>?_)
    ·have i:=Zt i c
     obtain ⟨az,Y,i⟩:=bix i
     obtain ⟨a7,aq,ar⟩:=Y2 x Y.2 -- ^
     obtain ⟨bc,bd,rfl,be,bg⟩:=Yl aq -- ^
     refine Z9 [36,37,38,39,40,41,42,43,44,45,46,47,48,49,50,51,52,53,54,55,56,57,58] Yx R R dd_ R H I (qsP (λz=>Zi z.E Za ld R (VC) (kr0 R)) (qsP (λz=>Zz (v:=(vI d.Number)) z.E Za ld R ty2 R (at_0 (z.M.ra0)) (kr0 R)) (qsP (λz=>Zi z.E Za ld R (Qw) (kr0 R)) (qsP (λz=>Zz (v:=(vI t.Next)) z.E Za ld R ty2 R (at_1 (z.M.ra1)) (kr0 R)) (qsP (v:=(vI (wr (t.Next - 1)))) (λz=>Yc z.E Za ld R R R (kr0 R)) (qsP (λz=>Z8 z.E Za ld R AA (X4 _ d.Number 1 (wr (t.Next - 1)) ab ae) (kc R)) (qsP (λz=>KG z.E Za ld R (kr0 R)) (q_m (λ_=>R) (qsP (λz=>Zo z.E (Zg z.E R (lkb R e)) dd_ R (kr0 R)) (qsP (λz=>Yc z.E (Zg z.E R (lkb R e)) dd_ R R R (kr0 R)) (qsP (λz=>Zo z.E (Zg z.E R (lkb R e)) dd_ R (kr0 R)) (qsP (λz=>Zi z.E (Zg z.E R (lkb R c)) dd_ R (Ye) (kr0 R)) (qsP (λz=>Zz (v:=h) z.E (Zg z.E R (lkb R c)) dd_ R Xr R (at_2 (z.M.ra1)) (kr0 R)) (qsP (λz=>Zo z.E (Zg z.E R (lkb R c)) dd_ R (kr0 R)) (qsP (v:=(vI (wr (N - 1)))) (λz=>Yc z.E (Zg z.E R (lkb R c)) dd_ R R R (kr0 R)) (qsP (λz=>Z6 z.E (Zg z.E R (lkb R c)) dd_ R R o_3 Yk (z.M.rd x) Y.1 (kr0 R)) (qsP (λz=>Zi z.E (Zg z.E R (lkb R c)) dd_ R (VC) (kr0 R)) (qsP (λz=>Zz (v:=(vI az.Number)) z.E (Zg z.E R (lkb R c)) dd_ R ty2 R (at_0 (z.M.atk ar (XM x Y.2))) (kr0 R)) (qsP (λz=>Zi z.E (Zg z.E R (lkb R c)) dd_ R (VC) (kr0 R)) (qsP (λz=>Zz (v:=(vI d.Number)) z.E (Zg z.E R (lkb R c)) dd_ R ty2 R (at_0 (z.M.ra0)) (kr0 R)) (qsP (λz=>Yc z.E (Zg z.E R (lkb R c)) dd_ R R R (kr0 R)) (qsP (λz=>Q8 z.E (Zg z.E R (lkb R e)) dd_ (lkb R c) R (kr0 R)) (qsP (λz=>TH z.E Za ld (lkb R e) R (kr0 R)) qs0))))))))))))))))))))))) ?_
     ·intro a w u H I
      refine Zj ?_
      obtain rfl:=o_1 i
      refine Zk ?_
      exact ⟨H.s,I⟩
    have i:=Zs i c
    refine Z9 [36,37,38,39,40,41,42,43,44,45,46,47,48,49,50,51,52,53,54,55,56,57,58] Yx R R dd_ R H I (qsP (λz=>Zi z.E Za ld R (VC) (kr0 R)) (qsP (λz=>Zz (v:=(vI d.Number)) z.E Za ld R ty2 R (at_0 (z.M.ra0)) (kr0 R)) (qsP (λz=>Zi z.E Za ld R (Qw) (kr0 R)) (qsP (λz=>Zz (v:=(vI t.Next)) z.E Za ld R ty2 R (at_1 (z.M.ra1)) (kr0 R)) (qsP (v:=(vI (wr (t.Next - 1)))) (λz=>Yc z.E Za ld R R R (kr0 R)) (qsP (λz=>Z8 z.E Za ld R AA (X4 _ d.Number 1 (wr (t.Next - 1)) ab ae) (kc R)) (qsP (λz=>KG z.E Za ld R (kr0 R)) (q_m (λ_=>R) (qsP (λz=>Zo z.E (Zg z.E R (lkb R e)) dd_ R (kr0 R)) (qsP (λz=>Yc z.E (Zg z.E R (lkb R e)) dd_ R R R (kr0 R)) (qsP (λz=>Zo z.E (Zg z.E R (lkb R e)) dd_ R (kr0 R)) (qsP (λz=>Zf z.E R (lkb R c) R dd_ (kr0 R)) (qsP (λz=>Zf z.E R (lkb R c) R dd_ (kr0 R)) (qsP (λz=>Zf z.E R (lkb R c) R dd_ (kr0 R)) (qsP (λz=>Zf z.E R (lkb R c) R dd_ (kr0 R)) (qsP (λz=>Zf z.E R (lkb R c) R dd_ (kr0 R)) (qsP (λz=>Zf z.E R (lkb R c) R dd_ (kr0 R)) (qsP (λz=>Zf z.E R (lkb R c) R dd_ (kr0 R)) (qsP (λz=>Zf z.E R (lkb R c) R dd_ (kr0 R)) (qsP (λz=>Zf z.E R (lkb R c) R dd_ (kr0 R)) (qsP (λz=>Zf z.E R (lkb R c) R dd_ (kr0 R)) (qsP (λz=>TH z.E (Zg z.E R (lkb R e)) dd_ (lkb R c) R (kr0 R)) (qsP (λz=>TH z.E Za ld (lkb R e) R (kr0 R)) qs0))))))))))))))))))))))) ?_
    ·intro a w u H I
     refine Zj ?_
     obtain rfl:=o_1 i
     refine Zk ?_
     exact ⟨H.s,I⟩
   rintro a w ⟨H,I⟩
   refine c_if H R G ?_ ?_
   ·intro au G
    refine Zb (Zc H R λa H=>Ze ?_)
    obtain rfl:=W _ (ois G)
    obtain rfl:=o_1 B
    exact p_3 (ZJ (Xa (ZJ (ZJ (Xa (ZJ (ZJ (kr1 H R R I.kept))))))))
   intro au G
   refine u_2 (ZA ?_)
   obtain ⟨a0,j,K⟩:=p_1 G
   refine ZI (λa w=>Env 84 a [(1,ptr Z 0),(29,h),(30,vI (t.Records.length : Int)),(31,vI N),(78,vT a0)] ∧ M (Old L) L w [raw Z (cV b h y t)]) ?_ ?_
   ·obtain ⟨F,af,j⟩:=p_1 j
    obtain ⟨ac,ag,j⟩:=p_1 j
    refine Yj (!ac) (λf=>?_) (λf=>?_)
    ·have j:=Zt j f
     refine Z9 [59,60,61,62,63,64,65,66,67,68,69,70,71,72,73,74,75,76,77,78] Yx R R dd_ R H I (qsP (λz=>Zi z.E Za ld R (TB) (kr0 R)) (qsP (λz=>Zz (v:=(vI d.Version)) z.E Za ld R ty2 R (at_1 (z.M.ra0)) (kr0 R)) (qsP (λz=>Zi z.E Za ld R (Xw) (kr0 R)) (qsP (λz=>Zz (v:=b) z.E Za ld R TF R (at_0 (z.M.ra1)) (kr0 R)) (qsP (λz=>Z8 z.E Za ld R zW (YJ _ t.Keys b (z.M.rdo C) F af) (kc R)) (qsP (v:=(vI (wr (F - 1)))) (λz=>Yc z.E Za ld R R R (kr0 R)) (qsP (λz=>Z8 z.E Za ld R AA (X4 _ d.Version 0 (wr (F - 1)) ac ag) (kc R)) (qsP (λz=>KG z.E Za ld R (kr0 R)) (q_m (λ_=>R) (qsP (λz=>Zf z.E R (lkb R f) R dd_ (kr0 R)) (qsP (λz=>Zf z.E R (lkb R f) R dd_ (kr0 R)) (qsP (λz=>Zf z.E R (lkb R f) R dd_ (kr0 R)) (qsP (λz=>Zf z.E R (lkb R f) R dd_ (kr0 R)) (qsP (λz=>Q8 z.E Za ld (lkb R f) R (kr0 R)) (q_m (λ_=>R) (qsP (λz=>Zf z.E R R R dd_ (kr0 R)) (qsP (λz=>Zf z.E R R R dd_ (kr0 R)) (qsP (λz=>Zf z.E R R R dd_ (kr0 R)) (qsP (λz=>Zf z.E R R R dd_ (kr0 R)) (qsP (λz=>Q8 z.E Za ld R R (kr0 R)) qs0)))))))))))))))))))) ?_
     ·intro a w u H I
      refine Zj ?_
      obtain rfl:=o_1 j
      refine Zk ?_
      have I:=M.fst (l:=[_]) I.pl1
      exact ⟨H.s,I⟩
    have j:=Zs j f
    refine Yj (decide ((d.Label.length : Int) > 32)) (λq=>?_) (λq=>?_)
    ·have j:=Zt j q
     refine Z9 [59,60,61,62,63,64,65,66,67,68,69,70,71,72,73,74,75,76,77,78] Yx R R dd_ R H I (qsP (λz=>Zi z.E Za ld R (TB) (kr0 R)) (qsP (λz=>Zz (v:=(vI d.Version)) z.E Za ld R ty2 R (at_1 (z.M.ra0)) (kr0 R)) (qsP (λz=>Zi z.E Za ld R (Xw) (kr0 R)) (qsP (λz=>Zz (v:=b) z.E Za ld R TF R (at_0 (z.M.ra1)) (kr0 R)) (qsP (λz=>Z8 z.E Za ld R zW (YJ _ t.Keys b (z.M.rdo C) F af) (kc R)) (qsP (v:=(vI (wr (F - 1)))) (λz=>Yc z.E Za ld R R R (kr0 R)) (qsP (λz=>Z8 z.E Za ld R AA (X4 _ d.Version 0 (wr (F - 1)) ac ag) (kc R)) (qsP (λz=>KG z.E Za ld R (kr0 R)) (q_m (λ_=>R) (qsP (λz=>Zi z.E (Zg z.E R (lkb R f)) dd_ R (Ka) (kr0 R)) (qsP (λz=>Zz (v:=O) z.E (Zg z.E R (lkb R f)) dd_ R Wo R (at_3 (z.M.ra0)) (kr0 R)) (qsP (λz=>W2 z.E (Zg z.E R (lkb R f)) dd_ R o_2 (z.M.rd ad) (kr0 R)) (qsP (λz=>Yc z.E (Zg z.E R (lkb R f)) dd_ R R R (kr0 R)) (qsP (λz=>TH z.E Za ld (lkb R f) R (kr0 R)) (q_m (λ_=>R) (qsP (λz=>Zf z.E R (lkb R q) R dd_ (kr0 R)) (qsP (λz=>Zf z.E R (lkb R q) R dd_ (kr0 R)) (qsP (λz=>Zf z.E R (lkb R q) R dd_ (kr0 R)) (qsP (λz=>Zf z.E R (lkb R q) R dd_ (kr0 R)) (qsP (λz=>Q8 z.E Za ld (lkb R q) R (kr0 R)) qs0)))))))))))))))))))) ?_
     ·intro a w u H I
      refine Zj ?_
      obtain rfl:=o_1 j
      refine Zk ?_
      have I:=M.fst (l:=[_]) I.pl1
      exact ⟨H.s,I⟩
    have j:=Zs j q
    refine Z9 [59,60,61,62,63,64,65,66,67,68,69,70,71,72,73,74,75,76,77,78] Yx R R dd_ R H I (qsP (λz=>Zi z.E Za ld R (TB) (kr0 R)) (qsP (λz=>Zz (v:=(vI d.Version)) z.E Za ld R ty2 R (at_1 (z.M.ra0)) (kr0 R)) (qsP (λz=>Zi z.E Za ld R (Xw) (kr0 R)) (qsP (λz=>Zz (v:=b) z.E Za ld R TF R (at_0 (z.M.ra1)) (kr0 R)) (qsP (λz=>Z8 z.E Za ld R zW (YJ _ t.Keys b (z.M.rdo C) F af) (kc R)) (qsP (v:=(vI (wr (F - 1)))) (λz=>Yc z.E Za ld R R R (kr0 R)) (qsP (λz=>Z8 z.E Za ld R AA (X4 _ d.Version 0 (wr (F - 1)) ac ag) (kc R)) (qsP (λz=>KG z.E Za ld R (kr0 R)) (q_m (λ_=>R) (qsP (λz=>Zi z.E (Zg z.E R (lkb R f)) dd_ R (Ka) (kr0 R)) (qsP (λz=>Zz (v:=O) z.E (Zg z.E R (lkb R f)) dd_ R Wo R (at_3 (z.M.ra0)) (kr0 R)) (qsP (λz=>W2 z.E (Zg z.E R (lkb R f)) dd_ R o_2 (z.M.rd ad) (kr0 R)) (qsP (λz=>Yc z.E (Zg z.E R (lkb R f)) dd_ R R R (kr0 R)) (qsP (λz=>TH z.E Za ld (lkb R f) R (kr0 R)) (q_m (λ_=>R) (qsP (λz=>Zi z.E (Zg z.E R (lkb R q)) dd_ R (Qh) (kr0 R)) (qsP (λz=>Zz (v:=aa) z.E (Zg z.E R (lkb R q)) dd_ R Wo R (at_4 (z.M.ra0)) (kr0 R)) (qsP (λz=>W2 z.E (Zg z.E R (lkb R q)) dd_ R o_2 (z.M.rd ao) (kr0 R)) (qsP (λz=>Yc z.E (Zg z.E R (lkb R q)) dd_ R R R (kr0 R)) (qsP (λz=>TH z.E Za ld (lkb R q) R (kr0 R)) qs0)))))))))))))))))))) ?_
    ·intro a w u H I
     refine Zj ?_
     obtain rfl:=o_1 j
     refine Zk ?_
     have I:=M.fst (l:=[_]) I.pl1
     exact ⟨H.s,I⟩
   rintro a w ⟨H,I⟩
   refine c_if H R K ?_ ?_
   ·intro av K
    refine Zb (Zc H R λa H=>Ze ?_)
    obtain rfl:=W _ (ois K)
    obtain rfl:=o_1 B
    exact p_3 (Xa (ZJ (ZJ (Xa (ZJ (ZJ (kr1 H R R I.kept)))))))
   intro av K
   refine u_2 (Yy (ZA (t_1 (Zn H R R R λa H=>Zd H R λa H=>Zj (Zk ?_)))))
   exact ⟨_,ois K,H.s,I⟩
  intro al A
  refine s_4 (Zu (Zu (YE ?_)))
  obtain rfl:=W _ (ois A)
  refine Zk ?_
  exact ⟨(),R,H.s,I⟩
 rintro a w ⟨ak,ht,H,I⟩
 subst ht
 have B:=KT B
 refine ZA (Zb (Zm H R (XA) λa H=>ZB (v:=y) H R T3 R (at_3 I.ra0) λa H=>?_))
 obtain ⟨a1,a2,B⟩:=p_1 B
 refine c_k H I R (cbm func157) (Wp _ t.Events y (I.rdo T) (λz0=>Tl z0) 158 [] (cbm func158) (λw2 bi z0 zr zhr=>yA w2 z0 zr zhr) a1 a2) λw a I H=>?_
 refine Kp H R λa H=>Zc H R λa H=>Ze ?_
 obtain rfl:=o_1 B
 exact p_3 (kr1 H R R I.kept)
def Yz (e : List GRecord) (f : GRecord → Option (Bool)) (b : Int) : Option (Fl Int (Fl Unit Int)) :=
 if decide (b < (e.length : Int)) then ((idx e b).bind λc=>((f c)).bind λd=>if d then (some (Fl.ex (Fl.ex b))) else (some (Fl.nx (wr (b + 1))))) else (some (Fl.ex (Fl.nx ())))
def Yr (b : List GRecord) (c : GRecord → Option (Bool)) : Option (Int) :=
 (ZQ (Yz b c) 0).bind λd=>d.el (λe=>some (-1)) (λr=>some r)
theorem Wz (f : World) (A : List GRecord) (d : Value) (c : Ro f A [d]) (N : GRecord → Option (Bool)) (y : Nat) (q1 : List Value) (j : Callable prog y) (B : ∀ (i : World),Kept (Old f) f i → ∀ (z : GRecord) (k : Value) (_ : Ro i z.Label [k]) (l : Value) (_ : Ro i z.Body [l]) (zr : Bool),N z = some zr → Calls prog y ([vcR k l z] ++ q1).toArray i (λen W=>∃ v,en = .returned v ∧ (v = (vT zr) ∧ Kept (Old i) i W))) (r : Int) (J : Yr A N = some r) :
  Calls prog 292 [d,Value.func (.func y) #[] q1.toArray].toArray f (Rt f (vI r)):=by
 refine ce func292 ?_
 intro a H
 have I:=M.start f
 unfold Yr at J
 refine Zb (Zc H R λa H=>Ze (s_2 (Zb (Zd H R λa H=>Yu H R o_3 (I.rd c) λa H=>Zd H R λa H=>Ze ?_))))
 obtain ⟨X,C,h⟩:=p_1 J
 refine ZV (λa w=>∃ O : Unit,X = Fl.nx O ∧ Env 19 a [] ∧ M (Old f) f w []) ?_ ?_
 ·refine p_2 ?_
  refine ZP (λ(T : Int) a w=>Env 19 a [(0,d),(1,Value.func (.func y) #[] q1.toArray),(7,vI (A.length : Int)),(8,vI T)] ∧ M (Old f) f w []) C ⟨H.s,I⟩ ?_
  rintro T a w ⟨H,I⟩ Y b m
  unfold Yz at b
  refine Zb (Zn H R R R λa H=>Ze (s_2 ?_))
  refine c_if H R b ?_ ?_
  ·intro E b
   refine u_2 (ZA (s_2 (p_2 (Zb (Zd H R λa H=>Zc H R λa H=>Ze (Zb (Zd H R λa H=>Zd H R λa H=>Zd H R λa H=>?_)))))))
   obtain ⟨n,e,b⟩:=bix b
   refine Yp H R R o_3 Yk (I.rd c) e.1 λa H=>?_
   obtain ⟨U,o,q⟩:=Y2 c e.2 -- ^
   obtain ⟨t,u,rfl,F,G⟩:=Yl o -- ^
   refine Zq H R Yk R (I.atk q (XM c e.2)) cq λa H=>?_
   obtain ⟨K,L,b⟩:=p_1 b
   refine kD (vs:=[vcR t u n]) H Za ld R R j (B _ I.kept n t (I.rdo F) u (I.rdo G) K L) ?_
   rintro v w a ⟨rfl,hK⟩ H
   have I:=I.keep hK
   refine Ze ?_
   refine c_if H R b ?_ ?_
   ·intro x b
    refine Zb (Zd H R λa H=>Zc H R λa H=>Ze ?_)
    obtain rfl:=m _ (ois b)
    obtain rfl:=o_1 h
    exact p_3 (Xa (ZJ (ZJ (Xa (ZJ (ZJ (kr1 H R R I.kept)))))))
   intro x b
   refine u_2 (Yy (ZA (t_1 (Zn H R R R λa H=>Zd H R λa H=>Zj (Zk ?_)))))
   exact ⟨_,ois b,H.s,I⟩
  intro E b
  refine s_4 (Zu (Zu (YE ?_)))
  obtain rfl:=m _ (ois b)
  refine Zk ?_
  exact ⟨(),R,H.sub trivial,I⟩
 rintro a w ⟨O,ht,H,I⟩
 subst ht
 have h:=KT h
 refine ZA (Zb (Zc H R λa H=>Ze ?_))
 obtain rfl:=o_1 h
 exact p_3 (kr1 H R R I.kept)
def US (b : GRecord) (c : Int) : Option (Bool) :=
 some (b.Number == c)
theorem BY (d : World) (f : GRecord) (b : Value) (h : Ro d f.Label [b]) (c : Value) (i : Ro d f.Body [c]) (e : Nat) (j : Int) (k : At d e 0 ([vI j])) (l : Old d e) (r : Bool) (J : US f j = some r) :
  Calls prog 293 [vcR b c f,ptr e 0].toArray d (Rt d (vT r)):=by
 refine ce func293 ?_
 intro a H
 have I:=M.start d
 unfold US at J
 refine Zb (Z1 (cs:=cR b c f) H I Za ld R R λm w a I H=>Zc H R λa H=>Ze (Zb (Zm H R (VC) λa H=>ZB (v:=(vI f.Number)) H R ty2 R (at_0 I.ra0) λa H=>ZB (v:=(vI j)) H R ty2 R (I.atk k l) λa H=>Zn H R R R λa H=>Zc H R λa H=>Ze ?_)))
 obtain rfl:=o_1 J
 exact p_3 (kr1 H R R I.kept)
def Uc (b : GVault) (c : Int) : Option (Int) :=
 (Yr b.Records (λd=>US d c)).bind λe=>some e
theorem AO (l : World) (e : GVault) (c : Value) (o : Ro l e.Keys [c]) (b : Value) (f : Ro l e.Records [b]) (d : Value) (q : Ro l e.Events [d]) (m : Int) (r : Int) (J : Uc e m = some r) :
  Calls prog 234 [vcV c b d e,vI m].toArray l (Rt l (vI r)):=by
 refine ce func234 ?_
 intro a H
 have I:=M.start l
 unfold Uc at J
 refine Zb (Z1 (cs:=cV c b d e) H I Za ld R R λA w a I H=>Z1 (cs:=[vI m]) H I Za ld R R λu w a I H=>Zc H R λa H=>Ze (Zb (Zm H R (Ye) λa H=>ZB (v:=b) H R Xr R (at_2 I.ra1) λa H=>HQ H Za ld R λa H=>?_)))
 obtain ⟨x,y,J⟩:=p_1 J
 refine c_k H I R (cbm func292) (Wz _ e.Records b (I.rdo f) (λt=>US t m) 293 [ptr u 0] (cbm func293) (λz n t h i j k zr zhr=>BY z t h i j k u m (BG I.ra0 n (by simp [cat])) (Jp I.ra0 n (by simp [cat])) zr zhr) x y) λw a I H=>?_
 refine Zc H R λa H=>Ze ?_
 obtain rfl:=o_1 J
 exact p_3 (kr1 H R R I.kept)
def XL (b : GVault) (d : Int) : Option (Int × Int) :=
 (Wx b).bind λe=>if !e then (some (0,1)) else ((Uc b d).bind λc=>if decide (c < 0) then (some (0,4)) else (some (c,0)))
theorem TG (j : World) (i : GVault) (b : Value) (e : Ro j i.Keys [b]) (c : Value) (f : Ro j i.Records [c]) (d : Value) (h : Ro j i.Events [d]) (k : Int) (r : Int × Int) (J : XL i k = some r) :
  Calls prog 139 [vcV b c d i,vI k].toArray j (Rt j (Value.tuple [vI r.1,vI r.2].toArray)):=by
 refine ce func139 ?_
 intro a H
 have I:=M.start j
 unfold XL at J
 refine Zb (Z1 (cs:=cV b c d i) H I Za ld R R λu w a I H=>Zc H R λa H=>Zc H R λa H=>Ze (s_2 (Zb (Zq H R ZG R I.ra0 cq λa H=>?_))))
 obtain ⟨n,o,J⟩:=p_1 J
 refine c_k H I R cb48 (QJ _ i b (I.rdo e) c (I.rdo f) d (I.rdo h) n o) λw a I H=>?_
 refine Kp H R λa H=>Ze ?_
 refine c_if H R J ?_ ?_
 ·intro l J
  refine Zb (Zc H R λa H=>Zc H R λa H=>Ze ?_)
  obtain rfl:=o_1 J
  exact p_3 (ZJ (Yq H R (Zy H R) (Zy H R) ⟨_,R,R,I.kept⟩))
 intro l J
 refine u_2 (ZA (Zb (Zq H R ZG R I.ra0 cq λa H=>Zd H R λa H=>?_)))
 obtain ⟨q,t,J⟩:=p_1 J
 refine c_k H I R (cbm func234) (AO _ i b (I.rdo e) c (I.rdo f) d (I.rdo h) k q t) λw a I H=>?_
 refine Zc H R λa H=>Ze (s_2 (Zb (Zd H R λa H=>Zn H R R R λa H=>Ze ?_)))
 refine c_if H R J ?_ ?_
 ·intro m J
  refine Zb (Zc H R λa H=>Zc H R λa H=>Ze ?_)
  obtain rfl:=o_1 J
  exact p_3 (ZJ (Yq H R (Zy H R) (Zy H R) ⟨_,R,R,I.kept⟩))
 intro m J
 refine u_2 (ZA (Zb (Zd H R λa H=>Zc H R λa H=>Zc H R λa H=>Ze ?_)))
 obtain rfl:=o_1 J
 exact p_3 (Yq H R (Zy H R) (Zy H R) ⟨_,R,R,I.kept⟩)
def Q7 (e : Int) (c : Int) (b : Int × Int) : Option (Fl (Int × Int) Int) :=
 if decide (b.2 ≥ c) then (((Wy b.2).bind λ_=>(if (JG (Vj b.1 b.2) 1) == 1 then ((Wy (wr (b.2 - c))).bind λ_=>some (yx b.1 (qq e (wr (b.2 - c))))) else (some b.1) : Option (Int)).bind λd=>some d : Option (Int)).bind λf=>some (Fl.nx (f,wr (b.2 - 1)))) else (some (Fl.ex b.1))
def KH (b : Int) (c : Int) (d : Int) : Option (Int) :=
 (ZQ (Q7 c d) (b,15)).bind λe=>some e
theorem Zb4 (d : World) (y : Int) (i : Int) (j : Int) (r : Int) (J : KH y i j = some r) :
  Calls prog 214 [vI y,vI i,vI j].toArray d (Rt d (vI r)):=by
 refine ce func214 ?_
 intro a H
 have I:=M.start d
 unfold KH at J
 refine Zb (Zc H R λa H=>Ze (s_2 (Zb (Zc H R λa H=>Ze ?_))))
 obtain ⟨z,o,q⟩:=p_1 J
 refine ZV (λa w=>Env 26 a [(0,vI z)] ∧ M (Old d) d w []) ?_ ?_
 ·refine p_2 ?_
  refine ZP (λ(k : Int × Int) a w=>Env 26 a [(0,vI k.1),(1,vI i),(2,vI j),(7,vI k.2)] ∧ M (Old d) d w []) o ⟨H.s,I⟩ ?_
  rintro k a w ⟨H,I⟩ B c t
  unfold Q7 at c
  refine s_2 (Zb (Zd H R λa H=>Zd H R λa H=>Zn H R R R λa H=>Ze ?_))
  refine c_if H R c ?_ ?_
  ·intro u c
   refine u_2 (ZA ?_)
   obtain ⟨A,e,l⟩:=p_1 c
   refine ZI (λa w=>Env 26 a [(0,vI A),(1,vI i),(2,vI j),(7,vI k.2)] ∧ M (Old d) d w []) ?_ ?_
   ·refine p_2 (Zb (Zd H R λa H=>Zd H R λa H=>?_))
    obtain ⟨_,f,e⟩:=p_1 e
    have f:=VT f
    refine A2 H Za ld R R (BD _ _ f) λa H=>Zn H R R R λa H=>Zn H R R R λa H=>Ze ?_
    obtain ⟨x,b,m⟩:=p_1 e
    refine ZV (λa w=>Env 26 a [(0,vI x),(1,vI i),(2,vI j),(7,vI k.2)] ∧ M (Old d) d w []) ?_ ?_
    ·refine c_if H R b ?_ ?_
     ·intro n b
      refine t_1 (Zd H R λa H=>Zd H R λa H=>Zd H R λa H=>Zd H R λa H=>Zn H R R R λa H=>?_)
      obtain ⟨_,h,b⟩:=p_1 b
      have h:=VT h
      refine A2 H Za ld R R (Zdu _ _ h) λa H=>Zn H R R R λa H=>Zc H R λa H=>Zj ?_
      obtain rfl:=o_1 b
      refine Zk ?_
      exact ⟨H.s,I⟩
     intro n b
     refine u_2 ?_
     obtain rfl:=o_1 b
     refine Zk ?_
     exact ⟨H.s,I⟩
    rintro a w ⟨H,I⟩
    refine Yy ?_
    obtain rfl:=o_1 m
    refine Zk ?_
    exact ⟨H.s,I⟩
   rintro a w ⟨H,I⟩
   refine t_1 (Zd H R λa H=>Zn H R R R λa H=>Zc H R λa H=>Zj (Zk ?_))
   exact ⟨_,ois l,H.s,I⟩
  intro u c
  refine s_4 (Zu (Zu (YE ?_)))
  obtain rfl:=t _ (ois c)
  refine Zk ?_
  exact ⟨H.s,I⟩
 rintro a w ⟨H,I⟩
 refine ZA (Zb (Zd H R λa H=>Zc H R λa H=>Ze ?_))
 obtain rfl:=o_1 q
 exact p_3 (kr1 H R R I.kept)
def WC (d : UInt8) (e : UInt8) (b : Int × Int) : Option (Fl (Int × Int) Int) :=
 if decide (b.2 < 8) then (((Wy b.2).bind λ_=>(if ((kW e b.2) &&& 1) == 1 then ((Wy b.2).bind λ_=>some (yx b.1 (qq (bI d) b.2))) else (some b.1) : Option (Int)).bind λc=>some c : Option (Int)).bind λf=>some (Fl.nx (f,wr (b.2 + 1)))) else (some (Fl.ex b.1))
def YP (c : Int) (d : UInt8) (e : UInt8) : Option (UInt8) :=
 (ZQ (WC d e) (0,0)).bind λf=>(KH f c 8).bind λb=>some (ZC b)
theorem XJ (d : World) (f : Int) (m : UInt8) (h : UInt8) (r : UInt8) (J : YP f m h = some r) :
  Calls prog 289 [vI f,vB m,vB h].toArray d (Rt d (vB r)):=by
 refine ce func289 ?_
 intro a H
 have I:=M.start d
 unfold YP at J
 refine Zb (Zc H R λa H=>Ze (Zb (Zc H R λa H=>Ze (s_2 (Zb (Zd H R λa H=>Ze ?_))))))
 obtain ⟨B,t,i⟩:=p_1 J
 refine ZV (λa w=>Env 28 a [(0,vI f),(7,vI B)] ∧ M (Old d) d w []) ?_ ?_
 ·refine p_2 ?_
  refine ZP (λ(j : Int × Int) a w=>Env 28 a [(0,vI f),(1,vB m),(2,vB h),(7,vI j.1),(9,vI j.2)] ∧ M (Old d) d w []) t ⟨H.s,I⟩ ?_
  rintro j a w ⟨H,I⟩ E c u
  unfold WC at c
  refine Zb (Zn H R R R λa H=>Ze (s_2 ?_))
  refine c_if H R c ?_ ?_
  ·intro x c
   refine u_2 (ZA ?_)
   obtain ⟨C,e,n⟩:=p_1 c
   refine ZI (λa w=>Env 28 a [(0,vI f),(1,vB m),(2,vB h),(7,vI C),(9,vI j.2)] ∧ M (Old d) d w []) ?_ ?_
   ·refine p_2 (Zb (Zd H R λa H=>Zc H R λa H=>Ze (Zb (Zd H R λa H=>Zd H R λa H=>?_))))
    obtain ⟨_,k,e⟩:=p_1 e
    have k:=VT k
    refine A2 H Za ld R R (Zg6 _ _ k) λa H=>Zn H R R (bB_and (kW h j.2) 1) λa H=>Zn H R R (Zhm ((kW h j.2) &&& 1) 1) λa H=>Ze ?_
    obtain ⟨y,b,o⟩:=p_1 e
    refine ZV (λa w=>Env 28 a [(0,vI f),(1,vB m),(2,vB h),(7,vI y),(9,vI j.2)] ∧ M (Old d) d w []) ?_ ?_
    ·refine c_if H R b ?_ ?_
     ·intro q b
      refine t_1 (Zd H R λa H=>Zd H R λa H=>zg H Za ld R u_3 o_5 λa H=>Zd H R λa H=>?_)
      obtain ⟨_,l,b⟩:=p_1 b
      have l:=VT l
      refine A2 H Za ld R R (Zdu _ _ l) λa H=>Zn H R R R λa H=>Zc H R λa H=>Zj ?_
      obtain rfl:=o_1 b
      refine Zk ?_
      exact ⟨H.s,I⟩
     intro q b
     refine u_2 ?_
     obtain rfl:=o_1 b
     refine Zk ?_
     exact ⟨H.s,I⟩
    rintro a w ⟨H,I⟩
    refine Yy ?_
    obtain rfl:=o_1 o
    refine Zk ?_
    exact ⟨H.s,I⟩
   rintro a w ⟨H,I⟩
   refine t_1 (Zn H R R R λa H=>Zd H R λa H=>Zj (Zk ?_))
   exact ⟨_,ois n,H.s,I⟩
  intro x c
  refine s_4 (Zu (Zu (YE ?_)))
  obtain rfl:=u _ (ois c)
  refine Zk ?_
  exact ⟨H.s,I⟩
 rintro a w ⟨H,I⟩
 refine ZA (Zb (Zd H R λa H=>Zd H R λa H=>?_))
 obtain ⟨z,A,i⟩:=p_1 i
 refine c_k H I R (cbm func214) (Zb4 _ B f 8 z A) λw a I H=>?_
 refine Y5 H Za ld R o_5 u_3 λa H=>Zc H R λa H=>Ze ?_
 obtain rfl:=o_1 i
 exact p_3 (kr1 H R R I.kept)
def U6 (f : Int) (b : UInt8 × Int × UInt8) : Option (Fl (UInt8 × Int × UInt8) UInt8) :=
 if decide (b.2.1 > 0) then (((if (Int.tmod b.2.1 2) == 1 then ((YP f b.2.2 b.1).bind λc=>some c) else (some b.2.2) : Option (UInt8)).bind λd=>(YP f b.1 b.1).bind λe=>some (e,d) : Option (UInt8 × UInt8)).bind λh=>some (Fl.nx (h.1,wr (Int.tdiv b.2.1 2),h.2))) else (some (Fl.ex b.2.2))
def WZ (b : Int) (c : UInt8) (d : Int) : Option (UInt8) :=
 (ZQ (U6 b) (c,d,1)).bind λe=>some e
theorem AT (d : World) (h : Int) (z : UInt8) (A : Int) (r : UInt8) (J : WZ h z A = some r) :
  Calls prog 270 [vI h,vB z,vI A].toArray d (Rt d (vB r)):=by
 refine ce func270 ?_
 intro a H
 have I:=M.start d
 unfold WZ at J
 refine Zb (Zc H R λa H=>Ze (Zb (Zc H R λa H=>Ze ?_)))
 obtain ⟨C,l,m⟩:=p_1 J
 refine ZI (λa w=>Env 24 a [(7,vB C)] ∧ M (Old d) d w []) ?_ ?_
 ·refine p_2 ?_
  refine ZP (λ(e : UInt8 × Int × UInt8) a w=>Env 24 a [(0,vI h),(1,vB e.1),(2,vI e.2.1),(7,vB e.2.2)] ∧ M (Old d) d w []) l ⟨H.s,I⟩ ?_
  rintro e a w ⟨H,I⟩ E c n
  unfold U6 at c
  refine s_2 (Zb (Zd H R λa H=>Zn H R R R λa H=>Ze ?_))
  refine c_if H R c ?_ ?_
  ·intro o c
   refine u_2 (ZA ?_)
   obtain ⟨B,i,j⟩:=p_1 c
   refine ZI (λa w=>Env 24 a [(0,vI h),(1,vB B.1),(2,vI e.2.1),(7,vB B.2)] ∧ M (Old d) d w []) ?_ ?_
   ·refine p_2 ?_
    obtain ⟨q,b,f⟩:=p_1 i
    refine ZI (λa w=>Env 24 a [(0,vI h),(1,vB e.1),(2,vI e.2.1),(7,vB q)] ∧ M (Old d) d w []) ?_ ?_
    ·refine Zb (Zd H R λa H=>Zn H R R (Jt _ _ dd_) λa H=>Zn H R R R λa H=>Ze ?_)
     refine c_if H R b ?_ ?_
     ·intro k b
      refine t_1 (Zd H R λa H=>Zd H R λa H=>Zd H R λa H=>?_)
      obtain ⟨t,u,b⟩:=p_1 b
      refine c_k H I R yZ (XJ _ h e.2.2 e.1 t u) λw a I H=>?_
      refine Zc H R λa H=>Zj ?_
      obtain rfl:=o_1 b
      refine Zk ?_
      exact ⟨H.s,I⟩
     intro k b
     refine u_2 ?_
     obtain rfl:=o_1 b
     refine Zk ?_
     exact ⟨H.s,I⟩
    rintro a w ⟨H,I⟩
    refine t_1 (Zd H R λa H=>Zd H R λa H=>Zd H R λa H=>?_)
    obtain ⟨x,y,f⟩:=p_1 f
    refine c_k H I R yZ (XJ _ h e.1 e.1 x y) λw a I H=>?_
    refine Zc H R λa H=>Zj (Yy ?_)
    obtain rfl:=o_1 f
    refine Zk ?_
    exact ⟨H.s,I⟩
   rintro a w ⟨H,I⟩
   refine t_1 (Zd H R λa H=>Zn H R R (qg _ _ dd_) λa H=>Zc H R λa H=>Zj (Zk ?_))
   exact ⟨_,ois j,H.s,I⟩
  intro o c
  refine s_4 (Zu (Zu (YE ?_)))
  obtain rfl:=n _ (ois c)
  refine Zk ?_
  exact ⟨H.s,I⟩
 rintro a w ⟨H,I⟩
 refine Zb (Zd H R λa H=>Zc H R λa H=>Ze ?_)
 obtain rfl:=o_1 m
 exact p_3 (kr1 H R R I.kept)
def Y8 (b : Int) (c : UInt8) : Option (UInt8) :=
 (WZ b c 254).bind λd=>some d
theorem QM (b : World) (c : Int) (d : UInt8) (r : UInt8) (J : Y8 c d = some r) :
  Calls prog 201 [vI c,vB d].toArray b (Rt b (vB r)):=by
 refine ce func201 ?_
 intro a H
 have I:=M.start b
 unfold Y8 at J
 refine Zb (Zc H R λa H=>Ze (Zb (Zd H R λa H=>Zd H R λa H=>?_)))
 obtain ⟨e,f,J⟩:=p_1 J
 refine c_k H I R (cbm func270) (AT _ c d 254 e f) λw a I H=>?_
 refine Zc H R λa H=>Ze ?_
 obtain rfl:=o_1 J
 exact p_3 (kr1 H R R I.kept)
def Y4 (c : UInt8) (b : Int) : Option (UInt8) :=
 (Wy (wru (BitVec.ofInt 64 (IntKind.u64.wrap b) &&& BitVec.ofInt 64 7).toNat)).bind λ_=>(Wy (IntKind.u64.wrap (8 - (wru (BitVec.ofInt 64 (IntKind.u64.wrap b) &&& BitVec.ofInt 64 7).toNat)))).bind λ_=>some ((shlB c (wru (BitVec.ofInt 64 (IntKind.u64.wrap b) &&& BitVec.ofInt 64 7).toNat)) ||| (kW c (IntKind.u64.wrap (8 - (wru (BitVec.ofInt 64 (IntKind.u64.wrap b) &&& BitVec.ofInt 64 7).toNat)))))
theorem KK (d : World) (b : UInt8) (c : Int) (r : UInt8) (J : Y4 b c = some r) :
  Calls prog 202 [vB b,vI c].toArray d (Rt d (vB r)):=by
 refine ce func202 ?_
 intro a H
 have I:=M.start d
 unfold Y4 at J
 refine Zb (Zc H R λa H=>Ze (Zb (Zd H R λa H=>B7 H Za ld R s_5 underlying151 λa H=>Zn H R R R λa H=>Zc H R λa H=>Ze (Zb (Zd H R λa H=>Zd H R λa H=>?_)))))
 obtain ⟨_,e,J⟩:=p_1 J
 have e:=VT e
 refine A2 H Za ld R R (bB_shl _ _ e) λa H=>Zd H R λa H=>Zd H R λa H=>Zn H R R R λa H=>?_
 obtain ⟨_,f,J⟩:=p_1 J
 have f:=VT f
 refine A2 H Za ld R R (Zg6 _ _ f) λa H=>Zn H R R (bB_or (shlB b (wru (BitVec.ofInt 64 (IntKind.u64.wrap c) &&& BitVec.ofInt 64 7).toNat)) (kW b (IntKind.u64.wrap (8 - (wru (BitVec.ofInt 64 (IntKind.u64.wrap c) &&& BitVec.ofInt 64 7).toNat))))) λa H=>Zc H R λa H=>Ze ?_
 obtain rfl:=o_1 J
 exact p_3 (kr1 H R R I.kept)
def VG (b : V256 × Int) : Option (Fl (V256 × Int) V256) :=
 if decide (b.2 < 256) then ((Y8 285 (ZC b.2)).bind λc=>(Y4 c 1).bind λd=>(Y4 c 4).bind λe=>(Z4 b.1 b.2).bind λf=>some (Fl.nx ((b.1.setIfInBounds (b.2).toNat (((c ^^^ d) ^^^ e) ^^^ 90)),wr (b.2 + 1)))) else (some (Fl.ex b.1))
def Ta (c : (Vector (Vector UInt8 4) 4) × Int) (b : (Vector (Vector UInt8 4) 4) × Int) : Option (Fl ((Vector (Vector UInt8 4) 4) × Int) (Vector (Vector UInt8 4) 4)) :=
 if decide (b.2 < 4) then ((Y8 285 (ZC (yx c.2 (wr (4 + b.2))))).bind λe=>(Z4 b.1 c.2).bind λd=>(Z4 d b.2).bind λf=>some (Fl.nx ((b.1.setIfInBounds (c.2).toNat (d.setIfInBounds (b.2).toNat e)),wr (b.2 + 1)))) else (some (Fl.ex b.1))
def Tb (b : (Vector (Vector UInt8 4) 4) × Int) : Option (Fl ((Vector (Vector UInt8 4) 4) × Int) (Vector (Vector UInt8 4) 4)) :=
 if decide (b.2 < 4) then ((ZQ (Ta b) (b.1,0)).bind λc=>some (Fl.nx (c,wr (b.2 + 1)))) else (some (Fl.ex b.1))
def U9 (b : V16 × Int) : Option (Fl (V16 × Int) V16) :=
 if decide (b.2 < 16) then ((Z4 b.1 b.2).bind λc=>some (Fl.nx ((b.1.setIfInBounds (b.2).toNat (ZC (Int.tmod (wr ((wr (13 * b.2)) + 4)) 16))),wr (b.2 + 1)))) else (some (Fl.ex b.1))
def Uk (d : Int) : Option (GCipher) :=
 (ZQ (VG) ((Vector.replicate 256 (0 : UInt8)),0)).bind λe=>(ZQ (Tb) ((Vector.replicate 4 (Vector.replicate 4 (0 : UInt8))),0)).bind λb=>(ZQ (U9) ((Vector.replicate 16 (0 : UInt8)),0)).bind λc=>some (⟨285,e,b,c,d⟩ : GCipher)
theorem AK (t : World) (c : Int) (r : GCipher) (J : Uk c = some r) :
  Calls prog 109 [vI c].toArray t (Rt t (Value.agg (enc r).toArray)):=by
 refine ce func109 ?_
 intro a H
 have I:=M.start t
 unfold Uk at J
 refine Zb (Zv H I KU λC w a I H=>Ze (Zb (Zd H R λa H=>Yi (parts:=[(0,.const (vI 285)),(4,.tmp 9)]) (vs:=[(0,vI 285),(4,vI c)]) (cs:=cat [xt,enc xf,enc xe,enc xc,[vI c]]) H Za ld R R KU pl62 (Ya (pre:=[]) (seg:=[vI 0]) (seg':=xt) (post:=[enc xf,enc xe,enc xc,[vI 0]]) R cl0 R R R (Ya (pre:=[xt,enc xf,enc xe,enc xc]) (seg:=[vI 0]) (seg':=[vI c]) (post:=[]) R ck R R R YF)) λa H=>Zv H I KU λF w a I H=>Zl (seg:=cat [xt,enc xf,enc xe,enc xc,[vI c]]) (cs':=cat [xt,enc xf,enc xe,enc xc,[vI c]]) H I Za R R R KU cq (q_1 cq cq) (ZD (cc1 (s_1 (285 : Int)) (cc1 (s_1 _) (cc1 (s_1 _) (cc1 (s_1 _) (cc1 (s_1 (c : Int)) cc0)))))) (q_2 cq cq) λw a I H=>Ze (s_2 (Zb (Zd H R λa H=>Ze ?_))))))
 obtain ⟨k,aj,ak⟩:=p_1 J
 refine ZV (λa w=>Env 61 a [(2,ptr C 0),(3,ptr F 0)] ∧ M (Old t) t w [raw F (cat [xt,enc k,enc xe,enc xc,[vI c]]),raw C xj]) ?_ ?_
 ·refine p_2 ?_
  refine ZP (λ(N : V256 × Int) a w=>Env 61 a [(2,ptr C 0),(3,ptr F 0),(11,vI N.2)] ∧ M (Old t) t w [raw F (cat [xt,enc N.1,enc xe,enc xc,[vI c]]),raw C xj]) aj ⟨H.s,I⟩ ?_
  rintro N a w ⟨H,I⟩ aq h T
  unfold VG at h
  refine Zb (Zn H R R R λa H=>Ze (s_2 ?_))
  refine c_if H R h ?_ ?_
  ·intro U h
   refine u_2 (ZA (s_2 (p_2 (Zb (Zd H R λa H=>Zc H R λa H=>Ze (Zb (Zd H R λa H=>Y5 H Za ld R s_5 u_3 λa H=>?_)))))))
   obtain ⟨l,al,h⟩:=p_1 h
   refine c_k H I R Zio (QM _ 285 (ZC N.2) l al) λw a I H=>?_
   refine Zc H R λa H=>Ze (t_1 (Zd H R λa H=>Zd H R λa H=>Zd H R λa H=>?_))
   obtain ⟨o,am,h⟩:=p_1 h
   refine c_k H I R (cbm func202) (KK _ l 1 o am) λw a I H=>?_
   refine Zn H R R (Uj l o) λa H=>Zd H R λa H=>?_
   obtain ⟨y,an,h⟩:=p_1 h
   refine c_k H I R (cbm func202) (KK _ l 4 y an) λw a I H=>?_
   refine Zn H R R (Uj (l ^^^ o) y) λa H=>Zn H R R (Uj ((l ^^^ o) ^^^ y) 90) λa H=>Zm H R (yk) λa H=>?_
   obtain ⟨ar,G,h⟩:=bvx h
   refine ZR H R R p_6 ty5 G.1 λa H=>Zl (seg:=[vB (((l ^^^ o) ^^^ y) ^^^ 90)]) (cs':=cat [xt,enc (N.1.setIfInBounds (N.2).toNat (((l ^^^ o) ^^^ y) ^^^ 90)),enc xe,enc xc,[vI c]]) H I Za R R R ty5 R (J8 (o':=0 + (N.2).toNat * 1) (pre:=[xt]) (seg:=enc N.1) (post:=[enc xe,enc xc,[vI c]]) ck (Yf (v:=N.1) (x:=((l ^^^ o) ^^^ y) ^^^ 90) G.1) (by first | omega | (simp only [Flat.n] <;> omega))) (s_1 (((l ^^^ o) ^^^ y) ^^^ 90 : UInt8)) (Qu (o':=0 + (N.2).toNat * 1) (pre:=[xt]) (seg:=enc N.1) (post:=[enc xe,enc xc,[vI c]]) ck (Yf (v:=N.1) (x:=((l ^^^ o) ^^^ y) ^^^ 90) G.1) (ZS (v:=N.1) (x:=((l ^^^ o) ^^^ y) ^^^ 90) G.1) (by first | omega | (simp only [Flat.n] <;> omega))) λw a I H=>Zj (Yy (ZA (t_1 (Zn H R R R λa H=>Zd H R λa H=>Zj (Zk ?_)))))
   exact ⟨_,ois h,H.s,I⟩
  intro U h
  refine s_4 (Zu (Zu (YE ?_)))
  obtain rfl:=T _ (ois h)
  refine Zk ?_
  exact ⟨H.s,I⟩
 rintro a w ⟨H,I⟩
 refine ZA (s_2 (Zb (Zd H R λa H=>Ze ?_)))
 obtain ⟨d,W,X⟩:=p_1 ak
 refine ZV (λa w=>Env 61 a [(2,ptr C 0),(3,ptr F 0)] ∧ M (Old t) t w [raw F (cat [xt,enc k,enc d,enc xc,[vI c]]),raw C xj]) ?_ ?_
 ·refine p_2 ?_
  refine ZP (λ(m : xk × Int) a w=>Env 61 a [(2,ptr C 0),(3,ptr F 0),(29,vI m.2)] ∧ M (Old t) t w [raw F (cat [xt,enc k,enc m.1,enc xc,[vI c]]),raw C xj]) W ⟨H.s,I⟩ ?_
  rintro m a w ⟨H,I⟩ au q Y
  unfold Tb at q
  refine Zb (Zn H R R R λa H=>Ze (s_2 ?_))
  refine c_if H R q ?_ ?_
  ·intro Z q
   refine u_2 (ZA (s_2 (p_2 (Zb (Zd H R λa H=>Zc H R λa H=>Ze (Zb (Zd H R λa H=>Ze ?_)))))))
   obtain ⟨ao,aa,ab⟩:=p_1 q
   refine ZV (λa w=>Env 61 a [(2,ptr C 0),(3,ptr F 0),(29,vI m.2)] ∧ M (Old t) t w [raw F (cat [xt,enc k,enc ao,enc xc,[vI c]]),raw C xj]) ?_ ?_
   ·refine p_2 ?_
    refine ZP (λ(f : xk × Int) a w=>Env 61 a [(2,ptr C 0),(3,ptr F 0),(6,vI m.2),(29,vI m.2),(32,vI f.2)] ∧ M (Old t) t w [raw F (cat [xt,enc k,enc f.1,enc xc,[vI c]]),raw C xj]) aa ⟨H.s,I⟩ ?_
    rintro f a w ⟨H,I⟩ av b ac
    unfold Ta at b
    refine Zb (Zn H R R R λa H=>Ze (s_2 ?_))
    refine c_if H R b ?_ ?_
    ·intro ad b
     refine u_2 (ZA (s_2 (p_2 (Zb (Zd H R λa H=>Zc H R λa H=>Ze ?_)))))
     obtain ⟨A,ap,b⟩:=p_1 b
     obtain ⟨O,K,b⟩:=bvx b
     obtain ⟨aw,B,b⟩:=bvx b
     refine Z9 [35,36,37,38,39,40,41,42,43,44,45] Yx R R dd_ R H I (q_m (λ_=>R) (q_m (λ_=>R) (q_m (λ_=>R) (q_m (λ_=>R) (qsP (v:=(vI (wr (4 + f.2)))) (λz=>Yc z.E Za ld R R R (kr0 R)) (qsP (v:=(vI (yx m.2 (wr (4 + f.2))))) (λz=>Yc z.E Za ld R R R (kr0 R)) (qsP (λz=>Y5 z.E Za ld R s_5 u_3 (kr0 R)) (qsP (λz=>Z8 z.E Za ld R Zio (QM _ 285 (ZC (yx m.2 (wr (4 + f.2)))) A ap) (kc R)) (qsP (λz=>Zi z.E Za ld R (qf) (kr0 R)) (qsP (λz=>Z0 z.E Za ld R R u_4 TQ K.1 (kr0 R)) (qsP (λz=>Z0 z.E Za ld R R t_5 ty5 B.1 (kr0 R)) qs0))))))))))) ?_
     ·intro a w u H I
      refine Zl (seg:=[vB A]) (cs':=cat [xt,enc k,enc (f.1.setIfInBounds (m.2).toNat (O.setIfInBounds (f.2).toNat A)),enc xc,[vI c]]) H I Za R R R ty5 R (J8 (o':=(m.2).toNat * 4 + (0 + (f.2).toNat * 1)) (pre:=[xt,enc k]) (seg:=enc f.1) (post:=[enc xc,[vI c]]) ck (TX (o':=0 + (f.2).toNat * 1) K (Yf (v:=O) (x:=A) B.1) (by first | omega | (simp only [Flat.n] <;> omega))) (by first | omega | (simp only [Flat.n] <;> omega))) (s_1 (A : UInt8)) (Qu (o':=(m.2).toNat * 4 + (0 + (f.2).toNat * 1)) (pre:=[xt,enc k]) (seg:=enc f.1) (post:=[enc xc,[vI c]]) ck (TX (o':=0 + (f.2).toNat * 1) K (Yf (v:=O) (x:=A) B.1) (by first | omega | (simp only [Flat.n] <;> omega))) (UH (o':=0 + (f.2).toNat * 1) K (Yf (v:=O) (x:=A) B.1) (ZS (v:=O) (x:=A) B.1) (by first | omega | (simp only [Flat.n] <;> omega))) (by first | omega | (simp only [Flat.n] <;> omega))) λw a I H=>Zj (Yy (ZA (t_1 (Zn H R R R λa H=>Zd H R λa H=>Zj (Zk ?_)))))
      exact ⟨_,ois b,H.s,I⟩
    intro ad b
    refine s_4 (Zu (Zu (YE ?_)))
    obtain rfl:=ac _ (ois b)
    refine Zk ?_
    exact ⟨H.s,I⟩
   rintro a w ⟨H,I⟩
   refine Yy (ZA (t_1 (Zn H R R R λa H=>Zd H R λa H=>Zj (Zk ?_))))
   exact ⟨_,ois ab,H.s,I⟩
  intro Z q
  refine s_4 (Zu (Zu (YE ?_)))
  obtain rfl:=Y _ (ois q)
  refine Zk ?_
  exact ⟨H.s,I⟩
 rintro a w ⟨H,I⟩
 refine ZA (s_2 (Zb (Zd H R λa H=>Ze ?_)))
 obtain ⟨i,ae,af⟩:=p_1 X
 refine ZV (λa w=>Env 61 a [(2,ptr C 0),(3,ptr F 0)] ∧ M (Old t) t w [raw F (cat [xt,enc k,enc d,enc i,[vI c]]),raw C xj]) ?_ ?_
 ·refine p_2 ?_
  refine ZP (λ(e : V16 × Int) a w=>Env 61 a [(2,ptr C 0),(3,ptr F 0),(48,vI e.2)] ∧ M (Old t) t w [raw F (cat [xt,enc k,enc d,enc e.1,[vI c]]),raw C xj]) ae ⟨H.s,I⟩ ?_
  rintro e a w ⟨H,I⟩ ax j ag
  unfold U9 at j
  refine Zb (Zn H R R R λa H=>Ze (s_2 ?_))
  refine c_if H R j ?_ ?_
  ·intro ah j
   refine u_2 (ZA (s_2 (p_2 (Zb (Zd H R λa H=>Zc H R λa H=>Ze (t_1 (Zd H R λa H=>Zd H R λa H=>Zn H R R R λa H=>Zn H R R R λa H=>Zn H R R (Jt _ _ dd_) λa H=>Y5 H Za ld R s_5 u_3 λa H=>Zm H R (jO) λa H=>?_)))))))
   obtain ⟨ay,L,j⟩:=bvx j
   refine ZR H R R o_7 ty5 L.1 λa H=>Zl (seg:=[vB (ZC (Int.tmod (wr ((wr (13 * e.2)) + 4)) 16))]) (cs':=cat [xt,enc k,enc d,enc (e.1.setIfInBounds (e.2).toNat (ZC (Int.tmod (wr ((wr (13 * e.2)) + 4)) 16))),[vI c]]) H I Za R R R ty5 R (J8 (o':=0 + (e.2).toNat * 1) (pre:=[xt,enc k,enc d]) (seg:=enc e.1) (post:=[[vI c]]) ck (Yf (v:=e.1) (x:=ZC (Int.tmod (wr ((wr (13 * e.2)) + 4)) 16)) L.1) (by first | omega | (simp only [Flat.n] <;> omega))) (s_1 (ZC (Int.tmod (wr ((wr (13 * e.2)) + 4)) 16) : UInt8)) (Qu (o':=0 + (e.2).toNat * 1) (pre:=[xt,enc k,enc d]) (seg:=enc e.1) (post:=[[vI c]]) ck (Yf (v:=e.1) (x:=ZC (Int.tmod (wr ((wr (13 * e.2)) + 4)) 16)) L.1) (ZS (v:=e.1) (x:=ZC (Int.tmod (wr ((wr (13 * e.2)) + 4)) 16)) L.1) (by first | omega | (simp only [Flat.n] <;> omega))) λw a I H=>Zj (Yy (ZA (t_1 (Zn H R R R λa H=>Zd H R λa H=>Zj (Zk ?_)))))
   exact ⟨_,ois j,H.s,I⟩
  intro ah j
  refine s_4 (Zu (Zu (YE ?_)))
  obtain rfl:=ag _ (ois j)
  refine Zk ?_
  exact ⟨H.s,I⟩
 rintro a w ⟨H,I⟩
 refine ZA (Zb (Zq H R KU R I.ra0 cq λa H=>?_))
 have I:=I.pl1
 refine Zl (seg:=cat [[vI ((⟨285,k,d,i,c⟩ : GCipher).Field)],enc ((⟨285,k,d,i,c⟩ : GCipher).Box),enc ((⟨285,k,d,i,c⟩ : GCipher).Mix),enc ((⟨285,k,d,i,c⟩ : GCipher).Places),[vI ((⟨285,k,d,i,c⟩ : GCipher).Rounds)]]) (cs':=cat [[vI ((⟨285,k,d,i,c⟩ : GCipher).Field)],enc ((⟨285,k,d,i,c⟩ : GCipher).Box),enc ((⟨285,k,d,i,c⟩ : GCipher).Mix),enc ((⟨285,k,d,i,c⟩ : GCipher).Places),[vI ((⟨285,k,d,i,c⟩ : GCipher).Rounds)]]) H I Za R R R KU cq (q_1 cq cq) (ZD (cc1 (s_1 ((⟨285,k,d,i,c⟩ : GCipher).Field : Int)) (cc1 (s_1 _) (cc1 (s_1 _) (cc1 (s_1 _) (cc1 (s_1 ((⟨285,k,d,i,c⟩ : GCipher).Rounds : Int)) cc0)))))) (q_2 cq cq) λw a I H=>Ze ?_
 obtain rfl:=o_1 af
 have ai : Z7 prog _ _ (.cell 2 62) _:=ZE H R KU R I.ra0 cq R
 exact p_3 (ZY H R ai ⟨_,R,R,I.kept⟩)
def KA (b : (Vector (Vector UInt8 4) 4) × Int) : Option (Fl ((Vector (Vector UInt8 4) 4) × Int) (Vector (Vector UInt8 4) 4)) :=
 if decide (b.2 < 4) then ((Z4 b.1 b.2).bind λc=>(Z4 c b.2).bind λd=>some (Fl.nx ((b.1.setIfInBounds (b.2).toNat (c.setIfInBounds (b.2).toNat 1)),wr (b.2 + 1)))) else (some (Fl.ex b.1))
def UK : Option ((Vector (Vector UInt8 4) 4)) :=
 (ZQ (KA) ((Vector.replicate 4 (Vector.replicate 4 (0 : UInt8))),0)).bind λb=>some b
theorem z5 (h : World)  (r : xk) (J : UK  = some r) :
  Calls prog 314 [].toArray h (Rt h (Value.agg (enc r).toArray)):=by
 refine ce func314 ?_
 intro a H
 have I:=M.start h
 unfold UK at J
 refine Zb (Zv H I JQ λl w a I H=>Ze (Zb (Y6 (parts:=[]) (vs:=[]) (cs:=enc xe) H Za ld R R JQ R TQ YO λa H=>Zv H I JQ λm w a I H=>Zl (seg:=enc xe) (cs':=enc xe) H I Za R R R JQ (u_1 _) (zle flq) (s_1 _) (Zh flq) λw a I H=>Ze (s_2 (Zb (Zd H R λa H=>Ze ?_))))))
 obtain ⟨o,q,t⟩:=p_1 J
 refine ZV (λa w=>Env 13 a [(0,ptr l 0),(1,ptr m 0)] ∧ M (Old h) h w [raw m (enc o),raw l xA]) ?_ ?_
 ·refine p_2 ?_
  refine ZP (λ(f : xk × Int) a w=>Env 13 a [(0,ptr l 0),(1,ptr m 0),(4,vI f.2)] ∧ M (Old h) h w [raw m (enc f.1),raw l xA]) q ⟨H.s,I⟩ ?_
  rintro f a w ⟨H,I⟩ u b i
  unfold KA at b
  refine Zb (Zn H R R R λa H=>Ze (s_2 ?_))
  refine c_if H R b ?_ ?_
  ·intro j b
   refine u_2 (ZA (s_2 (p_2 (Zb (Zd H R λa H=>Zc H R λa H=>Ze (t_1 (Zd H R λa H=>Zd H R λa H=>?_)))))))
   obtain ⟨e,d,b⟩:=bvx b
   refine ZR H R R u_4 TQ d.1 λa H=>?_
   obtain ⟨y,c,b⟩:=bvx b
   refine ZR H R R t_5 ty5 c.1 λa H=>Zl (seg:=[vB 1]) (cs':=enc (f.1.setIfInBounds (f.2).toNat (e.setIfInBounds (f.2).toNat 1))) H I Za R R R ty5 R (TX (o':=0 + (f.2).toNat * 1) d (Yf (v:=e) (x:=1) c.1) (by first | omega | (simp only [Flat.n] <;> omega))) (s_1 (1 : UInt8)) (UH (o':=0 + (f.2).toNat * 1) d (Yf (v:=e) (x:=1) c.1) (ZS (v:=e) (x:=1) c.1) (by first | omega | (simp only [Flat.n] <;> omega))) λw a I H=>Zj (Yy (ZA (t_1 (Zn H R R R λa H=>Zd H R λa H=>Zj (Zk ?_)))))
   exact ⟨_,ois b,H.s,I⟩
  intro j b
  refine s_4 (Zu (Zu (YE ?_)))
  obtain rfl:=i _ (ois b)
  refine Zk ?_
  exact ⟨H.s,I⟩
 rintro a w ⟨H,I⟩
 refine ZA (Zb (Zq H R JQ R I.ra0 (u_1 _) λa H=>?_))
 have I:=I.pl1
 refine Zl (seg:=enc o) (cs':=enc o) H I Za R R R JQ (u_1 _) (zle flq) (s_1 _) (Zh flq) λw a I H=>Ze ?_
 obtain rfl:=o_1 t
 have k : Z7 prog _ _ (.cell 0 59) _:=ZE H R JQ R I.ra0 (u_1 _) R
 exact p_3 (ZY H R k ⟨_,R,R,I.kept⟩)
def QO (c : (Vector (Vector UInt8 4) 4) × (Vector (Vector UInt8 4) 4) × Int × UInt8) (b : Int) : Option (Fl Int Int) :=
 (if decide (b < 4) then ((Z4 c.1 b).bind λd=>(Z4 d c.2.2.1).bind λe=>some (e == 0)) else (some false) : Option (Bool)).bind λf=>if f then (some (Fl.nx (wr (b + 1)))) else (some (Fl.ex b))
def Vc (n : Int) (c : (Vector (Vector UInt8 4) 4) × (Vector (Vector UInt8 4) 4) × Int × UInt8) (f : UInt8) (b : (Vector (Vector UInt8 4) 4) × (Vector (Vector UInt8 4) 4) × Int) : Option (Fl ((Vector (Vector UInt8 4) 4) × (Vector (Vector UInt8 4) 4) × Int) ((Vector (Vector UInt8 4) 4) × (Vector (Vector UInt8 4) 4))) :=
 if decide (b.2.2 < 4) then ((Z4 b.1 c.2.2.1).bind λh=>(Z4 h b.2.2).bind λi=>(YP n i f).bind λj=>(Z4 b.2.1 c.2.2.1).bind λk=>(Z4 k b.2.2).bind λl=>(YP n l f).bind λm=>(Z4 b.1 c.2.2.1).bind λd=>(Z4 d b.2.2).bind λo=>(Z4 b.2.1 c.2.2.1).bind λe=>(Z4 e b.2.2).bind λq=>some (Fl.nx ((b.1.setIfInBounds (c.2.2.1).toNat (d.setIfInBounds (b.2.2).toNat j)),b.2.1.setIfInBounds (c.2.2.1).toNat (e.setIfInBounds (b.2.2).toNat m),wr (b.2.2 + 1)))) else (some (Fl.ex (b.1,b.2.1)))
def W5 (y : Int) (h : (Vector (Vector UInt8 4) 4) × (Vector (Vector UInt8 4) 4) × Int × UInt8) (c : (Vector (Vector UInt8 4) 4) × (Vector (Vector UInt8 4) 4) × Int) (d : UInt8) (b : (Vector (Vector UInt8 4) 4) × (Vector (Vector UInt8 4) 4) × Int) : Option (Fl ((Vector (Vector UInt8 4) 4) × (Vector (Vector UInt8 4) 4) × Int) ((Vector (Vector UInt8 4) 4) × (Vector (Vector UInt8 4) 4))) :=
 if decide (b.2.2 < 4) then (((Z4 b.1 c.2.2).bind λi=>(Z4 i b.2.2).bind λj=>(Z4 b.1 h.2.2.1).bind λk=>(Z4 k b.2.2).bind λl=>(YP y d l).bind λm=>(Z4 b.1 c.2.2).bind λe=>(Z4 e b.2.2).bind λz=>some (b.1.setIfInBounds (c.2.2).toNat (e.setIfInBounds (b.2.2).toNat (j ^^^ m))) : Option ((Vector (Vector UInt8 4) 4))).bind λn=>(Z4 b.2.1 c.2.2).bind λo=>(Z4 o b.2.2).bind λq=>(Z4 b.2.1 h.2.2.1).bind λt=>(Z4 t b.2.2).bind λu=>(YP y d u).bind λx=>(Z4 b.2.1 c.2.2).bind λf=>(Z4 f b.2.2).bind λA=>some (Fl.nx (n,b.2.1.setIfInBounds (c.2.2).toNat (f.setIfInBounds (b.2.2).toNat (q ^^^ x)),wr (b.2.2 + 1)))) else (some (Fl.ex (b.1,b.2.1)))
def Ve (k : Int) (h : (Vector (Vector UInt8 4) 4) × (Vector (Vector UInt8 4) 4) × Int × UInt8) (b : (Vector (Vector UInt8 4) 4) × (Vector (Vector UInt8 4) 4) × Int) : Option (Fl ((Vector (Vector UInt8 4) 4) × (Vector (Vector UInt8 4) 4) × Int) ((Vector (Vector UInt8 4) 4) × (Vector (Vector UInt8 4) 4))) :=
 if decide (b.2.2 < 4) then (((Z4 b.1 b.2.2).bind λi=>(Z4 i h.2.2.1).bind λc=>(if b.2.2 != h.2.2.1 then (some (c != 0)) else (some false) : Option (Bool)).bind λj=>(if j then ((ZQ (W5 k h b c) (b.1,b.2.1,0)).bind λd=>some (d.1,d.2)) else (some (b.1,b.2.1)) : Option ((Vector (Vector UInt8 4) 4) × (Vector (Vector UInt8 4) 4))).bind λe=>some (e.1,e.2) : Option ((Vector (Vector UInt8 4) 4) × (Vector (Vector UInt8 4) 4))).bind λf=>some (Fl.nx (f.1,f.2,wr (b.2.2 + 1)))) else (some (Fl.ex (b.1,b.2.1)))
def XK (j : Int) (b : (Vector (Vector UInt8 4) 4) × (Vector (Vector UInt8 4) 4) × Int × UInt8) : Option (Fl ((Vector (Vector UInt8 4) 4) × (Vector (Vector UInt8 4) 4) × Int × UInt8) (Fl ((Vector (Vector UInt8 4) 4) × UInt8) (UInt8 × (Vector (Vector UInt8 4) 4)))) :=
 if decide (b.2.2.1 < 4) then ((ZQ (QO b) b.2.2.1).bind λc=>if c == 4 then (some (Fl.ex (Fl.ex (0,Vector.replicate 4 (Vector.replicate 4 (0 : UInt8)))))) else (((Z4 b.1 b.2.2.1).bind λf=>(Z4 b.1 c).bind λk=>(Z4 b.1 c).bind λy=>(Z4 (b.1.setIfInBounds (c).toNat f) b.2.2.1).bind λz=>some ((b.1.setIfInBounds (c).toNat f).setIfInBounds (b.2.2.1).toNat k) : Option ((Vector (Vector UInt8 4) 4))).bind λe=>((Z4 b.2.1 b.2.2.1).bind λh=>(Z4 b.2.1 c).bind λl=>(Z4 b.2.1 c).bind λA=>(Z4 (b.2.1.setIfInBounds (c).toNat h) b.2.2.1).bind λB=>some ((b.2.1.setIfInBounds (c).toNat h).setIfInBounds (b.2.2.1).toNat l) : Option ((Vector (Vector UInt8 4) 4))).bind λm=>(Z4 e b.2.2.1).bind λn=>(Z4 n b.2.2.1).bind λo=>(YP j b.2.2.2 o).bind λq=>(Z4 e b.2.2.1).bind λt=>(Z4 t b.2.2.1).bind λu=>(Y8 j u).bind λx=>(ZQ (Vc j b x) (e,m,0)).bind λi=>(ZQ (Ve j b) (i.1,i.2,0)).bind λd=>some (Fl.nx (d.1,d.2,wr (b.2.2.1 + 1),q)))) else (some (Fl.ex (Fl.nx (b.2.1,b.2.2.2))))
def WK (d : Int) (e : (Vector (Vector UInt8 4) 4)) : Option (UInt8 × (Vector (Vector UInt8 4) 4)) :=
 (UK).bind λf=>(ZQ (XK d) (e,f,0,1)).bind λh=>h.el (λc=>(some (c.1,c.2) : Option ((Vector (Vector UInt8 4) 4) × UInt8)).bind λb=>some (b.2,b.1)) (λr=>some r)
theorem Ar (q : World) (p0 : Int) (p1 : xk) (r : UInt8 × xk) (J : WK p0 p1 = some r) :
  Calls prog 265 [vI p0,Value.agg (enc p1).toArray].toArray q (Rt q (Value.tuple [vB r.1,Value.agg (enc r.2).toArray].toArray)):=by
 refine ce func265 ?_
 intro a H
 have I:=M.start q
 unfold WK at J
 refine Zb (Z1 (cs:=enc p1) H I Za ld R R λB w a I H=>Zc H R λa H=>Zv H I JQ λt w a I H=>Ze (Zb ?_))
 obtain ⟨r5,e6,J⟩:=p_1 J
 refine c_k H I R (cbm func314) (z5 _  r5 e6) λw a I H=>?_
 refine Zv H I JQ λA w a I H=>Zl (seg:=enc r5) (cs':=enc r5) H I Za R R R JQ (u_1 _) (zle flq) (s_1 _) (Zh flq) λw a I H=>Zc H R λa H=>Ze (s_2 (Zb (Zd H R λa H=>Ze ?_)))
 obtain ⟨j9,c2,ay⟩:=p_1 J
 refine ZV (λa w=>∃ a2 : xk × UInt8,j9 = Fl.nx a2 ∧ Env 153 a [(5,ptr t 0),(6,ptr A 0),(7,vB a2.2)] ∧ M (Old q) q w [raw A (enc a2.1),raw t xA]) ?_ ?_
 ·refine p_2 ?_
  refine ZP (λ(b : xk × xk × Int × UInt8) a w=>Env 153 a [(0,vI p0),(3,ptr B 0),(5,ptr t 0),(6,ptr A 0),(7,vB b.2.2.2),(16,vI b.2.2.1)] ∧ M (Old q) q w [raw A (enc b.2.1),raw t xA,raw B (enc b.1)]) c2 ⟨H.s,I⟩ ?_
  rintro b a w ⟨H,I⟩ ef ah bu
  unfold XK at ah
  refine Zb (Zn H R R R λa H=>Ze (s_2 ?_))
  refine c_if H R ah ?_ ?_
  ·intro c3 ah
   refine u_2 (ZA (s_2 (p_2 (Zb (Zd H R λa H=>Zc H R λa H=>Ze (Zb (Zd H R λa H=>Zc H R λa H=>Ze ?_)))))))
   obtain ⟨aa,c4,ao⟩:=p_1 ah
   refine ZI (λa w=>Env 153 a [(0,vI p0),(3,ptr B 0),(5,ptr t 0),(6,ptr A 0),(7,vB b.2.2.2),(8,vI b.2.2.1),(9,vI aa),(16,vI b.2.2.1)] ∧ M (Old q) q w [raw A (enc b.2.1),raw t xA,raw B (enc b.1)]) ?_ ?_
   ·refine p_2 ?_
    refine ZP (λ(bs : Int) a w=>Env 153 a [(0,vI p0),(3,ptr B 0),(5,ptr t 0),(6,ptr A 0),(7,vB b.2.2.2),(8,vI b.2.2.1),(9,vI bs),(16,vI b.2.2.1)] ∧ M (Old q) q w [raw A (enc b.2.1),raw t xA,raw B (enc b.1)]) c4 ⟨H.s,I⟩ ?_
    rintro bs a w ⟨H,I⟩ eg bv c5
    unfold QO at bv
    refine s_2 ?_
    obtain ⟨dt,G,ap⟩:=p_1 bv
    refine ZI (λa w=>Env 153 a [(0,vI p0),(3,ptr B 0),(5,ptr t 0),(6,ptr A 0),(7,vB b.2.2.2),(8,vI b.2.2.1),(9,vI bs),(16,vI b.2.2.1),(29,vT dt)] ∧ M (Old q) q w [raw A (enc b.2.1),raw t xA,raw B (enc b.1)]) ?_ ?_
    ·refine t_1 (Zd H R λa H=>Zn H R R R λa H=>Zd H R λa H=>?_)
     refine Yj (decide (bs < 4)) (λi=>?_) (λi=>?_)
     ·have G:=Zt G i
      refine Zo H (Zg H R (lkb R i)) dd_ R λa H=>Zo H (Zg H R (lkb R i)) dd_ R λa H=>?_
      obtain ⟨eh,bw,G⟩:=bvx G
      refine Z0 H (Zg H R (lkb R i)) dd_ R R u_4 TQ bw.1 λa H=>?_
      obtain ⟨c6,bx,G⟩:=bvx G
      refine Z0 H (Zg H R (lkb R i)) dd_ R R t_5 ty5 bx.1 λa H=>Zz (v:=(vB c6)) H (Zg H R (lkb R i)) dd_ R ty5 R (At.vec (At.vec I.ra2 bw.2) bx.2) λa H=>Yc H (Zg H R (lkb R i)) dd_ R R (Zhm c6 0) λa H=>ZH H (lkb R i) R λa H=>Zj ?_
      obtain rfl:=o_1 G
      refine Zk ?_
      exact ⟨H.s,I⟩
     have G:=Zs G i
     refine k_s H i R R R λa H=>k_s H i R R R λa H=>k_s H i R R R λa H=>k_s H i R R R λa H=>k_s H i R R R λa H=>k_s H i R R R λa H=>Z2 H (lkb R i) R λa H=>Zj ?_
     obtain rfl:=o_1 G
     refine Zk ?_
     exact ⟨H.s,I⟩
    rintro a w ⟨H,I⟩
    refine c_if H R ap ?_ ?_
    ·intro c7 ap
     refine u_2 (ZA (p_2 (t_1 (Zd H R λa H=>Zn H R R R λa H=>Zc H R λa H=>Zj (Yy (Zk ?_))))))
     exact ⟨_,ois ap,H.s,I⟩
    intro c7 ap
    refine s_4 (Zu (Zu (YE ?_)))
    obtain rfl:=c5 _ (ois ap)
    refine Zk ?_
    exact ⟨H.s,I⟩
   rintro a w ⟨H,I⟩
   refine s_2 (Zb (Zd H R λa H=>Zn H R R R λa H=>Ze ?_))
   refine c_if H R ao ?_ ?_
   ·intro c8 ao
    refine Zb (Y6 (parts:=[]) (vs:=[]) (cs:=enc xe) H Za ld R R JQ R TQ YO λa H=>Zc H R λa H=>?_)
    have I:=I.pl1
    refine Zl (seg:=enc xe) (cs':=enc xe) H I Za R R R JQ (u_1 _) (zle flq) (s_1 _) (Zh flq) λw a I H=>Ze ?_
    obtain rfl:=bu _ (ois ao)
    obtain rfl:=o_1 ay
    have c9 : Z7 prog _ _ (.cell 5 59) _:=ZE H R JQ R I.ra0 (u_1 _) R
    exact p_3 (ZJ (Xa (ZJ (ZJ (Xa (ZJ (ZJ (Yq H R (Zy H R) c9 ⟨_,R,R,I.kept⟩))))))))
   intro c8 ao
   refine u_2 (ZA ?_)
   obtain ⟨cj,K,da⟩:=p_1 ao
   refine ZI (λa w=>Env 153 a [(0,vI p0),(3,ptr B 0),(5,ptr t 0),(6,ptr A 0),(7,vB b.2.2.2),(8,vI b.2.2.1),(9,vI aa),(16,vI b.2.2.1)] ∧ M (Old q) q w [raw A (enc b.2.1),raw t xA,raw B (enc cj)]) ?_ ?_
   ·have I:=I.pl2
    obtain ⟨ai,bz,K⟩:=bvx K
    obtain ⟨a3,b0,K⟩:=bvx K
    obtain ⟨ei,a4,K⟩:=bvx K
    refine Ys (its:=[raw A (enc b.2.1),raw t xA]) (mk:=([mkT 9 (raw B (enc b.1)) (raw B (enc (b.1.setIfInBounds (aa).toNat ai)))] : Mk)) [35,36,37,38,39,40,41,42,43,162] Yx R R dd_ R H (λu=>M.qT (M.q0 I.drew u)) (q_m (λ_=>R) (q_m (λ_=>R) (q_m (λ_=>R) (qsP (λz=>Z0 z.E Za ld R R u_4 TQ bz.1 (kr0 R)) (qsP (v:=(Value.agg (enc ai).toArray)) ?_ (q_m (λ_=>R) (qsP (λz=>Z0 z.E Za ld R R u_4 TQ b0.1 (kr0 R)) (qsP (v:=(Value.agg (enc a3).toArray)) ?_ (qsP (λz=>Z0 z.E Za ld R R u_4 TQ a4.1 (kr0 R)) (q_t ?_ qs0)))))))))) ?_
    ·intro a w a5 D z
     have H:=z.E
     have hD : D 4 = false:=z.F
     have I:=z.M.togA (pre:=[_,_]) (VE (j:=9) (k:=1) z.c R R R hD)
     exact Zq H R TQ R (At.vec I.ra2 bz.2) (u_1 _) λa H=>⟨p_5 _ _,_,R,H⟩
    ·intro a w a5 D z
     have H:=z.E
     have hD : D 7 = false:=z.F
     have I:=z.M.togA (pre:=[_,_]) (VE (j:=9) (k:=9) z.c R R R hD)
     exact Zq H R TQ R (At.vec I.ra2 b0.2) (u_1 _) λa H=>⟨p_5 _ _,_,R,H⟩
    ·intro a w a5 D z
     have H:=z.E
     have hD : D 9 = false:=z.F
     have I:=(z.M.togA (pre:=[_,_]) hD).pl2
     exact Zl (seg:=enc ai) (cs':=enc (b.1.setIfInBounds (aa).toNat ai)) H I Za R R R TQ (u_1 _) (Yf (v:=b.1) (x:=ai) a4.1) (s_1 _) (ZS (v:=b.1) (x:=ai) a4.1) λw a I H=>⟨undef,_,R,Env.dummy H dd_,M.qTog (mk1:=[]) (mk2:=[]) I R,trivial⟩
    intro a w a5 D H I hG aq
    have d9:=aq 9 dd_
    have I:=I.togB (pre:=[_,_]) d9
    obtain ⟨ej,a6,K⟩:=bvx K
    refine ZR H R R u_4 TQ a6.1 λa H=>?_
    have I:=I.pl2
    refine Zl (seg:=enc a3) (cs':=enc ((b.1.setIfInBounds (aa).toNat ai).setIfInBounds (b.2.2.1).toNat a3)) H I Za R R R TQ (u_1 _) (Yf (v:=(b.1.setIfInBounds (aa).toNat ai)) (x:=a3) a6.1) (s_1 _) (ZS (v:=(b.1.setIfInBounds (aa).toNat ai)) (x:=a3) a6.1) λw a I H=>Zj ?_
    obtain rfl:=o_1 K
    refine Zk ?_
    have I:=I.pl2.pl2
    exact ⟨H.s,I⟩
   rintro a w ⟨H,I⟩
   obtain ⟨dv,L,o⟩:=p_1 da
   refine ZI (λa w=>Env 153 a [(0,vI p0),(3,ptr B 0),(5,ptr t 0),(6,ptr A 0),(7,vB b.2.2.2),(8,vI b.2.2.1),(16,vI b.2.2.1)] ∧ M (Old q) q w [raw A (enc dv),raw t xA,raw B (enc cj)]) ?_ ?_
   ·obtain ⟨aj,b2,L⟩:=bvx L
    obtain ⟨a7,b4,L⟩:=bvx L
    obtain ⟨ek,a8,L⟩:=bvx L
    refine Ys (its:=[raw t xA,raw B (enc cj)]) (mk:=([mkT 9 (raw A (enc b.2.1)) (raw A (enc (b.2.1.setIfInBounds (aa).toNat aj)))] : Mk)) [45,46,47,48,49,50,51,52,53,162] Yx R R dd_ R H (λu=>M.qT (M.q0 I.drew u)) (q_m (λ_=>R) (q_m (λ_=>R) (q_m (λ_=>R) (qsP (λz=>Z0 z.E Za ld R R u_4 TQ b2.1 (kr0 R)) (qsP (v:=(Value.agg (enc aj).toArray)) ?_ (q_m (λ_=>R) (qsP (λz=>Z0 z.E Za ld R R u_4 TQ b4.1 (kr0 R)) (qsP (v:=(Value.agg (enc a7).toArray)) ?_ (qsP (λz=>Z0 z.E Za ld R R u_4 TQ a8.1 (kr0 R)) (q_t ?_ qs0)))))))))) ?_
    ·intro a w a9 D z
     have H:=z.E
     have hD : D 4 = false:=z.F
     have I:=z.M.togA (pre:=[_,_]) (VE (j:=9) (k:=1) z.c R R R hD)
     exact Zq H R TQ R (At.vec I.ra2 b2.2) (u_1 _) λa H=>⟨p_5 _ _,_,R,H⟩
    ·intro a w a9 D z
     have H:=z.E
     have hD : D 7 = false:=z.F
     have I:=z.M.togA (pre:=[_,_]) (VE (j:=9) (k:=9) z.c R R R hD)
     exact Zq H R TQ R (At.vec I.ra2 b4.2) (u_1 _) λa H=>⟨p_5 _ _,_,R,H⟩
    ·intro a w a9 D z
     have H:=z.E
     have hD : D 9 = false:=z.F
     have I:=(z.M.togA (pre:=[_,_]) hD).pl2
     exact Zl (seg:=enc aj) (cs':=enc (b.2.1.setIfInBounds (aa).toNat aj)) H I Za R R R TQ (u_1 _) (Yf (v:=b.2.1) (x:=aj) a8.1) (s_1 _) (ZS (v:=b.2.1) (x:=aj) a8.1) λw a I H=>⟨undef,_,R,Env.dummy H dd_,M.qTog (mk1:=[]) (mk2:=[]) I R,trivial⟩
    intro a w a9 D H I hG aq
    have d9:=aq 9 dd_
    have I:=I.togB (pre:=[_,_]) d9
    obtain ⟨em,ba,L⟩:=bvx L
    refine ZR H R R u_4 TQ ba.1 λa H=>?_
    have I:=I.pl2
    refine Zl (seg:=enc a7) (cs':=enc ((b.2.1.setIfInBounds (aa).toNat aj).setIfInBounds (b.2.2.1).toNat a7)) H I Za R R R TQ (u_1 _) (Yf (v:=(b.2.1.setIfInBounds (aa).toNat aj)) (x:=a7) ba.1) (s_1 _) (ZS (v:=(b.2.1.setIfInBounds (aa).toNat aj)) (x:=a7) ba.1) λw a I H=>Zj ?_
    obtain rfl:=o_1 L
    refine Zk ?_
    exact ⟨H.s,I⟩
   rintro a w ⟨H,I⟩
   refine Zb (Zd H R λa H=>Zd H R λa H=>Zd H R λa H=>Zd H R λa H=>?_)
   obtain ⟨en,b5,o⟩:=bvx o
   refine ZR H R R u_4 TQ b5.1 λa H=>?_
   obtain ⟨db,b6,o⟩:=bvx o
   refine ZR H R R t_5 ty5 b6.1 λa H=>ZB (v:=(vB db)) H R ty5 R (At.vec (At.vec I.ra2 b5.2) b6.2) λa H=>?_
   obtain ⟨ac,dw,o⟩:=p_1 o
   refine c_k H I R yZ (XJ _ p0 b.2.2.2 db ac dw) λw a I H=>?_
   refine Zc H R λa H=>Ze (Zb (Zd H R λa H=>Zd H R λa H=>Zd H R λa H=>?_))
   obtain ⟨eo,b8,o⟩:=bvx o
   refine ZR H R R u_4 TQ b8.1 λa H=>?_
   obtain ⟨dc,b9,o⟩:=bvx o
   refine ZR H R R t_5 ty5 b9.1 λa H=>ZB (v:=(vB dc)) H R ty5 R (At.vec (At.vec I.ra2 b8.2) b9.2) λa H=>?_
   obtain ⟨bt,dx,o⟩:=p_1 o
   refine c_k H I R Zio (QM _ p0 dc bt dx) λw a I H=>?_
   refine Zc H R λa H=>Ze (s_2 (Zb (Zd H R λa H=>Ze ?_)))
   obtain ⟨dd,de,dg⟩:=p_1 o
   refine ZV (λa w=>Env 153 a [(0,vI p0),(3,ptr B 0),(5,ptr t 0),(6,ptr A 0),(7,vB ac),(8,vI b.2.2.1),(16,vI b.2.2.1)] ∧ M (Old q) q w [raw A (enc dd.2),raw t xA,raw B (enc dd.1)]) ?_ ?_
   ·refine p_2 ?_
    refine ZP (λ(C : xk × xk × Int) a w=>Env 153 a [(0,vI p0),(3,ptr B 0),(5,ptr t 0),(6,ptr A 0),(7,vB ac),(8,vI b.2.2.1),(10,vB bt),(16,vI b.2.2.1),(70,vI C.2.2)] ∧ M (Old q) q w [raw A (enc C.2.1),raw t xA,raw B (enc C.1)]) de ⟨H.s,I⟩ ?_
    rintro C a w ⟨H,I⟩ ep d dh
    unfold Vc at d
    refine Zb (Zn H R R R λa H=>Ze (s_2 ?_))
    refine c_if H R d ?_ ?_
    ·intro di d
     refine u_2 (ZA (s_2 (p_2 (Zb (Zd H R λa H=>Zc H R λa H=>Ze ?_)))))
     have I:=I.pl2
     obtain ⟨dz,bb,d⟩:=bvx d
     obtain ⟨bc,bd,d⟩:=bvx d
     obtain ⟨Z,dj,d⟩:=p_1 d
     obtain ⟨d0,be,d⟩:=bvx d
     obtain ⟨ca,bg,d⟩:=bvx d
     obtain ⟨ad,dk,d⟩:=p_1 d
     obtain ⟨ar,au,d⟩:=bvx d
     obtain ⟨d1,ak,d⟩:=bvx d
     obtain ⟨az,av,d⟩:=bvx d
     refine Ys (its:=[raw A (enc C.2.1),raw t xA]) (mk:=([mkT 22 (raw B (enc C.1)) (raw B (enc (C.1.setIfInBounds (b.2.2.1).toNat (ar.setIfInBounds (C.2.2).toNat Z))))] : Mk)) [73,74,75,76,77,78,79,80,81,82,83,84,85,86,87,88,89,90,91,92,93,94,175,95] Yx R R dd_ R H (λu=>M.qT (M.q0 I.drew u)) (q_m (λ_=>R) (q_m (λ_=>R) (q_m (λ_=>R) (q_m (λ_=>R) (q_m (λ_=>R) (q_m (λ_=>R) (q_m (λ_=>R) (qsP (λz=>Z0 z.E Za ld R R u_4 TQ bb.1 (kr0 R)) (qsP (λz=>Z0 z.E Za ld R R t_5 ty5 bd.1 (kr0 R)) (qsP (v:=(vB bc)) ?_ (q_m (λ_=>R) (qsP (λz=>Z8 z.E Za ld R yZ (XJ _ p0 bc bt Z dj) (kc R)) (q_m (λ_=>R) (q_m (λ_=>R) (q_m (λ_=>R) (qsP (λz=>Z0 z.E Za ld R R u_4 TQ be.1 (kr0 R)) (qsP (λz=>Z0 z.E Za ld R R t_5 ty5 bg.1 (kr0 R)) (qsP (λz=>Zz (v:=(vB ca)) z.E Za ld R ty5 R (At.vec (At.vec (z.M.ra0) be.2) bg.2) (kr0 R)) (q_m (λ_=>R) (qsP (λz=>Z8 z.E Za ld R yZ (XJ _ p0 ca bt ad dk) (kc R)) (qsP (λz=>Z0 z.E Za ld R R u_4 TQ au.1 (kr0 R)) (qsP (λz=>Z0 z.E Za ld R R t_5 ty5 ak.1 (kr0 R)) (q_t ?_ (qsP (λz=>Z0 z.E Za ld R R u_4 TQ av.1 (kr0 R)) qs0)))))))))))))))))))))))) ?_
     ·intro a w bh D z
      have H:=z.E
      have hD : D 9 = false:=z.F
      have I:=z.M.togA (pre:=[_,_]) (VE (j:=22) (k:=12) z.c R R R hD)
      exact ZB (v:=(vB bc)) H R ty5 R (At.vec (At.vec I.ra2 bb.2) bd.2) λa H=>⟨p_5 _ _,_,R,H⟩
     ·intro a w bh D z
      have H:=z.E
      have hD : D 22 = false:=z.F
      have I:=(z.M.togA (pre:=[_,_]) hD).pl2
      exact Zl (seg:=[vB Z]) (cs':=enc (C.1.setIfInBounds (b.2.2.1).toNat (ar.setIfInBounds (C.2.2).toNat Z))) H I Za R R R ty5 R (TX (o':=0 + (C.2.2).toNat * 1) au (Yf (v:=ar) (x:=Z) ak.1) (by first | omega | (simp only [Flat.n] <;> omega))) (s_1 (Z : UInt8)) (UH (o':=0 + (C.2.2).toNat * 1) au (Yf (v:=ar) (x:=Z) ak.1) (ZS (v:=ar) (x:=Z) ak.1) (by first | omega | (simp only [Flat.n] <;> omega))) λw a I H=>⟨undef,_,R,Env.dummy H dd_,M.qTog (mk1:=[]) (mk2:=[]) I R,trivial⟩
     intro a w bh D H I hG aq
     have dy:=aq 22 dd_
     have I:=I.togB (pre:=[_,_]) dy
     obtain ⟨d2,al,d⟩:=bvx d
     refine ZR H R R t_5 ty5 al.1 λa H=>Zl (seg:=[vB ad]) (cs':=enc (C.2.1.setIfInBounds (b.2.2.1).toNat (az.setIfInBounds (C.2.2).toNat ad))) H I Za R R R ty5 R (TX (o':=0 + (C.2.2).toNat * 1) av (Yf (v:=az) (x:=ad) al.1) (by first | omega | (simp only [Flat.n] <;> omega))) (s_1 (ad : UInt8)) (UH (o':=0 + (C.2.2).toNat * 1) av (Yf (v:=az) (x:=ad) al.1) (ZS (v:=az) (x:=ad) al.1) (by first | omega | (simp only [Flat.n] <;> omega))) λw a I H=>Zj (Yy (ZA (t_1 (Zn H R R R λa H=>Zd H R λa H=>Zj (Zk ?_)))))
     exact ⟨_,ois d,H.s,I⟩
    intro di d
    refine s_4 (Zu (Zu (YE ?_)))
    obtain rfl:=dh _ (ois d)
    refine Zk ?_
    exact ⟨H.s,I⟩
   rintro a w ⟨H,I⟩
   refine ZA (Zb (Zd H R λa H=>Ze ?_))
   obtain ⟨cb,cl,cm⟩:=p_1 dg
   refine ZV (λa w=>Env 153 a [(0,vI p0),(3,ptr B 0),(5,ptr t 0),(6,ptr A 0),(7,vB ac),(16,vI b.2.2.1)] ∧ M (Old q) q w [raw A (enc cb.2),raw t xA,raw B (enc cb.1)]) ?_ ?_
   ·refine p_2 ?_
    refine ZP (λ(h : xk × xk × Int) a w=>Env 153 a [(0,vI p0),(3,ptr B 0),(5,ptr t 0),(6,ptr A 0),(7,vB ac),(8,vI b.2.2.1),(16,vI b.2.2.1),(98,vI h.2.2)] ∧ M (Old q) q w [raw A (enc h.2.1),raw t xA,raw B (enc h.1)]) cl ⟨H.s,I⟩ ?_
    rintro h a w ⟨H,I⟩ d3 W cn
    unfold Ve at W
    refine Zb (Zn H R R R λa H=>Ze (s_2 ?_))
    refine c_if H R W ?_ ?_
    ·intro co W
     refine u_2 (ZA ?_)
     obtain ⟨cc,ae,cp⟩:=p_1 W
     refine ZI (λa w=>Env 153 a [(0,vI p0),(3,ptr B 0),(5,ptr t 0),(6,ptr A 0),(7,vB ac),(8,vI b.2.2.1),(16,vI b.2.2.1),(98,vI h.2.2)] ∧ M (Old q) q w [raw A (enc cc.2),raw t xA,raw B (enc cc.1)]) ?_ ?_
     ·refine p_2 (Zb (Zd H R λa H=>Zc H R λa H=>Ze (Zb (Zd H R λa H=>Zd H R λa H=>?_))))
      obtain ⟨d4,bi,ae⟩:=bvx ae
      refine ZR H R R u_4 TQ bi.1 λa H=>?_
      obtain ⟨af,bj,ae⟩:=bvx ae
      refine ZR H R R t_5 ty5 bj.1 λa H=>ZB (v:=(vB af)) H R ty5 R (At.vec (At.vec I.ra2 bi.2) bj.2) λa H=>Zc H R λa H=>Ze ?_
      obtain ⟨dl,X,cr⟩:=p_1 ae
      refine ZI (λa w=>Env 153 a [(0,vI p0),(3,ptr B 0),(5,ptr t 0),(6,ptr A 0),(7,vB ac),(8,vI b.2.2.1),(12,vI h.2.2),(13,vB af),(16,vI b.2.2.1),(98,vI h.2.2),(112,vT dl)] ∧ M (Old q) q w [raw A (enc h.2.1),raw t xA,raw B (enc h.1)]) ?_ ?_
      ·refine t_1 (Zd H R λa H=>Zd H R λa H=>Zn H R R R λa H=>Zd H R λa H=>?_)
       refine Yj (h.2.2 != b.2.2.1) (λy=>?_) (λy=>?_)
       ·have X:=Zt X y
        refine Zo H (Zg H R (lkb R y)) dd_ R λa H=>Yc H (Zg H R (lkb R y)) dd_ R R (Zeu af 0) λa H=>ZH H (lkb R y) R λa H=>Zj ?_
        obtain rfl:=o_1 X
        refine Zk ?_
        exact ⟨H.s,I⟩
       have X:=Zs X y
       refine k_s H y R R R λa H=>k_s H y R R R λa H=>Z2 H (lkb R y) R λa H=>Zj ?_
       obtain rfl:=o_1 X
       refine Zk ?_
       exact ⟨H.s,I⟩
      rintro a w ⟨H,I⟩
      obtain ⟨cd,ag,ct⟩:=p_1 cr
      refine ZV (λa w=>Env 153 a [(0,vI p0),(3,ptr B 0),(5,ptr t 0),(6,ptr A 0),(7,vB ac),(8,vI b.2.2.1),(16,vI b.2.2.1),(98,vI h.2.2)] ∧ M (Old q) q w [raw A (enc cd.2),raw t xA,raw B (enc cd.1)]) ?_ ?_
      ·refine c_if H R ag ?_ ?_
       ·intro cu ag
        refine Zb (Zd H R λa H=>Ze ?_)
        obtain ⟨cf,cv,cw⟩:=p_1 ag
        refine ZV (λa w=>Env 153 a [(0,vI p0),(3,ptr B 0),(5,ptr t 0),(6,ptr A 0),(7,vB ac),(8,vI b.2.2.1),(16,vI b.2.2.1),(98,vI h.2.2)] ∧ M (Old q) q w [raw A (enc cf.2),raw t xA,raw B (enc cf.1)]) ?_ ?_
        ·refine p_2 ?_
         refine ZP (λ(m : xk × xk × Int) a w=>Env 153 a [(0,vI p0),(3,ptr B 0),(5,ptr t 0),(6,ptr A 0),(7,vB ac),(8,vI b.2.2.1),(12,vI h.2.2),(13,vB af),(16,vI b.2.2.1),(98,vI h.2.2),(113,vI m.2.2)] ∧ M (Old q) q w [raw A (enc m.2.1),raw t xA,raw B (enc m.1)]) cv ⟨H.s,I⟩ ?_
         rintro m a w ⟨H,I⟩ d5 Y cx
         unfold W5 at Y
         refine Zb (Zn H R R R λa H=>Ze (s_2 ?_))
         refine c_if H R Y ?_ ?_
         ·intro cy Y
          refine u_2 (ZA (s_2 (p_2 (Zb (Zd H R λa H=>Zc H R λa H=>Ze ?_)))))
          obtain ⟨dm,e,f⟩:=p_1 Y
          refine ZI (λa w=>Env 153 a [(0,vI p0),(3,ptr B 0),(5,ptr t 0),(6,ptr A 0),(7,vB ac),(8,vI b.2.2.1),(12,vI h.2.2),(13,vB af),(14,vI m.2.2),(16,vI b.2.2.1),(98,vI h.2.2),(113,vI m.2.2)] ∧ M (Old q) q w [raw A (enc m.2.1),raw t xA,raw B (enc dm)]) ?_ ?_
          ·obtain ⟨d6,bk,e⟩:=bvx e
           obtain ⟨N,bl,e⟩:=bvx e
           obtain ⟨d7,bm,e⟩:=bvx e
           obtain ⟨cg,bn,e⟩:=bvx e
           obtain ⟨O,dp,e⟩:=p_1 e
           obtain ⟨a0,aw,e⟩:=bvx e
           obtain ⟨d8,am,e⟩:=bvx e
           refine Z9 [116,117,118,119,120,121,122,123,124,125,126,127,128,129,130,131] Yx R R dd_ R H I (q_m (λ_=>R) (q_m (λ_=>R) (qsP (λz=>Z0 z.E Za ld R R u_4 TQ bk.1 (kr0 R)) (qsP (λz=>Z0 z.E Za ld R R t_5 ty5 bl.1 (kr0 R)) (qsP (λz=>Zz (v:=(vB N)) z.E Za ld R ty5 R (At.vec (At.vec (z.M.ra2) bk.2) bl.2) (kr0 R)) (q_m (λ_=>R) (q_m (λ_=>R) (q_m (λ_=>R) (q_m (λ_=>R) (qsP (λz=>Z0 z.E Za ld R R u_4 TQ bm.1 (kr0 R)) (qsP (λz=>Z0 z.E Za ld R R t_5 ty5 bn.1 (kr0 R)) (qsP (λz=>Zz (v:=(vB cg)) z.E Za ld R ty5 R (At.vec (At.vec (z.M.ra2) bm.2) bn.2) (kr0 R)) (qsP (λz=>Z8 z.E Za ld R yZ (XJ _ p0 af cg O dp) (kc R)) (qsP (v:=(vB (N ^^^ O))) (λz=>Yc z.E Za ld R R (Uj N O) (kr0 R)) (qsP (λz=>Z0 z.E Za ld R R u_4 TQ aw.1 (kr0 R)) (qsP (λz=>Z0 z.E Za ld R R t_5 ty5 am.1 (kr0 R)) qs0)))))))))))))))) ?_
           ·intro a w u H I
            have I:=I.pl2
            refine Zl (seg:=[vB (N ^^^ O)]) (cs':=enc (m.1.setIfInBounds (h.2.2).toNat (a0.setIfInBounds (m.2.2).toNat (N ^^^ O)))) H I Za R R R ty5 R (TX (o':=0 + (m.2.2).toNat * 1) aw (Yf (v:=a0) (x:=N ^^^ O) am.1) (by first | omega | (simp only [Flat.n] <;> omega))) (s_1 (N ^^^ O : UInt8)) (UH (o':=0 + (m.2.2).toNat * 1) aw (Yf (v:=a0) (x:=N ^^^ O) am.1) (ZS (v:=a0) (x:=N ^^^ O) am.1) (by first | omega | (simp only [Flat.n] <;> omega))) λw a I H=>Zj ?_
            obtain rfl:=o_1 e
            refine Zk ?_
            have I:=I.pl2.pl2
            exact ⟨H.s,I⟩
          rintro a w ⟨H,I⟩
          obtain ⟨ea,bo,f⟩:=bvx f
          obtain ⟨T,bp,f⟩:=bvx f
          obtain ⟨eb,bq,f⟩:=bvx f
          obtain ⟨ch,br,f⟩:=bvx f
          obtain ⟨U,dq,f⟩:=p_1 f
          obtain ⟨a1,ax,f⟩:=bvx f
          obtain ⟨ec,an,f⟩:=bvx f
          refine Z9 [132,133,134,135,136,137,138,139,140,141,142,143,144,145,146,147] Yx R R dd_ R H I (q_m (λ_=>R) (q_m (λ_=>R) (qsP (λz=>Z0 z.E Za ld R R u_4 TQ bo.1 (kr0 R)) (qsP (λz=>Z0 z.E Za ld R R t_5 ty5 bp.1 (kr0 R)) (qsP (λz=>Zz (v:=(vB T)) z.E Za ld R ty5 R (At.vec (At.vec (z.M.ra0) bo.2) bp.2) (kr0 R)) (q_m (λ_=>R) (q_m (λ_=>R) (q_m (λ_=>R) (q_m (λ_=>R) (qsP (λz=>Z0 z.E Za ld R R u_4 TQ bq.1 (kr0 R)) (qsP (λz=>Z0 z.E Za ld R R t_5 ty5 br.1 (kr0 R)) (qsP (λz=>Zz (v:=(vB ch)) z.E Za ld R ty5 R (At.vec (At.vec (z.M.ra0) bq.2) br.2) (kr0 R)) (qsP (λz=>Z8 z.E Za ld R yZ (XJ _ p0 af ch U dq) (kc R)) (qsP (v:=(vB (T ^^^ U))) (λz=>Yc z.E Za ld R R (Uj T U) (kr0 R)) (qsP (λz=>Z0 z.E Za ld R R u_4 TQ ax.1 (kr0 R)) (qsP (λz=>Z0 z.E Za ld R R t_5 ty5 an.1 (kr0 R)) qs0)))))))))))))))) ?_
          ·intro a w u H I
           refine Zl (seg:=[vB (T ^^^ U)]) (cs':=enc (m.2.1.setIfInBounds (h.2.2).toNat (a1.setIfInBounds (m.2.2).toNat (T ^^^ U)))) H I Za R R R ty5 R (TX (o':=0 + (m.2.2).toNat * 1) ax (Yf (v:=a1) (x:=T ^^^ U) an.1) (by first | omega | (simp only [Flat.n] <;> omega))) (s_1 (T ^^^ U : UInt8)) (UH (o':=0 + (m.2.2).toNat * 1) ax (Yf (v:=a1) (x:=T ^^^ U) an.1) (ZS (v:=a1) (x:=T ^^^ U) an.1) (by first | omega | (simp only [Flat.n] <;> omega))) λw a I H=>Zj (Yy (ZA (t_1 (Zn H R R R λa H=>Zd H R λa H=>Zj (Zk ?_)))))
           exact ⟨_,ois f,H.s,I⟩
         intro cy Y
         refine s_4 (Zu (Zu (YE ?_)))
         obtain rfl:=cx _ (ois Y)
         refine Zk ?_
         exact ⟨H.s,I⟩
        rintro a w ⟨H,I⟩
        obtain rfl:=o_1 cw
        refine Zk ?_
        exact ⟨H.s,I⟩
       intro cu ag
       refine u_2 ?_
       obtain rfl:=o_1 ag
       refine Zk ?_
       exact ⟨H.s,I⟩
      rintro a w ⟨H,I⟩
      refine Yy ?_
      obtain rfl:=o_1 ct
      refine Zk ?_
      exact ⟨H.s,I⟩
     rintro a w ⟨H,I⟩
     refine t_1 (Zn H R R R λa H=>Zd H R λa H=>Zj (Zk ?_))
     exact ⟨_,ois cp,H.s,I⟩
    intro co W
    refine s_4 (Zu (Zu (YE ?_)))
    obtain rfl:=cn _ (ois W)
    refine Zk ?_
    exact ⟨H.s,I⟩
   rintro a w ⟨H,I⟩
   refine Yy (ZA (t_1 (Zn H R R R λa H=>Zd H R λa H=>Zj (Zk ?_))))
   exact ⟨_,ois cm,H.s,I⟩
  intro c3 ah
  refine s_4 (Zu (Zu (YE ?_)))
  obtain rfl:=bu _ (ois ah)
  refine Zk ?_
  have I:=M.fst (l:=[_,_]) I.pl1.pl1
  exact ⟨(b.2.1,b.2.2.2),R,H.s,I⟩
 rintro a w ⟨a2,ht,H,I⟩
 subst ht
 have ay:=KT ay
 refine ZA ?_
 obtain ⟨ci,cz,c0⟩:=p_1 ay
 refine ZI (λa w=>Env 153 a [(4,vB ci.2),(5,ptr t 0)] ∧ M (Old q) q w [raw t (enc ci.1)]) ?_ ?_
 ·refine Z9 [151,152,4] Yx R R dd_ R H I (q_m (λ_=>R) (qsP (λz=>Zx z.E Za ld R JQ R (z.M.ra0) (u_1 _) (kr0 R)) (qsP (λz=>Qs z.E Za ld R (kr0 R)) qs0))) ?_
  ·intro a w u H I
   have I:=I.pl1
   refine Zl (seg:=enc a2.1) (cs':=enc a2.1) H I Za R R R JQ (u_1 _) (zle flq) (s_1 _) (Zh flq) λw a I H=>Zj ?_
   obtain rfl:=o_1 cz
   refine Zk ?_
   have I:=M.fst (l:=[_]) I
   exact ⟨H.s,I⟩
 rintro a w ⟨H,I⟩
 obtain rfl:=o_1 c0
 have c1 : Z7 prog _ _ (.cell 5 59) _:=ZE H R JQ R I.ra0 (u_1 _) R
 exact p_3 (Yq H R (Zy H R) c1 ⟨_,R,R,I.kept⟩)
def WI (d : V256) (b : V256 × Int) : Option (Fl (V256 × Int) V256) :=
 if decide (b.2 < 256) then ((Z4 d b.2).bind λc=>(Z4 b.1 (bI c)).bind λe=>some (Fl.nx ((b.1.setIfInBounds ((bI c)).toNat (ZC b.2)),wr (b.2 + 1)))) else (some (Fl.ex b.1))
def Ue (b : V256) : Option (V256) :=
 (ZQ (WI b) ((Vector.replicate 256 (0 : UInt8)),0)).bind λc=>some c
theorem A7 (e : World) (k : V256) (r : V256) (J : Ue k = some r) :
  Calls prog 266 [Value.agg (enc k).toArray].toArray e (Rt e (Value.agg (enc r).toArray)):=by
 refine ce func266 ?_
 intro a H
 have I:=M.start e
 unfold Ue at J
 refine Zb (Z1 (cs:=enc k) H I Za ld R R λA w a I H=>Zv H I Qe λm w a I H=>Ze (Zb (Y6 (parts:=[]) (vs:=[]) (cs:=enc xf) H Za ld R R Qe R ty5 YO λa H=>Zv H I Qe λn w a I H=>Zl (seg:=enc xf) (cs':=enc xf) H I Za R R R Qe (u_1 _) (zle flq) (s_1 _) (Zh flq) λw a I H=>Ze (s_2 (Zb (Zq H R Qe R I.ra2 (u_1 _) λa H=>Zd H R λa H=>Ze ?_))))))
 obtain ⟨o,q,t⟩:=p_1 J
 refine ZV (λa w=>Env 18 a [(2,ptr m 0),(3,ptr n 0)] ∧ M (Old e) e w [raw n (enc o),raw m (enc xf)]) ?_ ?_
 ·refine p_2 ?_
  have I:=M.fst (l:=[_,_]) I.pl1.pl1
  refine ZP (λ(c : V256 × Int) a w=>Env 18 a [(2,ptr m 0),(3,ptr n 0),(7,Value.agg (enc k).toArray),(8,vI c.2)] ∧ M (Old e) e w [raw n (enc c.1),raw m (enc xf)]) q ⟨H.s,I⟩ ?_
  rintro c a w ⟨H,I⟩ y b f
  unfold WI at b
  refine Zb (Zn H R R R λa H=>Ze (s_2 ?_))
  refine c_if H R b ?_ ?_
  ·intro h b
   refine u_2 (ZA (s_2 (p_2 (Zb (Zd H R λa H=>?_)))))
   obtain ⟨u,i,b⟩:=bvx b
   refine BU H Za ld R R p_6 ty5 R R i R λa H=>Zc H R λa H=>Zc H R λa H=>Ze (t_1 (Zd H R λa H=>Zd H R λa H=>Y5 H Za ld R s_5 u_3 λa H=>?_))
   obtain ⟨z,d,b⟩:=bvx b
   refine ZR H R R p_6 ty5 d.1 λa H=>Zl (seg:=[vB (ZC c.2)]) (cs':=enc (c.1.setIfInBounds ((bI u)).toNat (ZC c.2))) H I Za R R R ty5 R (Yf (v:=c.1) (x:=ZC c.2) d.1) (s_1 (ZC c.2 : UInt8)) (ZS (v:=c.1) (x:=ZC c.2) d.1) λw a I H=>Zj (Yy (ZA (t_1 (Zn H R R R λa H=>Zd H R λa H=>Zj (Zk ?_)))))
   exact ⟨_,ois b,H.s,I⟩
  intro h b
  refine s_4 (Zu (Zu (YE ?_)))
  obtain rfl:=f _ (ois b)
  refine Zk ?_
  exact ⟨H.s,I⟩
 rintro a w ⟨H,I⟩
 refine ZA (Zb (Zq H R Qe R I.ra0 (u_1 _) λa H=>?_))
 have I:=I.pl1
 refine Zl (seg:=enc o) (cs':=enc o) H I Za R R R Qe (u_1 _) (zle flq) (s_1 _) (Zh flq) λw a I H=>Ze ?_
 obtain rfl:=o_1 t
 have j : Z7 prog _ _ (.cell 2 56) _:=ZE H R Qe R I.ra0 (u_1 _) R
 exact p_3 (ZY H R j ⟨_,R,R,I.kept⟩)
def XT (d : V16) (b : V16 × Int) : Option (Fl (V16 × Int) V16) :=
 if decide (b.2 < 16) then ((Z4 d b.2).bind λc=>(Z4 b.1 (bI c)).bind λe=>some (Fl.nx ((b.1.setIfInBounds ((bI c)).toNat (ZC b.2)),wr (b.2 + 1)))) else (some (Fl.ex b.1))
def WU (b : V16) : Option (V16) :=
 (ZQ (XT b) ((Vector.replicate 16 (0 : UInt8)),0)).bind λc=>some c
theorem Bn (e : World) (k : V16) (r : V16) (J : WU k = some r) :
  Calls prog 267 [Value.agg (enc k).toArray].toArray e (Rt e (Value.agg (enc r).toArray)):=by
 refine ce func267 ?_
 intro a H
 have I:=M.start e
 unfold WU at J
 refine Zb (Z1 (cs:=enc k) H I Za ld R R λA w a I H=>Zv H I Ap λm w a I H=>Ze (Zb (Y6 (parts:=[]) (vs:=[]) (cs:=enc xc) H Za ld R R Ap R ty5 YO λa H=>Zv H I Ap λn w a I H=>Zl (seg:=enc xc) (cs':=enc xc) H I Za R R R Ap (u_1 _) (zle flq) (s_1 _) (Zh flq) λw a I H=>Ze (s_2 (Zb (Zq H R Ap R I.ra2 (u_1 _) λa H=>Zd H R λa H=>Ze ?_))))))
 obtain ⟨o,q,t⟩:=p_1 J
 refine ZV (λa w=>Env 18 a [(2,ptr m 0),(3,ptr n 0)] ∧ M (Old e) e w [raw n (enc o),raw m xl]) ?_ ?_
 ·refine p_2 ?_
  have I:=M.fst (l:=[_,_]) I.pl1.pl1
  refine ZP (λ(c : V16 × Int) a w=>Env 18 a [(2,ptr m 0),(3,ptr n 0),(7,Value.agg (enc k).toArray),(8,vI c.2)] ∧ M (Old e) e w [raw n (enc c.1),raw m xl]) q ⟨H.s,I⟩ ?_
  rintro c a w ⟨H,I⟩ y b f
  unfold XT at b
  refine Zb (Zn H R R R λa H=>Ze (s_2 ?_))
  refine c_if H R b ?_ ?_
  ·intro h b
   refine u_2 (ZA (s_2 (p_2 (Zb (Zd H R λa H=>?_)))))
   obtain ⟨u,i,b⟩:=bvx b
   refine BU H Za ld R R o_7 ty5 R R i R λa H=>Zc H R λa H=>Zc H R λa H=>Ze (t_1 (Zd H R λa H=>Zd H R λa H=>Y5 H Za ld R s_5 u_3 λa H=>?_))
   obtain ⟨z,d,b⟩:=bvx b
   refine ZR H R R o_7 ty5 d.1 λa H=>Zl (seg:=[vB (ZC c.2)]) (cs':=enc (c.1.setIfInBounds ((bI u)).toNat (ZC c.2))) H I Za R R R ty5 R (Yf (v:=c.1) (x:=ZC c.2) d.1) (s_1 (ZC c.2 : UInt8)) (ZS (v:=c.1) (x:=ZC c.2) d.1) λw a I H=>Zj (Yy (ZA (t_1 (Zn H R R R λa H=>Zd H R λa H=>Zj (Zk ?_)))))
   exact ⟨_,ois b,H.s,I⟩
  intro h b
  refine s_4 (Zu (Zu (YE ?_)))
  obtain rfl:=f _ (ois b)
  refine Zk ?_
  exact ⟨H.s,I⟩
 rintro a w ⟨H,I⟩
 refine ZA (Zb (Zq H R Ap R I.ra0 (u_1 _) λa H=>?_))
 have I:=I.pl1
 refine Zl (seg:=enc o) (cs':=enc o) H I Za R R R Ap (u_1 _) (zle flq) (s_1 _) (Zh flq) λw a I H=>Ze ?_
 obtain rfl:=o_1 t
 have j : Z7 prog _ _ (.cell 2 60) _:=ZE H R Ap R I.ra0 (u_1 _) R
 exact p_3 (ZY H R j ⟨_,R,R,I.kept⟩)
def V0 (h : (Vector (Vector V256 4) 4) × Int) (c : (Vector (Vector V256 4) 4) × Int) (d : (Vector (Vector V256 4) 4) × Int) (i : UInt8) (b : (Vector (Vector V256 4) 4) × Int) : Option (Fl ((Vector (Vector V256 4) 4) × Int) (Vector (Vector V256 4) 4)) :=
 if decide (b.2 < d.2) then ((Z4 b.1 h.2).bind λj=>(Z4 j c.2).bind λk=>(Z4 k b.2).bind λl=>(Z4 b.1 h.2).bind λe=>(Z4 e c.2).bind λf=>(Z4 f (orI d.2 b.2)).bind λm=>some (Fl.nx ((b.1.setIfInBounds (h.2).toNat (e.setIfInBounds (c.2).toNat (f.setIfInBounds ((orI d.2 b.2)).toNat (i ^^^ l)))),wr (b.2 + 1)))) else (some (Fl.ex b.1))
def VX (h : Int) (i : (Vector (Vector V256 4) 4) × Int) (c : (Vector (Vector V256 4) 4) × Int) (d : UInt8) (b : (Vector (Vector V256 4) 4) × Int) : Option (Fl ((Vector (Vector V256 4) 4) × Int) (Vector (Vector V256 4) 4)) :=
 if decide (b.2 < 256) then ((YP h d (ZC b.2)).bind λe=>(ZQ (V0 i c b e) (b.1,0)).bind λf=>some (Fl.nx (f,wr (b.2 * 2)))) else (some (Fl.ex b.1))
def VW (f : Int) (h : (Vector (Vector V256 4) 4) × Int) (c : Vector UInt8 4) (b : (Vector (Vector V256 4) 4) × Int) : Option (Fl ((Vector (Vector V256 4) 4) × Int) (Vector (Vector V256 4) 4)) :=
 if decide (b.2 < 4) then ((Z4 c b.2).bind λd=>(ZQ (VX f h b d) (b.1,1)).bind λe=>some (Fl.nx (e,wr (b.2 + 1)))) else (some (Fl.ex b.1))
def VZ (e : Int) (f : (Vector (Vector UInt8 4) 4)) (b : (Vector (Vector V256 4) 4) × Int) : Option (Fl ((Vector (Vector V256 4) 4) × Int) (Vector (Vector V256 4) 4)) :=
 if decide (b.2 < 4) then ((Z4 f b.2).bind λc=>(ZQ (VW e b c) (b.1,0)).bind λd=>some (Fl.nx (d,wr (b.2 + 1)))) else (some (Fl.ex b.1))
def Uy (b : Int) (c : (Vector (Vector UInt8 4) 4)) : Option ((Ref (Vector (Vector V256 4) 4))) :=
 (ZQ (VZ b c) ((Vector.replicate 4 (Vector.replicate 4 (Vector.replicate 256 (0 : UInt8)))),0)).bind λd=>some (⟨d⟩ : (Ref (Vector (Vector V256 4) 4)))
theorem Bf (j : World) (G : Int) (K : xk) (r : (Ref xr)) (J : Uy G K = some r) :
  Calls prog 268 [vI G,Value.agg (enc K).toArray].toArray j (e_r λv w'=>(∃ y1 : Value,v = y1 ∧ Fr j w' [own NoB (r : (Ref xr)) [y1]] ∧ Kept (Old j) j w')):=by
 refine ce func268 ?_
 intro a H
 have I:=M.start j
 unfold Uy at J
 refine Zb (Z1 (cs:=enc K) H I Za ld R R λy w a I H=>Zc H R λa H=>Ze (Zb (Y6 (parts:=[]) (vs:=[]) (cs:=enc (Vector.replicate 4 (Vector.replicate 4 xf))) H Za ld R R ty322 R km YO λa H=>Z1 (cs:=enc (Vector.replicate 4 (Vector.replicate 4 xf))) H I Za ld R R λm w a I H=>Zc H R λa H=>Ze (s_2 (Zb (Zd H R λa H=>Ze ?_))))))
 obtain ⟨j5,al,am⟩:=p_1 J
 refine ZV (λa w=>Env 62 a [(5,ptr m 0)] ∧ M (Old j) j w [raw m (enc j5)]) ?_ ?_
 ·refine p_2 ?_
  refine ZP (λ(t : xr × Int) a w=>Env 62 a [(0,vI G),(3,ptr y 0),(5,ptr m 0),(14,vI t.2)] ∧ M (Old j) j w [raw m (enc t.1),raw y (enc K)]) al ⟨H.s,I⟩ ?_
  rintro t a w ⟨H,I⟩ aw o W
  unfold VZ at o
  refine Zb (Zn H R R R λa H=>Ze (s_2 ?_))
  refine c_if H R o ?_ ?_
  ·intro X o
   refine u_2 (ZA (s_2 (p_2 (Zb (Zd H R λa H=>Zc H R λa H=>Ze (Zb (Zd H R λa H=>?_)))))))
   obtain ⟨B,N,o⟩:=bvx o
   refine ZR H R R u_4 TQ N.1 λa H=>Zq H R TQ R (At.vec I.ra1 N.2) (u_1 _) λa H=>Zd H R λa H=>Ze ?_
   obtain ⟨an,Y,Z⟩:=p_1 o
   refine ZV (λa w=>Env 62 a [(0,vI G),(3,ptr y 0),(5,ptr m 0),(14,vI t.2)] ∧ M (Old j) j w [raw m (enc an),raw y (enc K)]) ?_ ?_
   ·refine p_2 ?_
    refine ZP (λ(d : xr × Int) a w=>Env 62 a [(0,vI G),(3,ptr y 0),(5,ptr m 0),(6,vI t.2),(14,vI t.2),(19,Value.agg (enc B).toArray),(20,vI d.2)] ∧ M (Old j) j w [raw m (enc d.1),raw y (enc K)]) Y ⟨H.s,I⟩ ?_
    rintro d a w ⟨H,I⟩ ax e aa
    unfold VW at e
    refine Zb (Zn H R R R λa H=>Ze (s_2 ?_))
    refine c_if H R e ?_ ?_
    ·intro ab e
     refine u_2 (ZA (s_2 (p_2 (Zb (Zd H R λa H=>?_)))))
     obtain ⟨L,ac,e⟩:=bvx e
     refine BU H Za ld R R t_5 ty5 R R ac R λa H=>Zc H R λa H=>Zc H R λa H=>Ze (Zb (Zc H R λa H=>Ze ?_))
     obtain ⟨ao,ad,ae⟩:=p_1 e
     refine ZV (λa w=>Env 62 a [(0,vI G),(3,ptr y 0),(5,ptr m 0),(6,vI t.2),(14,vI t.2),(19,Value.agg (enc B).toArray),(20,vI d.2)] ∧ M (Old j) j w [raw m (enc ao),raw y (enc K)]) ?_ ?_
     ·refine p_2 ?_
      refine ZP (λ(c : xr × Int) a w=>Env 62 a [(0,vI G),(3,ptr y 0),(5,ptr m 0),(6,vI t.2),(7,vI d.2),(8,vB L),(9,vI c.2),(14,vI t.2),(19,Value.agg (enc B).toArray),(20,vI d.2)] ∧ M (Old j) j w [raw m (enc c.1),raw y (enc K)]) ad ⟨H.s,I⟩ ?_
      rintro c a w ⟨H,I⟩ ay f af
      unfold VX at f
      refine s_2 (Zb (Zd H R λa H=>Zn H R R R λa H=>Ze ?_))
      refine c_if H R f ?_ ?_
      ·intro ag f
       refine u_2 (ZA (s_2 (p_2 (Zb (Zd H R λa H=>Zd H R λa H=>Zd H R λa H=>Y5 H Za ld R s_5 u_3 λa H=>?_)))))
       obtain ⟨h,ap,f⟩:=p_1 f
       refine c_k H I R yZ (XJ _ G L (ZC c.2) h ap) λw a I H=>?_
       refine Zc H R λa H=>Ze (Zb (Zd H R λa H=>Zd H R λa H=>Ze ?_))
       obtain ⟨aq,ah,ai⟩:=p_1 f
       refine ZV (λa w=>Env 62 a [(0,vI G),(3,ptr y 0),(5,ptr m 0),(6,vI t.2),(7,vI d.2),(8,vB L),(9,vI c.2),(14,vI t.2),(19,Value.agg (enc B).toArray),(20,vI d.2)] ∧ M (Old j) j w [raw m (enc aq),raw y (enc K)]) ?_ ?_
       ·refine p_2 ?_
        refine ZP (λ(i : xr × Int) a w=>Env 62 a [(0,vI G),(3,ptr y 0),(5,ptr m 0),(6,vI t.2),(7,vI d.2),(8,vB L),(9,vI c.2),(10,vB h),(14,vI t.2),(19,Value.agg (enc B).toArray),(20,vI d.2),(33,vI c.2),(34,vI i.2)] ∧ M (Old j) j w [raw m (enc i.1),raw y (enc K)]) ah ⟨H.s,I⟩ ?_
        rintro i a w ⟨H,I⟩ az b aj
        unfold V0 at b
        refine Zb (Zn H R R R λa H=>Ze (s_2 ?_))
        refine c_if H R b ?_ ?_
        ·intro ak b
         refine u_2 (ZA (s_2 (p_2 (Zb (Zd H R λa H=>Zc H R λa H=>Ze ?_)))))
         obtain ⟨a0,O,b⟩:=bvx b
         obtain ⟨a1,T,b⟩:=bvx b
         obtain ⟨k,U,b⟩:=bvx b
         obtain ⟨ar,C,b⟩:=bvx b
         obtain ⟨F,A,b⟩:=bvx b
         obtain ⟨a2,q,b⟩:=bvx b
         refine Z9 [37,38,39,40,41,42,43,44,45,46,47,48,49,50,51,52,53,54,55,56,57] Yx R R dd_ R H I (q_m (λ_=>R) (q_m (λ_=>R) (q_m (λ_=>R) (q_m (λ_=>R) (q_m (λ_=>R) (qsP (v:=(vI (orI c.2 i.2))) (λz=>Yc z.E Za ld R R R (kr0 R)) (q_m (λ_=>R) (q_m (λ_=>R) (q_m (λ_=>R) (q_m (λ_=>R) (q_m (λ_=>R) (qsP (λz=>YZ z.E Za ld R (kr0 R)) (qsP (λz=>Z0 z.E Za ld R R s_6 km O.1 (kr0 R)) (qsP (λz=>Z0 z.E Za ld R R t_6 ty55 T.1 (kr0 R)) (qsP (λz=>Z0 z.E Za ld R R p_7 ty5 U.1 (kr0 R)) (qsP (λz=>Zz (v:=(vB k)) z.E Za ld R ty5 R (At.vec (At.vec (At.vec (z.M.ra0) O.2) T.2) U.2) (kr0 R)) (qsP (v:=(vB (h ^^^ k))) (λz=>Yc z.E Za ld R R (Uj h k) (kr0 R)) (qsP (λz=>YZ z.E Za ld R (kr0 R)) (qsP (λz=>Z0 z.E Za ld R R s_6 km C.1 (kr0 R)) (qsP (λz=>Z0 z.E Za ld R R t_6 ty55 A.1 (kr0 R)) (qsP (λz=>Z0 z.E Za ld R R p_7 ty5 q.1 (kr0 R)) qs0))))))))))))))))))))) ?_
         ·intro a w u H I
          refine Zl (seg:=[vB (h ^^^ k)]) (cs':=enc (i.1.setIfInBounds (t.2).toNat (ar.setIfInBounds (d.2).toNat (F.setIfInBounds ((orI c.2 i.2)).toNat (h ^^^ k))))) H I Za R R R ty5 R (TX (o':=(d.2).toNat * 256 + (0 + ((orI c.2 i.2)).toNat * 1)) C (TX (o':=0 + ((orI c.2 i.2)).toNat * 1) A (Yf (v:=F) (x:=h ^^^ k) q.1) (by first | omega | (simp only [Flat.n] <;> omega))) (by first | omega | (simp only [Flat.n] <;> omega))) (s_1 (h ^^^ k : UInt8)) (UH (o':=(d.2).toNat * 256 + (0 + ((orI c.2 i.2)).toNat * 1)) C (TX (o':=0 + ((orI c.2 i.2)).toNat * 1) A (Yf (v:=F) (x:=h ^^^ k) q.1) (by first | omega | (simp only [Flat.n] <;> omega))) (UH (o':=0 + ((orI c.2 i.2)).toNat * 1) A (Yf (v:=F) (x:=h ^^^ k) q.1) (ZS (v:=F) (x:=h ^^^ k) q.1) (by first | omega | (simp only [Flat.n] <;> omega))) (by first | omega | (simp only [Flat.n] <;> omega))) λw a I H=>Zj (Yy (ZA (t_1 (Zn H R R R λa H=>Zd H R λa H=>Zj (Zk ?_)))))
          exact ⟨_,ois b,H.s,I⟩
        intro ak b
        refine s_4 (Zu (Zu (YE ?_)))
        obtain rfl:=aj _ (ois b)
        refine Zk ?_
        exact ⟨H.s,I⟩
       rintro a w ⟨H,I⟩
       refine Yy (ZA (t_1 (Zd H R λa H=>Zn H R R R λa H=>Zc H R λa H=>Zj (Zk ?_))))
       exact ⟨_,ois ai,H.s,I⟩
      intro ag f
      refine s_4 (Zu (Zu (YE ?_)))
      obtain rfl:=af _ (ois f)
      refine Zk ?_
      exact ⟨H.s,I⟩
     rintro a w ⟨H,I⟩
     refine Yy (ZA (t_1 (Zn H R R R λa H=>Zd H R λa H=>Zj (Zk ?_))))
     exact ⟨_,ois ae,H.s,I⟩
    intro ab e
    refine s_4 (Zu (Zu (YE ?_)))
    obtain rfl:=aa _ (ois e)
    refine Zk ?_
    exact ⟨H.s,I⟩
   rintro a w ⟨H,I⟩
   refine Yy (ZA (t_1 (Zn H R R R λa H=>Zd H R λa H=>Zj (Zk ?_))))
   exact ⟨_,ois Z,H.s,I⟩
  intro X o
  refine s_4 (Zu (Zu (YE ?_)))
  obtain rfl:=W _ (ois o)
  refine Zk ?_
  have I:=M.fst (l:=[_]) I
  exact ⟨H.s,I⟩
 rintro a w ⟨H,I⟩
 refine ZA (Zb (Zd H R λa H=>Zc H R λa H=>Ze ?_))
 have I:=M.toRefF (x:=j5) I
 obtain rfl:=o_1 am
 exact p_3 (ZY H R (Zy H R) ⟨_,R,ptr m 0,R,I.outF (Ba Yd),I.kept⟩)
def Te (b : GCipher) : Option ((Ref Gengine)) :=
 (WK b.Field b.Mix).bind λf=>(Ue b.Box).bind λh=>(WU b.Places).bind λc=>(Uy b.Field b.Mix).bind λd=>(Uy b.Field f.2).bind λe=>some (⟨(⟨b.Box,h,b.Places,c,d,e,b.Rounds⟩ : Gengine)⟩ : (Ref Gengine))
theorem yy (k : World) (b : GCipher) (r : (Ref Gengine)) (J : Te b = some r) :
  Calls prog 199 [Value.agg (enc b).toArray].toArray k (e_r λv w'=>(∃ A : Value,v = A ∧ Fr k w' [own NoB r [A]] ∧ Kept (Old k) k w')):=by
 refine ce func199 ?_
 intro a H
 have I:=M.start k
 unfold Te at J
 refine Zb (Z1 (cs:=cat [[vI b.Field],enc b.Box,enc b.Mix,enc b.Places,[vI b.Rounds]]) H I Za ld R R λB w a I H=>Zc H R λa H=>Ze (Zb (Zm H R (Zax) λa H=>ZB (v:=(vI b.Field)) H R ty2 R (at_0 I.ra0) λa H=>Zm H R (qf) λa H=>Zq H R JQ R (at_2 I.ra0) (u_1 _) λa H=>?_)))
 obtain ⟨m,C,J⟩:=p_1 J
 refine c_k H I R (cbm func265) (Ar _ b.Field b.Mix m C) λw a I H=>?_
 refine Zd H R λa H=>ZF H Za ld R R λa H=>ZF H Za ld R R λa H=>Zv H I JQ λG w a I H=>Zc H R λa H=>Zl (seg:=enc m.2) (cs':=enc m.2) H I Za R R R JQ (u_1 _) (zle flq) (s_1 _) (Zh flq) λw a I H=>Ze (s_2 ?_)
 obtain ⟨e,K,J⟩:=p_1 J
 obtain ⟨d,n,J⟩:=p_1 J
 obtain ⟨h,o,J⟩:=p_1 J
 obtain ⟨i,q,J⟩:=p_1 J
 refine Ys (its:=[raw G (enc m.2),raw B (cat [[vI b.Field],enc b.Box,enc b.Mix,enc b.Places,[vI b.Rounds]])]) (mk:=([mkO 14 (λv=>own NoB (h : (Ref xr)) [v]),mkO 18 (λv=>own NoB (i : (Ref xr)) [v])] : Mk)) [13,14,15,16,17,18,19,20,21,22,23,24,25,26,27,28,29,30,31,32,33] Yx R R dd_ R H (λu=>M.qE (M.qE (M.q0 I.drew u) emO) emO) (qsP (λz=>Zi z.E Za ld R (yk) (kr0 R)) (qsP (λz=>Zx z.E Za ld R Qe R (at_1 (z.M.ra1)) (u_1 _) (kr0 R)) (qsP (λz=>Zi z.E Za ld R (yk) (kr0 R)) (qsP (λz=>Zx z.E Za ld R Qe R (at_1 (z.M.ra1)) (u_1 _) (kr0 R)) (qsP (λz=>Z8 z.E Za ld R (cbm func266) (A7 _ b.Box e K) (kc R)) (qsP (λz=>Zi z.E Za ld R (jO) (kr0 R)) (qsP (λz=>Zx z.E Za ld R Ap R (at_3 (z.M.ra1)) (u_1 _) (kr0 R)) (qsP (λz=>Zi z.E Za ld R (jO) (kr0 R)) (qsP (λz=>Zx z.E Za ld R Ap R (at_3 (z.M.ra1)) (u_1 _) (kr0 R)) (qsP (λz=>Z8 z.E Za ld R (cbm func267) (Bn _ b.Places d n) (kc R)) (qsP (λz=>Zi z.E Za ld R (Zax) (kr0 R)) (qsP (λz=>Zz (v:=(vI b.Field)) z.E Za ld R ty2 R (at_0 (z.M.ra1)) (kr0 R)) (qsP (λz=>Zi z.E Za ld R (qf) (kr0 R)) (qsP (λz=>Zx z.E Za ld R JQ R (at_2 (z.M.ra1)) (u_1 _) (kr0 R)) (q_t ?_ (qsP (λz=>Zi z.E Za ld R (Zax) (kr0 R)) (qsP (λz=>Zz (v:=(vI b.Field)) z.E Za ld R ty2 R (at_0 (z.M.ra1)) (kr0 R)) (qsP (λz=>Zx z.E Za ld R JQ R (z.M.ra0) (u_1 _) (kr0 R)) (q_t ?_ (qsP (λz=>Zi z.E Za ld R (Zdl) (kr0 R)) (qsP (λz=>Zz (v:=(vI b.Rounds)) z.E Za ld R ty2 R (at_4 (z.M.ra1)) (kr0 R)) qs0))))))))))))))))))))) ?_
 ·intro a w c D z
  have H:=z.E
  have hD : D 14 = false:=z.F
  have hM0:=z.M
  have I:=z.M
  refine Zp H R (cbm func268) (Bf _ b.Field b.Mix h o) ?_
  rintro _ w a ⟨_,rfl,hFr,hK⟩ H
  have I:=hM0.add hK hFr
  exact ⟨_,_,R,H,M.qFill (mk1:=[]) (mk2:=[_]) (f:=(λv=>own NoB (h : (Ref xr)) [v])) I R hD,trivial⟩
 ·intro a w c D z
  have H:=z.E
  have hD : D 18 = false:=z.F
  have hM0:=z.M
  have I:=z.M
  refine Zp H R (cbm func268) (Bf _ b.Field m.2 i q) ?_
  rintro _ w a ⟨_,rfl,hFr,hK⟩ H
  have I:=hM0.add hK hFr
  exact ⟨_,_,R,H,M.qFill (mk1:=[_]) (mk2:=[]) (f:=(λv=>own NoB (i : (Ref xr)) [v])) I R hD,trivial⟩
 intro a w c D H I hG j
 have t:=j 14 dd_
 have x:=j 18 dd_
 have I:=(I.sure (pre:=[_,_]) t).sure (pre:=[_,_,_]) x
 refine Yi (parts:=[(0,.tmp 14),(1,.tmp 17),(2,.tmp 19),(3,.tmp 22),(4,.tmp 27),(5,.tmp 31),(6,.tmp 33)]) (vs:=[(0,Value.agg (enc b.Box).toArray),(1,Value.agg (enc e).toArray),(2,Value.agg (enc b.Places).toArray),(3,Value.agg (enc d).toArray),(4,c 14),(5,c 18),(6,vI b.Rounds)]) (cs:=cat [enc b.Box,enc e,enc b.Places,enc d,[c 14],[c 18],[vI b.Rounds]]) H Za ld R R yY pl280 (Ya (pre:=[]) (seg:=enc xf) (seg':=enc b.Box) (post:=[enc xf,enc xc,enc xc,xu,xu,[vI 0]]) R cl0 (u_1 _) (u_1 _) R (Ya (pre:=[enc b.Box]) (seg:=enc xf) (seg':=enc e) (post:=[enc xc,enc xc,xu,xu,[vI 0]]) R ck (u_1 _) (u_1 _) R (Ya (pre:=[enc b.Box,enc e]) (seg:=enc xc) (seg':=enc b.Places) (post:=[enc xc,xu,xu,[vI 0]]) R ck (u_1 _) (u_1 _) R (Ya (pre:=[enc b.Box,enc e,enc b.Places]) (seg:=enc xc) (seg':=enc d) (post:=[xu,xu,[vI 0]]) R ck (u_1 _) (u_1 _) R (Ya (pre:=[enc b.Box,enc e,enc b.Places,enc d]) (seg:=xu) (seg':=[c 14]) (post:=[xu,[vI 0]]) R ck R R (Zag (I.rn2)) (Ya (pre:=[enc b.Box,enc e,enc b.Places,enc d,[c 14]]) (seg:=xu) (seg':=[c 18]) (post:=[[vI 0]]) R ck R R (Zag (I.ro (pre:=[_,_,_]) noB)) (Ya (pre:=[enc b.Box,enc e,enc b.Places,enc d,[c 14],[c 18]]) (seg:=[vI 0]) (seg':=[vI b.Rounds]) (post:=[]) R ck R R R YF))))))) λa H=>Z1 (cs:=cat [enc b.Box,enc e,enc b.Places,enc d,[c 14],[c 18],[vI b.Rounds]]) H I Za ld R R λy w a I H=>Zc H R λa H=>Zj (ZA ?_)
 have I:=I.pl4.pl4
 have I:=(((I.pack2 (it:=own NoB (⟨b.Box,e,b.Places,d,h,i,b.Rounds⟩ : Gengine) (cat [enc b.Box,enc e,enc b.Places,enc d,[c 14],[c 18],[vI b.Rounds]])) (Wa noB) (λL N q0 q1=>(Zel q0 q1 (by simp)))).pl1).pl1).pl1
 have I:=M.toRef I noB
 obtain rfl:=o_1 J
 have I:=M.fst (l:=[_]) I
 exact p_3 (ZY H R (Zy H R) ⟨_,R,ptr y 0,R,I.outF (Ba Yd),I.kept⟩)
def KX (b : Int) : Option ((Ref Gengine)) :=
 (Uk b).bind λc=>(Te c).bind λd=>some d
theorem Zbc (b : World) (c : Int) (r : (Ref Gengine)) (J : KX c = some r) :
  Calls prog 106 [vI c].toArray b (e_r λv w'=>(∃ d : Value,v = d ∧ Fr b w' [own NoB r [d]] ∧ Kept (Old b) b w')):=by
 refine ce func106 ?_
 intro a H
 have I:=M.start b
 unfold KX at J
 refine Zb (Zc H R λa H=>Ze (Zb (Zd H R λa H=>?_)))
 obtain ⟨e,f,J⟩:=p_1 J
 refine c_k H I R (cbm func109) (AK _ c e f) λw a I H=>?_
 obtain ⟨h,i,J⟩:=p_1 J
 refine Zp H R (cbm func199) (yy _ e h i) ?_
 rintro j w a ⟨_,rfl,hFr,hK⟩ H
 have I:=I.add hK hFr
 refine Zc H R λa H=>Ze ?_
 obtain rfl:=o_1 J
 exact p_3 (ZY H R (Zy H R) ⟨_,R,j,R,I.outF (Ba Yd),I.kept⟩)
def Y0 : Option ((Ref Gengine)) :=
 (KX 4).bind λb=>some b
theorem Wd (b : World)  (r : (Ref Gengine)) (J : Y0  = some r) :
  Calls prog 132 [].toArray b (e_r λv w'=>(∃ c : Value,v = c ∧ Fr b w' [own NoB r [c]] ∧ Kept (Old b) b w')):=by
 refine ce func132 ?_
 intro a H
 have I:=M.start b
 unfold Y0 at J
 refine Zb (Zc H R λa H=>Ze (Zb ?_))
 obtain ⟨d,e,J⟩:=p_1 J
 refine Zp H R (cbm func106) (Zbc _ 4 d e) ?_
 rintro f w a ⟨_,rfl,hFr,hK⟩ H
 have I:=I.add hK hFr
 refine Zc H R λa H=>Ze ?_
 obtain rfl:=o_1 J
 exact p_3 (ZY H R (Zy H R) ⟨_,R,f,R,I.outF (Ba Yd),I.kept⟩)
def TE (d : UInt8) (b : V16 × Int) : Option (Fl (V16 × Int) V16) :=
 if decide (b.2 < 16) then ((Z4 b.1 b.2).bind λc=>(Z4 b.1 b.2).bind λe=>some (Fl.nx ((b.1.setIfInBounds (b.2).toNat (c ^^^ d)),wr (b.2 + 1)))) else (some (Fl.ex b.1))
def Wu (c : V16) (d : UInt8) : Option ((List UInt8)) :=
 (ZQ (TE d) (c,0)).bind λe=>(slc e.toList (0 : Int) (16 : Int)).bind λb=>some b
theorem KS (e : World) (o : V16) (f : UInt8) (r : List UInt8) (J : Wu o f = some r) :
  Calls prog 235 [Value.agg (enc o).toArray,vB f].toArray e (e_r λv w'=>(∃ u : Value,v = u ∧ Fr e w' [osl NoB r u] ∧ Kept (Old e) e w')):=by
 refine ce func235 ?_
 intro a H
 have I:=M.start e
 unfold Wu at J
 refine Zb (Z1 (cs:=enc o) H I Za ld R R λk w a I H=>Zc H R λa H=>Ze (s_2 (Zb (Zd H R λa H=>Ze ?_))))
 obtain ⟨y,q,i⟩:=p_1 J
 refine ZV (λa w=>Env 17 a [(2,ptr k 0)] ∧ M (Old e) e w [raw k (enc y)]) ?_ ?_
 ·refine p_2 ?_
  refine ZP (λ(j : V16 × Int) a w=>Env 17 a [(1,vB f),(2,ptr k 0),(6,vI j.2)] ∧ M (Old e) e w [raw k (enc j.1)]) q ⟨H.s,I⟩ ?_
  rintro j a w ⟨H,I⟩ B b t
  unfold TE at b
  refine Zb (Zn H R R R λa H=>Ze (s_2 ?_))
  refine c_if H R b ?_ ?_
  ·intro l b
   refine u_2 (ZA (s_2 (p_2 (Zb (Zd H R λa H=>Zc H R λa H=>Ze (t_1 (Zd H R λa H=>?_)))))))
   obtain ⟨c,h,b⟩:=bvx b
   refine ZR H R R o_4 ty5 h.1 λa H=>ZB (v:=(vB c)) H R ty5 R (At.vec I.ra0 h.2) λa H=>Zd H R λa H=>Zn H R R (Uj c f) λa H=>?_
   obtain ⟨z,d,b⟩:=bvx b
   refine ZR H R R o_4 ty5 d.1 λa H=>Zl (seg:=[vB (c ^^^ f)]) (cs':=enc (j.1.setIfInBounds (j.2).toNat (c ^^^ f))) H I Za R R R ty5 R (Yf (v:=j.1) (x:=c ^^^ f) d.1) (s_1 (c ^^^ f : UInt8)) (ZS (v:=j.1) (x:=c ^^^ f) d.1) λw a I H=>Zj (Yy (ZA (t_1 (Zn H R R R λa H=>Zd H R λa H=>Zj (Zk ?_)))))
   exact ⟨_,ois b,H.s,I⟩
  intro l b
  refine s_4 (Zu (Zu (YE ?_)))
  obtain rfl:=t _ (ois b)
  refine Zk ?_
  exact ⟨H.s,I⟩
 rintro a w ⟨H,I⟩
 refine ZA (Zb ?_)
 obtain ⟨A,m,i⟩:=p_1 i
 have n:=Ku m -- ^
 refine VA (N:=16) H Za ld R R R R R o_4 ty5 n λa H=>Zc H R λa H=>Ze ?_
 have I:=(M.rawOsl I).cut noB m
 obtain rfl:=o_1 i
 exact p_3 (ZY H R (Zy H R) ⟨_,R,Yg (.slice (some ⟨k,0,none⟩) 16 16) (xi).toNat xy.toNat 1,R,I.outF (ZK Yd),I.kept⟩)
def UI (c : Int) (b : List UInt8 × Int) : Option (Fl (List UInt8 × Int) (List UInt8)) :=
 if decide (b.2 ≥ 0) then ((Wy (wr (8 * b.2))).bind λ_=>(app 1 b.1 ([ZC (Vj c (wr (8 * b.2)))] : List UInt8)).bind λd=>some (Fl.nx ((b.1 ++ ([ZC (Vj c (wr (8 * b.2)))] : List UInt8)),wr (b.2 - 1)))) else (some (Fl.ex b.1))
def Xx (b : Int) (c : Int) : Option ((List UInt8)) :=
 (ZQ (UI b) (([] : List UInt8),wr (c - 1))).bind λd=>some d
theorem Jd (c : World) (e : Int) (u : Int) (r : List UInt8) (J : Xx e u = some r) :
  Calls prog 232 [vI e,vI u].toArray c (e_r λv w'=>(∃ x : Value,v = x ∧ Fr c w' [osl NoB r x] ∧ Kept (Old c) c w')):=by
 refine ce func232 ?_
 intro a H
 have I:=M.start c
 unfold Xx at J
 refine Zb (Zc H R λa H=>Ze (Zb (ZM (xs:=[]) (l:=xv) (vs:=[]) H I Za ld R R o_2 ty5 R dd_ R λy w a I H=>Zc H R λa H=>Ze (s_2 (Zb (Zd H R λa H=>Zn H R R R λa H=>Zc H R λa H=>Ze ?_))))))
 obtain ⟨z,m,n⟩:=p_1 J
 refine ZV (λa w=>∃ j : Value,Env 23 a [(5,j)] ∧ M (Old c) c w [osl NoB z j]) ?_ ?_
 ·refine p_2 ?_
  refine ZP (λ(f : List UInt8 × Int) a w=>∃ k : Value,Env 23 a [(0,vI e),(5,k),(6,vI f.2)] ∧ M (Old c) c w [osl NoB f.1 k]) m ⟨y,H.s,I⟩ ?_
  rintro f a w ⟨k,H,I⟩ A b h
  unfold UI at b
  refine s_2 (Zb (Zd H R λa H=>Zn H R R R λa H=>Ze ?_))
  refine c_if H R b ?_ ?_
  ·intro i b
   refine u_2 (ZA (s_2 (p_2 (t_1 (Zd H R λa H=>Zd H R λa H=>Zd H R λa H=>Zn H R R R λa H=>?_)))))
   obtain ⟨_,d,b⟩:=p_1 b
   have d:=VT d
   refine A2 H Za ld R R (BD _ _ d) λa H=>Y5 H Za ld R o_5 u_3 λa H=>ZM (xs:=[.tmp 19]) (l:=([ZC (Vj e (wr (8 * f.2)))] : List UInt8)) (vs:=[vB (ZC (Vj e (wr (8 * f.2))))]) H I Za ld R R o_2 ty5 R dd_ R λB w a I H=>?_
   obtain ⟨C,o,b⟩:=p_1 b
   obtain ⟨q,rfl⟩:=ZU o
   have I:=I.pl1
   refine ZX H I Za ld R R (I.sl1) o_2 ty5 R dd_ q λt w a I H=>Zc H R λa H=>Zj (Yy (ZA (t_1 (Zd H R λa H=>Zn H R R R λa H=>Zc H R λa H=>Zj (Zk ?_)))))
   have I:=M.fst (l:=[_]) I
   exact ⟨_,ois b,t,H.s,I⟩
  intro i b
  refine s_4 (Zu (Zu (YE ?_)))
  obtain rfl:=h _ (ois b)
  refine Zk ?_
  exact ⟨k,H.s,I⟩
 rintro a w ⟨j,H,I⟩
 refine ZA (Zb (Zd H R λa H=>Zc H R λa H=>Ze ?_))
 obtain rfl:=o_1 n
 exact p_3 (ZY H R (Zy H R) ⟨_,R,j,R,I.outF (ZK Yd),I.kept⟩)
def XD (b : Int) : Option ((List UInt8)) :=
 (if decide (b < 0) then (none) else (some ()) : Option (Unit)).bind λf=>(if decide ((wr (b - (wr (0 - 0)))) > 0) then ((mkS 1 (0 : UInt8) (wr (b - (wr (0 - 0))))).bind λc=>(slc c (0 : Int) (0 : Int)).bind λd=>some d) else (some ([])) : Option ((List UInt8))).bind λe=>some e
theorem JD (d : World) (i : Int) (r : List UInt8) (J : XD i = some r) :
  Calls prog 251 [xd,vI i].toArray d (e_r λv w'=>(∃ o : Value,v = o ∧ Fr d w' [osl NoB r o] ∧ Kept (Old d) d w')):=by
 refine ce func251 ?_
 intro a H
 have I:=M.start d
 unfold XD at J
 refine Zb (Zc H R λa H=>Ze ?_)
 obtain ⟨x,c,j⟩:=p_1 J
 refine ZI (λa w=>Env 27 a [(0,xd),(1,vI i)] ∧ M (Old d) d w []) ?_ ?_
 ·refine Zb (Zd H R λa H=>Zn H R R R λa H=>Ze ?_)
  refine c_if H R c ?_ ?_
  ·intro k c
   cases c
  intro k c
  refine u_2 ?_
  obtain rfl:=o_1 c
  refine Zk ?_
  exact ⟨H.s,I⟩
 rintro a w ⟨H,I⟩
 obtain ⟨q,b,l⟩:=p_1 j
 refine ZI (λa w=>∃ h : Value,Env 27 a [(0,h)] ∧ M (Old d) d w [osl NoB q h]) ?_ ?_
 ·refine Zb (Zd H R λa H=>Zd H R λa H=>Zcs H Za ld R o_2 λa H=>Zd H R λa H=>Zct H Za ld R o_2 λa H=>Zn H R R R λa H=>Zn H R R R λa H=>Zc H R λa H=>Ze (Zb (Zd H R λa H=>Zn H R R R λa H=>Ze ?_)))
  refine c_if H R b ?_ ?_
  ·intro e b
   refine t_1 (Zd H R λa H=>Zd H R λa H=>Zcs H Za ld R o_2 λa H=>Zd7 H Za ld R R o_2 ty5 λa H=>Zd H R λa H=>?_)
   obtain ⟨t,m,b⟩:=p_1 b
   refine Zf5 H I Za ld R R o_2 s_5 ty5 R dd_ dd_ (λ_=>Jq.2 ⟨R,R⟩) m λn w a I H=>Zd H R λa H=>Zct H Za ld R o_2 λa H=>?_
   obtain ⟨u,f,b⟩:=p_1 b
   refine Q2 H Za ld R R R R R o_2 ty5 (I.sl0) f λa H=>?_
   have I:=I.cut noB f
   refine Zc H R λa H=>Zj ?_
   obtain rfl:=o_1 b
   refine Zk ?_
   exact ⟨Yg n (xi).toNat (xi).toNat 1,H.s,I⟩
  intro e b
  refine u_2 ?_
  obtain rfl:=o_1 b
  refine Zk ?_
  have I:=M.nilS (α:=UInt8) NoB noB I
  exact ⟨xd,H.s,I⟩
 rintro a w ⟨h,H,I⟩
 refine Zb (Zd H R λa H=>Zc H R λa H=>Ze ?_)
 obtain rfl:=o_1 l
 exact p_3 (ZY H R (Zy H R) ⟨_,R,h,R,I.outF (ZK Yd),I.kept⟩)
def WA (d : (List (List UInt8))) (b : Int × Int) : Option (Fl (Int × Int) Int) :=
 if decide (b.1 < (d.length : Int)) then (((idx d b.1).bind λc=>(if decide ((wr (b.2 + (c.length : Int))) < 0) then (none) else (some ()) : Option (Unit)).bind λe=>some (wr (b.2 + (c.length : Int))) : Option (Int)).bind λf=>some (Fl.nx (wr (b.1 + 1),f))) else (some (Fl.ex b.2))
def WB (d : (List (List UInt8))) (b : Int × List UInt8) : Option (Fl (Int × List UInt8) (List UInt8)) :=
 if decide (b.1 < (d.length : Int)) then ((idx d b.1).bind λc=>(app 1 b.2 c).bind λe=>some (Fl.nx (wr (b.1 + 1),b.2 ++ c))) else (some (Fl.ex b.2))
def YD (d : (List (List UInt8))) : Option ((List UInt8)) :=
 (ZQ (WA d) (0,0)).bind λe=>(XD e).bind λb=>(ZQ (WB d) (0,b)).bind λc=>some c
theorem Uq (e : World) (u : xz) (c : Value) (b : Ro e u [c]) (r : List UInt8) (J : YD u = some r) :
  Calls prog 179 [c].toArray e (e_r λv w'=>(∃ y1 : Value,v = y1 ∧ Fr e w' [osl NoB r y1] ∧ Kept (Old e) e w')):=by
 refine ce func179 ?_
 intro a H
 have I:=M.start e
 unfold YD at J
 refine Zb (Zc H R λa H=>Ze (Zb (Zc H R λa H=>Ze (s_2 (Zb (Zd H R λa H=>Yu H R o_6 (I.rd b) λa H=>Zd H R λa H=>Ze ?_))))))
 obtain ⟨j1,L,q⟩:=p_1 J
 refine ZV (λa w=>Env 36 a [(0,c),(3,vI j1)] ∧ M (Old e) e w []) ?_ ?_
 ·refine p_2 ?_
  refine ZP (λ(x : Int × Int) a w=>Env 36 a [(0,c),(3,vI x.2),(9,c),(10,vI (u.length : Int)),(11,vI x.1)] ∧ M (Old e) e w []) L ⟨H.s,I⟩ ?_
  rintro x a w ⟨H,I⟩ o7 h N
  unfold WA at h
  refine Zb (Zn H R R R λa H=>Ze (s_2 ?_))
  refine c_if H R h ?_ ?_
  ·intro O h
   refine u_2 (ZA ?_)
   obtain ⟨j9,i,y⟩:=p_1 h
   refine ZI (λa w=>Env 36 a [(0,c),(3,vI j9),(9,c),(10,vI (u.length : Int)),(11,vI x.1)] ∧ M (Old e) e w []) ?_ ?_
   ·refine p_2 (Zb ?_)
    obtain ⟨T,j,i⟩:=bix i
    refine Yp H R R o_6 Wo (I.rd b) j.1 λa H=>?_
    obtain ⟨ai,n,z⟩:=Y2 b j.2 -- ^
    obtain ⟨U,rfl⟩:=Kg n -- ^
    have W:=n -- ^
    refine ZB (v:=U) H R Wo R (I.atk z (XM b j.2)) λa H=>Zc H R λa H=>Ze (Zb (Zd H R λa H=>Zd H R λa H=>Yu H R o_2 (I.rd W) λa H=>Zn H R R R λa H=>Zc H R λa H=>Ze (Zb (Zd H R λa H=>Zn H R R R λa H=>Ze ?_))))
    obtain ⟨al,f,A⟩:=p_1 i
    refine ZV (λa w=>Env 36 a [(0,c),(3,vI (wr (x.2 + (T.length : Int)))),(9,c),(10,vI (u.length : Int)),(11,vI x.1)] ∧ M (Old e) e w []) ?_ ?_
    ·refine c_if H R f ?_ ?_
     ·intro B f
      cases f
     intro B f
     refine u_2 ?_
     obtain rfl:=o_1 f
     refine Zk ?_
     exact ⟨H.s,I⟩
    rintro a w ⟨H,I⟩
    refine Yy ?_
    obtain rfl:=o_1 A
    refine Zk ?_
    exact ⟨H.s,I⟩
   rintro a w ⟨H,I⟩
   refine t_1 (Zn H R R R λa H=>Zd H R λa H=>Zj (Zk ?_))
   exact ⟨_,ois y,H.s,I⟩
  intro O h
  refine s_4 (Zu (Zu (YE ?_)))
  obtain rfl:=N _ (ois h)
  refine Zk ?_
  exact ⟨H.s,I⟩
 rintro a w ⟨H,I⟩
 refine ZA (Zb (Zd H R λa H=>?_))
 obtain ⟨X,Y,q⟩:=p_1 q
 refine Zp H R (cbm func251) (JD _ j1 X Y) ?_
 rintro Z w a ⟨_,rfl,hFr,hK⟩ H
 have I:=I.add hK hFr
 refine Zc H R λa H=>Ze (s_2 (Zb (Zd H R λa H=>Yu H R o_6 (I.rd b) λa H=>Zd H R λa H=>Ze ?_)))
 obtain ⟨aa,C,E⟩:=p_1 q
 refine ZV (λa w=>∃ l : Value,Env 36 a [(6,l)] ∧ M (Old e) e w [osl NoB aa l]) ?_ ?_
 ·refine p_2 ?_
  refine ZP (λ(t : Int × List UInt8) a w=>∃ m : Value,Env 36 a [(6,m),(25,c),(26,vI (u.length : Int)),(27,vI t.1)] ∧ M (Old e) e w [osl NoB t.2 m]) C ⟨Z,H.s,I⟩ ?_
  rintro t a w ⟨m,H,I⟩ am d F
  unfold WB at d
  refine Zb (Zn H R R R λa H=>Ze (s_2 ?_))
  refine c_if H R d ?_ ?_
  ·intro G d
   refine u_2 (ZA (s_2 (p_2 (Zb ?_))))
   obtain ⟨an,k,d⟩:=bix d
   refine Yp H R R o_6 Wo (I.rd b) k.1 λa H=>?_
   obtain ⟨aj,o,K⟩:=Y2 b k.2 -- ^
   obtain ⟨ab,rfl⟩:=Kg o -- ^
   have ac:=o -- ^
   refine ZB (v:=ab) H R Wo R (I.atk K (XM b k.2)) λa H=>Zc H R λa H=>Ze (t_1 (Zd H R λa H=>Zd H R λa H=>?_))
   obtain ⟨ao,ad,d⟩:=p_1 d
   obtain ⟨ae,rfl⟩:=ZU ad
   refine ZX H I Za ld R R (I.rd ac) o_2 ty5 R dd_ ae λaf w a I H=>Zc H R λa H=>Zj (Yy (ZA (t_1 (Zn H R R R λa H=>Zd H R λa H=>Zj (Zk ?_)))))
   exact ⟨_,ois d,af,H.s,I⟩
  intro G d
  refine s_4 (Zu (Zu (YE ?_)))
  obtain rfl:=F _ (ois d)
  refine Zk ?_
  exact ⟨m,H.s,I⟩
 rintro a w ⟨l,H,I⟩
 refine ZA (Zb (Zd H R λa H=>Zc H R λa H=>Ze ?_))
 obtain rfl:=o_1 E
 exact p_3 (ZY H R (Zy H R) ⟨_,R,l,R,I.outF (ZK Yd),I.kept⟩)
def X0 (b : V32 × Int) : Option (Fl (V32 × Int) V32) :=
 if decide (b.2 < 32) then ((Z4 b.1 b.2).bind λc=>some (Fl.nx ((b.1.setIfInBounds (b.2).toNat (ZC (wr (17 * b.2)))),wr (b.2 + 1)))) else (some (Fl.ex b.1))
def Vb : Option (V32) :=
 (ZQ (X0) ((Vector.replicate 32 (0 : UInt8)),0)).bind λb=>some b
theorem B6 (e : World)  (r : V32) (J : Vb  = some r) :
  Calls prog 176 [].toArray e (Rt e (Value.agg (enc r).toArray)):=by
 refine ce func176 ?_
 intro a H
 have I:=M.start e
 unfold Vb at J
 refine Zb (Zv H I ZW λj w a I H=>Ze (Zb (Y6 (parts:=[]) (vs:=[]) (cs:=enc xb) H Za ld R R ZW R ty5 YO λa H=>Zv H I ZW λk w a I H=>Zl (seg:=enc xb) (cs':=enc xb) H I Za R R R ZW (u_1 _) (zle flq) (s_1 _) (Zh flq) λw a I H=>Ze (s_2 (Zb (Zd H R λa H=>Ze ?_))))))
 obtain ⟨l,m,n⟩:=p_1 J
 refine ZV (λa w=>Env 14 a [(0,ptr j 0),(1,ptr k 0)] ∧ M (Old e) e w [raw k (enc l),raw j xm]) ?_ ?_
 ·refine p_2 ?_
  refine ZP (λ(c : V32 × Int) a w=>Env 14 a [(0,ptr j 0),(1,ptr k 0),(4,vI c.2)] ∧ M (Old e) e w [raw k (enc c.1),raw j xm]) m ⟨H.s,I⟩ ?_
  rintro c a w ⟨H,I⟩ o b f
  unfold X0 at b
  refine Zb (Zn H R R R λa H=>Ze (s_2 ?_))
  refine c_if H R b ?_ ?_
  ·intro h b
   refine u_2 (ZA (s_2 (p_2 (Zb (Zd H R λa H=>Zc H R λa H=>Ze (t_1 (Zd H R λa H=>Zd H R λa H=>Zn H R R R λa H=>Y5 H Za ld R s_5 u_3 λa H=>?_)))))))
   obtain ⟨q,d,b⟩:=bvx b
   refine ZR H R R t_4 ty5 d.1 λa H=>Zl (seg:=[vB (ZC (wr (17 * c.2)))]) (cs':=enc (c.1.setIfInBounds (c.2).toNat (ZC (wr (17 * c.2))))) H I Za R R R ty5 R (Yf (v:=c.1) (x:=ZC (wr (17 * c.2))) d.1) (s_1 (ZC (wr (17 * c.2)) : UInt8)) (ZS (v:=c.1) (x:=ZC (wr (17 * c.2))) d.1) λw a I H=>Zj (Yy (ZA (t_1 (Zn H R R R λa H=>Zd H R λa H=>Zj (Zk ?_)))))
   exact ⟨_,ois b,H.s,I⟩
  intro h b
  refine s_4 (Zu (Zu (YE ?_)))
  obtain rfl:=f _ (ois b)
  refine Zk ?_
  exact ⟨H.s,I⟩
 rintro a w ⟨H,I⟩
 refine ZA (Zb (Zq H R ZW R I.ra0 (u_1 _) λa H=>?_))
 have I:=I.pl1
 refine Zl (seg:=enc l) (cs':=enc l) H I Za R R R ZW (u_1 _) (zle flq) (s_1 _) (Zh flq) λw a I H=>Ze ?_
 obtain rfl:=o_1 n
 have i : Z7 prog _ _ (.cell 0 32) _:=ZE H R ZW R I.ra0 (u_1 _) R
 exact p_3 (ZY H R i ⟨_,R,R,I.kept⟩)
def Yv (b : List UInt8) : Option ((List UInt8)) :=
 (app 1 ([] : List UInt8) b).bind λc=>some (([] : List UInt8) ++ b)
theorem X3 (d : World) (i : List UInt8) (c : Value) (b : Ro d i [c]) (r : List UInt8) (J : Yv i = some r) :
  Calls prog 91 [c].toArray d (e_r λv w'=>(∃ j : Value,v = j ∧ Fr d w' [osl NoB r j] ∧ Kept (Old d) d w')):=by
 refine ce func91 ?_
 intro a H
 have I:=M.start d
 unfold Yv at J
 refine Zb (Zc H R λa H=>Ze (s_2 (Zb (Zd H R λa H=>Zbv H Za ld R R o_2 (I.rd b) λk a f H=>Ze ?_))))
 refine Zr H R ?_ ?_
 ·intro e
  have m:=f e
  have J : some ([]) = some r:=by rw [m] at J; simpa [app] using J
  refine Zb (Zc H R λa H=>Ze ?_)
  have I:=M.nilS (α:=UInt8) NoB noB I
  obtain rfl:=o_1 J
  exact p_3 (ZJ (ZY H R (Zy H R) ⟨_,R,xd,R,I.outF (ZK Yd),I.kept⟩))
 intro e
 refine u_2 (ZA (Zb (ZM (xs:=[]) (l:=xv) (vs:=[]) H I Za ld R R o_2 ty5 R dd_ R λq w a I H=>Zd H R λa H=>?_)))
 obtain ⟨t,n,J⟩:=p_1 J
 have h:=(ZU n).1
 refine ZX H I Za ld R R (I.rd b) o_2 ty5 R dd_ h λo w a I H=>Zc H R λa H=>Ze ?_
 obtain rfl:=o_1 J
 exact p_3 (ZY H R (Zy H R) ⟨_,R,o,R,I.outF (ZK Yd),I.kept⟩)
def TI (b : List UInt8) : Option (Fl (List UInt8) (List UInt8)) :=
 if (Int.tmod (b.length : Int) 16) != 8 then ((app 1 b ([0] : List UInt8)).bind λc=>some (Fl.nx (b ++ ([0] : List UInt8)))) else (some (Fl.ex b))
def UT (d : List UInt8) : Option ((List UInt8)) :=
 (Yv d).bind λe=>(app 1 e ([128] : List UInt8)).bind λh=>(ZQ (TI) (e ++ ([128] : List UInt8))).bind λb=>(Xx (d.length : Int) 8).bind λc=>(app 1 b c).bind λf=>some (b ++ c)
theorem zC (f : World) (o : List UInt8) (c : Value) (e : Ro f o [c]) (r : List UInt8) (J : UT o = some r) :
  Calls prog 178 [c].toArray f (e_r λv w'=>(∃ F : Value,v = F ∧ Fr f w' [osl NoB r F] ∧ Kept (Old f) f w')):=by
 refine ce func178 ?_
 intro a H
 have I:=M.start f
 unfold UT at J
 refine Zb (Zc H R λa H=>Ze (Zb (Zd H R λa H=>?_)))
 obtain ⟨G,K,J⟩:=p_1 J
 refine Zp H R cb91 (X3 _ o c (I.rdo e) G K) ?_
 rintro X w a ⟨_,rfl,hFr,hK⟩ H
 have I:=I.add hK hFr
 refine ZM (xs:=[.const (vB 128)]) (l:=([128] : List UInt8)) (vs:=[vB 128]) H I Za ld R R o_2 ty5 R dd_ R λY w a I H=>?_
 obtain ⟨Z,L,J⟩:=p_1 J
 obtain ⟨q,rfl⟩:=ZU L
 have I:=I.pl1
 refine ZX H I Za ld R R (I.sl1) o_2 ty5 R dd_ q λu8 w a I H=>Zc H R λa H=>Ze ?_
 obtain ⟨t,j,d⟩:=p_1 J
 refine ZI (λa w=>∃ i : Value,Env 20 a [(0,c),(3,i)] ∧ M (Old f) f w [osl NoB t i]) ?_ ?_
 ·refine p_2 ?_
  have I:=M.fst (l:=[_]) I
  refine ZP (λ(k : List UInt8) a w=>∃ h : Value,Env 20 a [(0,c),(3,h)] ∧ M (Old f) f w [osl NoB k h]) j ⟨u8,H.s,I⟩ ?_
  rintro k a w ⟨h,H,I⟩ N b m
  unfold TI at b
  refine s_2 (Zb (Zd H R λa H=>Yu H R o_2 (I.sl0) λa H=>Zn H R R (Jt _ _ dd_) λa H=>Zn H R R R λa H=>Ze ?_))
  refine c_if H R b ?_ ?_
  ·intro n b
   refine u_2 (ZA (p_2 (t_1 (Zd H R λa H=>ZM (xs:=[.const (vB 0)]) (l:=([0] : List UInt8)) (vs:=[vB 0]) H I Za ld R R o_2 ty5 R dd_ R λO w a I H=>?_))))
   obtain ⟨T,u,b⟩:=p_1 b
   obtain ⟨x,rfl⟩:=ZU u
   have I:=I.pl1
   refine ZX H I Za ld R R (I.sl1) o_2 ty5 R dd_ x λy w a I H=>Zc H R λa H=>Zj (Yy (Zk ?_))
   have I:=M.fst (l:=[_]) I
   exact ⟨_,ois b,y,H.s,I⟩
  intro n b
  refine s_4 (Zu (Zu (YE ?_)))
  obtain rfl:=m _ (ois b)
  refine Zk ?_
  exact ⟨h,H.s,I⟩
 rintro a w ⟨i,H,I⟩
 refine Zb (Zd H R λa H=>Zd H R λa H=>Yu H R o_2 (I.rd e) λa H=>?_)
 obtain ⟨z,A,d⟩:=p_1 d
 refine Zp H R Zir (Jd _ (o.length : Int) 8 z A) ?_
 rintro U w a ⟨_,rfl,hFr,hK⟩ H
 have I:=I.add hK hFr
 obtain ⟨W,B,d⟩:=p_1 d
 obtain ⟨C,rfl⟩:=ZU B
 have I:=I.pl1
 refine ZX H I Za ld R R (I.sl1) o_2 ty5 R dd_ C λE w a I H=>Zc H R λa H=>Ze ?_
 obtain rfl:=o_1 d
 have I:=M.fst (l:=[_]) I
 exact p_3 (ZY H R (Zy H R) ⟨_,R,E,R,I.outF (ZK Yd),I.kept⟩)
def VU (e : List UInt8) (b : List V16 × Int) : Option (Fl (List V16 × Int) (List V16)) :=
 if decide (b.2 < (e.length : Int)) then ((slc e b.2 (wr (b.2 + 16))).bind λd=>(K4 16 d).bind λc=>(app 16 b.1 ([c] : List V16)).bind λf=>some (Fl.nx ((b.1 ++ ([c] : List V16)),wr (b.2 + 16)))) else (some (Fl.ex b.1))
def TZ (b : List UInt8) : Option ((List V16)) :=
 (ZQ (VU b) (([] : List V16),0)).bind λc=>some c
theorem y8 (e : World) (B : List UInt8) (d : Value) (c : Ro e B [d]) (r : List V16) (J : TZ B = some r) :
  Calls prog 177 [d].toArray e (e_r λv w'=>(∃ C : Value,v = C ∧ Fr e w' [osl NoB r C] ∧ Kept (Old e) e w')):=by
 refine ce func177 ?_
 intro a H
 have I:=M.start e
 unfold TZ at J
 refine Zb (Zc H R λa H=>Ze (Zb (ZM (xs:=[]) (l:=([] : List V16)) (vs:=[]) H I Za ld R R s_3 ZL R dd_ R λE w a I H=>Zc H R λa H=>Ze (s_2 (Zb (Zc H R λa H=>Ze ?_))))))
 obtain ⟨F,t,u⟩:=p_1 J
 refine ZV (λa w=>∃ o : Value,Env 23 a [(3,o)] ∧ M (Old e) e w [osl NoB F o]) ?_ ?_
 ·refine p_2 ?_
  refine ZP (λ(f : List V16 × Int) a w=>∃ q : Value,Env 23 a [(0,d),(3,q),(4,vI f.2)] ∧ M (Old e) e w [osl NoB f.1 q]) t ⟨E,H.s,I⟩ ?_
  rintro f a w ⟨q,H,I⟩ G b h
  unfold VU at b
  refine s_2 (Zb (Zd H R λa H=>Zd H R λa H=>Yu H R o_2 (I.rd c) λa H=>Zn H R R R λa H=>Ze ?_))
  refine c_if H R b ?_ ?_
  ·intro i b
   refine u_2 (ZA (s_2 (p_2 (t_1 (Zd H R λa H=>Zd H R λa H=>Zd H R λa H=>Zd H R λa H=>Zn H R R R λa H=>?_)))))
   obtain ⟨x,j,b⟩:=p_1 b
   refine Q2 H Za ld R R R R R o_2 ty5 (I.rd c) j λa H=>?_
   have k : Rep.sat (Old e) e x [Yg d (f.2).toNat ((wr (f.2 + 16))).toNat 1] []:=Xl c j -- ^
   obtain ⟨m,n,b⟩:=p_1 b
   refine z6 H Za ld R o_4 (I.rd k) (Jb n).1 dd_ λa H=>Zq H R ZL R (qh (I.rd k) n dd_) (u_1 _) λa H=>ZM (xs:=[.tmp 19]) (l:=([m] : List V16)) (vs:=[Value.agg (enc m).toArray]) H I Za ld R R s_3 ZL R dd_ R λK w a I H=>?_
   obtain ⟨L,y,b⟩:=p_1 b
   obtain ⟨z,rfl⟩:=ZU y
   have I:=I.pl1
   refine ZX H I Za ld R R (I.sl1) s_3 ZL R dd_ z λA w a I H=>Zc H R λa H=>Zj (Yy (ZA (t_1 (Zd H R λa H=>Zn H R R R λa H=>Zc H R λa H=>Zj (Zk ?_)))))
   have I:=M.fst (l:=[_]) I
   exact ⟨_,ois b,A,H.s,I⟩
  intro i b
  refine s_4 (Zu (Zu (YE ?_)))
  obtain rfl:=h _ (ois b)
  refine Zk ?_
  exact ⟨q,H.s,I⟩
 rintro a w ⟨o,H,I⟩
 refine ZA (Zb (Zd H R λa H=>Zc H R λa H=>Ze ?_))
 obtain rfl:=o_1 u
 exact p_3 (ZY H R (Zy H R) ⟨_,R,o,R,I.outF (ZK Yd),I.kept⟩)
def Vn (e : V16) (b : V16 × Int) : Option (Fl (V16 × Int) V16) :=
 if decide (b.2 < 16) then ((Z4 b.1 b.2).bind λc=>(Z4 e b.2).bind λd=>(Z4 b.1 b.2).bind λf=>some (Fl.nx ((b.1.setIfInBounds (b.2).toNat (c ^^^ d)),wr (b.2 + 1)))) else (some (Fl.ex b.1))
def Xm (b : V16) (c : V16) : Option (V16) :=
 (ZQ (Vn c) (b,0)).bind λd=>some d
theorem VY (j : World) (y : V16) (o : V16) (r : V16) (J : Xm y o = some r) :
  Calls prog 206 [Value.agg (enc y).toArray,Value.agg (enc o).toArray].toArray j (Rt j (Value.agg (enc r).toArray)):=by
 refine ce func206 ?_
 intro a H
 have I:=M.start j
 unfold Xm at J
 refine Zb (Z1 (cs:=enc y) H I Za ld R R λq w a I H=>Z1 (cs:=enc o) H I Za ld R R λF w a I H=>Zv H I ZL λt w a I H=>Ze (s_2 (Zb (Zd H R λa H=>Ze ?_))))
 obtain ⟨A,B,C⟩:=p_1 J
 refine ZV (λa w=>Env 19 a [(2,ptr q 0),(4,ptr t 0)] ∧ M (Old j) j w [raw t xl,raw q (enc A)]) ?_ ?_
 ·refine p_2 ?_
  refine ZP (λ(e : V16 × Int) a w=>Env 19 a [(2,ptr q 0),(3,ptr F 0),(4,ptr t 0),(6,vI e.2)] ∧ M (Old j) j w [raw t xl,raw F (enc o),raw q (enc e.1)]) B ⟨H.s,I⟩ ?_
  rintro e a w ⟨H,I⟩ G b k
  unfold Vn at b
  refine Zb (Zn H R R R λa H=>Ze (s_2 ?_))
  refine c_if H R b ?_ ?_
  ·intro m b
   refine u_2 (ZA (s_2 (p_2 (Zb (Zd H R λa H=>Zc H R λa H=>Ze ?_)))))
   obtain ⟨c,h,b⟩:=bvx b
   obtain ⟨d,i,b⟩:=bvx b
   obtain ⟨K,f,b⟩:=bvx b
   refine Z9 [9,10,11,12,13,14,15,16] Yx R R dd_ R H I (q_m (λ_=>R) (qsP (λz=>Z0 z.E Za ld R R o_4 ty5 h.1 (kr0 R)) (qsP (λz=>Zz (v:=(vB c)) z.E Za ld R ty5 R (At.vec (z.M.ra2) h.2) (kr0 R)) (q_m (λ_=>R) (qsP (λz=>Z0 z.E Za ld R R o_4 ty5 i.1 (kr0 R)) (qsP (λz=>Zz (v:=(vB d)) z.E Za ld R ty5 R (At.vec (z.M.ra1) i.2) (kr0 R)) (qsP (v:=(vB (c ^^^ d))) (λz=>Yc z.E Za ld R R (Uj c d) (kr0 R)) (qsP (λz=>Z0 z.E Za ld R R o_4 ty5 f.1 (kr0 R)) qs0)))))))) ?_
   ·intro a w u H I
    have I:=I.pl2
    refine Zl (seg:=[vB (c ^^^ d)]) (cs':=enc (e.1.setIfInBounds (e.2).toNat (c ^^^ d))) H I Za R R R ty5 R (Yf (v:=e.1) (x:=c ^^^ d) f.1) (s_1 (c ^^^ d : UInt8)) (ZS (v:=e.1) (x:=c ^^^ d) f.1) λw a I H=>Zj (Yy (ZA (t_1 (Zn H R R R λa H=>Zd H R λa H=>Zj (Zk ?_)))))
    have I:=I.pl2.pl2
    exact ⟨_,ois b,H.s,I⟩
  intro m b
  refine s_4 (Zu (Zu (YE ?_)))
  obtain rfl:=k _ (ois b)
  refine Zk ?_
  have I:=M.fst (l:=[_,_]) I.pl2.pl1
  exact ⟨H.s,I⟩
 rintro a w ⟨H,I⟩
 refine ZA (Zb (Zq H R ZL R I.ra1 (u_1 _) λa H=>Zl (seg:=enc A) (cs':=enc A) H I Za R R R ZL (u_1 _) (zle flq) (s_1 _) (Zh flq) λw a I H=>Ze ?_))
 obtain rfl:=o_1 C
 have n : Z7 prog _ _ (.cell 4 53) _:=ZE H R ZL R I.ra0 (u_1 _) R
 exact p_3 (ZY H R n ⟨_,R,R,I.kept⟩)
def XU (f : (Ref Gengine)) (b : V16 × Int) : Option (Fl (V16 × Int) V16) :=
 if decide (b.2 < 16) then ((Z4 b.1 b.2).bind λc=>(Z4 b.1 (wr (b.2 - 1))).bind λd=>(Z4 f.v.box (bI d)).bind λe=>(Z4 b.1 b.2).bind λh=>some (Fl.nx ((b.1.setIfInBounds (b.2).toNat (c ^^^ e)),wr (b.2 + 1)))) else (some (Fl.ex b.1))
def WP (h : (Ref Gengine)) (b : V16) (i : Int) : Option (V16) :=
 ((Z4 b (0 : Int)).bind λc=>(Z4 b (15 : Int)).bind λd=>(Z4 h.v.box (bI (d ^^^ (ZC i)))).bind λe=>(Z4 b (0 : Int)).bind λj=>some (b.setIfInBounds ((0 : Int)).toNat (c ^^^ e)) : Option (V16)).bind λk=>(ZQ (XU h) (k,1)).bind λf=>some f
theorem Bq (n : World) (p0 : (Ref Gengine)) (j : Value) (k : Ro n p0 [j]) (F : V16) (p2 : Int) (r : V16) (J : WP p0 F p2 = some r) :
  Calls prog 274 [j,Value.agg (enc F).toArray,vI p2].toArray n (Rt n (Value.agg (enc r).toArray)):=by
 refine ce func274 ?_
 intro a H
 have I:=M.start n
 unfold WP at J
 refine Zb (Z1 (cs:=enc F) H I Za ld R R λG w a I H=>Zv H I ZL λK w a I H=>Ze ?_)
 obtain ⟨j5,c,ag⟩:=p_1 J
 refine ZI (λa w=>Env 41 a [(0,j),(4,ptr G 0),(6,ptr K 0)] ∧ M (Old n) n w [raw K xl,raw G (enc j5)]) ?_ ?_
 ·obtain ⟨d,L,c⟩:=bvx c
  obtain ⟨B,o,c⟩:=bvx c
  obtain ⟨aj,ak,N,O,T,U⟩:=Kl k -- ^
  obtain ⟨ao,ap,rfl,aq,ar⟩:=Je O -- ^
  obtain ⟨e,q,c⟩:=bvx c
  obtain ⟨au,l,c⟩:=bvx c
  refine Z9 [8,9,10,11,12,13,14,15,16,17,18,19,20,21] Yx R R dd_ R H I (qsP (λz=>Z0 z.E Za ld R R o_4 ty5 L.1 (kr0 R)) (qsP (λz=>Zz (v:=(vB d)) z.E Za ld R ty5 R (At.vec (z.M.ra1) L.2) (kr0 R)) (q_m (λ_=>R) (qsP (λz=>Z0 z.E Za ld R R o_4 ty5 o.1 (kr0 R)) (qsP (λz=>Zz (v:=(vB B)) z.E Za ld R ty5 R (At.vec (z.M.ra1) o.2) (kr0 R)) (q_m (λ_=>R) (qsP (λz=>Y5 z.E Za ld R o_5 u_3 (kr0 R)) (qsP (v:=(vB (B ^^^ (ZC p2)))) (λz=>Yc z.E Za ld R R (Uj B (ZC p2)) (kr0 R)) (qsP (λz=>YZ z.E Za ld (lk R N) (kr0 R)) (qsP (λz=>Zi z.E Za ld R (Zby) (kr0 R)) (qsP (λz=>Z0 z.E Za ld R R p_6 ty5 q.1 (kr0 R)) (qsP (λz=>Zz (v:=(vB e)) z.E Za ld R ty5 R (At.vec (at_0 (z.M.atk T U)) q.2) (kr0 R)) (qsP (v:=(vB (d ^^^ e))) (λz=>Yc z.E Za ld R R (Uj d e) (kr0 R)) (qsP (λz=>Z0 z.E Za ld R R o_4 ty5 l.1 (kr0 R)) qs0)))))))))))))) ?_
  ·intro a w u H I
   have I:=I.pl1
   refine Zl (seg:=[vB (d ^^^ e)]) (cs':=enc (F.setIfInBounds (xi).toNat (d ^^^ e))) H I Za R R R ty5 R (Yf (v:=F) (x:=d ^^^ e) l.1) (s_1 (d ^^^ e : UInt8)) (ZS (v:=F) (x:=d ^^^ e) l.1) λw a I H=>Zj ?_
   obtain rfl:=o_1 c
   refine Zk ?_
   have I:=I.pl1
   exact ⟨H.s,I⟩
 rintro a w ⟨H,I⟩
 refine s_2 (Zb (Zc H R λa H=>Ze ?_))
 obtain ⟨C,W,X⟩:=p_1 ag
 refine ZV (λa w=>Env 41 a [(4,ptr G 0),(6,ptr K 0)] ∧ M (Old n) n w [raw K xl,raw G (enc C)]) ?_ ?_
 ·refine p_2 ?_
  refine ZP (λ(f : V16 × Int) a w=>Env 41 a [(0,j),(4,ptr G 0),(6,ptr K 0),(7,vI f.2)] ∧ M (Old n) n w [raw K xl,raw G (enc f.1)]) W ⟨H.s,I⟩ ?_
  rintro f a w ⟨H,I⟩ av b Y
  unfold XU at b
  refine s_2 (Zb (Zd H R λa H=>Zn H R R R λa H=>Ze ?_))
  refine c_if H R b ?_ ?_
  ·intro Z b
   refine u_2 (ZA (s_2 (p_2 ?_)))
   obtain ⟨h,t,b⟩:=bvx b
   obtain ⟨ah,y,b⟩:=bvx b
   obtain ⟨al,am,aa,ab,ac,ad⟩:=Kl k -- ^
   obtain ⟨aw,ax,rfl,ay,az⟩:=Je ab -- ^
   obtain ⟨i,A,b⟩:=bvx b
   obtain ⟨a0,m,b⟩:=bvx b
   refine Z9 [26,27,28,29,30,31,32,33,34,35,36,37,38,39] Yx R R dd_ R H I (q_m (λ_=>R) (qsP (λz=>Z0 z.E Za ld R R o_4 ty5 t.1 (kr0 R)) (qsP (λz=>Zz (v:=(vB h)) z.E Za ld R ty5 R (At.vec (z.M.ra1) t.2) (kr0 R)) (q_m (λ_=>R) (q_m (λ_=>R) (qsP (v:=(vI (wr (f.2 - 1)))) (λz=>Yc z.E Za ld R R R (kr0 R)) (qsP (λz=>Z0 z.E Za ld R R o_4 ty5 y.1 (kr0 R)) (qsP (λz=>Zz (v:=(vB ah)) z.E Za ld R ty5 R (At.vec (z.M.ra1) y.2) (kr0 R)) (qsP (λz=>YZ z.E Za ld (lk R aa) (kr0 R)) (qsP (λz=>Zi z.E Za ld R (Zby) (kr0 R)) (qsP (λz=>Z0 z.E Za ld R R p_6 ty5 A.1 (kr0 R)) (qsP (λz=>Zz (v:=(vB i)) z.E Za ld R ty5 R (At.vec (at_0 (z.M.atk ac ad)) A.2) (kr0 R)) (qsP (v:=(vB (h ^^^ i))) (λz=>Yc z.E Za ld R R (Uj h i) (kr0 R)) (qsP (λz=>Z0 z.E Za ld R R o_4 ty5 m.1 (kr0 R)) qs0)))))))))))))) ?_
   ·intro a w u H I
    have I:=I.pl1
    refine Zl (seg:=[vB (h ^^^ i)]) (cs':=enc (f.1.setIfInBounds (f.2).toNat (h ^^^ i))) H I Za R R R ty5 R (Yf (v:=f.1) (x:=h ^^^ i) m.1) (s_1 (h ^^^ i : UInt8)) (ZS (v:=f.1) (x:=h ^^^ i) m.1) λw a I H=>Zj (Yy (ZA (t_1 (Zd H R λa H=>Zn H R R R λa H=>Zc H R λa H=>Zj (Zk ?_)))))
    have I:=I.pl1
    exact ⟨_,ois b,H.s,I⟩
  intro Z b
  refine s_4 (Zu (Zu (YE ?_)))
  obtain rfl:=Y _ (ois b)
  refine Zk ?_
  exact ⟨H.s,I⟩
 rintro a w ⟨H,I⟩
 refine ZA (Zb (Zq H R ZL R I.ra1 (u_1 _) λa H=>Zl (seg:=enc C) (cs':=enc C) H I Za R R R ZL (u_1 _) (zle flq) (s_1 _) (Zh flq) λw a I H=>Ze ?_))
 obtain rfl:=o_1 X
 have ae : Z7 prog _ _ (.cell 6 53) _:=ZE H R ZL R I.ra0 (u_1 _) R
 exact p_3 (ZY H R ae ⟨_,R,R,I.kept⟩)
def WD (d : (Ref Gengine)) (e : Int) (b : V16 × List V16 × Int) : Option (Fl (V16 × List V16 × Int) (List V16)) :=
 if decide (b.2.2 ≤ e) then ((WP d b.1 b.2.2).bind λc=>(app 16 b.2.1 ([c] : List V16)).bind λf=>some (Fl.nx (c,b.2.1 ++ ([c] : List V16),wr (b.2.2 + 1)))) else (some (Fl.ex b.2.1))
def Ul (c : (Ref Gengine)) (b : V16) (d : Int) : Option ((List V16)) :=
 (ZQ (WD c d) (b,([b] : List V16),1)).bind λe=>some e
theorem AM (f : World) (n : (Ref Gengine)) (c : Value) (i : Ro f n [c]) (j : V16) (o : Int) (r : List V16) (J : Ul n j o = some r) :
  Calls prog 204 [c,Value.agg (enc j).toArray,vI o].toArray f (e_r λv w'=>(∃ A : Value,v = A ∧ Fr f w' [osl NoB r A] ∧ Kept (Old f) f w')):=by
 refine ce func204 ?_
 intro a H
 have I:=M.start f
 unfold Ul at J
 refine Zb (Z1 (cs:=enc j) H I Za ld R R λB w a I H=>Zc H R λa H=>Ze (Zb (Zq H R ZL R I.ra0 (u_1 _) λa H=>ZM (xs:=[.tmp 9]) (l:=([j] : List V16)) (vs:=[Value.agg (enc j).toArray]) H I Za ld R R s_3 ZL R dd_ R λC w a I H=>Zc H R λa H=>Ze (s_2 (Zb (Zc H R λa H=>Ze ?_))))))
 obtain ⟨E,q,t⟩:=p_1 J
 refine ZV (λa w=>∃ u8 : Value,Env 25 a [(7,u8)] ∧ M (Old f) f w [osl NoB E u8]) ?_ ?_
 ·refine p_2 ?_
  have I:=I.pl1
  refine ZP (λ(d : V16 × List V16 × Int) a w=>∃ h : Value,Env 25 a [(0,c),(2,vI o),(4,ptr B 0),(7,h),(8,vI d.2.2)] ∧ M (Old f) f w [raw B (enc d.1),osl NoB d.2.1 h]) q ⟨C,H.s,I⟩ ?_
  rintro d a w ⟨h,H,I⟩ F b k
  unfold WD at b
  refine s_2 (Zb (Zd H R λa H=>Zd H R λa H=>Zn H R R R λa H=>Ze ?_))
  refine c_if H R b ?_ ?_
  ·intro m b
   refine u_2 (ZA (s_2 (p_2 (Zb (Zd H R λa H=>Zq H R ZL R I.ra0 (u_1 _) λa H=>Zd H R λa H=>?_)))))
   obtain ⟨e,u,b⟩:=p_1 b
   refine c_k H I R (cbm func274) (Bq _ n c (I.rdo i) d.1 d.2.2 e u) λw a I H=>?_
   refine Zl (seg:=enc e) (cs':=enc e) H I Za R R R ZL (u_1 _) (zle flq) (s_1 _) (Zh flq) λw a I H=>Ze (t_1 (Zd H R λa H=>Zq H R ZL R I.ra0 (u_1 _) λa H=>ZM (xs:=[.tmp 21]) (l:=([e] : List V16)) (vs:=[Value.agg (enc e).toArray]) H I Za ld R R s_3 ZL R dd_ R λG w a I H=>?_))
   obtain ⟨K,x,b⟩:=p_1 b
   obtain ⟨y,rfl⟩:=ZU x
   have I:=I.pl2
   refine ZX H I Za ld R R (I.sl1) s_3 ZL R dd_ y λz w a I H=>Zc H R λa H=>Zj (Yy (ZA (t_1 (Zd H R λa H=>Zn H R R R λa H=>Zc H R λa H=>Zj (Zk ?_)))))
   have I:=M.fst (l:=[_,_]) I.pl2
   exact ⟨_,ois b,z,H.s,I⟩
  intro m b
  refine s_4 (Zu (Zu (YE ?_)))
  obtain rfl:=k _ (ois b)
  refine Zk ?_
  have I:=M.fst (l:=[_]) I.pl1
  exact ⟨h,H.s,I⟩
 rintro a w ⟨u8,H,I⟩
 refine ZA (Zb (Zd H R λa H=>Zc H R λa H=>Ze ?_))
 obtain rfl:=o_1 t
 exact p_3 (ZY H R (Zy H R) ⟨_,R,u8,R,I.outF (ZK Yd),I.kept⟩)
def WH (e : V16) (f : V16) (b : V16 × Int) : Option (Fl (V16 × Int) V16) :=
 if decide (b.2 < 16) then ((Z4 e b.2).bind λc=>(Z4 f (bI c)).bind λd=>(Z4 b.1 b.2).bind λh=>some (Fl.nx ((b.1.setIfInBounds (b.2).toNat d),wr (b.2 + 1)))) else (some (Fl.ex b.1))
def Ug (b : V16) (c : V16) : Option (V16) :=
 (ZQ (WH b c) ((Vector.replicate 16 (0 : UInt8)),0)).bind λd=>some d
theorem AY (h : World) (q : V16) (t : V16) (r : V16) (J : Ug q t = some r) :
  Calls prog 318 [Value.agg (enc q).toArray,Value.agg (enc t).toArray].toArray h (Rt h (Value.agg (enc r).toArray)):=by
 refine ce func318 ?_
 intro a H
 have I:=M.start h
 unfold Ug at J
 refine Zb (Z1 (cs:=enc q) H I Za ld R R λF w a I H=>Z1 (cs:=enc t) H I Za ld R R λA w a I H=>Zv H I ZL λu w a I H=>Ze (Zb (Y6 (parts:=[]) (vs:=[]) (cs:=enc xc) H Za ld R R ZL R ty5 YO λa H=>Zv H I ZL λy w a I H=>Zl (seg:=enc xc) (cs':=enc xc) H I Za R R R ZL (u_1 _) (zle flq) (s_1 _) (Zh flq) λw a I H=>Ze (s_2 (Zb (Zq H R Ap R I.ra3 (u_1 _) λa H=>Zd H R λa H=>Ze ?_))))))
 obtain ⟨z,i,j⟩:=p_1 J
 refine ZV (λa w=>Env 21 a [(4,ptr u 0),(5,ptr y 0)] ∧ M (Old h) h w [raw y (enc z),raw u xl]) ?_ ?_
 ·refine p_2 ?_
  have I:=M.fst (l:=[_,_,_]) I.pl2.pl2.pl2
  refine ZP (λ(c : V16 × Int) a w=>Env 21 a [(3,ptr A 0),(4,ptr u 0),(5,ptr y 0),(9,Value.agg (enc q).toArray),(10,vI c.2)] ∧ M (Old h) h w [raw y (enc c.1),raw u xl,raw A (enc t)]) i ⟨H.s,I⟩ ?_
  rintro c a w ⟨H,I⟩ B b k
  unfold WH at b
  refine Zb (Zn H R R R λa H=>Ze (s_2 ?_))
  refine c_if H R b ?_ ?_
  ·intro m b
   refine u_2 (ZA (s_2 (p_2 (Zb (Zd H R λa H=>?_)))))
   obtain ⟨C,n,b⟩:=bvx b
   refine BU H Za ld R R o_7 ty5 R R n R λa H=>Zc H R λa H=>Zc H R λa H=>Ze (t_1 (Zd H R λa H=>Zd H R λa H=>?_))
   obtain ⟨d,f,b⟩:=bvx b
   refine ZR H R R o_4 ty5 f.1 λa H=>ZB (v:=(vB d)) H R ty5 R (At.vec I.ra2 f.2) λa H=>?_
   obtain ⟨E,e,b⟩:=bvx b
   refine ZR H R R o_4 ty5 e.1 λa H=>Zl (seg:=[vB d]) (cs':=enc (c.1.setIfInBounds (c.2).toNat d)) H I Za R R R ty5 R (Yf (v:=c.1) (x:=d) e.1) (s_1 (d : UInt8)) (ZS (v:=c.1) (x:=d) e.1) λw a I H=>Zj (Yy (ZA (t_1 (Zn H R R R λa H=>Zd H R λa H=>Zj (Zk ?_)))))
   exact ⟨_,ois b,H.s,I⟩
  intro m b
  refine s_4 (Zu (Zu (YE ?_)))
  obtain rfl:=k _ (ois b)
  refine Zk ?_
  have I:=M.fst (l:=[_,_]) I.pl1.pl1
  exact ⟨H.s,I⟩
 rintro a w ⟨H,I⟩
 refine ZA (Zb (Zq H R ZL R I.ra0 (u_1 _) λa H=>?_))
 have I:=I.pl1
 refine Zl (seg:=enc z) (cs':=enc z) H I Za R R R ZL (u_1 _) (zle flq) (s_1 _) (Zh flq) λw a I H=>Ze ?_
 obtain rfl:=o_1 j
 have o : Z7 prog _ _ (.cell 4 53) _:=ZE H R ZL R I.ra0 (u_1 _) R
 exact p_3 (ZY H R o ⟨_,R,R,I.kept⟩)
def Vo (c : (Ref (Vector (Vector V256 4) 4))) (u : V16 × Int) (d : UInt8 × UInt8 × UInt8 × UInt8) (b : V16 × Int) : Option (Fl (V16 × Int) V16) :=
 if decide (b.2 < 4) then ((Z4 c.v b.2).bind λe=>(Z4 e (0 : Int)).bind λf=>(Z4 f (bI d.1)).bind λh=>(Z4 c.v b.2).bind λi=>(Z4 i (1 : Int)).bind λj=>(Z4 j (bI d.2.1)).bind λk=>(Z4 c.v b.2).bind λl=>(Z4 l (2 : Int)).bind λm=>(Z4 m (bI d.2.2.1)).bind λn=>(Z4 c.v b.2).bind λo=>(Z4 o (3 : Int)).bind λq=>(Z4 q (bI d.2.2.2)).bind λt=>(Z4 b.1 (wr (u.2 + b.2))).bind λx=>some (Fl.nx ((b.1.setIfInBounds ((wr (u.2 + b.2))).toNat (((h ^^^ k) ^^^ n) ^^^ t)),wr (b.2 + 1)))) else (some (Fl.ex b.1))
def Vt (i : (Ref (Vector (Vector V256 4) 4))) (b : V16 × Int) : Option (Fl (V16 × Int) V16) :=
 if decide (b.2 < (b.1.toList.length : Int)) then (((Z4 b.1 b.2).bind λc=>(Z4 b.1 (wr (b.2 + 1))).bind λd=>(Z4 b.1 (wr (b.2 + 2))).bind λe=>(Z4 b.1 (wr (b.2 + 3))).bind λf=>some (c,d,e,f) : Option (UInt8 × UInt8 × UInt8 × UInt8)).bind λj=>(ZQ (Vo i b j) (b.1,0)).bind λh=>some (Fl.nx (h,wr (b.2 + 4)))) else (some (Fl.ex b.1))
def Tj (b : (Ref (Vector (Vector V256 4) 4))) (c : V16) : Option (V16) :=
 (ZQ (Vt b) (c,0)).bind λd=>some d
theorem yE (St : Nat → Prop) (W w0 : World) (its : List Item) (p0 : (Ref xr)) (i : Value) (C : Rep.sat St W p0 [i] []) (f : Nat) (p1 : V16) (I : M St W w0 (raw f (enc p1) :: its)) (r : V16) (J : Tj p0 p1 = some r) :
  Calls prog 319 [i,Value.slice (some ⟨f,0,none⟩) 16 16].toArray w0 (e_r λv w'=>(v = (Value.tuple [].toArray) ∧ M St W w' (raw f (enc r) :: its))):=by
 refine ce func319 ?_
 intro a H
 unfold Tj at J
 refine Zb (Zc H R λa H=>Ze ?_)
 obtain ⟨j1,bh,bi⟩:=p_1 J
 refine ZV (λa w=>Env 79 a [(1,Value.slice (some ⟨f,0,none⟩) 16 16)] ∧ M St W w (raw f (enc j1) :: its)) ?_ ?_
 ·refine p_2 ?_
  refine ZP (λ(k : V16 × Int) a w=>Env 79 a [(0,i),(1,Value.slice (some ⟨f,0,none⟩) 16 16),(4,vI k.2)] ∧ M St W w (raw f (enc k.1) :: its)) bh ⟨H.s,I⟩ ?_
  rintro k a w ⟨H,I⟩ o7 E bj
  unfold Vt at E
  refine s_2 (Zb (Zd H R λa H=>Zd H R λa H=>Yu H R o_2 (Zhh I.ra0) λa H=>Zn H R R R λa H=>Ze ?_))
  refine c_if H R E ?_ ?_
  ·intro bk E
   refine u_2 (ZA (s_2 (p_2 ?_)))
   obtain ⟨t,o,av⟩:=p_1 E
   refine ZI (λa w=>Env 79 a [(0,i),(1,Value.slice (some ⟨f,0,none⟩) 16 16),(4,vI k.2),(5,vB t.1),(6,vB t.2.1),(7,vB t.2.2.1),(8,vB t.2.2.2)] ∧ M St W w (raw f (enc k.1) :: its)) ?_ ?_
   ·obtain ⟨F,O,o⟩:=bvx o
    obtain ⟨G,T,o⟩:=bvx o
    obtain ⟨K,U,o⟩:=bvx o
    obtain ⟨L,X,o⟩:=bvx o
    refine Zip (n:=79) (hd:=[_,_,_,_,_,_,_,_,_,_,_,_,_,_,_,_,_,_,_,_,_,_,_]) (tl:=[]) Yx R R [16,17,18,19,20,21,22,23,24,25,26,27,28,29,30,31,32,33,34,5,6,7,8] dd_ (λw=>M St W w (raw f (enc k.1) :: its)) (λj=>([λv _=>v = (Value.slice (some ⟨f,0,none⟩) 16 16),λv _=>v = (vI k.2),λv _=>v = (ptr f (0 + (k.2).toNat * 1)),λv _=>v = (vB F),λv _=>v = (Value.slice (some ⟨f,0,none⟩) 16 16),λv _=>v = (vI k.2),λv _=>v = (vI (wr (k.2 + 1))),λv _=>v = (ptr f (0 + ((wr (k.2 + 1))).toNat * 1)),λv _=>v = (vB G),λv _=>v = (Value.slice (some ⟨f,0,none⟩) 16 16),λv _=>v = (vI k.2),λv _=>v = (vI (wr (k.2 + 2))),λv _=>v = (ptr f (0 + ((wr (k.2 + 2))).toNat * 1)),λv _=>v = (vB K),λv _=>v = (Value.slice (some ⟨f,0,none⟩) 16 16),λv _=>v = (vI k.2),λv _=>v = (vI (wr (k.2 + 3))),λv _=>v = (ptr f (0 + ((wr (k.2 + 3))).toNat * 1)),λv _=>v = (vB L),λv _=>v = (vB F),λv _=>v = (vB G),λv _=>v = (vB K),λv _=>v = (vB L)] : List (Value → World → Prop)).getD j (λ_ _=>True)) (λ_ _ h hk=>h.keep hk) (gup gu23) H I.drew (st23 ?_ ?_ ?_ ?_ ?_ ?_ ?_ ?_ ?_ ?_ ?_ ?_ ?_ ?_ ?_ ?_ ?_ ?_ ?_ ?_ ?_ ?_ ?_) ?_
    ·exact qm
    ·exact qm
    ·intro a w c H I hp
     have f0 : c 0 = (Value.slice (some ⟨f,0,none⟩) 16 16):=hp 0 _ R R
     have f1 : c 1 = (vI k.2):=hp 1 _ R R
     exact UJ H Za ld (lk R f0) (lk R f1) o_2 ty5 O.1 λa H=>kq R H R
    ·intro a w c H I hp
     have f2 : c 2 = (ptr f (0 + (k.2).toNat * 1)):=hp 0 _ R R
     exact ZB (v:=(vB F)) H (lk R f2) ty5 R (At.vec I.ra0 O.2) λa H=>kq R H R
    ·exact qm
    ·exact qm
    ·intro a w c H I hp
     have f5 : c 5 = (vI k.2):=hp 0 _ R R
     exact Zn H (lk R f5) R R λa H=>kq R H R
    ·intro a w c H I hp
     have f4 : c 4 = (Value.slice (some ⟨f,0,none⟩) 16 16):=hp 0 _ R R
     have f6 : c 6 = (vI (wr (k.2 + 1))):=hp 1 _ R R
     exact UJ H Za ld (lk R f4) (lk R f6) o_2 ty5 T.1 λa H=>kq R H R
    ·intro a w c H I hp
     have f7 : c 7 = (ptr f (0 + ((wr (k.2 + 1))).toNat * 1)):=hp 0 _ R R
     exact ZB (v:=(vB G)) H (lk R f7) ty5 R (At.vec I.ra0 T.2) λa H=>kq R H R
    ·exact qm
    ·exact qm
    ·intro a w c H I hp
     have ak : c 10 = (vI k.2):=hp 0 _ R R
     exact Zn H (lk R ak) R R λa H=>kq R H R
    ·intro a w c H I hp
     have f9 : c 9 = (Value.slice (some ⟨f,0,none⟩) 16 16):=hp 0 _ R R
     have al : c 11 = (vI (wr (k.2 + 2))):=hp 1 _ R R
     exact UJ H Za ld (lk R f9) (lk R al) o_2 ty5 U.1 λa H=>kq R H R
    ·intro a w c H I hp
     have am : c 12 = (ptr f (0 + ((wr (k.2 + 2))).toNat * 1)):=hp 0 _ R R
     exact ZB (v:=(vB K)) H (lk R am) ty5 R (At.vec I.ra0 U.2) λa H=>kq R H R
    ·exact qm
    ·exact qm
    ·intro a w c H I hp
     have an : c 15 = (vI k.2):=hp 0 _ R R
     exact Zn H (lk R an) R R λa H=>kq R H R
    ·intro a w c H I hp
     have ao : c 14 = (Value.slice (some ⟨f,0,none⟩) 16 16):=hp 0 _ R R
     have ap : c 16 = (vI (wr (k.2 + 3))):=hp 1 _ R R
     exact UJ H Za ld (lk R ao) (lk R ap) o_2 ty5 X.1 λa H=>kq R H R
    ·intro a w c H I hp
     have aq : c 17 = (ptr f (0 + ((wr (k.2 + 3))).toNat * 1)):=hp 0 _ R R
     exact ZB (v:=(vB L)) H (lk R aq) ty5 R (At.vec I.ra0 X.2) λa H=>kq R H R
    ·intro a w c H I hp
     have f3 : c 3 = (vB F):=hp 0 _ R R
     exact Zc H (lk R f3) λa H=>kq R H R
    ·intro a w c H I hp
     have f8 : c 8 = (vB G):=hp 0 _ R R
     exact Zc H (lk R f8) λa H=>kq R H R
    ·intro a w c H I hp
     have ar : c 13 = (vB K):=hp 0 _ R R
     exact Zc H (lk R ar) λa H=>kq R H R
    ·intro a w c H I hp
     have au : c 18 = (vB L):=hp 0 _ R R
     exact Zc H (lk R au) λa H=>kq R H R
    intro a w c H I hg
    have H:=H.sub (e':=[(5,vB F),(6,vB G),(7,vB K),(8,vB L),(0,i),(1,Value.slice (some ⟨f,0,none⟩) 16 16),(4,vI k.2),(10,vI k.2),(11,Value.slice (some ⟨f,0,none⟩) 16 16),(12,vI (k.1.toList.length : Int)),(13,vT (decide (k.2 < (k.1.toList.length : Int))))]) ⟨lk R (hg 19 dd_),lk R (hg 20 dd_),lk R (hg 21 dd_),lk R (hg 22 dd_),R,R,R,R,R,R,R,trivial⟩
    refine Zj ?_
    obtain rfl:=o_1 o
    refine Zk ?_
    exact ⟨H.s,I⟩
   rintro a w ⟨H,I⟩
   refine Zb (Zd H R λa H=>Ze ?_)
   obtain ⟨bv,aw,ax⟩:=p_1 av
   refine ZV (λa w=>Env 79 a [(0,i),(1,Value.slice (some ⟨f,0,none⟩) 16 16),(4,vI k.2)] ∧ M St W w (raw f (enc bv) :: its)) ?_ ?_
   ·refine p_2 ?_
    refine ZP (λ(d : V16 × Int) a w=>Env 79 a [(0,i),(1,Value.slice (some ⟨f,0,none⟩) 16 16),(4,vI k.2),(5,vB t.1),(6,vB t.2.1),(7,vB t.2.2.1),(8,vB t.2.2.2),(35,vI d.2)] ∧ M St W w (raw f (enc d.1) :: its)) aw ⟨H.s,I⟩ ?_
    rintro d a w ⟨H,I⟩ cr e ay
    unfold Vo at e
    refine Zb (Zn H R R R λa H=>Ze (s_2 ?_))
    refine c_if H R e ?_ ?_
    ·intro az e
     refine u_2 (ZA (s_2 (p_2 (Zb (Zd H R λa H=>Zc H R λa H=>Ze ?_)))))
     obtain ⟨u,cl,a0,a1,a2,a3⟩:=Kl C -- ^
     obtain ⟨rfl,_⟩:=Jq.1 a1 -- ^
     obtain ⟨cs,Y,e⟩:=bvx e
     obtain ⟨ct,Z,e⟩:=bvx e
     obtain ⟨l,aa,e⟩:=bvx e
     obtain ⟨y,cm,a4,a5,a6,a7⟩:=Kl C -- ^
     obtain ⟨rfl,_⟩:=Jq.1 a5 -- ^
     obtain ⟨cu,ab,e⟩:=bvx e
     obtain ⟨cv,ac,e⟩:=bvx e
     obtain ⟨m,ad,e⟩:=bvx e
     obtain ⟨z,cn,a8,a9,ba,bb⟩:=Kl C -- ^
     obtain ⟨rfl,_⟩:=Jq.1 a9 -- ^
     obtain ⟨cw,ae,e⟩:=bvx e
     obtain ⟨cx,af,e⟩:=bvx e
     obtain ⟨q,ag,e⟩:=bvx e
     obtain ⟨A,co,bc,bd,be,bg⟩:=Kl C -- ^
     obtain ⟨rfl,_⟩:=Jq.1 bd -- ^
     obtain ⟨cy,ah,e⟩:=bvx e
     obtain ⟨cz,ai,e⟩:=bvx e
     obtain ⟨B,aj,e⟩:=bvx e
     obtain ⟨c0,N,e⟩:=bvx e
     refine Zip (n:=79) (hd:=[_,_,_,_,_,_,_,_,_,_,_,_,_,_,_,_,_,_,_,_,_,_,_,_,_,_,_,_,_,_,_,_,_,_,_,_,_,_,_,_]) (tl:=[_]) Yx R R [38,39,40,41,42,43,44,45,46,47,48,49,50,51,52,53,54,55,56,57,58,59,60,61,62,63,64,65,66,67,68,69,70,71,72,73,74,75,76,77] dd_ (λw=>M St W w (raw f (enc d.1) :: its)) (λj=>([λv _=>v = (Value.slice (some ⟨f,0,none⟩) 16 16),λv _=>v = (vI k.2),λv _=>v = (vI d.2),λv _=>v = (vI (wr (k.2 + d.2))),λv _=>v = i,λv _=>v = (vI d.2),λv _=>v = (vB t.1),λv _=>v = (ptr u 0),λv _=>v = (ptr u (0 + (d.2).toNat * 1024)),λv _=>v = (ptr u (0 + (d.2).toNat * 1024 + (xi).toNat * 256)),λv _=>v = (ptr u (0 + (d.2).toNat * 1024 + (xi).toNat * 256 + ((bI t.1)).toNat * 1)),λv _=>v = (vB l),λv _=>v = i,λv _=>v = (vI d.2),λv _=>v = (vB t.2.1),λv _=>v = (ptr y 0),λv _=>v = (ptr y (0 + (d.2).toNat * 1024)),λv _=>v = (ptr y (0 + (d.2).toNat * 1024 + ((1 : Int)).toNat * 256)),λv _=>v = (ptr y (0 + (d.2).toNat * 1024 + ((1 : Int)).toNat * 256 + ((bI t.2.1)).toNat * 1)),λv _=>v = (vB m),λv _=>v = (vB (l ^^^ m)),λv _=>v = i,λv _=>v = (vI d.2),λv _=>v = (vB t.2.2.1),λv _=>v = (ptr z 0),λv _=>v = (ptr z (0 + (d.2).toNat * 1024)),λv _=>v = (ptr z (0 + (d.2).toNat * 1024 + ((2 : Int)).toNat * 256)),λv _=>v = (ptr z (0 + (d.2).toNat * 1024 + ((2 : Int)).toNat * 256 + ((bI t.2.2.1)).toNat * 1)),λv _=>v = (vB q),λv _=>v = (vB ((l ^^^ m) ^^^ q)),λv _=>v = i,λv _=>v = (vI d.2),λv _=>v = (vB t.2.2.2),λv _=>v = (ptr A 0),λv _=>v = (ptr A (0 + (d.2).toNat * 1024)),λv _=>v = (ptr A (0 + (d.2).toNat * 1024 + ((3 : Int)).toNat * 256)),λv _=>v = (ptr A (0 + (d.2).toNat * 1024 + ((3 : Int)).toNat * 256 + ((bI t.2.2.2)).toNat * 1)),λv _=>v = (vB B),λv _=>v = (vB (((l ^^^ m) ^^^ q) ^^^ B)),λv _=>v = (ptr f (0 + ((wr (k.2 + d.2))).toNat * 1))] : List (Value → World → Prop)).getD j (λ_ _=>True)) (λ_ _ h hk=>h.keep hk) (gup (Wg (Wg (Wg (Wg (Wg (Wg (Wg (Wg (Wg (Wg (Wg (Wg (Wg (Wg (Wg (Wg (Wg (Wg (Wg (Wg (Wg (Wg (Wg (Wg (Wg (Wg (Wg (Wg (Wg (Wg (Wg (Wg (Wg (Wg (Wg (Wg (Wg (Wg (Wg (Wg gupN))))))))))))))))))))))))))))))))))))))))) H I.drew (Zc0 (ZN ?_ (ZN ?_ (ZN ?_ (ZN ?_ (ZN ?_ (ZN ?_ (ZN ?_ (ZN ?_ (ZN ?_ (ZN ?_ (ZN ?_ (ZN ?_ (ZN ?_ (ZN ?_ (ZN ?_ (ZN ?_ (ZN ?_ (ZN ?_ (ZN ?_ (ZN ?_ (ZN ?_ (ZN ?_ (ZN ?_ (ZN ?_ (ZN ?_ (ZN ?_ (ZN ?_ (ZN ?_ (ZN ?_ (ZN ?_ (ZN ?_ (ZN ?_ (ZN ?_ (ZN ?_ (ZN ?_ (ZN ?_ (ZN ?_ (ZN ?_ (ZN ?_ (ZN ?_ qQ))))))))))))))))))))))))))))))))))))))))) ?_
     ·exact qm
     ·exact qm
     ·exact qm
     ·intro a w b H I hp
      have f1 : b 1 = (vI k.2):=hp 0 _ R R
      have f2 : b 2 = (vI d.2):=hp 1 _ R R
      exact Zn H (lk R f1) (lk R f2) R λa H=>kq R H R
     ·exact qm
     ·exact qm
     ·exact qm
     ·intro a w b H I hp
      have f4 : b 4 = i:=hp 0 _ R R
      exact YZ H Za ld (lk (lk R f4) a0) λa H=>kq R H R
     ·intro a w b H I hp
      have f5 : b 5 = (vI d.2):=hp 1 _ R R
      have f7 : b 7 = (ptr u 0):=hp 0 _ R R
      exact ZR H (lk R f7) (lk R f5) s_6 km Y.1 λa H=>kq R H R
     ·intro a w b H I hp
      have f8 : b 8 = (ptr u (0 + (d.2).toNat * 1024)):=hp 0 _ R R
      exact ZR H (lk R f8) R t_6 ty55 Z.1 λa H=>kq R H R
     ·intro a w b H I hp
      have f6 : b 6 = (vB t.1):=hp 1 _ R R
      have f9 : b 9 = (ptr u (0 + (d.2).toNat * 1024 + (xi).toNat * 256)):=hp 0 _ R R
      exact ZR H (lk R f9) (lk R f6) p_7 ty5 aa.1 λa H=>kq R H R
     ·intro a w b H I hp
      have ak : b 10 = (ptr u (0 + (d.2).toNat * 1024 + (xi).toNat * 256 + ((bI t.1)).toNat * 1)):=hp 0 _ R R
      exact ZB (v:=(vB l)) H (lk R ak) ty5 R (At.vec (At.vec (At.vec (I.atk a2 a3) Y.2) Z.2) aa.2) λa H=>kq R H R
     ·exact qm
     ·exact qm
     ·exact qm
     ·intro a w b H I hp
      have am : b 12 = i:=hp 0 _ R R
      exact YZ H Za ld (lk (lk R am) a4) λa H=>kq R H R
     ·intro a w b H I hp
      have ar : b 13 = (vI d.2):=hp 1 _ R R
      have an : b 15 = (ptr y 0):=hp 0 _ R R
      exact ZR H (lk R an) (lk R ar) s_6 km ab.1 λa H=>kq R H R
     ·intro a w b H I hp
      have ap : b 16 = (ptr y (0 + (d.2).toNat * 1024)):=hp 0 _ R R
      exact ZR H (lk R ap) R t_6 ty55 ac.1 λa H=>kq R H R
     ·intro a w b H I hp
      have ao : b 14 = (vB t.2.1):=hp 1 _ R R
      have aq : b 17 = (ptr y (0 + (d.2).toNat * 1024 + ((1 : Int)).toNat * 256)):=hp 0 _ R R
      exact ZR H (lk R aq) (lk R ao) p_7 ty5 ad.1 λa H=>kq R H R
     ·intro a w b H I hp
      have au : b 18 = (ptr y (0 + (d.2).toNat * 1024 + ((1 : Int)).toNat * 256 + ((bI t.2.1)).toNat * 1)):=hp 0 _ R R
      exact ZB (v:=(vB m)) H (lk R au) ty5 R (At.vec (At.vec (At.vec (I.atk a6 a7) ab.2) ac.2) ad.2) λa H=>kq R H R
     ·intro a w b H I hp
      have al : b 11 = (vB l):=hp 0 _ R R
      have bw : b 19 = (vB m):=hp 1 _ R R
      exact Zn H (lk R al) (lk R bw) (Uj l m) λa H=>kq R H R
     ·exact qm
     ·exact qm
     ·exact qm
     ·intro a w b H I hp
      have bx : b 21 = i:=hp 0 _ R R
      exact YZ H Za ld (lk (lk R bx) a8) λa H=>kq R H R
     ·intro a w b H I hp
      have bz : b 22 = (vI d.2):=hp 1 _ R R
      have b0 : b 24 = (ptr z 0):=hp 0 _ R R
      exact ZR H (lk R b0) (lk R bz) s_6 km ae.1 λa H=>kq R H R
     ·intro a w b H I hp
      have b1 : b 25 = (ptr z (0 + (d.2).toNat * 1024)):=hp 0 _ R R
      exact ZR H (lk R b1) R t_6 ty55 af.1 λa H=>kq R H R
     ·intro a w b H I hp
      have b2 : b 23 = (vB t.2.2.1):=hp 1 _ R R
      have b3 : b 26 = (ptr z (0 + (d.2).toNat * 1024 + ((2 : Int)).toNat * 256)):=hp 0 _ R R
      exact ZR H (lk R b3) (lk R b2) p_7 ty5 ag.1 λa H=>kq R H R
     ·intro a w b H I hp
      have b4 : b 27 = (ptr z (0 + (d.2).toNat * 1024 + ((2 : Int)).toNat * 256 + ((bI t.2.2.1)).toNat * 1)):=hp 0 _ R R
      exact ZB (v:=(vB q)) H (lk R b4) ty5 R (At.vec (At.vec (At.vec (I.atk ba bb) ae.2) af.2) ag.2) λa H=>kq R H R
     ·intro a w b H I hp
      have b5 : b 20 = (vB (l ^^^ m)):=hp 0 _ R R
      have b6 : b 28 = (vB q):=hp 1 _ R R
      exact Zn H (lk R b5) (lk R b6) (Uj (l ^^^ m) q) λa H=>kq R H R
     ·exact qm
     ·exact qm
     ·exact qm
     ·intro a w b H I hp
      have b7 : b 30 = i:=hp 0 _ R R
      exact YZ H Za ld (lk (lk R b7) bc) λa H=>kq R H R
     ·intro a w b H I hp
      have b8 : b 31 = (vI d.2):=hp 1 _ R R
      have b9 : b 33 = (ptr A 0):=hp 0 _ R R
      exact ZR H (lk R b9) (lk R b8) s_6 km ah.1 λa H=>kq R H R
     ·intro a w b H I hp
      have ca : b 34 = (ptr A (0 + (d.2).toNat * 1024)):=hp 0 _ R R
      exact ZR H (lk R ca) R t_6 ty55 ai.1 λa H=>kq R H R
     ·intro a w b H I hp
      have cb : b 32 = (vB t.2.2.2):=hp 1 _ R R
      have cc : b 35 = (ptr A (0 + (d.2).toNat * 1024 + ((3 : Int)).toNat * 256)):=hp 0 _ R R
      exact ZR H (lk R cc) (lk R cb) p_7 ty5 aj.1 λa H=>kq R H R
     ·intro a w b H I hp
      have cd : b 36 = (ptr A (0 + (d.2).toNat * 1024 + ((3 : Int)).toNat * 256 + ((bI t.2.2.2)).toNat * 1)):=hp 0 _ R R
      exact ZB (v:=(vB B)) H (lk R cd) ty5 R (At.vec (At.vec (At.vec (I.atk be bg) ah.2) ai.2) aj.2) λa H=>kq R H R
     ·intro a w b H I hp
      have cf : b 29 = (vB ((l ^^^ m) ^^^ q)):=hp 0 _ R R
      have cg : b 37 = (vB B):=hp 1 _ R R
      exact Zn H (lk R cf) (lk R cg) (Uj ((l ^^^ m) ^^^ q) B) λa H=>kq R H R
     ·intro a w b H I hp
      have f0 : b 0 = (Value.slice (some ⟨f,0,none⟩) 16 16):=hp 0 _ R R
      have f3 : b 3 = (vI (wr (k.2 + d.2))):=hp 1 _ R R
      exact UJ H Za ld (lk R f0) (lk R f3) o_2 ty5 N.1 λa H=>kq R H R
     intro a w b H I hg
     have H:=H.sub (e':=[(76,vB (((l ^^^ m) ^^^ q) ^^^ B)),(77,ptr f (0 + ((wr (k.2 + d.2))).toNat * 1)),(0,i),(1,Value.slice (some ⟨f,0,none⟩) 16 16),(4,vI k.2),(5,vB t.1),(6,vB t.2.1),(7,vB t.2.2.1),(8,vB t.2.2.2),(9,vI d.2),(35,vI d.2),(36,vT (decide (d.2 < 4))),(37,vI d.2)]) ⟨lk R (hg 38 dd_),lk R (hg 39 dd_),R,R,R,R,R,R,R,R,R,R,R,trivial⟩
     refine Zl (seg:=[vB (((l ^^^ m) ^^^ q) ^^^ B)]) (cs':=enc (d.1.setIfInBounds ((wr (k.2 + d.2))).toNat (((l ^^^ m) ^^^ q) ^^^ B))) H I Za R R R ty5 R (Yf (v:=d.1) (x:=((l ^^^ m) ^^^ q) ^^^ B) N.1) (s_1 (((l ^^^ m) ^^^ q) ^^^ B : UInt8)) (ZS (v:=d.1) (x:=((l ^^^ m) ^^^ q) ^^^ B) N.1) λw a I H=>Zj (Yy (ZA (t_1 (Zn H R R R λa H=>Zd H R λa H=>Zj (Zk ?_)))))
     exact ⟨_,ois e,H.s,I⟩
    intro az e
    refine s_4 (Zu (Zu (YE ?_)))
    obtain rfl:=ay _ (ois e)
    refine Zk ?_
    exact ⟨H.s,I⟩
   rintro a w ⟨H,I⟩
   refine Yy (ZA (t_1 (Zd H R λa H=>Zn H R R R λa H=>Zc H R λa H=>Zj (Zk ?_))))
   exact ⟨_,ois ax,H.s,I⟩
  intro bk E
  refine s_4 (Zu (Zu (YE ?_)))
  obtain rfl:=bj _ (ois E)
  refine Zk ?_
  exact ⟨H.s,I⟩
 rintro a w ⟨H,I⟩
 obtain rfl:=o_1 bi
 exact Zjg H (by rfl) ⟨_,R,R,I⟩
def Xc (f : (Ref Gengine)) (c : V16 × Int) (b : V16 × Int) : Option (Fl (V16 × Int) V16) :=
 if decide (b.2 < 16) then ((Z4 c.1 b.2).bind λd=>(Z4 f.v.box (bI d)).bind λe=>(Z4 b.1 b.2).bind λh=>some (Fl.nx ((b.1.setIfInBounds (b.2).toNat e),wr (b.2 + 1)))) else (some (Fl.ex b.1))
def Xd (d : (Ref Gengine)) (e : List V16) (b : V16 × Int) : Option (Fl (V16 × Int) V16) :=
 if decide (b.2 < (e.length : Int)) then (((ZQ (Xc d b) (b.1,0)).bind λf=>((Ug d.v.places f).bind λh=>some h : Option (V16)).bind λc=>(if decide (b.2 < (wr ((e.length : Int) - 1))) then ((slc c.toList (0 : Int) (16 : Int)).bind λn=>(Tj d.v.mixer c).bind λi=>some i) else (some c) : Option (V16)).bind λj=>(idx e b.2).bind λk=>(Xm j k).bind λl=>some l : Option (V16)).bind λm=>some (Fl.nx (m,wr (b.2 + 1)))) else (some (Fl.ex b.1))
def XN (e : (Ref Gengine)) (d : List V16) (f : V16) : Option (V16) :=
 ((idx d (0 : Int)).bind λh=>(Xm f h).bind λb=>some b : Option (V16)).bind λi=>(ZQ (Xd e d) (i,1)).bind λc=>some c
theorem J0 (h : World) (B : (Ref Gengine)) (c : Value) (n : Ro h B [c]) (p1 : List V16) (d : Value) (f : Ro h p1 [d]) (p2 : V16) (r : V16) (J : XN B p1 p2 = some r) :
  Calls prog 275 [c,d,Value.agg (enc p2).toArray].toArray h (Rt h (Value.agg (enc r).toArray)):=by
 refine ce func275 ?_
 intro a H
 have I:=M.start h
 unfold XN at J
 refine Zb (Z1 (cs:=enc p2) H I Za ld R R λk w a I H=>Zv H I ZL λm w a I H=>Ze ?_)
 obtain ⟨j5,t,a2⟩:=p_1 J
 refine ZI (λa w=>Env 59 a [(0,c),(1,d),(5,ptr k 0),(6,ptr m 0)] ∧ M (Old h) h w [raw m xl,raw k (enc j5)]) ?_ ?_
 ·obtain ⟨x9,C,t⟩:=bix t
  obtain ⟨K,a3,t⟩:=p_1 t
  refine Z9 [10,11,12,13,14] Yx R R dd_ R H I (qsP (λz=>Zx z.E Za ld R ZL R (z.M.ra1) (u_1 _) (kr0 R)) (q_m (λ_=>R) (qsP (λz=>Z6 z.E Za ld R R s_3 ZL (z.M.rd f) C.1 (kr0 R)) (qsP (λz=>Zx z.E Za ld R ZL R (YG (z.M.rd f) C.2) (u_1 _) (kr0 R)) (qsP (λz=>Z8 z.E Za ld R Zal (VY _ p2 x9 K a3) (kc R)) qs0))))) ?_
  ·intro a w u H I
   have I:=I.pl1
   refine Zl (seg:=enc K) (cs':=enc K) H I Za R R R ZL (u_1 _) (zle flq) (s_1 _) (Zh flq) λw a I H=>Zj ?_
   obtain rfl:=o_1 t
   refine Zk ?_
   have I:=I.pl1
   exact ⟨H.s,I⟩
 rintro a w ⟨H,I⟩
 refine s_2 (Zb (Zc H R λa H=>Ze ?_))
 obtain ⟨L,W,X⟩:=p_1 a2
 refine ZV (λa w=>Env 59 a [(5,ptr k 0),(6,ptr m 0)] ∧ M (Old h) h w [raw m xl,raw k (enc L)]) ?_ ?_
 ·refine p_2 ?_
  refine ZP (λ(j : V16 × Int) a w=>Env 59 a [(0,c),(1,d),(5,ptr k 0),(6,ptr m 0),(7,vI j.2)] ∧ M (Old h) h w [raw m xl,raw k (enc j.1)]) W ⟨H.s,I⟩ ?_
  rintro j a w ⟨H,I⟩ bm i Y
  unfold Xd at i
  refine s_2 (Zb (Zd H R λa H=>Zd H R λa H=>Yu H R s_3 (I.rd f) λa H=>Zn H R R R λa H=>Ze ?_))
  refine c_if H R i ?_ ?_
  ·intro Z i
   refine u_2 (ZA ?_)
   obtain ⟨a4,aa,ab⟩:=p_1 i
   refine ZI (λa w=>Env 59 a [(0,c),(1,d),(5,ptr k 0),(6,ptr m 0),(7,vI j.2)] ∧ M (Old h) h w [raw m xl,raw k (enc a4)]) ?_ ?_
   ·refine p_2 (s_2 (Zb (Zq H R ZL R I.ra1 (u_1 _) λa H=>Zd H R λa H=>Ze ?_)))
    obtain ⟨ac,ad,ae⟩:=p_1 aa
    refine ZV (λa w=>Env 59 a [(0,c),(1,d),(5,ptr k 0),(6,ptr m 0),(7,vI j.2)] ∧ M (Old h) h w [raw m xl,raw k (enc ac)]) ?_ ?_
    ·refine p_2 ?_
     refine ZP (λ(o : V16 × Int) a w=>Env 59 a [(0,c),(1,d),(5,ptr k 0),(6,ptr m 0),(7,vI j.2),(21,Value.agg (enc j.1).toArray),(22,vI o.2)] ∧ M (Old h) h w [raw m xl,raw k (enc o.1)]) ad ⟨H.s,I⟩ ?_
     rintro o a w ⟨H,I⟩ bn b af
     unfold Xc at b
     refine Zb (Zn H R R R λa H=>Ze (s_2 ?_))
     refine c_if H R b ?_ ?_
     ·intro ag b
      refine u_2 (ZA (s_2 (p_2 (Zb (Zd H R λa H=>?_)))))
      obtain ⟨bo,ah,b⟩:=bvx b
      refine BU H Za ld R R o_4 ty5 R R ah R λa H=>Zc H R λa H=>Zc H R λa H=>Ze (t_1 (Zd H R λa H=>Zd H R λa H=>Zd H R λa H=>?_))
      obtain ⟨bd,be,ai,aj,ak,al⟩:=Kl n -- ^
      obtain ⟨bp,bq,rfl,br,bs⟩:=Je aj -- ^
      refine YZ H Za ld (lk R ai) λa H=>Zm H R (Zby) λa H=>?_
      obtain ⟨q,F,b⟩:=bvx b
      refine ZR H R R p_6 ty5 F.1 λa H=>ZB (v:=(vB q)) H R ty5 R (At.vec (at_0 (I.atk ak al)) F.2) λa H=>?_
      obtain ⟨bt,y,b⟩:=bvx b
      refine ZR H R R o_4 ty5 y.1 λa H=>?_
      have I:=I.pl1
      refine Zl (seg:=[vB q]) (cs':=enc (o.1.setIfInBounds (o.2).toNat q)) H I Za R R R ty5 R (Yf (v:=o.1) (x:=q) y.1) (s_1 (q : UInt8)) (ZS (v:=o.1) (x:=q) y.1) λw a I H=>Zj (Yy (ZA (t_1 (Zn H R R R λa H=>Zd H R λa H=>Zj (Zk ?_)))))
      have I:=I.pl1
      exact ⟨_,ois b,H.s,I⟩
     intro ag b
     refine s_4 (Zu (Zu (YE ?_)))
     obtain rfl:=af _ (ois b)
     refine Zk ?_
     exact ⟨H.s,I⟩
    rintro a w ⟨H,I⟩
    refine ZA ?_
    obtain ⟨am,A,an⟩:=p_1 ae
    refine ZI (λa w=>Env 59 a [(0,c),(1,d),(5,ptr k 0),(6,ptr m 0),(7,vI j.2)] ∧ M (Old h) h w [raw m xl,raw k (enc am)]) ?_ ?_
    ·obtain ⟨bg,bh,ao,ap,aq,ar⟩:=Kl n -- ^
     obtain ⟨u64,bu,rfl,bv,bw⟩:=Je ap -- ^
     obtain ⟨O,a5,A⟩:=p_1 A
     refine Z9 [35,36,37,38,39,40] Yx R R dd_ R H I (q_m (λ_=>R) (qsP (λz=>YZ z.E Za ld (lk R ao) (kr0 R)) (qsP (λz=>Zi z.E Za ld R (Zkb) (kr0 R)) (qsP (λz=>Zx z.E Za ld R Ap R (at_2 (z.M.atk aq ar)) (u_1 _) (kr0 R)) (qsP (λz=>Zx z.E Za ld R ZL R (z.M.ra1) (u_1 _) (kr0 R)) (qsP (λz=>Z8 z.E Za ld R (cbm func318) (AY _ B.v.places ac O a5) (kc R)) qs0)))))) ?_
     ·intro a w u H I
      have I:=I.pl1
      refine Zl (seg:=enc O) (cs':=enc O) H I Za R R R ZL (u_1 _) (zle flq) (s_1 _) (Zh flq) λw a I H=>Zj ?_
      obtain rfl:=o_1 A
      refine Zk ?_
      have I:=I.pl1
      exact ⟨H.s,I⟩
    rintro a w ⟨H,I⟩
    obtain ⟨au,e,l⟩:=p_1 an
    refine ZI (λa w=>Env 59 a [(0,c),(1,d),(5,ptr k 0),(6,ptr m 0),(7,vI j.2)] ∧ M (Old h) h w [raw m xl,raw k (enc au)]) ?_ ?_
    ·refine Zb (Zd H R λa H=>Zd H R λa H=>Yu H R s_3 (I.rd f) λa H=>Zn H R R R λa H=>Zn H R R R λa H=>Ze ?_)
     refine c_if H R e ?_ ?_
     ·intro av e
      obtain ⟨bi,bj,aw,ax,ay,az⟩:=Kl n -- ^
      obtain ⟨u82,u84,rfl,a6,bx⟩:=Je ax -- ^
      obtain ⟨bz,a7,e⟩:=p_1 e
      have a0:=Ku a7 -- ^
      refine Z9 [46,47,48,49,50] Yx R R dd_ R H I (q_m (λ_=>R) (qsP (λz=>YZ z.E Za ld (lk R aw) (kr0 R)) (qsP (λz=>Zi z.E Za ld R (Zjs) (kr0 R)) (qsP (λz=>Zz (v:=u82) z.E Za ld R Zhl R (at_4 (z.M.atk ay az)) (kr0 R)) (qsP (λz=>VA (N:=16) z.E Za ld R R R R R o_4 ty5 a0 (kr0 R)) qs0))))) ?_
      ·intro a w u H I
       have I:=I.pl1
       obtain ⟨a8,a9,e⟩:=p_1 e
       refine Zp H R (cbm func319) (yE _ _ _ _ B.v.mixer u82 a6 k am I a8 a9) ?_
       rintro v w a ⟨rfl,I⟩ H
       refine Zj ?_
       obtain rfl:=o_1 e
       refine Zk ?_
       have I:=I.pl1
       exact ⟨H.s,I⟩
     intro av e
     refine u_2 ?_
     obtain rfl:=o_1 e
     refine Zk ?_
     exact ⟨H.s,I⟩
    rintro a w ⟨H,I⟩
    obtain ⟨ba,G,l⟩:=bix l
    obtain ⟨T,bb,l⟩:=p_1 l
    refine Z9 [52,53,54,55,56,57] Yx R R dd_ R H I (qsP (λz=>Zx z.E Za ld R ZL R (z.M.ra1) (u_1 _) (kr0 R)) (q_m (λ_=>R) (q_m (λ_=>R) (qsP (λz=>Z6 z.E Za ld R R s_3 ZL (z.M.rd f) G.1 (kr0 R)) (qsP (λz=>Zx z.E Za ld R ZL R (YG (z.M.rd f) G.2) (u_1 _) (kr0 R)) (qsP (λz=>Z8 z.E Za ld R Zal (VY _ au ba T bb) (kc R)) qs0)))))) ?_
    ·intro a w u H I
     have I:=I.pl1
     refine Zl (seg:=enc T) (cs':=enc T) H I Za R R R ZL (u_1 _) (zle flq) (s_1 _) (Zh flq) λw a I H=>Zj (Yy ?_)
     obtain rfl:=o_1 l
     refine Zk ?_
     have I:=I.pl1
     exact ⟨H.s,I⟩
   rintro a w ⟨H,I⟩
   refine t_1 (Zd H R λa H=>Zn H R R R λa H=>Zc H R λa H=>Zj (Zk ?_))
   exact ⟨_,ois ab,H.s,I⟩
  intro Z i
  refine s_4 (Zu (Zu (YE ?_)))
  obtain rfl:=Y _ (ois i)
  refine Zk ?_
  exact ⟨H.s,I⟩
 rintro a w ⟨H,I⟩
 refine ZA (Zb (Zq H R ZL R I.ra1 (u_1 _) λa H=>Zl (seg:=enc L) (cs':=enc L) H I Za R R R ZL (u_1 _) (zle flq) (s_1 _) (Zh flq) λw a I H=>Ze ?_))
 obtain rfl:=o_1 X
 have U : Z7 prog _ _ (.cell 6 53) _:=ZE H R ZL R I.ra0 (u_1 _) R
 exact p_3 (ZY H R U ⟨_,R,R,I.kept⟩)
def Xq (b : (Ref Gengine)) (e : V16) (f : V16) : Option (V16) :=
 ((Ul b e b.v.rounds).bind λc=>(XN b c f).bind λd=>some d : Option (V16)).bind λh=>some h
theorem KN (k : World) (e : (Ref Gengine)) (c : Value) (b : Ro k e [c]) (m : V16) (n : V16) (r : V16) (J : Xq e m n = some r) :
  Calls prog 252 [c,Value.agg (enc m).toArray,Value.agg (enc n).toArray].toArray k (Rt k (Value.agg (enc r).toArray)):=by
 refine ce func252 ?_
 intro a H
 have I:=M.start k
 unfold Xq at J
 refine Zb (Z1 (cs:=enc m) H I Za ld R R λU w a I H=>Z1 (cs:=enc n) H I Za ld R R λW w a I H=>Zv H I ZL λB w a I H=>Ze ?_)
 obtain ⟨X,d,C⟩:=p_1 J
 refine ZI (λa w=>Env 17 a [(6,ptr B 0)] ∧ M (Old k) k w [raw B (enc X)]) ?_ ?_
 ·obtain ⟨O,T,o,q,t,x⟩:=Kl b -- ^
  obtain ⟨G,K,rfl,Y,Z⟩:=Je q -- ^
  obtain ⟨h,L,d⟩:=p_1 d
  refine Ys (its:=[raw B xl,raw W (enc n),raw U (enc m)]) (mk:=([mkO 7 (λv=>osl NoB h v)] : Mk)) [7,8,9,10,11,12,13,14,15] Yx R R dd_ R H (λu=>M.qE (M.q0 I.drew u) emO) (q_m (λ_=>R) (q_m (λ_=>R) (qsP (λz=>Zx z.E Za ld R ZL R (z.M.ra2) (u_1 _) (kr0 R)) (q_m (λ_=>R) (qsP (λz=>YZ z.E Za ld (lk R o) (kr0 R)) (qsP (λz=>Zi z.E Za ld R (Zj7) (kr0 R)) (qsP (λz=>Zz (v:=(vI e.v.rounds)) z.E Za ld R ty2 R (At.cat (pre:=[enc e.v.box,enc e.v.backBox,enc e.v.places,enc e.v.backPlaces,[G],[K]]) (z.M.atk t x) ck) (kr0 R)) (q_t ?_ (qsP (λz=>Zx z.E Za ld R ZL R (z.M.ra1) (u_1 _) (kr0 R)) qs0))))))))) ?_
  ·intro a w i D z
   have H:=z.E
   have hD : D 7 = false:=z.F
   have hM0:=z.M
   have I:=z.M
   refine Zp H R (cbm func204) (AM _ e c (I.rdo b) m e.v.rounds h L) ?_
   rintro _ w a ⟨_,rfl,hFr,hK⟩ H
   have I:=hM0.add hK hFr
   exact ⟨_,_,R,H,M.qFill (mk1:=[]) (mk2:=[]) (f:=(λv=>osl NoB h v)) I R hD,trivial⟩
  intro a w i D H I hG y
  have d7:=y 7 dd_
  have I:=I.sure (pre:=[_,_,_]) d7
  obtain ⟨j,N,d⟩:=p_1 d
  refine c_k H I R (cbm func275) (J0 _ e c (I.rdo b) h (i 7) (I.sl3) n j N) λw a I H=>?_
  refine Zl (seg:=enc j) (cs':=enc j) H I Za R R R ZL (u_1 _) (zle flq) (s_1 _) (Zh flq) λw a I H=>Zj ?_
  obtain rfl:=o_1 d
  refine Zk ?_
  have I:=M.fst (l:=[_]) I
  exact ⟨H.s,I⟩
 rintro a w ⟨H,I⟩
 obtain rfl:=o_1 C
 have A : Z7 prog _ _ (.cell 6 53) _:=ZE H R ZL R I.ra0 (u_1 _) R
 exact p_3 (ZY H R A ⟨_,R,R,I.kept⟩)
def Wi (x : (Ref Gengine)) (y : V32) (z : V16) : Option (V32) :=
 (slc y.toList (0 : Int) (16 : Int)).bind λA=>(K4 16 A).bind λf=>(slc y.toList (16 : Int) (32 : Int)).bind λh=>(K4 16 h).bind λb=>(Xm f z).bind λc=>((Xq x b c).bind λi=>(Xm i c).bind λj=>some j : Option (V16)).bind λd=>(Xm b z).bind λe=>((Xq x d e).bind λk=>(Xm k e).bind λl=>some l : Option (V16)).bind λm=>((slc d.toList (0 : Int) (16 : Int)).bind λn=>(slc m.toList (0 : Int) (16 : Int)).bind λo=>(YD ([n,o] : (List (List UInt8)))).bind λq=>(K4 32 q).bind λt=>some t : Option (V32)).bind λu=>some u
theorem BX (y : World) (p0 : (Ref Gengine)) (c : Value) (m : Ro y p0 [c]) (p1 : V32) (B : V16) (r : V32) (J : Wi p0 p1 B = some r) :
  Calls prog 180 [c,Value.agg (enc p1).toArray,Value.agg (enc B).toArray].toArray y (Rt y (Value.agg (enc r).toArray)):=by
 refine ce func180 ?_
 intro a H
 have I:=M.start y
 unfold Wi at J
 refine Zb (Z1 (cs:=enc p1) H I Za ld R R λb1 w a I H=>Z1 (cs:=enc B) H I Za ld R R λb3 w a I H=>Zv H I ZW λC w a I H=>Ze (s_2 ?_))
 obtain ⟨l8,e9,J⟩:=p_1 J
 have Y:=Ku e9 -- ^
 obtain ⟨G,Z,J⟩:=p_1 J
 obtain ⟨a9,K,J⟩:=p_1 J
 have aa:=Ku K -- ^
 obtain ⟨n,ab,J⟩:=p_1 J
 refine Ys (its:=[raw C xm,raw b3 (enc B),raw b1 (enc p1)]) (mk:=([mkO 6 (λv=>Wk v xl),mkO 7 (λv=>Wk v xl)] : Mk)) [11,12,13,14,15,16,7,8] Yx R R dd_ R H (λu=>M.qE (M.qE (M.q0 I.drew u) emO) emO) (qsP (λz=>VA (N:=32) z.E Za ld R R R R R t_4 ty5 Y (kr0 R)) (qsP (λz=>z6 z.E Za ld R o_4 (Xl (At.sat (z.M.ra2) (by simp) dd_) e9) (Jb Z).1 dd_ (kr0 R)) (qsP (λz=>Zx z.E Za ld R ZL R (qh (Xl (At.sat (z.M.ra2) (by simp) dd_) e9) Z dd_) (u_1 _) (kr0 R)) (qsP (λz=>VA (N:=32) z.E Za ld R R R R R t_4 ty5 aa (kr0 R)) (qsP (λz=>z6 z.E Za ld R o_4 (Xl (At.sat (z.M.ra2) (by simp) dd_) K) (Jb ab).1 dd_ (kr0 R)) (qsP (λz=>Zx z.E Za ld R ZL R (qh (Xl (At.sat (z.M.ra2) (by simp) dd_) K) ab dd_) (u_1 _) (kr0 R)) (q_t ?_ (q_t ?_ qs0)))))))) ?_
 ·intro a w ac D z
  have H:=z.E
  have hD : D 6 = false:=z.F
  have I:=z.M
  refine Zv H I ZL λba w a I H=>?_
  have I:=I.pack1 (it:=Wk _ xl) (λw w' fp ⟨b',e,k⟩ hb=>⟨b',e,YN w w' fp k hb⟩) (λfp k=>⟨_,R,k⟩)
  exact ⟨_,_,R,H,M.qFill (mk1:=[]) (mk2:=[_]) (f:=λv=>Wk v xl) I R hD,trivial⟩
 ·intro a w ac D z
  have H:=z.E
  have hD : D 7 = false:=z.F
  have I:=z.M
  refine Zv H I ZL λbb w a I H=>?_
  have I:=I.pack1 (it:=Wk _ xl) (λw w' fp ⟨b',e,k⟩ hb=>⟨b',e,YN w w' fp k hb⟩) (λfp k=>⟨_,R,k⟩)
  exact ⟨_,_,R,H,M.qFill (mk1:=[_]) (mk2:=[]) (f:=λv=>Wk v xl) I R hD,trivial⟩
 intro a w ac D H I hG A
 have d6:=A 6 dd_
 have d7:=A 7 dd_
 have I:=(I.sure (pre:=[_,_,_]) d6).pl
 obtain ⟨_,⟨i,ad,_⟩,_⟩:=I.head
 have I:=((I.pack1 YN (it:=raw i xl) (λfp ⟨b2,L,k2⟩=>by rw [ad] at L; simp [ptr] at L; subst L; exact k2)).sure (pre:=[_,_,_,_]) d7).pl
 obtain ⟨_,⟨j,ae,_⟩,_⟩:=I.head
 have I:=I.pack1 YN (it:=raw j xl) (λfp ⟨b2,L,k2⟩=>by rw [ae] at L; simp [ptr] at L; subst L; exact k2)
 have H:=H.setq (t:=7) R ad
 have H:=H.setq (t:=8) R ae
 have I:=I.pl1
 refine Zl (seg:=enc G) (cs':=enc G) H I Za R R R ZL (u_1 _) (zle flq) (s_1 _) (Zh flq) λw a I H=>?_
 have I:=I.pl1
 refine Zl (seg:=enc n) (cs':=enc n) H I Za R R R ZL (u_1 _) (zle flq) (s_1 _) (Zh flq) λw a I H=>Zj (ZA (Zb (Zq H R ZL R I.ra1 (u_1 _) λa H=>Zq H R ZL R I.ra3 (u_1 _) λa H=>?_)))
 obtain ⟨o,av,J⟩:=p_1 J
 refine c_k H I R Zal (VY _ G B o av) λw a I H=>?_
 refine Zv H I ZL λbg w a I H=>Zl (seg:=enc o) (cs':=enc o) H I Za R R R ZL (u_1 _) (zle flq) (s_1 _) (Zh flq) λw a I H=>Ze ?_
 obtain ⟨O,d,q⟩:=p_1 J
 refine ZI (λa w=>Env 41 a [(0,c),(5,ptr b3 0),(6,ptr C 0),(7,ptr i 0),(8,ptr j 0)] ∧ M (Old y) y w [raw j (enc n),raw i (enc O),raw C xm,raw b3 (enc B)]) ?_ ?_
 ·obtain ⟨af,aw,d⟩:=p_1 d
  obtain ⟨T,ax,d⟩:=p_1 d
  refine Z9 [20,21,22,23,24,25] Yx R R dd_ R H I (q_m (λ_=>R) (qsP (λz=>Zx z.E Za ld R ZL R (z.M.ra1) (u_1 _) (kr0 R)) (qsP (λz=>Zx z.E Za ld R ZL R (z.M.ra0) (u_1 _) (kr0 R)) (qsP (λz=>Z8 z.E Za ld R (cbm func252) (KN _ p0 c (z.M.rdo m) n o af aw) (kc R)) (qsP (λz=>Zx z.E Za ld R ZL R (z.M.ra0) (u_1 _) (kr0 R)) (qsP (λz=>Z8 z.E Za ld R Zal (VY _ af o T ax) (kc R)) qs0)))))) ?_
  ·intro a w u H I
   have I:=I.pl2
   refine Zl (seg:=enc T) (cs':=enc T) H I Za R R R ZL (u_1 _) (zle flq) (s_1 _) (Zh flq) λw a I H=>Zj ?_
   obtain rfl:=o_1 d
   refine Zk ?_
   have I:=M.fst (l:=[_,_,_,_]) I.pl4.pl4.pl2.pl4
   exact ⟨H.s,I⟩
 rintro a w ⟨H,I⟩
 refine Zb (Zq H R ZL R I.ra0 (u_1 _) λa H=>Zq H R ZL R I.ra3 (u_1 _) λa H=>?_)
 obtain ⟨x,ay,q⟩:=p_1 q
 refine c_k H I R Zal (VY _ n B x ay) λw a I H=>?_
 refine Zv H I ZL λbh w a I H=>Zl (seg:=enc x) (cs':=enc x) H I Za R R R ZL (u_1 _) (zle flq) (s_1 _) (Zh flq) λw a I H=>Ze ?_
 obtain ⟨az,h,ag⟩:=p_1 q
 refine ZI (λa w=>Env 41 a [(6,ptr C 0),(7,ptr i 0),(8,ptr j 0)] ∧ M (Old y) y w [raw j (enc az),raw i (enc O),raw C xm]) ?_ ?_
 ·obtain ⟨ah,a0,h⟩:=p_1 h
  obtain ⟨U,a1,h⟩:=p_1 h
  refine Z9 [29,30,31,32,33,34] Yx R R dd_ R H I (q_m (λ_=>R) (qsP (λz=>Zx z.E Za ld R ZL R (z.M.ra2) (u_1 _) (kr0 R)) (qsP (λz=>Zx z.E Za ld R ZL R (z.M.ra0) (u_1 _) (kr0 R)) (qsP (λz=>Z8 z.E Za ld R (cbm func252) (KN _ p0 c (z.M.rdo m) O x ah a0) (kc R)) (qsP (λz=>Zx z.E Za ld R ZL R (z.M.ra0) (u_1 _) (kr0 R)) (qsP (λz=>Z8 z.E Za ld R Zal (VY _ ah x U a1) (kc R)) qs0)))))) ?_
  ·intro a w u H I
   have I:=I.pl1
   refine Zl (seg:=enc U) (cs':=enc U) H I Za R R R ZL (u_1 _) (zle flq) (s_1 _) (Zh flq) λw a I H=>Zj ?_
   obtain rfl:=o_1 h
   refine Zk ?_
   have I:=M.fst (l:=[_,_,_]) I.pl3.pl3.pl2
   exact ⟨H.s,I⟩
 rintro a w ⟨H,I⟩
 obtain ⟨a2,b,ai⟩:=p_1 ag
 refine ZI (λa w=>Env 41 a [(6,ptr C 0)] ∧ M (Old y) y w [raw C (enc a2)]) ?_ ?_
 ·obtain ⟨a3,W,b⟩:=p_1 b
  have aj:=Ku W -- ^
  obtain ⟨a4,X,b⟩:=p_1 b
  have ak:=Ku X -- ^
  refine Z9 [35,36] Yx R R dd_ R H I (qsP (λz=>VA (N:=16) z.E Za ld R R R R R o_4 ty5 aj (kr0 R)) (qsP (λz=>VA (N:=16) z.E Za ld R R R R R o_4 ty5 ak (kr0 R)) qs0)) ?_
  ·intro a w u H I
   refine QE (xs:=[.tmp 35,.tmp 36]) (vs:=[Yg (.slice (some ⟨i,0,none⟩) 16 16) (xi).toNat xy.toNat 1,Yg (.slice (some ⟨j,0,none⟩) 16 16) (xi).toNat xy.toNat 1]) H I Za ld R R o_6 Wo dd_ (Ws (Z5 (Xl (At.sat I.ra1 (by simp) dd_) W)) (Ws (Z5 (Xl (At.sat I.ra0 (by simp) dd_) X)) BP)) λa5 w a I H=>?_
   obtain ⟨a6,a7,b⟩:=p_1 b
   refine Zp H R Zix (Uq _ ([a3,a4] : xz) (Value.slice (some ⟨a5,0,none⟩) 2 2) (AX I.ra0 (I.rawLt (pre:=[])) ⟨Xl (At.sat I.ra2 (by simp) dd_) W,Xl (At.sat I.ra1 (by simp) dd_) X,trivial⟩ R) a6 a7) ?_
   rintro bi w a ⟨_,rfl,hFr,hK⟩ H
   have I:=I.add hK hFr
   obtain ⟨al,am,b⟩:=p_1 b
   refine z6 H Za ld R t_4 (I.sl0) (Jb am).1 dd_ λa H=>Zq H R ZW R (qh (I.sl0) am dd_) (u_1 _) λa H=>?_
   have I:=I.pl4
   refine Zl (seg:=enc al) (cs':=enc al) H I Za R R R ZW (u_1 _) (zle flq) (s_1 _) (Zh flq) λw a I H=>Zj ?_
   obtain rfl:=o_1 b
   refine Zk ?_
   have I:=M.fst (l:=[_]) I
   exact ⟨H.s,I⟩
 rintro a w ⟨H,I⟩
 obtain rfl:=o_1 ai
 have an : Z7 prog _ _ (.cell 6 32) _:=ZE H R ZW R I.ra0 (u_1 _) R
 exact p_3 (ZY H R an ⟨_,R,R,I.kept⟩)
def XZ (f : (Ref Gengine)) (c : List V16) (b : V32 × Int) : Option (Fl (V32 × Int) V32) :=
 if decide (b.2 < (c.length : Int)) then ((idx c b.2).bind λd=>(Wi f b.1 d).bind λe=>some (Fl.nx (e,wr (b.2 + 1)))) else (some (Fl.ex b.1))
def Xo (e : (Ref Gengine)) (f : (List (List UInt8))) : Option (V32) :=
 (Vb).bind λh=>(YD f).bind λi=>(UT i).bind λb=>(TZ b).bind λc=>(ZQ (XZ e c) (h,0)).bind λd=>some d
theorem UL (e : World) (E : (Ref Gengine)) (c : Value) (i : Ro e E [c]) (F : xz) (d : Value) (j : Ro e F [d]) (r : V32) (J : Xo E F = some r) :
  Calls prog 84 [c,d].toArray e (Rt e (Value.agg (enc r).toArray)):=by
 refine ce func84 ?_
 intro a H
 have I:=M.start e
 unfold Xo at J
 refine Zb (Zv H I ZW λB w a I H=>Ze (Zb ?_))
 obtain ⟨G,U,J⟩:=p_1 J
 refine c_k H I R (cbm func176) (B6 _  G U) λw a I H=>?_
 refine Zv H I ZW λC w a I H=>Zl (seg:=enc G) (cs':=enc G) H I Za R R R ZW (u_1 _) (zle flq) (s_1 _) (Zh flq) λw a I H=>Ze (s_2 (Zb (Zd H R λa H=>?_)))
 obtain ⟨T,W,J⟩:=p_1 J
 refine Zp H R Zix (Uq _ F d (I.rdo j) T W) ?_
 rintro X w a ⟨_,rfl,hFr,hK⟩ H
 have I:=I.add hK hFr
 obtain ⟨q,K,J⟩:=p_1 J
 refine Zp H R (cbm func178) (zC _ T X (I.sl0) q K) ?_
 rintro L w a ⟨_,rfl,hFr,hK⟩ H
 have I:=I.add hK hFr
 obtain ⟨k,N,J⟩:=p_1 J
 refine Zp H R (cbm func177) (y8 _ q L (I.sl0) k N) ?_
 rintro t w a ⟨_,rfl,hFr,hK⟩ H
 have I:=I.add hK hFr
 refine Yu H R s_3 (I.sl0) λa H=>Zd H R λa H=>Ze ?_
 obtain ⟨m,u,x⟩:=p_1 J
 refine ZV (λa w=>Env 24 a [(4,ptr B 0),(5,ptr C 0)] ∧ M (Old e) e w [raw C (enc m),raw B xm]) ?_ ?_
 ·refine p_2 ?_
  have I:=M.fst (l:=[_,_,_]) I.pl4.pl4.pl2
  refine ZP (λ(f : V32 × Int) a w=>Env 24 a [(0,c),(4,ptr B 0),(5,ptr C 0),(12,t),(13,vI (k.length : Int)),(14,vI f.2)] ∧ M (Old e) e w [osl NoB k t,raw C (enc f.1),raw B xm]) u ⟨H.s,I⟩ ?_
  rintro f a w ⟨H,I⟩ Y b y
  unfold XZ at b
  refine Zb (Zn H R R R λa H=>Ze (s_2 ?_))
  refine c_if H R b ?_ ?_
  ·intro z b
   refine u_2 (ZA (s_2 (p_2 (Zb ?_))))
   obtain ⟨n,h,b⟩:=bix b
   refine Yp H R R s_3 ZL (I.sl0) h.1 λa H=>Zq H R ZL R (YG (I.sl0) h.2) (u_1 _) λa H=>Zv H I ZL λZ w a I H=>Zl (seg:=enc n) (cs':=enc n) H I Za R R R ZL (u_1 _) (zle flq) (s_1 _) (Zh flq) λw a I H=>Ze (t_1 (Zd H R λa H=>Zq H R ZW R I.ra2 (u_1 _) λa H=>Zq H R ZL R I.ra0 (u_1 _) λa H=>?_))
   obtain ⟨o,O,b⟩:=p_1 b
   refine Zp H R (cbm func180) (BX _ E c (I.rdo i) f.1 n o O) ?_
   rintro v w a ⟨rfl,hK⟩ H
   have I:=(I.keep hK).pl2
   refine Zl (seg:=enc o) (cs':=enc o) H I Za R R R ZW (u_1 _) (zle flq) (s_1 _) (Zh flq) λw a I H=>Zj (Yy (ZA (t_1 (Zn H R R R λa H=>Zd H R λa H=>Zj (Zk ?_)))))
   have I:=M.fst (l:=[_,_,_]) I.pl3.pl1.pl3
   exact ⟨_,ois b,H.s,I⟩
  intro z b
  refine s_4 (Zu (Zu (YE ?_)))
  obtain rfl:=y _ (ois b)
  refine Zk ?_
  have I:=M.fst (l:=[_,_]) I.pl2.pl2
  exact ⟨H.s,I⟩
 rintro a w ⟨H,I⟩
 refine ZA (Zb (Zq H R ZW R I.ra0 (u_1 _) λa H=>?_))
 have I:=I.pl1
 refine Zl (seg:=enc m) (cs':=enc m) H I Za R R R ZW (u_1 _) (zle flq) (s_1 _) (Zh flq) λw a I H=>Ze ?_
 obtain rfl:=o_1 x
 have A : Z7 prog _ _ (.cell 4 32) _:=ZE H R ZW R I.ra0 (u_1 _) R
 exact p_3 (ZY H R A ⟨_,R,R,I.kept⟩)
def Vs (h : (Ref Gengine)) (i : V16) (j : (List (List UInt8))) : Option (V32) :=
 (Wu i 90).bind λk=>(YD j).bind λl=>(Xo h ([k,l] : (List (List UInt8)))).bind λb=>((Wu i 165).bind λc=>(slc b.toList (0 : Int) (32 : Int)).bind λd=>(Xo h ([c,d] : (List (List UInt8)))).bind λe=>some e : Option (V32)).bind λf=>some f
theorem Hf (K : World) (p0 : (Ref Gengine)) (o : Value) (x : Ro K p0 [o]) (C : V16) (p2 : xz) (y : Value) (L : Ro K p2 [y]) (r : V32) (J : Vs p0 C p2 = some r) :
  Calls prog 236 [o,Value.agg (enc C).toArray,y].toArray K (Rt K (Value.agg (enc r).toArray)):=by
 refine ce func236 ?_
 intro a H
 have I:=M.start K
 unfold Vs at J
 refine Zb (Z1 (cs:=enc C) H I Za ld R R λY w a I H=>Zv H I ZW λO w a I H=>Ze (Zb (Zd H R λa H=>Zq H R ZL R I.ra1 (u_1 _) λa H=>?_)))
 obtain ⟨T,e6,J⟩:=p_1 J
 refine Zp H R Zhz (KS _ C 90 T e6) ?_
 rintro A w a ⟨_,rfl,hFr,hK⟩ H
 have I:=I.add hK hFr
 refine Zd H R λa H=>?_
 obtain ⟨U,e9,J⟩:=p_1 J
 refine Zp H R Zix (Uq _ p2 y (I.rdo L) U e9) ?_
 rintro b w a ⟨_,rfl,hFr,hK⟩ H
 have I:=I.add hK hFr
 refine QE (xs:=[.tmp 10,.tmp 12]) (vs:=[A,b]) H I Za ld R R o_6 Wo dd_ (Ws (Z5 (I.sl1)) (Ws (Z5 (I.sl0)) BP)) λq w a I H=>?_
 obtain ⟨h,af,J⟩:=p_1 J
 refine c_k H I R cb84 (UL _ p0 o (I.rdo x) ([T,U] : xz) (Value.slice (some ⟨q,0,none⟩) 2 2) (AX I.ra0 (I.rawLt (pre:=[])) ⟨I.sl2,I.sl1,trivial⟩ R) h af) λw a I H=>?_
 refine Zv H I ZW λe w a I H=>Zl (seg:=enc h) (cs':=enc h) H I Za R R R ZW (u_1 _) (zle flq) (s_1 _) (Zh flq) λw a I H=>Ze ?_
 obtain ⟨ag,d,Z⟩:=p_1 J
 refine ZI (λa w=>Env 21 a [(6,ptr O 0)] ∧ M (Old K) K w [raw O (enc ag)]) ?_ ?_
 ·obtain ⟨n,ah,d⟩:=p_1 d
  obtain ⟨ai,W,d⟩:=p_1 d
  have aa:=Ku W -- ^
  refine Ys (its:=[raw e (enc h),raw q [A,b],osl NoB U b,osl NoB T A,raw O xm,raw Y (enc C)]) (mk:=([mkO 2 (λv=>osl NoB n v),mkL 4 [2] 2 (λus=>[us.getD 0 undef,Yg (.slice (some ⟨e,0,none⟩) 32 32) (xi).toNat xx.toNat 1])] : Mk)) [15,16,17,18,19] Yx R R dd_ R H (λu=>M.qE (M.qE (M.q0 I.drew u) emL) emO) (q_m (λ_=>R) (qsP (λz=>Zx z.E Za ld R ZL R (z.M.ra5) (u_1 _) (kr0 R)) (q_t ?_ (qsP (λz=>VA (N:=32) z.E Za ld R R R R R t_4 ty5 aa (kr0 R)) (q_t ?_ qs0))))) ?_
  ·intro a w B D z
   have H:=z.E
   have hD : D 2 = false:=z.F
   have hsL : D 4 = false:=VE (j:=4) (k:=0) z.c R R R hD
   have hM0:=z.M
   have I:=z.M
   refine Zp H R Zhz (KS _ C 165 n ah) ?_
   rintro _ w a ⟨_,rfl,hFr,hK⟩ H
   have I:=hM0.add hK hFr
   have I:=M.litOff (its:=_ :: [raw e (enc h),raw q [A,b],osl NoB U b,osl NoB T A,raw O xm,raw Y (enc C)]) (mk:=([mkO 2 (λv=>osl NoB n v)] : Mk)) (i:=4) (ds:=[2]) (m:=2) (f:=(λus=>[us.getD 0 undef,Yg (.slice (some ⟨e,0,none⟩) 32 32) (xi).toNat xx.toNat 1])) I hsL
   exact ⟨_,_,R,H,M.litOn (its:=[raw e (enc h),raw q [A,b],osl NoB U b,osl NoB T A,raw O xm,raw Y (enc C)]) (mk:=([mkO 2 (λv=>osl NoB n v)] : Mk)) (i:=4) (ds:=[2]) (m:=2) (f:=(λus=>[(us.getD 0 undef),(Yg (.slice (some ⟨e,0,none⟩) 32 32) (xi).toNat xx.toNat 1)])) (M.qFill (its:=[raw e (enc h),raw q [A,b],osl NoB U b,osl NoB T A,raw O xm,raw Y (enc C)]) (mk1:=[]) (mk2:=[]) (f:=(λv=>osl NoB n v)) I R hD) hsL dd_,trivial⟩
  ·intro a w B D z
   have H:=z.E
   have hD : D 4 = false:=z.F
   have d2 : D 2 = true:=z.p 0 _ R R
   have I:=z.M.sure (pre:=[_,_,_,_,_,_]) d2
   refine QE (xs:=[.tmp 17,.tmp 18]) (vs:=[B 2,Yg (.slice (some ⟨e,0,none⟩) 32 32) (xi).toNat xx.toNat 1]) H I Za ld R R o_6 Wo dd_ (Ws (Z5 (I.sl6)) (Ws (Z5 (Xl (At.sat I.ra0 (by simp) dd_) W)) BP)) λao w a I H=>?_
   have I:=I.unsure (pre:=[_,_,_,_,_,_,_]) d2
   exact ⟨_,_,R,H,M.litFill (its:=[raw e (enc h),raw q [A,b],osl NoB U b,osl NoB T A,raw O xm,raw Y (enc C)]) (mk:=([mkO 2 (λv=>osl NoB n v)] : Mk)) (i:=4) (ds:=[2]) (m:=2) (f:=(λus=>[us.getD 0 undef,Yg (.slice (some ⟨e,0,none⟩) 32 32) (xi).toNat xx.toNat 1])) I R hD dd_,trivial⟩
  intro a w B D H I hG G
  have d2:=G 2 dd_
  have d4:=G 4 dd_
  have I:=((I.sure (pre:=[_,_,_,_,_,_]) d2).sure (pre:=[_,_,_,_,_,_,_]) d4).pl
  obtain ⟨aj,ak,I⟩:=M.litOpen I
  have H:=H.setq (t:=19) R ak
  obtain ⟨X,al,d⟩:=p_1 d
  refine Zp H R cb84 (UL _ p0 o (I.rdo x) ([n,ai] : xz) (Value.slice (some ⟨aj,0,none⟩) 2 2) (AX I.ra0 (I.rawLt (pre:=[])) ⟨I.sl7,Xl (At.sat I.ra1 (by simp) dd_) W,trivial⟩ R) X al) ?_
  rintro v w a ⟨rfl,hK⟩ H
  have I:=(I.keep hK).pl5
  refine Zl (seg:=enc X) (cs':=enc X) H I Za R R R ZW (u_1 _) (zle flq) (s_1 _) (Zh flq) λw a I H=>Zj ?_
  obtain rfl:=o_1 d
  refine Zk ?_
  have I:=M.fst (l:=[_]) I
  exact ⟨H.s,I⟩
 rintro a w ⟨H,I⟩
 obtain rfl:=o_1 Z
 have ab : Z7 prog _ _ (.cell 6 32) _:=ZE H R ZW R I.ra0 (u_1 _) R
 exact p_3 (ZY H R ab ⟨_,R,R,I.kept⟩)
def YU (j : (Ref Gengine)) (k : GVault) (b : GRecord) : Option (V32) :=
 (idx k.Keys b.Version).bind λl=>(Wu l 129).bind λc=>(K4 16 c).bind λd=>((Xx b.Number 4).bind λe=>(slc b.Nonce.toList (0 : Int) (16 : Int)).bind λf=>(Vs j d ([e,([ZC b.Version] : List UInt8),f,([ZC (b.Label.length : Int)] : List UInt8),b.Label,b.Body] : (List (List UInt8)))).bind λh=>some h : Option (V32)).bind λi=>some i
end

end Go.Proofs.YtfhhlkkhcoaapaaGreat
