/- The walk of what the law reaches: contracts of functions. -/
import Derived.Test.YtfhhlkkhcoaapaaGreatC1
set_option linter.unusedVariables false
set_option linter.unusedSimpArgs false
set_option maxRecDepth 20000
set_option maxHeartbeats 400000
namespace Go.Proofs.YtfhhlkkhcoaapaaGreat
open Go Go.Proofs.Tryz
open Flat (enc)
noncomputable section
def Wx (b : (List UInt8)) (j : (Int × Int)) (e : Int) : Option ((Int × Int) × (List UInt8)) :=
 (Z5 b (j.1,j.2) (wr ((if 5 < e then 5 else e) + 1))).bind λf=>(Z5 b (f.1.1,f.1.2) (wr ((if 40 < e then 40 else e) + 1))).bind λh=>(Z5 b (h.1.1,h.1.2) (wr (e + 1))).bind λi=>(XB b (i.1.1,i.1.2) ([f.2,h.2,i.2] : List Int)).bind λc=>(ZQ (Uk b) (c.1.1,c.1.2,([] : List UInt8),c.2)).bind λd=>some ((d.1,d.2.1),d.2.2)
theorem Jb (St : Nat → Prop) (W O : World) (C : Item) (d : Nat) (e : xg) (b : Value) (f : Rep.sat St W e [b] []) (x : xy) (k : Int) (I : M St W O [raw d (cat [[b],[vI x.1],[Value.int .u64 x.2]]),C]) (r : xy × xg) (J : Wx e x k = some r) :
  Calls prog 80 [ptr d 0,vI k].toArray O (e_r λv w'=>(∃ T : Value,v = T ∧ M St W w' [raw d (cat [[b],[vI r.1.1],[Value.int .u64 r.1.2]]),osl NoB (r.2 : List UInt8) T,C])):=by
 refine ce func80 ?_
 intro a H
 unfold Wx at J
 refine Zb (Zc H R λa H=>Ze (Zb (ZL (xs:=[]) (l:=xx) (vs:=[]) H I Za ld R R o_2 ty5 R (by decide) R λU w a I H=>Zc H R λa H=>Ze (s_2 (Zb (Zd H R λa H=>Zd H R λa H=>Zd H R λa H=>s_min H Za ld R R λa H=>Zn H R R R ?_)))))); intro a H
 have I:=M.tailP (m:=[_]) I.pl1
 obtain ⟨q,X,J⟩:=p_1 J
 refine Zp H R Ju (Yh _ _ _ _ d e b f (x.1,x.2) (wr ((if 5 < k then 5 else k) + 1)) I q X) ?_
 rintro v w a ⟨rfl,I⟩ H
 have I:=M.tailU (m:=[_]) I
 simp only [List.cons_append,List.nil_append] at I
 refine Zd H R λa H=>Zd H R λa H=>s_min H Za ld R R λa H=>Zn H R R R ?_; intro a H
 have I:=M.tailP (m:=[_]) I
 obtain ⟨t,Y,J⟩:=p_1 J
 refine Zp H R Ju (Yh _ _ _ _ d e b f (q.1.1,q.1.2) (wr ((if 40 < k then 40 else k) + 1)) I t Y) ?_
 rintro v w a ⟨rfl,I⟩ H
 have I:=M.tailU (m:=[_]) I
 simp only [List.cons_append,List.nil_append] at I
 refine Zd H R λa H=>Zd H R λa H=>Zn H R R R ?_; intro a H
 have I:=M.tailP (m:=[_]) I
 obtain ⟨u,Z,J⟩:=p_1 J
 refine Zp H R Ju (Yh _ _ _ _ d e b f (t.1.1,t.1.2) (wr (k + 1)) I u Z) ?_
 rintro v w a ⟨rfl,I⟩ H
 have I:=M.tailU (m:=[_]) I
 simp only [List.cons_append,List.nil_append] at I
 refine ZL (xs:=[.tmp 13,.tmp 18,.tmp 22]) (l:=([q.2,t.2,u.2] : List Int)) (vs:=[vI q.2,vI t.2,vI u.2]) H I Za ld R R p_5 ty2 R (by decide) R ?_; intro u9 w a I H
 have I:=M.tailP (m:=[_,_]) I.pl1
 obtain ⟨E,F,J⟩:=p_1 J
 refine Zp H R jz (VQ _ _ _ _ d e b f (u.1.1,u.1.2) ([q.2,t.2,u.2] : List Int) u9 I E F) ?_
 rintro v w a ⟨rfl,I⟩ H
 have I:=M.tailU (m:=[_,_]) I
 simp only [List.cons_append,List.nil_append] at I
 refine Zc H R λa H=>Ze ?_
 obtain ⟨n,y,z⟩:=p_1 J
 refine Z7 (λa w=>∃ i : Value,Env 35 a [(5,i)] ∧ M St W w [raw d (cat [[b],[vI n.1],[Value.int .u64 n.2.1]]),C,osl NoB (n.2.2 : List UInt8) i]) ?_ ?_
 ·refine p_2 ?_
  have I:=(I.pl2.pl3.pl2.pl3).drop
  refine ZR (λ(h : Int × Int × xg × Int) a w=>∃ j : Value,Env 35 a [(0,ptr d 0),(5,j),(6,vI h.2.2.2)] ∧ M St W w [raw d (cat [[b],[vI h.1],[Value.int .u64 h.2.1]]),C,osl NoB (h.2.2.1 : List UInt8) j]) y ⟨U,H.s,I⟩ ?_
  rintro h a w ⟨j,H,I⟩ ab c A
  unfold Uk at c
  refine s_2 (Zb (Zd H R λa H=>Zn H R R R λa H=>Ze ?_))
  refine c_if H R c ?_ ?_
  ·intro B c
   refine u_2 (Zz (s_2 (p_2 (t_1 (Zd H R λa H=>Zd H R ?_))))); intro a H
   have I:=M.tailP (m:=[_]) I
   obtain ⟨o,G,c⟩:=p_1 c
   refine Zp H R (cbm func174) (Jx _ _ _ _ d e b f (h.1,h.2.1) I o G) ?_
   rintro v w a ⟨rfl,I⟩ H
   have I:=M.tailU (m:=[_]) I
   simp only [List.cons_append,List.nil_append] at I
   refine ZL (xs:=[.tmp 31]) (l:=([o.2] : List UInt8)) (vs:=[vB o.2]) H I Za ld R R o_2 ty5 R (by decide) R ?_; intro ac w a I H
   obtain ⟨ad,K,c⟩:=p_1 c
   obtain ⟨L,rfl⟩:=Z1 K
   have I:=I.pl3
   refine Z3 H I Za ld R R (I.sl1) o_2 ty5 R (by decide) L λN w a I H=>Zc H R λa H=>Zj (YA (Zz (t_1 (Zd H R λa H=>Zn H R R R λa H=>Zc H R λa H=>Zj (Zm ?_)))))
   have I:=(I.pl3.pl3.pl3).drop
   exact ⟨_,ois c,N,H.s,I⟩
  intro B c
  refine o_4 (Zu (Zu (YQ ?_)))
  obtain rfl:=A _ (ois c)
  refine Zm ?_
  exact ⟨j,H.s,I⟩
 rintro a w ⟨i,H,I⟩
 refine Zz (Zb (Zd H R λa H=>Zc H R λa H=>Ze ?_))
 obtain rfl:=o_1 z
 have I:=I.pl1.pl2.pl2
 exact p_3 (ZV H R (ZD H R) ⟨_,R,i,R,I⟩)
def Uf (b : GVault) (n : (List UInt8)) (o : (List UInt8)) (j : V16) : Option (GVault × Int × Int) :=
 (Vq b).bind λq=>if !q then (some ((⟨[],0,[],[],Vector.replicate 32 (0 : UInt8)⟩ : GVault),0,1)) else ((if decide ((n.length : Int) > 32) then (some true) else (some (decide ((o.length : Int) > 200))) : Option (Bool)).bind λk=>if k then (some ((⟨[],0,[],[],Vector.replicate 32 (0 : UInt8)⟩ : GVault),0,2)) else ((UR b j).bind λl=>if l then (some ((⟨[],0,[],[],Vector.replicate 32 (0 : UInt8)⟩ : GVault),0,5)) else ((if (b.Records.length : Int) == 12 then (some true) else (if (b.Events.length : Int) == 60 then (some true) else (some (b.Next == 1000000))) : Option (Bool)).bind λm=>if m then (some ((⟨[],0,[],[],Vector.replicate 32 (0 : UInt8)⟩ : GVault),0,3)) else ((Vv b).bind λd=>(XI n).bind λf=>(XQ b (⟨b.Next,wr ((b.Keys.length : Int) - 1),j,f,[],Vector.replicate 32 (0 : UInt8)⟩ : GRecord) o).bind λh=>(WQ b (⟨b.Next,wr ((b.Keys.length : Int) - 1),j,f,h,Vector.replicate 32 (0 : UInt8)⟩ : GRecord)).bind λi=>(app 112 d.Records ([(⟨b.Next,wr ((b.Keys.length : Int) - 1),j,f,h,i⟩ : GRecord)] : List GRecord)).bind λt=>((XH (⟨d.Keys,wr (d.Next + 1),d.Records ++ ([(⟨b.Next,wr ((b.Keys.length : Int) - 1),j,f,h,i⟩ : GRecord)] : List GRecord),d.Events,d.Head⟩ : GVault) 1 b.Next i).bind λe=>some (e.Keys,e.Next,e.Records,e.Events,e.Head,0,b.Next) : Option ((List V16) × Int × (List GRecord) × (List GEvent) × V32 × Int × Int)).bind λc=>some ((⟨c.1,c.2.1,c.2.2.1,c.2.2.2.1,c.2.2.2.2.1⟩ : GVault),c.2.2.2.2.2.2,c.2.2.2.2.2.1)))))
theorem Hz (w0 : World) (b : GVault) (y : Value) (aa : Ro w0 b.Keys [y]) (B : Value) (ab : Ro w0 b.Records [B]) (C : Value) (ac : Ro w0 b.Events [C]) (p1 : xg) (ak : Value) (av : Ro w0 p1 [ak]) (p2 : xg) (al : Value) (aw : Ro w0 p2 [al]) (O : V16) (r : GVault × Int × Int) (J : Uf b p1 p2 O = some r) :
  Calls prog 46 [vcV y B C b,ak,al,Value.agg (enc O).toArray].toArray w0 (e_r λv w'=>(∃ y1 y2 y3 : Value,v = (Value.tuple [vcV y1 y2 y3 r.1,vI r.2.1,vI r.2.2].toArray) ∧ Fr w0 w' [osl NoB (r.1.Keys : List V16) y1,osl NoB (r.1.Records : List GRecord) y2,osl NoB (r.1.Events : List GEvent) y3] ∧ Kept (Old w0) w0 w')):=by
 refine ce func46 ?_
 intro a H
 have I:=M.start w0
 unfold Uf at J
 refine Zb (Z2 (cs:=cV y B C b) H I Za ld R R λb1 w a I H=>Z2 (cs:=enc O) H I Za ld R R λb3 w a I H=>Zw H I ZF λb5 w a I H=>Zc H R λa H=>Zc H R λa H=>Ze (s_2 (p_2 (Zb (Zq H R ZF R I.ra2 cq ?_))))); intro a H
 obtain ⟨r7,e8,J⟩:=p_1 J
 refine c_k H I R Zah (Kp _ b y (I.rdo aa) B (I.rdo ab) C (I.rdo ac) r7 e8) ?_; intro w a I H
 refine JD H R λa H=>Zc H R λa H=>Ze ?_
 refine c_if H R J ?_ ?_
 ·intro bo J
  refine Zb (ZY (parts:=[]) (vs:=[]) (cs:=cat xa) H Za ld R R ZF Kd Yp λa H=>Zk (seg:=cat xa) (cs':=cat xa) H I Za R R R ZF cq (q_1 cq cq) (ZC (cc1 ZN (cc1 (s_1 xj) (cc1 ZN (cc1 ZN (cc1 (s_1 _) cc0)))))) (q_2 cq cq) λw a I H=>Zc H R λa H=>Zc H R λa H=>Ze ?_)
  have I:=M.nilS (α:=GEvent) NoB noB (M.nilS (α:=GRecord) NoB noB (M.nilS (α:=V16) NoB noB I))
  obtain rfl:=o_1 J
  have a9 : Yb prog _ _ (.cell 8 79) _:=ZG H R ZF R I.ra3 cq R
  have I:=M.fst (l:=[_,_,_]) I.pl1.pl2
  exact p_3 (Xl (ZI (JR H R a9 (ZD H R) (ZD H R) ⟨_,R,xd,xd,xd,R,I.outF (ZK (ZK (ZK Yo))),I.kept⟩)))
 intro bo J
 obtain ⟨bp,ai,T⟩:=p_1 J
 refine ZJ (λa w=>Env 89 a [(1,ak),(2,al),(4,ptr b1 0),(7,ptr b3 0),(8,ptr b5 0),(18,vT bp)] ∧ M (Old w0) w0 w [raw b5 xi,raw b3 (enc O),raw b1 (cV y B C b)]) ?_ ?_
 ·refine t_1 (Zd H R λa H=>YE H R o_2 (I.rd av) λa H=>Zn H R R R λa H=>Zd H R ?_); intro a H
  refine Ys (decide ((p1.length : Int) > 32)) (λU=>?_) (λU=>?_)
  ·have ai:=Zt ai U
   refine k_s H U R R R λa H=>k_s H U R R R λa H=>k_s H U R R R λa H=>ZU H (lkb R U) R λa H=>Zc H R λa H=>Zj ?_
   obtain rfl:=o_1 ai
   refine Zm ?_
   exact ⟨H.s,I⟩
  have ai:=Zs ai U
  refine Zo H (Zi H R (lkb R U)) (by decide) R λa H=>WE H (Zi H R (lkb R U)) (by decide) R o_2 (I.rd aw) λa H=>Z8 H (Zi H R (lkb R U)) (by decide) R R R λa H=>Ye H (lkb R U) R λa H=>Zc H R λa H=>Zj ?_
  obtain rfl:=o_1 ai
  refine Zm ?_
  exact ⟨H.s,I⟩
 rintro a w ⟨H,I⟩
 refine c_if H R T ?_ ?_
 ·intro ba T
  refine Zb (ZY (parts:=[]) (vs:=[]) (cs:=cat xa) H Za ld R R ZF Kd Yp λa H=>Zk (seg:=cat xa) (cs':=cat xa) H I Za R R R ZF cq (q_1 cq cq) (ZC (cc1 ZN (cc1 (s_1 xj) (cc1 ZN (cc1 ZN (cc1 (s_1 _) cc0)))))) (q_2 cq cq) λw a I H=>Zc H R λa H=>Zc H R λa H=>Ze ?_)
  have I:=M.nilS (α:=GEvent) NoB noB (M.nilS (α:=GRecord) NoB noB (M.nilS (α:=V16) NoB noB I))
  obtain rfl:=o_1 T
  have bb : Yb prog _ _ (.cell 8 79) _:=ZG H R ZF R I.ra3 cq R
  have I:=M.fst (l:=[_,_,_]) I.pl1.pl2
  exact p_3 (Xl (ZI (JR H R bb (ZD H R) (ZD H R) ⟨_,R,xd,xd,xd,R,I.outF (ZK (ZK (ZK Yo))),I.kept⟩)))
 intro ba T
 refine Zb (Zq H R ZF R I.ra2 cq λa H=>Zq H R ZE R I.ra1 (u_1 _) ?_); intro a H
 obtain ⟨bq,br,T⟩:=p_1 T
 refine c_k H I R (cbm func150) (HW _ b y (I.rdo aa) B (I.rdo ab) C (I.rdo ac) O bq br) ?_; intro w a I H
 refine Zc H R λa H=>Ze ?_
 refine c_if H R T ?_ ?_
 ·intro bc T
  refine Zb (ZY (parts:=[]) (vs:=[]) (cs:=cat xa) H Za ld R R ZF Kd Yp λa H=>Zk (seg:=cat xa) (cs':=cat xa) H I Za R R R ZF cq (q_1 cq cq) (ZC (cc1 ZN (cc1 (s_1 xj) (cc1 ZN (cc1 ZN (cc1 (s_1 _) cc0)))))) (q_2 cq cq) λw a I H=>Zc H R λa H=>Zc H R λa H=>Ze ?_)
  have I:=M.nilS (α:=GEvent) NoB noB (M.nilS (α:=GRecord) NoB noB (M.nilS (α:=V16) NoB noB I))
  obtain rfl:=o_1 T
  have bd : Yb prog _ _ (.cell 8 79) _:=ZG H R ZF R I.ra3 cq R
  have I:=M.fst (l:=[_,_,_]) I.pl1.pl2
  exact p_3 (Xl (ZI (JR H R bd (ZD H R) (ZD H R) ⟨_,R,xd,xd,xd,R,I.outF (ZK (ZK (ZK Yo))),I.kept⟩)))
 intro bc T
 obtain ⟨bs,W,K⟩:=p_1 T
 refine ZJ (λa w=>Env 89 a [(1,ak),(2,al),(4,ptr b1 0),(7,ptr b3 0),(8,ptr b5 0),(33,vT bs)] ∧ M (Old w0) w0 w [raw b5 xi,raw b3 (enc O),raw b1 (cV y B C b)]) ?_ ?_
 ·refine t_1 (Zl H R (Yn) λa H=>ZB (v:=B) H R XO R (at_2 I.ra2) λa H=>YE H R o_3 (I.rd ab) λa H=>Zn H R R R λa H=>Zd H R ?_); intro a H
  refine Ys ((b.Records.length : Int) == 12) (λL=>?_) (λL=>?_)
  ·have W:=Zt W L
   refine k_s H L R R R λa H=>k_s H L R R R λa H=>k_s H L R R R λa H=>k_s H L R R R λa H=>ZU H (lkb R L) R λa H=>Zd H R λa H=>Zf H R R R (by decide) λa H=>Zf H R R R (by decide) λa H=>Zf H R R R (by decide) λa H=>ZU H R R λa H=>Zc H R λa H=>Zj ?_
   obtain rfl:=o_1 W
   refine Zm ?_
   exact ⟨H.s,I⟩
  have W:=Zs W L
  refine Zg H (Zi H R (lkb R L)) (by decide) R (XU) λa H=>Zy (v:=C) H (Zi H R (lkb R L)) (by decide) R Qy R (at_3 I.ra2) λa H=>WE H (Zi H R (lkb R L)) (by decide) R p_4 (I.rd ac) λa H=>Z8 H (Zi H R (lkb R L)) (by decide) R R R λa H=>Ye H (lkb R L) R λa H=>Zd H R ?_; intro a H
  refine Ys ((b.Events.length : Int) == 60) (λX=>?_) (λX=>?_)
  ·have W:=Zt W X
   refine k_s H X R R R λa H=>k_s H X R R R λa H=>k_s H X R R R λa H=>ZU H (lkb R X) R λa H=>Zc H R λa H=>Zj ?_
   obtain rfl:=o_1 W
   refine Zm ?_
   exact ⟨H.s,I⟩
  have W:=Zs W X
  refine Zg H (Zi H R (lkb R X)) (by decide) R (UA) λa H=>Zy (v:=(vI b.Next)) H (Zi H R (lkb R X)) (by decide) R ty2 R (at_1 I.ra2) λa H=>Z8 H (Zi H R (lkb R X)) (by decide) R R R λa H=>Ye H (lkb R X) R λa H=>Zc H R λa H=>Zj ?_
  obtain rfl:=o_1 W
  refine Zm ?_
  exact ⟨H.s,I⟩
 rintro a w ⟨H,I⟩
 refine c_if H R K ?_ ?_
 ·intro be K
  refine Zb (ZY (parts:=[]) (vs:=[]) (cs:=cat xa) H Za ld R R ZF Kd Yp λa H=>Zk (seg:=cat xa) (cs':=cat xa) H I Za R R R ZF cq (q_1 cq cq) (ZC (cc1 ZN (cc1 (s_1 xj) (cc1 ZN (cc1 ZN (cc1 (s_1 _) cc0)))))) (q_2 cq cq) λw a I H=>Zc H R λa H=>Zc H R λa H=>Ze ?_)
  have I:=M.nilS (α:=GEvent) NoB noB (M.nilS (α:=GRecord) NoB noB (M.nilS (α:=V16) NoB noB I))
  obtain rfl:=o_1 K
  have bg : Yb prog _ _ (.cell 8 79) _:=ZG H R ZF R I.ra3 cq R
  have I:=M.fst (l:=[_,_,_]) I.pl1.pl2
  exact p_3 (Xl (ZI (JR H R bg (ZD H R) (ZD H R) ⟨_,R,xd,xd,xd,R,I.outF (ZK (ZK (ZK Yo))),I.kept⟩)))
 intro be K
 refine u_2 (YA (Zz (Zb (Zq H R ZF R I.ra2 cq ?_)))); intro a H
 obtain ⟨d,bt,K⟩:=p_1 K
 refine Zp H R Zdr (KP _ b y (I.rdo aa) B (I.rdo ab) C (I.rdo ac) d bt) ?_
 rintro v w a ⟨N,ay,Z,rfl,hFr,hK⟩ H
 have I:=I.add hK hFr
 refine Zw H I ZF λaz w a I H=>Zk (seg:=cV N ay Z d) (cs':=cV N ay Z d) H I Za R R R ZF cq (q_1 cq cq) (ZC (cc1 (t_2 (I.sl1)) (cc1 (s_1 (d.Next : Int)) (cc1 (t_2 (I.sl2)) (cc1 (t_2 (I.sl3)) (cc1 (s_1 _) cc0)))))) (q_2 cq cq) λw a I H=>Ze (s_2 ?_)
 obtain ⟨ae,bu,K⟩:=p_1 K
 refine Yl (its:=[raw az (cV N ay Z d),osl NoB (d.Keys : List V16) N,osl NoB (d.Records : List GRecord) ay,osl NoB (d.Events : List GEvent) Z,raw b5 xi,raw b3 (enc O),raw b1 (cV y B C b)]) (mk:=([mkO 8 (λv=>osl NoB (ae : List UInt8) v),mkO 10 (λv=>XS v xh)] : Mk)) [52,53,54,55,56,57,58,59,60,61,12] Yt R R (by decide) R H (λu=>M.qE (M.qE (M.q0 I.drew u) emO) emO) (qsP (λz=>Zg z.E Za ld R (UA) (kr0 R)) (qsP (λz=>Zy (v:=(vI b.Next)) z.E Za ld R ty2 R (at_1 (z.M.ra6)) (kr0 R)) (qsP (λz=>Zg z.E Za ld R (XA) (kr0 R)) (qsP (λz=>Zy (v:=y) z.E Za ld R T0 R (at_0 (z.M.ra6)) (kr0 R)) (qsP (λz=>WE z.E Za ld R s_3 (z.M.rd aa) (kr0 R)) (qsP (v:=(vI (wr ((b.Keys.length : Int) - 1)))) (λz=>Z8 z.E Za ld R R R (kr0 R)) (qsP (λz=>Zx z.E Za ld R ZE R (z.M.ra5) (u_1 _) (kr0 R)) (q_m (λ_=>R) (qsM (pr:=λv=>True) ?_ (qsD (ds:=[8]) (f:=λus=>(Value.agg (cat [[vI b.Next],[vI (wr ((b.Keys.length : Int) - 1))],enc O,[us.getD 0 undef],[xd],enc xc]).toArray)) ?_ (qsM (pr:=λv=>True) ?_ qs0))))))))))) ?_
 ·intro a w i D z
  have H:=z.E
  have hD : D 8 = false:=z.F
  have hM0:=z.M
  have I:=z.M
  refine Zp H R cb96 (Qq _ p1 ak (I.rdo av) ae bu) ?_
  rintro _ w a ⟨_,rfl,hFr,hK⟩ H
  have I:=hM0.add hK hFr
  exact ⟨_,_,R,H,M.qFill (mk1:=[]) (mk2:=[_]) (f:=(λv=>osl NoB (ae : List UInt8) v)) I R hD,trivial⟩
 ·intro a w i D z
  have H:=z.E
  have d8 : D 8 = true:=z.p 3 _ R R
  have I:=z.M.sure (pre:=[_,_,_,_,_,_,_]) d8
  exact ZY (parts:=[(0,.tmp 53),(1,.tmp 57),(2,.tmp 58),(3,.tmp 60)]) (vs:=[(0,vI b.Next),(1,vI (wr ((b.Keys.length : Int) - 1))),(2,Value.agg (enc O).toArray),(3,i 8)]) (cs:=cat [[vI b.Next],[vI (wr ((b.Keys.length : Int) - 1))],enc O,[i 8],[xd],enc xc]) H Za ld R R Yf pl98 (ZT (pre:=[]) (seg:=[vI 0]) (seg':=[vI b.Next]) (post:=[[vI 0],enc xb,[xd],[xd],enc xc]) R cl0 R R R (ZT (pre:=[[vI b.Next]]) (seg:=[vI 0]) (seg':=[vI (wr ((b.Keys.length : Int) - 1))]) (post:=[enc xb,[xd],[xd],enc xc]) R ck R R R (ZT (pre:=[[vI b.Next],[vI (wr ((b.Keys.length : Int) - 1))]]) (seg:=enc xb) (seg':=enc O) (post:=[[xd],[xd],enc xc]) R ck (u_1 _) (u_1 _) R (ZT (pre:=[[vI b.Next],[vI (wr ((b.Keys.length : Int) - 1))],enc O]) (seg:=[xd]) (seg':=[i 8]) (post:=[[xd],enc xc]) R ck R R (ZX (I.sl7)) Yp)))) λa H=>⟨o_5 _ _,J8 d8 HJ,_,R,H⟩
 ·intro a w i D z
  have H:=z.E
  have hD : D 10 = false:=z.F
  have I:=z.M
  refine Zw H I Yf ?_; intro cc w a I H
  have I:=I.pack1 (it:=XS _ xh) (λw w' fp ⟨b',e,k⟩ hb=>⟨b',e,Yz w w' fp k hb⟩) (λfp k=>⟨_,R,k⟩)
  exact ⟨_,_,R,H,M.qFill (mk1:=[_]) (mk2:=[]) (f:=λv=>XS v xh) I R hD,trivial⟩
 intro a w i D H I hG am
 have d8:=am 8 (by decide)
 have bv:=am 10 (by decide)
 have I:=((I.sure (pre:=[_,_,_,_,_,_,_]) d8).sure (pre:=[_,_,_,_,_,_,_,_]) bv).pl
 obtain ⟨_,⟨a0,bh,_⟩,_⟩:=I.head
 have I:=I.pack1 Yz (it:=raw a0 xh) (λfp ⟨b2,e2,k2⟩=>by rw [bh] at e2; simp [ptr] at e2; subst e2; exact k2)
 have H:=H.setq (t:=12) R bh
 refine Zk (seg:=cat [[vI b.Next],[vI (wr ((b.Keys.length : Int) - 1))],enc O,[i 8],[xd],enc xc]) (cs':=cat [[vI b.Next],[vI (wr ((b.Keys.length : Int) - 1))],enc O,[i 8],[xd],enc xc]) H I Za R R R Yf cq (q_1 cq cq) (ZC (cc1 (s_1 (b.Next : Int)) (cc1 (s_1 (wr ((b.Keys.length : Int) - 1) : Int)) (cc1 (s_1 _) (cc1 (t_2 (I.sl8)) (cc1 ZN (cc1 (s_1 _) cc0))))))) (q_2 cq cq) λw a I H=>Zj (Zz (Zb (Zq H R ZF R I.ra7 cq λa H=>Zq H R Yf R I.ra0 cq λa H=>Zd H R ?_))); intro a H
 obtain ⟨an,bx,K⟩:=p_1 K
 refine Zp H R Zhb (KE _ b y (I.rdo aa) B (I.rdo ab) C (I.rdo ac) (⟨b.Next,wr ((b.Keys.length : Int) - 1),O,ae,[],xc⟩ : GRecord) (i 8) (I.sl8) xd qp p2 al (I.rdo aw) an bx) ?_
 rintro af w a ⟨_,rfl,hFr,hK⟩ H
 have I:=I.add hK hFr
 refine Zl H R (Uy) ?_; intro a H
 have I:=I.pl1
 refine Zk (seg:=[af]) H I Za R R (ZX (I.sl1)) X7 R (YN (pre:=[[vI b.Next],[vI (wr ((b.Keys.length : Int) - 1))],enc O,[i 8]]) ck R) (t_2 (I.sl1)) (Z4 (pre:=[[vI b.Next],[vI (wr ((b.Keys.length : Int) - 1))],enc O,[i 8]]) ck R) λw a I H=>Ze (Zb (Zq H R ZF R I.ra8 cq λa H=>Zq H R Yf R I.ra0 cq ?_)); intro a H
 obtain ⟨Y,bz,K⟩:=p_1 K
 refine c_k H I R Zhm (JS _ b y (I.rdo aa) B (I.rdo ab) C (I.rdo ac) (⟨b.Next,wr ((b.Keys.length : Int) - 1),O,ae,an,xc⟩ : GRecord) (i 8) (I.sl9) af (I.sl1) Y bz) ?_; intro w a I H
 refine Zl H R (Tl) λa H=>Zk (seg:=enc Y) H I Za R R R Yq (u_1 _) (YN (pre:=[[vI b.Next],[vI (wr ((b.Keys.length : Int) - 1))],enc O,[i 8],[af]]) ck flq) (s_1 _) (Z4 (pre:=[[vI b.Next],[vI (wr ((b.Keys.length : Int) - 1))],enc O,[i 8],[af]]) ck flq) λw a I H=>Ze (Zb (Zl H R (Yn) λa H=>ZB (v:=ay) H R XO R (at_2 I.ra2) λa H=>Zq H R Yf R I.ra0 cq ?_)); intro a H
 have I:=I.pl1.pl9
 have I:=I.pack2 (it:=own NoB (⟨b.Next,wr ((b.Keys.length : Int) - 1),O,ae,an,Y⟩ : GRecord) (cat [[vI b.Next],[vI (wr ((b.Keys.length : Int) - 1))],enc O,[i 8],[af],enc Y])) (X4 noB) (λf0 f1 q0 q1=>(KD (WK.sat q0) (WK.sat q1) (by simp)))
 refine Js (xs:=[.tmp 73]) (seg:=cat [[vI b.Next],[vI (wr ((b.Keys.length : Int) - 1))],enc O,[i 8],[af],enc Y]) H I noB Za ld R R o_3 Yf R (by decide) ?_; intro cf w a I H
 obtain ⟨cg,b0,K⟩:=p_1 K
 obtain ⟨b4,rfl⟩:=Z1 b0
 have I:=I.pl4
 refine KL H I noB Za ld R R o_3 Yf R (by decide) b4 λag w a I H=>Zl H R (Yn) ?_; intro a H
 have I:=I.pl2
 refine Zk (seg:=[ag]) H I Za R R (ZX (I.sl1)) XO R (YN (pre:=[[N],[vI d.Next]]) ck R) (t_2 (I.sl1)) (Z4 (pre:=[[N],[vI d.Next]]) ck R) λw a I H=>Ze (Zb (Zl H R (UA) λa H=>ZB (v:=(vI d.Next)) H R ty2 R (at_1 I.ra0) λa H=>Zn H R R R λa H=>Zl H R (UA) λa H=>Zk (seg:=[vI (wr (d.Next + 1))]) H I Za R R R ty2 R (YN (pre:=[[N]]) ck R) (s_1 (wr (d.Next + 1) : Int)) (Z4 (pre:=[[N]]) ck R) λw a I H=>Ze ?_))
 obtain ⟨au,a1,bi⟩:=p_1 K
 refine ZJ (λa w=>∃ a4 a5 a6 : Value,Env 89 a [(8,ptr b5 0),(9,vI au.2.2.2.2.2.2),(10,vI au.2.2.2.2.2.1)] ∧ M (Old w0) w0 w [raw b5 (cat [[a4],[vI au.2.1],[a5],[a6],enc au.2.2.2.2.1]),osl NoB (au.1 : List V16) a4,osl NoB (au.2.2.1 : List GRecord) a5,osl NoB (au.2.2.2.1 : List GEvent) a6]) ?_ ?_
 ·have I:=I.pl5.pl5.pl3.pl5
  have I:=I.packL (m:=[_,_,_]) (it:=J1 NoB [_,_,_]) (JW.mono noB) (λfp h=>Xm.reloc h (ZK (ZK (ZK Yo))))
  obtain ⟨ah,b6,a1⟩:=p_1 a1
  refine Yl (its:=[raw az (cat [[N],[vI (wr (d.Next + 1))],[ag],[Z],enc d.Head]),raw a0 (cat [[vI b.Next],[vI (wr ((b.Keys.length : Int) - 1))],enc O,[i 8],[af],enc Y]),raw b3 (enc O),raw b1 (cV y B C b)]) (mk:=([mkW 8 5 b5 xi (λv=>(Value.cells v).toList),mkU 5 (J1 NoB [osl NoB (d.Keys : List V16) N,osl NoB ((d.Records ++ ([(⟨b.Next,wr ((b.Keys.length : Int) - 1),O,ae,an,Y⟩ : GRecord)] : List GRecord)) : List GRecord) ag,osl NoB (d.Events : List GEvent) Z]) (λv=>own NoB ah (Value.cells v).toList)] : Mk)) [81,82,83,84,85,86,87,88,97] Yt R R (by decide) R H (λu=>M.qS (M.qS (M.q0 I.drew u) λ_=>R) λ_=>R) (qsP (v:=(Value.agg (cat [[N],[vI (wr (d.Next + 1))],[ag],[Z],enc d.Head]).toArray)) ?_ (qsP (λz=>Zg z.E Za ld R (VS) (kr0 R)) (qsP (v:=(vI b.Next)) ?_ (qsP (λz=>Zg z.E Za ld R (Tl) (kr0 R)) (qsP (v:=(Value.agg (enc Y).toArray)) ?_ (qsM (pr:=λv=>∃ cs,v = .agg cs) ?_ (qsP (λz=>Zg z.E Za ld R (VS) (kr0 R)) (qsP (λz=>Zy (v:=(vI b.Next)) z.E Za ld R ty2 R (at_0 (z.M.ra1)) (kr0 R)) (qsM (pr:=λv=>True) ?_ qs0))))))))) ?_
  ·intro a w ad D z
   have H:=z.E
   have hD : D 0 = false:=z.F
   have I:=z.M.togA (pre:=[_,_,_,_]) (WH (j:=8) (k:=2) z.c R R R hD)
   exact Zq H R ZF R I.ra0 cq λa H=>⟨o_5 _ _,_,R,H⟩
  ·intro a w ad D z
   have H:=z.E
   have hD : D 2 = false:=z.F
   have I:=z.M.togA (pre:=[_,_,_,_]) (WH (j:=8) (k:=4) z.c R R R hD)
   exact ZB (v:=(vI b.Next)) H R ty2 R (at_0 I.ra1) λa H=>⟨o_5 _ _,_,R,H⟩
  ·intro a w ad D z
   have H:=z.E
   have hD : D 4 = false:=z.F
   have I:=z.M.togA (pre:=[_,_,_,_]) (WH (j:=8) (k:=6) z.c R R R hD)
   exact Zq H R Yq R (at_5 I.ra1) (u_1 _) λa H=>⟨o_5 _ _,_,R,H⟩
  ·intro a w ad D z
   have H:=z.E
   have hD : D 5 = false:=z.F
   have I:=((z.M.togA (pre:=[_,_,_,_]) (WH (j:=8) (k:=0) z.c R R R hD)).togA (pre:=[_,_,_,_,_]) hD).pl
   have I:=I.unpackL (m:=[_,_,_]) (λfp h=>Xm.mono h (λ_ h=>h.elim))
   simp only [List.cons_append,List.nil_append] at I
   have I:=I.pl2.pl2.pl2
   refine Zp H R Zea (Kw _ _ _ _ (⟨d.Keys,wr (d.Next + 1),d.Records ++ ([(⟨b.Next,wr ((b.Keys.length : Int) - 1),O,ae,an,Y⟩ : GRecord)] : List GRecord),d.Events,d.Head⟩ : GVault) N ag Z 1 b.Next Y I ah b6) ?_
   rintro v w a ⟨u85,u86,u87,rfl,I⟩ H
   have I:=V4 (x:=ah) I sio sio sio
   have bj : D 8 = false:=WH (j:=8) (k:=0) z.c R R R hD
   exact ⟨_,_,R,H,M.qUnconst (p:=mkW 8 5 b5 xi (λv=>(Value.cells v).toList)) (its:=[raw az (cat [[N],[vI (wr (d.Next + 1))],[ag],[Z],enc d.Head]),raw a0 (cat [[vI b.Next],[vI (wr ((b.Keys.length : Int) - 1))],enc O,[i 8],[af],enc Y]),raw b3 (enc O),raw b1 (cV y B C b)]) (mk1:=([] : Mk)) (mk2:=([mkU 5 (J1 NoB [osl NoB (d.Keys : List V16) N,osl NoB ((d.Records ++ ([(⟨b.Next,wr ((b.Keys.length : Int) - 1),O,ae,an,Y⟩ : GRecord)] : List GRecord)) : List GRecord) ag,osl NoB (d.Events : List GEvent) Z]) (λv=>own NoB ah (Value.cells v).toList)] : Mk)) (M.qTogS (p:=mkU 5 (J1 NoB [osl NoB (d.Keys : List V16) N,osl NoB ((d.Records ++ ([(⟨b.Next,wr ((b.Keys.length : Int) - 1),O,ae,an,Y⟩ : GRecord)] : List GRecord)) : List GRecord) ag,osl NoB (d.Events : List GEvent) Z]) (λv=>own NoB ah (Value.cells v).toList)) (its:=[raw az (cat [[N],[vI (wr (d.Next + 1))],[ag],[Z],enc d.Head]),raw a0 (cat [[vI b.Next],[vI (wr ((b.Keys.length : Int) - 1))],enc O,[i 8],[af],enc Y]),raw b3 (enc O),raw b1 (cV y B C b)]) (mk1:=([([],λ_ _=>raw b5 xi)] : Mk)) (mk2:=([] : Mk)) I R qu) (Bo bj),⟨_,R⟩⟩
  ·intro a w ad D z
   have H:=z.E
   have hD : D 8 = false:=z.F
   have d5 : D 5 = true:=z.p 0 _ R R
   have I:=(z.M.togB (pre:=[_,_,_,_,_]) d5).togA (pre:=[_,_,_,_]) hD
   obtain ⟨n,o,q,a7,ao,ap,aq⟩:=Xx (I.rn5)
   have aj : (ad 5) = (vcV n o q ah):=Jw a7 (z.G 5 (by assumption) _ R).2
   have I:=I.pl4
   refine Zk (seg:=cV n o q ah) (cs':=cV n o q ah) H I Za R (lk R aj) R ZF cq (q_1 cq cq) (ZC (cc1 (t_2 ao) (cc1 (s_1 (ah.Next : Int)) (cc1 (t_2 ap) (cc1 (t_2 aq) (cc1 (s_1 _) cc0)))))) (q_2 cq cq) ?_; intro w a I H
   have I:=(M.recell I (show _ = (Value.cells (ad 5)).toList from by rw [aj]; rfl)).untogB (pre:=[_,_,_,_,_]) (A:=J1 NoB [osl NoB (d.Keys : List V16) N,osl NoB ((d.Records ++ ([(⟨b.Next,wr ((b.Keys.length : Int) - 1),O,ae,an,Y⟩ : GRecord)] : List GRecord)) : List GRecord) ag,osl NoB (d.Events : List GEvent) Z]) d5
   exact ⟨undef,_,R,Env.dummy H (by decide),M.qTogS (p:=mkW 8 5 b5 xi (λv=>(Value.cells v).toList)) (its:=[raw az (cat [[N],[vI (wr (d.Next + 1))],[ag],[Z],enc d.Head]),raw a0 (cat [[vI b.Next],[vI (wr ((b.Keys.length : Int) - 1))],enc O,[i 8],[af],enc Y]),raw b3 (enc O),raw b1 (cV y B C b)]) (mk1:=[]) (mk2:=[_]) I R zq,trivial⟩
  intro a w ad D H I hG am
  have d5:=am 5 (by decide)
  have d8:=am 8 (by decide)
  have I:=(I.togB (pre:=[_,_,_,_]) d8).togB (pre:=[_,_,_,_,_]) d5
  obtain ⟨n,o,q,a7,_,_,_⟩:=Xx (I.rn5)
  have aj : (ad 5) = (vcV n o q ah):=Jw a7 (hG 5 d5 _ R).2
  have I:=I.pl5
  have I:=(V9 (I.recown (congrArg (λv=>(Value.cells v).toList) aj))).pl7
  have I:=M.recell (c':=cV n o q ah) I (congrArg (λv=>(Value.cells v).toList) aj)
  have H:=H.setq (t:=86) R aj
  refine Zc H R λa H=>Zc H R λa H=>Zj ?_
  obtain rfl:=o_1 a1
  refine Zm ?_
  have I:=M.fst (l:=[_,_,_,_]) I.pl1.toOsl0.pl2.toOsl0.pl3.toOsl0.pl1.pl2.pl3
  exact ⟨n,o,q,H.s,I⟩
 rintro a w ⟨a4,a5,a6,H,I⟩
 obtain rfl:=o_1 bi
 have bl : Yb prog _ _ (.cell 8 79) _:=ZG H R ZF R I.ra0 cq R
 have I:=M.fst (l:=[_,_,_]) I.pl3.pl3.pl3
 exact p_3 (JR H R bl (ZD H R) (ZD H R) ⟨_,R,a4,a5,a6,R,I.outF (ZK (ZK (ZK Yo))),I.kept⟩)
def QW (c : (List UInt8)) (b : (List V16) × Int × (List GRecord) × (List GEvent) × V32 × Int × Int × Int) : Option (Fl ((List V16) × Int × (List GRecord) × (List GEvent) × V32 × Int × Int × Int) ((List V16) × Int × (List GRecord) × (List GEvent) × V32 × Int × Int)) :=
 if decide (b.2.2.2.2.2.2.2 > 0) then ((((Z5 c (b.2.2.2.2.2.1,b.2.2.2.2.2.2.1) 6).bind λd=>(if d.2 == 0 then ((Y3 c (d.1.1,d.1.2)).bind λx=>(U7 (⟨b.1,b.2.1,b.2.2.1,b.2.2.2.1,b.2.2.2.2.1⟩ : GVault) x.2).bind λl=>some (l.1.Keys,l.1.Next,l.1.Records,l.1.Events,l.1.Head,x.1.1,x.1.2,l.2)) else (if d.2 == 1 then ((Z5 c (d.1.1,d.1.2) (if 1 > (wr (b.2.1 - 1)) then 1 else (wr (b.2.1 - 1)))).bind λy=>(Ut (⟨b.1,b.2.1,b.2.2.1,b.2.2.2.1,b.2.2.2.2.1⟩ : GVault) (wr (1 + y.2))).bind λm=>some (m.1.Keys,m.1.Next,m.1.Records,m.1.Events,m.1.Head,y.1.1,y.1.2,m.2)) else (if d.2 == 2 then ((Z5 c (d.1.1,d.1.2) (if 1 > (wr (b.2.1 - 1)) then 1 else (wr (b.2.1 - 1)))).bind λn=>(Y3 c (n.1.1,n.1.2)).bind λo=>(Tx (⟨b.1,b.2.1,b.2.2.1,b.2.2.2.1,b.2.2.2.2.1⟩ : GVault) (wr (1 + n.2)) o.2).bind λe=>some (e.1.Keys,e.1.Next,e.1.Records,e.1.Events,e.1.Head,o.1.1,o.1.2,e.2)) else ((Ud c (d.1.1,d.1.2)).bind λq=>(Wx c (q.1.1,q.1.2) 12).bind λt=>(Y3 c (t.1.1,t.1.2)).bind λu=>(Uf (⟨b.1,b.2.1,b.2.2.1,b.2.2.2.1,b.2.2.2.2.1⟩ : GVault) q.2 t.2 u.2).bind λf=>some (f.1.Keys,f.1.Next,f.1.Records,f.1.Events,f.1.Head,u.1.1,u.1.2,f.2.2)))) : Option ((List V16) × Int × (List GRecord) × (List GEvent) × V32 × Int × Int × Int)).bind λh=>some (h.1,h.2.1,h.2.2.1,h.2.2.2.1,h.2.2.2.2.1,h.2.2.2.2.2.1,h.2.2.2.2.2.2.1,h.2.2.2.2.2.2.2) : Option ((List V16) × Int × (List GRecord) × (List GEvent) × V32 × Int × Int × Int)).bind λi=>(if i.2.2.2.2.2.2.2 == 0 then (some (i.1,i.2.1,i.2.2.1,i.2.2.2.1,i.2.2.2.2.1)) else (some (b.1,b.2.1,b.2.2.1,b.2.2.2.1,b.2.2.2.2.1)) : Option ((List V16) × Int × (List GRecord) × (List GEvent) × V32)).bind λj=>some (j.1,j.2.1,j.2.2.1,j.2.2.2.1,j.2.2.2.2,i.2.2.2.2.2.1,i.2.2.2.2.2.2.1) : Option ((List V16) × Int × (List GRecord) × (List GEvent) × V32 × Int × Int)).bind λk=>some (Fl.nx (k.1,k.2.1,k.2.2.1,k.2.2.2.1,k.2.2.2.2.1,k.2.2.2.2.2.1,k.2.2.2.2.2.2,wr (b.2.2.2.2.2.2.2 - 1)))) else (some (Fl.ex (b.1,b.2.1,b.2.2.1,b.2.2.2.1,b.2.2.2.2.1,b.2.2.2.2.2.1,b.2.2.2.2.2.2.1)))
def Qo (b : (List UInt8)) (j : (Int × Int)) : Option ((Int × Int) × GVault) :=
 (Y3 b (j.1,j.2)).bind λi=>(Uc i.2).bind λh=>(Z5 b (i.1.1,i.1.2) 4).bind λd=>(Z5 b (d.1.1,d.1.2) 7).bind λe=>(XB b (e.1.1,e.1.2) ([d.2,e.2] : List Int)).bind λf=>(ZQ (QW b) (h.Keys,h.Next,h.Records,h.Events,h.Head,f.1.1,f.1.2,f.2)).bind λc=>some ((c.2.2.2.2.2.1,c.2.2.2.2.2.2),(⟨c.1,c.2.1,c.2.2.1,c.2.2.2.1,c.2.2.2.2.1⟩ : GVault))
theorem y8 (St : Nat → Prop) (W w0 : World) (r0 : Item) (e : Nat) (ak : xg) (d : Value) (ah : Rep.sat St W ak [d] []) (p0 : xy) (I : M St W w0 [raw e (cat [[d],[vI p0.1],[Value.int .u64 p0.2]]),r0]) (r : xy × GVault) (J : Qo ak p0 = some r) :
  Calls prog 240 [ptr e 0].toArray w0 (e_r λv w'=>(∃ y1 y2 y3 : Value,v = (vcV y1 y2 y3 r.2) ∧ M St W w' [raw e (cat [[d],[vI r.1.1],[Value.int .u64 r.1.2]]),osl NoB (r.2.Keys : List V16) y1,osl NoB (r.2.Records : List GRecord) y2,osl NoB (r.2.Events : List GEvent) y3,r0])):=by
 refine ce func240 ?_
 intro a H
 unfold Qo at J
 refine Zb (Zw H I ZF λb1 w a I H=>Ze (Zb (Zd H R ?_))); intro a H
 have I:=M.tailP (m:=[_]) I.pl1
 obtain ⟨r3,e4,J⟩:=p_1 J
 refine Zp H R kC (Wq _ _ _ _ e ak d ah (p0.1,p0.2) I r3 e4) ?_
 rintro v w a ⟨rfl,I⟩ H
 have I:=M.tailU (m:=[_]) I
 simp only [List.cons_append,List.nil_append] at I
 obtain ⟨r5,e6,J⟩:=p_1 J
 refine Zp H R (cbm func53) (Hw _ r3.2 r5 e6) ?_
 rintro v w a ⟨u7,u8,u9,rfl,hFr,hK⟩ H
 have I:=I.add hK hFr
 refine Zw H I ZF λT w a I H=>Zk (seg:=cV u7 u8 u9 r5) (cs':=cV u7 u8 u9 r5) H I Za R R R ZF cq (q_1 cq cq) (ZC (cc1 (t_2 (I.sl1)) (cc1 (s_1 (r5.Next : Int)) (cc1 (t_2 (I.sl2)) (cc1 (t_2 (I.sl3)) (cc1 (s_1 _) cc0)))))) (q_2 cq cq) λw a I H=>Ze (s_2 (Zb (Zd H R λa H=>Zd H R ?_))); intro a H
 have I:=M.tailP (m:=[_]) I.pl4
 obtain ⟨br,di,J⟩:=p_1 J
 refine Zp H R Ju (Yh _ _ _ _ e ak d ah (r3.1.1,r3.1.2) 4 I br di) ?_
 rintro v w a ⟨rfl,I⟩ H
 have I:=M.tailU (m:=[_]) I
 simp only [List.cons_append,List.nil_append] at I
 refine Zd H R ?_; intro a H
 have I:=M.tailP (m:=[_]) I
 obtain ⟨bt,dj,J⟩:=p_1 J
 refine Zp H R Ju (Yh _ _ _ _ e ak d ah (br.1.1,br.1.2) 7 I bt dj) ?_
 rintro v w a ⟨rfl,I⟩ H
 have I:=M.tailU (m:=[_]) I
 simp only [List.cons_append,List.nil_append] at I
 refine ZL (xs:=[.tmp 12,.tmp 14]) (l:=([br.2,bt.2] : List Int)) (vs:=[vI br.2,vI bt.2]) H I Za ld R R p_5 ty2 R (by decide) R ?_; intro dk w a I H
 have I:=M.tailP (m:=[_,_]) I.pl1
 obtain ⟨dl,dm,J⟩:=p_1 J
 refine Zp H R jz (VQ _ _ _ _ e ak d ah (bt.1.1,bt.1.2) ([br.2,bt.2] : List Int) dk I dl dm) ?_
 rintro v w a ⟨rfl,I⟩ H
 have I:=M.tailU (m:=[_,_]) I
 simp only [List.cons_append,List.nil_append] at I
 refine Zc H R λa H=>Ze ?_
 obtain ⟨az,cr,ct⟩:=p_1 J
 refine Z7 (λa w=>∃ bu bv bw : Value,Env 79 a [(2,ptr b1 0),(3,ptr T 0)] ∧ M St W w [raw e (cat [[d],[vI az.2.2.2.2.2.1],[Value.int .u64 az.2.2.2.2.2.2]]),raw T (cat [[bu],[vI az.2.1],[bv],[bw],enc az.2.2.2.2.1]),raw b1 xi,r0,osl NoB (az.1 : List V16) bu,osl NoB (az.2.2.1 : List GRecord) bv,osl NoB (az.2.2.2.1 : List GEvent) bw]) ?_ ?_
 ·refine p_2 ?_
  have I:=(I.pl5.pl5.pl5.pl7.pl7.pl7.pl6.pl7).drop
  refine ZR (λ(b : xv × Int × (List GRecord) × xu × V32 × Int × Int × Int) a w=>∃ h u32 n : Value,Env 79 a [(0,ptr e 0),(2,ptr b1 0),(3,ptr T 0),(4,vI b.2.2.2.2.2.2.2)] ∧ M St W w [raw e (cat [[d],[vI b.2.2.2.2.2.1],[Value.int .u64 b.2.2.2.2.2.2.1]]),raw T (cat [[h],[vI b.2.1],[u32],[n],enc b.2.2.2.2.1]),raw b1 xi,r0,osl NoB (b.1 : List V16) h,osl NoB (b.2.2.1 : List GRecord) u32,osl NoB (b.2.2.2.1 : List GEvent) n]) cr ⟨u7,u8,u9,H.s,I⟩ ?_
  rintro b a w ⟨h,u32,n,H,I⟩ em a8 cu
  unfold QW at a8
  refine s_2 (Zb (Zd H R λa H=>Zn H R R R λa H=>Ze ?_))
  refine c_if H R a8 ?_ ?_
  ·intro cv a8
   refine u_2 (Zz ?_)
   obtain ⟨bn,cw,cx⟩:=p_1 a8
   refine ZJ (λa w=>∃ b9 ca cb : Value,Env 79 a [(0,ptr e 0),(2,ptr b1 0),(3,ptr T 0),(4,vI b.2.2.2.2.2.2.2)] ∧ M St W w [raw e (cat [[d],[vI bn.2.2.2.2.2.1],[Value.int .u64 bn.2.2.2.2.2.2]]),raw T (cat [[b9],[vI bn.2.1],[ca],[cb],enc bn.2.2.2.2.1]),raw b1 xi,r0,osl NoB (bn.1 : List V16) b9,osl NoB (bn.2.2.1 : List GRecord) ca,osl NoB (bn.2.2.2.1 : List GEvent) cb]) ?_ ?_
   ·refine p_2 (Zb (ZY (parts:=[]) (vs:=[]) (cs:=cat xa) H Za ld R R ZF Kd Yp λa H=>Zw H I ZF λaj w a I H=>Zk (seg:=cat xa) (cs':=cat xa) H I Za R R R ZF cq (q_1 cq cq) (ZC (cc1 ZN (cc1 (s_1 xj) (cc1 ZN (cc1 ZN (cc1 (s_1 _) cc0)))))) (q_2 cq cq) λw a I H=>Zc H R λa H=>Ze ?_))
    obtain ⟨aq,b4,cy⟩:=p_1 cw
    refine ZJ (λa w=>∃ bx bz b0 : Value,Env 79 a [(0,ptr e 0),(2,ptr b1 0),(3,ptr T 0),(4,vI b.2.2.2.2.2.2.2),(5,ptr aj 0),(6,vI aq.2.2.2.2.2.2.2)] ∧ M St W w [raw aj (cat [[bx],[vI aq.2.1],[bz],[b0],enc aq.2.2.2.2.1]),raw e (cat [[d],[vI aq.2.2.2.2.2.1],[Value.int .u64 aq.2.2.2.2.2.2.1]]),raw T (cat [[h],[vI b.2.1],[u32],[n],enc b.2.2.2.2.1]),raw b1 xi,r0,osl NoB (b.1 : List V16) h,osl NoB (b.2.2.1 : List GRecord) u32,osl NoB (b.2.2.2.1 : List GEvent) n,osl NoB (aq.1 : List V16) bx,osl NoB (aq.2.2.1 : List GRecord) bz,osl NoB (aq.2.2.2.1 : List GEvent) b0]) ?_ ?_
    ·refine Zb (Zd H R ?_); intro a H
     have I:=M.tailP (m:=[_]) I.pl1
     obtain ⟨q,dp,b4⟩:=p_1 b4
     refine Zp H R Ju (Yh _ _ _ _ e ak d ah (b.2.2.2.2.2.1,b.2.2.2.2.2.2.1) 6 I q dp) ?_
     rintro v w a ⟨rfl,I⟩ H
     have I:=M.tailU (m:=[_]) I
     simp only [List.cons_append,List.nil_append] at I
     refine Ze (p_2 (Zb (Zn H R R R λa H=>Zc H R λa H=>Ze ?_)))
     obtain ⟨be,o,cz⟩:=p_1 b4
     refine Z7 (λa w=>∃ cc cd cf : Value,Env 79 a [(0,ptr e 0),(2,ptr b1 0),(3,ptr T 0),(4,vI b.2.2.2.2.2.2.2),(5,ptr aj 0),(6,vI be.2.2.2.2.2.2.2)] ∧ M St W w [raw e (cat [[d],[vI be.2.2.2.2.2.1],[Value.int .u64 be.2.2.2.2.2.2.1]]),raw aj (cat [[cc],[vI be.2.1],[cd],[cf],enc be.2.2.2.2.1]),raw T (cat [[h],[vI b.2.1],[u32],[n],enc b.2.2.2.2.1]),raw b1 xi,r0,osl NoB (b.1 : List V16) h,osl NoB (b.2.2.1 : List GRecord) u32,osl NoB (b.2.2.2.1 : List GEvent) n,osl NoB (be.1 : List V16) cc,osl NoB (be.2.2.1 : List GRecord) cd,osl NoB (be.2.2.2.1 : List GEvent) cf]) ?_ ?_
     ·refine c_if H R o ?_ ?_
      ·intro c0 o
       have I:=I.pl1.pl1
       obtain ⟨a2,dq,o⟩:=p_1 o
       obtain ⟨au,dr,o⟩:=p_1 o
       refine Yl (its:=[raw T (cat [[h],[vI b.2.1],[u32],[n],enc b.2.2.2.2.1]),raw b1 xi,r0,osl NoB (b.1 : List V16) h,osl NoB (b.2.2.1 : List GRecord) u32,osl NoB (b.2.2.2.1 : List GEvent) n]) (mk:=([mkW 7 3 aj xi (λv=>(Value.cells (ZS v 0)).toList),([2],λbs _=>(tog (bs.getD 0 false) (raw e (cat [[d],[vI q.1.1],[Value.int .u64 q.1.2]])) (raw e (cat [[d],[vI a2.1.1],[Value.int .u64 a2.1.2]])))),mkO 3 (λv=>own NoB au.1 (Value.cells (ZS v 0)).toList)] : Mk)) [39,40,41,42,38,43,44,86] Yt R R (by decide) R H (λu=>M.qS (M.qS (M.qE (M.q0 I.drew u) emO) λ_=>R) λ_=>R) (qsP (v:=(Value.agg (cat [[h],[vI b.2.1],[u32],[n],enc b.2.2.2.2.1]).toArray)) ?_ (q_m (λ_=>R) (qsV (v:=(Value.agg (enc a2.2).toArray)) ?_ (qsM (pr:=λv=>v = (Value.tuple [ZS v 0,vI au.2].toArray) ∧ ∃ cs,(ZS v 0) = .agg cs) ?_ (qsD (ds:=[3]) (f:=λus=>(Value.tuple [ZS (us.getD 0 undef) 0,vI au.2].toArray)) ?_ (qsD (ds:=[3]) (f:=λus=>(ZS (us.getD 0 undef) 0)) ?_ (qsP (λz=>ZM z.E Za ld R R (kr0 R)) (qsM (pr:=λv=>True) ?_ qs0)))))))) ?_
       ·intro a w ao D z
        have H:=z.E
        have hD : D 0 = false:=z.F
        have I:=z.M.togA (pre:=[_,_,_,_,_,_]) (WH (j:=7) (k:=2) z.c R R R hD)
        exact Zq H R ZF R I.ra0 cq λa H=>⟨o_5 _ _,_,R,H⟩
       ·intro a w ao D z
        have H:=z.E
        have hD : D 2 = false:=z.F
        have I:=M.tailP (m:=[_]) ((z.M.togA (pre:=[_,_,_,_,_,_,_]) hD).pl7)
        refine Zp H R kC (Wq _ _ _ _ e ak d ah (q.1.1,q.1.2) I a2 dq) ?_
        rintro v w a ⟨rfl,I⟩ H
        have I:=M.tailU (m:=[_]) I
        simp only [List.cons_append,List.nil_append] at I
        exact ⟨_,R,H,M.qTogS (mk1:=[_]) (mk2:=[_]) I R (by show tog (Xg D 2 2) (raw e (cat [[d],[vI q.1.1],[Value.int .u64 q.1.2]])) (raw e (cat [[d],[vI a2.1.1],[Value.int .u64 a2.1.2]])) = _; rw [tg1 A9])⟩
       ·intro a w ao D z
        have H:=z.E
        have hD : D 3 = false:=z.F
        have hM0:=z.M
        have I:=z.M.togA (pre:=[_,_,_,_,_,_]) (WH (j:=7) (k:=1) z.c R R R hD)
        refine Zp H R (cbm func62) (zB _ (⟨b.1,b.2.1,b.2.2.1,b.2.2.2.1,b.2.2.2.2.1⟩ : GVault) h (I.sl3) u32 (I.sl4) n (I.sl5) a2.2 au dr) ?_
        rintro _ w a ⟨en,eo,ep,rfl,hFr,hK⟩ H
        have I:=V4 (x:=au.1) (hM0.add hK hFr) sio sio sio
        have cg : D 7 = false:=WH (j:=7) (k:=1) z.c R R R hD
        have I:=I.togA (pre:=[_,_,_,_,_,_,_]) cg
        exact ⟨_,_,R,H,M.qUnconst (p:=mkW 7 3 aj xi (λv=>(Value.cells (ZS v 0)).toList)) (its:=[raw T (cat [[h],[vI b.2.1],[u32],[n],enc b.2.2.2.2.1]),raw b1 xi,r0,osl NoB (b.1 : List V16) h,osl NoB (b.2.2.1 : List GRecord) u32,osl NoB (b.2.2.2.1 : List GEvent) n]) (mk1:=([] : Mk)) (mk2:=([([2],λbs _=>(tog (bs.getD 0 false) (raw e (cat [[d],[vI q.1.1],[Value.int .u64 q.1.2]])) (raw e (cat [[d],[vI a2.1.1],[Value.int .u64 a2.1.2]])))),mkO 3 (λv=>own NoB au.1 (Value.cells (ZS v 0)).toList)] : Mk)) (M.qFill (its:=[raw T (cat [[h],[vI b.2.1],[u32],[n],enc b.2.2.2.2.1]),raw b1 xi,r0,osl NoB (b.1 : List V16) h,osl NoB (b.2.2.1 : List GRecord) u32,osl NoB (b.2.2.2.1 : List GEvent) n]) (mk1:=([([],λ_ _=>raw aj xi),([2],λbs _=>(tog (bs.getD 0 false) (raw e (cat [[d],[vI q.1.1],[Value.int .u64 q.1.2]])) (raw e (cat [[d],[vI a2.1.1],[Value.int .u64 a2.1.2]]))))] : Mk)) (mk2:=([] : Mk)) (f:=(λv=>own NoB au.1 (Value.cells (ZS v 0)).toList)) I R hD) (Bo cg),⟨R,⟨_,R⟩⟩⟩
       ·intro a w ao D z
        have H:=z.E
        have d3 : D 3 = true:=z.p 0 _ R R
        have g3:=z.G 3 d3 _ R
        have f3 : ao 3 = (Value.tuple [ZS (ao 3) 0,vI au.2].toArray):=g3.2.1
        exact Zd H (lk R f3) λa H=>⟨o_5 _ _,J8 d3 HJ,_,R,H⟩
       ·intro a w ao D z
        have H:=z.E
        have d4 : D 4 = true:=z.p 0 _ R R
        have d3 : D 3 = true:=z.c 4 _ _ R (List.mem_of_getElem? (i:=0) R) R d4
        exact ZM H Za ld R R λa H=>⟨o_5 _ _,J8 d3 HJ,_,R,H⟩
       ·intro a w ao D z
        have H:=z.E
        have hD : D 7 = false:=z.F
        have d5 : D 5 = true:=z.p 0 _ R R
        have g5:=z.G 5 d5 _ R
        have d3 : D 3 = true:=g5.1 3 (show 3 ∈ [3] by decide)
        have I:=(z.M.sure (pre:=[_,_,_,_,_,_,_,_]) d3).togA (pre:=[_,_,_,_,_,_]) hD
        obtain ⟨X,Y,Z,ar,bg,bh,bi⟩:=Xx (I.rn8)
        have a9 : (ZS (ao 3) 0) = (vcV X Y Z au.1):=Jw ar (z.G 3 (by assumption) _ R).2.2
        have I:=I.pl6
        refine Zk (seg:=cV X Y Z au.1) (cs':=cV X Y Z au.1) H I Za R (lk R a9) R ZF cq (q_1 cq cq) (ZC (cc1 (t_2 bg) (cc1 (s_1 (au.1.Next : Int)) (cc1 (t_2 bh) (cc1 (t_2 bi) (cc1 (s_1 _) cc0)))))) (q_2 cq cq) ?_; intro w a I H
        have I:=(M.recell I (show _ = (Value.cells (ZS (ao 3) 0)).toList from by rw [a9]; rfl)).unsure (pre:=[_,_,_,_,_,_,_,_]) d3
        exact ⟨undef,_,R,Env.dummy H (by decide),M.qTogS (p:=mkW 7 3 aj xi (λv=>(Value.cells (ZS v 0)).toList)) (its:=[raw T (cat [[h],[vI b.2.1],[u32],[n],enc b.2.2.2.2.1]),raw b1 xi,r0,osl NoB (b.1 : List V16) h,osl NoB (b.2.2.1 : List GRecord) u32,osl NoB (b.2.2.2.1 : List GEvent) n]) (mk1:=[]) (mk2:=[_,_]) I R zq,trivial⟩
       intro a w ao D H I hG af
       have d2:=af 2 (by decide)
       have d3:=af 3 (by decide)
       have d7:=af 7 (by decide)
       have I:=((I.togB (pre:=[_,_,_,_,_,_]) d7).togB (pre:=[_,_,_,_,_,_,_]) d2).sure (pre:=[_,_,_,_,_,_,_,_]) d3
       obtain ⟨X,Y,Z,ar,_,_,_⟩:=Xx (I.rn8)
       have a9 : (ZS (ao 3) 0) = (vcV X Y Z au.1):=Jw ar (hG 3 d3 _ R).2.2
       have I:=I.pl8
       have I:=(V9 (I.recown (congrArg (λv=>(Value.cells v).toList) a9))).pl9
       have I:=M.recell (c':=cV X Y Z au.1) I (congrArg (λv=>(Value.cells v).toList) a9)
       have H:=H.setq (t:=43) R a9
       refine Zc H R λa H=>Zj ?_
       obtain rfl:=o_1 o
       refine Zm ?_
       have I:=I.pl1.toOsl0.pl2.toOsl0.pl3.toOsl0.pl1.pl2.pl9.pl9.pl9.pl9.pl9.pl9.pl9.pl10
       exact ⟨X,Y,Z,H.s,I⟩
      intro c0 o
      refine Zb (Zn H R R R λa H=>Zc H R λa H=>Ze ?_)
      refine c_if H R o ?_ ?_
      ·intro c1 o
       have I:=I.pl1.pl1
       obtain ⟨a0,dt,o⟩:=p_1 o
       obtain ⟨av,du,o⟩:=p_1 o
       refine Yl (its:=[raw T (cat [[h],[vI b.2.1],[u32],[n],enc b.2.2.2.2.1]),raw b1 xi,r0,osl NoB (b.1 : List V16) h,osl NoB (b.2.2.1 : List GRecord) u32,osl NoB (b.2.2.2.1 : List GEvent) n]) (mk:=([mkW 12 8 aj xi (λv=>(Value.cells (ZS v 0)).toList),([6],λbs _=>(tog (bs.getD 0 false) (raw e (cat [[d],[vI q.1.1],[Value.int .u64 q.1.2]])) (raw e (cat [[d],[vI a0.1.1],[Value.int .u64 a0.1.2]])))),mkO 8 (λv=>own NoB av.1 (Value.cells (ZS v 0)).toList)] : Mk)) [48,49,50,51,52,53,54,55,56,47,57,58,91] Yt R R (by decide) R H (λu=>M.qS (M.qS (M.qE (M.q0 I.drew u) emO) λ_=>R) λ_=>R) (qsP (v:=(Value.agg (cat [[h],[vI b.2.1],[u32],[n],enc b.2.2.2.2.1]).toArray)) ?_ (q_m (λ_=>R) (qsP (λz=>Zg z.E Za ld R (UA) (kr0 R)) (qsP (v:=(vI b.2.1)) ?_ (qsP (v:=(vI (wr (b.2.1 - 1)))) (λz=>Z8 z.E Za ld R R R (kr0 R)) (qsP (λz=>s_max z.E Za ld R R (kr0 R)) (qsV (v:=(vI a0.2)) ?_ (qsP (v:=(vI (wr (1 + a0.2)))) (λz=>Z8 z.E Za ld R R R (kr0 R)) (qsM (pr:=λv=>v = (Value.tuple [ZS v 0,vI av.2].toArray) ∧ ∃ cs,(ZS v 0) = .agg cs) ?_ (qsD (ds:=[8]) (f:=λus=>(Value.tuple [ZS (us.getD 0 undef) 0,vI av.2].toArray)) ?_ (qsD (ds:=[8]) (f:=λus=>(ZS (us.getD 0 undef) 0)) ?_ (qsP (λz=>ZM z.E Za ld R R (kr0 R)) (qsM (pr:=λv=>True) ?_ qs0))))))))))))) ?_
       ·intro a w an D z
        have H:=z.E
        have hD : D 0 = false:=z.F
        have I:=z.M.togA (pre:=[_,_,_,_,_,_]) (WH (j:=12) (k:=2) z.c R R R hD)
        exact Zq H R ZF R I.ra0 cq λa H=>⟨o_5 _ _,_,R,H⟩
       ·intro a w an D z
        have H:=z.E
        have hD : D 3 = false:=z.F
        have I:=z.M.togA (pre:=[_,_,_,_,_,_]) (WH (j:=12) (k:=5) z.c R R R hD)
        exact ZB (v:=(vI b.2.1)) H R ty2 R (at_1 I.ra0) λa H=>⟨o_5 _ _,_,R,H⟩
       ·intro a w an D z
        have H:=z.E
        have hD : D 6 = false:=z.F
        have I:=M.tailP (m:=[_]) ((z.M.togA (pre:=[_,_,_,_,_,_,_]) hD).pl7)
        refine Zp H R Ju (Yh _ _ _ _ e ak d ah (q.1.1,q.1.2) (if 1 > (wr (b.2.1 - 1)) then 1 else (wr (b.2.1 - 1))) I a0 dt) ?_
        rintro v w a ⟨rfl,I⟩ H
        have I:=M.tailU (m:=[_]) I
        simp only [List.cons_append,List.nil_append] at I
        exact ⟨_,R,H,M.qTogS (mk1:=[_]) (mk2:=[_]) I R (by show tog (Xg D 6 6) (raw e (cat [[d],[vI q.1.1],[Value.int .u64 q.1.2]])) (raw e (cat [[d],[vI a0.1.1],[Value.int .u64 a0.1.2]])) = _; rw [tg1 A9])⟩
       ·intro a w an D z
        have H:=z.E
        have hD : D 8 = false:=z.F
        have hM0:=z.M
        have I:=z.M.togA (pre:=[_,_,_,_,_,_]) (WH (j:=12) (k:=1) z.c R R R hD)
        refine Zp H R (cbm func59) (Ay _ (⟨b.1,b.2.1,b.2.2.1,b.2.2.2.1,b.2.2.2.2.1⟩ : GVault) h (I.sl3) u32 (I.sl4) n (I.sl5) (wr (1 + a0.2)) av du) ?_
        rintro _ w a ⟨ew,ex,ey,rfl,hFr,hK⟩ H
        have I:=V4 (x:=av.1) (hM0.add hK hFr) sio sio sio
        have a3 : D 12 = false:=WH (j:=12) (k:=1) z.c R R R hD
        have I:=I.togA (pre:=[_,_,_,_,_,_,_]) a3
        exact ⟨_,_,R,H,M.qUnconst (p:=mkW 12 8 aj xi (λv=>(Value.cells (ZS v 0)).toList)) (its:=[raw T (cat [[h],[vI b.2.1],[u32],[n],enc b.2.2.2.2.1]),raw b1 xi,r0,osl NoB (b.1 : List V16) h,osl NoB (b.2.2.1 : List GRecord) u32,osl NoB (b.2.2.2.1 : List GEvent) n]) (mk1:=([] : Mk)) (mk2:=([([6],λbs _=>(tog (bs.getD 0 false) (raw e (cat [[d],[vI q.1.1],[Value.int .u64 q.1.2]])) (raw e (cat [[d],[vI a0.1.1],[Value.int .u64 a0.1.2]])))),mkO 8 (λv=>own NoB av.1 (Value.cells (ZS v 0)).toList)] : Mk)) (M.qFill (its:=[raw T (cat [[h],[vI b.2.1],[u32],[n],enc b.2.2.2.2.1]),raw b1 xi,r0,osl NoB (b.1 : List V16) h,osl NoB (b.2.2.1 : List GRecord) u32,osl NoB (b.2.2.2.1 : List GEvent) n]) (mk1:=([([],λ_ _=>raw aj xi),([6],λbs _=>(tog (bs.getD 0 false) (raw e (cat [[d],[vI q.1.1],[Value.int .u64 q.1.2]])) (raw e (cat [[d],[vI a0.1.1],[Value.int .u64 a0.1.2]]))))] : Mk)) (mk2:=([] : Mk)) (f:=(λv=>own NoB av.1 (Value.cells (ZS v 0)).toList)) I R hD) (Bo a3),⟨R,⟨_,R⟩⟩⟩
       ·intro a w an D z
        have H:=z.E
        have d8 : D 8 = true:=z.p 0 _ R R
        have g8:=z.G 8 d8 _ R
        have f8 : an 8 = (Value.tuple [ZS (an 8) 0,vI av.2].toArray):=g8.2.1
        exact Zd H (lk R f8) λa H=>⟨o_5 _ _,J8 d8 HJ,_,R,H⟩
       ·intro a w an D z
        have H:=z.E
        have d9 : D 9 = true:=z.p 0 _ R R
        have d8 : D 8 = true:=z.c 9 _ _ R (List.mem_of_getElem? (i:=0) R) R d9
        exact ZM H Za ld R R λa H=>⟨o_5 _ _,J8 d8 HJ,_,R,H⟩
       ·intro a w an D z
        have H:=z.E
        have hD : D 12 = false:=z.F
        have a1 : D 10 = true:=z.p 0 _ R R
        have ch:=z.G 10 a1 _ R
        have d8 : D 8 = true:=ch.1 8 (show 8 ∈ [8] by decide)
        have I:=(z.M.sure (pre:=[_,_,_,_,_,_,_,_]) d8).togA (pre:=[_,_,_,_,_,_]) hD
        obtain ⟨aa,ab,ac,ar,bj,bk,bl⟩:=Xx (I.rn8)
        have ba : (ZS (an 8) 0) = (vcV aa ab ac av.1):=Jw ar (z.G 8 (by assumption) _ R).2.2
        have I:=I.pl6
        refine Zk (seg:=cV aa ab ac av.1) (cs':=cV aa ab ac av.1) H I Za R (lk R ba) R ZF cq (q_1 cq cq) (ZC (cc1 (t_2 bj) (cc1 (s_1 (av.1.Next : Int)) (cc1 (t_2 bk) (cc1 (t_2 bl) (cc1 (s_1 _) cc0)))))) (q_2 cq cq) ?_; intro w a I H
        have I:=(M.recell I (show _ = (Value.cells (ZS (an 8) 0)).toList from by rw [ba]; rfl)).unsure (pre:=[_,_,_,_,_,_,_,_]) d8
        exact ⟨undef,_,R,Env.dummy H (by decide),M.qTogS (p:=mkW 12 8 aj xi (λv=>(Value.cells (ZS v 0)).toList)) (its:=[raw T (cat [[h],[vI b.2.1],[u32],[n],enc b.2.2.2.2.1]),raw b1 xi,r0,osl NoB (b.1 : List V16) h,osl NoB (b.2.2.1 : List GRecord) u32,osl NoB (b.2.2.2.1 : List GEvent) n]) (mk1:=[]) (mk2:=[_,_]) I R zq,trivial⟩
       intro a w an D H I hG af
       have d6:=af 6 (by decide)
       have d8:=af 8 (by decide)
       have b5:=af 12 (by decide)
       have I:=((I.togB (pre:=[_,_,_,_,_,_]) b5).togB (pre:=[_,_,_,_,_,_,_]) d6).sure (pre:=[_,_,_,_,_,_,_,_]) d8
       obtain ⟨aa,ab,ac,ar,_,_,_⟩:=Xx (I.rn8)
       have ba : (ZS (an 8) 0) = (vcV aa ab ac av.1):=Jw ar (hG 8 d8 _ R).2.2
       have I:=I.pl8
       have I:=(V9 (I.recown (congrArg (λv=>(Value.cells v).toList) ba))).pl9
       have I:=M.recell (c':=cV aa ab ac av.1) I (congrArg (λv=>(Value.cells v).toList) ba)
       have H:=H.setq (t:=57) R ba
       refine Zc H R λa H=>Zj ?_
       obtain rfl:=o_1 o
       refine Zm ?_
       have I:=I.pl1.toOsl0.pl2.toOsl0.pl3.toOsl0.pl1.pl2.pl9.pl9.pl9.pl9.pl9.pl9.pl9.pl10
       exact ⟨aa,ab,ac,H.s,I⟩
      intro c1 o
      refine Zb (Zn H R R R λa H=>Zc H R λa H=>Ze ?_)
      refine c_if H R o ?_ ?_
      ·intro c4 o
       have I:=I.pl1.pl1
       obtain ⟨ai,c5,o⟩:=p_1 o
       obtain ⟨am,c6,o⟩:=p_1 o
       obtain ⟨al,c7,o⟩:=p_1 o
       refine Yl (its:=[raw T (cat [[h],[vI b.2.1],[u32],[n],enc b.2.2.2.2.1]),raw b1 xi,r0,osl NoB (b.1 : List V16) h,osl NoB (b.2.2.1 : List GRecord) u32,osl NoB (b.2.2.2.1 : List GEvent) n]) (mk:=([mkW 14 10 aj xi (λv=>(Value.cells (ZS v 0)).toList),([6,9],λbs _=>(tog (bs.getD 0 false) (raw e (cat [[d],[vI q.1.1],[Value.int .u64 q.1.2]])) (tog (bs.getD 1 false) (raw e (cat [[d],[vI ai.1.1],[Value.int .u64 ai.1.2]])) (raw e (cat [[d],[vI am.1.1],[Value.int .u64 am.1.2]]))))),mkO 10 (λv=>own NoB al.1 (Value.cells (ZS v 0)).toList)] : Mk)) [62,63,64,65,66,67,68,69,70,71,72,61,73,74,93] Yt R R (by decide) R H (λu=>M.qS (M.qS (M.qE (M.q0 I.drew u) emO) λ_=>R) λ_=>R) (qsP (v:=(Value.agg (cat [[h],[vI b.2.1],[u32],[n],enc b.2.2.2.2.1]).toArray)) ?_ (q_m (λ_=>R) (qsP (λz=>Zg z.E Za ld R (UA) (kr0 R)) (qsP (v:=(vI b.2.1)) ?_ (qsP (v:=(vI (wr (b.2.1 - 1)))) (λz=>Z8 z.E Za ld R R R (kr0 R)) (qsP (λz=>s_max z.E Za ld R R (kr0 R)) (qsV (v:=(vI ai.2)) ?_ (qsP (v:=(vI (wr (1 + ai.2)))) (λz=>Z8 z.E Za ld R R R (kr0 R)) (q_m (λ_=>R) (qsV (v:=(Value.agg (enc am.2).toArray)) ?_ (qsM (pr:=λv=>v = (Value.tuple [ZS v 0,vI al.2].toArray) ∧ ∃ cs,(ZS v 0) = .agg cs) ?_ (qsD (ds:=[10]) (f:=λus=>(Value.tuple [ZS (us.getD 0 undef) 0,vI al.2].toArray)) ?_ (qsD (ds:=[10]) (f:=λus=>(ZS (us.getD 0 undef) 0)) ?_ (qsP (λz=>ZM z.E Za ld R R (kr0 R)) (qsM (pr:=λv=>True) ?_ qs0))))))))))))))) ?_
       ·intro a w ag D z
        have H:=z.E
        have hD : D 0 = false:=z.F
        have I:=z.M.togA (pre:=[_,_,_,_,_,_]) (WH (j:=14) (k:=2) z.c R R R hD)
        exact Zq H R ZF R I.ra0 cq λa H=>⟨o_5 _ _,_,R,H⟩
       ·intro a w ag D z
        have H:=z.E
        have hD : D 3 = false:=z.F
        have I:=z.M.togA (pre:=[_,_,_,_,_,_]) (WH (j:=14) (k:=5) z.c R R R hD)
        exact ZB (v:=(vI b.2.1)) H R ty2 R (at_1 I.ra0) λa H=>⟨o_5 _ _,_,R,H⟩
       ·intro a w ag D z
        have H:=z.E
        have hD : D 6 = false:=z.F
        have I:=z.M.togA (pre:=[_,_,_,_,_,_,_]) hD
        have hNx : D 9 = false:=WH (j:=9) (k:=1) z.c R R R hD
        have I:=M.tailP (m:=[_]) I.pl7
        refine Zp H R Ju (Yh _ _ _ _ e ak d ah (q.1.1,q.1.2) (if 1 > (wr (b.2.1 - 1)) then 1 else (wr (b.2.1 - 1))) I ai c5) ?_
        rintro v w a ⟨rfl,I⟩ H
        have I:=M.tailU (m:=[_]) I
        simp only [List.cons_append,List.nil_append] at I
        exact ⟨_,R,H,M.qTogS (mk1:=[_]) (mk2:=[_]) I R (by show tog (Xg D 6 6) (raw e (cat [[d],[vI q.1.1],[Value.int .u64 q.1.2]])) (tog (Xg D 6 9) (raw e (cat [[d],[vI ai.1.1],[Value.int .u64 ai.1.2]])) (raw e (cat [[d],[vI am.1.1],[Value.int .u64 am.1.2]]))) = _; rw [tg1 A9,tg0 (updN (i:=6) hNx (by decide))])⟩
       ·intro a w ag D z
        have H:=z.E
        have hD : D 9 = false:=z.F
        have I:=z.M
        have c8 : D 6 = true:=z.p 1 _ R R
        have I:=M.tailP (m:=[_]) (((I.togB (pre:=[_,_,_,_,_,_,_]) c8).togA (pre:=[_,_,_,_,_,_,_]) hD).pl7)
        refine Zp H R kC (Wq _ _ _ _ e ak d ah (ai.1.1,ai.1.2) I am c6) ?_
        rintro v w a ⟨rfl,I⟩ H
        have I:=M.tailU (m:=[_]) I
        simp only [List.cons_append,List.nil_append] at I
        exact ⟨_,R,H,M.qTogS (mk1:=[_]) (mk2:=[_]) I R (by show tog (Xg D 9 6) (raw e (cat [[d],[vI q.1.1],[Value.int .u64 q.1.2]])) (tog (Xg D 9 9) (raw e (cat [[d],[vI ai.1.1],[Value.int .u64 ai.1.2]])) (raw e (cat [[d],[vI am.1.1],[Value.int .u64 am.1.2]]))) = _; rw [tg1 (updK c8),tg1 A9])⟩
       ·intro a w ag D z
        have H:=z.E
        have hD : D 10 = false:=z.F
        have hM0:=z.M
        have I:=z.M.togA (pre:=[_,_,_,_,_,_]) (WH (j:=14) (k:=1) z.c R R R hD)
        refine Zp H R (cbm func64) (yf _ (⟨b.1,b.2.1,b.2.2.1,b.2.2.2.1,b.2.2.2.2.1⟩ : GVault) h (I.sl3) u32 (I.sl4) n (I.sl5) (wr (1 + ai.2)) am.2 al c7) ?_
        rintro _ w a ⟨eb,ec,ed,rfl,hFr,hK⟩ H
        have I:=V4 (x:=al.1) (hM0.add hK hFr) sio sio sio
        have b6 : D 14 = false:=WH (j:=14) (k:=1) z.c R R R hD
        have I:=I.togA (pre:=[_,_,_,_,_,_,_]) b6
        exact ⟨_,_,R,H,M.qUnconst (p:=mkW 14 10 aj xi (λv=>(Value.cells (ZS v 0)).toList)) (its:=[raw T (cat [[h],[vI b.2.1],[u32],[n],enc b.2.2.2.2.1]),raw b1 xi,r0,osl NoB (b.1 : List V16) h,osl NoB (b.2.2.1 : List GRecord) u32,osl NoB (b.2.2.2.1 : List GEvent) n]) (mk1:=([] : Mk)) (mk2:=([([6,9],λbs _=>(tog (bs.getD 0 false) (raw e (cat [[d],[vI q.1.1],[Value.int .u64 q.1.2]])) (tog (bs.getD 1 false) (raw e (cat [[d],[vI ai.1.1],[Value.int .u64 ai.1.2]])) (raw e (cat [[d],[vI am.1.1],[Value.int .u64 am.1.2]]))))),mkO 10 (λv=>own NoB al.1 (Value.cells (ZS v 0)).toList)] : Mk)) (M.qFill (its:=[raw T (cat [[h],[vI b.2.1],[u32],[n],enc b.2.2.2.2.1]),raw b1 xi,r0,osl NoB (b.1 : List V16) h,osl NoB (b.2.2.1 : List GRecord) u32,osl NoB (b.2.2.2.1 : List GEvent) n]) (mk1:=([([],λ_ _=>raw aj xi),([6,9],λbs _=>(tog (bs.getD 0 false) (raw e (cat [[d],[vI q.1.1],[Value.int .u64 q.1.2]])) (tog (bs.getD 1 false) (raw e (cat [[d],[vI ai.1.1],[Value.int .u64 ai.1.2]])) (raw e (cat [[d],[vI am.1.1],[Value.int .u64 am.1.2]])))))] : Mk)) (mk2:=([] : Mk)) (f:=(λv=>own NoB al.1 (Value.cells (ZS v 0)).toList)) I R hD) (Bo b6),⟨R,⟨_,R⟩⟩⟩
       ·intro a w ag D z
        have H:=z.E
        have a1 : D 10 = true:=z.p 0 _ R R
        have ch:=z.G 10 a1 _ R
        have dv : ag 10 = (Value.tuple [ZS (ag 10) 0,vI al.2].toArray):=ch.2.1
        exact Zd H (lk R dv) λa H=>⟨o_5 _ _,J8 a1 HJ,_,R,H⟩
       ·intro a w ag D z
        have H:=z.E
        have dw : D 11 = true:=z.p 0 _ R R
        have a1 : D 10 = true:=z.c 11 _ _ R (List.mem_of_getElem? (i:=0) R) R dw
        exact ZM H Za ld R R λa H=>⟨o_5 _ _,J8 a1 HJ,_,R,H⟩
       ·intro a w ag D z
        have H:=z.E
        have hD : D 14 = false:=z.F
        have b5 : D 12 = true:=z.p 0 _ R R
        have dx:=z.G 12 b5 _ R
        have a1 : D 10 = true:=dx.1 10 (show 10 ∈ [10] by decide)
        have I:=(z.M.sure (pre:=[_,_,_,_,_,_,_,_]) a1).togA (pre:=[_,_,_,_,_,_]) hD
        obtain ⟨B,C,K,ar,a5,a6,a7⟩:=Xx (I.rn8)
        have ax : (ZS (ag 10) 0) = (vcV B C K al.1):=Jw ar (z.G 10 (by assumption) _ R).2.2
        have I:=I.pl6
        refine Zk (seg:=cV B C K al.1) (cs':=cV B C K al.1) H I Za R (lk R ax) R ZF cq (q_1 cq cq) (ZC (cc1 (t_2 a5) (cc1 (s_1 (al.1.Next : Int)) (cc1 (t_2 a6) (cc1 (t_2 a7) (cc1 (s_1 _) cc0)))))) (q_2 cq cq) ?_; intro w a I H
        have I:=(M.recell I (show _ = (Value.cells (ZS (ag 10) 0)).toList from by rw [ax]; rfl)).unsure (pre:=[_,_,_,_,_,_,_,_]) a1
        exact ⟨undef,_,R,Env.dummy H (by decide),M.qTogS (p:=mkW 14 10 aj xi (λv=>(Value.cells (ZS v 0)).toList)) (its:=[raw T (cat [[h],[vI b.2.1],[u32],[n],enc b.2.2.2.2.1]),raw b1 xi,r0,osl NoB (b.1 : List V16) h,osl NoB (b.2.2.1 : List GRecord) u32,osl NoB (b.2.2.2.1 : List GEvent) n]) (mk1:=[]) (mk2:=[_,_]) I R zq,trivial⟩
       intro a w ag D H I hG af
       have d6:=af 6 (by decide)
       have d9:=af 9 (by decide)
       have a1:=af 10 (by decide)
       have dy:=af 14 (by decide)
       have I:=(((I.togB (pre:=[_,_,_,_,_,_]) dy).togB (pre:=[_,_,_,_,_,_,_]) d6).togB (pre:=[_,_,_,_,_,_,_]) d9).sure (pre:=[_,_,_,_,_,_,_,_]) a1
       obtain ⟨B,C,K,ar,_,_,_⟩:=Xx (I.rn8)
       have ax : (ZS (ag 10) 0) = (vcV B C K al.1):=Jw ar (hG 10 a1 _ R).2.2
       have I:=I.pl8
       have I:=(V9 (I.recown (congrArg (λv=>(Value.cells v).toList) ax))).pl9
       have I:=M.recell (c':=cV B C K al.1) I (congrArg (λv=>(Value.cells v).toList) ax)
       have H:=H.setq (t:=73) R ax
       refine Zc H R λa H=>Zj ?_
       obtain rfl:=o_1 o
       refine Zm ?_
       have I:=I.pl1.toOsl0.pl2.toOsl0.pl3.toOsl0.pl1.pl2.pl9.pl9.pl9.pl9.pl9.pl9.pl9.pl10
       exact ⟨B,C,K,H.s,I⟩
      intro c4 o
      have I:=I.pl1.pl1
      obtain ⟨y,c9,o⟩:=p_1 o
      obtain ⟨A,da,o⟩:=p_1 o
      obtain ⟨ae,db,o⟩:=p_1 o
      obtain ⟨U,dc,o⟩:=p_1 o
      refine Yl (its:=[raw T (cat [[h],[vI b.2.1],[u32],[n],enc b.2.2.2.2.1]),raw b1 xi,r0,osl NoB (b.1 : List V16) h,osl NoB (b.2.2.1 : List GRecord) u32,osl NoB (b.2.2.2.1 : List GEvent) n]) (mk:=([mkW 12 7 aj xi (λv=>(Value.cells (ZS v 0)).toList),([2,4,6],λbs _=>(tog (bs.getD 0 false) (raw e (cat [[d],[vI q.1.1],[Value.int .u64 q.1.2]])) (tog (bs.getD 1 false) (raw e (cat [[d],[vI y.1.1],[Value.int .u64 y.1.2]])) (tog (bs.getD 2 false) (raw e (cat [[d],[vI A.1.1],[Value.int .u64 A.1.2]])) (raw e (cat [[d],[vI ae.1.1],[Value.int .u64 ae.1.2]])))))),mkO 2 (λv=>osl NoB (y.2 : List UInt8) v),mkO 4 (λv=>osl NoB (A.2 : List UInt8) v),mkO 7 (λv=>own NoB U.1 (Value.cells (ZS v 0)).toList)] : Mk)) [25,26,27,28,29,30,31,32,24,33,34,35,91] Yt R R (by decide) R H (λu=>M.qS (M.qS (M.qE (M.qE (M.qE (M.q0 I.drew u) emO) emO) emO) λ_=>R) λ_=>R) (qsP (v:=(Value.agg (cat [[h],[vI b.2.1],[u32],[n],enc b.2.2.2.2.1]).toArray)) ?_ (q_m (λ_=>R) (qsM (pr:=λv=>True) ?_ (q_m (λ_=>R) (qsM (pr:=λv=>True) ?_ (q_m (λ_=>R) (qsV (v:=(Value.agg (enc ae.2).toArray)) ?_ (qsM (pr:=λv=>v = (Value.tuple [ZS v 0,vI U.2.1,vI U.2.2].toArray) ∧ ∃ cs,(ZS v 0) = .agg cs) ?_ (qsD (ds:=[7]) (f:=λus=>(Value.tuple [ZS (us.getD 0 undef) 0,vI U.2.1,vI U.2.2].toArray)) ?_ (qsD (ds:=[7]) (f:=λus=>(ZS (us.getD 0 undef) 0)) ?_ (qsP (λz=>ZM z.E Za ld R R (kr0 R)) (qsP (λz=>ZM z.E Za ld R R (kr0 R)) (qsM (pr:=λv=>True) ?_ qs0))))))))))))) ?_
      ·intro a w ad D z
       have H:=z.E
       have hD : D 0 = false:=z.F
       have I:=z.M.togA (pre:=[_,_,_,_,_,_]) (WH (j:=12) (k:=2) z.c R R R hD)
       exact Zq H R ZF R I.ra0 cq λa H=>⟨o_5 _ _,_,R,H⟩
      ·intro a w ad D z
       have H:=z.E
       have hD : D 2 = false:=z.F
       have I:=z.M.togA (pre:=[_,_,_,_,_,_,_]) hD
       have hNx : D 4 = false:=WH (j:=4) (k:=1) z.c R R R hD
       have I:=M.tailP (m:=[_]) I.pl7
       refine Zp H R (cbm func147) (HG _ _ _ _ e ak d ah (q.1.1,q.1.2) I y c9) ?_
       rintro ee w a ⟨_,rfl,I⟩ H
       have I:=M.tailU (m:=[_,_]) I
       simp only [List.cons_append,List.nil_append] at I
       have I:=I.pl8.pl8.pl8.pl8.pl8.pl8.pl8.pl8
       exact ⟨_,_,R,H,M.qUnconst (p:=([2,4,6],λbs _=>(tog (bs.getD 0 false) (raw e (cat [[d],[vI q.1.1],[Value.int .u64 q.1.2]])) (tog (bs.getD 1 false) (raw e (cat [[d],[vI y.1.1],[Value.int .u64 y.1.2]])) (tog (bs.getD 2 false) (raw e (cat [[d],[vI A.1.1],[Value.int .u64 A.1.2]])) (raw e (cat [[d],[vI ae.1.1],[Value.int .u64 ae.1.2]]))))))) (its:=[raw T (cat [[h],[vI b.2.1],[u32],[n],enc b.2.2.2.2.1]),raw b1 xi,r0,osl NoB (b.1 : List V16) h,osl NoB (b.2.2.1 : List GRecord) u32,osl NoB (b.2.2.2.1 : List GEvent) n]) (mk1:=([mkW 12 7 aj xi (λv=>(Value.cells (ZS v 0)).toList)] : Mk)) (mk2:=([mkO 2 (λv=>osl NoB (y.2 : List UInt8) v),mkO 4 (λv=>osl NoB (A.2 : List UInt8) v),mkO 7 (λv=>own NoB U.1 (Value.cells (ZS v 0)).toList)] : Mk)) (M.qFill (its:=[raw T (cat [[h],[vI b.2.1],[u32],[n],enc b.2.2.2.2.1]),raw b1 xi,r0,osl NoB (b.1 : List V16) h,osl NoB (b.2.2.1 : List GRecord) u32,osl NoB (b.2.2.2.1 : List GEvent) n]) (mk1:=([mkW 12 7 aj xi (λv=>(Value.cells (ZS v 0)).toList),([],λ_ _=>raw e (cat [[d],[vI y.1.1],[Value.int .u64 y.1.2]]))] : Mk)) (mk2:=([mkO 4 (λv=>osl NoB (A.2 : List UInt8) v),mkO 7 (λv=>own NoB U.1 (Value.cells (ZS v 0)).toList)] : Mk)) (f:=(λv=>osl NoB (y.2 : List UInt8) v)) I R hD) (by show tog (Xg D 2 2) (raw e (cat [[d],[vI q.1.1],[Value.int .u64 q.1.2]])) (tog (Xg D 2 4) (raw e (cat [[d],[vI y.1.1],[Value.int .u64 y.1.2]])) (tog (Xg D 2 6) (raw e (cat [[d],[vI A.1.1],[Value.int .u64 A.1.2]])) (raw e (cat [[d],[vI ae.1.1],[Value.int .u64 ae.1.2]])))) = _; rw [tg1 A9,tg0 (updN (i:=2) hNx (by decide))]),trivial⟩
      ·intro a w ad D z
       have H:=z.E
       have hD : D 4 = false:=z.F
       have I:=z.M
       have b7 : D 2 = true:=z.p 1 _ R R
       have I:=(I.togB (pre:=[_,_,_,_,_,_,_]) b7).togA (pre:=[_,_,_,_,_,_,_]) hD
       have hNx : D 6 = false:=WH (j:=6) (k:=1) z.c R R R hD
       have I:=M.tailP (m:=[_]) I.pl7
       refine Zp H R (cbm func80) (Jb _ _ _ _ e ak d ah (y.1.1,y.1.2) 12 I A da) ?_
       rintro ef w a ⟨_,rfl,I⟩ H
       have I:=M.tailU (m:=[_,_]) I
       simp only [List.cons_append,List.nil_append] at I
       have I:=I.pl9.pl1.pl9.pl9.pl9.pl9.pl9.pl9.pl9.pl9
       exact ⟨_,_,R,H,M.qUnconst (p:=([2,4,6],λbs _=>(tog (bs.getD 0 false) (raw e (cat [[d],[vI q.1.1],[Value.int .u64 q.1.2]])) (tog (bs.getD 1 false) (raw e (cat [[d],[vI y.1.1],[Value.int .u64 y.1.2]])) (tog (bs.getD 2 false) (raw e (cat [[d],[vI A.1.1],[Value.int .u64 A.1.2]])) (raw e (cat [[d],[vI ae.1.1],[Value.int .u64 ae.1.2]]))))))) (its:=[raw T (cat [[h],[vI b.2.1],[u32],[n],enc b.2.2.2.2.1]),raw b1 xi,r0,osl NoB (b.1 : List V16) h,osl NoB (b.2.2.1 : List GRecord) u32,osl NoB (b.2.2.2.1 : List GEvent) n]) (mk1:=([mkW 12 7 aj xi (λv=>(Value.cells (ZS v 0)).toList)] : Mk)) (mk2:=([mkO 2 (λv=>osl NoB (y.2 : List UInt8) v),mkO 4 (λv=>osl NoB (A.2 : List UInt8) v),mkO 7 (λv=>own NoB U.1 (Value.cells (ZS v 0)).toList)] : Mk)) (M.qFill (its:=[raw T (cat [[h],[vI b.2.1],[u32],[n],enc b.2.2.2.2.1]),raw b1 xi,r0,osl NoB (b.1 : List V16) h,osl NoB (b.2.2.1 : List GRecord) u32,osl NoB (b.2.2.2.1 : List GEvent) n]) (mk1:=([mkW 12 7 aj xi (λv=>(Value.cells (ZS v 0)).toList),([],λ_ _=>raw e (cat [[d],[vI A.1.1],[Value.int .u64 A.1.2]])),mkO 2 (λv=>osl NoB (y.2 : List UInt8) v)] : Mk)) (mk2:=([mkO 7 (λv=>own NoB U.1 (Value.cells (ZS v 0)).toList)] : Mk)) (f:=(λv=>osl NoB (A.2 : List UInt8) v)) I R hD) (by show tog (Xg D 4 2) (raw e (cat [[d],[vI q.1.1],[Value.int .u64 q.1.2]])) (tog (Xg D 4 4) (raw e (cat [[d],[vI y.1.1],[Value.int .u64 y.1.2]])) (tog (Xg D 4 6) (raw e (cat [[d],[vI A.1.1],[Value.int .u64 A.1.2]])) (raw e (cat [[d],[vI ae.1.1],[Value.int .u64 ae.1.2]])))) = _; rw [tg1 (updK b7),tg1 A9,tg0 (updN (i:=4) hNx (by decide))]),trivial⟩
      ·intro a w ad D z
       have H:=z.E
       have hD : D 6 = false:=z.F
       have I:=z.M
       have ci : D 4 = true:=z.p 1 _ R R
       have b7 : D 2 = true:=z.c 4 _ _ R (List.mem_of_getElem? (i:=1) R) R ci
       have I:=M.tailP (m:=[_]) ((((I.togB (pre:=[_,_,_,_,_,_,_]) b7).togB (pre:=[_,_,_,_,_,_,_]) ci).togA (pre:=[_,_,_,_,_,_,_]) hD).pl7)
       refine Zp H R kC (Wq _ _ _ _ e ak d ah (A.1.1,A.1.2) I ae db) ?_
       rintro v w a ⟨rfl,I⟩ H
       have I:=M.tailU (m:=[_]) I
       simp only [List.cons_append,List.nil_append] at I
       exact ⟨_,R,H,M.qTogS (mk1:=[_]) (mk2:=[_,_,_]) I R (by show tog (Xg D 6 2) (raw e (cat [[d],[vI q.1.1],[Value.int .u64 q.1.2]])) (tog (Xg D 6 4) (raw e (cat [[d],[vI y.1.1],[Value.int .u64 y.1.2]])) (tog (Xg D 6 6) (raw e (cat [[d],[vI A.1.1],[Value.int .u64 A.1.2]])) (raw e (cat [[d],[vI ae.1.1],[Value.int .u64 ae.1.2]])))) = _; rw [tg1 (updK b7),tg1 (updK ci),tg1 A9])⟩
      ·intro a w ad D z
       have H:=z.E
       have hD : D 7 = false:=z.F
       have d2 : D 2 = true:=z.p 1 _ R R
       have d4 : D 4 = true:=z.p 2 _ R R
       have hM0:=z.M
       have I:=((z.M.sure (pre:=[_,_,_,_,_,_,_,_]) d2).sure (pre:=[_,_,_,_,_,_,_,_,_]) d4).togA (pre:=[_,_,_,_,_,_]) (WH (j:=12) (k:=1) z.c R R R hD)
       refine Zp H R (cbm func46) (Hz _ (⟨b.1,b.2.1,b.2.2.1,b.2.2.2.1,b.2.2.2.2.1⟩ : GVault) h (I.sl3) u32 (I.sl4) n (I.sl5) y.2 (ad 2) (I.sl8) A.2 (ad 4) (I.sl9) ae.2 U dc) ?_
       rintro _ w a ⟨eg,eh,ei,rfl,hFr,hK⟩ H
       have I:=V4 (x:=U.1) (hM0.add hK hFr) sio sio sio
       have a3 : D 12 = false:=WH (j:=12) (k:=1) z.c R R R hD
       have I:=I.togA (pre:=[_,_,_,_,_,_,_]) a3
       exact ⟨_,_,R,H,M.qUnconst (p:=mkW 12 7 aj xi (λv=>(Value.cells (ZS v 0)).toList)) (its:=[raw T (cat [[h],[vI b.2.1],[u32],[n],enc b.2.2.2.2.1]),raw b1 xi,r0,osl NoB (b.1 : List V16) h,osl NoB (b.2.2.1 : List GRecord) u32,osl NoB (b.2.2.2.1 : List GEvent) n]) (mk1:=([] : Mk)) (mk2:=([([2,4,6],λbs _=>(tog (bs.getD 0 false) (raw e (cat [[d],[vI q.1.1],[Value.int .u64 q.1.2]])) (tog (bs.getD 1 false) (raw e (cat [[d],[vI y.1.1],[Value.int .u64 y.1.2]])) (tog (bs.getD 2 false) (raw e (cat [[d],[vI A.1.1],[Value.int .u64 A.1.2]])) (raw e (cat [[d],[vI ae.1.1],[Value.int .u64 ae.1.2]])))))),mkO 2 (λv=>osl NoB (y.2 : List UInt8) v),mkO 4 (λv=>osl NoB (A.2 : List UInt8) v),mkO 7 (λv=>own NoB U.1 (Value.cells (ZS v 0)).toList)] : Mk)) (M.qFill (its:=[raw T (cat [[h],[vI b.2.1],[u32],[n],enc b.2.2.2.2.1]),raw b1 xi,r0,osl NoB (b.1 : List V16) h,osl NoB (b.2.2.1 : List GRecord) u32,osl NoB (b.2.2.2.1 : List GEvent) n]) (mk1:=([([],λ_ _=>raw aj xi),([2,4,6],λbs _=>(tog (bs.getD 0 false) (raw e (cat [[d],[vI q.1.1],[Value.int .u64 q.1.2]])) (tog (bs.getD 1 false) (raw e (cat [[d],[vI y.1.1],[Value.int .u64 y.1.2]])) (tog (bs.getD 2 false) (raw e (cat [[d],[vI A.1.1],[Value.int .u64 A.1.2]])) (raw e (cat [[d],[vI ae.1.1],[Value.int .u64 ae.1.2]])))))),mkO 2 (λv=>osl NoB (y.2 : List UInt8) v),mkO 4 (λv=>osl NoB (A.2 : List UInt8) v)] : Mk)) (mk2:=([] : Mk)) (f:=(λv=>own NoB U.1 (Value.cells (ZS v 0)).toList)) I R hD) (Bo a3),⟨R,⟨_,R⟩⟩⟩
      ·intro a w ad D z
       have H:=z.E
       have d7 : D 7 = true:=z.p 0 _ R R
       have g7:=z.G 7 d7 _ R
       have f7 : ad 7 = (Value.tuple [ZS (ad 7) 0,vI U.2.1,vI U.2.2].toArray):=g7.2.1
       exact Zd H (lk R f7) λa H=>⟨o_5 _ _,J8 d7 HJ,_,R,H⟩
      ·intro a w ad D z
       have H:=z.E
       have d8 : D 8 = true:=z.p 0 _ R R
       have d7 : D 7 = true:=z.c 8 _ _ R (List.mem_of_getElem? (i:=0) R) R d8
       exact ZM H Za ld R R λa H=>⟨o_5 _ _,J8 d7 HJ,_,R,H⟩
      ·intro a w ad D z
       have H:=z.E
       have hD : D 12 = false:=z.F
       have d9 : D 9 = true:=z.p 0 _ R R
       have g9:=z.G 9 d9 _ R
       have d7 : D 7 = true:=g9.1 7 (show 7 ∈ [7] by decide)
       have I:=(z.M.sure (pre:=[_,_,_,_,_,_,_,_,_,_]) d7).togA (pre:=[_,_,_,_,_,_]) hD
       obtain ⟨L,N,O,ar,bb,bc,bd⟩:=Xx (I.rn10)
       have ay : (ZS (ad 7) 0) = (vcV L N O U.1):=Jw ar (z.G 7 (by assumption) _ R).2.2
       have I:=I.pl6
       refine Zk (seg:=cV L N O U.1) (cs':=cV L N O U.1) H I Za R (lk R ay) R ZF cq (q_1 cq cq) (ZC (cc1 (t_2 bb) (cc1 (s_1 (U.1.Next : Int)) (cc1 (t_2 bc) (cc1 (t_2 bd) (cc1 (s_1 _) cc0)))))) (q_2 cq cq) ?_; intro w a I H
       have I:=(M.recell I (show _ = (Value.cells (ZS (ad 7) 0)).toList from by rw [ay]; rfl)).unsure (pre:=[_,_,_,_,_,_,_,_,_,_]) d7
       exact ⟨undef,_,R,Env.dummy H (by decide),M.qTogS (p:=mkW 12 7 aj xi (λv=>(Value.cells (ZS v 0)).toList)) (its:=[raw T (cat [[h],[vI b.2.1],[u32],[n],enc b.2.2.2.2.1]),raw b1 xi,r0,osl NoB (b.1 : List V16) h,osl NoB (b.2.2.1 : List GRecord) u32,osl NoB (b.2.2.2.1 : List GEvent) n]) (mk1:=[]) (mk2:=[_,_,_,_]) I R zq,trivial⟩
      intro a w ad D H I hG af
      have d2:=af 2 (by decide)
      have d4:=af 4 (by decide)
      have d6:=af 6 (by decide)
      have d7:=af 7 (by decide)
      have b5:=af 12 (by decide)
      have I:=((((((I.togB (pre:=[_,_,_,_,_,_]) b5).togB (pre:=[_,_,_,_,_,_,_]) d2).togB (pre:=[_,_,_,_,_,_,_]) d4).togB (pre:=[_,_,_,_,_,_,_]) d6).sure (pre:=[_,_,_,_,_,_,_,_]) d2).sure (pre:=[_,_,_,_,_,_,_,_,_]) d4).sure (pre:=[_,_,_,_,_,_,_,_,_,_]) d7
      obtain ⟨L,N,O,ar,_,_,_⟩:=Xx (I.rn10)
      have ay : (ZS (ad 7) 0) = (vcV L N O U.1):=Jw ar (hG 7 d7 _ R).2.2
      have I:=I.pl10
      have I:=(V9 (I.recown (congrArg (λv=>(Value.cells v).toList) ay))).pl9
      have I:=M.recell (c':=cV L N O U.1) I (congrArg (λv=>(Value.cells v).toList) ay)
      have H:=H.setq (t:=33) R ay
      refine Zc H R λa H=>Zj ?_
      obtain rfl:=o_1 o
      refine Zm ?_
      have I:=((I.pl1.toOsl0.pl2.toOsl0.pl3.toOsl0.pl1.pl2.pl9.pl9.pl9.pl9.pl9.pl9.pl9.pl10.pl12).drop.pl11).drop
      exact ⟨L,N,O,H.s,I⟩
     rintro a w ⟨cc,cd,cf,H,I⟩
     refine YA ?_
     obtain rfl:=o_1 cz
     refine Zm ?_
     have I:=I.pl10.pl10.pl10.pl10.pl10.pl10.pl10.pl10.pl10.pl9.pl10
     exact ⟨cc,cd,cf,H.s,I⟩
    rintro a w ⟨bx,bz,b0,H,I⟩
    refine Zb (Zd H R λa H=>Zn H R R R λa H=>Ze ?_)
    obtain ⟨bm,a4,cj⟩:=p_1 cy
    refine Z7 (λa w=>∃ bo bp bq : Value,Env 79 a [(0,ptr e 0),(2,ptr b1 0),(3,ptr T 0),(4,vI b.2.2.2.2.2.2.2)] ∧ M St W w [raw e (cat [[d],[vI aq.2.2.2.2.2.1],[Value.int .u64 aq.2.2.2.2.2.2.1]]),raw T (cat [[bo],[vI bm.2.1],[bp],[bq],enc bm.2.2.2.2]),raw b1 xi,r0,osl NoB (bm.1 : List V16) bo,osl NoB (bm.2.2.1 : List GRecord) bp,osl NoB (bm.2.2.2.1 : List GEvent) bq]) ?_ ?_
    ·refine c_if H R a4 ?_ ?_
     ·intro cl a4
      refine t_1 (Zq H R ZF R I.ra0 cq ?_); intro a H
      have I:=I.pl2
      refine Zk (seg:=cat [[bx],[vI aq.2.1],[bz],[b0],enc aq.2.2.2.2.1]) (cs':=cat [[bx],[vI aq.2.1],[bz],[b0],enc aq.2.2.2.2.1]) H I Za R R R ZF cq (q_1 cq cq) (ZC (cc1 (t_2 (I.sl8)) (cc1 (s_1 (aq.2.1 : Int)) (cc1 (t_2 (I.sl9)) (cc1 (t_2 (I.sl10)) (cc1 (s_1 _) cc0)))))) (q_2 cq cq) λw a I H=>Zj ?_
      obtain rfl:=o_1 a4
      refine Zm ?_
      have I:=((((I.pl10.pl10.pl10.pl7.pl7.pl5.pl7.pl10).drop.pl9).drop.pl8).drop.pl7).drop
      exact ⟨bx,bz,b0,H.s,I⟩
     intro cl a4
     refine u_2 ?_
     obtain rfl:=o_1 a4
     refine Zm ?_
     have I:=((((I.pl7.pl7.pl7.pl7.pl7.pl7.pl7.pl10).drop.pl9).drop.pl8).drop.pl7).drop
     exact ⟨h,u32,n,H.s,I⟩
    rintro a w ⟨bo,bp,bq,H,I⟩
    refine YA ?_
    obtain rfl:=o_1 cj
    refine Zm ?_
    exact ⟨bo,bp,bq,H.s,I⟩
   rintro a w ⟨b9,ca,cb,H,I⟩
   refine t_1 (Zd H R λa H=>Zn H R R R λa H=>Zc H R λa H=>Zj (Zm ?_))
   exact ⟨_,ois cx,b9,ca,cb,H.s,I⟩
  intro cv a8
  refine o_4 (Zu (Zu (YQ ?_)))
  obtain rfl:=cu _ (ois a8)
  refine Zm ?_
  exact ⟨h,u32,n,H.s,I⟩
 rintro a w ⟨bu,bv,bw,H,I⟩
 refine Zz (Zb (Zq H R ZF R I.ra1 cq ?_)); intro a H
 have I:=I.pl2
 refine Zk (seg:=cat [[bu],[vI az.2.1],[bv],[bw],enc az.2.2.2.2.1]) (cs':=cat [[bu],[vI az.2.1],[bv],[bw],enc az.2.2.2.2.1]) H I Za R R R ZF cq (q_1 cq cq) (ZC (cc1 (t_2 (I.sl4)) (cc1 (s_1 (az.2.1 : Int)) (cc1 (t_2 (I.sl5)) (cc1 (t_2 (I.sl6)) (cc1 (s_1 _) cc0)))))) (q_2 cq cq) λw a I H=>Ze ?_
 obtain rfl:=o_1 ct
 have cm : Yb prog _ _ (.cell 2 79) _:=ZG H R ZF R I.ra0 cq R
 have I:=((I.pl3.pl6.pl6.pl6.pl5.pl6).drop.pl5).drop
 exact p_3 (ZV H R cm ⟨_,R,bu,bv,bw,R,I⟩)
def TH (d : (List UInt8)) (C : (Int × Int)) : Option ((Int × Int) × GVault) :=
 (Qo d (C.1,C.2)).bind λb=>(some ((b.2.Records.length : Int),(b.2.Events.length : Int)) : Option (Int × Int)).bind λf=>((Z5 d (b.1.1,b.1.2) 16).bind λc=>(if c.2 == 0 then ((Z5 d (c.1.1,c.1.2) 32).bind λn=>(ZZ b.2.Head n.2).bind λz=>(ZZ b.2.Head n.2).bind λF=>some (b.2.Keys,b.2.Next,b.2.Records,b.2.Events,b.2.Head.setIfInBounds (n.2).toNat (z + 1),n.1.1,n.1.2)) else (if c.2 == 1 then (if decide (f.1 > 0) then ((Z5 d (c.1.1,c.1.2) f.1).bind λm=>(idx b.2.Records m.2).bind λe=>if decide ((e.Body.length : Int) > 0) then ((idx e.Body (0 : Int)).bind λA=>(idx e.Body (0 : Int)).bind λG=>some (b.2.Keys,b.2.Next,b.2.Records.set (m.2).toNat (⟨e.Number,e.Version,e.Nonce,e.Label,(e.Body.set ((0 : Int)).toNat (A + 1)),e.Tag⟩ : GRecord),b.2.Events,b.2.Head,m.1.1,m.1.2)) else (some (b.2.Keys,b.2.Next,b.2.Records,b.2.Events,b.2.Head,m.1.1,m.1.2))) else (some (b.2.Keys,b.2.Next,b.2.Records,b.2.Events,b.2.Head,c.1.1,c.1.2))) else (if c.2 == 2 then (if decide (f.1 > 0) then ((Z5 d (c.1.1,c.1.2) f.1).bind λo=>(idx b.2.Records o.2).bind λh=>(Z5 d (o.1.1,o.1.2) 32).bind λq=>(ZZ h.Tag q.2).bind λB=>(ZZ h.Tag q.2).bind λK=>(idx b.2.Records o.2).bind λL=>some (b.2.Keys,b.2.Next,b.2.Records.set (o.2).toNat (⟨h.Number,h.Version,h.Nonce,h.Label,h.Body,(h.Tag.setIfInBounds (q.2).toNat (B + 1))⟩ : GRecord),b.2.Events,b.2.Head,q.1.1,q.1.2)) else (some (b.2.Keys,b.2.Next,b.2.Records,b.2.Events,b.2.Head,c.1.1,c.1.2))) else (if c.2 == 3 then (if decide (f.2 > 0) then ((slc b.2.Events (0 : Int) (wr (f.2 - 1))).bind λu=>some (b.2.Keys,b.2.Next,b.2.Records,u,b.2.Head,c.1.1,c.1.2)) else (some (b.2.Keys,b.2.Next,b.2.Records,b.2.Events,b.2.Head,c.1.1,c.1.2))) else (if c.2 == 4 then (if decide (f.1 > 0) then ((slc b.2.Records (1 : Int) (b.2.Records.length : Int)).bind λx=>some (b.2.Keys,b.2.Next,x,b.2.Events,b.2.Head,c.1.1,c.1.2)) else (some (b.2.Keys,b.2.Next,b.2.Records,b.2.Events,b.2.Head,c.1.1,c.1.2))) else (if c.2 == 5 then ((XB d (c.1.1,c.1.2) ([0,1000001,1000000,1] : List Int)).bind λt=>some (b.2.Keys,t.2,b.2.Records,b.2.Events,b.2.Head,t.1.1,t.1.2)) else (if c.2 == 6 then (some ([],b.2.Next,b.2.Records,b.2.Events,b.2.Head,c.1.1,c.1.2)) else (if c.2 == 7 then (if decide (f.1 > 1) then ((Zcf b.2.Records).bind λy=>some (b.2.Keys,b.2.Next,y,b.2.Events,b.2.Head,c.1.1,c.1.2)) else (some (b.2.Keys,b.2.Next,b.2.Records,b.2.Events,b.2.Head,c.1.1,c.1.2))) else (if c.2 == 8 then ((XB d (c.1.1,c.1.2) ([0,2,5] : List Int)).bind λk=>(XB d (k.1.1,k.1.2) ([0,1,7] : List Int)).bind λl=>(app 48 b.2.Events ([(⟨k.2,l.2,Vector.replicate 32 (0 : UInt8)⟩ : GEvent)] : List GEvent)).bind λE=>some (b.2.Keys,b.2.Next,b.2.Records,b.2.Events ++ ([(⟨k.2,l.2,(Vector.replicate 32 (0 : UInt8))⟩ : GEvent)] : List GEvent),b.2.Head,l.1.1,l.1.2)) else (some (b.2.Keys,b.2.Next,b.2.Records,b.2.Events,b.2.Head,c.1.1,c.1.2)))))))))) : Option ((List V16) × Int × (List GRecord) × (List GEvent) × V32 × Int × Int)).bind λi=>some (i.1,i.2.1,i.2.2.1,i.2.2.2.1,i.2.2.2.2.1,i.2.2.2.2.2.1,i.2.2.2.2.2.2) : Option ((List V16) × Int × (List GRecord) × (List GEvent) × V32 × Int × Int)).bind λj=>some ((j.2.2.2.2.2.1,j.2.2.2.2.2.2),(⟨j.1,j.2.1,j.2.2.1,j.2.2.2.1,j.2.2.2.2.1⟩ : GVault))
theorem yg (St : Nat → Prop) (W w0 : World) (r0 : Item) (q : Nat) (T : xg) (d : Value) (N : Rep.sat St W T [d] []) (p0 : xy) (I : M St W w0 [raw q (cat [[d],[vI p0.1],[Value.int .u64 p0.2]]),r0]) (r : xy × GVault) (J : TH T p0 = some r) :
  Calls prog 145 [ptr q 0].toArray w0 (e_r λv w'=>(∃ y1 y2 y3 : Value,v = (vcV y1 y2 y3 r.2) ∧ M St W w' [raw q (cat [[d],[vI r.1.1],[Value.int .u64 r.1.2]]),osl NoB (r.2.Keys : List V16) y1,osl NoB (r.2.Records : List GRecord) y2,osl NoB (r.2.Events : List GEvent) y3,r0])):=by
 refine ce func145 ?_
 intro a H
 unfold TH at J
 refine Zb (Zw H I ZF λb1 w a I H=>Ze (Zb (Zd H R ?_))); intro a H
 have I:=M.tailP (m:=[_]) I.pl1
 obtain ⟨B,e4,J⟩:=p_1 J
 refine Zp H R (cbm func240) (y8 _ _ _ _ q T d N (p0.1,p0.2) I B e4) ?_
 rintro v w a ⟨G,C,U,rfl,I⟩ H
 have I:=M.tailU (m:=[_,_,_,_]) I
 simp only [List.cons_append,List.nil_append] at I
 refine Zw H I ZF λb8 w a I H=>Zk (seg:=cV G C U B.2) (cs':=cV G C U B.2) H I Za R R R ZF cq (q_1 cq cq) (ZC (cc1 (t_2 (I.sl2)) (cc1 (s_1 (B.2.Next : Int)) (cc1 (t_2 (I.sl3)) (cc1 (t_2 (I.sl4)) (cc1 (s_1 _) cc0)))))) (q_2 cq cq) λw a I H=>Ze ?_
 obtain ⟨am,b6,b7⟩:=p_1 J
 refine ZJ (λa w=>Env 137 a [(0,ptr q 0),(2,ptr b1 0),(3,ptr b8 0),(4,vI am.1),(5,vI am.2)] ∧ M St W w [raw b8 (cV G C U B.2),raw q (cat [[d],[vI B.1.1],[Value.int .u64 B.1.2]]),osl NoB (B.2.Keys : List V16) G,osl NoB (B.2.Records : List GRecord) C,osl NoB (B.2.Events : List GEvent) U,raw b1 xi,r0]) ?_ ?_
 ·refine Z9 [12,13,14,15,16,17,4,5] Yt R R (by decide) R H I (qsP (λz=>Zg z.E Za ld R (Yn) (kr0 R)) (qsP (λz=>Zy (v:=C) z.E Za ld R XO R (at_2 (z.M.ra0)) (kr0 R)) (qsP (λz=>WE z.E Za ld R o_3 (z.M.sl3) (kr0 R)) (qsP (λz=>Zg z.E Za ld R (XU) (kr0 R)) (qsP (λz=>Zy (v:=U) z.E Za ld R Qy R (at_3 (z.M.ra0)) (kr0 R)) (qsP (λz=>WE z.E Za ld R p_4 (z.M.sl4) (kr0 R)) (qsP (λz=>T9 z.E Za ld R (kr0 R)) (qsP (λz=>T9 z.E Za ld R (kr0 R)) qs0)))))))) ?_
  ·intro a w u H I
   refine Zj ?_
   obtain rfl:=o_1 b6
   refine Zm ?_
   exact ⟨H.s,I⟩
 rintro a w ⟨H,I⟩
 obtain ⟨Z,ar,b9⟩:=p_1 b7
 refine ZJ (λa w=>∃ an ao ap : Value,Env 137 a [(2,ptr b1 0),(3,ptr b8 0)] ∧ M St W w [raw b8 (cat [[an],[vI Z.2.1],[ao],[ap],enc Z.2.2.2.2.1]),raw q (cat [[d],[vI Z.2.2.2.2.2.1],[Value.int .u64 Z.2.2.2.2.2.2]]),raw b1 xi,r0,osl NoB (Z.1 : List V16) an,osl NoB (Z.2.2.1 : List GRecord) ao,osl NoB (Z.2.2.2.1 : List GEvent) ap]) ?_ ?_
 ·refine Zb (Zd H R ?_); intro a H
  have I:=M.tailP (m:=[_]) I.pl1
  obtain ⟨K,cy,ar⟩:=p_1 ar
  refine Zp H R Ju (Yh _ _ _ _ q T d N (B.1.1,B.1.2) 16 I K cy) ?_
  rintro v w a ⟨rfl,I⟩ H
  have I:=M.tailU (m:=[_]) I
  simp only [List.cons_append,List.nil_append] at I
  refine Ze (p_2 (Zb (Zn H R R R λa H=>Zc H R λa H=>Ze ?_)))
  obtain ⟨ah,b,ca⟩:=p_1 ar
  refine Z7 (λa w=>∃ a4 a5 a6 : Value,Env 137 a [(2,ptr b1 0),(3,ptr b8 0)] ∧ M St W w [raw q (cat [[d],[vI ah.2.2.2.2.2.1],[Value.int .u64 ah.2.2.2.2.2.2]]),raw b8 (cat [[a4],[vI ah.2.1],[a5],[a6],enc ah.2.2.2.2.1]),raw b1 xi,r0,osl NoB (ah.1 : List V16) a4,osl NoB (ah.2.2.1 : List GRecord) a5,osl NoB (ah.2.2.2.1 : List GEvent) a6]) ?_ ?_
  ·refine c_if H R b ?_ ?_
   ·intro cb b
    refine t_1 (Zd H R ?_); intro a H
    have I:=M.tailP (m:=[_]) I
    obtain ⟨a7,cz,b⟩:=p_1 b
    refine Zp H R Ju (Yh _ _ _ _ q T d N (K.1.1,K.1.2) 32 I a7 cz) ?_
    rintro v w a ⟨rfl,I⟩ H
    have I:=M.tailU (m:=[_]) I
    simp only [List.cons_append,List.nil_append] at I
    refine Zl H R (He) ?_; intro a H
    obtain ⟨af,ba,b⟩:=bvx b
    refine ZO H R R t_4 ty5 ba.1 λa H=>ZB (v:=(vB af)) H R ty5 R (At.vec (at_4 I.ra1) ba.2) λa H=>Zn H R R (Zci af 1) λa H=>Zl H R (He) ?_; intro a H
    obtain ⟨ds,aj,b⟩:=bvx b
    refine ZO H R R t_4 ty5 aj.1 ?_; intro a H
    have I:=I.pl1
    refine Zk (seg:=[vB (af + 1)]) (cs':=cat [[G],[vI B.2.Next],[C],[U],enc (B.2.Head.setIfInBounds (a7.2).toNat (af + 1))]) H I Za R R R ty5 R (JC (o':=0 + (a7.2).toNat * 1) (pre:=[[G],[vI B.2.Next],[C],[U]]) (seg:=enc B.2.Head) (post:=[]) ck (Ya (v:=B.2.Head) (x:=af + 1) aj.1) (by first | omega | (simp only [Flat.n] <;> omega))) (s_1 (af + 1 : UInt8)) (Qj (o':=0 + (a7.2).toNat * 1) (pre:=[[G],[vI B.2.Next],[C],[U]]) (seg:=enc B.2.Head) (post:=[]) ck (Ya (v:=B.2.Head) (x:=af + 1) aj.1) (ZP (v:=B.2.Head) (x:=af + 1) aj.1) (by first | omega | (simp only [Flat.n] <;> omega))) λw a I H=>Zj ?_
    obtain rfl:=o_1 b
    refine Zm ?_
    have I:=I.pl4.pl4.pl4.pl6.pl6.pl5.pl6
    exact ⟨G,C,U,H.s,I⟩
   intro cb b
   refine Zb (Zn H R R R λa H=>Zc H R λa H=>Ze ?_)
   refine c_if H R b ?_ ?_
   ·intro cc b
    refine Zb (Zd H R λa H=>Zn H R R R λa H=>Ze ?_)
    refine c_if H R b ?_ ?_
    ·intro cd b
     refine s_2 ?_
     have I:=I.pl3
     have I:=I.packL (m:=[_]) (it:=J1 NoB [_]) (JW.mono noB) (λfp h=>Xm.reloc h (ZK Yo))
     obtain ⟨ae,c0,b⟩:=p_1 b
     obtain ⟨O,au,b⟩:=bix b
     refine Yl (its:=[raw b8 (cV G C U B.2),osl NoB (B.2.Keys : List V16) G,osl NoB (B.2.Events : List GEvent) U,raw b1 xi,r0]) (mk:=([([4],λbs _=>(tog (bs.getD 0 false) (raw q (cat [[d],[vI K.1.1],[Value.int .u64 K.1.2]])) (raw q (cat [[d],[vI ae.1.1],[Value.int .u64 ae.1.2]])))),mkU 6 (J1 NoB [osl NoB (B.2.Records : List GRecord) C]) (λv=>opnI (B.2.Records : List GRecord) (ae.2).toNat C O v),mkO 7 (λv=>XS v xh)] : Mk)) [34,35,36,37,38,39,40,6] Yt R R (by decide) R H (λu=>M.qS (M.qS (M.qE (M.q0 I.drew u) emO) λ_=>R) λ_=>R) (qsP (λz=>Zg z.E Za ld R (Yn) (kr0 R)) (qsP (λz=>Zy (v:=C) z.E Za ld R XO R (at_2 (z.M.ra0)) (kr0 R)) (q_m (λ_=>R) (q_m (λ_=>R) (qsV (v:=(vI ae.2)) ?_ (qsP (v:=(ptr (sb C) (so C + (ae.2).toNat * 52))) ?_ (qsM (pr:=λv=>∃ cs,v = .agg cs) ?_ (qsM (pr:=λv=>True) ?_ qs0)))))))) ?_
     ·intro a w ag D z
      have H:=z.E
      have hD : D 4 = false:=z.F
      have I:=M.tailP (m:=[_]) ((z.M.togA (pre:=[_,_,_,_,_]) hD).pl5)
      refine Zp H R Ju (Yh _ _ _ _ q T d N (K.1.1,K.1.2) am.1 I ae c0) ?_
      rintro v w a ⟨rfl,I⟩ H
      have I:=M.tailU (m:=[_]) I
      simp only [List.cons_append,List.nil_append] at I
      exact ⟨_,R,H,M.qTogS (mk1:=[]) (mk2:=[_,_]) I R (by show tog (Xg D 4 4) (raw q (cat [[d],[vI K.1.1],[Value.int .u64 K.1.2]])) (raw q (cat [[d],[vI ae.1.1],[Value.int .u64 ae.1.2]])) = _; rw [tg1 A9])⟩
     ·intro a w ag D z
      have H:=z.E
      have hD : D 5 = false:=z.F
      have I:=z.M
      have c1 : D 6 = false:=WH (j:=6) (k:=0) z.c R R R hD
      have I:=(I.togA (pre:=[_,_,_,_,_,_]) c1).pl
      have I:=I.unpackL (m:=[_]) (λfp h=>Xm.mono h (λ_ h=>h.elim))
      simp only [List.cons_append,List.nil_append] at I
      exact YG H R R o_3 Yf (I.sl0) au.1 λa H=>⟨o_5 _ _,_,R,H⟩
     ·intro a w ag D z
      have H:=z.E
      have hD : D 6 = false:=z.F
      have I:=(z.M.togA (pre:=[_,_,_,_,_,_]) hD).pl
      have I:=I.unpackL (m:=[_]) (λfp h=>Xm.mono h (λ_ h=>h.elim))
      simp only [List.cons_append,List.nil_append] at I
      obtain ⟨de,I,cf,cg⟩:=I.opn au.2
      exact Zq H R Yf R cf cg λa H=>⟨_,_,R,H,M.qTogS (mk1:=([([4],λbs _=>(tog (bs.getD 0 false) (raw q (cat [[d],[vI K.1.1],[Value.int .u64 K.1.2]])) (raw q (cat [[d],[vI ae.1.1],[Value.int .u64 ae.1.2]]))))] : Mk)) (mk2:=([mkO 7 (λv=>XS v xh)] : Mk)) I R qu,⟨_,R⟩⟩
     ·intro a w ag D z
      have H:=z.E
      have hD : D 7 = false:=z.F
      have I:=z.M
      refine Zw H I Yf ?_; intro dt w a I H
      have I:=I.pack1 (it:=XS _ xh) (λw w' fp ⟨b',e,k⟩ hb=>⟨b',e,Yz w w' fp k hb⟩) (λfp k=>⟨_,R,k⟩)
      exact ⟨_,_,R,H,M.qFill (mk1:=[_,_]) (mk2:=[]) (f:=λv=>XS v xh) I R hD,trivial⟩
     intro a w ag D H I hG Y
     have d4:=Y 4 (by decide)
     have d6:=Y 6 (by decide)
     have d7:=Y 7 (by decide)
     have I:=(((I.togB (pre:=[_,_,_,_,_]) d4).togB (pre:=[_,_,_,_,_,_]) d6).sure (pre:=[_,_,_,_,_,_,_]) d7).pl
     obtain ⟨_,⟨c4,ch,_⟩,_⟩:=I.head
     have I:=I.pack1 Yz (it:=raw c4 xh) (λfp ⟨b2,e2,k2⟩=>by rw [ch] at e2; simp [ptr] at e2; subst e2; exact k2)
     have I:=I.pl7.opnOut
     obtain ⟨u64,av,c6,_,_⟩:=YV (I.rn0)
     have bb : (ag 6) = (vcR u64 av O):=Jw c6 (hG 6 d6 _ R).2
     have I:=T3 (M.opnCs (congrArg (λv=>(Value.cells v).toList) bb) I)
     have H:=H.setq (t:=40) R bb
     have H:=H.setq (t:=6) R ch
     have I:=I.pl3
     refine Zk (seg:=cR u64 av O) (cs':=cR u64 av O) H I Za R R R Yf cq (q_1 cq cq) (ZC (cc1 (s_1 (O.Number : Int)) (cc1 (s_1 (O.Version : Int)) (cc1 (s_1 _) (cc1 (t_2 (I.rn1)) (cc1 (t_2 (I.rn2)) (cc1 (s_1 _) cc0))))))) (q_2 cq cq) λw a I H=>Zj (Zz (Zb (Zl H R (Uy) λa H=>ZB (v:=av) H R X7 R (at_4 I.ra0) λa H=>YE H R o_2 (I.rn2) λa H=>Zn H R R R λa H=>Ze ?_)))
     refine c_if H R b ?_ ?_
     ·intro ci b
      refine t_1 (Zl H R (Uy) λa H=>ZB (v:=av) H R X7 R (at_4 I.ra0) ?_); intro a H
      obtain ⟨aq,bc,b⟩:=bix b
      refine YG H R R o_2 ty5 (I.rn2) bc.1 λa H=>ZB (v:=(vB aq)) H R ty5 R (Xe (I.rn2) bc.2) λa H=>Zn H R R (Zci aq 1) ?_; intro a H
      obtain ⟨c7,aw,b⟩:=bix b
      refine YG H R R o_2 ty5 (I.rn2) aw.1 ?_; intro a H
      have I:=I.pl2.toOsl (List.getElem?_eq_some_iff.1 aw.2).1
      refine Bj (i:=(xj).toNat) (k0:=0) (seg:=[vB (aq + 1)]) (xo:=c7) (xn:=aq + 1) H I Za R R R ty5 R (s_1 (aq + 1 : UInt8)) aw.2 (AR (m:=1) R (by decide)) (Zh R) ?_; intro w a I H
      have I:=I.toOwn noB
      refine Zj ?_
      have I:=(VP (x:=(⟨O.Number,O.Version,O.Nonce,O.Label,O.Body.set (xj).toNat (aq + 1),O.Tag⟩ : GRecord)) I.pl9.pl9.pl9.pl9.pl9.pl9.pl7.pl9.pl8.pl9 siw siw).close1 noB
      obtain rfl:=o_1 b
      refine Zm ?_
      have I:=(I.pl4.pl1.pl4.pl6.pl6.pl6.pl7.pl7).drop
      exact ⟨G,C,U,H.s,I⟩
     intro ci b
     refine u_2 ?_
     have I:=(VP (x:=O) I.pl9.pl9.pl9.pl9.pl9.pl9.pl6.pl9.pl9.pl9 siw siw).close0 noB au.2
     obtain rfl:=o_1 b
     refine Zm ?_
     have I:=(I.pl4.pl1.pl4.pl6.pl6.pl6.pl7.pl7).drop
     exact ⟨G,C,U,H.s,I⟩
    intro cd b
    refine u_2 ?_
    obtain rfl:=o_1 b
    refine Zm ?_
    have I:=I.pl4.pl4.pl4.pl6.pl6.pl6.pl6
    exact ⟨G,C,U,H.s,I⟩
   intro cc b
   refine Zb (Zn H R R R λa H=>Zc H R λa H=>Ze ?_)
   refine c_if H R b ?_ ?_
   ·intro cj b
    refine Zb (Zd H R λa H=>Zn H R R R λa H=>Ze ?_)
    refine c_if H R b ?_ ?_
    ·intro cl b
     refine Zb (Zd H R λa H=>Zd H R ?_); intro a H
     have I:=M.tailP (m:=[_]) I
     obtain ⟨bp,c8,b⟩:=p_1 b
     refine Zp H R Ju (Yh _ _ _ _ q T d N (K.1.1,K.1.2) am.1 I bp c8) ?_
     rintro v w a ⟨rfl,I⟩ H
     have I:=M.tailU (m:=[_]) I
     simp only [List.cons_append,List.nil_append] at I
     refine Zc H R λa H=>Ze (Zb (Zl H R (Yn) λa H=>ZB (v:=C) H R XO R (at_2 I.ra1) λa H=>Zd H R ?_)); intro a H
     obtain ⟨o,bd,b⟩:=bix b
     refine YG H R R o_3 Yf (I.sl3) bd.1 ?_; intro a H
     have I:=I.pl3
     obtain ⟨dg,I,_⟩:=I.open1 noB bd.2
     obtain ⟨_,hx,_⟩:=I.head
     obtain ⟨u84,u85,_,_,rfl,_,_,_⟩:=Q8 hx
     have I:=T3 I
     refine Zq H R Yf R (I.holeAt (pre:=[_,_])) cq λa H=>Zw H I Yf λdv w a I H=>Zk (seg:=cR u84 u85 o) (cs':=cR u84 u85 o) H I Za R R R Yf cq (q_1 cq cq) (ZC (cc1 (s_1 (o.Number : Int)) (cc1 (s_1 (o.Version : Int)) (cc1 (s_1 _) (cc1 (t_2 (I.rn1)) (cc1 (t_2 (I.rn2)) (cc1 (s_1 _) cc0))))))) (q_2 cq cq) λw a I H=>Ze (Zb (Zd H R ?_)); intro a H
     have I:=M.tailP (m:=[_]) I.pl4
     obtain ⟨ai,c9,b⟩:=p_1 b
     refine Zp H R Ju (Yh _ _ _ _ q T d N (bp.1.1,bp.1.2) 32 I ai c9) ?_
     rintro v w a ⟨rfl,I⟩ H
     have I:=M.tailU (m:=[_]) I
     simp only [List.cons_append,List.nil_append] at I
     refine Zl H R (Tl) ?_; intro a H
     obtain ⟨aa,be,b⟩:=bvx b
     refine ZO H R R t_4 ty5 be.1 λa H=>ZB (v:=(vB aa)) H R ty5 R (At.vec (at_5 I.ra1) be.2) λa H=>Zn H R R (Zci aa 1) λa H=>Zl H R (Tl) ?_; intro a H
     obtain ⟨dw,ak,b⟩:=bvx b
     refine ZO H R R t_4 ty5 ak.1 ?_; intro a H
     have I:=I.pl1
     refine Zk (seg:=[vB (aa + 1)]) (cs':=cat [[vI o.Number],[vI o.Version],enc o.Nonce,[u84],[u85],enc (o.Tag.setIfInBounds (ai.2).toNat (aa + 1))]) H I Za R R R ty5 R (JC (o':=0 + (ai.2).toNat * 1) (pre:=[[vI o.Number],[vI o.Version],enc o.Nonce,[u84],[u85]]) (seg:=enc o.Tag) (post:=[]) ck (Ya (v:=o.Tag) (x:=aa + 1) ak.1) (by first | omega | (simp only [Flat.n] <;> omega))) (s_1 (aa + 1 : UInt8)) (Qj (o':=0 + (ai.2).toNat * 1) (pre:=[[vI o.Number],[vI o.Version],enc o.Nonce,[u84],[u85]]) (seg:=enc o.Tag) (post:=[]) ck (Ya (v:=o.Tag) (x:=aa + 1) ak.1) (ZP (v:=o.Tag) (x:=aa + 1) ak.1) (by first | omega | (simp only [Flat.n] <;> omega))) λw a I H=>Ze (t_1 (Zl H R (Yn) λa H=>ZB (v:=C) H R XO R (at_2 I.ra5) λa H=>Zd H R λa H=>Zq H R Yf R I.ra0 cq ?_)); intro a H
     obtain ⟨dx,bq,b⟩:=bix b
     refine Aw (pre:=[_,_,_,_]) H I Za ld R R o_3 Yf bq.1 ?_; intro a H
     have I:=I.pl4
     refine jN (k0:=0) (seg:=cat [[vI o.Number],[vI o.Version],enc o.Nonce,[u84],[u85],enc (o.Tag.setIfInBounds (ai.2).toNat (aa + 1))]) (cs':=cat [[vI o.Number],[vI o.Version],enc o.Nonce,[u84],[u85],enc (o.Tag.setIfInBounds (ai.2).toNat (aa + 1))]) H I noB Za R R R Yf cq (ZC (cc1 (s_1 (o.Number : Int)) (cc1 (s_1 (o.Version : Int)) (cc1 (s_1 _) (cc1 (t_2 (I.rn3)) (cc1 (t_2 (I.rn4)) (cc1 (s_1 _) cc0))))))) (q_1 cq cq) (q_2 cq cq) ?_; intro w a I H
     have I:=(VP (x:=(⟨o.Number,o.Version,o.Nonce,o.Label,o.Body,o.Tag.setIfInBounds (ai.2).toNat (aa + 1)⟩ : GRecord)) I.pl9.pl9.pl9.pl9.pl9.pl7.pl7.pl7.pl9.pl9 siw siw).close1 noB
     refine Zj ?_
     obtain rfl:=o_1 b
     refine Zm ?_
     have I:=(I.pl5.pl1.pl5.pl7.pl7.pl7.pl7.pl7).drop
     exact ⟨G,C,U,H.s,I⟩
    intro cl b
    refine u_2 ?_
    obtain rfl:=o_1 b
    refine Zm ?_
    have I:=I.pl4.pl4.pl4.pl6.pl6.pl6.pl6
    exact ⟨G,C,U,H.s,I⟩
   intro cj b
   refine Zb (Zn H R R R λa H=>Zc H R λa H=>Ze ?_)
   refine c_if H R b ?_ ?_
   ·intro br b
    refine Zb (Zd H R λa H=>Zn H R R R λa H=>Ze ?_)
    refine c_if H R b ?_ ?_
    ·intro bt b
     refine t_1 (Zl H R (XU) λa H=>ZB (v:=U) H R Qy R (at_3 I.ra1) λa H=>Zd H R λa H=>Zn H R R R ?_); intro a H
     obtain ⟨dh,bg,b⟩:=p_1 b
     refine QZ H Za ld R R R R R p_4 Wc (I.sl4) bg λa H=>Zl H R (XU) ?_; intro a H
     have I:=(I.pl4.cut noB bg).pl2
     refine Zk (seg:=[Yc U (xj).toNat ((wr (am.2 - 1))).toNat 34]) H I Za R R (ZX (I.sl1)) Qy R (YN (pre:=[[G],[vI B.2.Next],[C]]) ck R) (t_2 (I.sl1)) (Z4 (pre:=[[G],[vI B.2.Next],[C]]) ck R) λw a I H=>Zj ?_
     obtain rfl:=o_1 b
     refine Zm ?_
     have I:=I.pl1.pl4.pl4.pl6.pl6.pl5.pl6
     exact ⟨G,C,Yc U (xj).toNat ((wr (am.2 - 1))).toNat 34,H.s,I⟩
    intro bt b
    refine u_2 ?_
    obtain rfl:=o_1 b
    refine Zm ?_
    have I:=I.pl4.pl4.pl4.pl6.pl6.pl6.pl6
    exact ⟨G,C,U,H.s,I⟩
   intro br b
   refine Zb (Zn H R R R λa H=>Zc H R λa H=>Ze ?_)
   refine c_if H R b ?_ ?_
   ·intro bu b
    refine Zb (Zd H R λa H=>Zn H R R R λa H=>Ze ?_)
    refine c_if H R b ?_ ?_
    ·intro bv b
     refine t_1 (Zl H R (Yn) λa H=>ZB (v:=C) H R XO R (at_2 I.ra1) ?_); intro a H
     obtain ⟨di,bh,b⟩:=p_1 b
     refine QZ H Za ld R R R R R o_3 Yf (I.sl3) bh λa H=>Zl H R (Yn) ?_; intro a H
     have I:=(I.pl3.cutF noB bh).pl2
     refine Zk (seg:=[Yc C ((1 : Int)).toNat ((B.2.Records.length : Int)).toNat 52]) H I Za R R (ZX (I.sl1)) XO R (YN (pre:=[[G],[vI B.2.Next]]) ck R) (t_2 (I.sl1)) (Z4 (pre:=[[G],[vI B.2.Next]]) ck R) λw a I H=>Zj ?_
     obtain rfl:=o_1 b
     refine Zm ?_
     have I:=I.pl4.pl2.pl4.pl6.pl6.pl5.pl6
     exact ⟨G,Yc C ((1 : Int)).toNat ((B.2.Records.length : Int)).toNat 52,U,H.s,I⟩
    intro bv b
    refine u_2 ?_
    obtain rfl:=o_1 b
    refine Zm ?_
    have I:=I.pl4.pl4.pl4.pl6.pl6.pl6.pl6
    exact ⟨G,C,U,H.s,I⟩
   intro bu b
   refine Zb (Zn H R R R λa H=>Zc H R λa H=>Ze ?_)
   refine c_if H R b ?_ ?_
   ·intro bw b
    refine t_1 (Zd H R λa H=>ZL (xs:=[.const (vI 0),.const (vI 1000001),.const (vI 1000000),.const (vI 1)]) (l:=([0,1000001,1000000,1] : List Int)) (vs:=[vI 0,vI 1000001,vI 1000000,vI 1]) H I Za ld R R p_5 ty2 R (by decide) R ?_); intro cm w a I H
    have I:=M.tailP (m:=[_,_]) I.pl1
    obtain ⟨ax,cn,b⟩:=p_1 b
    refine Zp H R jz (VQ _ _ _ _ q T d N (K.1.1,K.1.2) ([0,1000001,1000000,1] : List Int) cm I ax cn) ?_
    rintro v w a ⟨rfl,I⟩ H
    have I:=M.tailU (m:=[_,_]) I
    simp only [List.cons_append,List.nil_append] at I
    refine Zl H R (UA) ?_; intro a H
    have I:=I.pl2
    refine Zk (seg:=[vI ax.2]) H I Za R R R ty2 R (YN (pre:=[[G]]) ck R) (s_1 (ax.2 : Int)) (Z4 (pre:=[[G]]) ck R) λw a I H=>Zj ?_
    obtain rfl:=o_1 b
    refine Zm ?_
    have I:=(I.pl5.pl5.pl5.pl7.pl7.pl5.pl6.pl7).drop
    exact ⟨G,C,U,H.s,I⟩
   intro bw b
   refine Zb (Zn H R R R λa H=>Zc H R λa H=>Ze ?_)
   refine c_if H R b ?_ ?_
   ·intro bx b
    refine t_1 (Zl H R (XA) ?_); intro a H
    have I:=I.pl1
    refine Zk (seg:=[xd]) H I Za R R R T0 R (YN (pre:=[]) cl0 R) ZN (Z4 (pre:=[]) cl0 R) λw a I H=>Zj ?_
    obtain rfl:=o_1 b
    refine Zm ?_
    have I:=(((((((((M.nilS (α:=V16) NoB noB I).pl5).pl5).pl2).pl7).pl7).pl5).pl6).pl7).drop
    exact ⟨xd,C,U,H.s,I⟩
   intro bx b
   refine Zb (Zn H R R R λa H=>Zc H R λa H=>Ze ?_)
   refine c_if H R b ?_ ?_
   ·intro bz b
    refine Zb (Zd H R λa H=>Zn H R R R λa H=>Ze ?_)
    refine c_if H R b ?_ ?_
    ·intro b0 b
     obtain ⟨dj,ay,b⟩:=p_1 b
     have I:=I.pl3
     obtain ⟨ab,ac,ad,I⟩:=I.hdrSwap ay
     refine Zb (Zl H R (Yn) λa H=>ZB (v:=C) H R XO R (at_2 I.ra3) ?_); intro a H
     obtain ⟨al,bi⟩ : ∃ x,idx (ab :: ac :: ad) xj = some x:=⟨_,R⟩
     have az:=H0 bi
     refine YG H R R o_3 Yf (I.sl0) az.1 λa H=>Zq H R Yf R (Xe (I.sl0) az.2) (u_1 _) λa H=>Zw H I Yf λdk w a I H=>Zk (seg:=enc al) (cs':=enc al) H I Za R R R Yf (u_1 _) (q_1 (u_1 _) cq) (s_1 _) (q_2 (u_1 _) cq) λw a I H=>Ze (s_2 ?_)
     obtain ⟨a0,bj⟩ : ∃ x,idx (ab :: ac :: ad) (1 : Int) = some x:=⟨_,R⟩
     have a1:=H0 bj
     obtain ⟨co,bk⟩ : ∃ x,idx (ab :: ac :: ad) xj = some x:=⟨_,R⟩
     have a2:=H0 bk
     refine Z9 [111,112,113,114,115,116,117] Yt R R (by decide) R H I (qsP (λz=>Zg z.E Za ld R (Yn) (kr0 R)) (qsP (λz=>Zy (v:=C) z.E Za ld R XO R (at_2 (z.M.ra4)) (kr0 R)) (qsP (λz=>Zg z.E Za ld R (Yn) (kr0 R)) (qsP (λz=>Zy (v:=C) z.E Za ld R XO R (at_2 (z.M.ra4)) (kr0 R)) (qsP (λz=>Yu z.E Za ld R R o_3 Yf (z.M.sl1) a1.1 (kr0 R)) (qsP (λz=>Zx z.E Za ld R Yf R (Xe (z.M.sl1) a1.2) (u_1 _) (kr0 R)) (qsP (λz=>Yu z.E Za ld R R o_3 Yf (z.M.sl1) a2.1 (kr0 R)) qs0))))))) ?_
     ·intro a w u H I
      have I:=I.pl1
      refine Bj (i:=(xj).toNat) (k0:=0) (seg:=enc a0) (xo:=co) (xn:=a0) H I Za R R R Yf (u_1 _) (s_1 _) a2.2 (AR (m:=52) (u_1 _) (by decide)) (Zh flq) λw a I H=>Zj (Zz (t_1 (Zl H R (Yn) λa H=>ZB (v:=C) H R XO R (at_2 I.ra4) λa H=>Zq H R Yf R I.ra1 (u_1 _) ?_))); intro a H
      obtain ⟨cp,bl⟩ : ∃ x,idx ((ab :: ac :: ad).set (xj).toNat a0) (1 : Int) = some x:=⟨_,R⟩
      have a3:=H0 bl
      refine YG H R R o_3 Yf (I.sl0) a3.1 λa H=>Bj (i:=((1 : Int)).toNat) (k0:=0) (seg:=enc al) (xo:=cp) (xn:=al) H I Za R R R Yf (u_1 _) (s_1 _) a3.2 (AR (m:=52) (u_1 _) (by decide)) (Zh flq) λw a I H=>Zj ?_
      obtain rfl:=o_1 bi
      obtain rfl:=o_1 bj
      obtain rfl:=o_1 bk
      obtain rfl:=o_1 bl
      have I:=M.hdrSwapOf (x:=ab) (y:=ac) (r:=ad) I.pl2.pl1 ay
      obtain rfl:=o_1 b
      refine Zm ?_
      have I:=(I.pl5.pl1.pl5.pl7.pl7.pl7.pl7.pl7).drop
      exact ⟨G,C,U,H.s,I⟩
    intro b0 b
    refine u_2 ?_
    obtain rfl:=o_1 b
    refine Zm ?_
    have I:=I.pl4.pl4.pl4.pl6.pl6.pl6.pl6
    exact ⟨G,C,U,H.s,I⟩
   intro bz b
   refine Zb (Zn H R R R λa H=>Zc H R λa H=>Ze ?_)
   refine c_if H R b ?_ ?_
   ·intro b3 b
    obtain ⟨A,cr,b⟩:=p_1 b
    obtain ⟨L,ct,b⟩:=p_1 b
    refine Yl (its:=[raw b8 (cV G C U B.2),osl NoB (B.2.Keys : List V16) G,osl NoB (B.2.Records : List GRecord) C,osl NoB (B.2.Events : List GEvent) U,raw b1 xi,r0]) (mk:=([([4,7],λbs _=>(tog (bs.getD 0 false) (raw q (cat [[d],[vI K.1.1],[Value.int .u64 K.1.2]])) (tog (bs.getD 1 false) (raw q (cat [[d],[vI A.1.1],[Value.int .u64 A.1.2]])) (raw q (cat [[d],[vI L.1.1],[Value.int .u64 L.1.2]]))))),mkO 3 (λv=>osl NoB (([0,2,5] : List Int) : List Int) v),mkO 6 (λv=>osl NoB (([0,1,7] : List Int) : List Int) v),mkO 9 (λv=>osl NoB (([(⟨A.2,L.2,xc⟩ : GEvent)] : List GEvent) : List GEvent) v)] : Mk)) [124,125,126,127,128,129,130,131,132,133] Yt R R (by decide) R H (λu=>M.qS (M.qE (M.qE (M.qE (M.q0 I.drew u) emO) emO) emO) λ_=>R) (qsP (λz=>Zg z.E Za ld R (XU) (kr0 R)) (qsP (λz=>Zy (v:=U) z.E Za ld R Qy R (at_3 (z.M.ra0)) (kr0 R)) (q_m (λ_=>R) (qsM (pr:=λv=>True) ?_ (qsV (v:=(vI A.2)) ?_ (q_m (λ_=>R) (qsM (pr:=λv=>True) ?_ (qsV (v:=(vI L.2)) ?_ (qsP (λz=>ZY (parts:=[(0,.tmp 128),(1,.tmp 131)]) (vs:=[(0,vI A.2),(1,vI L.2)]) (cs:=cat [[vI A.2],[vI L.2],enc xc]) z.E Za ld R R Wc kS (ZT (pre:=[]) (seg:=[vI 0]) (seg':=[vI A.2]) (post:=[[vI 0],enc xc]) R cl0 R R R (ZT (pre:=[[vI A.2]]) (seg:=[vI 0]) (seg':=[vI L.2]) (post:=[enc xc]) R ck R R R Yp)) (kr0 R)) (qsM (pr:=λv=>True) ?_ qs0)))))))))) ?_
    ·intro a w X D z
     have H:=z.E
     have hD : D 3 = false:=z.F
     have I:=z.M
     exact ZL (xs:=[.const (vI 0),.const (vI 2),.const (vI 5)]) (l:=([0,2,5] : List Int)) (vs:=[vI 0,vI 2,vI 5]) H I Za ld R R p_5 ty2 R (by decide) R λdl w a I H=>⟨_,_,R,H,M.qFill (mk1:=[_]) (mk2:=[_,_]) (f:=(λv=>osl NoB (([0,2,5] : List Int) : List Int) v)) I R hD,trivial⟩
    ·intro a w X D z
     have H:=z.E
     have hD : D 4 = false:=z.F
     have d3 : D 3 = true:=z.p 1 _ R R
     have I:=(z.M.sure (pre:=[_,_,_,_,_,_,_]) d3).togA (pre:=[_,_,_,_,_,_]) hD
     have hNx : D 7 = false:=WH (j:=7) (k:=2) z.c R R R hD
     have I:=M.tailP (m:=[_,_]) I.pl7.pl7
     refine Zp H R jz (VQ _ _ _ _ q T d N (K.1.1,K.1.2) ([0,2,5] : List Int) (X 3) I A cr) ?_
     rintro v w a ⟨rfl,I⟩ H
     have I:=M.tailU (m:=[_,_]) I
     simp only [List.cons_append,List.nil_append] at I
     have I:=I.pl1.pl7.pl7.pl7.pl7.pl7.pl7.pl7.unsure (pre:=[_,_,_,_,_,_,_]) d3
     exact ⟨_,R,H,M.qTogS (mk1:=[]) (mk2:=[_,_,_]) I R (by show tog (Xg D 4 4) (raw q (cat [[d],[vI K.1.1],[Value.int .u64 K.1.2]])) (tog (Xg D 4 7) (raw q (cat [[d],[vI A.1.1],[Value.int .u64 A.1.2]])) (raw q (cat [[d],[vI L.1.1],[Value.int .u64 L.1.2]]))) = _; rw [tg1 A9,tg0 (updN (i:=4) hNx (by decide))])⟩
    ·intro a w X D z
     have H:=z.E
     have hD : D 6 = false:=z.F
     have I:=z.M
     exact ZL (xs:=[.const (vI 0),.const (vI 1),.const (vI 7)]) (l:=([0,1,7] : List Int)) (vs:=[vI 0,vI 1,vI 7]) H I Za ld R R p_5 ty2 R (by decide) R λdm w a I H=>⟨_,_,R,H,M.qFill (mk1:=[_,_]) (mk2:=[_]) (f:=(λv=>osl NoB (([0,1,7] : List Int) : List Int) v)) I R hD,trivial⟩
    ·intro a w X D z
     have H:=z.E
     have hD : D 7 = false:=z.F
     have d6 : D 6 = true:=z.p 1 _ R R
     have I:=z.M.sure (pre:=[_,_,_,_,_,_,_,_]) d6
     have cu : D 4 = true:=z.p 2 _ R R
     have I:=M.tailP (m:=[_,_]) ((((I.togB (pre:=[_,_,_,_,_,_]) cu).togA (pre:=[_,_,_,_,_,_]) hD).pl8).pl7)
     refine Zp H R jz (VQ _ _ _ _ q T d N (A.1.1,A.1.2) ([0,1,7] : List Int) (X 6) I L ct) ?_
     rintro v w a ⟨rfl,I⟩ H
     have I:=M.tailU (m:=[_,_]) I
     simp only [List.cons_append,List.nil_append] at I
     have I:=I.pl1.pl8.pl8.pl8.pl8.pl8.pl8.pl8.pl8.unsure (pre:=[_,_,_,_,_,_,_,_]) d6
     exact ⟨_,R,H,M.qTogS (mk1:=[]) (mk2:=[_,_,_]) I R (by show tog (Xg D 7 4) (raw q (cat [[d],[vI K.1.1],[Value.int .u64 K.1.2]])) (tog (Xg D 7 7) (raw q (cat [[d],[vI A.1.1],[Value.int .u64 A.1.2]])) (raw q (cat [[d],[vI L.1.1],[Value.int .u64 L.1.2]]))) = _; rw [tg1 (updK cu),tg1 A9])⟩
    ·intro a w X D z
     have H:=z.E
     have hD : D 9 = false:=z.F
     have I:=z.M
     exact ZL (xs:=[.tmp 132]) (l:=([(⟨A.2,L.2,xc⟩ : GEvent)] : List GEvent)) (vs:=[Value.agg (enc (⟨A.2,L.2,xc⟩ : GEvent)).toArray]) H I Za ld R R p_4 Wc R (by decide) R λdp w a I H=>⟨_,_,R,H,M.qFill (mk1:=[_,_,_]) (mk2:=[]) (f:=(λv=>osl NoB (([(⟨A.2,L.2,xc⟩ : GEvent)] : List GEvent) : List GEvent) v)) I R hD,trivial⟩
    intro a w X D H I hG Y
    have d3:=Y 3 (by decide)
    have d4:=Y 4 (by decide)
    have d6:=Y 6 (by decide)
    have d7:=Y 7 (by decide)
    have d9:=Y 9 (by decide)
    have I:=((((I.togB (pre:=[_,_,_,_,_,_]) d4).togB (pre:=[_,_,_,_,_,_]) d7).sure (pre:=[_,_,_,_,_,_,_]) d3).sure (pre:=[_,_,_,_,_,_,_,_]) d6).sure (pre:=[_,_,_,_,_,_,_,_,_]) d9
    obtain ⟨dq,cv,b⟩:=p_1 b
    obtain ⟨cw,rfl⟩:=Z1 cv
    have I:=I.pl3
    refine Z3 H I Za ld R R (I.sl9) p_4 Wc R (by decide) cw λbm w a I H=>Zl H R (XU) ?_; intro a H
    have I:=I.pl1
    refine Zk (seg:=[bm]) H I Za R R (ZX (I.sl1)) Qy R (YN (pre:=[[G],[vI B.2.Next],[C]]) ck R) (t_2 (I.sl1)) (Z4 (pre:=[[G],[vI B.2.Next],[C]]) ck R) λw a I H=>Zj ?_
    obtain rfl:=o_1 b
    refine Zm ?_
    have I:=(((I.pl1.pl3.pl3.pl5.pl5.pl5.pl6.pl9).drop.pl8).drop.pl7).drop
    exact ⟨G,C,bm,H.s,I⟩
   intro b3 b
   refine u_2 ?_
   obtain rfl:=o_1 b
   refine Zm ?_
   have I:=I.pl4.pl4.pl4.pl6.pl6.pl6.pl6
   exact ⟨G,C,U,H.s,I⟩
  rintro a w ⟨a4,a5,a6,H,I⟩
  refine YA ?_
  obtain rfl:=o_1 ca
  refine Zm ?_
  have I:=I.pl6.pl6.pl6.pl6.pl6.pl5.pl6
  exact ⟨a4,a5,a6,H.s,I⟩
 rintro a w ⟨an,ao,ap,H,I⟩
 refine Zb (Zq H R ZF R I.ra0 cq ?_); intro a H
 have I:=I.pl2
 refine Zk (seg:=cat [[an],[vI Z.2.1],[ao],[ap],enc Z.2.2.2.2.1]) (cs':=cat [[an],[vI Z.2.1],[ao],[ap],enc Z.2.2.2.2.1]) H I Za R R R ZF cq (q_1 cq cq) (ZC (cc1 (t_2 (I.sl4)) (cc1 (s_1 (Z.2.1 : Int)) (cc1 (t_2 (I.sl5)) (cc1 (t_2 (I.sl6)) (cc1 (s_1 _) cc0)))))) (q_2 cq cq) λw a I H=>Ze ?_
 obtain rfl:=o_1 b9
 have b4 : Yb prog _ _ (.cell 2 79) _:=ZG H R ZF R I.ra0 cq R
 have I:=((I.pl3.pl6.pl6.pl6.pl6.pl6).drop.pl5).drop
 exact p_3 (ZV H R b4 ⟨_,R,an,ao,ap,R,I⟩)
def Vk (j : (List UInt8)) : Option (GVault × (List UInt8) × (List UInt8) × V16) :=
 (UT j).bind λx=>(TH j (x.1,x.2)).bind λe=>(Y3 j (e.1.1,e.1.2)).bind λc=>((if decide ((e.2.Records.length : Int) > 0) then ((Z5 j (c.1.1,c.1.2) 6).bind λk=>some (k.1.1,k.1.2,k.2 == 0)) else (some (c.1.1,c.1.2,false)) : Option (Int × Int × Bool)).bind λd=>if d.2.2 then ((idx e.2.Records (wr ((e.2.Records.length : Int) - 1))).bind λo=>some (o.Nonce,d.1,d.2.1)) else (some (c.2,d.1,d.2.1)) : Option (V16 × Int × Int)).bind λl=>(Ud j (l.2.1,l.2.2)).bind λf=>(Wx j (f.1.1,f.1.2) 20).bind λh=>((Z5 j (h.1.1,h.1.2) 24).bind λi=>(if i.2 == 0 then ((mkS 1 (0 : UInt8) 33).bind λq=>some (h.2,q)) else (if i.2 == 1 then ((XB j (i.1.1,i.1.2) ([200,201] : List Int)).bind λt=>(mkS 1 (0 : UInt8) t.2).bind λu=>some (u,f.2)) else (some (h.2,f.2))) : Option ((List UInt8) × (List UInt8))).bind λm=>some (m.1,m.2) : Option ((List UInt8) × (List UInt8))).bind λn=>(some (e.2.Keys,e.2.Next,e.2.Records,e.2.Events,e.2.Head,l.1,n.2,n.1) : Option ((List V16) × Int × (List GRecord) × (List GEvent) × V32 × V16 × (List UInt8) × (List UInt8))).bind λb=>some ((⟨b.1,b.2.1,b.2.2.1,b.2.2.2.1,b.2.2.2.2.1⟩ : GVault),b.2.2.2.2.2.2.1,b.2.2.2.2.2.2.2,b.2.2.2.2.2.1)
theorem BG (G : World) (X : xg) (f : Value) (h : Ro G X [f]) (r : GVault × xg × xg × V16) (J : Vk X = some r) :
  Calls prog 45 [f].toArray G (e_r λv w'=>(∃ y1 y2 y3 y4 y5 : Value,v = (Value.tuple [vcV y1 y2 y3 r.1,y4,y5,Value.agg (enc r.2.2.2).toArray].toArray) ∧ Fr G w' [osl NoB (r.1.Keys : List V16) y1,osl NoB (r.1.Records : List GRecord) y2,osl NoB (r.1.Events : List GEvent) y3,osl NoB (r.2.1 : List UInt8) y4,osl NoB (r.2.2.1 : List UInt8) y5] ∧ Kept (Old G) G w')):=by
 refine ce func45 ?_
 intro a H
 have I:=M.start G
 unfold Vk at J
 refine Zb (Zw H I ZF λL w a I H=>Zc H R λa H=>Zc H R λa H=>Zw H I ZE λN w a I H=>Ze (Zb (Zd H R ?_))); intro a H
 have I:=M.tailP (m:=[]) I
 obtain ⟨r5,e6,J⟩:=p_1 J
 refine Zp H R (cbm func77) (Bc _ _ _ _ X f h I r5 e6) ?_
 rintro v w a ⟨O,rfl,I⟩ H
 have I:=M.tailU (m:=[_]) I
 simp only [List.cons_append,List.nil_append] at I
 refine Zc H R λa H=>Ze (Zb (Zd H R ?_)); intro a H
 have I:=M.tailP (m:=[_]) I
 obtain ⟨i,a3,J⟩:=p_1 J
 refine Zp H R (cbm func145) (yg _ _ _ _ O X f h (r5.1,r5.2) I i a3) ?_
 rintro v w a ⟨d,e,n,rfl,I⟩ H
 have I:=M.tailU (m:=[_,_,_,_]) I
 simp only [List.cons_append,List.nil_append] at I
 refine Zd H R ?_; intro a H
 have I:=M.tailP (m:=[_]) I
 obtain ⟨K,a4,J⟩:=p_1 J
 refine Zp H R kC (Wq _ _ _ _ O X f h (i.1.1,i.1.2) I K a4) ?_
 rintro v w a ⟨rfl,I⟩ H
 have I:=M.tailU (m:=[_]) I
 simp only [List.cons_append,List.nil_append] at I
 refine Zw H I ZF λy w a I H=>Zw H I ZE ?_; intro A w a I H
 have I:=I.pl1
 refine Zk (seg:=cV d e n i.2) (cs':=cV d e n i.2) H I Za R R R ZF cq (q_1 cq cq) (ZC (cc1 (t_2 (I.sl3)) (cc1 (s_1 (i.2.Next : Int)) (cc1 (t_2 (I.sl4)) (cc1 (t_2 (I.sl5)) (cc1 (s_1 _) cc0)))))) (q_2 cq cq) ?_; intro w a I H
 have I:=I.pl1
 refine Zk (seg:=enc K.2) (cs':=enc K.2) H I Za R R R ZE (u_1 _) (zle flq) (s_1 _) (Zh flq) λw a I H=>Ze ?_
 obtain ⟨x,ak,B⟩:=p_1 J
 refine ZJ (λa w=>Env 54 a [(2,ptr L 0),(5,ptr N 0),(6,ptr O 0),(7,ptr y 0),(8,ptr A 0)] ∧ M (Old G) G w [raw A (enc x.1),raw y (cV d e n i.2),raw O (cat [[f],[vI x.2.1],[Value.int .u64 x.2.2]]),osl NoB (i.2.Keys : List V16) d,osl NoB (i.2.Records : List GRecord) e,osl NoB (i.2.Events : List GEvent) n,raw N xp,raw L xi]) ?_ ?_
 ·obtain ⟨ag,q,t⟩:=p_1 ak
  refine ZJ (λa w=>Env 54 a [(2,ptr L 0),(5,ptr N 0),(6,ptr O 0),(7,ptr y 0),(8,ptr A 0),(25,vT ag.2.2)] ∧ M (Old G) G w [raw A (enc K.2),raw y (cV d e n i.2),raw O (cat [[f],[vI ag.1],[Value.int .u64 ag.2.1]]),osl NoB (i.2.Keys : List V16) d,osl NoB (i.2.Records : List GRecord) e,osl NoB (i.2.Events : List GEvent) n,raw N xp,raw L xi]) ?_ ?_
  ·refine t_1 (Zl H R (Yn) λa H=>ZB (v:=e) H R XO R (at_2 I.ra1) λa H=>YE H R o_3 (I.sl4) λa H=>Zn H R R R λa H=>Zd H R ?_); intro a H
   refine Ys (decide ((i.2.Records.length : Int) > 0)) (λo=>?_) (λo=>?_)
   ·have q:=Zt q o
    refine Zo H (Zi H R (lkb R o)) (by decide) R ?_; intro a H
    have I:=M.tailP (m:=[_]) I.pl2
    obtain ⟨a5,a6,q⟩:=p_1 q
    refine Yd H (Zi H R (lkb R o)) (by decide) R Ju (Yh _ _ _ _ O X f h (K.1.1,K.1.2) 6 I a5 a6) ?_
    rintro v w a ⟨rfl,I⟩ H
    have I:=M.tailU (m:=[_]) I
    simp only [List.cons_append,List.nil_append] at I
    refine Z8 H (Zi H R (lkb R o)) (by decide) R R R λa H=>ZU H (lkb R o) R λa H=>Zj ?_
    obtain rfl:=o_1 q
    refine Zm ?_
    have I:=I.pl7.pl7.pl7.pl7.pl7.pl5.pl7.pl7
    exact ⟨H.s,I⟩
   have q:=Zs q o
   refine k_s H o R R R λa H=>k_s H o R R R λa H=>k_s H o R R R λa H=>Ye H (lkb R o) R λa H=>Zj ?_
   obtain rfl:=o_1 q
   refine Zm ?_
   exact ⟨H.s,I⟩
  rintro a w ⟨H,I⟩
  refine c_if H R t ?_ ?_
  ·intro al t
   refine t_1 (Zl H R (Yn) λa H=>ZB (v:=e) H R XO R (at_2 I.ra1) λa H=>Zl H R (Yn) λa H=>ZB (v:=e) H R XO R (at_2 I.ra1) λa H=>YE H R o_3 (I.sl4) λa H=>Zn H R R R ?_); intro a H
   obtain ⟨Y,ae,t⟩:=bix t
   refine YG H R R o_3 Yf (I.sl4) ae.1 λa H=>Zl H R (JT) ?_; intro a H
   obtain ⟨bn,am,an⟩:=Wj (I.sl4) ae.2
   obtain ⟨bp,bq,rfl,_,_⟩:=YV am
   refine Zq H R ZE R (at_2 an) (u_1 _) λa H=>Zk (seg:=enc Y.Nonce) (cs':=enc Y.Nonce) H I Za R R R ZE (u_1 _) (zle flq) (s_1 _) (Zh flq) λw a I H=>Zj ?_
   obtain rfl:=o_1 t
   refine Zm ?_
   exact ⟨H.s,I⟩
  intro al t
  refine u_2 ?_
  obtain rfl:=o_1 t
  refine Zm ?_
  exact ⟨H.s,I⟩
 rintro a w ⟨H,I⟩
 refine Zb (Zd H R ?_); intro a H
 have I:=M.tailP (m:=[_]) I.pl2
 obtain ⟨ah,a7,B⟩:=p_1 B
 refine Zp H R (cbm func147) (HG _ _ _ _ O X f h (x.2.1,x.2.2) I ah a7) ?_
 rintro ao w a ⟨_,rfl,I⟩ H
 have I:=M.tailU (m:=[_,_]) I
 simp only [List.cons_append,List.nil_append] at I
 refine Zd H R ?_; intro a H
 have I:=M.tailP (m:=[_]) I
 obtain ⟨ai,a8,B⟩:=p_1 B
 refine Zp H R (cbm func80) (Jb _ _ _ _ O X f h (ah.1.1,ah.1.2) 20 I ai a8) ?_
 rintro ap w a ⟨_,rfl,I⟩ H
 have I:=M.tailU (m:=[_,_]) I
 simp only [List.cons_append,List.nil_append] at I
 refine Zc H R λa H=>Zc H R λa H=>Ze ?_
 obtain ⟨Z,T,aq⟩:=p_1 B
 refine ZJ (λa w=>∃ U W : Value,Env 54 a [(2,ptr L 0),(5,ptr N 0),(7,ptr y 0),(8,ptr A 0),(9,W),(10,U)] ∧ M (Old G) G w [raw A (enc x.1),raw y (cV d e n i.2),osl NoB (i.2.Keys : List V16) d,osl NoB (i.2.Records : List GRecord) e,osl NoB (i.2.Events : List GEvent) n,raw N xp,raw L xi,osl NoB (Z.1 : List UInt8) U,osl NoB (Z.2 : List UInt8) W]) ?_ ?_
 ·refine Zb (Zd H R ?_); intro a H
  have I:=M.tailP (m:=[_]) I
  obtain ⟨aj,a9,T⟩:=p_1 T
  refine Zp H R Ju (Yh _ _ _ _ O X f h (ai.1.1,ai.1.2) 24 I aj a9) ?_
  rintro v w a ⟨rfl,I⟩ H
  have I:=M.tailU (m:=[_]) I
  simp only [List.cons_append,List.nil_append] at I
  refine Ze (p_2 (Zb (Zn H R R R λa H=>Zc H R λa H=>Ze ?_)))
  obtain ⟨ar,b,au⟩:=p_1 T
  refine Z7 (λa w=>∃ aa ab : Value,Env 54 a [(2,ptr L 0),(5,ptr N 0),(7,ptr y 0),(8,ptr A 0),(9,ab),(10,aa)] ∧ M (Old G) G w [raw A (enc x.1),raw y (cV d e n i.2),osl NoB (i.2.Keys : List V16) d,osl NoB (i.2.Records : List GRecord) e,osl NoB (i.2.Events : List GEvent) n,raw N xp,raw L xi,osl NoB (ar.1 : List UInt8) aa,osl NoB (ar.2 : List UInt8) ab]) ?_ ?_
  ·refine c_if H R b ?_ ?_
   ·intro av b
    refine t_1 ?_
    obtain ⟨br,ba,b⟩:=p_1 b
    refine qJ H I Za ld R R o_2 ty5 R (by decide) (λ_=>Kj.2 ⟨R,R⟩) ba λbb w a I H=>Zc H R λa H=>Zj ?_
    obtain rfl:=o_1 b
    refine Zm ?_
    have I:=M.fst (l:=[_,_,_,_,_,_,_,_,_]) I.pl2.pl10.pl10.pl10.pl10.pl10.pl10.pl10
    exact ⟨ap,bb,H.s,I⟩
   intro av b
   refine Zb (Zn H R R R λa H=>Zc H R λa H=>Ze ?_)
   refine c_if H R b ?_ ?_
   ·intro aw b
    refine t_1 (Zd H R λa H=>ZL (xs:=[.const (vI 200),.const (vI 201)]) (l:=([200,201] : List Int)) (vs:=[vI 200,vI 201]) H I Za ld R R p_5 ty2 R (by decide) R ?_); intro bc w a I H
    have I:=M.tailP (m:=[_,_]) I.pl1
    obtain ⟨bd,be,b⟩:=p_1 b
    refine Zp H R jz (VQ _ _ _ _ O X f h (aj.1.1,aj.1.2) ([200,201] : List Int) bc I bd be) ?_
    rintro v w a ⟨rfl,I⟩ H
    have I:=M.tailU (m:=[_,_]) I
    simp only [List.cons_append,List.nil_append] at I
    obtain ⟨bs,bg,b⟩:=p_1 b
    refine qJ H I Za ld R R o_2 ty5 R (by decide) (λ_=>Kj.2 ⟨R,R⟩) bg λbh w a I H=>Zc H R λa H=>Zj ?_
    obtain rfl:=o_1 b
    refine Zm ?_
    have I:=M.fst (l:=[_,_,_,_,_,_,_,_,_]) I.pl4.pl1.pl11.pl11.pl11.pl11.pl11.pl11.pl11
    exact ⟨bh,ao,H.s,I⟩
   intro aw b
   refine u_2 ?_
   obtain rfl:=o_1 b
   refine Zm ?_
   have I:=M.fst (l:=[_,_,_,_,_,_,_,_,_]) I.pl2.pl2.pl9.pl9.pl9.pl9.pl9.pl9.pl9
   exact ⟨ap,ao,H.s,I⟩
  rintro a w ⟨aa,ab,H,I⟩
  refine YA ?_
  obtain rfl:=o_1 au
  refine Zm ?_
  exact ⟨aa,ab,H.s,I⟩
 rintro a w ⟨U,W,H,I⟩
 obtain ⟨C,ax,ay⟩:=p_1 aq
 refine ZJ (λa w=>∃ u85 u87 u89 ac ad : Value,Env 54 a [(2,ptr L 0),(3,ac),(4,ad),(5,ptr N 0)] ∧ M (Old G) G w [raw N (enc C.2.2.2.2.2.1),raw L (cat [[u85],[vI C.2.1],[u87],[u89],enc C.2.2.2.2.1]),osl NoB (C.1 : List V16) u85,osl NoB (C.2.2.1 : List GRecord) u87,osl NoB (C.2.2.2.1 : List GEvent) u89,osl NoB (C.2.2.2.2.2.2.1 : List UInt8) ac,osl NoB (C.2.2.2.2.2.2.2 : List UInt8) ad]) ?_ ?_
 ·have I:=I.pl6
  refine Yl (its:=[raw A (enc x.1),raw y (cV d e n i.2),osl NoB (i.2.Keys : List V16) d,osl NoB (i.2.Records : List GRecord) e,osl NoB (i.2.Events : List GEvent) n,raw N xp,osl NoB (Z.1 : List UInt8) U,osl NoB (Z.2 : List UInt8) W]) (mk:=([mkT 4 (raw L xi) (raw L (cV d e n i.2))] : Mk)) [50,51,52,53,58,3,4] Yt R R (by decide) R H (λu=>M.qT (M.q0 I.drew u)) (qsP (v:=(vcV d e n i.2)) ?_ (q_m (λ_=>R) (q_m (λ_=>R) (qsP (λz=>Zx z.E Za ld R ZE R (z.M.ra0) (u_1 _) (kr0 R)) (qsM (pr:=λv=>True) ?_ (qsP (λz=>T9 z.E Za ld R (kr0 R)) (qsP (λz=>T9 z.E Za ld R (kr0 R)) qs0))))))) ?_
  ·intro a w af D z
   have H:=z.E
   have hD : D 0 = false:=z.F
   have I:=z.M.togA (pre:=[_,_,_,_,_,_,_,_]) (WH (j:=4) (k:=0) z.c R R R hD)
   exact Zq H R ZF R I.ra1 cq λa H=>⟨o_5 _ _,_,R,H⟩
  ·intro a w af D z
   have H:=z.E
   have hD : D 4 = false:=z.F
   have I:=(z.M.togA (pre:=[_,_,_,_,_,_,_,_]) hD).pl8
   exact Zk (seg:=cV d e n i.2) (cs':=cV d e n i.2) H I Za R R R ZF cq (q_1 cq cq) (ZC (cc1 (t_2 (I.sl3)) (cc1 (s_1 (i.2.Next : Int)) (cc1 (t_2 (I.sl4)) (cc1 (t_2 (I.sl5)) (cc1 (s_1 _) cc0)))))) (q_2 cq cq) λw a I H=>⟨undef,_,R,Env.dummy H (by decide),M.qTog (mk1:=[]) (mk2:=[]) I R,trivial⟩
  intro a w af D H I hG az
  have d4:=az 4 (by decide)
  have I:=(I.togB (pre:=[_,_,_,_,_,_,_,_]) d4).pl5
  refine Zk (seg:=enc x.1) (cs':=enc x.1) H I Za R R R ZE (u_1 _) (zle flq) (s_1 _) (Zh flq) λw a I H=>Zj ?_
  obtain rfl:=o_1 ax
  refine Zm ?_
  have I:=M.fst (l:=[_,_,_,_,_,_,_]) I.pl6.pl7.pl7.pl7.pl7.pl8.pl6
  exact ⟨d,e,n,W,U,H.s,I⟩
 rintro a w ⟨u85,u87,u89,ac,ad,H,I⟩
 obtain rfl:=o_1 ay
 have a0 : Yb prog _ _ (.cell 2 79) _:=ZG H R ZF R I.ra1 cq R
 have a1 : Yb prog _ _ (.cell 5 53) _:=ZG H R ZE R I.ra0 (u_1 _) R
 have I:=M.fst (l:=[_,_,_,_,_]) I.pl6.pl6.pl6.pl6.pl6
 exact p_3 (k_ret4 H R a0 (ZD H R) (ZD H R) a1 ⟨_,R,u85,u87,u89,ac,ad,R,I.outF (ZK (ZK (ZK (ZK (ZK Yo))))),I.kept⟩)
def Z6 (b : (List V16)) : Option (Int) :=
 some (b.length : Int)
theorem YD (d : World) (e : xv) (b : Value) (c : Ro d e [b]) (r : Int) (J : Z6 e = some r) :
  Calls prog 135 [b].toArray d (Rt d (vI r)):=by
 refine ce func135 ?_
 intro a H
 have I:=M.start d
 unfold Z6 at J
 refine Zb (Zc H R λa H=>Ze (Zb (Zd H R λa H=>YE H R s_3 (I.rd c) λa H=>Zc H R λa H=>Ze ?_)))
 obtain rfl:=o_1 J
 exact p_3 (kr1 H R R I.kept)
def X2 (b : Int) (c : Int) (d : Int) : Option (Bool) :=
 (if decide (c ≤ b) then (some (decide (b ≤ d))) else (some false) : Option (Bool)).bind λe=>some e
theorem X3 (d : World) (e : Int) (f : Int) (i : Int) (r : Bool) (J : X2 e f i = some r) :
  Calls prog 108 [vI e,vI f,vI i].toArray d (Rt d (vT r)):=by
 refine ce func108 ?_
 intro a H
 have I:=M.start d
 unfold X2 at J
 refine Zb (Zc H R λa H=>Ze ?_)
 obtain ⟨j,c,h⟩:=p_1 J
 refine ZJ (λa w=>Env 15 a [(6,vT j)] ∧ M (Old d) d w []) ?_ ?_
 ·refine t_1 (Zd H R λa H=>Zd H R λa H=>Zn H R R R λa H=>Zd H R ?_); intro a H
  refine Ys (decide (f ≤ e)) (λb=>?_) (λb=>?_)
  ·have c:=Zt c b
   refine Zo H (Zi H R (lkb R b)) (by decide) R λa H=>Zo H (Zi H R (lkb R b)) (by decide) R λa H=>Z8 H (Zi H R (lkb R b)) (by decide) R R R λa H=>ZU H (lkb R b) R λa H=>Zc H R λa H=>Zj ?_
   obtain rfl:=o_1 c
   refine Zm ?_
   exact ⟨H.s,I⟩
  have c:=Zs c b
  refine k_s H b R R R λa H=>k_s H b R R R λa H=>k_s H b R R R λa H=>Ye H (lkb R b) R λa H=>Zc H R λa H=>Zj ?_
  obtain rfl:=o_1 c
  refine Zm ?_
  exact ⟨H.s,I⟩
 rintro a w ⟨H,I⟩
 obtain rfl:=o_1 h
 exact p_3 (kr1 H R R I.kept)
def Xn (e : (List GEvent)) (f : GEvent → Option (Bool)) (b : Int) : Option (Fl Int (Fl Unit Int)) :=
 if decide (b < (e.length : Int)) then ((idx e b).bind λc=>((f c)).bind λd=>if d then (some (Fl.ex (Fl.ex b))) else (some (Fl.nx (wr (b + 1))))) else (some (Fl.ex (Fl.nx ())))
def Y0 (b : (List GEvent)) (c : GEvent → Option (Bool)) : Option (Int) :=
 (ZQ (Xn b c) 0).bind λd=>d.el (λe=>some (-1)) (λr=>some r)
theorem TR (e : World) (o : xu) (d : Value) (c : Ro e o [d]) (z : GEvent → Option (Bool)) (m : Nat) (q1 : List Value) (i : Callable prog m) (q : ∀ (n : World),Kept (Old e) e n → ∀ (A : GEvent) (zr : Bool),z A = some zr → Calls prog m ([Value.agg (enc A).toArray] ++ q1).toArray n (λen E=>∃ v,en = .returned v ∧ (v = (vT zr) ∧ Kept (Old n) n E))) (r : Int) (J : Y0 o z = some r) :
  Calls prog 248 [d,Value.func (.func m) #[] q1.toArray].toArray e (Rt e (vI r)):=by
 refine ce func248 ?_
 intro a H
 have I:=M.start e
 unfold Y0 at J
 refine Zb (Zc H R λa H=>Ze (s_2 (Zb (Zd H R λa H=>YE H R p_4 (I.rd c) λa H=>Zd H R λa H=>Ze ?_))))
 obtain ⟨F,t,f⟩:=p_1 J
 refine Z7 (λa w=>∃ B : Unit,F = Fl.nx B ∧ Env 19 a [] ∧ M (Old e) e w []) ?_ ?_
 ·refine p_2 ?_
  refine ZR (λ(C : Int) a w=>Env 19 a [(0,d),(1,Value.func (.func m) #[] q1.toArray),(7,vI (o.length : Int)),(8,vI C)] ∧ M (Old e) e w []) t ⟨H.s,I⟩ ?_
  rintro C a w ⟨H,I⟩ G b j
  unfold Xn at b
  refine Zb (Zn H R R R λa H=>Ze (s_2 ?_))
  refine c_if H R b ?_ ?_
  ·intro u b
   refine u_2 (Zz (s_2 (p_2 (Zb (Zd H R λa H=>Zc H R λa H=>Ze (Zb (Zd H R λa H=>Zd H R λa H=>Zd H R ?_))))))); intro a H
   obtain ⟨k,h,b⟩:=bix b
   refine YG H R R p_4 Wc (I.rd c) h.1 λa H=>Zq H R Wc R (Xe (I.rd c) h.2) cq ?_; intro a H
   obtain ⟨x,y,b⟩:=p_1 b
   refine Zbh (vs:=[Value.agg (enc k).toArray]) H Za ld R R i (q _ I.kept k x y) ?_
   rintro v w a ⟨rfl,hK⟩ H
   have I:=I.keep hK
   refine Ze ?_
   refine c_if H R b ?_ ?_
   ·intro l b
    refine Zb (Zd H R λa H=>Zc H R λa H=>Ze ?_)
    obtain rfl:=j _ (ois b)
    obtain rfl:=o_1 f
    exact p_3 (Xl (ZI (ZI (Xl (ZI (ZI (kr1 H R R I.kept)))))))
   intro l b
   refine u_2 (YA (Zz (t_1 (Zn H R R R λa H=>Zd H R λa H=>Zj (Zm ?_)))))
   exact ⟨_,ois b,H.s,I⟩
  intro u b
  refine o_4 (Zu (Zu (YQ ?_)))
  obtain rfl:=j _ (ois b)
  refine Zm ?_
  exact ⟨(),R,H.sub trivial,I⟩
 rintro a w ⟨B,ht,H,I⟩
 subst ht
 have f:=Kv f
 refine Zz (Zb (Zc H R λa H=>Ze ?_))
 obtain rfl:=o_1 f
 exact p_3 (kr1 H R R I.kept)
def Yv (b : (List GEvent)) (c : GEvent → Option (Bool)) : Option (Bool) :=
 (Y0 b c).bind λd=>some (decide (d ≥ 0))
theorem Te (d : World) (i : xu) (b : Value) (c : Ro d i [b]) (j : GEvent → Option (Bool)) (h : Nat) (q1 : List Value) (f : Callable prog h) (k : ∀ (e : World),Kept (Old d) d e → ∀ (m : GEvent) (zr : Bool),j m = some zr → Calls prog h ([Value.agg (enc m).toArray] ++ q1).toArray e (λen n=>∃ v,en = .returned v ∧ (v = (vT zr) ∧ Kept (Old e) e n))) (r : Bool) (J : Yv i j = some r) :
  Calls prog 157 [b,Value.func (.func h) #[] q1.toArray].toArray d (Rt d (vT r)):=by
 refine ce func157 ?_
 intro a H
 have I:=M.start d
 unfold Yv at J
 refine Zb (Zc H R λa H=>Ze (Zb (Zd H R λa H=>Zd H R ?_))); intro a H
 obtain ⟨o,q,J⟩:=p_1 J
 refine c_k H I R (cbm func248) (TR _ i b (I.rdo c) j h q1 f (λe l=>k e (I.kept.trans l)) o q) ?_; intro w a I H
 refine Zn H R R R λa H=>Zc H R λa H=>Ze ?_
 obtain rfl:=o_1 J
 exact p_3 (kr1 H R R I.kept)
def QX (b : Int) : Option (Bool) :=
 (X2 b 0 1000000).bind λc=>some c
theorem yp (b : World) (c : Int) (r : Bool) (J : QX c = some r) :
  Calls prog 249 [vI c].toArray b (Rt b (vT r)):=by
 refine ce func249 ?_
 intro a H
 have I:=M.start b
 unfold QX at J
 refine Zb (Zc H R λa H=>Ze (Zb (Zd H R ?_))); intro a H
 obtain ⟨d,e,J⟩:=p_1 J
 refine c_k H I R BI (X3 _ c 0 1000000 d e) ?_; intro w a I H
 refine Zc H R λa H=>Ze ?_
 obtain rfl:=o_1 J
 exact p_3 (kr1 H R R I.kept)
def Qc (b : GEvent) : Option (Bool) :=
 ((X2 b.Kind 1 4).bind λc=>if c then ((QX b.Number).bind λd=>some d) else (some false) : Option (Bool)).bind λe=>some e
theorem jS (e : World) (d : GEvent) (r : Bool) (J : Qc d = some r) :
  Calls prog 159 [Value.agg (enc d).toArray].toArray e (Rt e (vT r)):=by
 refine ce func159 ?_
 intro a H
 have I:=M.start e
 unfold Qc at J
 refine Zb (Z2 (cs:=cat [[vI d.Kind],[vI d.Number],enc d.Tag]) H I Za ld R R λn w a I H=>Zc H R λa H=>Ze ?_)
 obtain ⟨j,c,f⟩:=p_1 J
 refine ZJ (λa w=>Env 11 a [(2,vT j)] ∧ M (Old e) e w []) ?_ ?_
 ·refine t_1 (Zl H R (Hp) λa H=>ZB (v:=(vI d.Kind)) H R ty2 R (at_0 I.ra0) ?_); intro a H
  obtain ⟨i,k,c⟩:=p_1 c
  refine c_k H I R BI (X3 _ d.Kind 1 4 i k) ?_; intro w a I H
  refine Zd H R ?_; intro a H
  refine Ys i (λb=>?_) (λb=>?_)
  ·have c:=Zt c b
   refine Zg H (Zi H R (lkb R b)) (by decide) R (Hk) λa H=>Zy (v:=(vI d.Number)) H (Zi H R (lkb R b)) (by decide) R ty2 R (at_1 I.ra0) ?_; intro a H
   obtain ⟨m,h,c⟩:=p_1 c
   refine Yd H (Zi H R (lkb R b)) (by decide) R (cbm func249) (yp _ d.Number m h) ?_
   rintro v w a ⟨rfl,hK⟩ H
   have I:=I.keep hK
   refine ZU H (lkb R b) R λa H=>Zc H R λa H=>Zj ?_
   obtain rfl:=o_1 c
   refine Zm ?_
   have I:=M.fst (l:=[]) I
   exact ⟨H.s,I⟩
  have c:=Zs c b
  refine k_s H b R R R λa H=>k_s H b R R R λa H=>k_s H b R R R λa H=>Ye H (lkb R b) R λa H=>Zc H R λa H=>Zj ?_
  obtain rfl:=o_1 c
  refine Zm ?_
  have I:=M.fst (l:=[]) I
  exact ⟨H.s,I⟩
 rintro a w ⟨H,I⟩
 obtain rfl:=o_1 f
 exact p_3 (kr1 H R R I.kept)
def UU (b : GEvent) : Option (Bool) :=
 (Qc b).bind λc=>some (!c)
theorem zE (c : World) (b : GEvent) (r : Bool) (J : UU b = some r) :
  Calls prog 158 [Value.agg (enc b).toArray].toArray c (Rt c (vT r)):=by
 refine ce func158 ?_
 intro a H
 have I:=M.start c
 unfold UU at J
 refine Zb (Z2 (cs:=cat [[vI b.Kind],[vI b.Number],enc b.Tag]) H I Za ld R R λf w a I H=>Zc H R λa H=>Ze (Zb (Zq H R Wc R I.ra0 cq ?_))); intro a H
 obtain ⟨d,e,J⟩:=p_1 J
 refine c_k H I R (cbm func159) (jS _ b d e) ?_; intro w a I H
 refine JD H R λa H=>Zc H R λa H=>Ze ?_
 obtain rfl:=o_1 J
 exact p_3 (kr1 H R R I.kept)
def Ua (d : GVault) (b : Int) : Option (Fl Int (Fl Unit Bool)) :=
 if decide (b < (d.Records.length : Int)) then ((idx d.Records b).bind λc=>((X2 c.Number 1 (wr (d.Next - 1))).bind λe=>if !e then (some true) else (if decide (b > 0) then ((idx d.Records (wr (b - 1))).bind λf=>some (decide (f.Number ≥ c.Number))) else (some false)) : Option (Bool)).bind λh=>if h then (some (Fl.ex (Fl.ex false))) else (((Z6 d.Keys).bind λi=>(X2 c.Version 0 (wr (i - 1))).bind λj=>if !j then (some true) else (if decide ((c.Label.length : Int) > 32) then (some true) else (some (decide ((c.Body.length : Int) > 200)))) : Option (Bool)).bind λk=>if k then (some (Fl.ex (Fl.ex false))) else (some (Fl.nx (wr (b + 1)))))) else (some (Fl.ex (Fl.nx ())))
def X1 (b : GVault) : Option (Bool) :=
 ((Z6 b.Keys).bind λf=>(X2 f 1 8).bind λh=>if !h then (some true) else ((X2 b.Next 1 1000000).bind λc=>if !c then (some true) else (if decide ((b.Records.length : Int) > 12) then (some true) else (some (decide ((b.Events.length : Int) > 60))))) : Option (Bool)).bind λi=>if i then (some false) else ((ZQ (Ua b) 0).bind λd=>d.el (λj=>(Yv b.Events (λk=>UU k)).bind λe=>some (!e)) (λr=>some r))
theorem UX (L : World) (t : GVault) (b : Value) (C : Ro L t.Keys [b]) (h : Value) (x : Ro L t.Records [h]) (y : Value) (T : Ro L t.Events [y]) (r : Bool) (J : X1 t = some r) :
  Calls prog 48 [vcV b h y t].toArray L (Rt L (vT r)):=by
 refine ce func48 ?_
 intro a H
 have I:=M.start L
 unfold X1 at J
 refine Zb (Z2 (cs:=cV b h y t) H I Za ld R R λZ w a I H=>Zc H R λa H=>Ze (s_2 ?_))
 obtain ⟨j3,k,U⟩:=p_1 J
 refine ZJ (λa w=>Env 84 a [(1,ptr Z 0),(27,vT j3)] ∧ M (Old L) L w [raw Z (cV b h y t)]) ?_ ?_
 ·refine t_1 (Zl H R (XA) λa H=>ZB (v:=b) H R T0 R (at_0 I.ra0) ?_); intro a H
  obtain ⟨r6,e7,k⟩:=p_1 k
  refine c_k H I R AE (YD _ t.Keys b (I.rdo C) r6 e7) ?_; intro w a I H
  obtain ⟨r8,e9,k⟩:=p_1 k
  refine c_k H I R BI (X3 _ r6 1 8 r8 e9) ?_; intro w a I H
  refine JD H R λa H=>Zd H R ?_; intro a H
  refine Ys (!r8) (λm=>?_) (λm=>?_)
  ·have k:=Zt k m
   refine k_s H m R R R λa H=>k_s H m R R R λa H=>k_s H m R R R λa H=>k_s H m R R R λa H=>ZU H (lkb R m) R λa H=>Zd H R λa H=>Zf H R R R (by decide) λa H=>Zf H R R R (by decide) λa H=>Zf H R R R (by decide) λa H=>Zf H R R R (by decide) λa H=>ZU H R R λa H=>Zd H R ?_; intro a H
   refine Zf H R R R (by decide) λa H=>Zf H R R R (by decide) λa H=>Zf H R R R (by decide) λa H=>Zf H R R R (by decide) λa H=>ZU H R R λa H=>Zj ?_
   obtain rfl:=o_1 k
   refine Zm ?_
   exact ⟨H.s,I⟩
  have k:=Zs k m
  refine Zg H (Zi H R (lkb R m)) (by decide) R (UA) λa H=>Zy (v:=(vI t.Next)) H (Zi H R (lkb R m)) (by decide) R ty2 R (at_1 I.ra0) ?_; intro a H
  obtain ⟨ah,aw,k⟩:=p_1 k
  refine Yd H (Zi H R (lkb R m)) (by decide) R BI (X3 _ t.Next 1 1000000 ah aw) ?_
  rintro v w a ⟨rfl,hK⟩ H
  have I:=I.keep hK
  refine KW H (Zi H R (lkb R m)) (by decide) R λa H=>Ye H (lkb R m) R λa H=>Zd H R ?_; intro a H
  refine Ys (!ah) (λn=>?_) (λn=>?_)
  ·have k:=Zt k n
   refine k_s H n R R R λa H=>k_s H n R R R λa H=>k_s H n R R R λa H=>k_s H n R R R λa H=>ZU H (lkb R n) R λa H=>Zd H R λa H=>Zf H R R R (by decide) λa H=>Zf H R R R (by decide) λa H=>Zf H R R R (by decide) λa H=>Zf H R R R (by decide) λa H=>ZU H R R λa H=>Zj ?_
   obtain rfl:=o_1 k
   refine Zm ?_
   exact ⟨H.s,I⟩
  have k:=Zs k n
  refine Zg H (Zi H R (lkb R n)) (by decide) R (Yn) λa H=>Zy (v:=h) H (Zi H R (lkb R n)) (by decide) R XO R (at_2 I.ra0) λa H=>WE H (Zi H R (lkb R n)) (by decide) R o_3 (I.rd x) λa H=>Z8 H (Zi H R (lkb R n)) (by decide) R R R λa H=>Ye H (lkb R n) R λa H=>Zd H R ?_; intro a H
  refine Ys (decide ((t.Records.length : Int) > 12)) (λo=>?_) (λo=>?_)
  ·have k:=Zt k o
   refine k_s H o R R R λa H=>k_s H o R R R λa H=>k_s H o R R R λa H=>k_s H o R R R λa H=>ZU H (lkb R o) R λa H=>Zj ?_
   obtain rfl:=o_1 k
   refine Zm ?_
   exact ⟨H.s,I⟩
  have k:=Zs k o
  refine Zg H (Zi H R (lkb R o)) (by decide) R (XU) λa H=>Zy (v:=y) H (Zi H R (lkb R o)) (by decide) R Qy R (at_3 I.ra0) λa H=>WE H (Zi H R (lkb R o)) (by decide) R p_4 (I.rd T) λa H=>Z8 H (Zi H R (lkb R o)) (by decide) R R R λa H=>Ye H (lkb R o) R λa H=>Zj ?_
  obtain rfl:=o_1 k
  refine Zm ?_
  exact ⟨H.s,I⟩
 rintro a w ⟨H,I⟩
 refine c_if H R U ?_ ?_
 ·intro ai U
  refine Zb (Zc H R λa H=>Ze ?_)
  obtain rfl:=o_1 U
  exact p_3 (ZI (kr1 H R R I.kept))
 intro ai U
 refine u_2 (Zz (s_2 (Zb (Zl H R (Yn) λa H=>ZB (v:=h) H R XO R (at_2 I.ra0) λa H=>YE H R o_3 (I.rd x) λa H=>Zd H R λa H=>Ze ?_))))
 obtain ⟨ax,aj,B⟩:=p_1 U
 refine Z7 (λa w=>∃ ak : Unit,ax = Fl.nx ak ∧ Env 84 a [(1,ptr Z 0)] ∧ M (Old L) L w [raw Z (cV b h y t)]) ?_ ?_
 ·refine p_2 ?_
  refine ZR (λ(N : Int) a w=>Env 84 a [(1,ptr Z 0),(29,h),(30,vI (t.Records.length : Int)),(31,vI N)] ∧ M (Old L) L w [raw Z (cV b h y t)]) aj ⟨H.s,I⟩ ?_
  rintro N a w ⟨H,I⟩ bb A W
  unfold Ua at A
  refine Zb (Zn H R R R λa H=>Ze (s_2 ?_))
  refine c_if H R A ?_ ?_
  ·intro al A
   refine u_2 (Zz (s_2 (p_2 (Zb (Zd H R ?_))))); intro a H
   obtain ⟨d,X,A⟩:=bix A
   refine YG H R R o_3 Yf (I.rd x) X.1 ?_; intro a H
   obtain ⟨a6,am,an⟩:=Wj x X.2 -- ^
   obtain ⟨O,aa,rfl,ad,ao⟩:=YV am -- ^
   refine Zq H R Yf R (I.atk an (VZ x X.2)) cq λa H=>Zw H I Yf λap w a I H=>Zc H R λa H=>Zk (seg:=cR O aa d) (cs':=cR O aa d) H I Za R R R Yf cq (q_1 cq cq) (ZC (cc1 (s_1 (d.Number : Int)) (cc1 (s_1 (d.Version : Int)) (cc1 (s_1 _) (cc1 (t_2 (I.rd ad)) (cc1 (t_2 (I.rd ao)) (cc1 (s_1 _) cc0))))))) (q_2 cq cq) λw a I H=>Ze (s_2 ?_)
   obtain ⟨ay,i,G⟩:=p_1 A
   refine ZJ (λa w=>Env 84 a [(1,ptr Z 0),(4,ptr ap 0),(29,h),(30,vI (t.Records.length : Int)),(31,vI N),(58,vT ay)] ∧ M (Old L) L w [raw ap (cR O aa d),raw Z (cV b h y t)]) ?_ ?_
   ·obtain ⟨ab,ae,i⟩:=p_1 i
    refine Ys (!ab) (λe=>?_) (λe=>?_)
    ·have i:=Zt i e
     refine Z9 [36,37,38,39,40,41,42,43,44,45,46,47,48,49,50,51,52,53,54,55,56,57,58] Yt R R (by decide) R H I (qsP (λz=>Zg z.E Za ld R (VS) (kr0 R)) (qsP (λz=>Zy (v:=(vI d.Number)) z.E Za ld R ty2 R (at_0 (z.M.ra0)) (kr0 R)) (qsP (λz=>Zg z.E Za ld R (UA) (kr0 R)) (qsP (λz=>Zy (v:=(vI t.Next)) z.E Za ld R ty2 R (at_1 (z.M.ra1)) (kr0 R)) (qsP (v:=(vI (wr (t.Next - 1)))) (λz=>Z8 z.E Za ld R R R (kr0 R)) (qsP (λz=>Yd z.E Za ld R BI (X3 _ d.Number 1 (wr (t.Next - 1)) ab ae) (kc R)) (qsP (λz=>KW z.E Za ld R (kr0 R)) (q_m (λ_=>R) (qsP (λz=>Zf z.E R (lkb R e) R (by decide) (kr0 R)) (qsP (λz=>Zf z.E R (lkb R e) R (by decide) (kr0 R)) (qsP (λz=>Zf z.E R (lkb R e) R (by decide) (kr0 R)) (qsP (λz=>Ki z.E R R (by decide) (kr0 R)) (qsP (λz=>Ki z.E R R (by decide) (kr0 R)) (qsP (λz=>Ki z.E R R (by decide) (kr0 R)) (qsP (λz=>Ki z.E R R (by decide) (kr0 R)) (qsP (λz=>Ki z.E R R (by decide) (kr0 R)) (qsP (λz=>Ki z.E R R (by decide) (kr0 R)) (qsP (λz=>Ki z.E R R (by decide) (kr0 R)) (qsP (λz=>Ki z.E R R (by decide) (kr0 R)) (qsP (λz=>Ki z.E R R (by decide) (kr0 R)) (qsP (λz=>Ki z.E R R (by decide) (kr0 R)) (qsP (λz=>Zf z.E R (lkb R e) R (by decide) (kr0 R)) (qsP (λz=>UM z.E Za ld (lkb R e) R (kr0 R)) qs0))))))))))))))))))))))) ?_
     ·intro a w u H I
      refine Zj ?_
      obtain rfl:=o_1 i
      refine Zm ?_
      exact ⟨H.s,I⟩
    have i:=Zs i e
    refine Ys (decide (N > 0)) (λc=>?_) (λc=>?_)
    ·have i:=Zt i c
     obtain ⟨az,Y,i⟩:=bix i
     obtain ⟨a7,aq,ar⟩:=Wj x Y.2 -- ^
     obtain ⟨bc,bd,rfl,be,bg⟩:=YV aq -- ^
     refine Z9 [36,37,38,39,40,41,42,43,44,45,46,47,48,49,50,51,52,53,54,55,56,57,58] Yt R R (by decide) R H I (qsP (λz=>Zg z.E Za ld R (VS) (kr0 R)) (qsP (λz=>Zy (v:=(vI d.Number)) z.E Za ld R ty2 R (at_0 (z.M.ra0)) (kr0 R)) (qsP (λz=>Zg z.E Za ld R (UA) (kr0 R)) (qsP (λz=>Zy (v:=(vI t.Next)) z.E Za ld R ty2 R (at_1 (z.M.ra1)) (kr0 R)) (qsP (v:=(vI (wr (t.Next - 1)))) (λz=>Z8 z.E Za ld R R R (kr0 R)) (qsP (λz=>Yd z.E Za ld R BI (X3 _ d.Number 1 (wr (t.Next - 1)) ab ae) (kc R)) (qsP (λz=>KW z.E Za ld R (kr0 R)) (q_m (λ_=>R) (qsP (λz=>Zo z.E (Zi z.E R (lkb R e)) (by decide) R (kr0 R)) (qsP (λz=>Z8 z.E (Zi z.E R (lkb R e)) (by decide) R R R (kr0 R)) (qsP (λz=>Zo z.E (Zi z.E R (lkb R e)) (by decide) R (kr0 R)) (qsP (λz=>Zg z.E (Zi z.E R (lkb R c)) (by decide) R (Yn) (kr0 R)) (qsP (λz=>Zy (v:=h) z.E (Zi z.E R (lkb R c)) (by decide) R XO R (at_2 (z.M.ra1)) (kr0 R)) (qsP (λz=>Zo z.E (Zi z.E R (lkb R c)) (by decide) R (kr0 R)) (qsP (v:=(vI (wr (N - 1)))) (λz=>Z8 z.E (Zi z.E R (lkb R c)) (by decide) R R R (kr0 R)) (qsP (λz=>Yu z.E (Zi z.E R (lkb R c)) (by decide) R R o_3 Yf (z.M.rd x) Y.1 (kr0 R)) (qsP (λz=>Zg z.E (Zi z.E R (lkb R c)) (by decide) R (VS) (kr0 R)) (qsP (λz=>Zy (v:=(vI az.Number)) z.E (Zi z.E R (lkb R c)) (by decide) R ty2 R (at_0 (z.M.atk ar (VZ x Y.2))) (kr0 R)) (qsP (λz=>Zg z.E (Zi z.E R (lkb R c)) (by decide) R (VS) (kr0 R)) (qsP (λz=>Zy (v:=(vI d.Number)) z.E (Zi z.E R (lkb R c)) (by decide) R ty2 R (at_0 (z.M.ra0)) (kr0 R)) (qsP (λz=>Z8 z.E (Zi z.E R (lkb R c)) (by decide) R R R (kr0 R)) (qsP (λz=>UM z.E (Zi z.E R (lkb R e)) (by decide) (lkb R c) R (kr0 R)) (qsP (λz=>Um z.E Za ld (lkb R e) R (kr0 R)) qs0))))))))))))))))))))))) ?_
     ·intro a w u H I
      refine Zj ?_
      obtain rfl:=o_1 i
      refine Zm ?_
      exact ⟨H.s,I⟩
    have i:=Zs i c
    refine Z9 [36,37,38,39,40,41,42,43,44,45,46,47,48,49,50,51,52,53,54,55,56,57,58] Yt R R (by decide) R H I (qsP (λz=>Zg z.E Za ld R (VS) (kr0 R)) (qsP (λz=>Zy (v:=(vI d.Number)) z.E Za ld R ty2 R (at_0 (z.M.ra0)) (kr0 R)) (qsP (λz=>Zg z.E Za ld R (UA) (kr0 R)) (qsP (λz=>Zy (v:=(vI t.Next)) z.E Za ld R ty2 R (at_1 (z.M.ra1)) (kr0 R)) (qsP (v:=(vI (wr (t.Next - 1)))) (λz=>Z8 z.E Za ld R R R (kr0 R)) (qsP (λz=>Yd z.E Za ld R BI (X3 _ d.Number 1 (wr (t.Next - 1)) ab ae) (kc R)) (qsP (λz=>KW z.E Za ld R (kr0 R)) (q_m (λ_=>R) (qsP (λz=>Zo z.E (Zi z.E R (lkb R e)) (by decide) R (kr0 R)) (qsP (λz=>Z8 z.E (Zi z.E R (lkb R e)) (by decide) R R R (kr0 R)) (qsP (λz=>Zo z.E (Zi z.E R (lkb R e)) (by decide) R (kr0 R)) (qsP (λz=>Zf z.E R (lkb R c) R (by decide) (kr0 R)) (qsP (λz=>Zf z.E R (lkb R c) R (by decide) (kr0 R)) (qsP (λz=>Zf z.E R (lkb R c) R (by decide) (kr0 R)) (qsP (λz=>Zf z.E R (lkb R c) R (by decide) (kr0 R)) (qsP (λz=>Zf z.E R (lkb R c) R (by decide) (kr0 R)) (qsP (λz=>Zf z.E R (lkb R c) R (by decide) (kr0 R)) (qsP (λz=>Zf z.E R (lkb R c) R (by decide) (kr0 R)) (qsP (λz=>Zf z.E R (lkb R c) R (by decide) (kr0 R)) (qsP (λz=>Zf z.E R (lkb R c) R (by decide) (kr0 R)) (qsP (λz=>Zf z.E R (lkb R c) R (by decide) (kr0 R)) (qsP (λz=>Um z.E (Zi z.E R (lkb R e)) (by decide) (lkb R c) R (kr0 R)) (qsP (λz=>Um z.E Za ld (lkb R e) R (kr0 R)) qs0))))))))))))))))))))))) ?_
    ·intro a w u H I
     refine Zj ?_
     obtain rfl:=o_1 i
     refine Zm ?_
     exact ⟨H.s,I⟩
   rintro a w ⟨H,I⟩
   refine c_if H R G ?_ ?_
   ·intro au G
    refine Zb (Zc H R λa H=>Ze ?_)
    obtain rfl:=W _ (ois G)
    obtain rfl:=o_1 B
    exact p_3 (ZI (Xl (ZI (ZI (Xl (ZI (ZI (kr1 H R R I.kept))))))))
   intro au G
   refine u_2 (Zz ?_)
   obtain ⟨a0,j,K⟩:=p_1 G
   refine ZJ (λa w=>Env 84 a [(1,ptr Z 0),(29,h),(30,vI (t.Records.length : Int)),(31,vI N),(78,vT a0)] ∧ M (Old L) L w [raw Z (cV b h y t)]) ?_ ?_
   ·obtain ⟨F,af,j⟩:=p_1 j
    obtain ⟨ac,ag,j⟩:=p_1 j
    refine Ys (!ac) (λf=>?_) (λf=>?_)
    ·have j:=Zt j f
     refine Z9 [59,60,61,62,63,64,65,66,67,68,69,70,71,72,73,74,75,76,77,78] Yt R R (by decide) R H I (qsP (λz=>Zg z.E Za ld R (Qe) (kr0 R)) (qsP (λz=>Zy (v:=(vI d.Version)) z.E Za ld R ty2 R (at_1 (z.M.ra0)) (kr0 R)) (qsP (λz=>Zg z.E Za ld R (XA) (kr0 R)) (qsP (λz=>Zy (v:=b) z.E Za ld R T0 R (at_0 (z.M.ra1)) (kr0 R)) (qsP (λz=>Yd z.E Za ld R AE (YD _ t.Keys b (z.M.rdo C) F af) (kc R)) (qsP (v:=(vI (wr (F - 1)))) (λz=>Z8 z.E Za ld R R R (kr0 R)) (qsP (λz=>Yd z.E Za ld R BI (X3 _ d.Version 0 (wr (F - 1)) ac ag) (kc R)) (qsP (λz=>KW z.E Za ld R (kr0 R)) (q_m (λ_=>R) (qsP (λz=>Zf z.E R (lkb R f) R (by decide) (kr0 R)) (qsP (λz=>Zf z.E R (lkb R f) R (by decide) (kr0 R)) (qsP (λz=>Zf z.E R (lkb R f) R (by decide) (kr0 R)) (qsP (λz=>Zf z.E R (lkb R f) R (by decide) (kr0 R)) (qsP (λz=>UM z.E Za ld (lkb R f) R (kr0 R)) (q_m (λ_=>R) (qsP (λz=>Zf z.E R R R (by decide) (kr0 R)) (qsP (λz=>Zf z.E R R R (by decide) (kr0 R)) (qsP (λz=>Zf z.E R R R (by decide) (kr0 R)) (qsP (λz=>Zf z.E R R R (by decide) (kr0 R)) (qsP (λz=>UM z.E Za ld R R (kr0 R)) qs0)))))))))))))))))))) ?_
     ·intro a w u H I
      refine Zj ?_
      obtain rfl:=o_1 j
      refine Zm ?_
      have I:=M.fst (l:=[_]) I.pl1
      exact ⟨H.s,I⟩
    have j:=Zs j f
    refine Ys (decide ((d.Label.length : Int) > 32)) (λq=>?_) (λq=>?_)
    ·have j:=Zt j q
     refine Z9 [59,60,61,62,63,64,65,66,67,68,69,70,71,72,73,74,75,76,77,78] Yt R R (by decide) R H I (qsP (λz=>Zg z.E Za ld R (Qe) (kr0 R)) (qsP (λz=>Zy (v:=(vI d.Version)) z.E Za ld R ty2 R (at_1 (z.M.ra0)) (kr0 R)) (qsP (λz=>Zg z.E Za ld R (XA) (kr0 R)) (qsP (λz=>Zy (v:=b) z.E Za ld R T0 R (at_0 (z.M.ra1)) (kr0 R)) (qsP (λz=>Yd z.E Za ld R AE (YD _ t.Keys b (z.M.rdo C) F af) (kc R)) (qsP (v:=(vI (wr (F - 1)))) (λz=>Z8 z.E Za ld R R R (kr0 R)) (qsP (λz=>Yd z.E Za ld R BI (X3 _ d.Version 0 (wr (F - 1)) ac ag) (kc R)) (qsP (λz=>KW z.E Za ld R (kr0 R)) (q_m (λ_=>R) (qsP (λz=>Zg z.E (Zi z.E R (lkb R f)) (by decide) R (Ko) (kr0 R)) (qsP (λz=>Zy (v:=O) z.E (Zi z.E R (lkb R f)) (by decide) R X7 R (at_3 (z.M.ra0)) (kr0 R)) (qsP (λz=>WE z.E (Zi z.E R (lkb R f)) (by decide) R o_2 (z.M.rd ad) (kr0 R)) (qsP (λz=>Z8 z.E (Zi z.E R (lkb R f)) (by decide) R R R (kr0 R)) (qsP (λz=>Um z.E Za ld (lkb R f) R (kr0 R)) (q_m (λ_=>R) (qsP (λz=>Zf z.E R (lkb R q) R (by decide) (kr0 R)) (qsP (λz=>Zf z.E R (lkb R q) R (by decide) (kr0 R)) (qsP (λz=>Zf z.E R (lkb R q) R (by decide) (kr0 R)) (qsP (λz=>Zf z.E R (lkb R q) R (by decide) (kr0 R)) (qsP (λz=>UM z.E Za ld (lkb R q) R (kr0 R)) qs0)))))))))))))))))))) ?_
     ·intro a w u H I
      refine Zj ?_
      obtain rfl:=o_1 j
      refine Zm ?_
      have I:=M.fst (l:=[_]) I.pl1
      exact ⟨H.s,I⟩
    have j:=Zs j q
    refine Z9 [59,60,61,62,63,64,65,66,67,68,69,70,71,72,73,74,75,76,77,78] Yt R R (by decide) R H I (qsP (λz=>Zg z.E Za ld R (Qe) (kr0 R)) (qsP (λz=>Zy (v:=(vI d.Version)) z.E Za ld R ty2 R (at_1 (z.M.ra0)) (kr0 R)) (qsP (λz=>Zg z.E Za ld R (XA) (kr0 R)) (qsP (λz=>Zy (v:=b) z.E Za ld R T0 R (at_0 (z.M.ra1)) (kr0 R)) (qsP (λz=>Yd z.E Za ld R AE (YD _ t.Keys b (z.M.rdo C) F af) (kc R)) (qsP (v:=(vI (wr (F - 1)))) (λz=>Z8 z.E Za ld R R R (kr0 R)) (qsP (λz=>Yd z.E Za ld R BI (X3 _ d.Version 0 (wr (F - 1)) ac ag) (kc R)) (qsP (λz=>KW z.E Za ld R (kr0 R)) (q_m (λ_=>R) (qsP (λz=>Zg z.E (Zi z.E R (lkb R f)) (by decide) R (Ko) (kr0 R)) (qsP (λz=>Zy (v:=O) z.E (Zi z.E R (lkb R f)) (by decide) R X7 R (at_3 (z.M.ra0)) (kr0 R)) (qsP (λz=>WE z.E (Zi z.E R (lkb R f)) (by decide) R o_2 (z.M.rd ad) (kr0 R)) (qsP (λz=>Z8 z.E (Zi z.E R (lkb R f)) (by decide) R R R (kr0 R)) (qsP (λz=>Um z.E Za ld (lkb R f) R (kr0 R)) (q_m (λ_=>R) (qsP (λz=>Zg z.E (Zi z.E R (lkb R q)) (by decide) R (Uy) (kr0 R)) (qsP (λz=>Zy (v:=aa) z.E (Zi z.E R (lkb R q)) (by decide) R X7 R (at_4 (z.M.ra0)) (kr0 R)) (qsP (λz=>WE z.E (Zi z.E R (lkb R q)) (by decide) R o_2 (z.M.rd ao) (kr0 R)) (qsP (λz=>Z8 z.E (Zi z.E R (lkb R q)) (by decide) R R R (kr0 R)) (qsP (λz=>Um z.E Za ld (lkb R q) R (kr0 R)) qs0)))))))))))))))))))) ?_
    ·intro a w u H I
     refine Zj ?_
     obtain rfl:=o_1 j
     refine Zm ?_
     have I:=M.fst (l:=[_]) I.pl1
     exact ⟨H.s,I⟩
   rintro a w ⟨H,I⟩
   refine c_if H R K ?_ ?_
   ·intro av K
    refine Zb (Zc H R λa H=>Ze ?_)
    obtain rfl:=W _ (ois K)
    obtain rfl:=o_1 B
    exact p_3 (Xl (ZI (ZI (Xl (ZI (ZI (kr1 H R R I.kept)))))))
   intro av K
   refine u_2 (YA (Zz (t_1 (Zn H R R R λa H=>Zd H R λa H=>Zj (Zm ?_)))))
   exact ⟨_,ois K,H.s,I⟩
  intro al A
  refine o_4 (Zu (Zu (YQ ?_)))
  obtain rfl:=W _ (ois A)
  refine Zm ?_
  exact ⟨(),R,H.s,I⟩
 rintro a w ⟨ak,ht,H,I⟩
 subst ht
 have B:=Kv B
 refine Zz (Zb (Zl H R (XU) λa H=>ZB (v:=y) H R Qy R (at_3 I.ra0) ?_)); intro a H
 obtain ⟨a1,a2,B⟩:=p_1 B
 refine c_k H I R (cbm func157) (Te _ t.Events y (I.rdo T) (λz0=>UU z0) 158 [] (cbm func158) (λw2 bi z0 zr zhr=>zE w2 z0 zr zhr) a1 a2) ?_; intro w a I H
 refine JD H R λa H=>Zc H R λa H=>Ze ?_
 obtain rfl:=o_1 B
 exact p_3 (kr1 H R R I.kept)
def Yw (e : (List GRecord)) (f : GRecord → Option (Bool)) (b : Int) : Option (Fl Int (Fl Unit Int)) :=
 if decide (b < (e.length : Int)) then ((idx e b).bind λc=>((f c)).bind λd=>if d then (some (Fl.ex (Fl.ex b))) else (some (Fl.nx (wr (b + 1))))) else (some (Fl.ex (Fl.nx ())))
def Ym (b : (List GRecord)) (c : GRecord → Option (Bool)) : Option (Int) :=
 (ZQ (Yw b c) 0).bind λd=>d.el (λe=>some (-1)) (λr=>some r)
theorem Wn (f : World) (A : (List GRecord)) (d : Value) (c : Ro f A [d]) (N : GRecord → Option (Bool)) (y : Nat) (q1 : List Value) (j : Callable prog y) (B : ∀ (i : World),Kept (Old f) f i → ∀ (z : GRecord) (k : Value) (_ : Ro i z.Label [k]) (l : Value) (_ : Ro i z.Body [l]) (zr : Bool),N z = some zr → Calls prog y ([vcR k l z] ++ q1).toArray i (λen W=>∃ v,en = .returned v ∧ (v = (vT zr) ∧ Kept (Old i) i W))) (r : Int) (J : Ym A N = some r) :
  Calls prog 292 [d,Value.func (.func y) #[] q1.toArray].toArray f (Rt f (vI r)):=by
 refine ce func292 ?_
 intro a H
 have I:=M.start f
 unfold Ym at J
 refine Zb (Zc H R λa H=>Ze (s_2 (Zb (Zd H R λa H=>YE H R o_3 (I.rd c) λa H=>Zd H R λa H=>Ze ?_))))
 obtain ⟨X,C,h⟩:=p_1 J
 refine Z7 (λa w=>∃ O : Unit,X = Fl.nx O ∧ Env 19 a [] ∧ M (Old f) f w []) ?_ ?_
 ·refine p_2 ?_
  refine ZR (λ(T : Int) a w=>Env 19 a [(0,d),(1,Value.func (.func y) #[] q1.toArray),(7,vI (A.length : Int)),(8,vI T)] ∧ M (Old f) f w []) C ⟨H.s,I⟩ ?_
  rintro T a w ⟨H,I⟩ Y b m
  unfold Yw at b
  refine Zb (Zn H R R R λa H=>Ze (s_2 ?_))
  refine c_if H R b ?_ ?_
  ·intro E b
   refine u_2 (Zz (s_2 (p_2 (Zb (Zd H R λa H=>Zc H R λa H=>Ze (Zb (Zd H R λa H=>Zd H R λa H=>Zd H R ?_))))))); intro a H
   obtain ⟨n,e,b⟩:=bix b
   refine YG H R R o_3 Yf (I.rd c) e.1 ?_; intro a H
   obtain ⟨U,o,q⟩:=Wj c e.2 -- ^
   obtain ⟨t,u,rfl,F,G⟩:=YV o -- ^
   refine Zq H R Yf R (I.atk q (VZ c e.2)) cq ?_; intro a H
   obtain ⟨K,L,b⟩:=p_1 b
   refine Zbh (vs:=[vcR t u n]) H Za ld R R j (B _ I.kept n t (I.rdo F) u (I.rdo G) K L) ?_
   rintro v w a ⟨rfl,hK⟩ H
   have I:=I.keep hK
   refine Ze ?_
   refine c_if H R b ?_ ?_
   ·intro x b
    refine Zb (Zd H R λa H=>Zc H R λa H=>Ze ?_)
    obtain rfl:=m _ (ois b)
    obtain rfl:=o_1 h
    exact p_3 (Xl (ZI (ZI (Xl (ZI (ZI (kr1 H R R I.kept)))))))
   intro x b
   refine u_2 (YA (Zz (t_1 (Zn H R R R λa H=>Zd H R λa H=>Zj (Zm ?_)))))
   exact ⟨_,ois b,H.s,I⟩
  intro E b
  refine o_4 (Zu (Zu (YQ ?_)))
  obtain rfl:=m _ (ois b)
  refine Zm ?_
  exact ⟨(),R,H.sub trivial,I⟩
 rintro a w ⟨O,ht,H,I⟩
 subst ht
 have h:=Kv h
 refine Zz (Zb (Zc H R λa H=>Ze ?_))
 obtain rfl:=o_1 h
 exact p_3 (kr1 H R R I.kept)
def YI (b : (List GRecord)) (c : GRecord → Option (Bool)) : Option (Bool) :=
 (Ym b c).bind λd=>some (decide (d ≥ 0))
theorem UE (e : World) (l : (List GRecord)) (b : Value) (d : Ro e l [b]) (m : GRecord → Option (Bool)) (j : Nat) (q1 : List Value) (f : Callable prog j) (n : ∀ (c : World),Kept (Old e) e c → ∀ (k : GRecord) (h : Value) (_ : Ro c k.Label [h]) (i : Value) (_ : Ro c k.Body [i]) (zr : Bool),m k = some zr → Calls prog j ([vcR h i k] ++ q1).toArray c (λen q=>∃ v,en = .returned v ∧ (v = (vT zr) ∧ Kept (Old c) c q))) (r : Bool) (J : YI l m = some r) :
  Calls prog 228 [b,Value.func (.func j) #[] q1.toArray].toArray e (Rt e (vT r)):=by
 refine ce func228 ?_
 intro a H
 have I:=M.start e
 unfold YI at J
 refine Zb (Zc H R λa H=>Ze (Zb (Zd H R λa H=>Zd H R ?_))); intro a H
 obtain ⟨t,u,J⟩:=p_1 J
 refine c_k H I R (cbm func292) (Wn _ l b (I.rdo d) m j q1 f (λc o=>n c (I.kept.trans o)) t u) ?_; intro w a I H
 refine Zn H R R R λa H=>Zc H R λa H=>Ze ?_
 obtain rfl:=o_1 J
 exact p_3 (kr1 H R R I.kept)
def Y1 (b : GRecord) (c : GVault) (d : V16) : Option (Bool) :=
 ((Z6 c.Keys).bind λe=>if b.Version == (wr (e - 1)) then (some (decide (b.Nonce = d))) else (some false) : Option (Bool)).bind λf=>some f
theorem J9 (e : World) (f : GRecord) (h : Value) (A : Ro e f.Label [h]) (i : Value) (B : Ro e f.Body [i]) (n : Nat) (o : GVault) (c : Value) (j : Ro e o.Keys [c]) (k : Value) (C : Ro e o.Records [k]) (m : Value) (F : Ro e o.Events [m]) (t : At e n 0 (cV c k m o)) (x : Old e n) (q : Nat) (N : V16) (G : At e q 0 (enc N)) (K : Old e q) (r : Bool) (J : Y1 f o N = some r) :
  Calls prog 229 [vcR h i f,ptr n 0,ptr q 0].toArray e (Rt e (vT r)):=by
 refine ce func229 ?_
 intro a H
 have I:=M.start e
 unfold Y1 at J
 refine Zb (Z2 (cs:=cR h i f) H I Za ld R R λU w a I H=>Zc H R λa H=>Ze ?_)
 obtain ⟨T,d,L⟩:=p_1 J
 refine ZJ (λa w=>Env 18 a [(4,vT T)] ∧ M (Old e) e w []) ?_ ?_
 ·obtain ⟨y,O,d⟩:=p_1 d
  refine Ys (f.Version == (wr (y - 1))) (λb=>?_) (λb=>?_)
  ·have d:=Zt d b
   refine Z9 [5,6,7,8,9,10,11,12,13,14,15,16,17,4] Yt R R (by decide) R H I (qsP (λz=>Zg z.E Za ld R (Qe) (kr0 R)) (qsP (λz=>Zy (v:=(vI f.Version)) z.E Za ld R ty2 R (at_1 (z.M.ra0)) (kr0 R)) (qsP (λz=>Zg z.E Za ld R (XA) (kr0 R)) (qsP (λz=>Zy (v:=c) z.E Za ld R T0 R (at_0 (z.M.atk t x)) (kr0 R)) (qsP (λz=>Yd z.E Za ld R AE (YD _ o.Keys c (z.M.rdo j) y O) (kc R)) (qsP (v:=(vI (wr (y - 1)))) (λz=>Z8 z.E Za ld R R R (kr0 R)) (qsP (λz=>Z8 z.E Za ld R R R (kr0 R)) (q_m (λ_=>R) (qsP (λz=>Zg z.E (Zi z.E R (lkb R b)) (by decide) R (JT) (kr0 R)) (qsP (λz=>Zx z.E (Zi z.E R (lkb R b)) (by decide) R ZE R (at_2 (z.M.ra0)) (u_1 _) (kr0 R)) (qsP (λz=>Zx z.E (Zi z.E R (lkb R b)) (by decide) R ZE R (z.M.atk G K) (u_1 _) (kr0 R)) (qsP (λz=>kR z.E (Zi z.E R (lkb R b)) (by decide) R R (WJ u_3 ty5 R false R (by decide) (XZ t_3)) (by decide) (by kernel_rfl) (kr0 R)) (qsP (λz=>UM z.E Za ld (lkb R b) R (kr0 R)) (qsP (λz=>T9 z.E Za ld R (kr0 R)) qs0)))))))))))))) ?_
   ·intro a w u H I
    refine Zj ?_
    obtain rfl:=o_1 d
    refine Zm ?_
    have I:=M.fst (l:=[]) I
    exact ⟨H.s,I⟩
  have d:=Zs d b
  refine Z9 [5,6,7,8,9,10,11,12,13,14,15,16,17,4] Yt R R (by decide) R H I (qsP (λz=>Zg z.E Za ld R (Qe) (kr0 R)) (qsP (λz=>Zy (v:=(vI f.Version)) z.E Za ld R ty2 R (at_1 (z.M.ra0)) (kr0 R)) (qsP (λz=>Zg z.E Za ld R (XA) (kr0 R)) (qsP (λz=>Zy (v:=c) z.E Za ld R T0 R (at_0 (z.M.atk t x)) (kr0 R)) (qsP (λz=>Yd z.E Za ld R AE (YD _ o.Keys c (z.M.rdo j) y O) (kc R)) (qsP (v:=(vI (wr (y - 1)))) (λz=>Z8 z.E Za ld R R R (kr0 R)) (qsP (λz=>Z8 z.E Za ld R R R (kr0 R)) (q_m (λ_=>R) (qsP (λz=>Zf z.E R (lkb R b) R (by decide) (kr0 R)) (qsP (λz=>Zf z.E R (lkb R b) R (by decide) (kr0 R)) (qsP (λz=>Zf z.E R (lkb R b) R (by decide) (kr0 R)) (qsP (λz=>Zf z.E R (lkb R b) R (by decide) (kr0 R)) (qsP (λz=>Um z.E Za ld (lkb R b) R (kr0 R)) (qsP (λz=>T9 z.E Za ld R (kr0 R)) qs0)))))))))))))) ?_
  ·intro a w u H I
   refine Zj ?_
   obtain rfl:=o_1 d
   refine Zm ?_
   have I:=M.fst (l:=[]) I
   exact ⟨H.s,I⟩
 rintro a w ⟨H,I⟩
 obtain rfl:=o_1 L
 exact p_3 (kr1 H R R I.kept)
def XY (b : GVault) (c : V16) : Option (Bool) :=
 (YI b.Records (λd=>Y1 d b c)).bind λe=>some e
theorem Kz (o : World) (h : GVault) (c : Value) (i : Ro o h.Keys [c]) (b : Value) (f : Ro o h.Records [b]) (e : Value) (j : Ro o h.Events [e]) (q : V16) (r : Bool) (J : XY h q = some r) :
  Calls prog 131 [vcV c b e h,Value.agg (enc q).toArray].toArray o (Rt o (vT r)):=by
 refine ce func131 ?_
 intro a H
 have I:=M.start o
 unfold XY at J
 refine Zb (Z2 (cs:=cV c b e h) H I Za ld R R λu w a I H=>Z2 (cs:=enc q) H I Za ld R R λx w a I H=>Zc H R λa H=>Ze (Zb (Zl H R (Yn) λa H=>ZB (v:=b) H R XO R (at_2 I.ra1) λa H=>yQ H Za ld R ?_))); intro a H
 obtain ⟨y,z,J⟩:=p_1 J
 refine c_k H I R (cbm func228) (UE _ h.Records b (I.rdo f) (λt=>Y1 t h q) 229 [ptr u 0,ptr x 0] (cbm func229) (λA d t k l m n zr zhr=>J9 A t k l m n u h c (ji (I.rdo i) d) b (ji (I.rdo f) d) e (ji (I.rdo j) d) (yX I.ra1 d (by simp [cat])) (HZ I.ra1 d (by simp [cat])) x q (yX I.ra0 d (Zfx (by decide))) (HZ I.ra0 d (Zfx (by decide))) zr zhr) y z) ?_; intro w a I H
 refine Zc H R λa H=>Ze ?_
 obtain rfl:=o_1 J
 exact p_3 (kr1 H R R I.kept)
def Qs (e : Int) (c : Int) (b : Int × Int) : Option (Fl (Int × Int) Int) :=
 if decide (b.2 ≥ c) then (((Wo b.2).bind λ_=>(if (Jh (WG b.1 b.2) 1) == 1 then ((Wo (wr (b.2 - c))).bind λ_=>some (zy b.1 (jY e (wr (b.2 - c))))) else (some b.1) : Option (Int)).bind λd=>some d : Option (Int)).bind λf=>some (Fl.nx (f,wr (b.2 - 1)))) else (some (Fl.ex b.1))
def Kc (b : Int) (c : Int) (d : Int) : Option (Int) :=
 (ZQ (Qs c d) (b,15)).bind λe=>some e
theorem Zbm (d : World) (y : Int) (i : Int) (j : Int) (r : Int) (J : Kc y i j = some r) :
  Calls prog 214 [vI y,vI i,vI j].toArray d (Rt d (vI r)):=by
 refine ce func214 ?_
 intro a H
 have I:=M.start d
 unfold Kc at J
 refine Zb (Zc H R λa H=>Ze (s_2 (Zb (Zc H R λa H=>Ze ?_))))
 obtain ⟨z,o,q⟩:=p_1 J
 refine Z7 (λa w=>Env 26 a [(0,vI z)] ∧ M (Old d) d w []) ?_ ?_
 ·refine p_2 ?_
  refine ZR (λ(k : Int × Int) a w=>Env 26 a [(0,vI k.1),(1,vI i),(2,vI j),(7,vI k.2)] ∧ M (Old d) d w []) o ⟨H.s,I⟩ ?_
  rintro k a w ⟨H,I⟩ B c t
  unfold Qs at c
  refine s_2 (Zb (Zd H R λa H=>Zd H R λa H=>Zn H R R R λa H=>Ze ?_))
  refine c_if H R c ?_ ?_
  ·intro u c
   refine u_2 (Zz ?_)
   obtain ⟨A,e,l⟩:=p_1 c
   refine ZJ (λa w=>Env 26 a [(0,vI A),(1,vI i),(2,vI j),(7,vI k.2)] ∧ M (Old d) d w []) ?_ ?_
   ·refine p_2 (Zb (Zd H R λa H=>Zd H R ?_)); intro a H
    obtain ⟨_,f,e⟩:=p_1 e
    have f:=Vt f
    refine BF H Za ld R R (Bf _ _ f) λa H=>Zn H R R R λa H=>Zn H R R R λa H=>Ze ?_
    obtain ⟨x,b,m⟩:=p_1 e
    refine Z7 (λa w=>Env 26 a [(0,vI x),(1,vI i),(2,vI j),(7,vI k.2)] ∧ M (Old d) d w []) ?_ ?_
    ·refine c_if H R b ?_ ?_
     ·intro n b
      refine t_1 (Zd H R λa H=>Zd H R λa H=>Zd H R λa H=>Zd H R λa H=>Zn H R R R ?_); intro a H
      obtain ⟨_,h,b⟩:=p_1 b
      have h:=Vt h
      refine BF H Za ld R R (Zb4 _ _ h) λa H=>Zn H R R R λa H=>Zc H R λa H=>Zj ?_
      obtain rfl:=o_1 b
      refine Zm ?_
      exact ⟨H.s,I⟩
     intro n b
     refine u_2 ?_
     obtain rfl:=o_1 b
     refine Zm ?_
     exact ⟨H.s,I⟩
    rintro a w ⟨H,I⟩
    refine YA ?_
    obtain rfl:=o_1 m
    refine Zm ?_
    exact ⟨H.s,I⟩
   rintro a w ⟨H,I⟩
   refine t_1 (Zd H R λa H=>Zn H R R R λa H=>Zc H R λa H=>Zj (Zm ?_))
   exact ⟨_,ois l,H.s,I⟩
  intro u c
  refine o_4 (Zu (Zu (YQ ?_)))
  obtain rfl:=t _ (ois c)
  refine Zm ?_
  exact ⟨H.s,I⟩
 rintro a w ⟨H,I⟩
 refine Zz (Zb (Zd H R λa H=>Zc H R λa H=>Ze ?_))
 obtain rfl:=o_1 q
 exact p_3 (kr1 H R R I.kept)
def Wz (d : UInt8) (e : UInt8) (b : Int × Int) : Option (Fl (Int × Int) Int) :=
 if decide (b.2 < 8) then (((Wo b.2).bind λ_=>(if ((jJ e b.2) &&& 1) == 1 then ((Wo b.2).bind λ_=>some (zy b.1 (jY (bI d) b.2))) else (some b.1) : Option (Int)).bind λc=>some c : Option (Int)).bind λf=>some (Fl.nx (f,wr (b.2 + 1)))) else (some (Fl.ex b.1))
def YO (c : Int) (d : UInt8) (e : UInt8) : Option (UInt8) :=
 (ZQ (Wz d e) (0,0)).bind λf=>(Kc f c 8).bind λb=>some (Zv b)
theorem Xy (d : World) (f : Int) (m : UInt8) (h : UInt8) (r : UInt8) (J : YO f m h = some r) :
  Calls prog 289 [vI f,vB m,vB h].toArray d (Rt d (vB r)):=by
 refine ce func289 ?_
 intro a H
 have I:=M.start d
 unfold YO at J
 refine Zb (Zc H R λa H=>Ze (Zb (Zc H R λa H=>Ze (s_2 (Zb (Zd H R λa H=>Ze ?_))))))
 obtain ⟨B,t,i⟩:=p_1 J
 refine Z7 (λa w=>Env 28 a [(0,vI f),(7,vI B)] ∧ M (Old d) d w []) ?_ ?_
 ·refine p_2 ?_
  refine ZR (λ(j : Int × Int) a w=>Env 28 a [(0,vI f),(1,vB m),(2,vB h),(7,vI j.1),(9,vI j.2)] ∧ M (Old d) d w []) t ⟨H.s,I⟩ ?_
  rintro j a w ⟨H,I⟩ E c u
  unfold Wz at c
  refine Zb (Zn H R R R λa H=>Ze (s_2 ?_))
  refine c_if H R c ?_ ?_
  ·intro x c
   refine u_2 (Zz ?_)
   obtain ⟨C,e,n⟩:=p_1 c
   refine ZJ (λa w=>Env 28 a [(0,vI f),(1,vB m),(2,vB h),(7,vI C),(9,vI j.2)] ∧ M (Old d) d w []) ?_ ?_
   ·refine p_2 (Zb (Zd H R λa H=>Zc H R λa H=>Ze (Zb (Zd H R λa H=>Zd H R ?_)))); intro a H
    obtain ⟨_,k,e⟩:=p_1 e
    have k:=Vt k
    refine BF H Za ld R R (Zg4 _ _ k) λa H=>Zn H R R (bB_and (jJ h j.2) 1) λa H=>Zn H R R (Zgy ((jJ h j.2) &&& 1) 1) λa H=>Ze ?_
    obtain ⟨y,b,o⟩:=p_1 e
    refine Z7 (λa w=>Env 28 a [(0,vI f),(1,vB m),(2,vB h),(7,vI y),(9,vI j.2)] ∧ M (Old d) d w []) ?_ ?_
    ·refine c_if H R b ?_ ?_
     ·intro q b
      refine t_1 (Zd H R λa H=>Zd H R λa H=>Bl H Za ld R t_3 s_4 λa H=>Zd H R ?_); intro a H
      obtain ⟨_,l,b⟩:=p_1 b
      have l:=Vt l
      refine BF H Za ld R R (Zb4 _ _ l) λa H=>Zn H R R R λa H=>Zc H R λa H=>Zj ?_
      obtain rfl:=o_1 b
      refine Zm ?_
      exact ⟨H.s,I⟩
     intro q b
     refine u_2 ?_
     obtain rfl:=o_1 b
     refine Zm ?_
     exact ⟨H.s,I⟩
    rintro a w ⟨H,I⟩
    refine YA ?_
    obtain rfl:=o_1 o
    refine Zm ?_
    exact ⟨H.s,I⟩
   rintro a w ⟨H,I⟩
   refine t_1 (Zn H R R R λa H=>Zd H R λa H=>Zj (Zm ?_))
   exact ⟨_,ois n,H.s,I⟩
  intro x c
  refine o_4 (Zu (Zu (YQ ?_)))
  obtain rfl:=u _ (ois c)
  refine Zm ?_
  exact ⟨H.s,I⟩
 rintro a w ⟨H,I⟩
 refine Zz (Zb (Zd H R λa H=>Zd H R ?_)); intro a H
 obtain ⟨z,A,i⟩:=p_1 i
 refine c_k H I R (cbm func214) (Zbm _ B f 8 z A) ?_; intro w a I H
 refine YX H Za ld R s_4 t_3 λa H=>Zc H R λa H=>Ze ?_
 obtain rfl:=o_1 i
 exact p_3 (kr1 H R R I.kept)
def UF (f : Int) (b : UInt8 × Int × UInt8) : Option (Fl (UInt8 × Int × UInt8) UInt8) :=
 if decide (b.2.1 > 0) then (((if (Int.tmod b.2.1 2) == 1 then ((YO f b.2.2 b.1).bind λc=>some c) else (some b.2.2) : Option (UInt8)).bind λd=>(YO f b.1 b.1).bind λe=>some (e,d) : Option (UInt8 × UInt8)).bind λh=>some (Fl.nx (h.1,wr (Int.tdiv b.2.1 2),h.2))) else (some (Fl.ex b.2.2))
def WP (b : Int) (c : UInt8) (d : Int) : Option (UInt8) :=
 (ZQ (UF b) (c,d,1)).bind λe=>some e
theorem B9 (d : World) (h : Int) (z : UInt8) (A : Int) (r : UInt8) (J : WP h z A = some r) :
  Calls prog 270 [vI h,vB z,vI A].toArray d (Rt d (vB r)):=by
 refine ce func270 ?_
 intro a H
 have I:=M.start d
 unfold WP at J
 refine Zb (Zc H R λa H=>Ze (Zb (Zc H R λa H=>Ze ?_)))
 obtain ⟨C,l,m⟩:=p_1 J
 refine ZJ (λa w=>Env 24 a [(7,vB C)] ∧ M (Old d) d w []) ?_ ?_
 ·refine p_2 ?_
  refine ZR (λ(e : UInt8 × Int × UInt8) a w=>Env 24 a [(0,vI h),(1,vB e.1),(2,vI e.2.1),(7,vB e.2.2)] ∧ M (Old d) d w []) l ⟨H.s,I⟩ ?_
  rintro e a w ⟨H,I⟩ E c n
  unfold UF at c
  refine s_2 (Zb (Zd H R λa H=>Zn H R R R λa H=>Ze ?_))
  refine c_if H R c ?_ ?_
  ·intro o c
   refine u_2 (Zz ?_)
   obtain ⟨B,i,j⟩:=p_1 c
   refine ZJ (λa w=>Env 24 a [(0,vI h),(1,vB B.1),(2,vI e.2.1),(7,vB B.2)] ∧ M (Old d) d w []) ?_ ?_
   ·refine p_2 ?_
    obtain ⟨q,b,f⟩:=p_1 i
    refine ZJ (λa w=>Env 24 a [(0,vI h),(1,vB e.1),(2,vI e.2.1),(7,vB q)] ∧ M (Old d) d w []) ?_ ?_
    ·refine Zb (Zd H R λa H=>Zn H R R (KG _ _ (by decide)) λa H=>Zn H R R R λa H=>Ze ?_)
     refine c_if H R b ?_ ?_
     ·intro k b
      refine t_1 (Zd H R λa H=>Zd H R λa H=>Zd H R ?_); intro a H
      obtain ⟨t,u,b⟩:=p_1 b
      refine c_k H I R zP (Xy _ h e.2.2 e.1 t u) ?_; intro w a I H
      refine Zc H R λa H=>Zj ?_
      obtain rfl:=o_1 b
      refine Zm ?_
      exact ⟨H.s,I⟩
     intro k b
     refine u_2 ?_
     obtain rfl:=o_1 b
     refine Zm ?_
     exact ⟨H.s,I⟩
    rintro a w ⟨H,I⟩
    refine t_1 (Zd H R λa H=>Zd H R λa H=>Zd H R ?_); intro a H
    obtain ⟨x,y,f⟩:=p_1 f
    refine c_k H I R zP (Xy _ h e.1 e.1 x y) ?_; intro w a I H
    refine Zc H R λa H=>Zj (YA ?_)
    obtain rfl:=o_1 f
    refine Zm ?_
    exact ⟨H.s,I⟩
   rintro a w ⟨H,I⟩
   refine t_1 (Zd H R λa H=>Zn H R R (jk _ _ (by decide)) λa H=>Zc H R λa H=>Zj (Zm ?_))
   exact ⟨_,ois j,H.s,I⟩
  intro o c
  refine o_4 (Zu (Zu (YQ ?_)))
  obtain rfl:=n _ (ois c)
  refine Zm ?_
  exact ⟨H.s,I⟩
 rintro a w ⟨H,I⟩
 refine Zb (Zd H R λa H=>Zc H R λa H=>Ze ?_)
 obtain rfl:=o_1 m
 exact p_3 (kr1 H R R I.kept)
def Y5 (b : Int) (c : UInt8) : Option (UInt8) :=
 (WP b c 254).bind λd=>some d
theorem Ql (b : World) (c : Int) (d : UInt8) (r : UInt8) (J : Y5 c d = some r) :
  Calls prog 201 [vI c,vB d].toArray b (Rt b (vB r)):=by
 refine ce func201 ?_
 intro a H
 have I:=M.start b
 unfold Y5 at J
 refine Zb (Zc H R λa H=>Ze (Zb (Zd H R λa H=>Zd H R ?_))); intro a H
 obtain ⟨e,f,J⟩:=p_1 J
 refine c_k H I R (cbm func270) (B9 _ c d 254 e f) ?_; intro w a I H
 refine Zc H R λa H=>Ze ?_
 obtain rfl:=o_1 J
 exact p_3 (kr1 H R R I.kept)
def Y2 (c : UInt8) (b : Int) : Option (UInt8) :=
 (Wo (wru (BitVec.ofInt 64 (IntKind.u64.wrap b) &&& BitVec.ofInt 64 7).toNat)).bind λ_=>(Wo (IntKind.u64.wrap (8 - (wru (BitVec.ofInt 64 (IntKind.u64.wrap b) &&& BitVec.ofInt 64 7).toNat)))).bind λ_=>some ((shlB c (wru (BitVec.ofInt 64 (IntKind.u64.wrap b) &&& BitVec.ofInt 64 7).toNat)) ||| (jJ c (IntKind.u64.wrap (8 - (wru (BitVec.ofInt 64 (IntKind.u64.wrap b) &&& BitVec.ofInt 64 7).toNat)))))
theorem Q7 (d : World) (b : UInt8) (c : Int) (r : UInt8) (J : Y2 b c = some r) :
  Calls prog 202 [vB b,vI c].toArray d (Rt d (vB r)):=by
 refine ce func202 ?_
 intro a H
 have I:=M.start d
 unfold Y2 at J
 refine Zb (Zc H R λa H=>Ze (Zb (Zd H R λa H=>JN H Za ld R s_5 underlying151 λa H=>Zn H R R R λa H=>Zc H R λa H=>Ze (Zb (Zd H R λa H=>Zd H R ?_))))); intro a H
 obtain ⟨_,e,J⟩:=p_1 J
 have e:=Vt e
 refine BF H Za ld R R (bB_shl _ _ e) λa H=>Zd H R λa H=>Zd H R λa H=>Zn H R R R ?_; intro a H
 obtain ⟨_,f,J⟩:=p_1 J
 have f:=Vt f
 refine BF H Za ld R R (Zg4 _ _ f) λa H=>Zn H R R (bB_or (shlB b (wru (BitVec.ofInt 64 (IntKind.u64.wrap c) &&& BitVec.ofInt 64 7).toNat)) (jJ b (IntKind.u64.wrap (8 - (wru (BitVec.ofInt 64 (IntKind.u64.wrap c) &&& BitVec.ofInt 64 7).toNat))))) λa H=>Zc H R λa H=>Ze ?_
 obtain rfl:=o_1 J
 exact p_3 (kr1 H R R I.kept)
def Vm (b : V256 × Int) : Option (Fl (V256 × Int) V256) :=
 if decide (b.2 < 256) then ((Y5 285 (Zv b.2)).bind λc=>(Y2 c 1).bind λd=>(Y2 c 4).bind λe=>(ZZ b.1 b.2).bind λf=>some (Fl.nx ((b.1.setIfInBounds (b.2).toNat (((c ^^^ d) ^^^ e) ^^^ 90)),wr (b.2 + 1)))) else (some (Fl.ex b.1))
def UG (c : (Vector (Vector UInt8 4) 4) × Int) (b : (Vector (Vector UInt8 4) 4) × Int) : Option (Fl ((Vector (Vector UInt8 4) 4) × Int) (Vector (Vector UInt8 4) 4)) :=
 if decide (b.2 < 4) then ((Y5 285 (Zv (zy c.2 (wr (4 + b.2))))).bind λe=>(ZZ b.1 c.2).bind λd=>(ZZ d b.2).bind λf=>some (Fl.nx ((b.1.setIfInBounds (c.2).toNat (d.setIfInBounds (b.2).toNat e)),wr (b.2 + 1)))) else (some (Fl.ex b.1))
def UI (b : (Vector (Vector UInt8 4) 4) × Int) : Option (Fl ((Vector (Vector UInt8 4) 4) × Int) (Vector (Vector UInt8 4) 4)) :=
 if decide (b.2 < 4) then ((ZQ (UG b) (b.1,0)).bind λc=>some (Fl.nx (c,wr (b.2 + 1)))) else (some (Fl.ex b.1))
def UK (b : V16 × Int) : Option (Fl (V16 × Int) V16) :=
 if decide (b.2 < 16) then ((ZZ b.1 b.2).bind λc=>some (Fl.nx ((b.1.setIfInBounds (b.2).toNat (Zv (Int.tmod (wr ((wr (13 * b.2)) + 4)) 16))),wr (b.2 + 1)))) else (some (Fl.ex b.1))
def VT (d : Int) : Option (GCipher) :=
 (ZQ (Vm) ((Vector.replicate 256 (0 : UInt8)),0)).bind λe=>(ZQ (UI) ((Vector.replicate 4 (Vector.replicate 4 (0 : UInt8))),0)).bind λb=>(ZQ (UK) ((Vector.replicate 16 (0 : UInt8)),0)).bind λc=>some (⟨285,e,b,c,d⟩ : GCipher)
theorem BX (t : World) (c : Int) (r : GCipher) (J : VT c = some r) :
  Calls prog 109 [vI c].toArray t (Rt t (Value.agg (enc r).toArray)):=by
 refine ce func109 ?_
 intro a H
 have I:=M.start t
 unfold VT at J
 refine Zb (Zw H I Kq λC w a I H=>Ze (Zb (Zd H R λa H=>ZY (parts:=[(0,.const (vI 285)),(4,.tmp 9)]) (vs:=[(0,vI 285),(4,vI c)]) (cs:=cat [xz,enc xf,enc xe,enc xb,[vI c]]) H Za ld R R Kq pl62 (ZT (pre:=[]) (seg:=[vI 0]) (seg':=xz) (post:=[enc xf,enc xe,enc xb,[vI 0]]) R cl0 R R R (ZT (pre:=[xz,enc xf,enc xe,enc xb]) (seg:=[vI 0]) (seg':=[vI c]) (post:=[]) R ck R R R Yp)) λa H=>Zw H I Kq λF w a I H=>Zk (seg:=cat [xz,enc xf,enc xe,enc xb,[vI c]]) (cs':=cat [xz,enc xf,enc xe,enc xb,[vI c]]) H I Za R R R Kq cq (q_1 cq cq) (ZC (cc1 (s_1 (285 : Int)) (cc1 (s_1 _) (cc1 (s_1 _) (cc1 (s_1 _) (cc1 (s_1 (c : Int)) cc0)))))) (q_2 cq cq) λw a I H=>Ze (s_2 (Zb (Zd H R λa H=>Ze ?_))))))
 obtain ⟨k,aj,ak⟩:=p_1 J
 refine Z7 (λa w=>Env 61 a [(2,ptr C 0),(3,ptr F 0)] ∧ M (Old t) t w [raw F (cat [xz,enc k,enc xe,enc xb,[vI c]]),raw C xl]) ?_ ?_
 ·refine p_2 ?_
  refine ZR (λ(N : V256 × Int) a w=>Env 61 a [(2,ptr C 0),(3,ptr F 0),(11,vI N.2)] ∧ M (Old t) t w [raw F (cat [xz,enc N.1,enc xe,enc xb,[vI c]]),raw C xl]) aj ⟨H.s,I⟩ ?_
  rintro N a w ⟨H,I⟩ aq h T
  unfold Vm at h
  refine Zb (Zn H R R R λa H=>Ze (s_2 ?_))
  refine c_if H R h ?_ ?_
  ·intro U h
   refine u_2 (Zz (s_2 (p_2 (Zb (Zd H R λa H=>Zc H R λa H=>Ze (Zb (Zd H R λa H=>YX H Za ld R s_5 t_3 ?_))))))); intro a H
   obtain ⟨l,al,h⟩:=p_1 h
   refine c_k H I R Zhs (Ql _ 285 (Zv N.2) l al) ?_; intro w a I H
   refine Zc H R λa H=>Ze (t_1 (Zd H R λa H=>Zd H R λa H=>Zd H R ?_)); intro a H
   obtain ⟨o,am,h⟩:=p_1 h
   refine c_k H I R (cbm func202) (Q7 _ l 1 o am) ?_; intro w a I H
   refine Zn H R R (Vs l o) λa H=>Zd H R ?_; intro a H
   obtain ⟨y,an,h⟩:=p_1 h
   refine c_k H I R (cbm func202) (Q7 _ l 4 y an) ?_; intro w a I H
   refine Zn H R R (Vs (l ^^^ o) y) λa H=>Zn H R R (Vs ((l ^^^ o) ^^^ y) 90) λa H=>Zl H R (zH) ?_; intro a H
   obtain ⟨ar,G,h⟩:=bvx h
   refine ZO H R R o_6 ty5 G.1 λa H=>Zk (seg:=[vB (((l ^^^ o) ^^^ y) ^^^ 90)]) (cs':=cat [xz,enc (N.1.setIfInBounds (N.2).toNat (((l ^^^ o) ^^^ y) ^^^ 90)),enc xe,enc xb,[vI c]]) H I Za R R R ty5 R (JC (o':=0 + (N.2).toNat * 1) (pre:=[xz]) (seg:=enc N.1) (post:=[enc xe,enc xb,[vI c]]) ck (Ya (v:=N.1) (x:=((l ^^^ o) ^^^ y) ^^^ 90) G.1) (by first | omega | (simp only [Flat.n] <;> omega))) (s_1 (((l ^^^ o) ^^^ y) ^^^ 90 : UInt8)) (Qj (o':=0 + (N.2).toNat * 1) (pre:=[xz]) (seg:=enc N.1) (post:=[enc xe,enc xb,[vI c]]) ck (Ya (v:=N.1) (x:=((l ^^^ o) ^^^ y) ^^^ 90) G.1) (ZP (v:=N.1) (x:=((l ^^^ o) ^^^ y) ^^^ 90) G.1) (by first | omega | (simp only [Flat.n] <;> omega))) λw a I H=>Zj (YA (Zz (t_1 (Zn H R R R λa H=>Zd H R λa H=>Zj (Zm ?_)))))
   exact ⟨_,ois h,H.s,I⟩
  intro U h
  refine o_4 (Zu (Zu (YQ ?_)))
  obtain rfl:=T _ (ois h)
  refine Zm ?_
  exact ⟨H.s,I⟩
 rintro a w ⟨H,I⟩
 refine Zz (s_2 (Zb (Zd H R λa H=>Ze ?_)))
 obtain ⟨d,W,X⟩:=p_1 ak
 refine Z7 (λa w=>Env 61 a [(2,ptr C 0),(3,ptr F 0)] ∧ M (Old t) t w [raw F (cat [xz,enc k,enc d,enc xb,[vI c]]),raw C xl]) ?_ ?_
 ·refine p_2 ?_
  refine ZR (λ(m : xm × Int) a w=>Env 61 a [(2,ptr C 0),(3,ptr F 0),(29,vI m.2)] ∧ M (Old t) t w [raw F (cat [xz,enc k,enc m.1,enc xb,[vI c]]),raw C xl]) W ⟨H.s,I⟩ ?_
  rintro m a w ⟨H,I⟩ au q Y
  unfold UI at q
  refine Zb (Zn H R R R λa H=>Ze (s_2 ?_))
  refine c_if H R q ?_ ?_
  ·intro Z q
   refine u_2 (Zz (s_2 (p_2 (Zb (Zd H R λa H=>Zc H R λa H=>Ze (Zb (Zd H R λa H=>Ze ?_)))))))
   obtain ⟨ao,aa,ab⟩:=p_1 q
   refine Z7 (λa w=>Env 61 a [(2,ptr C 0),(3,ptr F 0),(29,vI m.2)] ∧ M (Old t) t w [raw F (cat [xz,enc k,enc ao,enc xb,[vI c]]),raw C xl]) ?_ ?_
   ·refine p_2 ?_
    refine ZR (λ(f : xm × Int) a w=>Env 61 a [(2,ptr C 0),(3,ptr F 0),(6,vI m.2),(29,vI m.2),(32,vI f.2)] ∧ M (Old t) t w [raw F (cat [xz,enc k,enc f.1,enc xb,[vI c]]),raw C xl]) aa ⟨H.s,I⟩ ?_
    rintro f a w ⟨H,I⟩ av b ac
    unfold UG at b
    refine Zb (Zn H R R R λa H=>Ze (s_2 ?_))
    refine c_if H R b ?_ ?_
    ·intro ad b
     refine u_2 (Zz (s_2 (p_2 (Zb (Zd H R λa H=>Zc H R λa H=>Ze ?_)))))
     obtain ⟨A,ap,b⟩:=p_1 b
     obtain ⟨O,K,b⟩:=bvx b
     obtain ⟨aw,B,b⟩:=bvx b
     refine Z9 [35,36,37,38,39,40,41,42,43,44,45] Yt R R (by decide) R H I (q_m (λ_=>R) (q_m (λ_=>R) (q_m (λ_=>R) (q_m (λ_=>R) (qsP (v:=(vI (wr (4 + f.2)))) (λz=>Z8 z.E Za ld R R R (kr0 R)) (qsP (v:=(vI (zy m.2 (wr (4 + f.2))))) (λz=>Z8 z.E Za ld R R R (kr0 R)) (qsP (λz=>YX z.E Za ld R s_5 t_3 (kr0 R)) (qsP (λz=>Yd z.E Za ld R Zhs (Ql _ 285 (Zv (zy m.2 (wr (4 + f.2)))) A ap) (kc R)) (qsP (λz=>Zg z.E Za ld R (jb) (kr0 R)) (qsP (λz=>ZW z.E Za ld R R u_4 Tp K.1 (kr0 R)) (qsP (λz=>ZW z.E Za ld R R t_5 ty5 B.1 (kr0 R)) qs0))))))))))) ?_
     ·intro a w u H I
      refine Zk (seg:=[vB A]) (cs':=cat [xz,enc k,enc (f.1.setIfInBounds (m.2).toNat (O.setIfInBounds (f.2).toNat A)),enc xb,[vI c]]) H I Za R R R ty5 R (JC (o':=(m.2).toNat * 4 + (0 + (f.2).toNat * 1)) (pre:=[xz,enc k]) (seg:=enc f.1) (post:=[enc xb,[vI c]]) ck (TC (o':=0 + (f.2).toNat * 1) K (Ya (v:=O) (x:=A) B.1) (by first | omega | (simp only [Flat.n] <;> omega))) (by first | omega | (simp only [Flat.n] <;> omega))) (s_1 (A : UInt8)) (Qj (o':=(m.2).toNat * 4 + (0 + (f.2).toNat * 1)) (pre:=[xz,enc k]) (seg:=enc f.1) (post:=[enc xb,[vI c]]) ck (TC (o':=0 + (f.2).toNat * 1) K (Ya (v:=O) (x:=A) B.1) (by first | omega | (simp only [Flat.n] <;> omega))) (Ul (o':=0 + (f.2).toNat * 1) K (Ya (v:=O) (x:=A) B.1) (ZP (v:=O) (x:=A) B.1) (by first | omega | (simp only [Flat.n] <;> omega))) (by first | omega | (simp only [Flat.n] <;> omega))) λw a I H=>Zj (YA (Zz (t_1 (Zn H R R R λa H=>Zd H R λa H=>Zj (Zm ?_)))))
      exact ⟨_,ois b,H.s,I⟩
    intro ad b
    refine o_4 (Zu (Zu (YQ ?_)))
    obtain rfl:=ac _ (ois b)
    refine Zm ?_
    exact ⟨H.s,I⟩
   rintro a w ⟨H,I⟩
   refine YA (Zz (t_1 (Zn H R R R λa H=>Zd H R λa H=>Zj (Zm ?_))))
   exact ⟨_,ois ab,H.s,I⟩
  intro Z q
  refine o_4 (Zu (Zu (YQ ?_)))
  obtain rfl:=Y _ (ois q)
  refine Zm ?_
  exact ⟨H.s,I⟩
 rintro a w ⟨H,I⟩
 refine Zz (s_2 (Zb (Zd H R λa H=>Ze ?_)))
 obtain ⟨i,ae,af⟩:=p_1 X
 refine Z7 (λa w=>Env 61 a [(2,ptr C 0),(3,ptr F 0)] ∧ M (Old t) t w [raw F (cat [xz,enc k,enc d,enc i,[vI c]]),raw C xl]) ?_ ?_
 ·refine p_2 ?_
  refine ZR (λ(e : V16 × Int) a w=>Env 61 a [(2,ptr C 0),(3,ptr F 0),(48,vI e.2)] ∧ M (Old t) t w [raw F (cat [xz,enc k,enc d,enc e.1,[vI c]]),raw C xl]) ae ⟨H.s,I⟩ ?_
  rintro e a w ⟨H,I⟩ ax j ag
  unfold UK at j
  refine Zb (Zn H R R R λa H=>Ze (s_2 ?_))
  refine c_if H R j ?_ ?_
  ·intro ah j
   refine u_2 (Zz (s_2 (p_2 (Zb (Zd H R λa H=>Zc H R λa H=>Ze (t_1 (Zd H R λa H=>Zd H R λa H=>Zn H R R R λa H=>Zn H R R R λa H=>Zn H R R (KG _ _ (by decide)) λa H=>YX H Za ld R s_5 t_3 λa H=>Zl H R (yW) ?_))))))); intro a H
   obtain ⟨ay,L,j⟩:=bvx j
   refine ZO H R R p_7 ty5 L.1 λa H=>Zk (seg:=[vB (Zv (Int.tmod (wr ((wr (13 * e.2)) + 4)) 16))]) (cs':=cat [xz,enc k,enc d,enc (e.1.setIfInBounds (e.2).toNat (Zv (Int.tmod (wr ((wr (13 * e.2)) + 4)) 16))),[vI c]]) H I Za R R R ty5 R (JC (o':=0 + (e.2).toNat * 1) (pre:=[xz,enc k,enc d]) (seg:=enc e.1) (post:=[[vI c]]) ck (Ya (v:=e.1) (x:=Zv (Int.tmod (wr ((wr (13 * e.2)) + 4)) 16)) L.1) (by first | omega | (simp only [Flat.n] <;> omega))) (s_1 (Zv (Int.tmod (wr ((wr (13 * e.2)) + 4)) 16) : UInt8)) (Qj (o':=0 + (e.2).toNat * 1) (pre:=[xz,enc k,enc d]) (seg:=enc e.1) (post:=[[vI c]]) ck (Ya (v:=e.1) (x:=Zv (Int.tmod (wr ((wr (13 * e.2)) + 4)) 16)) L.1) (ZP (v:=e.1) (x:=Zv (Int.tmod (wr ((wr (13 * e.2)) + 4)) 16)) L.1) (by first | omega | (simp only [Flat.n] <;> omega))) λw a I H=>Zj (YA (Zz (t_1 (Zn H R R R λa H=>Zd H R λa H=>Zj (Zm ?_)))))
   exact ⟨_,ois j,H.s,I⟩
  intro ah j
  refine o_4 (Zu (Zu (YQ ?_)))
  obtain rfl:=ag _ (ois j)
  refine Zm ?_
  exact ⟨H.s,I⟩
 rintro a w ⟨H,I⟩
 refine Zz (Zb (Zq H R Kq R I.ra0 cq ?_)); intro a H
 have I:=I.pl1
 refine Zk (seg:=cat [[vI ((⟨285,k,d,i,c⟩ : GCipher).Field)],enc ((⟨285,k,d,i,c⟩ : GCipher).Box),enc ((⟨285,k,d,i,c⟩ : GCipher).Mix),enc ((⟨285,k,d,i,c⟩ : GCipher).Places),[vI ((⟨285,k,d,i,c⟩ : GCipher).Rounds)]]) (cs':=cat [[vI ((⟨285,k,d,i,c⟩ : GCipher).Field)],enc ((⟨285,k,d,i,c⟩ : GCipher).Box),enc ((⟨285,k,d,i,c⟩ : GCipher).Mix),enc ((⟨285,k,d,i,c⟩ : GCipher).Places),[vI ((⟨285,k,d,i,c⟩ : GCipher).Rounds)]]) H I Za R R R Kq cq (q_1 cq cq) (ZC (cc1 (s_1 ((⟨285,k,d,i,c⟩ : GCipher).Field : Int)) (cc1 (s_1 _) (cc1 (s_1 _) (cc1 (s_1 _) (cc1 (s_1 ((⟨285,k,d,i,c⟩ : GCipher).Rounds : Int)) cc0)))))) (q_2 cq cq) λw a I H=>Ze ?_
 obtain rfl:=o_1 af
 have ai : Yb prog _ _ (.cell 2 62) _:=ZG H R Kq R I.ra0 cq R
 exact p_3 (ZV H R ai ⟨_,R,R,I.kept⟩)
def Q5 (b : (Vector (Vector UInt8 4) 4) × Int) : Option (Fl ((Vector (Vector UInt8 4) 4) × Int) (Vector (Vector UInt8 4) 4)) :=
 if decide (b.2 < 4) then ((ZZ b.1 b.2).bind λc=>(ZZ c b.2).bind λd=>some (Fl.nx ((b.1.setIfInBounds (b.2).toNat (c.setIfInBounds (b.2).toNat 1)),wr (b.2 + 1)))) else (some (Fl.ex b.1))
def Up : Option ((Vector (Vector UInt8 4) 4)) :=
 (ZQ (Q5) ((Vector.replicate 4 (Vector.replicate 4 (0 : UInt8))),0)).bind λb=>some b
theorem Az (h : World)  (r : xm) (J : Up  = some r) :
  Calls prog 314 [].toArray h (Rt h (Value.agg (enc r).toArray)):=by
 refine ce func314 ?_
 intro a H
 have I:=M.start h
 unfold Up at J
 refine Zb (Zw H I Jq λl w a I H=>Ze (Zb (XT (parts:=[]) (vs:=[]) (cs:=enc xe) H Za ld R R Jq R Tp Xj λa H=>Zw H I Jq λm w a I H=>Zk (seg:=enc xe) (cs':=enc xe) H I Za R R R Jq (u_1 _) (zle flq) (s_1 _) (Zh flq) λw a I H=>Ze (s_2 (Zb (Zd H R λa H=>Ze ?_))))))
 obtain ⟨o,q,t⟩:=p_1 J
 refine Z7 (λa w=>Env 13 a [(0,ptr l 0),(1,ptr m 0)] ∧ M (Old h) h w [raw m (enc o),raw l xE]) ?_ ?_
 ·refine p_2 ?_
  refine ZR (λ(f : xm × Int) a w=>Env 13 a [(0,ptr l 0),(1,ptr m 0),(4,vI f.2)] ∧ M (Old h) h w [raw m (enc f.1),raw l xE]) q ⟨H.s,I⟩ ?_
  rintro f a w ⟨H,I⟩ u b i
  unfold Q5 at b
  refine Zb (Zn H R R R λa H=>Ze (s_2 ?_))
  refine c_if H R b ?_ ?_
  ·intro j b
   refine u_2 (Zz (s_2 (p_2 (Zb (Zd H R λa H=>Zc H R λa H=>Ze (t_1 (Zd H R λa H=>Zd H R ?_))))))); intro a H
   obtain ⟨e,d,b⟩:=bvx b
   refine ZO H R R u_4 Tp d.1 ?_; intro a H
   obtain ⟨y,c,b⟩:=bvx b
   refine ZO H R R t_5 ty5 c.1 λa H=>Zk (seg:=[vB 1]) (cs':=enc (f.1.setIfInBounds (f.2).toNat (e.setIfInBounds (f.2).toNat 1))) H I Za R R R ty5 R (TC (o':=0 + (f.2).toNat * 1) d (Ya (v:=e) (x:=1) c.1) (by first | omega | (simp only [Flat.n] <;> omega))) (s_1 (1 : UInt8)) (Ul (o':=0 + (f.2).toNat * 1) d (Ya (v:=e) (x:=1) c.1) (ZP (v:=e) (x:=1) c.1) (by first | omega | (simp only [Flat.n] <;> omega))) λw a I H=>Zj (YA (Zz (t_1 (Zn H R R R λa H=>Zd H R λa H=>Zj (Zm ?_)))))
   exact ⟨_,ois b,H.s,I⟩
  intro j b
  refine o_4 (Zu (Zu (YQ ?_)))
  obtain rfl:=i _ (ois b)
  refine Zm ?_
  exact ⟨H.s,I⟩
 rintro a w ⟨H,I⟩
 refine Zz (Zb (Zq H R Jq R I.ra0 (u_1 _) ?_)); intro a H
 have I:=I.pl1
 refine Zk (seg:=enc o) (cs':=enc o) H I Za R R R Jq (u_1 _) (zle flq) (s_1 _) (Zh flq) λw a I H=>Ze ?_
 obtain rfl:=o_1 t
 have k : Yb prog _ _ (.cell 0 59) _:=ZG H R Jq R I.ra0 (u_1 _) R
 exact p_3 (ZV H R k ⟨_,R,R,I.kept⟩)
def Qi (c : (Vector (Vector UInt8 4) 4) × (Vector (Vector UInt8 4) 4) × Int × UInt8) (b : Int) : Option (Fl Int Int) :=
 (if decide (b < 4) then ((ZZ c.1 b).bind λd=>(ZZ d c.2.2.1).bind λe=>some (e == 0)) else (some false) : Option (Bool)).bind λf=>if f then (some (Fl.nx (wr (b + 1)))) else (some (Fl.ex b))
def WZ (n : Int) (c : (Vector (Vector UInt8 4) 4) × (Vector (Vector UInt8 4) 4) × Int × UInt8) (f : UInt8) (b : (Vector (Vector UInt8 4) 4) × (Vector (Vector UInt8 4) 4) × Int) : Option (Fl ((Vector (Vector UInt8 4) 4) × (Vector (Vector UInt8 4) 4) × Int) ((Vector (Vector UInt8 4) 4) × (Vector (Vector UInt8 4) 4))) :=
 if decide (b.2.2 < 4) then ((ZZ b.1 c.2.2.1).bind λh=>(ZZ h b.2.2).bind λi=>(YO n i f).bind λj=>(ZZ b.2.1 c.2.2.1).bind λk=>(ZZ k b.2.2).bind λl=>(YO n l f).bind λm=>(ZZ b.1 c.2.2.1).bind λd=>(ZZ d b.2.2).bind λo=>(ZZ b.2.1 c.2.2.1).bind λe=>(ZZ e b.2.2).bind λq=>some (Fl.nx ((b.1.setIfInBounds (c.2.2.1).toNat (d.setIfInBounds (b.2.2).toNat j)),b.2.1.setIfInBounds (c.2.2.1).toNat (e.setIfInBounds (b.2.2).toNat m),wr (b.2.2 + 1)))) else (some (Fl.ex (b.1,b.2.1)))
def WX (y : Int) (h : (Vector (Vector UInt8 4) 4) × (Vector (Vector UInt8 4) 4) × Int × UInt8) (c : (Vector (Vector UInt8 4) 4) × (Vector (Vector UInt8 4) 4) × Int) (d : UInt8) (b : (Vector (Vector UInt8 4) 4) × (Vector (Vector UInt8 4) 4) × Int) : Option (Fl ((Vector (Vector UInt8 4) 4) × (Vector (Vector UInt8 4) 4) × Int) ((Vector (Vector UInt8 4) 4) × (Vector (Vector UInt8 4) 4))) :=
 if decide (b.2.2 < 4) then (((ZZ b.1 c.2.2).bind λi=>(ZZ i b.2.2).bind λj=>(ZZ b.1 h.2.2.1).bind λk=>(ZZ k b.2.2).bind λl=>(YO y d l).bind λm=>(ZZ b.1 c.2.2).bind λe=>(ZZ e b.2.2).bind λz=>some (b.1.setIfInBounds (c.2.2).toNat (e.setIfInBounds (b.2.2).toNat (j ^^^ m))) : Option ((Vector (Vector UInt8 4) 4))).bind λn=>(ZZ b.2.1 c.2.2).bind λo=>(ZZ o b.2.2).bind λq=>(ZZ b.2.1 h.2.2.1).bind λt=>(ZZ t b.2.2).bind λu=>(YO y d u).bind λx=>(ZZ b.2.1 c.2.2).bind λf=>(ZZ f b.2.2).bind λA=>some (Fl.nx (n,b.2.1.setIfInBounds (c.2.2).toNat (f.setIfInBounds (b.2.2).toNat (q ^^^ x)),wr (b.2.2 + 1)))) else (some (Fl.ex (b.1,b.2.1)))
def WW (k : Int) (h : (Vector (Vector UInt8 4) 4) × (Vector (Vector UInt8 4) 4) × Int × UInt8) (b : (Vector (Vector UInt8 4) 4) × (Vector (Vector UInt8 4) 4) × Int) : Option (Fl ((Vector (Vector UInt8 4) 4) × (Vector (Vector UInt8 4) 4) × Int) ((Vector (Vector UInt8 4) 4) × (Vector (Vector UInt8 4) 4))) :=
 if decide (b.2.2 < 4) then (((ZZ b.1 b.2.2).bind λi=>(ZZ i h.2.2.1).bind λc=>(if b.2.2 != h.2.2.1 then (some (c != 0)) else (some false) : Option (Bool)).bind λj=>(if j then ((ZQ (WX k h b c) (b.1,b.2.1,0)).bind λd=>some (d.1,d.2)) else (some (b.1,b.2.1)) : Option ((Vector (Vector UInt8 4) 4) × (Vector (Vector UInt8 4) 4))).bind λe=>some (e.1,e.2) : Option ((Vector (Vector UInt8 4) 4) × (Vector (Vector UInt8 4) 4))).bind λf=>some (Fl.nx (f.1,f.2,wr (b.2.2 + 1)))) else (some (Fl.ex (b.1,b.2.1)))
def XC (j : Int) (b : (Vector (Vector UInt8 4) 4) × (Vector (Vector UInt8 4) 4) × Int × UInt8) : Option (Fl ((Vector (Vector UInt8 4) 4) × (Vector (Vector UInt8 4) 4) × Int × UInt8) (Fl ((Vector (Vector UInt8 4) 4) × UInt8) (UInt8 × (Vector (Vector UInt8 4) 4)))) :=
 if decide (b.2.2.1 < 4) then ((ZQ (Qi b) b.2.2.1).bind λc=>if c == 4 then (some (Fl.ex (Fl.ex (0,Vector.replicate 4 (Vector.replicate 4 (0 : UInt8)))))) else (((ZZ b.1 b.2.2.1).bind λf=>(ZZ b.1 c).bind λk=>(ZZ b.1 c).bind λy=>(ZZ (b.1.setIfInBounds (c).toNat f) b.2.2.1).bind λz=>some ((b.1.setIfInBounds (c).toNat f).setIfInBounds (b.2.2.1).toNat k) : Option ((Vector (Vector UInt8 4) 4))).bind λe=>((ZZ b.2.1 b.2.2.1).bind λh=>(ZZ b.2.1 c).bind λl=>(ZZ b.2.1 c).bind λA=>(ZZ (b.2.1.setIfInBounds (c).toNat h) b.2.2.1).bind λB=>some ((b.2.1.setIfInBounds (c).toNat h).setIfInBounds (b.2.2.1).toNat l) : Option ((Vector (Vector UInt8 4) 4))).bind λm=>(ZZ e b.2.2.1).bind λn=>(ZZ n b.2.2.1).bind λo=>(YO j b.2.2.2 o).bind λq=>(ZZ e b.2.2.1).bind λt=>(ZZ t b.2.2.1).bind λu=>(Y5 j u).bind λx=>(ZQ (WZ j b x) (e,m,0)).bind λi=>(ZQ (WW j b) (i.1,i.2,0)).bind λd=>some (Fl.nx (d.1,d.2,wr (b.2.2.1 + 1),q)))) else (some (Fl.ex (Fl.nx (b.2.1,b.2.2.2))))
def Wv (d : Int) (e : (Vector (Vector UInt8 4) 4)) : Option (UInt8 × (Vector (Vector UInt8 4) 4)) :=
 (Up).bind λf=>(ZQ (XC d) (e,f,0,1)).bind λh=>h.el (λc=>(some (c.1,c.2) : Option ((Vector (Vector UInt8 4) 4) × UInt8)).bind λb=>some (b.2,b.1)) (λr=>some r)
theorem BD (q : World) (p0 : Int) (p1 : xm) (r : UInt8 × xm) (J : Wv p0 p1 = some r) :
  Calls prog 265 [vI p0,Value.agg (enc p1).toArray].toArray q (Rt q (Value.tuple [vB r.1,Value.agg (enc r.2).toArray].toArray)):=by
 refine ce func265 ?_
 intro a H
 have I:=M.start q
 unfold Wv at J
 refine Zb (Z2 (cs:=enc p1) H I Za ld R R λB w a I H=>Zc H R λa H=>Zw H I Jq λt w a I H=>Ze (Zb ?_))
 obtain ⟨r5,e6,J⟩:=p_1 J
 refine c_k H I R (cbm func314) (Az _  r5 e6) ?_; intro w a I H
 refine Zw H I Jq λA w a I H=>Zk (seg:=enc r5) (cs':=enc r5) H I Za R R R Jq (u_1 _) (zle flq) (s_1 _) (Zh flq) λw a I H=>Zc H R λa H=>Ze (s_2 (Zb (Zd H R λa H=>Ze ?_)))
 obtain ⟨j9,c2,ay⟩:=p_1 J
 refine Z7 (λa w=>∃ a2 : xm × UInt8,j9 = Fl.nx a2 ∧ Env 153 a [(5,ptr t 0),(6,ptr A 0),(7,vB a2.2)] ∧ M (Old q) q w [raw A (enc a2.1),raw t xE]) ?_ ?_
 ·refine p_2 ?_
  refine ZR (λ(b : xm × xm × Int × UInt8) a w=>Env 153 a [(0,vI p0),(3,ptr B 0),(5,ptr t 0),(6,ptr A 0),(7,vB b.2.2.2),(16,vI b.2.2.1)] ∧ M (Old q) q w [raw A (enc b.2.1),raw t xE,raw B (enc b.1)]) c2 ⟨H.s,I⟩ ?_
  rintro b a w ⟨H,I⟩ ef ah bu
  unfold XC at ah
  refine Zb (Zn H R R R λa H=>Ze (s_2 ?_))
  refine c_if H R ah ?_ ?_
  ·intro c3 ah
   refine u_2 (Zz (s_2 (p_2 (Zb (Zd H R λa H=>Zc H R λa H=>Ze (Zb (Zd H R λa H=>Zc H R λa H=>Ze ?_)))))))
   obtain ⟨aa,c4,ao⟩:=p_1 ah
   refine ZJ (λa w=>Env 153 a [(0,vI p0),(3,ptr B 0),(5,ptr t 0),(6,ptr A 0),(7,vB b.2.2.2),(8,vI b.2.2.1),(9,vI aa),(16,vI b.2.2.1)] ∧ M (Old q) q w [raw A (enc b.2.1),raw t xE,raw B (enc b.1)]) ?_ ?_
   ·refine p_2 ?_
    refine ZR (λ(bs : Int) a w=>Env 153 a [(0,vI p0),(3,ptr B 0),(5,ptr t 0),(6,ptr A 0),(7,vB b.2.2.2),(8,vI b.2.2.1),(9,vI bs),(16,vI b.2.2.1)] ∧ M (Old q) q w [raw A (enc b.2.1),raw t xE,raw B (enc b.1)]) c4 ⟨H.s,I⟩ ?_
    rintro bs a w ⟨H,I⟩ eg bv c5
    unfold Qi at bv
    refine s_2 ?_
    obtain ⟨dt,G,ap⟩:=p_1 bv
    refine ZJ (λa w=>Env 153 a [(0,vI p0),(3,ptr B 0),(5,ptr t 0),(6,ptr A 0),(7,vB b.2.2.2),(8,vI b.2.2.1),(9,vI bs),(16,vI b.2.2.1),(29,vT dt)] ∧ M (Old q) q w [raw A (enc b.2.1),raw t xE,raw B (enc b.1)]) ?_ ?_
    ·refine t_1 (Zd H R λa H=>Zn H R R R λa H=>Zd H R ?_); intro a H
     refine Ys (decide (bs < 4)) (λi=>?_) (λi=>?_)
     ·have G:=Zt G i
      refine Zo H (Zi H R (lkb R i)) (by decide) R λa H=>Zo H (Zi H R (lkb R i)) (by decide) R ?_; intro a H
      obtain ⟨eh,bw,G⟩:=bvx G
      refine ZW H (Zi H R (lkb R i)) (by decide) R R u_4 Tp bw.1 ?_; intro a H
      obtain ⟨c6,bx,G⟩:=bvx G
      refine ZW H (Zi H R (lkb R i)) (by decide) R R t_5 ty5 bx.1 λa H=>Zy (v:=(vB c6)) H (Zi H R (lkb R i)) (by decide) R ty5 R (At.vec (At.vec I.ra2 bw.2) bx.2) λa H=>Z8 H (Zi H R (lkb R i)) (by decide) R R (Zgy c6 0) λa H=>ZU H (lkb R i) R λa H=>Zj ?_
      obtain rfl:=o_1 G
      refine Zm ?_
      exact ⟨H.s,I⟩
     have G:=Zs G i
     refine k_s H i R R R λa H=>k_s H i R R R λa H=>k_s H i R R R λa H=>k_s H i R R R λa H=>k_s H i R R R λa H=>k_s H i R R R λa H=>Ye H (lkb R i) R λa H=>Zj ?_
     obtain rfl:=o_1 G
     refine Zm ?_
     exact ⟨H.s,I⟩
    rintro a w ⟨H,I⟩
    refine c_if H R ap ?_ ?_
    ·intro c7 ap
     refine u_2 (Zz (p_2 (t_1 (Zd H R λa H=>Zn H R R R λa H=>Zc H R λa H=>Zj (YA (Zm ?_))))))
     exact ⟨_,ois ap,H.s,I⟩
    intro c7 ap
    refine o_4 (Zu (Zu (YQ ?_)))
    obtain rfl:=c5 _ (ois ap)
    refine Zm ?_
    exact ⟨H.s,I⟩
   rintro a w ⟨H,I⟩
   refine s_2 (Zb (Zd H R λa H=>Zn H R R R λa H=>Ze ?_))
   refine c_if H R ao ?_ ?_
   ·intro c8 ao
    refine Zb (XT (parts:=[]) (vs:=[]) (cs:=enc xe) H Za ld R R Jq R Tp Xj λa H=>Zc H R ?_); intro a H
    have I:=I.pl1
    refine Zk (seg:=enc xe) (cs':=enc xe) H I Za R R R Jq (u_1 _) (zle flq) (s_1 _) (Zh flq) λw a I H=>Ze ?_
    obtain rfl:=bu _ (ois ao)
    obtain rfl:=o_1 ay
    have c9 : Yb prog _ _ (.cell 5 59) _:=ZG H R Jq R I.ra0 (u_1 _) R
    exact p_3 (ZI (Xl (ZI (ZI (Xl (ZI (ZI (Xf H R (ZD H R) c9 ⟨_,R,R,I.kept⟩))))))))
   intro c8 ao
   refine u_2 (Zz ?_)
   obtain ⟨cj,K,da⟩:=p_1 ao
   refine ZJ (λa w=>Env 153 a [(0,vI p0),(3,ptr B 0),(5,ptr t 0),(6,ptr A 0),(7,vB b.2.2.2),(8,vI b.2.2.1),(9,vI aa),(16,vI b.2.2.1)] ∧ M (Old q) q w [raw A (enc b.2.1),raw t xE,raw B (enc cj)]) ?_ ?_
   ·have I:=I.pl2
    obtain ⟨ai,bz,K⟩:=bvx K
    obtain ⟨a3,b0,K⟩:=bvx K
    obtain ⟨ei,a4,K⟩:=bvx K
    refine Yl (its:=[raw A (enc b.2.1),raw t xE]) (mk:=([mkT 9 (raw B (enc b.1)) (raw B (enc (b.1.setIfInBounds (aa).toNat ai)))] : Mk)) [35,36,37,38,39,40,41,42,43,162] Yt R R (by decide) R H (λu=>M.qT (M.q0 I.drew u)) (q_m (λ_=>R) (q_m (λ_=>R) (q_m (λ_=>R) (qsP (λz=>ZW z.E Za ld R R u_4 Tp bz.1 (kr0 R)) (qsP (v:=(Value.agg (enc ai).toArray)) ?_ (q_m (λ_=>R) (qsP (λz=>ZW z.E Za ld R R u_4 Tp b0.1 (kr0 R)) (qsP (v:=(Value.agg (enc a3).toArray)) ?_ (qsP (λz=>ZW z.E Za ld R R u_4 Tp a4.1 (kr0 R)) (qsM (pr:=λv=>True) ?_ qs0)))))))))) ?_
    ·intro a w a5 D z
     have H:=z.E
     have hD : D 4 = false:=z.F
     have I:=z.M.togA (pre:=[_,_]) (WH (j:=9) (k:=1) z.c R R R hD)
     exact Zq H R Tp R (At.vec I.ra2 bz.2) (u_1 _) λa H=>⟨o_5 _ _,_,R,H⟩
    ·intro a w a5 D z
     have H:=z.E
     have hD : D 7 = false:=z.F
     have I:=z.M.togA (pre:=[_,_]) (WH (j:=9) (k:=9) z.c R R R hD)
     exact Zq H R Tp R (At.vec I.ra2 b0.2) (u_1 _) λa H=>⟨o_5 _ _,_,R,H⟩
    ·intro a w a5 D z
     have H:=z.E
     have hD : D 9 = false:=z.F
     have I:=(z.M.togA (pre:=[_,_]) hD).pl2
     exact Zk (seg:=enc ai) (cs':=enc (b.1.setIfInBounds (aa).toNat ai)) H I Za R R R Tp (u_1 _) (Ya (v:=b.1) (x:=ai) a4.1) (s_1 _) (ZP (v:=b.1) (x:=ai) a4.1) λw a I H=>⟨undef,_,R,Env.dummy H (by decide),M.qTog (mk1:=[]) (mk2:=[]) I R,trivial⟩
    intro a w a5 D H I hG aq
    have d9:=aq 9 (by decide)
    have I:=I.togB (pre:=[_,_]) d9
    obtain ⟨ej,a6,K⟩:=bvx K
    refine ZO H R R u_4 Tp a6.1 ?_; intro a H
    have I:=I.pl2
    refine Zk (seg:=enc a3) (cs':=enc ((b.1.setIfInBounds (aa).toNat ai).setIfInBounds (b.2.2.1).toNat a3)) H I Za R R R Tp (u_1 _) (Ya (v:=(b.1.setIfInBounds (aa).toNat ai)) (x:=a3) a6.1) (s_1 _) (ZP (v:=(b.1.setIfInBounds (aa).toNat ai)) (x:=a3) a6.1) λw a I H=>Zj ?_
    obtain rfl:=o_1 K
    refine Zm ?_
    have I:=I.pl2.pl2
    exact ⟨H.s,I⟩
   rintro a w ⟨H,I⟩
   obtain ⟨dv,L,o⟩:=p_1 da
   refine ZJ (λa w=>Env 153 a [(0,vI p0),(3,ptr B 0),(5,ptr t 0),(6,ptr A 0),(7,vB b.2.2.2),(8,vI b.2.2.1),(16,vI b.2.2.1)] ∧ M (Old q) q w [raw A (enc dv),raw t xE,raw B (enc cj)]) ?_ ?_
   ·obtain ⟨aj,b2,L⟩:=bvx L
    obtain ⟨a7,b4,L⟩:=bvx L
    obtain ⟨ek,a8,L⟩:=bvx L
    refine Yl (its:=[raw t xE,raw B (enc cj)]) (mk:=([mkT 9 (raw A (enc b.2.1)) (raw A (enc (b.2.1.setIfInBounds (aa).toNat aj)))] : Mk)) [45,46,47,48,49,50,51,52,53,162] Yt R R (by decide) R H (λu=>M.qT (M.q0 I.drew u)) (q_m (λ_=>R) (q_m (λ_=>R) (q_m (λ_=>R) (qsP (λz=>ZW z.E Za ld R R u_4 Tp b2.1 (kr0 R)) (qsP (v:=(Value.agg (enc aj).toArray)) ?_ (q_m (λ_=>R) (qsP (λz=>ZW z.E Za ld R R u_4 Tp b4.1 (kr0 R)) (qsP (v:=(Value.agg (enc a7).toArray)) ?_ (qsP (λz=>ZW z.E Za ld R R u_4 Tp a8.1 (kr0 R)) (qsM (pr:=λv=>True) ?_ qs0)))))))))) ?_
    ·intro a w a9 D z
     have H:=z.E
     have hD : D 4 = false:=z.F
     have I:=z.M.togA (pre:=[_,_]) (WH (j:=9) (k:=1) z.c R R R hD)
     exact Zq H R Tp R (At.vec I.ra2 b2.2) (u_1 _) λa H=>⟨o_5 _ _,_,R,H⟩
    ·intro a w a9 D z
     have H:=z.E
     have hD : D 7 = false:=z.F
     have I:=z.M.togA (pre:=[_,_]) (WH (j:=9) (k:=9) z.c R R R hD)
     exact Zq H R Tp R (At.vec I.ra2 b4.2) (u_1 _) λa H=>⟨o_5 _ _,_,R,H⟩
    ·intro a w a9 D z
     have H:=z.E
     have hD : D 9 = false:=z.F
     have I:=(z.M.togA (pre:=[_,_]) hD).pl2
     exact Zk (seg:=enc aj) (cs':=enc (b.2.1.setIfInBounds (aa).toNat aj)) H I Za R R R Tp (u_1 _) (Ya (v:=b.2.1) (x:=aj) a8.1) (s_1 _) (ZP (v:=b.2.1) (x:=aj) a8.1) λw a I H=>⟨undef,_,R,Env.dummy H (by decide),M.qTog (mk1:=[]) (mk2:=[]) I R,trivial⟩
    intro a w a9 D H I hG aq
    have d9:=aq 9 (by decide)
    have I:=I.togB (pre:=[_,_]) d9
    obtain ⟨em,ba,L⟩:=bvx L
    refine ZO H R R u_4 Tp ba.1 ?_; intro a H
    have I:=I.pl2
    refine Zk (seg:=enc a7) (cs':=enc ((b.2.1.setIfInBounds (aa).toNat aj).setIfInBounds (b.2.2.1).toNat a7)) H I Za R R R Tp (u_1 _) (Ya (v:=(b.2.1.setIfInBounds (aa).toNat aj)) (x:=a7) ba.1) (s_1 _) (ZP (v:=(b.2.1.setIfInBounds (aa).toNat aj)) (x:=a7) ba.1) λw a I H=>Zj ?_
    obtain rfl:=o_1 L
    refine Zm ?_
    exact ⟨H.s,I⟩
   rintro a w ⟨H,I⟩
   refine Zb (Zd H R λa H=>Zd H R λa H=>Zd H R λa H=>Zd H R ?_); intro a H
   obtain ⟨en,b5,o⟩:=bvx o
   refine ZO H R R u_4 Tp b5.1 ?_; intro a H
   obtain ⟨db,b6,o⟩:=bvx o
   refine ZO H R R t_5 ty5 b6.1 λa H=>ZB (v:=(vB db)) H R ty5 R (At.vec (At.vec I.ra2 b5.2) b6.2) ?_; intro a H
   obtain ⟨ac,dw,o⟩:=p_1 o
   refine c_k H I R zP (Xy _ p0 b.2.2.2 db ac dw) ?_; intro w a I H
   refine Zc H R λa H=>Ze (Zb (Zd H R λa H=>Zd H R λa H=>Zd H R ?_)); intro a H
   obtain ⟨eo,b8,o⟩:=bvx o
   refine ZO H R R u_4 Tp b8.1 ?_; intro a H
   obtain ⟨dc,b9,o⟩:=bvx o
   refine ZO H R R t_5 ty5 b9.1 λa H=>ZB (v:=(vB dc)) H R ty5 R (At.vec (At.vec I.ra2 b8.2) b9.2) ?_; intro a H
   obtain ⟨bt,dx,o⟩:=p_1 o
   refine c_k H I R Zhs (Ql _ p0 dc bt dx) ?_; intro w a I H
   refine Zc H R λa H=>Ze (s_2 (Zb (Zd H R λa H=>Ze ?_)))
   obtain ⟨dd,de,dg⟩:=p_1 o
   refine Z7 (λa w=>Env 153 a [(0,vI p0),(3,ptr B 0),(5,ptr t 0),(6,ptr A 0),(7,vB ac),(8,vI b.2.2.1),(16,vI b.2.2.1)] ∧ M (Old q) q w [raw A (enc dd.2),raw t xE,raw B (enc dd.1)]) ?_ ?_
   ·refine p_2 ?_
    refine ZR (λ(C : xm × xm × Int) a w=>Env 153 a [(0,vI p0),(3,ptr B 0),(5,ptr t 0),(6,ptr A 0),(7,vB ac),(8,vI b.2.2.1),(10,vB bt),(16,vI b.2.2.1),(70,vI C.2.2)] ∧ M (Old q) q w [raw A (enc C.2.1),raw t xE,raw B (enc C.1)]) de ⟨H.s,I⟩ ?_
    rintro C a w ⟨H,I⟩ ep d dh
    unfold WZ at d
    refine Zb (Zn H R R R λa H=>Ze (s_2 ?_))
    refine c_if H R d ?_ ?_
    ·intro di d
     refine u_2 (Zz (s_2 (p_2 (Zb (Zd H R λa H=>Zc H R λa H=>Ze ?_)))))
     have I:=I.pl2
     obtain ⟨dz,bb,d⟩:=bvx d
     obtain ⟨bc,bd,d⟩:=bvx d
     obtain ⟨Z,dj,d⟩:=p_1 d
     obtain ⟨d0,be,d⟩:=bvx d
     obtain ⟨ca,bg,d⟩:=bvx d
     obtain ⟨ad,dk,d⟩:=p_1 d
     obtain ⟨ar,au,d⟩:=bvx d
     obtain ⟨d1,ak,d⟩:=bvx d
     obtain ⟨az,av,d⟩:=bvx d
     refine Yl (its:=[raw A (enc C.2.1),raw t xE]) (mk:=([mkT 22 (raw B (enc C.1)) (raw B (enc (C.1.setIfInBounds (b.2.2.1).toNat (ar.setIfInBounds (C.2.2).toNat Z))))] : Mk)) [73,74,75,76,77,78,79,80,81,82,83,84,85,86,87,88,89,90,91,92,93,94,175,95] Yt R R (by decide) R H (λu=>M.qT (M.q0 I.drew u)) (q_m (λ_=>R) (q_m (λ_=>R) (q_m (λ_=>R) (q_m (λ_=>R) (q_m (λ_=>R) (q_m (λ_=>R) (q_m (λ_=>R) (qsP (λz=>ZW z.E Za ld R R u_4 Tp bb.1 (kr0 R)) (qsP (λz=>ZW z.E Za ld R R t_5 ty5 bd.1 (kr0 R)) (qsP (v:=(vB bc)) ?_ (q_m (λ_=>R) (qsP (λz=>Yd z.E Za ld R zP (Xy _ p0 bc bt Z dj) (kc R)) (q_m (λ_=>R) (q_m (λ_=>R) (q_m (λ_=>R) (qsP (λz=>ZW z.E Za ld R R u_4 Tp be.1 (kr0 R)) (qsP (λz=>ZW z.E Za ld R R t_5 ty5 bg.1 (kr0 R)) (qsP (λz=>Zy (v:=(vB ca)) z.E Za ld R ty5 R (At.vec (At.vec (z.M.ra0) be.2) bg.2) (kr0 R)) (q_m (λ_=>R) (qsP (λz=>Yd z.E Za ld R zP (Xy _ p0 ca bt ad dk) (kc R)) (qsP (λz=>ZW z.E Za ld R R u_4 Tp au.1 (kr0 R)) (qsP (λz=>ZW z.E Za ld R R t_5 ty5 ak.1 (kr0 R)) (qsM (pr:=λv=>True) ?_ (qsP (λz=>ZW z.E Za ld R R u_4 Tp av.1 (kr0 R)) qs0)))))))))))))))))))))))) ?_
     ·intro a w bh D z
      have H:=z.E
      have hD : D 9 = false:=z.F
      have I:=z.M.togA (pre:=[_,_]) (WH (j:=22) (k:=12) z.c R R R hD)
      exact ZB (v:=(vB bc)) H R ty5 R (At.vec (At.vec I.ra2 bb.2) bd.2) λa H=>⟨o_5 _ _,_,R,H⟩
     ·intro a w bh D z
      have H:=z.E
      have hD : D 22 = false:=z.F
      have I:=(z.M.togA (pre:=[_,_]) hD).pl2
      exact Zk (seg:=[vB Z]) (cs':=enc (C.1.setIfInBounds (b.2.2.1).toNat (ar.setIfInBounds (C.2.2).toNat Z))) H I Za R R R ty5 R (TC (o':=0 + (C.2.2).toNat * 1) au (Ya (v:=ar) (x:=Z) ak.1) (by first | omega | (simp only [Flat.n] <;> omega))) (s_1 (Z : UInt8)) (Ul (o':=0 + (C.2.2).toNat * 1) au (Ya (v:=ar) (x:=Z) ak.1) (ZP (v:=ar) (x:=Z) ak.1) (by first | omega | (simp only [Flat.n] <;> omega))) λw a I H=>⟨undef,_,R,Env.dummy H (by decide),M.qTog (mk1:=[]) (mk2:=[]) I R,trivial⟩
     intro a w bh D H I hG aq
     have dy:=aq 22 (by decide)
     have I:=I.togB (pre:=[_,_]) dy
     obtain ⟨d2,al,d⟩:=bvx d
     refine ZO H R R t_5 ty5 al.1 λa H=>Zk (seg:=[vB ad]) (cs':=enc (C.2.1.setIfInBounds (b.2.2.1).toNat (az.setIfInBounds (C.2.2).toNat ad))) H I Za R R R ty5 R (TC (o':=0 + (C.2.2).toNat * 1) av (Ya (v:=az) (x:=ad) al.1) (by first | omega | (simp only [Flat.n] <;> omega))) (s_1 (ad : UInt8)) (Ul (o':=0 + (C.2.2).toNat * 1) av (Ya (v:=az) (x:=ad) al.1) (ZP (v:=az) (x:=ad) al.1) (by first | omega | (simp only [Flat.n] <;> omega))) λw a I H=>Zj (YA (Zz (t_1 (Zn H R R R λa H=>Zd H R λa H=>Zj (Zm ?_)))))
     exact ⟨_,ois d,H.s,I⟩
    intro di d
    refine o_4 (Zu (Zu (YQ ?_)))
    obtain rfl:=dh _ (ois d)
    refine Zm ?_
    exact ⟨H.s,I⟩
   rintro a w ⟨H,I⟩
   refine Zz (Zb (Zd H R λa H=>Ze ?_))
   obtain ⟨cb,cl,cm⟩:=p_1 dg
   refine Z7 (λa w=>Env 153 a [(0,vI p0),(3,ptr B 0),(5,ptr t 0),(6,ptr A 0),(7,vB ac),(16,vI b.2.2.1)] ∧ M (Old q) q w [raw A (enc cb.2),raw t xE,raw B (enc cb.1)]) ?_ ?_
   ·refine p_2 ?_
    refine ZR (λ(h : xm × xm × Int) a w=>Env 153 a [(0,vI p0),(3,ptr B 0),(5,ptr t 0),(6,ptr A 0),(7,vB ac),(8,vI b.2.2.1),(16,vI b.2.2.1),(98,vI h.2.2)] ∧ M (Old q) q w [raw A (enc h.2.1),raw t xE,raw B (enc h.1)]) cl ⟨H.s,I⟩ ?_
    rintro h a w ⟨H,I⟩ d3 W cn
    unfold WW at W
    refine Zb (Zn H R R R λa H=>Ze (s_2 ?_))
    refine c_if H R W ?_ ?_
    ·intro co W
     refine u_2 (Zz ?_)
     obtain ⟨cc,ae,cp⟩:=p_1 W
     refine ZJ (λa w=>Env 153 a [(0,vI p0),(3,ptr B 0),(5,ptr t 0),(6,ptr A 0),(7,vB ac),(8,vI b.2.2.1),(16,vI b.2.2.1),(98,vI h.2.2)] ∧ M (Old q) q w [raw A (enc cc.2),raw t xE,raw B (enc cc.1)]) ?_ ?_
     ·refine p_2 (Zb (Zd H R λa H=>Zc H R λa H=>Ze (Zb (Zd H R λa H=>Zd H R ?_)))); intro a H
      obtain ⟨d4,bi,ae⟩:=bvx ae
      refine ZO H R R u_4 Tp bi.1 ?_; intro a H
      obtain ⟨af,bj,ae⟩:=bvx ae
      refine ZO H R R t_5 ty5 bj.1 λa H=>ZB (v:=(vB af)) H R ty5 R (At.vec (At.vec I.ra2 bi.2) bj.2) λa H=>Zc H R λa H=>Ze ?_
      obtain ⟨dl,X,cr⟩:=p_1 ae
      refine ZJ (λa w=>Env 153 a [(0,vI p0),(3,ptr B 0),(5,ptr t 0),(6,ptr A 0),(7,vB ac),(8,vI b.2.2.1),(12,vI h.2.2),(13,vB af),(16,vI b.2.2.1),(98,vI h.2.2),(112,vT dl)] ∧ M (Old q) q w [raw A (enc h.2.1),raw t xE,raw B (enc h.1)]) ?_ ?_
      ·refine t_1 (Zd H R λa H=>Zd H R λa H=>Zn H R R R λa H=>Zd H R ?_); intro a H
       refine Ys (h.2.2 != b.2.2.1) (λy=>?_) (λy=>?_)
       ·have X:=Zt X y
        refine Zo H (Zi H R (lkb R y)) (by decide) R λa H=>Z8 H (Zi H R (lkb R y)) (by decide) R R (Zhi af 0) λa H=>ZU H (lkb R y) R λa H=>Zj ?_
        obtain rfl:=o_1 X
        refine Zm ?_
        exact ⟨H.s,I⟩
       have X:=Zs X y
       refine k_s H y R R R λa H=>k_s H y R R R λa H=>Ye H (lkb R y) R λa H=>Zj ?_
       obtain rfl:=o_1 X
       refine Zm ?_
       exact ⟨H.s,I⟩
      rintro a w ⟨H,I⟩
      obtain ⟨cd,ag,ct⟩:=p_1 cr
      refine Z7 (λa w=>Env 153 a [(0,vI p0),(3,ptr B 0),(5,ptr t 0),(6,ptr A 0),(7,vB ac),(8,vI b.2.2.1),(16,vI b.2.2.1),(98,vI h.2.2)] ∧ M (Old q) q w [raw A (enc cd.2),raw t xE,raw B (enc cd.1)]) ?_ ?_
      ·refine c_if H R ag ?_ ?_
       ·intro cu ag
        refine Zb (Zd H R λa H=>Ze ?_)
        obtain ⟨cf,cv,cw⟩:=p_1 ag
        refine Z7 (λa w=>Env 153 a [(0,vI p0),(3,ptr B 0),(5,ptr t 0),(6,ptr A 0),(7,vB ac),(8,vI b.2.2.1),(16,vI b.2.2.1),(98,vI h.2.2)] ∧ M (Old q) q w [raw A (enc cf.2),raw t xE,raw B (enc cf.1)]) ?_ ?_
        ·refine p_2 ?_
         refine ZR (λ(m : xm × xm × Int) a w=>Env 153 a [(0,vI p0),(3,ptr B 0),(5,ptr t 0),(6,ptr A 0),(7,vB ac),(8,vI b.2.2.1),(12,vI h.2.2),(13,vB af),(16,vI b.2.2.1),(98,vI h.2.2),(113,vI m.2.2)] ∧ M (Old q) q w [raw A (enc m.2.1),raw t xE,raw B (enc m.1)]) cv ⟨H.s,I⟩ ?_
         rintro m a w ⟨H,I⟩ d5 Y cx
         unfold WX at Y
         refine Zb (Zn H R R R λa H=>Ze (s_2 ?_))
         refine c_if H R Y ?_ ?_
         ·intro cy Y
          refine u_2 (Zz (s_2 (p_2 (Zb (Zd H R λa H=>Zc H R λa H=>Ze ?_)))))
          obtain ⟨dm,e,f⟩:=p_1 Y
          refine ZJ (λa w=>Env 153 a [(0,vI p0),(3,ptr B 0),(5,ptr t 0),(6,ptr A 0),(7,vB ac),(8,vI b.2.2.1),(12,vI h.2.2),(13,vB af),(14,vI m.2.2),(16,vI b.2.2.1),(98,vI h.2.2),(113,vI m.2.2)] ∧ M (Old q) q w [raw A (enc m.2.1),raw t xE,raw B (enc dm)]) ?_ ?_
          ·obtain ⟨d6,bk,e⟩:=bvx e
           obtain ⟨N,bl,e⟩:=bvx e
           obtain ⟨d7,bm,e⟩:=bvx e
           obtain ⟨cg,bn,e⟩:=bvx e
           obtain ⟨O,dp,e⟩:=p_1 e
           obtain ⟨a0,aw,e⟩:=bvx e
           obtain ⟨d8,am,e⟩:=bvx e
           refine Z9 [116,117,118,119,120,121,122,123,124,125,126,127,128,129,130,131] Yt R R (by decide) R H I (q_m (λ_=>R) (q_m (λ_=>R) (qsP (λz=>ZW z.E Za ld R R u_4 Tp bk.1 (kr0 R)) (qsP (λz=>ZW z.E Za ld R R t_5 ty5 bl.1 (kr0 R)) (qsP (λz=>Zy (v:=(vB N)) z.E Za ld R ty5 R (At.vec (At.vec (z.M.ra2) bk.2) bl.2) (kr0 R)) (q_m (λ_=>R) (q_m (λ_=>R) (q_m (λ_=>R) (q_m (λ_=>R) (qsP (λz=>ZW z.E Za ld R R u_4 Tp bm.1 (kr0 R)) (qsP (λz=>ZW z.E Za ld R R t_5 ty5 bn.1 (kr0 R)) (qsP (λz=>Zy (v:=(vB cg)) z.E Za ld R ty5 R (At.vec (At.vec (z.M.ra2) bm.2) bn.2) (kr0 R)) (qsP (λz=>Yd z.E Za ld R zP (Xy _ p0 af cg O dp) (kc R)) (qsP (v:=(vB (N ^^^ O))) (λz=>Z8 z.E Za ld R R (Vs N O) (kr0 R)) (qsP (λz=>ZW z.E Za ld R R u_4 Tp aw.1 (kr0 R)) (qsP (λz=>ZW z.E Za ld R R t_5 ty5 am.1 (kr0 R)) qs0)))))))))))))))) ?_
           ·intro a w u H I
            have I:=I.pl2
            refine Zk (seg:=[vB (N ^^^ O)]) (cs':=enc (m.1.setIfInBounds (h.2.2).toNat (a0.setIfInBounds (m.2.2).toNat (N ^^^ O)))) H I Za R R R ty5 R (TC (o':=0 + (m.2.2).toNat * 1) aw (Ya (v:=a0) (x:=N ^^^ O) am.1) (by first | omega | (simp only [Flat.n] <;> omega))) (s_1 (N ^^^ O : UInt8)) (Ul (o':=0 + (m.2.2).toNat * 1) aw (Ya (v:=a0) (x:=N ^^^ O) am.1) (ZP (v:=a0) (x:=N ^^^ O) am.1) (by first | omega | (simp only [Flat.n] <;> omega))) λw a I H=>Zj ?_
            obtain rfl:=o_1 e
            refine Zm ?_
            have I:=I.pl2.pl2
            exact ⟨H.s,I⟩
          rintro a w ⟨H,I⟩
          obtain ⟨ea,bo,f⟩:=bvx f
          obtain ⟨T,bp,f⟩:=bvx f
          obtain ⟨eb,bq,f⟩:=bvx f
          obtain ⟨ch,br,f⟩:=bvx f
          obtain ⟨U,dq,f⟩:=p_1 f
          obtain ⟨a1,ax,f⟩:=bvx f
          obtain ⟨ec,an,f⟩:=bvx f
          refine Z9 [132,133,134,135,136,137,138,139,140,141,142,143,144,145,146,147] Yt R R (by decide) R H I (q_m (λ_=>R) (q_m (λ_=>R) (qsP (λz=>ZW z.E Za ld R R u_4 Tp bo.1 (kr0 R)) (qsP (λz=>ZW z.E Za ld R R t_5 ty5 bp.1 (kr0 R)) (qsP (λz=>Zy (v:=(vB T)) z.E Za ld R ty5 R (At.vec (At.vec (z.M.ra0) bo.2) bp.2) (kr0 R)) (q_m (λ_=>R) (q_m (λ_=>R) (q_m (λ_=>R) (q_m (λ_=>R) (qsP (λz=>ZW z.E Za ld R R u_4 Tp bq.1 (kr0 R)) (qsP (λz=>ZW z.E Za ld R R t_5 ty5 br.1 (kr0 R)) (qsP (λz=>Zy (v:=(vB ch)) z.E Za ld R ty5 R (At.vec (At.vec (z.M.ra0) bq.2) br.2) (kr0 R)) (qsP (λz=>Yd z.E Za ld R zP (Xy _ p0 af ch U dq) (kc R)) (qsP (v:=(vB (T ^^^ U))) (λz=>Z8 z.E Za ld R R (Vs T U) (kr0 R)) (qsP (λz=>ZW z.E Za ld R R u_4 Tp ax.1 (kr0 R)) (qsP (λz=>ZW z.E Za ld R R t_5 ty5 an.1 (kr0 R)) qs0)))))))))))))))) ?_
          ·intro a w u H I
           refine Zk (seg:=[vB (T ^^^ U)]) (cs':=enc (m.2.1.setIfInBounds (h.2.2).toNat (a1.setIfInBounds (m.2.2).toNat (T ^^^ U)))) H I Za R R R ty5 R (TC (o':=0 + (m.2.2).toNat * 1) ax (Ya (v:=a1) (x:=T ^^^ U) an.1) (by first | omega | (simp only [Flat.n] <;> omega))) (s_1 (T ^^^ U : UInt8)) (Ul (o':=0 + (m.2.2).toNat * 1) ax (Ya (v:=a1) (x:=T ^^^ U) an.1) (ZP (v:=a1) (x:=T ^^^ U) an.1) (by first | omega | (simp only [Flat.n] <;> omega))) λw a I H=>Zj (YA (Zz (t_1 (Zn H R R R λa H=>Zd H R λa H=>Zj (Zm ?_)))))
           exact ⟨_,ois f,H.s,I⟩
         intro cy Y
         refine o_4 (Zu (Zu (YQ ?_)))
         obtain rfl:=cx _ (ois Y)
         refine Zm ?_
         exact ⟨H.s,I⟩
        rintro a w ⟨H,I⟩
        obtain rfl:=o_1 cw
        refine Zm ?_
        exact ⟨H.s,I⟩
       intro cu ag
       refine u_2 ?_
       obtain rfl:=o_1 ag
       refine Zm ?_
       exact ⟨H.s,I⟩
      rintro a w ⟨H,I⟩
      refine YA ?_
      obtain rfl:=o_1 ct
      refine Zm ?_
      exact ⟨H.s,I⟩
     rintro a w ⟨H,I⟩
     refine t_1 (Zn H R R R λa H=>Zd H R λa H=>Zj (Zm ?_))
     exact ⟨_,ois cp,H.s,I⟩
    intro co W
    refine o_4 (Zu (Zu (YQ ?_)))
    obtain rfl:=cn _ (ois W)
    refine Zm ?_
    exact ⟨H.s,I⟩
   rintro a w ⟨H,I⟩
   refine YA (Zz (t_1 (Zn H R R R λa H=>Zd H R λa H=>Zj (Zm ?_))))
   exact ⟨_,ois cm,H.s,I⟩
  intro c3 ah
  refine o_4 (Zu (Zu (YQ ?_)))
  obtain rfl:=bu _ (ois ah)
  refine Zm ?_
  have I:=M.fst (l:=[_,_]) I.pl1.pl1
  exact ⟨(b.2.1,b.2.2.2),R,H.s,I⟩
 rintro a w ⟨a2,ht,H,I⟩
 subst ht
 have ay:=Kv ay
 refine Zz ?_
 obtain ⟨ci,cz,c0⟩:=p_1 ay
 refine ZJ (λa w=>Env 153 a [(4,vB ci.2),(5,ptr t 0)] ∧ M (Old q) q w [raw t (enc ci.1)]) ?_ ?_
 ·refine Z9 [151,152,4] Yt R R (by decide) R H I (q_m (λ_=>R) (qsP (λz=>Zx z.E Za ld R Jq R (z.M.ra0) (u_1 _) (kr0 R)) (qsP (λz=>T9 z.E Za ld R (kr0 R)) qs0))) ?_
  ·intro a w u H I
   have I:=I.pl1
   refine Zk (seg:=enc a2.1) (cs':=enc a2.1) H I Za R R R Jq (u_1 _) (zle flq) (s_1 _) (Zh flq) λw a I H=>Zj ?_
   obtain rfl:=o_1 cz
   refine Zm ?_
   have I:=M.fst (l:=[_]) I
   exact ⟨H.s,I⟩
 rintro a w ⟨H,I⟩
 obtain rfl:=o_1 c0
 have c1 : Yb prog _ _ (.cell 5 59) _:=ZG H R Jq R I.ra0 (u_1 _) R
 exact p_3 (Xf H R (ZD H R) c1 ⟨_,R,R,I.kept⟩)
def WA (d : V256) (b : V256 × Int) : Option (Fl (V256 × Int) V256) :=
 if decide (b.2 < 256) then ((ZZ d b.2).bind λc=>(ZZ b.1 (bI c)).bind λe=>some (Fl.nx ((b.1.setIfInBounds ((bI c)).toNat (Zv b.2)),wr (b.2 + 1)))) else (some (Fl.ex b.1))
def VY (b : V256) : Option (V256) :=
 (ZQ (WA b) ((Vector.replicate 256 (0 : UInt8)),0)).bind λc=>some c
theorem B8 (e : World) (k : V256) (r : V256) (J : VY k = some r) :
  Calls prog 266 [Value.agg (enc k).toArray].toArray e (Rt e (Value.agg (enc r).toArray)):=by
 refine ce func266 ?_
 intro a H
 have I:=M.start e
 unfold VY at J
 refine Zb (Z2 (cs:=enc k) H I Za ld R R λA w a I H=>Zw H I TS λm w a I H=>Ze (Zb (XT (parts:=[]) (vs:=[]) (cs:=enc xf) H Za ld R R TS R ty5 Xj λa H=>Zw H I TS λn w a I H=>Zk (seg:=enc xf) (cs':=enc xf) H I Za R R R TS (u_1 _) (zle flq) (s_1 _) (Zh flq) λw a I H=>Ze (s_2 (Zb (Zq H R TS R I.ra2 (u_1 _) λa H=>Zd H R λa H=>Ze ?_))))))
 obtain ⟨o,q,t⟩:=p_1 J
 refine Z7 (λa w=>Env 18 a [(2,ptr m 0),(3,ptr n 0)] ∧ M (Old e) e w [raw n (enc o),raw m (enc xf)]) ?_ ?_
 ·refine p_2 ?_
  have I:=M.fst (l:=[_,_]) I.pl1.pl1
  refine ZR (λ(c : V256 × Int) a w=>Env 18 a [(2,ptr m 0),(3,ptr n 0),(7,Value.agg (enc k).toArray),(8,vI c.2)] ∧ M (Old e) e w [raw n (enc c.1),raw m (enc xf)]) q ⟨H.s,I⟩ ?_
  rintro c a w ⟨H,I⟩ y b f
  unfold WA at b
  refine Zb (Zn H R R R λa H=>Ze (s_2 ?_))
  refine c_if H R b ?_ ?_
  ·intro h b
   refine u_2 (Zz (s_2 (p_2 (Zb (Zd H R ?_))))); intro a H
   obtain ⟨u,i,b⟩:=bvx b
   refine H4 H Za ld R R o_6 ty5 R R i R λa H=>Zc H R λa H=>Zc H R λa H=>Ze (t_1 (Zd H R λa H=>Zd H R λa H=>YX H Za ld R s_5 t_3 ?_)); intro a H
   obtain ⟨z,d,b⟩:=bvx b
   refine ZO H R R o_6 ty5 d.1 λa H=>Zk (seg:=[vB (Zv c.2)]) (cs':=enc (c.1.setIfInBounds ((bI u)).toNat (Zv c.2))) H I Za R R R ty5 R (Ya (v:=c.1) (x:=Zv c.2) d.1) (s_1 (Zv c.2 : UInt8)) (ZP (v:=c.1) (x:=Zv c.2) d.1) λw a I H=>Zj (YA (Zz (t_1 (Zn H R R R λa H=>Zd H R λa H=>Zj (Zm ?_)))))
   exact ⟨_,ois b,H.s,I⟩
  intro h b
  refine o_4 (Zu (Zu (YQ ?_)))
  obtain rfl:=f _ (ois b)
  refine Zm ?_
  exact ⟨H.s,I⟩
 rintro a w ⟨H,I⟩
 refine Zz (Zb (Zq H R TS R I.ra0 (u_1 _) ?_)); intro a H
 have I:=I.pl1
 refine Zk (seg:=enc o) (cs':=enc o) H I Za R R R TS (u_1 _) (zle flq) (s_1 _) (Zh flq) λw a I H=>Ze ?_
 obtain rfl:=o_1 t
 have j : Yb prog _ _ (.cell 2 56) _:=ZG H R TS R I.ra0 (u_1 _) R
 exact p_3 (ZV H R j ⟨_,R,R,I.kept⟩)
def XP (d : V16) (b : V16 × Int) : Option (Fl (V16 × Int) V16) :=
 if decide (b.2 < 16) then ((ZZ d b.2).bind λc=>(ZZ b.1 (bI c)).bind λe=>some (Fl.nx ((b.1.setIfInBounds ((bI c)).toNat (Zv b.2)),wr (b.2 + 1)))) else (some (Fl.ex b.1))
def WM (b : V16) : Option (V16) :=
 (ZQ (XP b) ((Vector.replicate 16 (0 : UInt8)),0)).bind λc=>some c
theorem HM (e : World) (k : V16) (r : V16) (J : WM k = some r) :
  Calls prog 267 [Value.agg (enc k).toArray].toArray e (Rt e (Value.agg (enc r).toArray)):=by
 refine ce func267 ?_
 intro a H
 have I:=M.start e
 unfold WM at J
 refine Zb (Z2 (cs:=enc k) H I Za ld R R λA w a I H=>Zw H I BC λm w a I H=>Ze (Zb (XT (parts:=[]) (vs:=[]) (cs:=enc xb) H Za ld R R BC R ty5 Xj λa H=>Zw H I BC λn w a I H=>Zk (seg:=enc xb) (cs':=enc xb) H I Za R R R BC (u_1 _) (zle flq) (s_1 _) (Zh flq) λw a I H=>Ze (s_2 (Zb (Zq H R BC R I.ra2 (u_1 _) λa H=>Zd H R λa H=>Ze ?_))))))
 obtain ⟨o,q,t⟩:=p_1 J
 refine Z7 (λa w=>Env 18 a [(2,ptr m 0),(3,ptr n 0)] ∧ M (Old e) e w [raw n (enc o),raw m xp]) ?_ ?_
 ·refine p_2 ?_
  have I:=M.fst (l:=[_,_]) I.pl1.pl1
  refine ZR (λ(c : V16 × Int) a w=>Env 18 a [(2,ptr m 0),(3,ptr n 0),(7,Value.agg (enc k).toArray),(8,vI c.2)] ∧ M (Old e) e w [raw n (enc c.1),raw m xp]) q ⟨H.s,I⟩ ?_
  rintro c a w ⟨H,I⟩ y b f
  unfold XP at b
  refine Zb (Zn H R R R λa H=>Ze (s_2 ?_))
  refine c_if H R b ?_ ?_
  ·intro h b
   refine u_2 (Zz (s_2 (p_2 (Zb (Zd H R ?_))))); intro a H
   obtain ⟨u,i,b⟩:=bvx b
   refine H4 H Za ld R R p_7 ty5 R R i R λa H=>Zc H R λa H=>Zc H R λa H=>Ze (t_1 (Zd H R λa H=>Zd H R λa H=>YX H Za ld R s_5 t_3 ?_)); intro a H
   obtain ⟨z,d,b⟩:=bvx b
   refine ZO H R R p_7 ty5 d.1 λa H=>Zk (seg:=[vB (Zv c.2)]) (cs':=enc (c.1.setIfInBounds ((bI u)).toNat (Zv c.2))) H I Za R R R ty5 R (Ya (v:=c.1) (x:=Zv c.2) d.1) (s_1 (Zv c.2 : UInt8)) (ZP (v:=c.1) (x:=Zv c.2) d.1) λw a I H=>Zj (YA (Zz (t_1 (Zn H R R R λa H=>Zd H R λa H=>Zj (Zm ?_)))))
   exact ⟨_,ois b,H.s,I⟩
  intro h b
  refine o_4 (Zu (Zu (YQ ?_)))
  obtain rfl:=f _ (ois b)
  refine Zm ?_
  exact ⟨H.s,I⟩
 rintro a w ⟨H,I⟩
 refine Zz (Zb (Zq H R BC R I.ra0 (u_1 _) ?_)); intro a H
 have I:=I.pl1
 refine Zk (seg:=enc o) (cs':=enc o) H I Za R R R BC (u_1 _) (zle flq) (s_1 _) (Zh flq) λw a I H=>Ze ?_
 obtain rfl:=o_1 t
 have j : Yb prog _ _ (.cell 2 60) _:=ZG H R BC R I.ra0 (u_1 _) R
 exact p_3 (ZV H R j ⟨_,R,R,I.kept⟩)
def VF (h : (Vector (Vector V256 4) 4) × Int) (c : (Vector (Vector V256 4) 4) × Int) (d : (Vector (Vector V256 4) 4) × Int) (i : UInt8) (b : (Vector (Vector V256 4) 4) × Int) : Option (Fl ((Vector (Vector V256 4) 4) × Int) (Vector (Vector V256 4) 4)) :=
 if decide (b.2 < d.2) then ((ZZ b.1 h.2).bind λj=>(ZZ j c.2).bind λk=>(ZZ k b.2).bind λl=>(ZZ b.1 h.2).bind λe=>(ZZ e c.2).bind λf=>(ZZ f (orI d.2 b.2)).bind λm=>some (Fl.nx ((b.1.setIfInBounds (h.2).toNat (e.setIfInBounds (c.2).toNat (f.setIfInBounds ((orI d.2 b.2)).toNat (i ^^^ l)))),wr (b.2 + 1)))) else (some (Fl.ex b.1))
def VJ (h : Int) (i : (Vector (Vector V256 4) 4) × Int) (c : (Vector (Vector V256 4) 4) × Int) (d : UInt8) (b : (Vector (Vector V256 4) 4) × Int) : Option (Fl ((Vector (Vector V256 4) 4) × Int) (Vector (Vector V256 4) 4)) :=
 if decide (b.2 < 256) then ((YO h d (Zv b.2)).bind λe=>(ZQ (VF i c b e) (b.1,0)).bind λf=>some (Fl.nx (f,wr (b.2 * 2)))) else (some (Fl.ex b.1))
def VM (f : Int) (h : (Vector (Vector V256 4) 4) × Int) (c : (Vector UInt8 4)) (b : (Vector (Vector V256 4) 4) × Int) : Option (Fl ((Vector (Vector V256 4) 4) × Int) (Vector (Vector V256 4) 4)) :=
 if decide (b.2 < 4) then ((ZZ c b.2).bind λd=>(ZQ (VJ f h b d) (b.1,1)).bind λe=>some (Fl.nx (e,wr (b.2 + 1)))) else (some (Fl.ex b.1))
def VL (e : Int) (f : (Vector (Vector UInt8 4) 4)) (b : (Vector (Vector V256 4) 4) × Int) : Option (Fl ((Vector (Vector V256 4) 4) × Int) (Vector (Vector V256 4) 4)) :=
 if decide (b.2 < 4) then ((ZZ f b.2).bind λc=>(ZQ (VM e b c) (b.1,0)).bind λd=>some (Fl.nx (d,wr (b.2 + 1)))) else (some (Fl.ex b.1))
def V5 (b : Int) (c : (Vector (Vector UInt8 4) 4)) : Option ((Ref (Vector (Vector V256 4) 4))) :=
 (ZQ (VL b c) ((Vector.replicate 4 (Vector.replicate 4 (Vector.replicate 256 (0 : UInt8)))),0)).bind λd=>some (⟨d⟩ : (Ref (Vector (Vector V256 4) 4)))
theorem Hv (j : World) (G : Int) (K : xm) (r : (Ref xw)) (J : V5 G K = some r) :
  Calls prog 268 [vI G,Value.agg (enc K).toArray].toArray j (e_r λv w'=>(∃ y1 : Value,v = y1 ∧ Fr j w' [own NoB (r : (Ref xw)) [y1]] ∧ Kept (Old j) j w')):=by
 refine ce func268 ?_
 intro a H
 have I:=M.start j
 unfold V5 at J
 refine Zb (Z2 (cs:=enc K) H I Za ld R R λy w a I H=>Zc H R λa H=>Ze (Zb (XT (parts:=[]) (vs:=[]) (cs:=enc (Vector.replicate 4 (Vector.replicate 4 xf))) H Za ld R R ty322 R jc Xj λa H=>Z2 (cs:=enc (Vector.replicate 4 (Vector.replicate 4 xf))) H I Za ld R R λm w a I H=>Zc H R λa H=>Ze (s_2 (Zb (Zd H R λa H=>Ze ?_))))))
 obtain ⟨j5,al,am⟩:=p_1 J
 refine Z7 (λa w=>Env 62 a [(5,ptr m 0)] ∧ M (Old j) j w [raw m (enc j5)]) ?_ ?_
 ·refine p_2 ?_
  refine ZR (λ(t : xw × Int) a w=>Env 62 a [(0,vI G),(3,ptr y 0),(5,ptr m 0),(14,vI t.2)] ∧ M (Old j) j w [raw m (enc t.1),raw y (enc K)]) al ⟨H.s,I⟩ ?_
  rintro t a w ⟨H,I⟩ aw o W
  unfold VL at o
  refine Zb (Zn H R R R λa H=>Ze (s_2 ?_))
  refine c_if H R o ?_ ?_
  ·intro X o
   refine u_2 (Zz (s_2 (p_2 (Zb (Zd H R λa H=>Zc H R λa H=>Ze (Zb (Zd H R ?_))))))); intro a H
   obtain ⟨B,N,o⟩:=bvx o
   refine ZO H R R u_4 Tp N.1 λa H=>Zq H R Tp R (At.vec I.ra1 N.2) (u_1 _) λa H=>Zd H R λa H=>Ze ?_
   obtain ⟨an,Y,Z⟩:=p_1 o
   refine Z7 (λa w=>Env 62 a [(0,vI G),(3,ptr y 0),(5,ptr m 0),(14,vI t.2)] ∧ M (Old j) j w [raw m (enc an),raw y (enc K)]) ?_ ?_
   ·refine p_2 ?_
    refine ZR (λ(d : xw × Int) a w=>Env 62 a [(0,vI G),(3,ptr y 0),(5,ptr m 0),(6,vI t.2),(14,vI t.2),(19,Value.agg (enc B).toArray),(20,vI d.2)] ∧ M (Old j) j w [raw m (enc d.1),raw y (enc K)]) Y ⟨H.s,I⟩ ?_
    rintro d a w ⟨H,I⟩ ax e aa
    unfold VM at e
    refine Zb (Zn H R R R λa H=>Ze (s_2 ?_))
    refine c_if H R e ?_ ?_
    ·intro ab e
     refine u_2 (Zz (s_2 (p_2 (Zb (Zd H R ?_))))); intro a H
     obtain ⟨L,ac,e⟩:=bvx e
     refine H4 H Za ld R R t_5 ty5 R R ac R λa H=>Zc H R λa H=>Zc H R λa H=>Ze (Zb (Zc H R λa H=>Ze ?_))
     obtain ⟨ao,ad,ae⟩:=p_1 e
     refine Z7 (λa w=>Env 62 a [(0,vI G),(3,ptr y 0),(5,ptr m 0),(6,vI t.2),(14,vI t.2),(19,Value.agg (enc B).toArray),(20,vI d.2)] ∧ M (Old j) j w [raw m (enc ao),raw y (enc K)]) ?_ ?_
     ·refine p_2 ?_
      refine ZR (λ(c : xw × Int) a w=>Env 62 a [(0,vI G),(3,ptr y 0),(5,ptr m 0),(6,vI t.2),(7,vI d.2),(8,vB L),(9,vI c.2),(14,vI t.2),(19,Value.agg (enc B).toArray),(20,vI d.2)] ∧ M (Old j) j w [raw m (enc c.1),raw y (enc K)]) ad ⟨H.s,I⟩ ?_
      rintro c a w ⟨H,I⟩ ay f af
      unfold VJ at f
      refine s_2 (Zb (Zd H R λa H=>Zn H R R R λa H=>Ze ?_))
      refine c_if H R f ?_ ?_
      ·intro ag f
       refine u_2 (Zz (s_2 (p_2 (Zb (Zd H R λa H=>Zd H R λa H=>Zd H R λa H=>YX H Za ld R s_5 t_3 ?_))))); intro a H
       obtain ⟨h,ap,f⟩:=p_1 f
       refine c_k H I R zP (Xy _ G L (Zv c.2) h ap) ?_; intro w a I H
       refine Zc H R λa H=>Ze (Zb (Zd H R λa H=>Zd H R λa H=>Ze ?_))
       obtain ⟨aq,ah,ai⟩:=p_1 f
       refine Z7 (λa w=>Env 62 a [(0,vI G),(3,ptr y 0),(5,ptr m 0),(6,vI t.2),(7,vI d.2),(8,vB L),(9,vI c.2),(14,vI t.2),(19,Value.agg (enc B).toArray),(20,vI d.2)] ∧ M (Old j) j w [raw m (enc aq),raw y (enc K)]) ?_ ?_
       ·refine p_2 ?_
        refine ZR (λ(i : xw × Int) a w=>Env 62 a [(0,vI G),(3,ptr y 0),(5,ptr m 0),(6,vI t.2),(7,vI d.2),(8,vB L),(9,vI c.2),(10,vB h),(14,vI t.2),(19,Value.agg (enc B).toArray),(20,vI d.2),(33,vI c.2),(34,vI i.2)] ∧ M (Old j) j w [raw m (enc i.1),raw y (enc K)]) ah ⟨H.s,I⟩ ?_
        rintro i a w ⟨H,I⟩ az b aj
        unfold VF at b
        refine Zb (Zn H R R R λa H=>Ze (s_2 ?_))
        refine c_if H R b ?_ ?_
        ·intro ak b
         refine u_2 (Zz (s_2 (p_2 (Zb (Zd H R λa H=>Zc H R λa H=>Ze ?_)))))
         obtain ⟨a0,O,b⟩:=bvx b
         obtain ⟨a1,T,b⟩:=bvx b
         obtain ⟨k,U,b⟩:=bvx b
         obtain ⟨ar,C,b⟩:=bvx b
         obtain ⟨F,A,b⟩:=bvx b
         obtain ⟨a2,q,b⟩:=bvx b
         refine Z9 [37,38,39,40,41,42,43,44,45,46,47,48,49,50,51,52,53,54,55,56,57] Yt R R (by decide) R H I (q_m (λ_=>R) (q_m (λ_=>R) (q_m (λ_=>R) (q_m (λ_=>R) (q_m (λ_=>R) (qsP (v:=(vI (orI c.2 i.2))) (λz=>Z8 z.E Za ld R R R (kr0 R)) (q_m (λ_=>R) (q_m (λ_=>R) (q_m (λ_=>R) (q_m (λ_=>R) (q_m (λ_=>R) (qsP (λz=>Yj z.E Za ld R (kr0 R)) (qsP (λz=>ZW z.E Za ld R R t_6 jc O.1 (kr0 R)) (qsP (λz=>ZW z.E Za ld R R u_6 ty55 T.1 (kr0 R)) (qsP (λz=>ZW z.E Za ld R R s_7 ty5 U.1 (kr0 R)) (qsP (λz=>Zy (v:=(vB k)) z.E Za ld R ty5 R (At.vec (At.vec (At.vec (z.M.ra0) O.2) T.2) U.2) (kr0 R)) (qsP (v:=(vB (h ^^^ k))) (λz=>Z8 z.E Za ld R R (Vs h k) (kr0 R)) (qsP (λz=>Yj z.E Za ld R (kr0 R)) (qsP (λz=>ZW z.E Za ld R R t_6 jc C.1 (kr0 R)) (qsP (λz=>ZW z.E Za ld R R u_6 ty55 A.1 (kr0 R)) (qsP (λz=>ZW z.E Za ld R R s_7 ty5 q.1 (kr0 R)) qs0))))))))))))))))))))) ?_
         ·intro a w u H I
          refine Zk (seg:=[vB (h ^^^ k)]) (cs':=enc (i.1.setIfInBounds (t.2).toNat (ar.setIfInBounds (d.2).toNat (F.setIfInBounds ((orI c.2 i.2)).toNat (h ^^^ k))))) H I Za R R R ty5 R (TC (o':=(d.2).toNat * 256 + (0 + ((orI c.2 i.2)).toNat * 1)) C (TC (o':=0 + ((orI c.2 i.2)).toNat * 1) A (Ya (v:=F) (x:=h ^^^ k) q.1) (by first | omega | (simp only [Flat.n] <;> omega))) (by first | omega | (simp only [Flat.n] <;> omega))) (s_1 (h ^^^ k : UInt8)) (Ul (o':=(d.2).toNat * 256 + (0 + ((orI c.2 i.2)).toNat * 1)) C (TC (o':=0 + ((orI c.2 i.2)).toNat * 1) A (Ya (v:=F) (x:=h ^^^ k) q.1) (by first | omega | (simp only [Flat.n] <;> omega))) (Ul (o':=0 + ((orI c.2 i.2)).toNat * 1) A (Ya (v:=F) (x:=h ^^^ k) q.1) (ZP (v:=F) (x:=h ^^^ k) q.1) (by first | omega | (simp only [Flat.n] <;> omega))) (by first | omega | (simp only [Flat.n] <;> omega))) λw a I H=>Zj (YA (Zz (t_1 (Zn H R R R λa H=>Zd H R λa H=>Zj (Zm ?_)))))
          exact ⟨_,ois b,H.s,I⟩
        intro ak b
        refine o_4 (Zu (Zu (YQ ?_)))
        obtain rfl:=aj _ (ois b)
        refine Zm ?_
        exact ⟨H.s,I⟩
       rintro a w ⟨H,I⟩
       refine YA (Zz (t_1 (Zd H R λa H=>Zn H R R R λa H=>Zc H R λa H=>Zj (Zm ?_))))
       exact ⟨_,ois ai,H.s,I⟩
      intro ag f
      refine o_4 (Zu (Zu (YQ ?_)))
      obtain rfl:=af _ (ois f)
      refine Zm ?_
      exact ⟨H.s,I⟩
     rintro a w ⟨H,I⟩
     refine YA (Zz (t_1 (Zn H R R R λa H=>Zd H R λa H=>Zj (Zm ?_))))
     exact ⟨_,ois ae,H.s,I⟩
    intro ab e
    refine o_4 (Zu (Zu (YQ ?_)))
    obtain rfl:=aa _ (ois e)
    refine Zm ?_
    exact ⟨H.s,I⟩
   rintro a w ⟨H,I⟩
   refine YA (Zz (t_1 (Zn H R R R λa H=>Zd H R λa H=>Zj (Zm ?_))))
   exact ⟨_,ois Z,H.s,I⟩
  intro X o
  refine o_4 (Zu (Zu (YQ ?_)))
  obtain rfl:=W _ (ois o)
  refine Zm ?_
  have I:=M.fst (l:=[_]) I
  exact ⟨H.s,I⟩
 rintro a w ⟨H,I⟩
 refine Zz (Zb (Zd H R λa H=>Zc H R λa H=>Ze ?_))
 have I:=M.toRefF (x:=j5) I
 obtain rfl:=o_1 am
 exact p_3 (ZV H R (ZD H R) ⟨_,R,ptr m 0,R,I.outF (Jd Yo),I.kept⟩)
def U5 (b : GCipher) : Option ((Ref Gengine)) :=
 (Wv b.Field b.Mix).bind λf=>(VY b.Box).bind λh=>(WM b.Places).bind λc=>(V5 b.Field b.Mix).bind λd=>(V5 b.Field f.2).bind λe=>some (⟨(⟨b.Box,h,b.Places,c,d,e,b.Rounds⟩ : Gengine)⟩ : (Ref Gengine))
theorem zG (k : World) (b : GCipher) (r : (Ref Gengine)) (J : U5 b = some r) :
  Calls prog 199 [Value.agg (enc b).toArray].toArray k (e_r λv w'=>(∃ A : Value,v = A ∧ Fr k w' [own NoB (r : (Ref Gengine)) [A]] ∧ Kept (Old k) k w')):=by
 refine ce func199 ?_
 intro a H
 have I:=M.start k
 unfold U5 at J
 refine Zb (Z2 (cs:=cat [[vI b.Field],enc b.Box,enc b.Mix,enc b.Places,[vI b.Rounds]]) H I Za ld R R λB w a I H=>Zc H R λa H=>Ze (Zb (Zl H R (qV) λa H=>ZB (v:=(vI b.Field)) H R ty2 R (at_0 I.ra0) λa H=>Zl H R (jb) λa H=>Zq H R Jq R (at_2 I.ra0) (u_1 _) ?_))); intro a H
 obtain ⟨m,C,J⟩:=p_1 J
 refine c_k H I R (cbm func265) (BD _ b.Field b.Mix m C) ?_; intro w a I H
 refine Zd H R λa H=>ZM H Za ld R R λa H=>ZM H Za ld R R λa H=>Zw H I Jq λG w a I H=>Zc H R λa H=>Zk (seg:=enc m.2) (cs':=enc m.2) H I Za R R R Jq (u_1 _) (zle flq) (s_1 _) (Zh flq) λw a I H=>Ze (s_2 ?_)
 obtain ⟨e,K,J⟩:=p_1 J
 obtain ⟨d,n,J⟩:=p_1 J
 obtain ⟨h,o,J⟩:=p_1 J
 obtain ⟨i,q,J⟩:=p_1 J
 refine Yl (its:=[raw G (enc m.2),raw B (cat [[vI b.Field],enc b.Box,enc b.Mix,enc b.Places,[vI b.Rounds]])]) (mk:=([mkO 14 (λv=>own NoB (h : (Ref xw)) [v]),mkO 18 (λv=>own NoB (i : (Ref xw)) [v])] : Mk)) [13,14,15,16,17,18,19,20,21,22,23,24,25,26,27,28,29,30,31,32,33] Yt R R (by decide) R H (λu=>M.qE (M.qE (M.q0 I.drew u) emO) emO) (qsP (λz=>Zg z.E Za ld R (zH) (kr0 R)) (qsP (λz=>Zx z.E Za ld R TS R (at_1 (z.M.ra1)) (u_1 _) (kr0 R)) (qsP (λz=>Zg z.E Za ld R (zH) (kr0 R)) (qsP (λz=>Zx z.E Za ld R TS R (at_1 (z.M.ra1)) (u_1 _) (kr0 R)) (qsP (λz=>Yd z.E Za ld R (cbm func266) (B8 _ b.Box e K) (kc R)) (qsP (λz=>Zg z.E Za ld R (yW) (kr0 R)) (qsP (λz=>Zx z.E Za ld R BC R (at_3 (z.M.ra1)) (u_1 _) (kr0 R)) (qsP (λz=>Zg z.E Za ld R (yW) (kr0 R)) (qsP (λz=>Zx z.E Za ld R BC R (at_3 (z.M.ra1)) (u_1 _) (kr0 R)) (qsP (λz=>Yd z.E Za ld R (cbm func267) (HM _ b.Places d n) (kc R)) (qsP (λz=>Zg z.E Za ld R (qV) (kr0 R)) (qsP (λz=>Zy (v:=(vI b.Field)) z.E Za ld R ty2 R (at_0 (z.M.ra1)) (kr0 R)) (qsP (λz=>Zg z.E Za ld R (jb) (kr0 R)) (qsP (λz=>Zx z.E Za ld R Jq R (at_2 (z.M.ra1)) (u_1 _) (kr0 R)) (qsM (pr:=λv=>True) ?_ (qsP (λz=>Zg z.E Za ld R (qV) (kr0 R)) (qsP (λz=>Zy (v:=(vI b.Field)) z.E Za ld R ty2 R (at_0 (z.M.ra1)) (kr0 R)) (qsP (λz=>Zx z.E Za ld R Jq R (z.M.ra0) (u_1 _) (kr0 R)) (qsM (pr:=λv=>True) ?_ (qsP (λz=>Zg z.E Za ld R (Zb9) (kr0 R)) (qsP (λz=>Zy (v:=(vI b.Rounds)) z.E Za ld R ty2 R (at_4 (z.M.ra1)) (kr0 R)) qs0))))))))))))))))))))) ?_
 ·intro a w c D z
  have H:=z.E
  have hD : D 14 = false:=z.F
  have hM0:=z.M
  have I:=z.M
  refine Zp H R (cbm func268) (Hv _ b.Field b.Mix h o) ?_
  rintro _ w a ⟨_,rfl,hFr,hK⟩ H
  have I:=hM0.add hK hFr
  exact ⟨_,_,R,H,M.qFill (mk1:=[]) (mk2:=[_]) (f:=(λv=>own NoB (h : (Ref xw)) [v])) I R hD,trivial⟩
 ·intro a w c D z
  have H:=z.E
  have hD : D 18 = false:=z.F
  have hM0:=z.M
  have I:=z.M
  refine Zp H R (cbm func268) (Hv _ b.Field m.2 i q) ?_
  rintro _ w a ⟨_,rfl,hFr,hK⟩ H
  have I:=hM0.add hK hFr
  exact ⟨_,_,R,H,M.qFill (mk1:=[_]) (mk2:=[]) (f:=(λv=>own NoB (i : (Ref xw)) [v])) I R hD,trivial⟩
 intro a w c D H I hG j
 have t:=j 14 (by decide)
 have x:=j 18 (by decide)
 have I:=(I.sure (pre:=[_,_]) t).sure (pre:=[_,_,_]) x
 refine ZY (parts:=[(0,.tmp 14),(1,.tmp 17),(2,.tmp 19),(3,.tmp 22),(4,.tmp 27),(5,.tmp 31),(6,.tmp 33)]) (vs:=[(0,Value.agg (enc b.Box).toArray),(1,Value.agg (enc e).toArray),(2,Value.agg (enc b.Places).toArray),(3,Value.agg (enc d).toArray),(4,c 14),(5,c 18),(6,vI b.Rounds)]) (cs:=cat [enc b.Box,enc e,enc b.Places,enc d,[c 14],[c 18],[vI b.Rounds]]) H Za ld R R zV pl280 (ZT (pre:=[]) (seg:=enc xf) (seg':=enc b.Box) (post:=[enc xf,enc xb,enc xb,xA,xA,[vI 0]]) R cl0 (u_1 _) (u_1 _) R (ZT (pre:=[enc b.Box]) (seg:=enc xf) (seg':=enc e) (post:=[enc xb,enc xb,xA,xA,[vI 0]]) R ck (u_1 _) (u_1 _) R (ZT (pre:=[enc b.Box,enc e]) (seg:=enc xb) (seg':=enc b.Places) (post:=[enc xb,xA,xA,[vI 0]]) R ck (u_1 _) (u_1 _) R (ZT (pre:=[enc b.Box,enc e,enc b.Places]) (seg:=enc xb) (seg':=enc d) (post:=[xA,xA,[vI 0]]) R ck (u_1 _) (u_1 _) R (ZT (pre:=[enc b.Box,enc e,enc b.Places,enc d]) (seg:=xA) (seg':=[c 14]) (post:=[xA,[vI 0]]) R ck R R (kA (I.rn2)) (ZT (pre:=[enc b.Box,enc e,enc b.Places,enc d,[c 14]]) (seg:=xA) (seg':=[c 18]) (post:=[[vI 0]]) R ck R R (kA (I.rn3)) (ZT (pre:=[enc b.Box,enc e,enc b.Places,enc d,[c 14],[c 18]]) (seg:=[vI 0]) (seg':=[vI b.Rounds]) (post:=[]) R ck R R R Yp))))))) λa H=>Z2 (cs:=cat [enc b.Box,enc e,enc b.Places,enc d,[c 14],[c 18],[vI b.Rounds]]) H I Za ld R R λy w a I H=>Zc H R λa H=>Zj (Zz ?_)
 have I:=I.pl4.pl4
 have I:=(((I.pack2 (it:=own NoB (⟨b.Box,e,b.Places,d,h,i,b.Rounds⟩ : Gengine) (cat [enc b.Box,enc e,enc b.Places,enc d,[c 14],[c 18],[vI b.Rounds]])) (X4 noB) (λL N q0 q1=>(Zc0 q0 q1 (by simp)))).pl1).pl1).pl1
 have I:=M.toRef I noB
 obtain rfl:=o_1 J
 have I:=M.fst (l:=[_]) I
 exact p_3 (ZV H R (ZD H R) ⟨_,R,ptr y 0,R,I.outF (Jd Yo),I.kept⟩)
def Km (b : Int) : Option ((Ref Gengine)) :=
 (VT b).bind λc=>(U5 c).bind λd=>some d
theorem qq (b : World) (c : Int) (r : (Ref Gengine)) (J : Km c = some r) :
  Calls prog 106 [vI c].toArray b (e_r λv w'=>(∃ d : Value,v = d ∧ Fr b w' [own NoB (r : (Ref Gengine)) [d]] ∧ Kept (Old b) b w')):=by
 refine ce func106 ?_
 intro a H
 have I:=M.start b
 unfold Km at J
 refine Zb (Zc H R λa H=>Ze (Zb (Zd H R ?_))); intro a H
 obtain ⟨e,f,J⟩:=p_1 J
 refine c_k H I R (cbm func109) (BX _ c e f) ?_; intro w a I H
 obtain ⟨h,i,J⟩:=p_1 J
 refine Zp H R (cbm func199) (zG _ e h i) ?_
 rintro j w a ⟨_,rfl,hFr,hK⟩ H
 have I:=I.add hK hFr
 refine Zc H R λa H=>Ze ?_
 obtain rfl:=o_1 J
 exact p_3 (ZV H R (ZD H R) ⟨_,R,j,R,I.outF (Jd Yo),I.kept⟩)
def YP : Option ((Ref Gengine)) :=
 (Km 4).bind λb=>some b
theorem Xz (b : World)  (r : (Ref Gengine)) (J : YP  = some r) :
  Calls prog 132 [].toArray b (e_r λv w'=>(∃ c : Value,v = c ∧ Fr b w' [own NoB (r : (Ref Gengine)) [c]] ∧ Kept (Old b) b w')):=by
 refine ce func132 ?_
 intro a H
 have I:=M.start b
 unfold YP at J
 refine Zb (Zc H R λa H=>Ze (Zb ?_))
 obtain ⟨d,e,J⟩:=p_1 J
 refine Zp H R (cbm func106) (qq _ 4 d e) ?_
 rintro f w a ⟨_,rfl,hFr,hK⟩ H
 have I:=I.add hK hFr
 refine Zc H R λa H=>Ze ?_
 obtain rfl:=o_1 J
 exact p_3 (ZV H R (ZD H R) ⟨_,R,f,R,I.outF (Jd Yo),I.kept⟩)
def YT (b : (List V16)) : Option ((List V16)) :=
 (app 16 ([] : List V16) b).bind λc=>some (([] : List V16) ++ b)
theorem QF (d : World) (i : xv) (c : Value) (b : Ro d i [c]) (r : xv) (J : YT i = some r) :
  Calls prog 230 [c].toArray d (e_r λv w'=>(∃ j : Value,v = j ∧ Fr d w' [osl NoB (r : List V16) j] ∧ Kept (Old d) d w')):=by
 refine ce func230 ?_
 intro a H
 have I:=M.start d
 unfold YT at J
 refine Zb (Zc H R λa H=>Ze (s_2 (Zb (Zd H R λa H=>qn H Za ld R R s_3 (I.rd b) λk a f H=>Ze ?_))))
 refine Zr H R ?_ ?_
 ·intro e
  have m:=f e
  have J : some ([]) = some r:=by rw [m] at J; simpa [app] using J
  refine Zb (Zc H R λa H=>Ze ?_)
  have I:=M.nilS (α:=V16) NoB noB I
  obtain rfl:=o_1 J
  exact p_3 (ZI (ZV H R (ZD H R) ⟨_,R,xd,R,I.outF (ZK Yo),I.kept⟩))
 intro e
 refine u_2 (Zz (Zb (ZL (xs:=[]) (l:=([] : List V16)) (vs:=[]) H I Za ld R R s_3 ZE R (by decide) R λq w a I H=>Zd H R ?_))); intro a H
 obtain ⟨t,n,J⟩:=p_1 J
 have h:=(Z1 n).1
 refine Z3 H I Za ld R R (I.rd b) s_3 ZE R (by decide) h λo w a I H=>Zc H R λa H=>Ze ?_
 obtain rfl:=o_1 J
 exact p_3 (ZV H R (ZD H R) ⟨_,R,o,R,I.outF (ZK Yo),I.kept⟩)
def YR (b : (List GEvent)) : Option ((List GEvent)) :=
 (app 48 ([] : List GEvent) b).bind λc=>some (([] : List GEvent) ++ b)
theorem QI (d : World) (i : xu) (c : Value) (b : Ro d i [c]) (r : xu) (J : YR i = some r) :
  Calls prog 231 [c].toArray d (e_r λv w'=>(∃ j : Value,v = j ∧ Fr d w' [osl NoB (r : List GEvent) j] ∧ Kept (Old d) d w')):=by
 refine ce func231 ?_
 intro a H
 have I:=M.start d
 unfold YR at J
 refine Zb (Zc H R λa H=>Ze (s_2 (Zb (Zd H R λa H=>qn H Za ld R R p_4 (I.rd b) λk a f H=>Ze ?_))))
 refine Zr H R ?_ ?_
 ·intro e
  have m:=f e
  have J : some ([]) = some r:=by rw [m] at J; simpa [app] using J
  refine Zb (Zc H R λa H=>Ze ?_)
  have I:=M.nilS (α:=GEvent) NoB noB I
  obtain rfl:=o_1 J
  exact p_3 (ZI (ZV H R (ZD H R) ⟨_,R,xd,R,I.outF (ZK Yo),I.kept⟩))
 intro e
 refine u_2 (Zz (Zb (ZL (xs:=[]) (l:=([] : List GEvent)) (vs:=[]) H I Za ld R R p_4 Wc R (by decide) R λq w a I H=>Zd H R ?_))); intro a H
 obtain ⟨t,n,J⟩:=p_1 J
 have h:=(Z1 n).1
 refine Z3 H I Za ld R R (I.rd b) p_4 Wc R (by decide) h λo w a I H=>Zc H R λa H=>Ze ?_
 obtain rfl:=o_1 J
 exact p_3 (ZV H R (ZD H R) ⟨_,R,o,R,I.outF (ZK Yo),I.kept⟩)
def Yi (b : (List UInt8)) : Option ((List UInt8)) :=
 (app 1 ([] : List UInt8) b).bind λc=>some (([] : List UInt8) ++ b)
theorem Xq (d : World) (i : xg) (c : Value) (b : Ro d i [c]) (r : xg) (J : Yi i = some r) :
  Calls prog 91 [c].toArray d (e_r λv w'=>(∃ j : Value,v = j ∧ Fr d w' [osl NoB (r : List UInt8) j] ∧ Kept (Old d) d w')):=by
 refine ce func91 ?_
 intro a H
 have I:=M.start d
 unfold Yi at J
 refine Zb (Zc H R λa H=>Ze (s_2 (Zb (Zd H R λa H=>qn H Za ld R R o_2 (I.rd b) λk a f H=>Ze ?_))))
 refine Zr H R ?_ ?_
 ·intro e
  have m:=f e
  have J : some ([]) = some r:=by rw [m] at J; simpa [app] using J
  refine Zb (Zc H R λa H=>Ze ?_)
  have I:=M.nilS (α:=UInt8) NoB noB I
  obtain rfl:=o_1 J
  exact p_3 (ZI (ZV H R (ZD H R) ⟨_,R,xd,R,I.outF (ZK Yo),I.kept⟩))
 intro e
 refine u_2 (Zz (Zb (ZL (xs:=[]) (l:=xx) (vs:=[]) H I Za ld R R o_2 ty5 R (by decide) R λq w a I H=>Zd H R ?_))); intro a H
 obtain ⟨t,n,J⟩:=p_1 J
 have h:=(Z1 n).1
 refine Z3 H I Za ld R R (I.rd b) o_2 ty5 R (by decide) h λo w a I H=>Zc H R λa H=>Ze ?_
 obtain rfl:=o_1 J
 exact p_3 (ZV H R (ZD H R) ⟨_,R,o,R,I.outF (ZK Yo),I.kept⟩)
def Vn (h : GVault) (c : (List GRecord) × Int) : Option (Fl ((List GRecord) × Int) (List GRecord)) :=
 if decide (c.2 < (h.Records.length : Int)) then ((idx h.Records c.2).bind λb=>((Yi b.Label).bind λe=>(Yi b.Body).bind λf=>some (e,f) : Option ((List UInt8) × (List UInt8))).bind λd=>(app 112 c.1 ([(⟨b.Number,b.Version,b.Nonce,d.1,d.2,b.Tag⟩ : GRecord)] : List GRecord)).bind λi=>some (Fl.nx ((c.1 ++ ([(⟨b.Number,b.Version,b.Nonce,d.1,d.2,b.Tag⟩ : GRecord)] : List GRecord)),wr (c.2 + 1)))) else (some (Fl.ex c.1))
def XE (b : GVault) : Option (GVault) :=
 (YT b.Keys).bind λd=>(YR b.Events).bind λe=>(ZQ (Vn b) ([],0)).bind λc=>some (⟨d,b.Next,c,e,b.Head⟩ : GVault)
theorem Ti (B : World) (d : GVault) (h : Value) (Y : Ro B d.Keys [h]) (i : Value) (q : Ro B d.Records [i]) (n : Value) (Z : Ro B d.Events [n]) (r : GVault) (J : XE d = some r) :
  Calls prog 133 [vcV h i n d].toArray B (e_r λv w'=>(∃ y1 y2 y3 : Value,v = (vcV y1 y2 y3 r) ∧ Fr B w' [osl NoB (r.Keys : List V16) y1,osl NoB (r.Records : List GRecord) y2,osl NoB (r.Events : List GEvent) y3] ∧ Kept (Old B) B w')):=by
 refine ce func133 ?_
 intro a H
 have I:=M.start B
 unfold XE at J
 refine Zb (Z2 (cs:=cV h i n d) H I Za ld R R λb1 w a I H=>Zw H I ZF λX w a I H=>Ze (s_2 ?_))
 obtain ⟨r6,e7,J⟩:=p_1 J
 obtain ⟨r9,au,J⟩:=p_1 J
 refine Yl (its:=[raw X xi,raw b1 (cV h i n d)]) (mk:=([mkO 2 (λv=>osl NoB (r6 : List V16) v),mkO 7 (λv=>osl NoB (r9 : List GEvent) v),mkO 11 (λv=>XS v xi)] : Mk)) [6,7,8,9,10,11,12,13,14,15,16,3] Yt R R (by decide) R H (λu=>M.qE (M.qE (M.qE (M.q0 I.drew u) emO) emO) emO) (qsP (λz=>Zg z.E Za ld R (XA) (kr0 R)) (qsP (λz=>Zy (v:=h) z.E Za ld R T0 R (at_0 (z.M.ra1)) (kr0 R)) (qsM (pr:=λv=>True) ?_ (qsP (λz=>Zg z.E Za ld R (UA) (kr0 R)) (qsP (λz=>Zy (v:=(vI d.Next)) z.E Za ld R ty2 R (at_1 (z.M.ra1)) (kr0 R)) (qsP (λz=>Zg z.E Za ld R (XU) (kr0 R)) (qsP (λz=>Zy (v:=n) z.E Za ld R Qy R (at_3 (z.M.ra1)) (kr0 R)) (qsM (pr:=λv=>True) ?_ (qsP (λz=>Zg z.E Za ld R (He) (kr0 R)) (qsP (λz=>Zx z.E Za ld R Yq R (at_4 (z.M.ra1)) (u_1 _) (kr0 R)) (qsD (ds:=[2,7]) (f:=λus=>(Value.agg (cV (us.getD 0 undef) xd (us.getD 1 undef) d).toArray)) ?_ (qsM (pr:=λv=>True) ?_ qs0)))))))))))) ?_
 ·intro a w b D z
  have H:=z.E
  have hD : D 2 = false:=z.F
  have hM0:=z.M
  have I:=z.M
  refine Zp H R (cbm func230) (QF _ d.Keys h (I.rdo Y) r6 e7) ?_
  rintro _ w a ⟨_,rfl,hFr,hK⟩ H
  have I:=hM0.add hK hFr
  exact ⟨_,_,R,H,M.qFill (mk1:=[]) (mk2:=[_,_]) (f:=(λv=>osl NoB (r6 : List V16) v)) I R hD,trivial⟩
 ·intro a w b D z
  have H:=z.E
  have hD : D 7 = false:=z.F
  have hM0:=z.M
  have I:=z.M
  refine Zp H R (cbm func231) (QI _ d.Events n (I.rdo Z) r9 au) ?_
  rintro _ w a ⟨_,rfl,hFr,hK⟩ H
  have I:=hM0.add hK hFr
  exact ⟨_,_,R,H,M.qFill (mk1:=[_]) (mk2:=[_]) (f:=(λv=>osl NoB (r9 : List GEvent) v)) I R hD,trivial⟩
 ·intro a w b D z
  have H:=z.E
  have d2 : D 2 = true:=z.p 0 _ R R
  have d7 : D 7 = true:=z.p 2 _ R R
  have I:=(z.M.sure (pre:=[_,_]) d2).sure (pre:=[_,_,_]) d7
  exact ZY (parts:=[(0,.tmp 8),(1,.tmp 10),(3,.tmp 13),(4,.tmp 15)]) (vs:=[(0,b 2),(1,vI d.Next),(3,b 7),(4,Value.agg (enc d.Head).toArray)]) (cs:=cV (b 2) xd (b 7) d) H Za ld R R ZF Kd (ZT (pre:=[]) (seg:=[xd]) (seg':=[b 2]) (post:=[[vI 0],[xd],[xd],enc xc]) R cl0 R R (ZX (I.sl2)) (ZT (pre:=[[b 2]]) (seg:=[vI 0]) (seg':=[vI d.Next]) (post:=[[xd],[xd],enc xc]) R ck R R R (ZT (pre:=[[b 2],[vI d.Next],[xd]]) (seg:=[xd]) (seg':=[b 7]) (post:=[enc xc]) R ck R R (ZX (I.sl3)) (ZT (pre:=[[b 2],[vI d.Next],[xd],[b 7]]) (seg:=enc xc) (seg':=enc d.Head) (post:=[]) R ck (u_1 _) (u_1 _) R Yp)))) λa H=>⟨o_5 _ _,J8 d2 (J8 d7 HJ),_,R,H⟩
 ·intro a w b D z
  have H:=z.E
  have hD : D 11 = false:=z.F
  have I:=z.M
  refine Zw H I ZF ?_; intro a8 w a I H
  have I:=I.pack1 (it:=XS _ xi) (λw w' fp ⟨b',e,k⟩ hb=>⟨b',e,Yz w w' fp k hb⟩) (λfp k=>⟨_,R,k⟩)
  exact ⟨_,_,R,H,M.qFill (mk1:=[_,_]) (mk2:=[]) (f:=λv=>XS v xi) I R hD,trivial⟩
 intro a w b D H I hG o
 have d2:=o 2 (by decide)
 have d7:=o 7 (by decide)
 have av:=o 11 (by decide)
 have I:=(((I.sure (pre:=[_,_]) d2).sure (pre:=[_,_,_]) d7).sure (pre:=[_,_,_,_]) av).pl
 obtain ⟨_,⟨y,ag,_⟩,_⟩:=I.head
 have I:=I.pack1 Yz (it:=raw y xi) (λfp ⟨b2,e2,k2⟩=>by rw [ag] at e2; simp [ptr] at e2; subst e2; exact k2)
 have H:=H.setq (t:=3) R ag
 refine Zk (seg:=cV (b 2) xd (b 7) d) (cs':=cV (b 2) xd (b 7) d) H I Za R R R ZF cq (q_1 cq cq) (ZC (cc1 (t_2 (I.sl3)) (cc1 (s_1 (d.Next : Int)) (cc1 ZN (cc1 (t_2 (I.sl4)) (cc1 (s_1 _) cc0)))))) (q_2 cq cq) λw a I H=>Zj (Zz (s_2 (Zb (Zl H R (Yn) λa H=>ZB (v:=i) H R XO R (at_2 I.ra2) λa H=>YE H R o_3 (I.rd q) λa H=>Zd H R λa H=>Ze ?_))))
 obtain ⟨ax,ah,ai⟩:=p_1 J
 refine Z7 (λa w=>∃ C : Value,Env 40 a [(2,ptr X 0),(3,ptr y 0)] ∧ M (Old B) B w [raw y (cV (b 2) C (b 7) d),raw X xi,osl NoB (r6 : List V16) (b 2),osl NoB (r9 : List GEvent) (b 7),osl NoB (ax : List GRecord) C]) ?_ ?_
 ·refine p_2 ?_
  have I:=M.fst (l:=[_,_,_,_,_]) (((((M.nilS (α:=GRecord) NoB noB I).pl5).pl5).pl4).pl4)
  refine ZR (λ(G : (List GRecord) × Int) a w=>∃ x : Value,Env 40 a [(2,ptr X 0),(3,ptr y 0),(18,i),(19,vI (d.Records.length : Int)),(20,vI G.2)] ∧ M (Old B) B w [raw y (cV (b 2) x (b 7) d),raw X xi,osl NoB (r6 : List V16) (b 2),osl NoB (r9 : List GEvent) (b 7),osl NoB (G.1 : List GRecord) x]) ah ⟨xd,H.s,I⟩ ?_
  rintro G a w ⟨x,H,I⟩ ba j aj
  unfold Vn at j
  refine Zb (Zn H R R R λa H=>Ze (s_2 ?_))
  refine c_if H R j ?_ ?_
  ·intro ak j
   refine u_2 (Zz (s_2 (p_2 (Zb ?_))))
   obtain ⟨c,L,j⟩:=bix j
   refine YG H R R o_3 Yf (I.rd q) L.1 ?_; intro a H
   obtain ⟨a5,al,am⟩:=Wj q L.2 -- ^
   obtain ⟨K,N,rfl,an,ao⟩:=YV al -- ^
   refine Zq H R Yf R (I.atk am (VZ q L.2)) cq λa H=>Zw H I Yf λac w a I H=>Zk (seg:=cR K N c) (cs':=cR K N c) H I Za R R R Yf cq (q_1 cq cq) (ZC (cc1 (s_1 (c.Number : Int)) (cc1 (s_1 (c.Version : Int)) (cc1 (s_1 _) (cc1 (t_2 (I.rd an)) (cc1 (t_2 (I.rd ao)) (cc1 (s_1 _) cc0))))))) (q_2 cq cq) λw a I H=>Ze ?_
   obtain ⟨W,A,O⟩:=p_1 j
   refine ZJ (λa w=>∃ T U : Value,Env 40 a [(2,ptr X 0),(3,ptr y 0),(5,ptr ac 0),(18,i),(19,vI (d.Records.length : Int)),(20,vI G.2)] ∧ M (Old B) B w [raw ac (cR T U c),raw y (cV (b 2) x (b 7) d),raw X xi,osl NoB (r6 : List V16) (b 2),osl NoB (r9 : List GEvent) (b 7),osl NoB (G.1 : List GRecord) x,osl NoB (W.1 : List UInt8) T,osl NoB (W.2 : List UInt8) U]) ?_ ?_
   ·obtain ⟨ad,ay,A⟩:=p_1 A
    obtain ⟨ae,az,A⟩:=p_1 A
    refine Yl (its:=[raw ac (cR K N c),raw y (cV (b 2) x (b 7) d),raw X xi,osl NoB (r6 : List V16) (b 2),osl NoB (r9 : List GEvent) (b 7),osl NoB (G.1 : List GRecord) x]) (mk:=([mkO 2 (λv=>osl NoB (ad : List UInt8) v),mkO 5 (λv=>osl NoB (ae : List UInt8) v)] : Mk)) [24,25,26,27,28,29,30] Yt R R (by decide) R H (λu=>M.qE (M.qE (M.q0 I.drew u) emO) emO) (qsP (λz=>Zg z.E Za ld R (Ko) (kr0 R)) (qsP (λz=>Zy (v:=K) z.E Za ld R X7 R (at_3 (z.M.ra0)) (kr0 R)) (qsM (pr:=λv=>True) ?_ (qsP (λz=>Zg z.E Za ld R (Uy) (kr0 R)) (qsP (λz=>Zy (v:=N) z.E Za ld R X7 R (at_4 (z.M.ra0)) (kr0 R)) (qsM (pr:=λv=>True) ?_ (qsP (λz=>Zg z.E Za ld R (Ko) (kr0 R)) qs0))))))) ?_
    ·intro a w m D z
     have H:=z.E
     have hD : D 2 = false:=z.F
     have hM0:=z.M
     have I:=z.M
     refine Zp H R cb91 (Xq _ c.Label K (I.rdo an) ad ay) ?_
     rintro _ w a ⟨_,rfl,hFr,hK⟩ H
     have I:=hM0.add hK hFr
     exact ⟨_,_,R,H,M.qFill (mk1:=[]) (mk2:=[_]) (f:=(λv=>osl NoB (ad : List UInt8) v)) I R hD,trivial⟩
    ·intro a w m D z
     have H:=z.E
     have hD : D 5 = false:=z.F
     have hM0:=z.M
     have I:=z.M
     refine Zp H R cb91 (Xq _ c.Body N (I.rdo ao) ae az) ?_
     rintro _ w a ⟨_,rfl,hFr,hK⟩ H
     have I:=hM0.add hK hFr
     exact ⟨_,_,R,H,M.qFill (mk1:=[_]) (mk2:=[]) (f:=(λv=>osl NoB (ae : List UInt8) v)) I R hD,trivial⟩
    intro a w m D H I hG o
    have d2:=o 2 (by decide)
    have d5:=o 5 (by decide)
    have I:=(I.sure (pre:=[_,_,_,_,_,_]) d2).sure (pre:=[_,_,_,_,_,_,_]) d5
    refine Zk (seg:=[m 2]) H I Za R R (ZX (I.sl6)) X7 R (YN (pre:=[[vI c.Number],[vI c.Version],enc c.Nonce]) ck R) (t_2 (I.sl6)) (Z4 (pre:=[[vI c.Number],[vI c.Version],enc c.Nonce]) ck R) λw a I H=>Zl H R (Uy) λa H=>Zk (seg:=[m 5]) H I Za R R (ZX (I.sl7)) X7 R (YN (pre:=[[vI c.Number],[vI c.Version],enc c.Nonce,[m 2]]) ck R) (t_2 (I.sl7)) (Z4 (pre:=[[vI c.Number],[vI c.Version],enc c.Nonce,[m 2]]) ck R) λw a I H=>Zj ?_
    obtain rfl:=o_1 A
    refine Zm ?_
    exact ⟨m 2,m 5,H.s,I⟩
   rintro a w ⟨T,U,H,I⟩
   refine t_1 (Zl H R (Yn) λa H=>ZB (v:=x) H R XO R (at_2 I.ra1) λa H=>Zq H R Yf R I.ra0 cq ?_); intro a H
   have I:=I.pl7.pl7
   have I:=I.pack2 (it:=own NoB (⟨c.Number,c.Version,c.Nonce,W.1,W.2,c.Tag⟩ : GRecord) (cR T U c)) (X4 noB) (λf0 f1 q0 q1=>(KD (WK.sat q0) (WK.sat q1) (by simp)))
   refine Js (xs:=[.tmp 34]) (seg:=cR T U c) H I noB Za ld R R o_3 Yf R (by decide) ?_; intro bc w a I H
   obtain ⟨bd,a0,O⟩:=p_1 O
   obtain ⟨a1,rfl⟩:=Z1 a0
   have I:=I.pl6
   refine KL H I noB Za ld R R o_3 Yf R (by decide) a1 λap w a I H=>Zl H R (Yn) ?_; intro a H
   have I:=I.pl2
   refine Zk (seg:=[ap]) H I Za R R (ZX (I.sl1)) XO R (YN (pre:=[[b 2],[vI d.Next]]) ck R) (t_2 (I.sl1)) (Z4 (pre:=[[b 2],[vI d.Next]]) ck R) λw a I H=>Zj (YA (Zz (t_1 (Zn H R R R λa H=>Zd H R λa H=>Zj (Zm ?_)))))
   have I:=M.fst (l:=[_,_,_,_,_]) I.pl1.pl5.pl5.pl5.pl4
   exact ⟨_,ois O,ap,H.s,I⟩
  intro ak j
  refine o_4 (Zu (Zu (YQ ?_)))
  obtain rfl:=aj _ (ois j)
  refine Zm ?_
  exact ⟨x,H.s,I⟩
 rintro a w ⟨C,H,I⟩
 refine Zz (Zb (Zq H R ZF R I.ra0 cq ?_)); intro a H
 have I:=I.pl1
 refine Zk (seg:=cV (b 2) C (b 7) d) (cs':=cV (b 2) C (b 7) d) H I Za R R R ZF cq (q_1 cq cq) (ZC (cc1 (t_2 (I.sl2)) (cc1 (s_1 (d.Next : Int)) (cc1 (t_2 (I.sl4)) (cc1 (t_2 (I.sl3)) (cc1 (s_1 _) cc0)))))) (q_2 cq cq) λw a I H=>Ze ?_
 obtain rfl:=o_1 ai
 have aq : Yb prog _ _ (.cell 2 79) _:=ZG H R ZF R I.ra0 cq R
 have I:=M.fst (l:=[_,_,_]) I.pl3.pl4.pl4
 exact p_3 (ZV H R aq ⟨_,R,b 2,C,b 7,R,I.outF (ZK (ZK (ZK Yo))),I.kept⟩)
def To (d : UInt8) (b : V16 × Int) : Option (Fl (V16 × Int) V16) :=
 if decide (b.2 < 16) then ((ZZ b.1 b.2).bind λc=>(ZZ b.1 b.2).bind λe=>some (Fl.nx ((b.1.setIfInBounds (b.2).toNat (c ^^^ d)),wr (b.2 + 1)))) else (some (Fl.ex b.1))
def Wm (c : V16) (d : UInt8) : Option ((List UInt8)) :=
 (ZQ (To d) (c,0)).bind λe=>(slc e.toList (0 : Int) (16 : Int)).bind λb=>some b
theorem Kl (e : World) (o : V16) (f : UInt8) (r : xg) (J : Wm o f = some r) :
  Calls prog 235 [Value.agg (enc o).toArray,vB f].toArray e (e_r λv w'=>(∃ u : Value,v = u ∧ Fr e w' [osl NoB (r : List UInt8) u] ∧ Kept (Old e) e w')):=by
 refine ce func235 ?_
 intro a H
 have I:=M.start e
 unfold Wm at J
 refine Zb (Z2 (cs:=enc o) H I Za ld R R λk w a I H=>Zc H R λa H=>Ze (s_2 (Zb (Zd H R λa H=>Ze ?_))))
 obtain ⟨y,q,i⟩:=p_1 J
 refine Z7 (λa w=>Env 17 a [(2,ptr k 0)] ∧ M (Old e) e w [raw k (enc y)]) ?_ ?_
 ·refine p_2 ?_
  refine ZR (λ(j : V16 × Int) a w=>Env 17 a [(1,vB f),(2,ptr k 0),(6,vI j.2)] ∧ M (Old e) e w [raw k (enc j.1)]) q ⟨H.s,I⟩ ?_
  rintro j a w ⟨H,I⟩ B b t
  unfold To at b
  refine Zb (Zn H R R R λa H=>Ze (s_2 ?_))
  refine c_if H R b ?_ ?_
  ·intro l b
   refine u_2 (Zz (s_2 (p_2 (Zb (Zd H R λa H=>Zc H R λa H=>Ze (t_1 (Zd H R ?_))))))); intro a H
   obtain ⟨c,h,b⟩:=bvx b
   refine ZO H R R u_3 ty5 h.1 λa H=>ZB (v:=(vB c)) H R ty5 R (At.vec I.ra0 h.2) λa H=>Zd H R λa H=>Zn H R R (Vs c f) ?_; intro a H
   obtain ⟨z,d,b⟩:=bvx b
   refine ZO H R R u_3 ty5 d.1 λa H=>Zk (seg:=[vB (c ^^^ f)]) (cs':=enc (j.1.setIfInBounds (j.2).toNat (c ^^^ f))) H I Za R R R ty5 R (Ya (v:=j.1) (x:=c ^^^ f) d.1) (s_1 (c ^^^ f : UInt8)) (ZP (v:=j.1) (x:=c ^^^ f) d.1) λw a I H=>Zj (YA (Zz (t_1 (Zn H R R R λa H=>Zd H R λa H=>Zj (Zm ?_)))))
   exact ⟨_,ois b,H.s,I⟩
  intro l b
  refine o_4 (Zu (Zu (YQ ?_)))
  obtain rfl:=t _ (ois b)
  refine Zm ?_
  exact ⟨H.s,I⟩
 rintro a w ⟨H,I⟩
 refine Zz (Zb ?_)
 obtain ⟨A,m,i⟩:=p_1 i
 have n:=Q0 m -- ^
 refine Vf (N:=16) H Za ld R R R R R u_3 ty5 n λa H=>Zc H R λa H=>Ze ?_
 have I:=(M.rawOsl I).cut noB m
 obtain rfl:=o_1 i
 exact p_3 (ZV H R (ZD H R) ⟨_,R,Yc (.slice (some ⟨k,0,none⟩) 16 16) (xj).toNat xD.toNat 1,R,I.outF (ZK Yo),I.kept⟩)
def Xt (b : Int) : Option ((List UInt8)) :=
 (if decide (b < 0) then (none) else (some ()) : Option (Unit)).bind λf=>(if decide ((wr (b - (wr (0 - 0)))) > 0) then ((mkS 1 (0 : UInt8) (wr (b - (wr (0 - 0))))).bind λc=>(slc c (0 : Int) (0 : Int)).bind λd=>some d) else (some ([])) : Option ((List UInt8))).bind λe=>some e
theorem Je (d : World) (i : Int) (r : xg) (J : Xt i = some r) :
  Calls prog 251 [xd,vI i].toArray d (e_r λv w'=>(∃ o : Value,v = o ∧ Fr d w' [osl NoB (r : List UInt8) o] ∧ Kept (Old d) d w')):=by
 refine ce func251 ?_
 intro a H
 have I:=M.start d
 unfold Xt at J
 refine Zb (Zc H R λa H=>Ze ?_)
 obtain ⟨x,c,j⟩:=p_1 J
 refine ZJ (λa w=>Env 27 a [(0,xd),(1,vI i)] ∧ M (Old d) d w []) ?_ ?_
 ·refine Zb (Zd H R λa H=>Zn H R R R λa H=>Ze ?_)
  refine c_if H R c ?_ ?_
  ·intro k c
   cases c
  intro k c
  refine u_2 ?_
  obtain rfl:=o_1 c
  refine Zm ?_
  exact ⟨H.s,I⟩
 rintro a w ⟨H,I⟩
 obtain ⟨q,b,l⟩:=p_1 j
 refine ZJ (λa w=>∃ h : Value,Env 27 a [(0,h)] ∧ M (Old d) d w [osl NoB (q : List UInt8) h]) ?_ ?_
 ·refine Zb (Zd H R λa H=>Zd H R λa H=>Zaw H Za ld R o_2 λa H=>Zd H R λa H=>Zae H Za ld R o_2 λa H=>Zn H R R R λa H=>Zn H R R R λa H=>Zc H R λa H=>Ze (Zb (Zd H R λa H=>Zn H R R R λa H=>Ze ?_)))
  refine c_if H R b ?_ ?_
  ·intro e b
   refine t_1 (Zd H R λa H=>Zd H R λa H=>Zaw H Za ld R o_2 λa H=>Zcg H Za ld R R o_2 ty5 λa H=>Zd H R ?_); intro a H
   obtain ⟨t,m,b⟩:=p_1 b
   refine Zew H I Za ld R R o_2 s_5 ty5 R (by decide) (by decide) (λ_=>Kj.2 ⟨R,R⟩) m λn w a I H=>Zd H R λa H=>Zae H Za ld R o_2 ?_; intro a H
   obtain ⟨u,f,b⟩:=p_1 b
   refine QZ H Za ld R R R R R o_2 ty5 (I.sl0) f ?_; intro a H
   have I:=I.cut noB f
   refine Zc H R λa H=>Zj ?_
   obtain rfl:=o_1 b
   refine Zm ?_
   exact ⟨Yc n (xj).toNat (xj).toNat 1,H.s,I⟩
  intro e b
  refine u_2 ?_
  obtain rfl:=o_1 b
  refine Zm ?_
  have I:=M.nilS (α:=UInt8) NoB noB I
  exact ⟨xd,H.s,I⟩
 rintro a w ⟨h,H,I⟩
 refine Zb (Zd H R λa H=>Zc H R λa H=>Ze ?_)
 obtain rfl:=o_1 l
 exact p_3 (ZV H R (ZD H R) ⟨_,R,h,R,I.outF (ZK Yo),I.kept⟩)
def Wk (d : (List (List UInt8))) (b : Int × Int) : Option (Fl (Int × Int) Int) :=
 if decide (b.1 < (d.length : Int)) then (((idx d b.1).bind λc=>(if decide ((wr (b.2 + (c.length : Int))) < 0) then (none) else (some ()) : Option (Unit)).bind λe=>some (wr (b.2 + (c.length : Int))) : Option (Int)).bind λf=>some (Fl.nx (wr (b.1 + 1),f))) else (some (Fl.ex b.2))
def Wl (d : (List (List UInt8))) (b : Int × (List UInt8)) : Option (Fl (Int × (List UInt8)) (List UInt8)) :=
 if decide (b.1 < (d.length : Int)) then ((idx d b.1).bind λc=>(app 1 b.2 c).bind λe=>some (Fl.nx (wr (b.1 + 1),b.2 ++ c))) else (some (Fl.ex b.2))
def Yy (d : (List (List UInt8))) : Option ((List UInt8)) :=
 (ZQ (Wk d) (0,0)).bind λe=>(Xt e).bind λb=>(ZQ (Wl d) (0,b)).bind λc=>some c
theorem V0 (e : World) (u : (List xg)) (c : Value) (b : Ro e u [c]) (r : xg) (J : Yy u = some r) :
  Calls prog 179 [c].toArray e (e_r λv w'=>(∃ y1 : Value,v = y1 ∧ Fr e w' [osl NoB (r : List UInt8) y1] ∧ Kept (Old e) e w')):=by
 refine ce func179 ?_
 intro a H
 have I:=M.start e
 unfold Yy at J
 refine Zb (Zc H R λa H=>Ze (Zb (Zc H R λa H=>Ze (s_2 (Zb (Zd H R λa H=>YE H R u_5 (I.rd b) λa H=>Zd H R λa H=>Ze ?_))))))
 obtain ⟨j1,L,q⟩:=p_1 J
 refine Z7 (λa w=>Env 36 a [(0,c),(3,vI j1)] ∧ M (Old e) e w []) ?_ ?_
 ·refine p_2 ?_
  refine ZR (λ(x : Int × Int) a w=>Env 36 a [(0,c),(3,vI x.2),(9,c),(10,vI (u.length : Int)),(11,vI x.1)] ∧ M (Old e) e w []) L ⟨H.s,I⟩ ?_
  rintro x a w ⟨H,I⟩ o7 h N
  unfold Wk at h
  refine Zb (Zn H R R R λa H=>Ze (s_2 ?_))
  refine c_if H R h ?_ ?_
  ·intro O h
   refine u_2 (Zz ?_)
   obtain ⟨j9,i,y⟩:=p_1 h
   refine ZJ (λa w=>Env 36 a [(0,c),(3,vI j9),(9,c),(10,vI (u.length : Int)),(11,vI x.1)] ∧ M (Old e) e w []) ?_ ?_
   ·refine p_2 (Zb ?_)
    obtain ⟨T,j,i⟩:=bix i
    refine YG H R R u_5 X7 (I.rd b) j.1 ?_; intro a H
    obtain ⟨ai,n,z⟩:=Wj b j.2 -- ^
    obtain ⟨U,rfl⟩:=QH n -- ^
    have W:=n -- ^
    refine ZB (v:=U) H R X7 R (I.atk z (VZ b j.2)) λa H=>Zc H R λa H=>Ze (Zb (Zd H R λa H=>Zd H R λa H=>YE H R o_2 (I.rd W) λa H=>Zn H R R R λa H=>Zc H R λa H=>Ze (Zb (Zd H R λa H=>Zn H R R R λa H=>Ze ?_))))
    obtain ⟨al,f,A⟩:=p_1 i
    refine Z7 (λa w=>Env 36 a [(0,c),(3,vI (wr (x.2 + (T.length : Int)))),(9,c),(10,vI (u.length : Int)),(11,vI x.1)] ∧ M (Old e) e w []) ?_ ?_
    ·refine c_if H R f ?_ ?_
     ·intro B f
      cases f
     intro B f
     refine u_2 ?_
     obtain rfl:=o_1 f
     refine Zm ?_
     exact ⟨H.s,I⟩
    rintro a w ⟨H,I⟩
    refine YA ?_
    obtain rfl:=o_1 A
    refine Zm ?_
    exact ⟨H.s,I⟩
   rintro a w ⟨H,I⟩
   refine t_1 (Zn H R R R λa H=>Zd H R λa H=>Zj (Zm ?_))
   exact ⟨_,ois y,H.s,I⟩
  intro O h
  refine o_4 (Zu (Zu (YQ ?_)))
  obtain rfl:=N _ (ois h)
  refine Zm ?_
  exact ⟨H.s,I⟩
 rintro a w ⟨H,I⟩
 refine Zz (Zb (Zd H R ?_)); intro a H
 obtain ⟨X,Y,q⟩:=p_1 q
 refine Zp H R (cbm func251) (Je _ j1 X Y) ?_
 rintro Z w a ⟨_,rfl,hFr,hK⟩ H
 have I:=I.add hK hFr
 refine Zc H R λa H=>Ze (s_2 (Zb (Zd H R λa H=>YE H R u_5 (I.rd b) λa H=>Zd H R λa H=>Ze ?_)))
 obtain ⟨aa,C,E⟩:=p_1 q
 refine Z7 (λa w=>∃ l : Value,Env 36 a [(6,l)] ∧ M (Old e) e w [osl NoB (aa : List UInt8) l]) ?_ ?_
 ·refine p_2 ?_
  refine ZR (λ(t : Int × xg) a w=>∃ m : Value,Env 36 a [(6,m),(25,c),(26,vI (u.length : Int)),(27,vI t.1)] ∧ M (Old e) e w [osl NoB (t.2 : List UInt8) m]) C ⟨Z,H.s,I⟩ ?_
  rintro t a w ⟨m,H,I⟩ am d F
  unfold Wl at d
  refine Zb (Zn H R R R λa H=>Ze (s_2 ?_))
  refine c_if H R d ?_ ?_
  ·intro G d
   refine u_2 (Zz (s_2 (p_2 (Zb ?_))))
   obtain ⟨an,k,d⟩:=bix d
   refine YG H R R u_5 X7 (I.rd b) k.1 ?_; intro a H
   obtain ⟨aj,o,K⟩:=Wj b k.2 -- ^
   obtain ⟨ab,rfl⟩:=QH o -- ^
   have ac:=o -- ^
   refine ZB (v:=ab) H R X7 R (I.atk K (VZ b k.2)) λa H=>Zc H R λa H=>Ze (t_1 (Zd H R λa H=>Zd H R ?_)); intro a H
   obtain ⟨ao,ad,d⟩:=p_1 d
   obtain ⟨ae,rfl⟩:=Z1 ad
   refine Z3 H I Za ld R R (I.rd ac) o_2 ty5 R (by decide) ae λaf w a I H=>Zc H R λa H=>Zj (YA (Zz (t_1 (Zn H R R R λa H=>Zd H R λa H=>Zj (Zm ?_)))))
   exact ⟨_,ois d,af,H.s,I⟩
  intro G d
  refine o_4 (Zu (Zu (YQ ?_)))
  obtain rfl:=F _ (ois d)
  refine Zm ?_
  exact ⟨m,H.s,I⟩
 rintro a w ⟨l,H,I⟩
 refine Zz (Zb (Zd H R λa H=>Zc H R λa H=>Ze ?_))
 obtain rfl:=o_1 E
 exact p_3 (ZV H R (ZD H R) ⟨_,R,l,R,I.outF (ZK Yo),I.kept⟩)
def XX (b : V32 × Int) : Option (Fl (V32 × Int) V32) :=
 if decide (b.2 < 32) then ((ZZ b.1 b.2).bind λc=>some (Fl.nx ((b.1.setIfInBounds (b.2).toNat (Zv (wr (17 * b.2)))),wr (b.2 + 1)))) else (some (Fl.ex b.1))
def WU : Option (V32) :=
 (ZQ (XX) ((Vector.replicate 32 (0 : UInt8)),0)).bind λb=>some b
theorem H8 (e : World)  (r : V32) (J : WU  = some r) :
  Calls prog 176 [].toArray e (Rt e (Value.agg (enc r).toArray)):=by
 refine ce func176 ?_
 intro a H
 have I:=M.start e
 unfold WU at J
 refine Zb (Zw H I Yq λj w a I H=>Ze (Zb (XT (parts:=[]) (vs:=[]) (cs:=enc xc) H Za ld R R Yq R ty5 Xj λa H=>Zw H I Yq λk w a I H=>Zk (seg:=enc xc) (cs':=enc xc) H I Za R R R Yq (u_1 _) (zle flq) (s_1 _) (Zh flq) λw a I H=>Ze (s_2 (Zb (Zd H R λa H=>Ze ?_))))))
 obtain ⟨l,m,n⟩:=p_1 J
 refine Z7 (λa w=>Env 14 a [(0,ptr j 0),(1,ptr k 0)] ∧ M (Old e) e w [raw k (enc l),raw j xr]) ?_ ?_
 ·refine p_2 ?_
  refine ZR (λ(c : V32 × Int) a w=>Env 14 a [(0,ptr j 0),(1,ptr k 0),(4,vI c.2)] ∧ M (Old e) e w [raw k (enc c.1),raw j xr]) m ⟨H.s,I⟩ ?_
  rintro c a w ⟨H,I⟩ o b f
  unfold XX at b
  refine Zb (Zn H R R R λa H=>Ze (s_2 ?_))
  refine c_if H R b ?_ ?_
  ·intro h b
   refine u_2 (Zz (s_2 (p_2 (Zb (Zd H R λa H=>Zc H R λa H=>Ze (t_1 (Zd H R λa H=>Zd H R λa H=>Zn H R R R λa H=>YX H Za ld R s_5 t_3 ?_))))))); intro a H
   obtain ⟨q,d,b⟩:=bvx b
   refine ZO H R R t_4 ty5 d.1 λa H=>Zk (seg:=[vB (Zv (wr (17 * c.2)))]) (cs':=enc (c.1.setIfInBounds (c.2).toNat (Zv (wr (17 * c.2))))) H I Za R R R ty5 R (Ya (v:=c.1) (x:=Zv (wr (17 * c.2))) d.1) (s_1 (Zv (wr (17 * c.2)) : UInt8)) (ZP (v:=c.1) (x:=Zv (wr (17 * c.2))) d.1) λw a I H=>Zj (YA (Zz (t_1 (Zn H R R R λa H=>Zd H R λa H=>Zj (Zm ?_)))))
   exact ⟨_,ois b,H.s,I⟩
  intro h b
  refine o_4 (Zu (Zu (YQ ?_)))
  obtain rfl:=f _ (ois b)
  refine Zm ?_
  exact ⟨H.s,I⟩
 rintro a w ⟨H,I⟩
 refine Zz (Zb (Zq H R Yq R I.ra0 (u_1 _) ?_)); intro a H
 have I:=I.pl1
 refine Zk (seg:=enc l) (cs':=enc l) H I Za R R R Yq (u_1 _) (zle flq) (s_1 _) (Zh flq) λw a I H=>Ze ?_
 obtain rfl:=o_1 n
 have i : Yb prog _ _ (.cell 0 32) _:=ZG H R Yq R I.ra0 (u_1 _) R
 exact p_3 (ZV H R i ⟨_,R,R,I.kept⟩)
def Uj (c : Int) (b : (List UInt8) × Int) : Option (Fl ((List UInt8) × Int) (List UInt8)) :=
 if decide (b.2 ≥ 0) then ((Wo (wr (8 * b.2))).bind λ_=>(app 1 b.1 ([Zv (WG c (wr (8 * b.2)))] : List UInt8)).bind λd=>some (Fl.nx ((b.1 ++ ([Zv (WG c (wr (8 * b.2)))] : List UInt8)),wr (b.2 - 1)))) else (some (Fl.ex b.1))
def Xp (b : Int) (c : Int) : Option ((List UInt8)) :=
 (ZQ (Uj b) (([] : List UInt8),wr (c - 1))).bind λd=>some d
theorem KB (c : World) (e : Int) (u : Int) (r : xg) (J : Xp e u = some r) :
  Calls prog 232 [vI e,vI u].toArray c (e_r λv w'=>(∃ x : Value,v = x ∧ Fr c w' [osl NoB (r : List UInt8) x] ∧ Kept (Old c) c w')):=by
 refine ce func232 ?_
 intro a H
 have I:=M.start c
 unfold Xp at J
 refine Zb (Zc H R λa H=>Ze (Zb (ZL (xs:=[]) (l:=xx) (vs:=[]) H I Za ld R R o_2 ty5 R (by decide) R λy w a I H=>Zc H R λa H=>Ze (s_2 (Zb (Zd H R λa H=>Zn H R R R λa H=>Zc H R λa H=>Ze ?_))))))
 obtain ⟨z,m,n⟩:=p_1 J
 refine Z7 (λa w=>∃ j : Value,Env 23 a [(5,j)] ∧ M (Old c) c w [osl NoB (z : List UInt8) j]) ?_ ?_
 ·refine p_2 ?_
  refine ZR (λ(f : xg × Int) a w=>∃ k : Value,Env 23 a [(0,vI e),(5,k),(6,vI f.2)] ∧ M (Old c) c w [osl NoB (f.1 : List UInt8) k]) m ⟨y,H.s,I⟩ ?_
  rintro f a w ⟨k,H,I⟩ A b h
  unfold Uj at b
  refine s_2 (Zb (Zd H R λa H=>Zn H R R R λa H=>Ze ?_))
  refine c_if H R b ?_ ?_
  ·intro i b
   refine u_2 (Zz (s_2 (p_2 (t_1 (Zd H R λa H=>Zd H R λa H=>Zd H R λa H=>Zn H R R R ?_))))); intro a H
   obtain ⟨_,d,b⟩:=p_1 b
   have d:=Vt d
   refine BF H Za ld R R (Bf _ _ d) λa H=>YX H Za ld R s_4 t_3 λa H=>ZL (xs:=[.tmp 19]) (l:=([Zv (WG e (wr (8 * f.2)))] : List UInt8)) (vs:=[vB (Zv (WG e (wr (8 * f.2))))]) H I Za ld R R o_2 ty5 R (by decide) R ?_; intro B w a I H
   obtain ⟨C,o,b⟩:=p_1 b
   obtain ⟨q,rfl⟩:=Z1 o
   have I:=I.pl1
   refine Z3 H I Za ld R R (I.sl1) o_2 ty5 R (by decide) q λt w a I H=>Zc H R λa H=>Zj (YA (Zz (t_1 (Zd H R λa H=>Zn H R R R λa H=>Zc H R λa H=>Zj (Zm ?_)))))
   have I:=M.fst (l:=[_]) I
   exact ⟨_,ois b,t,H.s,I⟩
  intro i b
  refine o_4 (Zu (Zu (YQ ?_)))
  obtain rfl:=h _ (ois b)
  refine Zm ?_
  exact ⟨k,H.s,I⟩
 rintro a w ⟨j,H,I⟩
 refine Zz (Zb (Zd H R λa H=>Zc H R λa H=>Ze ?_))
 obtain rfl:=o_1 n
 exact p_3 (ZV H R (ZD H R) ⟨_,R,j,R,I.outF (ZK Yo),I.kept⟩)
def Tn (b : (List UInt8)) : Option (Fl (List UInt8) (List UInt8)) :=
 if (Int.tmod (b.length : Int) 16) != 8 then ((app 1 b ([0] : List UInt8)).bind λc=>some (Fl.nx (b ++ ([0] : List UInt8)))) else (some (Fl.ex b))
def Uq (d : (List UInt8)) : Option ((List UInt8)) :=
 (Yi d).bind λe=>(app 1 e ([128] : List UInt8)).bind λh=>(ZQ (Tn) (e ++ ([128] : List UInt8))).bind λb=>(Xp (d.length : Int) 8).bind λc=>(app 1 b c).bind λf=>some (b ++ c)
theorem A2 (f : World) (o : xg) (c : Value) (e : Ro f o [c]) (r : xg) (J : Uq o = some r) :
  Calls prog 178 [c].toArray f (e_r λv w'=>(∃ F : Value,v = F ∧ Fr f w' [osl NoB (r : List UInt8) F] ∧ Kept (Old f) f w')):=by
 refine ce func178 ?_
 intro a H
 have I:=M.start f
 unfold Uq at J
 refine Zb (Zc H R λa H=>Ze (Zb (Zd H R ?_))); intro a H
 obtain ⟨G,K,J⟩:=p_1 J
 refine Zp H R cb91 (Xq _ o c (I.rdo e) G K) ?_
 rintro X w a ⟨_,rfl,hFr,hK⟩ H
 have I:=I.add hK hFr
 refine ZL (xs:=[.const (vB 128)]) (l:=([128] : List UInt8)) (vs:=[vB 128]) H I Za ld R R o_2 ty5 R (by decide) R ?_; intro Y w a I H
 obtain ⟨Z,L,J⟩:=p_1 J
 obtain ⟨q,rfl⟩:=Z1 L
 have I:=I.pl1
 refine Z3 H I Za ld R R (I.sl1) o_2 ty5 R (by decide) q λu8 w a I H=>Zc H R λa H=>Ze ?_
 obtain ⟨t,j,d⟩:=p_1 J
 refine ZJ (λa w=>∃ i : Value,Env 20 a [(0,c),(3,i)] ∧ M (Old f) f w [osl NoB (t : List UInt8) i]) ?_ ?_
 ·refine p_2 ?_
  have I:=M.fst (l:=[_]) I
  refine ZR (λ(k : xg) a w=>∃ h : Value,Env 20 a [(0,c),(3,h)] ∧ M (Old f) f w [osl NoB (k : List UInt8) h]) j ⟨u8,H.s,I⟩ ?_
  rintro k a w ⟨h,H,I⟩ N b m
  unfold Tn at b
  refine s_2 (Zb (Zd H R λa H=>YE H R o_2 (I.sl0) λa H=>Zn H R R (KG _ _ (by decide)) λa H=>Zn H R R R λa H=>Ze ?_))
  refine c_if H R b ?_ ?_
  ·intro n b
   refine u_2 (Zz (p_2 (t_1 (Zd H R λa H=>ZL (xs:=[.const (vB 0)]) (l:=([0] : List UInt8)) (vs:=[vB 0]) H I Za ld R R o_2 ty5 R (by decide) R ?_)))); intro O w a I H
   obtain ⟨T,u,b⟩:=p_1 b
   obtain ⟨x,rfl⟩:=Z1 u
   have I:=I.pl1
   refine Z3 H I Za ld R R (I.sl1) o_2 ty5 R (by decide) x λy w a I H=>Zc H R λa H=>Zj (YA (Zm ?_))
   have I:=M.fst (l:=[_]) I
   exact ⟨_,ois b,y,H.s,I⟩
  intro n b
  refine o_4 (Zu (Zu (YQ ?_)))
  obtain rfl:=m _ (ois b)
  refine Zm ?_
  exact ⟨h,H.s,I⟩
 rintro a w ⟨i,H,I⟩
 refine Zb (Zd H R λa H=>Zd H R λa H=>YE H R o_2 (I.rd e) ?_); intro a H
 obtain ⟨z,A,d⟩:=p_1 d
 refine Zp H R Zf8 (KB _ (o.length : Int) 8 z A) ?_
 rintro U w a ⟨_,rfl,hFr,hK⟩ H
 have I:=I.add hK hFr
 obtain ⟨W,B,d⟩:=p_1 d
 obtain ⟨C,rfl⟩:=Z1 B
 have I:=I.pl1
 refine Z3 H I Za ld R R (I.sl1) o_2 ty5 R (by decide) C λE w a I H=>Zc H R λa H=>Ze ?_
 obtain rfl:=o_1 d
 have I:=M.fst (l:=[_]) I
 exact p_3 (ZV H R (ZD H R) ⟨_,R,E,R,I.outF (ZK Yo),I.kept⟩)
def VI (e : (List UInt8)) (b : (List V16) × Int) : Option (Fl ((List V16) × Int) (List V16)) :=
 if decide (b.2 < (e.length : Int)) then ((slc e b.2 (wr (b.2 + 16))).bind λd=>(Ky 16 d).bind λc=>(app 16 b.1 ([c] : List V16)).bind λf=>some (Fl.nx ((b.1 ++ ([c] : List V16)),wr (b.2 + 16)))) else (some (Fl.ex b.1))
def TF (b : (List UInt8)) : Option ((List V16)) :=
 (ZQ (VI b) (([] : List V16),0)).bind λc=>some c
theorem yl (e : World) (B : xg) (d : Value) (c : Ro e B [d]) (r : xv) (J : TF B = some r) :
  Calls prog 177 [d].toArray e (e_r λv w'=>(∃ C : Value,v = C ∧ Fr e w' [osl NoB (r : List V16) C] ∧ Kept (Old e) e w')):=by
 refine ce func177 ?_
 intro a H
 have I:=M.start e
 unfold TF at J
 refine Zb (Zc H R λa H=>Ze (Zb (ZL (xs:=[]) (l:=([] : List V16)) (vs:=[]) H I Za ld R R s_3 ZE R (by decide) R λE w a I H=>Zc H R λa H=>Ze (s_2 (Zb (Zc H R λa H=>Ze ?_))))))
 obtain ⟨F,t,u⟩:=p_1 J
 refine Z7 (λa w=>∃ o : Value,Env 23 a [(3,o)] ∧ M (Old e) e w [osl NoB (F : List V16) o]) ?_ ?_
 ·refine p_2 ?_
  refine ZR (λ(f : xv × Int) a w=>∃ q : Value,Env 23 a [(0,d),(3,q),(4,vI f.2)] ∧ M (Old e) e w [osl NoB (f.1 : List V16) q]) t ⟨E,H.s,I⟩ ?_
  rintro f a w ⟨q,H,I⟩ G b h
  unfold VI at b
  refine s_2 (Zb (Zd H R λa H=>Zd H R λa H=>YE H R o_2 (I.rd c) λa H=>Zn H R R R λa H=>Ze ?_))
  refine c_if H R b ?_ ?_
  ·intro i b
   refine u_2 (Zz (s_2 (p_2 (t_1 (Zd H R λa H=>Zd H R λa H=>Zd H R λa H=>Zd H R λa H=>Zn H R R R ?_))))); intro a H
   obtain ⟨x,j,b⟩:=p_1 b
   refine QZ H Za ld R R R R R o_2 ty5 (I.rd c) j ?_; intro a H
   have k : Rep.sat (Old e) e x [Yc d (f.2).toNat ((wr (f.2 + 16))).toNat 1] []:=Xh c j -- ^
   obtain ⟨m,n,b⟩:=p_1 b
   refine AQ H Za ld R u_3 (I.rd k) (KC n).1 (by decide) λa H=>Zq H R ZE R (y7 (I.rd k) n (by decide)) (u_1 _) λa H=>ZL (xs:=[.tmp 19]) (l:=([m] : List V16)) (vs:=[Value.agg (enc m).toArray]) H I Za ld R R s_3 ZE R (by decide) R ?_; intro K w a I H
   obtain ⟨L,y,b⟩:=p_1 b
   obtain ⟨z,rfl⟩:=Z1 y
   have I:=I.pl1
   refine Z3 H I Za ld R R (I.sl1) s_3 ZE R (by decide) z λA w a I H=>Zc H R λa H=>Zj (YA (Zz (t_1 (Zd H R λa H=>Zn H R R R λa H=>Zc H R λa H=>Zj (Zm ?_)))))
   have I:=M.fst (l:=[_]) I
   exact ⟨_,ois b,A,H.s,I⟩
  intro i b
  refine o_4 (Zu (Zu (YQ ?_)))
  obtain rfl:=h _ (ois b)
  refine Zm ?_
  exact ⟨q,H.s,I⟩
 rintro a w ⟨o,H,I⟩
 refine Zz (Zb (Zd H R λa H=>Zc H R λa H=>Ze ?_))
 obtain rfl:=o_1 u
 exact p_3 (ZV H R (ZD H R) ⟨_,R,o,R,I.outF (ZK Yo),I.kept⟩)
def W5 (e : V16) (b : V16 × Int) : Option (Fl (V16 × Int) V16) :=
 if decide (b.2 < 16) then ((ZZ b.1 b.2).bind λc=>(ZZ e b.2).bind λd=>(ZZ b.1 b.2).bind λf=>some (Fl.nx ((b.1.setIfInBounds (b.2).toNat (c ^^^ d)),wr (b.2 + 1)))) else (some (Fl.ex b.1))
def Xc (b : V16) (c : V16) : Option (V16) :=
 (ZQ (W5 c) (b,0)).bind λd=>some d
theorem VE (j : World) (y : V16) (o : V16) (r : V16) (J : Xc y o = some r) :
  Calls prog 206 [Value.agg (enc y).toArray,Value.agg (enc o).toArray].toArray j (Rt j (Value.agg (enc r).toArray)):=by
 refine ce func206 ?_
 intro a H
 have I:=M.start j
 unfold Xc at J
 refine Zb (Z2 (cs:=enc y) H I Za ld R R λq w a I H=>Z2 (cs:=enc o) H I Za ld R R λF w a I H=>Zw H I ZE λt w a I H=>Ze (s_2 (Zb (Zd H R λa H=>Ze ?_))))
 obtain ⟨A,B,C⟩:=p_1 J
 refine Z7 (λa w=>Env 19 a [(2,ptr q 0),(4,ptr t 0)] ∧ M (Old j) j w [raw t xp,raw q (enc A)]) ?_ ?_
 ·refine p_2 ?_
  refine ZR (λ(e : V16 × Int) a w=>Env 19 a [(2,ptr q 0),(3,ptr F 0),(4,ptr t 0),(6,vI e.2)] ∧ M (Old j) j w [raw t xp,raw F (enc o),raw q (enc e.1)]) B ⟨H.s,I⟩ ?_
  rintro e a w ⟨H,I⟩ G b k
  unfold W5 at b
  refine Zb (Zn H R R R λa H=>Ze (s_2 ?_))
  refine c_if H R b ?_ ?_
  ·intro m b
   refine u_2 (Zz (s_2 (p_2 (Zb (Zd H R λa H=>Zc H R λa H=>Ze ?_)))))
   obtain ⟨c,h,b⟩:=bvx b
   obtain ⟨d,i,b⟩:=bvx b
   obtain ⟨K,f,b⟩:=bvx b
   refine Z9 [9,10,11,12,13,14,15,16] Yt R R (by decide) R H I (q_m (λ_=>R) (qsP (λz=>ZW z.E Za ld R R u_3 ty5 h.1 (kr0 R)) (qsP (λz=>Zy (v:=(vB c)) z.E Za ld R ty5 R (At.vec (z.M.ra2) h.2) (kr0 R)) (q_m (λ_=>R) (qsP (λz=>ZW z.E Za ld R R u_3 ty5 i.1 (kr0 R)) (qsP (λz=>Zy (v:=(vB d)) z.E Za ld R ty5 R (At.vec (z.M.ra1) i.2) (kr0 R)) (qsP (v:=(vB (c ^^^ d))) (λz=>Z8 z.E Za ld R R (Vs c d) (kr0 R)) (qsP (λz=>ZW z.E Za ld R R u_3 ty5 f.1 (kr0 R)) qs0)))))))) ?_
   ·intro a w u H I
    have I:=I.pl2
    refine Zk (seg:=[vB (c ^^^ d)]) (cs':=enc (e.1.setIfInBounds (e.2).toNat (c ^^^ d))) H I Za R R R ty5 R (Ya (v:=e.1) (x:=c ^^^ d) f.1) (s_1 (c ^^^ d : UInt8)) (ZP (v:=e.1) (x:=c ^^^ d) f.1) λw a I H=>Zj (YA (Zz (t_1 (Zn H R R R λa H=>Zd H R λa H=>Zj (Zm ?_)))))
    have I:=I.pl2.pl2
    exact ⟨_,ois b,H.s,I⟩
  intro m b
  refine o_4 (Zu (Zu (YQ ?_)))
  obtain rfl:=k _ (ois b)
  refine Zm ?_
  have I:=M.fst (l:=[_,_]) I.pl2.pl1
  exact ⟨H.s,I⟩
 rintro a w ⟨H,I⟩
 refine Zz (Zb (Zq H R ZE R I.ra1 (u_1 _) λa H=>Zk (seg:=enc A) (cs':=enc A) H I Za R R R ZE (u_1 _) (zle flq) (s_1 _) (Zh flq) λw a I H=>Ze ?_))
 obtain rfl:=o_1 C
 have n : Yb prog _ _ (.cell 4 53) _:=ZG H R ZE R I.ra0 (u_1 _) R
 exact p_3 (ZV H R n ⟨_,R,R,I.kept⟩)
def XR (f : (Ref Gengine)) (b : V16 × Int) : Option (Fl (V16 × Int) V16) :=
 if decide (b.2 < 16) then ((ZZ b.1 b.2).bind λc=>(ZZ b.1 (wr (b.2 - 1))).bind λd=>(ZZ f.v.box (bI d)).bind λe=>(ZZ b.1 b.2).bind λh=>some (Fl.nx ((b.1.setIfInBounds (b.2).toNat (c ^^^ e)),wr (b.2 + 1)))) else (some (Fl.ex b.1))
def WL (h : (Ref Gengine)) (b : V16) (i : Int) : Option (V16) :=
 ((ZZ b (0 : Int)).bind λc=>(ZZ b (15 : Int)).bind λd=>(ZZ h.v.box (bI (d ^^^ (Zv i)))).bind λe=>(ZZ b (0 : Int)).bind λj=>some (b.setIfInBounds ((0 : Int)).toNat (c ^^^ e)) : Option (V16)).bind λk=>(ZQ (XR h) (k,1)).bind λf=>some f
theorem HI (n : World) (p0 : (Ref Gengine)) (j : Value) (k : Ro n p0 [j]) (F : V16) (p2 : Int) (r : V16) (J : WL p0 F p2 = some r) :
  Calls prog 274 [j,Value.agg (enc F).toArray,vI p2].toArray n (Rt n (Value.agg (enc r).toArray)):=by
 refine ce func274 ?_
 intro a H
 have I:=M.start n
 unfold WL at J
 refine Zb (Z2 (cs:=enc F) H I Za ld R R λG w a I H=>Zw H I ZE λK w a I H=>Ze ?_)
 obtain ⟨j5,c,ag⟩:=p_1 J
 refine ZJ (λa w=>Env 41 a [(0,j),(4,ptr G 0),(6,ptr K 0)] ∧ M (Old n) n w [raw K xp,raw G (enc j5)]) ?_ ?_
 ·obtain ⟨d,L,c⟩:=bvx c
  obtain ⟨B,o,c⟩:=bvx c
  obtain ⟨aj,ak,N,O,T,U⟩:=QK k -- ^
  obtain ⟨ao,ap,rfl,aq,ar⟩:=KJ O -- ^
  obtain ⟨e,q,c⟩:=bvx c
  obtain ⟨au,l,c⟩:=bvx c
  refine Z9 [8,9,10,11,12,13,14,15,16,17,18,19,20,21] Yt R R (by decide) R H I (qsP (λz=>ZW z.E Za ld R R u_3 ty5 L.1 (kr0 R)) (qsP (λz=>Zy (v:=(vB d)) z.E Za ld R ty5 R (At.vec (z.M.ra1) L.2) (kr0 R)) (q_m (λ_=>R) (qsP (λz=>ZW z.E Za ld R R u_3 ty5 o.1 (kr0 R)) (qsP (λz=>Zy (v:=(vB B)) z.E Za ld R ty5 R (At.vec (z.M.ra1) o.2) (kr0 R)) (q_m (λ_=>R) (qsP (λz=>YX z.E Za ld R s_4 t_3 (kr0 R)) (qsP (v:=(vB (B ^^^ (Zv p2)))) (λz=>Z8 z.E Za ld R R (Vs B (Zv p2)) (kr0 R)) (qsP (λz=>Yj z.E Za ld (lk R N) (kr0 R)) (qsP (λz=>Zg z.E Za ld R (qQ) (kr0 R)) (qsP (λz=>ZW z.E Za ld R R o_6 ty5 q.1 (kr0 R)) (qsP (λz=>Zy (v:=(vB e)) z.E Za ld R ty5 R (At.vec (at_0 (z.M.atk T U)) q.2) (kr0 R)) (qsP (v:=(vB (d ^^^ e))) (λz=>Z8 z.E Za ld R R (Vs d e) (kr0 R)) (qsP (λz=>ZW z.E Za ld R R u_3 ty5 l.1 (kr0 R)) qs0)))))))))))))) ?_
  ·intro a w u H I
   have I:=I.pl1
   refine Zk (seg:=[vB (d ^^^ e)]) (cs':=enc (F.setIfInBounds (xj).toNat (d ^^^ e))) H I Za R R R ty5 R (Ya (v:=F) (x:=d ^^^ e) l.1) (s_1 (d ^^^ e : UInt8)) (ZP (v:=F) (x:=d ^^^ e) l.1) λw a I H=>Zj ?_
   obtain rfl:=o_1 c
   refine Zm ?_
   have I:=I.pl1
   exact ⟨H.s,I⟩
 rintro a w ⟨H,I⟩
 refine s_2 (Zb (Zc H R λa H=>Ze ?_))
 obtain ⟨C,W,X⟩:=p_1 ag
 refine Z7 (λa w=>Env 41 a [(4,ptr G 0),(6,ptr K 0)] ∧ M (Old n) n w [raw K xp,raw G (enc C)]) ?_ ?_
 ·refine p_2 ?_
  refine ZR (λ(f : V16 × Int) a w=>Env 41 a [(0,j),(4,ptr G 0),(6,ptr K 0),(7,vI f.2)] ∧ M (Old n) n w [raw K xp,raw G (enc f.1)]) W ⟨H.s,I⟩ ?_
  rintro f a w ⟨H,I⟩ av b Y
  unfold XR at b
  refine s_2 (Zb (Zd H R λa H=>Zn H R R R λa H=>Ze ?_))
  refine c_if H R b ?_ ?_
  ·intro Z b
   refine u_2 (Zz (s_2 (p_2 ?_)))
   obtain ⟨h,t,b⟩:=bvx b
   obtain ⟨ah,y,b⟩:=bvx b
   obtain ⟨al,am,aa,ab,ac,ad⟩:=QK k -- ^
   obtain ⟨aw,ax,rfl,ay,az⟩:=KJ ab -- ^
   obtain ⟨i,A,b⟩:=bvx b
   obtain ⟨a0,m,b⟩:=bvx b
   refine Z9 [26,27,28,29,30,31,32,33,34,35,36,37,38,39] Yt R R (by decide) R H I (q_m (λ_=>R) (qsP (λz=>ZW z.E Za ld R R u_3 ty5 t.1 (kr0 R)) (qsP (λz=>Zy (v:=(vB h)) z.E Za ld R ty5 R (At.vec (z.M.ra1) t.2) (kr0 R)) (q_m (λ_=>R) (q_m (λ_=>R) (qsP (v:=(vI (wr (f.2 - 1)))) (λz=>Z8 z.E Za ld R R R (kr0 R)) (qsP (λz=>ZW z.E Za ld R R u_3 ty5 y.1 (kr0 R)) (qsP (λz=>Zy (v:=(vB ah)) z.E Za ld R ty5 R (At.vec (z.M.ra1) y.2) (kr0 R)) (qsP (λz=>Yj z.E Za ld (lk R aa) (kr0 R)) (qsP (λz=>Zg z.E Za ld R (qQ) (kr0 R)) (qsP (λz=>ZW z.E Za ld R R o_6 ty5 A.1 (kr0 R)) (qsP (λz=>Zy (v:=(vB i)) z.E Za ld R ty5 R (At.vec (at_0 (z.M.atk ac ad)) A.2) (kr0 R)) (qsP (v:=(vB (h ^^^ i))) (λz=>Z8 z.E Za ld R R (Vs h i) (kr0 R)) (qsP (λz=>ZW z.E Za ld R R u_3 ty5 m.1 (kr0 R)) qs0)))))))))))))) ?_
   ·intro a w u H I
    have I:=I.pl1
    refine Zk (seg:=[vB (h ^^^ i)]) (cs':=enc (f.1.setIfInBounds (f.2).toNat (h ^^^ i))) H I Za R R R ty5 R (Ya (v:=f.1) (x:=h ^^^ i) m.1) (s_1 (h ^^^ i : UInt8)) (ZP (v:=f.1) (x:=h ^^^ i) m.1) λw a I H=>Zj (YA (Zz (t_1 (Zd H R λa H=>Zn H R R R λa H=>Zc H R λa H=>Zj (Zm ?_)))))
    have I:=I.pl1
    exact ⟨_,ois b,H.s,I⟩
  intro Z b
  refine o_4 (Zu (Zu (YQ ?_)))
  obtain rfl:=Y _ (ois b)
  refine Zm ?_
  exact ⟨H.s,I⟩
 rintro a w ⟨H,I⟩
 refine Zz (Zb (Zq H R ZE R I.ra1 (u_1 _) λa H=>Zk (seg:=enc C) (cs':=enc C) H I Za R R R ZE (u_1 _) (zle flq) (s_1 _) (Zh flq) λw a I H=>Ze ?_))
 obtain rfl:=o_1 X
 have ae : Yb prog _ _ (.cell 6 53) _:=ZG H R ZE R I.ra0 (u_1 _) R
 exact p_3 (ZV H R ae ⟨_,R,R,I.kept⟩)
def Ww (d : (Ref Gengine)) (e : Int) (b : V16 × (List V16) × Int) : Option (Fl (V16 × (List V16) × Int) (List V16)) :=
 if decide (b.2.2 ≤ e) then ((WL d b.1 b.2.2).bind λc=>(app 16 b.2.1 ([c] : List V16)).bind λf=>some (Fl.nx (c,b.2.1 ++ ([c] : List V16),wr (b.2.2 + 1)))) else (some (Fl.ex b.2.1))
def VV (c : (Ref Gengine)) (b : V16) (d : Int) : Option ((List V16)) :=
 (ZQ (Ww c d) (b,([b] : List V16),1)).bind λe=>some e
theorem BR (f : World) (n : (Ref Gengine)) (c : Value) (i : Ro f n [c]) (j : V16) (o : Int) (r : xv) (J : VV n j o = some r) :
  Calls prog 204 [c,Value.agg (enc j).toArray,vI o].toArray f (e_r λv w'=>(∃ A : Value,v = A ∧ Fr f w' [osl NoB (r : List V16) A] ∧ Kept (Old f) f w')):=by
 refine ce func204 ?_
 intro a H
 have I:=M.start f
 unfold VV at J
 refine Zb (Z2 (cs:=enc j) H I Za ld R R λB w a I H=>Zc H R λa H=>Ze (Zb (Zq H R ZE R I.ra0 (u_1 _) λa H=>ZL (xs:=[.tmp 9]) (l:=([j] : List V16)) (vs:=[Value.agg (enc j).toArray]) H I Za ld R R s_3 ZE R (by decide) R λC w a I H=>Zc H R λa H=>Ze (s_2 (Zb (Zc H R λa H=>Ze ?_))))))
 obtain ⟨E,q,t⟩:=p_1 J
 refine Z7 (λa w=>∃ u8 : Value,Env 25 a [(7,u8)] ∧ M (Old f) f w [osl NoB (E : List V16) u8]) ?_ ?_
 ·refine p_2 ?_
  have I:=I.pl1
  refine ZR (λ(d : V16 × xv × Int) a w=>∃ h : Value,Env 25 a [(0,c),(2,vI o),(4,ptr B 0),(7,h),(8,vI d.2.2)] ∧ M (Old f) f w [raw B (enc d.1),osl NoB (d.2.1 : List V16) h]) q ⟨C,H.s,I⟩ ?_
  rintro d a w ⟨h,H,I⟩ F b k
  unfold Ww at b
  refine s_2 (Zb (Zd H R λa H=>Zd H R λa H=>Zn H R R R λa H=>Ze ?_))
  refine c_if H R b ?_ ?_
  ·intro m b
   refine u_2 (Zz (s_2 (p_2 (Zb (Zd H R λa H=>Zq H R ZE R I.ra0 (u_1 _) λa H=>Zd H R ?_))))); intro a H
   obtain ⟨e,u,b⟩:=p_1 b
   refine c_k H I R (cbm func274) (HI _ n c (I.rdo i) d.1 d.2.2 e u) ?_; intro w a I H
   refine Zk (seg:=enc e) (cs':=enc e) H I Za R R R ZE (u_1 _) (zle flq) (s_1 _) (Zh flq) λw a I H=>Ze (t_1 (Zd H R λa H=>Zq H R ZE R I.ra0 (u_1 _) λa H=>ZL (xs:=[.tmp 21]) (l:=([e] : List V16)) (vs:=[Value.agg (enc e).toArray]) H I Za ld R R s_3 ZE R (by decide) R ?_)); intro G w a I H
   obtain ⟨K,x,b⟩:=p_1 b
   obtain ⟨y,rfl⟩:=Z1 x
   have I:=I.pl2
   refine Z3 H I Za ld R R (I.sl1) s_3 ZE R (by decide) y λz w a I H=>Zc H R λa H=>Zj (YA (Zz (t_1 (Zd H R λa H=>Zn H R R R λa H=>Zc H R λa H=>Zj (Zm ?_)))))
   have I:=M.fst (l:=[_,_]) I.pl2
   exact ⟨_,ois b,z,H.s,I⟩
  intro m b
  refine o_4 (Zu (Zu (YQ ?_)))
  obtain rfl:=k _ (ois b)
  refine Zm ?_
  have I:=M.fst (l:=[_]) I.pl1
  exact ⟨h,H.s,I⟩
 rintro a w ⟨u8,H,I⟩
 refine Zz (Zb (Zd H R λa H=>Zc H R λa H=>Ze ?_))
 obtain rfl:=o_1 t
 exact p_3 (ZV H R (ZD H R) ⟨_,R,u8,R,I.outF (ZK Yo),I.kept⟩)
def Wr (e : V16) (f : V16) (b : V16 × Int) : Option (Fl (V16 × Int) V16) :=
 if decide (b.2 < 16) then ((ZZ e b.2).bind λc=>(ZZ f (bI c)).bind λd=>(ZZ b.1 b.2).bind λh=>some (Fl.nx ((b.1.setIfInBounds (b.2).toNat d),wr (b.2 + 1)))) else (some (Fl.ex b.1))
def VR (b : V16) (c : V16) : Option (V16) :=
 (ZQ (Wr b c) ((Vector.replicate 16 (0 : UInt8)),0)).bind λd=>some d
theorem BY (h : World) (q : V16) (t : V16) (r : V16) (J : VR q t = some r) :
  Calls prog 318 [Value.agg (enc q).toArray,Value.agg (enc t).toArray].toArray h (Rt h (Value.agg (enc r).toArray)):=by
 refine ce func318 ?_
 intro a H
 have I:=M.start h
 unfold VR at J
 refine Zb (Z2 (cs:=enc q) H I Za ld R R λF w a I H=>Z2 (cs:=enc t) H I Za ld R R λA w a I H=>Zw H I ZE λu w a I H=>Ze (Zb (XT (parts:=[]) (vs:=[]) (cs:=enc xb) H Za ld R R ZE R ty5 Xj λa H=>Zw H I ZE λy w a I H=>Zk (seg:=enc xb) (cs':=enc xb) H I Za R R R ZE (u_1 _) (zle flq) (s_1 _) (Zh flq) λw a I H=>Ze (s_2 (Zb (Zq H R BC R I.ra3 (u_1 _) λa H=>Zd H R λa H=>Ze ?_))))))
 obtain ⟨z,i,j⟩:=p_1 J
 refine Z7 (λa w=>Env 21 a [(4,ptr u 0),(5,ptr y 0)] ∧ M (Old h) h w [raw y (enc z),raw u xp]) ?_ ?_
 ·refine p_2 ?_
  have I:=M.fst (l:=[_,_,_]) I.pl2.pl2.pl2
  refine ZR (λ(c : V16 × Int) a w=>Env 21 a [(3,ptr A 0),(4,ptr u 0),(5,ptr y 0),(9,Value.agg (enc q).toArray),(10,vI c.2)] ∧ M (Old h) h w [raw y (enc c.1),raw u xp,raw A (enc t)]) i ⟨H.s,I⟩ ?_
  rintro c a w ⟨H,I⟩ B b k
  unfold Wr at b
  refine Zb (Zn H R R R λa H=>Ze (s_2 ?_))
  refine c_if H R b ?_ ?_
  ·intro m b
   refine u_2 (Zz (s_2 (p_2 (Zb (Zd H R ?_))))); intro a H
   obtain ⟨C,n,b⟩:=bvx b
   refine H4 H Za ld R R p_7 ty5 R R n R λa H=>Zc H R λa H=>Zc H R λa H=>Ze (t_1 (Zd H R λa H=>Zd H R ?_)); intro a H
   obtain ⟨d,f,b⟩:=bvx b
   refine ZO H R R u_3 ty5 f.1 λa H=>ZB (v:=(vB d)) H R ty5 R (At.vec I.ra2 f.2) ?_; intro a H
   obtain ⟨E,e,b⟩:=bvx b
   refine ZO H R R u_3 ty5 e.1 λa H=>Zk (seg:=[vB d]) (cs':=enc (c.1.setIfInBounds (c.2).toNat d)) H I Za R R R ty5 R (Ya (v:=c.1) (x:=d) e.1) (s_1 (d : UInt8)) (ZP (v:=c.1) (x:=d) e.1) λw a I H=>Zj (YA (Zz (t_1 (Zn H R R R λa H=>Zd H R λa H=>Zj (Zm ?_)))))
   exact ⟨_,ois b,H.s,I⟩
  intro m b
  refine o_4 (Zu (Zu (YQ ?_)))
  obtain rfl:=k _ (ois b)
  refine Zm ?_
  have I:=M.fst (l:=[_,_]) I.pl1.pl1
  exact ⟨H.s,I⟩
 rintro a w ⟨H,I⟩
 refine Zz (Zb (Zq H R ZE R I.ra0 (u_1 _) ?_)); intro a H
 have I:=I.pl1
 refine Zk (seg:=enc z) (cs':=enc z) H I Za R R R ZE (u_1 _) (zle flq) (s_1 _) (Zh flq) λw a I H=>Ze ?_
 obtain rfl:=o_1 j
 have o : Yb prog _ _ (.cell 4 53) _:=ZG H R ZE R I.ra0 (u_1 _) R
 exact p_3 (ZV H R o ⟨_,R,R,I.kept⟩)
def W6 (c : (Ref (Vector (Vector V256 4) 4))) (u : V16 × Int) (d : UInt8 × UInt8 × UInt8 × UInt8) (b : V16 × Int) : Option (Fl (V16 × Int) V16) :=
 if decide (b.2 < 4) then ((ZZ c.v b.2).bind λe=>(ZZ e (0 : Int)).bind λf=>(ZZ f (bI d.1)).bind λh=>(ZZ c.v b.2).bind λi=>(ZZ i (1 : Int)).bind λj=>(ZZ j (bI d.2.1)).bind λk=>(ZZ c.v b.2).bind λl=>(ZZ l (2 : Int)).bind λm=>(ZZ m (bI d.2.2.1)).bind λn=>(ZZ c.v b.2).bind λo=>(ZZ o (3 : Int)).bind λq=>(ZZ q (bI d.2.2.2)).bind λt=>(ZZ b.1 (wr (u.2 + b.2))).bind λx=>some (Fl.nx ((b.1.setIfInBounds ((wr (u.2 + b.2))).toNat (((h ^^^ k) ^^^ n) ^^^ t)),wr (b.2 + 1)))) else (some (Fl.ex b.1))
def W4 (i : (Ref (Vector (Vector V256 4) 4))) (b : V16 × Int) : Option (Fl (V16 × Int) V16) :=
 if decide (b.2 < (b.1.toList.length : Int)) then (((ZZ b.1 b.2).bind λc=>(ZZ b.1 (wr (b.2 + 1))).bind λd=>(ZZ b.1 (wr (b.2 + 2))).bind λe=>(ZZ b.1 (wr (b.2 + 3))).bind λf=>some (c,d,e,f) : Option (UInt8 × UInt8 × UInt8 × UInt8)).bind λj=>(ZQ (W6 i b j) (b.1,0)).bind λh=>some (Fl.nx (h,wr (b.2 + 4)))) else (some (Fl.ex b.1))
def U9 (b : (Ref (Vector (Vector V256 4) 4))) (c : V16) : Option (V16) :=
 (ZQ (W4 b) (c,0)).bind λd=>some d
end

end Go.Proofs.YtfhhlkkhcoaapaaGreat
