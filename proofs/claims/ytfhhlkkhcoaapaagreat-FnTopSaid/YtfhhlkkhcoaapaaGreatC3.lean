/- The walk of what the law reaches: contracts of functions. -/
import Derived.Test.YtfhhlkkhcoaapaaGreatC2
set_option linter.unusedVariables false
set_option linter.unusedSimpArgs false
set_option maxRecDepth 20000
set_option maxHeartbeats 400000
namespace Go.Proofs.YtfhhlkkhcoaapaaGreat
open Go Go.Proofs.Tryz
open Flat (enc)
noncomputable section
theorem yf (d : World) (f : Int) (h : List UInt8) (b : Value) (c : Ro d h [b]) (i : UInt8) (r : UInt8) (hF : UW f h i = some r) :
  Calls prog 219 [vI f,b,vB i].toArray d (Rt d (vB r)):=by
 unfold UW at hF
 split at hF
 ·rename_i hl
  obtain rfl:=o_1 hF
  obtain ⟨p,cap,rfl,hI⟩:=Zr6 c
  refine Calls.mono (callsIn_wide.1 (Zpj f h i hl p cap d hI)) ?_
  rintro e W' ⟨rfl,hB⟩
  exact ⟨_,R,R,hB.os,hB.tape,hB.output,hB.size,hB.block⟩
 cases hF
def W5 (f : (List (List UInt8))) (d : List UInt8 × Int) (b : List UInt8 × Int) : Option (Fl (List UInt8 × Int) (List UInt8)) :=
 if decide (b.2 < (f.length : Int)) then ((idx f b.2).bind λe=>(idx e d.2).bind λc=>(app 1 b.1 ([c] : List UInt8)).bind λh=>some (Fl.nx ((b.1 ++ ([c] : List UInt8)),wr (b.2 + 1)))) else (some (Fl.ex b.1))
def Vc (i : Int) (h : List UInt8) (j : (List (List UInt8))) (d : UInt8) (b : List UInt8 × Int) : Option (Fl (List UInt8 × Int) (List UInt8)) :=
 if decide (b.2 < (h.length : Int)) then ((idx h b.2).bind λe=>(ZK (W5 j b) (([e] : List UInt8),0)).bind λf=>(UW i f d).bind λc=>(app 1 b.1 ([c] : List UInt8)).bind λk=>some (Fl.nx ((b.1 ++ ([c] : List UInt8)),wr (b.2 + 1)))) else (some (Fl.ex b.1))
def W4 (f : Int) (h : List UInt8) (i : (List (List UInt8))) (e : List UInt8) (c : Int × List GShare) : Option (Fl (Int × List GShare) (List GShare)) :=
 if decide (c.1 < (e.length : Int)) then ((idx e c.1).bind λb=>(ZK (Vc f h i b) ([],0)).bind λd=>(app 32 c.2 ([(⟨b,d⟩ : GShare)] : List GShare)).bind λj=>some (Fl.nx (wr (c.1 + 1),c.2 ++ ([(⟨b,d⟩ : GShare)] : List GShare)))) else (some (Fl.ex c.2))
def UK (b : Int) (c : List UInt8) (d : (List (List UInt8))) (e : List UInt8) : Option ((List GShare)) :=
 (ZK (W4 b c d e) (0,([] : List GShare))).bind λf=>some f
theorem ye (n : World) (U : Int) (p1 : List UInt8) (d : Value) (y : Ro n p1 [d]) (p2 : xp) (e : Value) (o : Ro n p2 [e]) (p3 : List UInt8) (k : Value) (A : Ro n p3 [k]) (r : List GShare) (hF : UK U p1 p2 p3 = some r) :
  Calls prog 128 [vI U,d,e,k].toArray n (e_r λv w'=>(∃ y1 : Value,v = y1 ∧ Fr n w' [osl NoB r y1] ∧ Kept (Old n) n w')):=by
 refine ce func128 ?_
 intro a H
 have I:=M.start n
 unfold UK at hF
 refine Zb (Zc H R λa H=>Ze (Zb (jn (xs:=[]) (S:=NoB) (l:=([] : List GShare)) (vs:=[]) H I.emp noB Za ld R R R s_5 US R dd_ (λ_ h=>⟨R,h⟩) (λ_ h=>by cases h) λu1 w a I H=>Zc H R λa H=>Ze (s_2 (Zb (Zd H R λa H=>Yp H R o_2 (I.rd A) λa H=>Zd H R λa H=>Ze ?_))))))
 obtain ⟨j3,ay,az⟩:=p_1 hF
 refine ZX (λa w=>∃ u6 : Value,Env 66 a [(9,u6)] ∧ M (Old n) n w [osl NoB j3 u6]) ?_ ?_
 ·refine p_2 ?_
  refine ZN (λ(C : Int × List GShare) a w=>∃ B : Value,Env 66 a [(0,vI U),(1,d),(2,e),(9,B),(19,k),(20,vI (p3.length : Int)),(21,vI C.1)] ∧ M (Old n) n w [osl NoB C.2 B]) ay ⟨u1,H.s,I⟩ ?_
  rintro C a w ⟨B,H,I⟩ be i ag
  unfold W4 at i
  refine Zb (Zm H R R R λa H=>Ze (s_2 ?_))
  refine c_if H R i ?_ ?_
  ·intro ah i
   refine t_2 (Zw (s_2 (p_2 (Zb ?_))))
   obtain ⟨b,W,i⟩:=bix i
   refine Ys H R R o_2 ty5 (I.rd A) W.1 λa H=>ZO (v:=(vB b)) H R ty5 R (Xx (I.rd A) W.2) λa H=>Zc H R λa H=>Ze (Zb (Zd H R λa H=>YQ (parts:=[(0,.tmp 25)]) (vs:=[(0,vB b)]) (cs:=cat [[vB b],[xf]]) H Za ld R R US pl240 (Yk (pre:=[]) (seg:=[vB 0]) (seg':=[vB b]) (post:=[[xf]]) R cl0 R R R XL) λa H=>Zx H I US λq w a I H=>Zk (seg:=cat [[vB b],[xf]]) (cs':=cat [[vB b],[xf]]) H I Za R R R US cq (q_1 cq cq) (Z0 (cc1 (t_1 (b : UInt8)) (cc1 Xr cc0))) (q_2 cq cq) λw a I H=>Ze (s_2 (Zb (Zd H R λa H=>Yp H R o_2 (I.rd y) λa H=>Zd H R λa H=>Ze ?_)))))
   obtain ⟨ai,aj,G⟩:=p_1 i
   refine ZX (λa w=>∃ K : Value,Env 66 a [(0,vI U),(1,d),(2,e),(9,B),(12,ptr q 0),(19,k),(20,vI (p3.length : Int)),(21,vI C.1)] ∧ M (Old n) n w [raw q (cat [[vB b],[K]]),osl NoB C.2 B,osl NoB ai K]) ?_ ?_
   ·refine p_2 ?_
    have I:=((M.nilS (α:=UInt8) NoB noB I).pl2).pl2
    refine ZN (λ(t : List UInt8 × Int) a w=>∃ m : Value,Env 66 a [(0,vI U),(1,d),(2,e),(9,B),(11,vB b),(12,ptr q 0),(19,k),(20,vI (p3.length : Int)),(21,vI C.1),(27,d),(28,vI (p1.length : Int)),(29,vI t.2)] ∧ M (Old n) n w [raw q (cat [[vB b],[m]]),osl NoB C.2 B,osl NoB t.1 m]) aj ⟨xf,H.s,I⟩ ?_
    rintro t a w ⟨m,H,I⟩ bg j ak
    unfold Vc at j
    refine Zb (Zm H R R R λa H=>Ze (s_2 ?_))
    refine c_if H R j ?_ ?_
    ·intro al j
     refine t_2 (Zw (s_2 (p_2 (Zb (Zd H R λa H=>?_)))))
     obtain ⟨ab,X,j⟩:=bix j
     refine Ys H R R o_2 ty5 (I.rd y) X.1 λa H=>ZO (v:=(vB ab)) H R ty5 R (Xx (I.rd y) X.2) λa H=>Zc H R λa H=>Zc H R λa H=>Ze (Zb (Zd H R λa H=>ZR (xs:=[.tmp 34]) (l:=([ab] : List UInt8)) (vs:=[vB ab]) H I Za ld R R o_2 ty5 R dd_ R λa0 w a I H=>Zc H R λa H=>Ze (s_2 (Zb (Zd H R λa H=>Yp H R t_5 (I.rd o) λa H=>Zd H R λa H=>Ze ?_)))))
     obtain ⟨ac,am,x⟩:=p_1 j
     refine ZX (λa w=>∃ L : Value,Env 66 a [(0,vI U),(1,d),(2,e),(9,B),(11,vB b),(12,ptr q 0),(15,L),(19,k),(20,vI (p3.length : Int)),(21,vI C.1),(27,d),(28,vI (p1.length : Int)),(29,vI t.2)] ∧ M (Old n) n w [raw q (cat [[vB b],[m]]),osl NoB C.2 B,osl NoB t.1 m,osl NoB ac L]) ?_ ?_
     ·refine p_2 ?_
      have I:=I.pl3.pl3.pl3
      refine ZN (λ(ad : List UInt8 × Int) a w=>∃ T : Value,Env 66 a [(0,vI U),(1,d),(2,e),(9,B),(11,vB b),(12,ptr q 0),(13,vI t.2),(15,T),(19,k),(20,vI (p3.length : Int)),(21,vI C.1),(27,d),(28,vI (p1.length : Int)),(29,vI t.2),(36,e),(37,vI (p2.length : Int)),(38,vI ad.2)] ∧ M (Old n) n w [raw q (cat [[vB b],[m]]),osl NoB C.2 B,osl NoB t.1 m,osl NoB ad.1 T]) am ⟨a0,H.s,I⟩ ?_
      rintro ad a w ⟨T,H,I⟩ bh c an
      unfold W5 at c
      refine Zb (Zm H R R R λa H=>Ze (s_2 ?_))
      refine c_if H R c ?_ ?_
      ·intro ao c
       refine t_2 (Zw (s_2 (p_2 (Zb ?_))))
       obtain ⟨bi,N,c⟩:=bix c
       refine Ys H R R t_5 Uf (I.rd o) N.1 λa H=>?_
       obtain ⟨bb,Y,ap⟩:=V2 o N.2 -- ^
       obtain ⟨a1,rfl⟩:=U0 Y -- ^
       have aq:=Y -- ^
       refine ZO (v:=a1) H R Uf R (I.atk ap (Qi o N.2)) λa H=>Zc H R λa H=>Ze (s_1 (Zd H R λa H=>Zd H R λa H=>Zd H R λa H=>?_))
       obtain ⟨ae,Z,c⟩:=bix c
       refine Ys H R R o_2 ty5 (I.rd aq) Z.1 λa H=>ZO (v:=(vB ae)) H R ty5 R (Xx (I.rd aq) Z.2) λa H=>ZR (xs:=[.tmp 46]) (l:=([ae] : List UInt8)) (vs:=[vB ae]) H I Za ld R R o_2 ty5 R dd_ R λbj w a I H=>?_
       obtain ⟨bk,a2,c⟩:=p_1 c
       obtain ⟨a3,rfl⟩:=Yc a2
       have I:=I.pl4
       refine Yg H I Za ld R R (I.sl1) o_2 ty5 R dd_ a3 λa4 w a I H=>Zc H R λa H=>Zf (Yn (Zw (s_1 (Zm H R R R λa H=>Zd H R λa H=>Zf (Zi ?_)))))
       have I:=I.pl4.pl4.pl4.f_4
       exact ⟨_,ois c,a4,H.s,I⟩
      intro ao c
      refine s_3 (Zp (Zp (Yv ?_)))
      obtain rfl:=an _ (ois c)
      refine Zi ?_
      exact ⟨T,H.s,I⟩
     rintro a w ⟨L,H,I⟩
     refine Zw ?_
     obtain ⟨O,a5,x⟩:=p_1 x
     refine Y0 (its:=[raw q (cat [[vB b],[m]]),osl NoB C.2 B,osl NoB t.1 m,osl NoB ac L]) (mk:=([mkO 6 (λv=>osl NoB (([O] : List UInt8) : List UInt8) v)] : Mk)) [50,51,52,53,54,55,56] YJ R R dd_ R H (λu=>M.qE (M.q0 I.drew u) emO) (qsP (λz=>Zo z.E Za ld R (Bq) (kr0 R)) (qsP (λz=>ZL (v:=m) z.E Za ld R Uf R (at_1 (z.M.ra0)) (kr0 R)) (q_m (λ_=>R) (q_m (λ_=>R) (q_m (λ_=>R) (qsP (λz=>ZW z.E Za ld R (cbm func219) (yf _ U ac L (z.M.sl3) b O a5) (kc R)) (q_t ?_ qs0))))))) ?_
     ·intro a w ar D z
      have H:=z.E
      have hD : D 6 = false:=z.F
      have I:=z.M
      exact ZR (xs:=[.tmp 55]) (l:=([O] : List UInt8)) (vs:=[vB O]) H I Za ld R R o_2 ty5 R dd_ R λbl w a I H=>⟨_,_,R,H,M.qFill (mk1:=[]) (mk2:=[]) (f:=(λv=>osl NoB (([O] : List UInt8) : List UInt8) v)) I R hD,trivial⟩
     intro a w ar D H I hG au
     have d6:=au 6 dd_
     have I:=I.sure (pre:=[_,_,_,_]) d6
     obtain ⟨bn,a6,x⟩:=p_1 x
     obtain ⟨a7,rfl⟩:=Yc a6
     have I:=I.pl2
     refine Yg H I Za ld R R (I.sl4) o_2 ty5 R dd_ a7 λav w a I H=>Zr H R (Bq) λa H=>?_
     have I:=I.pl1
     refine Zk (seg:=[av]) H I Za R R (Ym (I.sl1)) Uf R (Wl (pre:=[[vB b]]) ck R) (o_4 (I.sl1)) (YL (pre:=[[vB b]]) ck R) λw a I H=>Zf (Yn (Zw (s_1 (Zm H R R R λa H=>Zd H R λa H=>Zf (Zi ?_)))))
     have I:=I.pl1.pl2.pl2.f_3
     exact ⟨_,ois x,av,H.s,I⟩
    intro al j
    refine s_3 (Zp (Zp (Yv ?_)))
    obtain rfl:=ak _ (ois j)
    refine Zi ?_
    exact ⟨m,H.s,I⟩
   rintro a w ⟨K,H,I⟩
   refine Zw (s_1 (Zd H R λa H=>Zu H R US R I.ra0 cq λa H=>?_))
   have I:=I.pl2
   have I:=I.pack1 (it:=own NoB (⟨b,ai⟩ : GShare) (cat [[vB b],[K]])) (Xl noB) (λf0 q0=>(jK (UO.sat q0) (by simp)))
   refine H7 (xs:=[.tmp 61]) (seg:=cat [[vB b],[K]]) H I noB Za ld R R s_5 US R dd_ λu80 w a I H=>?_
   obtain ⟨bo,a8,G⟩:=p_1 G
   obtain ⟨a9,rfl⟩:=Yc a8
   have I:=I.pl2
   refine J4 H I noB Za ld R R s_5 US R dd_ a9 λu84 w a I H=>Zc H R λa H=>Zf (Yn (Zw (s_1 (Zm H R R R λa H=>Zd H R λa H=>Zf (Zi ?_)))))
   have I:=I.f_1
   exact ⟨_,ois G,u84,H.s,I⟩
  intro ah i
  refine s_3 (Zp (Zp (Yv ?_)))
  obtain rfl:=ag _ (ois i)
  refine Zi ?_
  exact ⟨B,H.s,I⟩
 rintro a w ⟨u6,H,I⟩
 refine Zw (Zb (Zd H R λa H=>Zc H R λa H=>Ze ?_))
 obtain rfl:=o_1 az
 exact u_2 (ZT H R (Zy H R) ⟨_,R,u6,R,I.outF (Z1 Yj),I.kept⟩)
def Qx (j : Int) (b : List UInt8) (k : (List (List UInt8))) (c : List UInt8) : Option (List GShare × Int) :=
 (UN j).bind λl=>if !l then (some ([],1)) else ((if decide ((b.length : Int) > 100) then (some true) else ((Vo k (b.length : Int)).bind λd=>if !d then (some true) else ((Qg c).bind λe=>(Yy e 1 12).bind λf=>some (!f))) : Option (Bool)).bind λm=>if m then (some ([],2)) else ((UP c).bind λh=>if !h then (some ([],5)) else ((UK j b k c).bind λi=>some (i,0))))
theorem qr (m : World) (n : Int) (o : List UInt8) (k : Value) (i : Ro m o [k]) (z : xp) (h : Value) (l : Ro m z [h]) (q : List UInt8) (f : Value) (j : Ro m q [f]) (r : List GShare × Int) (hF : Qx n o z q = some r) :
  Calls prog 37 [vI n,k,h,f].toArray m (e_r λv w'=>(∃ T : Value,v = (Value.tuple [T,vI r.2].toArray) ∧ Fr m w' [osl NoB r.1 T] ∧ Kept (Old m) m w')):=by
 refine ce func37 ?_
 intro a H
 have I:=M.start m
 unfold Qx at hF
 refine Zb (Zc H R λa H=>Zc H R λa H=>Ze (s_2 (p_2 (Zb (Zd H R λa H=>?_)))))
 obtain ⟨U,W,hF⟩:=p_1 hF
 refine c_k H I R Zpl (HQ _ n U W) λw a I H=>?_
 refine Qe H R λa H=>Zc H R λa H=>Ze ?_
 refine c_if H R hF ?_ ?_
 ·intro A hF
  refine Zb (Zc H R λa H=>Zc H R λa H=>Ze ?_)
  have I:=M.nilS (α:=GShare) NoB noB I
  obtain rfl:=o_1 hF
  exact u_2 (YZ (ZA (YN H R (Zy H R) (Zy H R) ⟨_,R,xf,R,I.outF (Z1 Yj),I.kept⟩)))
 intro A hF
 obtain ⟨X,c,e⟩:=p_1 hF
 refine ZG (λa w=>Env 40 a [(0,vI n),(1,k),(2,h),(3,f),(14,vT X)] ∧ M (Old m) m w []) ?_ ?_
 ·refine s_1 (Zd H R λa H=>Yp H R o_2 (I.rd i) λa H=>Zm H R R R λa H=>Zd H R λa H=>?_)
  refine Yq (decide ((o.length : Int) > 100)) (λd=>?_) (λd=>?_)
  ·have c:=Zt c d
   refine k_s H d R R R λa H=>k_s H d R R R λa H=>k_s H d R R R λa H=>k_s H d R R R λa H=>k_s H d R R R λa H=>Z2 H (lkb R d) R λa H=>Zd H R λa H=>Zj H R R R dd_ λa H=>Zj H R R R dd_ λa H=>Zj H R R R dd_ λa H=>Zj H R R R dd_ λa H=>Z2 H R R λa H=>?_
   refine Zc H R λa H=>Zf ?_
   obtain rfl:=o_1 c
   refine Zi ?_
   exact ⟨H.s,I⟩
  have c:=Zs c d
  refine Zl H (Zh H R (lkb R d)) dd_ R λa H=>Zl H (Zh H R (lkb R d)) dd_ R λa H=>Q7 H (Zh H R (lkb R d)) dd_ R o_2 (I.rd i) λa H=>?_
  obtain ⟨t,B,c⟩:=p_1 c
  refine ZW H (Zh H R (lkb R d)) dd_ R (cbm func125) (AL _ z h (I.rdo l) (o.length : Int) t B) ?_
  rintro v w a ⟨rfl,hK⟩ H
  have I:=I.keep hK
  refine QH H (Zh H R (lkb R d)) dd_ R λa H=>ZZ H (lkb R d) R λa H=>Zd H R λa H=>?_
  refine Yq (!t) (λb=>?_) (λb=>?_)
  ·have c:=Zt c b
   refine k_s H b R R R λa H=>k_s H b R R R λa H=>k_s H b R R R λa H=>k_s H b R R R λa H=>Z2 H (lkb R b) R λa H=>Zc H R λa H=>Zf ?_
   obtain rfl:=o_1 c
   refine Zi ?_
   exact ⟨H.s,I⟩
  have c:=Zs c b
  refine Zl H (Zh H R (lkb R b)) dd_ R λa H=>?_
  obtain ⟨u,C,c⟩:=p_1 c
  refine ZW H (Zh H R (lkb R b)) dd_ R (cbm func126) (yJ _ q f (I.rdo j) u C) ?_
  rintro v w a ⟨rfl,hK⟩ H
  have I:=I.keep hK
  obtain ⟨E,F,c⟩:=p_1 c
  refine ZW H (Zh H R (lkb R b)) dd_ R JI (Yw _ u 1 12 E F) ?_
  rintro v w a ⟨rfl,hK⟩ H
  have I:=I.keep hK
  refine QH H (Zh H R (lkb R b)) dd_ R λa H=>ZZ H (lkb R b) R λa H=>Zc H R λa H=>Zf ?_
  obtain rfl:=o_1 c
  refine Zi ?_
  exact ⟨H.s,I⟩
 rintro a w ⟨H,I⟩
 refine c_if H R e ?_ ?_
 ·intro x e
  refine Zb (Zc H R λa H=>Zc H R λa H=>Ze ?_)
  have I:=M.nilS (α:=GShare) NoB noB I
  obtain rfl:=o_1 e
  exact u_2 (YZ (ZA (YN H R (Zy H R) (Zy H R) ⟨_,R,xf,R,I.outF (Z1 Yj),I.kept⟩)))
 intro x e
 refine Zb (Zd H R λa H=>?_)
 obtain ⟨G,K,e⟩:=p_1 e
 refine c_k H I R (cbm func127) (yu _ q f (I.rdo j) G K) λw a I H=>?_
 refine Qe H R λa H=>Zc H R λa H=>Ze ?_
 refine c_if H R e ?_ ?_
 ·intro y e
  refine Zb (Zc H R λa H=>Zc H R λa H=>Ze ?_)
  have I:=M.nilS (α:=GShare) NoB noB I
  obtain rfl:=o_1 e
  exact u_2 (YZ (ZA (YN H R (Zy H R) (Zy H R) ⟨_,R,xf,R,I.outF (Z1 Yj),I.kept⟩)))
 intro y e
 refine t_2 (Yn (Zw (Zb (Zd H R λa H=>Zd H R λa H=>Zd H R λa H=>Zd H R λa H=>?_))))
 obtain ⟨L,N,e⟩:=p_1 e
 refine Zn H R (cbm func128) (ye _ n o k (I.rdo i) z h (I.rdo l) q f (I.rdo j) L N) ?_
 rintro O w a ⟨_,rfl,hFr,hK⟩ H
 have I:=I.add hK hFr
 refine Zc H R λa H=>Zc H R λa H=>Ze ?_
 obtain rfl:=o_1 e
 exact u_2 (YN H R (Zy H R) (Zy H R) ⟨_,R,O,R,I.outF (Z1 Yj),I.kept⟩)
def XP (e : List GShare) (f : GShare → Option (Bool)) (b : Int) : Option (Fl Int (Fl Unit Int)) :=
 if decide (b < (e.length : Int)) then ((idx e b).bind λc=>((f c)).bind λd=>if d then (some (Fl.ex (Fl.ex b))) else (some (Fl.nx (wr (b + 1))))) else (some (Fl.ex (Fl.nx ())))
def Xb (b : List GShare) (c : GShare → Option (Bool)) : Option (Int) :=
 (ZK (XP b c) 0).bind λd=>d.el (λe=>some (-1)) (λr=>some r)
theorem Q0 (f : World) (x : List GShare) (d : Value) (c : Ro f x [d]) (G : GShare → Option (Bool)) (u : Nat) (q1 : List Value) (i : Callable prog u) (y : ∀ (j : World),Kept (Old f) f j → ∀ (z : GShare) (k : Value) (_ : Ro j z.Data [k]) (zr : Bool),G z = some zr → Calls prog u ([Value.agg (cat [[vB z.Place],[k]]).toArray] ++ q1).toArray j (λen O=>∃ v,en = .returned v ∧ (v = (vT zr) ∧ Kept (Old j) j O))) (r : Int) (hF : Xb x G = some r) :
  Calls prog 290 [d,Value.func (.func u) #[] q1.toArray].toArray f (Rt f (vI r)):=by
 refine ce func290 ?_
 intro a H
 have I:=M.start f
 unfold Xb at hF
 refine Zb (Zc H R λa H=>Ze (s_2 (Zb (Zd H R λa H=>Yp H R s_5 (I.rd c) λa H=>Zd H R λa H=>Ze ?_))))
 obtain ⟨T,A,h⟩:=p_1 hF
 refine ZX (λa w=>∃ K : Unit,T = Fl.nx K ∧ Env 19 a [] ∧ M (Old f) f w []) ?_ ?_
 ·refine p_2 ?_
  refine ZN (λ(L : Int) a w=>Env 19 a [(0,d),(1,Value.func (.func u) #[] q1.toArray),(7,vI (x.length : Int)),(8,vI L)] ∧ M (Old f) f w []) A ⟨H.s,I⟩ ?_
  rintro L a w ⟨H,I⟩ U b l
  unfold XP at b
  refine Zb (Zm H R R R λa H=>Ze (s_2 ?_))
  refine c_if H R b ?_ ?_
  ·intro B b
   refine t_2 (Zw (s_2 (p_2 (Zb (Zd H R λa H=>Zc H R λa H=>Ze (Zb (Zd H R λa H=>Zd H R λa H=>Zd H R λa H=>?_)))))))
   obtain ⟨m,e,b⟩:=bix b
   refine Ys H R R s_5 US (I.rd c) e.1 λa H=>?_
   obtain ⟨N,n,o⟩:=V2 c e.2 -- ^
   obtain ⟨q,rfl,C⟩:=Jw n -- ^
   refine Zu H R US R (I.atk o (Qi c e.2)) cq λa H=>?_
   obtain ⟨E,F,b⟩:=p_1 b
   refine yS (vs:=[Value.agg (cat [[vB m.Place],[q]]).toArray]) H Za ld R R i (y _ I.kept m q (I.rdo C) E F) ?_
   rintro v w a ⟨rfl,hK⟩ H
   have I:=I.keep hK
   refine Ze ?_
   refine c_if H R b ?_ ?_
   ·intro t b
    refine Zb (Zd H R λa H=>Zc H R λa H=>Ze ?_)
    obtain rfl:=l _ (ois b)
    obtain rfl:=o_1 h
    exact u_2 (YZ (ZA (ZA (YZ (ZA (ZA (kr1 H R R I.kept)))))))
   intro t b
   refine t_2 (Yn (Zw (s_1 (Zm H R R R λa H=>Zd H R λa H=>Zf (Zi ?_)))))
   exact ⟨_,ois b,H.s,I⟩
  intro B b
  refine s_3 (Zp (Zp (Yv ?_)))
  obtain rfl:=l _ (ois b)
  refine Zi ?_
  exact ⟨(),R,H.sub trivial,I⟩
 rintro a w ⟨K,ht,H,I⟩
 subst ht
 have h:=JM h
 refine Zw (Zb (Zc H R λa H=>Ze ?_))
 obtain rfl:=o_1 h
 exact u_2 (kr1 H R R I.kept)
def Yd (b : List GShare) (c : GShare → Option (Bool)) : Option (Bool) :=
 (Xb b c).bind λd=>some (decide (d ≥ 0))
theorem WO (e : World) (j : List GShare) (b : Value) (c : Ro e j [b]) (k : GShare → Option (Bool)) (i : Nat) (q1 : List Value) (f : Callable prog i) (l : ∀ (d : World),Kept (Old e) e d → ∀ (m : GShare) (h : Value) (_ : Ro d m.Data [h]) (zr : Bool),k m = some zr → Calls prog i ([Value.agg (cat [[vB m.Place],[h]]).toArray] ++ q1).toArray d (λen o=>∃ v,en = .returned v ∧ (v = (vT zr) ∧ Kept (Old d) d o))) (r : Bool) (hF : Yd j k = some r) :
  Calls prog 220 [b,Value.func (.func i) #[] q1.toArray].toArray e (Rt e (vT r)):=by
 refine ce func220 ?_
 intro a H
 have I:=M.start e
 unfold Yd at hF
 refine Zb (Zc H R λa H=>Ze (Zb (Zd H R λa H=>Zd H R λa H=>?_)))
 obtain ⟨q,t,hF⟩:=p_1 hF
 refine c_k H I R (cbm func290) (Q0 _ j b (I.rdo c) k i q1 f (λd n=>l d (I.kept.trans n)) q t) λw a I H=>?_
 refine Zm H R R R λa H=>Zc H R λa H=>Ze ?_
 obtain rfl:=o_1 hF
 exact u_2 (kr1 H R R I.kept)
def Ky (b : GShare) : Option (Bool) :=
 (if b.Place != 0 then (some (decide ((b.Data.length : Int) ≤ 100))) else (some false) : Option (Bool)).bind λc=>some c
theorem Zay (h : World) (e : GShare) (c : Value) (f : Ro h e.Data [c]) (r : Bool) (hF : Ky e = some r) :
  Calls prog 222 [Value.agg (cat [[vB e.Place],[c]]).toArray].toArray h (Rt h (vT r)):=by
 refine ce func222 ?_
 intro a H
 have I:=M.start h
 unfold Ky at hF
 refine Zb (ZY (cs:=cat [[vB e.Place],[c]]) H I Za ld R R λk w a I H=>Zc H R λa H=>Ze ?_)
 obtain ⟨j,d,i⟩:=p_1 hF
 refine ZG (λa w=>Env 12 a [(2,vT j)] ∧ M (Old h) h w []) ?_ ?_
 ·refine s_1 (Zr H R (Br) λa H=>ZO (v:=(vB e.Place)) H R ty5 R (at_0 I.ra0) λa H=>Zm H R R (Za2 e.Place 0) λa H=>Zd H R λa H=>?_)
  refine Yq (e.Place != 0) (λb=>?_) (λb=>?_)
  ·have d:=Zt d b
   refine Zo H (Zh H R (lkb R b)) dd_ R (Bq) λa H=>ZL (v:=c) H (Zh H R (lkb R b)) dd_ R Uf R (at_1 I.ra0) λa H=>Q7 H (Zh H R (lkb R b)) dd_ R o_2 (I.rd f) λa H=>Ye H (Zh H R (lkb R b)) dd_ R R R λa H=>Z2 H (lkb R b) R λa H=>Zc H R λa H=>Zf ?_
   obtain rfl:=o_1 d
   refine Zi ?_
   have I:=I.f_0
   exact ⟨H.s,I⟩
  have d:=Zs d b
  refine k_s H b R R R λa H=>k_s H b R R R λa H=>k_s H b R R R λa H=>k_s H b R R R λa H=>ZZ H (lkb R b) R λa H=>Zc H R λa H=>Zf ?_
  obtain rfl:=o_1 d
  refine Zi ?_
  have I:=I.f_0
  exact ⟨H.s,I⟩
 rintro a w ⟨H,I⟩
 obtain rfl:=o_1 i
 exact u_2 (kr1 H R R I.kept)
def VR (b : GShare) : Option (Bool) :=
 (Ky b).bind λc=>some (!c)
theorem zh (e : World) (d : GShare) (b : Value) (c : Ro e d.Data [b]) (r : Bool) (hF : VR d = some r) :
  Calls prog 221 [Value.agg (cat [[vB d.Place],[b]]).toArray].toArray e (Rt e (vT r)):=by
 refine ce func221 ?_
 intro a H
 have I:=M.start e
 unfold VR at hF
 refine Zb (ZY (cs:=cat [[vB d.Place],[b]]) H I Za ld R R λi w a I H=>Zc H R λa H=>Ze (Zb (Zu H R US R I.ra0 cq λa H=>?_)))
 obtain ⟨f,h,hF⟩:=p_1 hF
 refine c_k H I R (cbm func222) (Zay _ d b (I.rdo c) f h) λw a I H=>?_
 refine Qe H R λa H=>Zc H R λa H=>Ze ?_
 obtain rfl:=o_1 hF
 exact u_2 (kr1 H R R I.kept)
def TW (d : List GShare) (b : List UInt8 × Int) : Option (Fl (List UInt8 × Int) (List UInt8)) :=
 if decide (b.2 < (d.length : Int)) then ((idx d b.2).bind λc=>(app 1 b.1 ([c.Place] : List UInt8)).bind λe=>some (Fl.nx ((b.1 ++ ([c.Place] : List UInt8)),wr (b.2 + 1)))) else (some (Fl.ex b.1))
def QJ (b : List GShare) : Option ((List UInt8)) :=
 (ZK (TW b) (([] : List UInt8),0)).bind λc=>some c
theorem qy (h : World) (t : List GShare) (e : Value) (c : Ro h t [e]) (r : List UInt8) (hF : QJ t = some r) :
  Calls prog 223 [e].toArray h (e_r λv w'=>(∃ E : Value,v = E ∧ Fr h w' [osl NoB r E] ∧ Kept (Old h) h w')):=by
 refine ce func223 ?_
 intro a H
 have I:=M.start h
 unfold QJ at hF
 refine Zb (Zc H R λa H=>Ze (Zb (ZR (xs:=[]) (l:=xz) (vs:=[]) H I Za ld R R o_2 ty5 R dd_ R λG w a I H=>Zc H R λa H=>Ze (s_2 (Zb (Zd H R λa H=>Yp H R s_5 (I.rd c) λa H=>Zd H R λa H=>Ze ?_))))))
 obtain ⟨K,u,x⟩:=p_1 hF
 refine ZX (λa w=>∃ o : Value,Env 20 a [(3,o)] ∧ M (Old h) h w [osl NoB K o]) ?_ ?_
 ·refine p_2 ?_
  refine ZN (λ(y : List UInt8 × Int) a w=>∃ q : Value,Env 20 a [(3,q),(7,e),(8,vI (t.length : Int)),(9,vI y.2)] ∧ M (Old h) h w [osl NoB y.1 q]) u ⟨G,H.s,I⟩ ?_
  rintro y a w ⟨q,H,I⟩ L b i
  unfold TW at b
  refine Zb (Zm H R R R λa H=>Ze (s_2 ?_))
  refine c_if H R b ?_ ?_
  ·intro j b
   refine t_2 (Zw (s_2 (p_2 (Zb ?_))))
   obtain ⟨d,f,b⟩:=bix b
   refine Ys H R R s_5 US (I.rd c) f.1 λa H=>?_
   obtain ⟨F,k,m⟩:=V2 c f.2 -- ^
   obtain ⟨n,rfl,z⟩:=Jw k -- ^
   refine Zu H R US R (I.atk m (Qi c f.2)) cq λa H=>Zx H I US λN w a I H=>Zk (seg:=cat [[vB d.Place],[n]]) (cs':=cat [[vB d.Place],[n]]) H I Za R R R US cq (q_1 cq cq) (Z0 (cc1 (t_1 (d.Place : UInt8)) (cc1 (o_4 (I.rd z)) cc0))) (q_2 cq cq) λw a I H=>Ze (s_1 (Zd H R λa H=>Zr H R (Br) λa H=>ZO (v:=(vB d.Place)) H R ty5 R (at_0 I.ra0) λa H=>ZR (xs:=[.tmp 15]) (l:=([d.Place] : List UInt8)) (vs:=[vB d.Place]) H I Za ld R R o_2 ty5 R dd_ R λO w a I H=>?_))
   obtain ⟨T,A,b⟩:=p_1 b
   obtain ⟨B,rfl⟩:=Yc A
   have I:=I.pl2
   refine Yg H I Za ld R R (I.sl1) o_2 ty5 R dd_ B λC w a I H=>Zc H R λa H=>Zf (Yn (Zw (s_1 (Zm H R R R λa H=>Zd H R λa H=>Zf (Zi ?_)))))
   have I:=I.f_1
   exact ⟨_,ois b,C,H.s,I⟩
  intro j b
  refine s_3 (Zp (Zp (Yv ?_)))
  obtain rfl:=i _ (ois b)
  refine Zi ?_
  exact ⟨q,H.s,I⟩
 rintro a w ⟨o,H,I⟩
 refine Zw (Zb (Zd H R λa H=>Zc H R λa H=>Ze ?_))
 obtain rfl:=o_1 x
 exact u_2 (ZT H R (Zy H R) ⟨_,R,o,R,I.outF (Z1 Yj),I.kept⟩)
def Wv (b : List GShare) : Option (Int) :=
 some (b.length : Int)
theorem K0 (d : World) (e : List GShare) (b : Value) (c : Ro d e [b]) (r : Int) (hF : Wv e = some r) :
  Calls prog 224 [b].toArray d (Rt d (vI r)):=by
 refine ce func224 ?_
 intro a H
 have I:=M.start d
 unfold Wv at hF
 refine Zb (Zc H R λa H=>Ze (Zb (Zd H R λa H=>Yp H R s_5 (I.rd c) λa H=>Zc H R λa H=>Ze ?_)))
 obtain rfl:=o_1 hF
 exact u_2 (kr1 H R R I.kept)
def UB (b : GShare) (c : List GShare) : Option (Bool) :=
 ((idx c (0 : Int)).bind λd=>some ((b.Data.length : Int) != (d.Data.length : Int)) : Option (Bool)).bind λe=>some e
theorem jV (e : World) (k : GShare) (c : Value) (f : Ro e k.Data [c]) (h : Nat) (y : List GShare) (d : Value) (b : Ro e y [d]) (n : At e h 0 ([d])) (o : Old e h) (r : Bool) (hF : UB k y = some r) :
  Calls prog 291 [Value.agg (cat [[vB k.Place],[c]]).toArray,ptr h 0].toArray e (Rt e (vT r)):=by
 refine ce func291 ?_
 intro a H
 have I:=M.start e
 unfold UB at hF
 refine Zb (ZY (cs:=cat [[vB k.Place],[c]]) H I Za ld R R λF w a I H=>Zc H R λa H=>Ze ?_)
 obtain ⟨B,i,q⟩:=p_1 hF
 refine ZG (λa w=>Env 13 a [(3,vT B)] ∧ M (Old e) e w []) ?_ ?_
 ·obtain ⟨C,j,i⟩:=bix i
  obtain ⟨A,l,m⟩:=V2 b j.2 -- ^
  obtain ⟨t,rfl,x⟩:=Jw l -- ^
  refine Z7 [4,5,6,7,8,9,10,11,12,3] YJ R R dd_ R H I (qsP (λz=>Zo z.E Za ld R (Bq) (kr0 R)) (qsP (λz=>ZL (v:=c) z.E Za ld R Uf R (at_1 (z.M.ra0)) (kr0 R)) (qsP (λz=>Q7 z.E Za ld R o_2 (z.M.rd f) (kr0 R)) (qsP (λz=>ZL (v:=d) z.E Za ld R ty71 R (z.M.atk n o) (kr0 R)) (qsP (λz=>XD z.E Za ld R R s_5 US (z.M.rd b) j.1 (kr0 R)) (qsP (λz=>Zo z.E Za ld R (Bq) (kr0 R)) (qsP (λz=>ZL (v:=t) z.E Za ld R Uf R (at_1 (z.M.atk m (Qi b j.2))) (kr0 R)) (qsP (λz=>Q7 z.E Za ld R o_2 (z.M.rd x) (kr0 R)) (qsP (λz=>Ye z.E Za ld R R R (kr0 R)) (qsP (λz=>K3 z.E Za ld R (kr0 R)) qs0)))))))))) ?_
  ·intro a w u H I
   refine Zf ?_
   obtain rfl:=o_1 i
   refine Zi ?_
   have I:=I.f_0
   exact ⟨H.s,I⟩
 rintro a w ⟨H,I⟩
 obtain rfl:=o_1 q
 exact u_2 (kr1 H R R I.kept)
def Kg (b : List GShare) : Option (Bool) :=
 (Yd b (λc=>UB c b)).bind λd=>some (!d)
theorem Zbq (i : World) (h : List GShare) (b : Value) (c : Ro i h [b]) (r : Bool) (hF : Kg h = some r) :
  Calls prog 225 [b].toArray i (Rt i (vT r)):=by
 refine ce func225 ?_
 intro a H
 have I:=M.start i
 unfold Kg at hF
 refine Zb (ZY (cs:=[b]) H I Za ld R (Ym (I.rd c)) λk w a I H=>Zc H R λa H=>Ze (Zb (ZO (v:=b) H R ty71 R I.ra0 λa H=>Ae H Za ld R λa H=>?_)))
 obtain ⟨l,m,hF⟩:=p_1 hF
 refine c_k H I R (cbm func220) (WO _ h b (I.rdo c) (λj=>UB j h) 291 [ptr k 0] (cbm func291) (λn d j e f zr zhr=>jV n j e f k h b (y0 (I.rdo c) d) (zq I.ra0 d (by simp [cat])) (Ha I.ra0 d (by simp [cat])) zr zhr) l m) λw a I H=>?_
 refine Qe H R λa H=>Zc H R λa H=>Ze ?_
 obtain rfl:=o_1 hF
 exact u_2 (kr1 H R R I.kept)
def UU (k : Int) (b : List GShare) (l : Int) : Option (Int) :=
 ((UN k).bind λm=>if !m then (some true) else ((Yd b (λn=>VR n)).bind λo=>if o then (some true) else ((QJ b).bind λc=>(Wh c).bind λd=>some (!d))) : Option (Bool)).bind λq=>if q then (some 1) else (((Wv b).bind λe=>(Yy e 1 12).bind λf=>if !f then (some true) else ((Kg b).bind λh=>if !h then (some true) else ((Yy l 1 8).bind λi=>some (!i))) : Option (Bool)).bind λj=>if j then (some 2) else (some 0))
theorem yq (m : World) (C : Int) (q : List GShare) (h : Value) (i : Ro m q [h]) (B : Int) (r : Int) (hF : UU C q B = some r) :
  Calls prog 129 [vI C,h,vI B].toArray m (Rt m (vI r)):=by
 refine ce func129 ?_
 intro a H
 have I:=M.start m
 unfold UU at hF
 refine Zb (Zc H R λa H=>Ze (s_2 (p_2 ?_)))
 obtain ⟨j1,d,l⟩:=p_1 hF
 refine ZG (λa w=>Env 36 a [(1,h),(2,vI B),(7,vT j1)] ∧ M (Old m) m w []) ?_ ?_
 ·refine s_1 (Zd H R λa H=>?_)
  obtain ⟨Y,e5,d⟩:=p_1 d
  refine c_k H I R Zpl (HQ _ C Y e5) λw a I H=>?_
  refine Qe H R λa H=>Zd H R λa H=>?_
  refine Yq (!Y) (λj=>?_) (λj=>?_)
  ·have d:=Zt d j
   refine k_s H j R R R λa H=>k_s H j R R R λa H=>Z2 H (lkb R j) R λa H=>Zd H R λa H=>Zj H R R R dd_ λa H=>Zj H R R R dd_ λa H=>Zj H R R R dd_ λa H=>Zj H R R R dd_ λa H=>Z2 H R R λa H=>Zc H R λa H=>Zf ?_
   obtain rfl:=o_1 d
   refine Zi ?_
   exact ⟨H.s,I⟩
  have d:=Zs d j
  refine Zl H (Zh H R (lkb R j)) dd_ R λa H=>?_
  obtain ⟨Z,e9,d⟩:=p_1 d
  refine ZW H (Zh H R (lkb R j)) dd_ R (cbm func220) (WO _ q h (I.rdo i) (λE=>VR E) 221 [] (cbm func221) (λw2 ae E n o zr zhr=>zh w2 E n o zr zhr) Z e9) ?_
  rintro v w a ⟨rfl,hK⟩ H
  have I:=I.keep hK
  refine ZZ H (lkb R j) R λa H=>Zd H R λa H=>?_
  refine Yq Z (λc=>?_) (λc=>?_)
  ·have d:=Zt d c
   refine k_s H c R R R λa H=>k_s H c R R R λa H=>k_s H c R R R λa H=>k_s H c R R R λa H=>Z2 H (lkb R c) R λa H=>Zc H R λa H=>Zf ?_
   obtain rfl:=o_1 d
   refine Zi ?_
   exact ⟨H.s,I⟩
  have d:=Zs d c
  refine Zl H (Zh H R (lkb R c)) dd_ R λa H=>?_
  obtain ⟨t,F,d⟩:=p_1 d
  refine ZW H (Zh H R (lkb R c)) dd_ R (cbm func223) (qy _ q h (I.rdo i) t F) ?_
  rintro G w a ⟨_,rfl,hFr,hK⟩ H
  have I:=I.add hK hFr
  obtain ⟨K,L,d⟩:=p_1 d
  refine ZW H (Zh H R (lkb R c)) dd_ R Zop (KP _ t G (I.sl0) K L) ?_
  rintro v w a ⟨rfl,hK⟩ H
  have I:=I.keep hK
  refine QH H (Zh H R (lkb R c)) dd_ R λa H=>ZZ H (lkb R c) R λa H=>Zc H R λa H=>Zf ?_
  obtain rfl:=o_1 d
  refine Zi ?_
  have I:=I.f_0
  exact ⟨H.s,I⟩
 rintro a w ⟨H,I⟩
 refine c_if H R l ?_ ?_
 ·intro u l
  refine Zb (Zc H R λa H=>Ze ?_)
  obtain rfl:=o_1 l
  exact u_2 (YZ (ZA (kr1 H R R I.kept)))
 intro u l
 obtain ⟨N,b,k⟩:=p_1 l
 refine ZG (λa w=>Env 36 a [(21,vT N)] ∧ M (Old m) m w []) ?_ ?_
 ·refine s_1 (Zd H R λa H=>?_)
  obtain ⟨x,O,b⟩:=p_1 b
  refine c_k H I R (cbm func224) (K0 _ q h (I.rdo i) x O) λw a I H=>?_
  obtain ⟨y,T,b⟩:=p_1 b
  refine c_k H I R JI (Yw _ x 1 12 y T) λw a I H=>?_
  refine Qe H R λa H=>Zd H R λa H=>?_
  refine Yq (!y) (λe=>?_) (λe=>?_)
  ·have b:=Zt b e
   refine k_s H e R R R λa H=>k_s H e R R R λa H=>k_s H e R R R λa H=>Z2 H (lkb R e) R λa H=>Zd H R λa H=>Zj H R R R dd_ λa H=>Zj H R R R dd_ λa H=>Zj H R R R dd_ λa H=>Z2 H R R λa H=>Zc H R λa H=>Zf ?_
   obtain rfl:=o_1 b
   refine Zi ?_
   exact ⟨H.s,I⟩
  have b:=Zs b e
  refine Zl H (Zh H R (lkb R e)) dd_ R λa H=>?_
  obtain ⟨z,U,b⟩:=p_1 b
  refine ZW H (Zh H R (lkb R e)) dd_ R (cbm func225) (Zbq _ q h (I.rdo i) z U) ?_
  rintro v w a ⟨rfl,hK⟩ H
  have I:=I.keep hK
  refine QH H (Zh H R (lkb R e)) dd_ R λa H=>ZZ H (lkb R e) R λa H=>Zd H R λa H=>?_
  refine Yq (!z) (λf=>?_) (λf=>?_)
  ·have b:=Zt b f
   refine k_s H f R R R λa H=>k_s H f R R R λa H=>k_s H f R R R λa H=>Z2 H (lkb R f) R λa H=>Zc H R λa H=>Zf ?_
   obtain rfl:=o_1 b
   refine Zi ?_
   exact ⟨H.s,I⟩
  have b:=Zs b f
  refine Zl H (Zh H R (lkb R f)) dd_ R λa H=>?_
  obtain ⟨W,X,b⟩:=p_1 b
  refine ZW H (Zh H R (lkb R f)) dd_ R JI (Yw _ B 1 8 W X) ?_
  rintro v w a ⟨rfl,hK⟩ H
  have I:=I.keep hK
  refine QH H (Zh H R (lkb R f)) dd_ R λa H=>ZZ H (lkb R f) R λa H=>Zc H R λa H=>Zf ?_
  obtain rfl:=o_1 b
  refine Zi ?_
  exact ⟨H.s,I⟩
 rintro a w ⟨H,I⟩
 refine c_if H R k ?_ ?_
 ·intro A k
  refine Zb (Zc H R λa H=>Ze ?_)
  obtain rfl:=o_1 k
  exact u_2 (YZ (ZA (kr1 H R R I.kept)))
 intro A k
 refine t_2 (Yn (Zw (Zb (Zc H R λa H=>Ze ?_))))
 obtain rfl:=o_1 k
 exact u_2 (kr1 H R R I.kept)
def Wa (e : Int) (l : List GShare) (m : UInt8) (d : GShare) (b : UInt8 × Int) : Option (Fl (UInt8 × Int) UInt8) :=
 if decide (b.2 < (l.length : Int)) then (((idx l b.2).bind λc=>(if c.Place != d.Place then ((Y3 e (d.Place ^^^ c.Place)).bind λf=>(Z5 e (m ^^^ c.Place) f).bind λh=>(Z5 e b.1 h).bind λi=>some i) else (some b.1) : Option (UInt8)).bind λj=>some j : Option (UInt8)).bind λk=>some (Fl.nx (k,wr (b.2 + 1)))) else (some (Fl.ex b.1))
def Wf (i : Int) (c : GShare) (d : UInt8) (b : Int × List UInt8) : Option (Fl (Int × List UInt8) (List UInt8)) :=
 if decide (b.1 < (c.Data.length : Int)) then ((idx c.Data b.1).bind λe=>(idx b.2 b.1).bind λf=>(Z5 i e d).bind λh=>(idx b.2 b.1).bind λj=>some (Fl.nx (wr (b.1 + 1),b.2.set (b.1).toNat (f ^^^ h)))) else (some (Fl.ex b.2))
def Wc (h : Int) (d : List GShare) (i : UInt8) (b : Int × List UInt8) : Option (Fl (Int × List UInt8) (List UInt8)) :=
 if decide (b.1 < (d.length : Int)) then ((idx d b.1).bind λc=>(ZK (Wa h d i c) (1,0)).bind λe=>(ZK (Wf h c e) (0,b.2)).bind λf=>some (Fl.nx (wr (b.1 + 1),f))) else (some (Fl.ex b.2))
def Wr (d : Int) (c : List GShare) (e : UInt8) : Option ((List UInt8)) :=
 (idx c (0 : Int)).bind λf=>(mkS 1 (0 : UInt8) (f.Data.length : Int)).bind λh=>(ZK (Wc d c e) (0,h)).bind λb=>some b
theorem JU (n : World) (x : Int) (C : List GShare) (b : Value) (c : Ro n C [b]) (F : UInt8) (r : List UInt8) (hF : Wr x C F = some r) :
  Calls prog 227 [vI x,b,vB F].toArray n (e_r λv w'=>(∃ y1 : Value,v = y1 ∧ Fr n w' [osl NoB r y1] ∧ Kept (Old n) n w')):=by
 refine ce func227 ?_
 intro a H
 have I:=M.start n
 unfold Wr at hF
 refine Zb (Zc H R λa H=>Ze (Zb (Zd H R λa H=>?_)))
 obtain ⟨x1,aa,hF⟩:=bix hF
 refine Ys H R R s_5 US (I.rd c) aa.1 λa H=>Zr H R (Bq) λa H=>?_
 obtain ⟨bl,a1,a2⟩:=V2 c aa.2 -- ^
 obtain ⟨u7,rfl,h8⟩:=Jw a1 -- ^
 refine ZO (v:=u7) H R Uf R (at_1 (I.atk a2 (Qi c aa.2))) λa H=>Yp H R o_2 (I.rd h8) λa H=>?_
 obtain ⟨l9,a3,hF⟩:=p_1 hF
 refine Zoa H I Za ld R R o_2 ty5 R dd_ (λ_=>H6.2 ⟨R,R⟩) a3 λa4 w a I H=>Zc H R λa H=>Ze (s_2 (Zb (Zd H R λa H=>Yp H R s_5 (I.rd c) λa H=>Zd H R λa H=>Ze ?_)))
 obtain ⟨a5,ac,ad⟩:=p_1 hF
 refine ZX (λa w=>∃ O : Value,Env 76 a [(7,O)] ∧ M (Old n) n w [osl NoB a5 O]) ?_ ?_
 ·refine p_2 ?_
  refine ZN (λ(h : Int × List UInt8) a w=>∃ j : Value,Env 76 a [(0,vI x),(1,b),(2,vB F),(7,j),(21,b),(22,vI (C.length : Int)),(23,vI h.1)] ∧ M (Old n) n w [osl NoB h.2 j]) ac ⟨a4,H.s,I⟩ ?_
  rintro h a w ⟨j,H,I⟩ bo l ae
  unfold Wc at l
  refine Zb (Zm H R R R λa H=>Ze (s_2 ?_))
  refine c_if H R l ?_ ?_
  ·intro af l
   refine t_2 (Zw (s_2 (p_2 (Zb ?_))))
   obtain ⟨f,G,l⟩:=bix l
   refine Ys H R R s_5 US (I.rd c) G.1 λa H=>?_
   obtain ⟨bi,ag,ah⟩:=V2 c G.2 -- ^
   obtain ⟨q,rfl,T⟩:=Jw ag -- ^
   refine Zu H R US R (I.atk ah (Qi c G.2)) cq λa H=>Zx H I US λt w a I H=>Zk (seg:=cat [[vB f.Place],[q]]) (cs':=cat [[vB f.Place],[q]]) H I Za R R R US cq (q_1 cq cq) (Z0 (cc1 (t_1 (f.Place : UInt8)) (cc1 (o_4 (I.rd T)) cc0))) (q_2 cq cq) λw a I H=>Ze (Zb (Zc H R λa H=>Ze (s_2 (Zb (Zd H R λa H=>Yp H R s_5 (I.rd c) λa H=>Zd H R λa H=>Ze ?_)))))
   obtain ⟨ab,ai,aj⟩:=p_1 l
   refine ZX (λa w=>Env 76 a [(0,vI x),(1,b),(2,vB F),(7,j),(9,ptr t 0),(10,vB ab),(21,b),(22,vI (C.length : Int)),(23,vI h.1)] ∧ M (Old n) n w [raw t (cat [[vB f.Place],[q]]),osl NoB h.2 j]) ?_ ?_
   ·refine p_2 ?_
    refine ZN (λ(y : UInt8 × Int) a w=>Env 76 a [(0,vI x),(1,b),(2,vB F),(7,j),(9,ptr t 0),(10,vB y.1),(21,b),(22,vI (C.length : Int)),(23,vI h.1),(27,b),(28,vI (C.length : Int)),(29,vI y.2)] ∧ M (Old n) n w [raw t (cat [[vB f.Place],[q]]),osl NoB h.2 j]) ai ⟨H.s,I⟩ ?_
    rintro y a w ⟨H,I⟩ bp o ak
    unfold Wa at o
    refine Zb (Zm H R R R λa H=>Ze (s_2 ?_))
    refine c_if H R o ?_ ?_
    ·intro al o
     refine t_2 (Zw ?_)
     obtain ⟨a6,K,am⟩:=p_1 o
     refine ZG (λa w=>Env 76 a [(0,vI x),(1,b),(2,vB F),(7,j),(9,ptr t 0),(10,vB a6),(21,b),(22,vI (C.length : Int)),(23,vI h.1),(27,b),(28,vI (C.length : Int)),(29,vI y.2)] ∧ M (Old n) n w [raw t (cat [[vB f.Place],[q]]),osl NoB h.2 j]) ?_ ?_
     ·refine p_2 (Zb ?_)
      obtain ⟨k,L,K⟩:=bix K
      refine Ys H R R s_5 US (I.rd c) L.1 λa H=>?_
      obtain ⟨bj,an,ao⟩:=V2 c L.2 -- ^
      obtain ⟨ap,rfl,a7⟩:=Jw an -- ^
      refine Zu H R US R (I.atk ao (Qi c L.2)) cq λa H=>Zx H I US λbq w a I H=>Zk (seg:=cat [[vB k.Place],[ap]]) (cs':=cat [[vB k.Place],[ap]]) H I Za R R R US cq (q_1 cq cq) (Z0 (cc1 (t_1 (k.Place : UInt8)) (cc1 (o_4 (I.rd a7)) cc0))) (q_2 cq cq) λw a I H=>Ze (Zb (Zr H R (Br) λa H=>ZO (v:=(vB k.Place)) H R ty5 R (at_0 I.ra0) λa H=>Zr H R (Br) λa H=>ZO (v:=(vB f.Place)) H R ty5 R (at_0 I.ra1) λa H=>Zm H R R (Za2 k.Place f.Place) λa H=>Ze ?_))
      obtain ⟨a8,e,aq⟩:=p_1 K
      refine ZX (λa w=>Env 76 a [(0,vI x),(1,b),(2,vB F),(7,j),(9,ptr t 0),(10,vB a8),(21,b),(22,vI (C.length : Int)),(23,vI h.1),(27,b),(28,vI (C.length : Int)),(29,vI y.2)] ∧ M (Old n) n w [raw t (cat [[vB f.Place],[q]]),osl NoB h.2 j]) ?_ ?_
      ·refine c_if H R e ?_ ?_
       ·intro ar e
        obtain ⟨au,a9,e⟩:=p_1 e
        obtain ⟨av,ba,e⟩:=p_1 e
        obtain ⟨bb,bc,e⟩:=p_1 e
        refine Z7 [38,39,40,41,42,43,44,45,46,47,48,49,50,51,52,53] YJ R R dd_ R H I (q_m (λ_=>R) (q_m (λ_=>R) (q_m (λ_=>R) (q_m (λ_=>R) (qsP (λz=>Zo z.E Za ld R (Br) (kr0 R)) (qsP (λz=>ZL (v:=(vB k.Place)) z.E Za ld R ty5 R (at_0 (z.M.ra0)) (kr0 R)) (qsP (v:=(vB (F ^^^ k.Place))) (λz=>Ye z.E Za ld R R (VH F k.Place) (kr0 R)) (q_m (λ_=>R) (qsP (λz=>Zo z.E Za ld R (Br) (kr0 R)) (qsP (λz=>ZL (v:=(vB f.Place)) z.E Za ld R ty5 R (at_0 (z.M.ra1)) (kr0 R)) (qsP (λz=>Zo z.E Za ld R (Br) (kr0 R)) (qsP (λz=>ZL (v:=(vB k.Place)) z.E Za ld R ty5 R (at_0 (z.M.ra0)) (kr0 R)) (qsP (v:=(vB (f.Place ^^^ k.Place))) (λz=>Ye z.E Za ld R R (VH f.Place k.Place) (kr0 R)) (qsP (λz=>ZW z.E Za ld R Zkt (Ti _ x (f.Place ^^^ k.Place) au a9) (kc R)) (qsP (λz=>ZW z.E Za ld R A5 (YR _ x (F ^^^ k.Place) au av ba) (kc R)) (qsP (λz=>ZW z.E Za ld R A5 (YR _ x y.1 av bb bc) (kc R)) qs0)))))))))))))))) ?_
        ·intro a w u H I
         refine Zc H R λa H=>Zf ?_
         obtain rfl:=o_1 e
         refine Zi ?_
         have I:=I.pl2.pl2.f_2
         exact ⟨H.s,I⟩
       intro ar e
       refine t_2 ?_
       obtain rfl:=o_1 e
       refine Zi ?_
       have I:=I.pl2.pl2.f_2
       exact ⟨H.s,I⟩
      rintro a w ⟨H,I⟩
      refine Yn ?_
      obtain rfl:=o_1 aq
      refine Zi ?_
      exact ⟨H.s,I⟩
     rintro a w ⟨H,I⟩
     refine s_1 (Zm H R R R λa H=>Zd H R λa H=>Zf (Zi ?_))
     exact ⟨_,ois am,H.s,I⟩
    intro al o
    refine s_3 (Zp (Zp (Yv ?_)))
    obtain rfl:=ak _ (ois o)
    refine Zi ?_
    exact ⟨H.s,I⟩
   rintro a w ⟨H,I⟩
   refine Zw (Zb (Zr H R (Bq) λa H=>ZO (v:=q) H R Uf R (at_1 I.ra0) λa H=>Yp H R o_2 (I.rd T) λa H=>Zd H R λa H=>Ze ?_))
   obtain ⟨bd,aw,ax⟩:=p_1 aj
   refine ZX (λa w=>∃ U : Value,Env 76 a [(0,vI x),(1,b),(2,vB F),(7,U),(21,b),(22,vI (C.length : Int)),(23,vI h.1)] ∧ M (Old n) n w [osl NoB bd U]) ?_ ?_
   ·refine p_2 ?_
    have I:=I.pl1.f_1
    refine ZN (λ(W : Int × List UInt8) a w=>∃ N : Value,Env 76 a [(0,vI x),(1,b),(2,vB F),(7,N),(10,vB ab),(21,b),(22,vI (C.length : Int)),(23,vI h.1),(56,q),(57,vI (f.Data.length : Int)),(58,vI W.1)] ∧ M (Old n) n w [osl NoB W.2 N]) aw ⟨j,H.s,I⟩ ?_
    rintro W a w ⟨N,H,I⟩ br d ay
    unfold Wf at d
    refine Zb (Zm H R R R λa H=>Ze (s_2 ?_))
    refine c_if H R d ?_ ?_
    ·intro az d
     refine t_2 (Zw (s_2 (p_2 (Zb (Zd H R λa H=>?_)))))
     obtain ⟨a0,X,d⟩:=bix d
     refine Ys H R R o_2 ty5 (I.rd T) X.1 λa H=>ZO (v:=(vB a0)) H R ty5 R (Xx (I.rd T) X.2) λa H=>Zc H R λa H=>Zc H R λa H=>Ze ?_
     obtain ⟨A,Y,d⟩:=bix d
     obtain ⟨B,be,d⟩:=p_1 d
     obtain ⟨bg,Z,d⟩:=bix d
     refine Z7 [63,64,65,66,67,68,69,70,71,72] YJ R R dd_ R H I (q_m (λ_=>R) (q_m (λ_=>R) (qsP (λz=>XD z.E Za ld R R o_2 ty5 (z.M.sl0) Y.1 (kr0 R)) (qsP (λz=>ZL (v:=(vB A)) z.E Za ld R ty5 R (Xx (z.M.sl0) Y.2) (kr0 R)) (q_m (λ_=>R) (q_m (λ_=>R) (q_m (λ_=>R) (qsP (λz=>ZW z.E Za ld R A5 (YR _ x a0 ab B be) (kc R)) (qsP (v:=(vB (A ^^^ B))) (λz=>Ye z.E Za ld R R (VH A B) (kr0 R)) (qsP (λz=>XD z.E Za ld R R o_2 ty5 (z.M.sl0) Z.1 (kr0 R)) qs0)))))))))) ?_
     ·intro a w u H I
      refine Zhn (i:=(W.1).toNat) (k0:=0) (seg:=[vB (A ^^^ B)]) (xo:=bg) (xn:=A ^^^ B) H I Za R R R ty5 R (t_1 (A ^^^ B : UInt8)) Z.2 (Zlh (m:=1) R dd_) (Zg R) λw a I H=>Zf (Yn (Zw (s_1 (Zm H R R R λa H=>Zd H R λa H=>Zf (Zi ?_)))))
      exact ⟨_,ois d,N,H.s,I⟩
    intro az d
    refine s_3 (Zp (Zp (Yv ?_)))
    obtain rfl:=ay _ (ois d)
    refine Zi ?_
    exact ⟨N,H.s,I⟩
   rintro a w ⟨U,H,I⟩
   refine Yn (Zw (s_1 (Zm H R R R λa H=>Zd H R λa H=>Zf (Zi ?_))))
   exact ⟨_,ois ax,U,H.s,I⟩
  intro af l
  refine s_3 (Zp (Zp (Yv ?_)))
  obtain rfl:=ae _ (ois l)
  refine Zi ?_
  exact ⟨j,H.s,I⟩
 rintro a w ⟨O,H,I⟩
 refine Zw (Zb (Zd H R λa H=>Zc H R λa H=>Ze ?_))
 obtain rfl:=o_1 ad
 exact u_2 (ZT H R (Zy H R) ⟨_,R,O,R,I.outF (Z1 Yj),I.kept⟩)
def V3 (k : Int) (b : List GShare) (l : Int) (c : Int) : Option (Fl Int (Fl Unit Bool)) :=
 if decide (c < (b.length : Int)) then (((slc b (0 : Int) l).bind λd=>(idx b c).bind λe=>(Wr k d e.Place).bind λf=>(idx b c).bind λh=>(QT f h.Data).bind λi=>some (!i) : Option (Bool)).bind λj=>if j then (some (Fl.ex (Fl.ex false))) else (some (Fl.nx (wr (c + 1))))) else (some (Fl.ex (Fl.nx ())))
def TX (c : Int) (d : List GShare) (b : Int) : Option (Bool) :=
 (ZK (V3 c d b) b).bind λe=>e.el (λf=>some true) (λr=>some r)
theorem jZ (i : World) (q : Int) (p1 : List GShare) (d : Value) (b : Ro i p1 [d]) (o : Int) (r : Bool) (hF : TX q p1 o = some r) :
  Calls prog 226 [vI q,d,vI o].toArray i (Rt i (vT r)):=by
 refine ce func226 ?_
 intro a H
 have I:=M.start i
 unfold TX at hF
 refine Zb (Zc H R λa H=>Ze (s_2 (Zb (Zd H R λa H=>Zc H R λa H=>Ze ?_))))
 obtain ⟨j1,U,l⟩:=p_1 hF
 refine ZX (λa w=>∃ s4 : Unit,j1 = Fl.nx s4 ∧ Env 32 a [] ∧ M (Old i) i w []) ?_ ?_
 ·refine p_2 ?_
  refine ZN (λ(W : Int) a w=>Env 32 a [(0,vI q),(1,d),(2,vI o),(7,vI W)] ∧ M (Old i) i w []) U ⟨H.s,I⟩ ?_
  rintro W a w ⟨H,I⟩ o8 h t
  unfold V3 at h
  refine s_2 (Zb (Zd H R λa H=>Zd H R λa H=>Yp H R s_5 (I.rd b) λa H=>Zm H R R R λa H=>Ze ?_))
  refine c_if H R h ?_ ?_
  ·intro X h
   refine t_2 (Zw (s_2 (p_2 ?_)))
   obtain ⟨Y,c,e⟩:=p_1 h
   refine ZG (λa w=>Env 32 a [(0,vI q),(1,d),(2,vI o),(7,vI W),(31,vT Y)] ∧ M (Old i) i w []) ?_ ?_
   ·obtain ⟨x,y,c⟩:=p_1 c
    have Z : Rep.sat (Old i) i x [ZV d ((0 : Int)).toNat (o).toNat 2] []:=Yo b y -- ^
    obtain ⟨A,j,c⟩:=bix c
    obtain ⟨ag,B,C⟩:=V2 b j.2 -- ^
    obtain ⟨aj,rfl,ak⟩:=Jw B -- ^
    obtain ⟨m,aa,c⟩:=p_1 c
    obtain ⟨G,k,c⟩:=bix c
    obtain ⟨ah,K,L⟩:=V2 b k.2 -- ^
    obtain ⟨N,rfl,ab⟩:=Jw K -- ^
    refine Y0 (its:=[]) (mk:=([mkO 9 (λv=>osl NoB m v)] : Mk)) [15,16,17,18,19,20,21,22,23,24,25,26,27,28,29] YJ R R dd_ R H (λu=>M.qE (M.q0 I.drew u) emO) (q_m (λ_=>R) (q_m (λ_=>R) (q_m (λ_=>R) (qsP (λz=>Uk z.E Za ld R R (Ju R) R R s_5 US (z.M.rd b) y (kr0 R)) (q_m (λ_=>R) (q_m (λ_=>R) (qsP (λz=>XD z.E Za ld R R s_5 US (z.M.rd b) j.1 (kr0 R)) (qsP (λz=>Zo z.E Za ld R (Br) (kr0 R)) (qsP (λz=>ZL (v:=(vB A.Place)) z.E Za ld R ty5 R (at_0 (z.M.atk C (Qi b j.2))) (kr0 R)) (q_t ?_ (q_m (λ_=>R) (q_m (λ_=>R) (qsP (λz=>XD z.E Za ld R R s_5 US (z.M.rd b) k.1 (kr0 R)) (qsP (λz=>Zo z.E Za ld R (Bq) (kr0 R)) (qsP (λz=>ZL (v:=N) z.E Za ld R Uf R (at_1 (z.M.atk L (Qi b k.2))) (kr0 R)) qs0))))))))))))))) ?_
    ·intro a w n D z
     have H:=z.E
     have hD : D 9 = false:=z.F
     have hM0:=z.M
     have I:=z.M
     refine Zn H R (cbm func227) (JU _ q x (ZV d ((0 : Int)).toNat (o).toNat 2) (I.rdo Z) A.Place m aa) ?_
     rintro _ w a ⟨_,rfl,hFr,hK⟩ H
     have I:=hM0.add hK hFr
     exact ⟨_,_,R,H,M.qFill (mk1:=[]) (mk2:=[]) (f:=(λv=>osl NoB m v)) I R hD,trivial⟩
    intro a w n D H I hG O
    have d9:=O 9 dd_
    have I:=I.sure (pre:=[]) d9
    obtain ⟨ac,ad,c⟩:=p_1 c
    refine c_k H I R (cbm func169) (z8 _ m (n 9) (I.sl0) G.Data N (I.rdo ab) ac ad) λw a I H=>?_
    refine Qe H R λa H=>Zf ?_
    obtain rfl:=o_1 c
    refine Zi ?_
    have I:=I.f_0
    exact ⟨H.s,I⟩
   rintro a w ⟨H,I⟩
   refine c_if H R e ?_ ?_
   ·intro T e
    refine Zb (Zc H R λa H=>Ze ?_)
    obtain rfl:=t _ (ois e)
    obtain rfl:=o_1 l
    exact u_2 (YZ (ZA (ZA (YZ (ZA (ZA (kr1 H R R I.kept)))))))
   intro T e
   refine t_2 (Yn (Zw (s_1 (Zd H R λa H=>Zm H R R R λa H=>Zc H R λa H=>Zf (Zi ?_)))))
   exact ⟨_,ois e,H.s,I⟩
  intro X h
  refine s_3 (Zp (Zp (Yv ?_)))
  obtain rfl:=t _ (ois h)
  refine Zi ?_
  exact ⟨(),R,H.sub trivial,I⟩
 rintro a w ⟨s4,ht,H,I⟩
 subst ht
 have l:=JM l
 refine Zw (Zb (Zc H R λa H=>Ze ?_))
 obtain rfl:=o_1 l
 exact u_2 (kr1 H R R I.kept)
def VX (e : Int) (b : List GShare) (c : Int) (f : UInt8) : Option (List UInt8 × Int) :=
 (Wv b).bind λh=>if decide (h < c) then (some ([],4)) else ((TX e b c).bind λi=>if !i then (some ([],5)) else ((slc b (0 : Int) c).bind λj=>(Wr e j f).bind λd=>some (d,0)))
theorem AP (d : World) (h : Int) (i : List GShare) (b : Value) (c : Ro d i [b]) (e : Int) (j : UInt8) (r : List UInt8 × Int) (hF : VX h i e j = some r) :
  Calls prog 130 [vI h,b,vI e,vB j].toArray d (e_r λv w'=>(∃ t : Value,v = (Value.tuple [t,vI r.2].toArray) ∧ Fr d w' [osl NoB r.1 t] ∧ Kept (Old d) d w')):=by
 refine ce func130 ?_
 intro a H
 have I:=M.start d
 unfold VX at hF
 refine Zb (Zc H R λa H=>Zc H R λa H=>Ze (s_2 (p_2 (Zb (Zd H R λa H=>?_)))))
 obtain ⟨x,y,hF⟩:=p_1 hF
 refine c_k H I R (cbm func224) (K0 _ i b (I.rdo c) x y) λw a I H=>?_
 refine Zd H R λa H=>Zm H R R R λa H=>Zc H R λa H=>Ze ?_
 refine c_if H R hF ?_ ?_
 ·intro k hF
  refine Zb (Zc H R λa H=>Zc H R λa H=>Ze ?_)
  have I:=M.nilS (α:=UInt8) NoB noB I
  obtain rfl:=o_1 hF
  exact u_2 (YZ (ZA (YN H R (Zy H R) (Zy H R) ⟨_,R,xf,R,I.outF (Z1 Yj),I.kept⟩)))
 intro k hF
 refine Zb (Zd H R λa H=>Zd H R λa H=>Zd H R λa H=>?_)
 obtain ⟨z,A,hF⟩:=p_1 hF
 refine c_k H I R (cbm func226) (jZ _ h i b (I.rdo c) e z A) λw a I H=>?_
 refine Qe H R λa H=>Zc H R λa H=>Ze ?_
 refine c_if H R hF ?_ ?_
 ·intro l hF
  refine Zb (Zc H R λa H=>Zc H R λa H=>Ze ?_)
  have I:=M.nilS (α:=UInt8) NoB noB I
  obtain rfl:=o_1 hF
  exact u_2 (YZ (ZA (YN H R (Zy H R) (Zy H R) ⟨_,R,xf,R,I.outF (Z1 Yj),I.kept⟩)))
 intro l hF
 refine t_2 (Yn (Zw (Zb (Zd H R λa H=>Zd H R λa H=>Zd H R λa H=>?_))))
 obtain ⟨u,f,hF⟩:=p_1 hF
 refine Uk H Za ld R R R R R s_5 US (I.rd c) f λa H=>?_
 have m : Rep.sat (Old d) d u [ZV b ((0 : Int)).toNat (e).toNat 2] []:=Yo c f -- ^
 refine Zd H R λa H=>?_
 obtain ⟨n,o,hF⟩:=p_1 hF
 refine Zn H R (cbm func227) (JU _ h u (ZV b ((0 : Int)).toNat (e).toNat 2) (I.rdo m) j n o) ?_
 rintro q w a ⟨_,rfl,hFr,hK⟩ H
 have I:=I.add hK hFr
 refine Zc H R λa H=>Zc H R λa H=>Ze ?_
 obtain rfl:=o_1 hF
 exact u_2 (YN H R (Zy H R) (Zy H R) ⟨_,R,q,R,I.outF (Z1 Yj),I.kept⟩)
def UT (b : Int) (c : List GShare) (d : Int) : Option (List UInt8 × Int) :=
 (UU b c d).bind λe=>if e != 0 then (some ([],e)) else ((VX b c d 0).bind λf=>some (f.1,f.2))
theorem yv (d : World) (e : Int) (f : List GShare) (b : Value) (c : Ro d f [b]) (h : Int) (r : List UInt8 × Int) (hF : UT e f h = some r) :
  Calls prog 38 [vI e,b,vI h].toArray d (e_r λv w'=>(∃ j : Value,v = (Value.tuple [j,vI r.2].toArray) ∧ Fr d w' [osl NoB r.1 j] ∧ Kept (Old d) d w')):=by
 refine ce func38 ?_
 intro a H
 have I:=M.start d
 unfold UT at hF
 refine Zb (Zc H R λa H=>Zc H R λa H=>Ze (s_2 (Zb (Zd H R λa H=>Zd H R λa H=>Zd H R λa H=>?_))))
 obtain ⟨k,l,hF⟩:=p_1 hF
 refine c_k H I R (cbm func129) (yq _ e f b (I.rdo c) h k l) λw a I H=>?_
 refine Zc H R λa H=>Ze (Zb (Zd H R λa H=>Zm H R R R λa H=>Ze ?_))
 refine c_if H R hF ?_ ?_
 ·intro i hF
  refine Zb (Zd H R λa H=>Zc H R λa H=>Zc H R λa H=>Ze ?_)
  have I:=M.nilS (α:=UInt8) NoB noB I
  obtain rfl:=o_1 hF
  exact u_2 (ZA (YN H R (Zy H R) (Zy H R) ⟨_,R,xf,R,I.outF (Z1 Yj),I.kept⟩))
 intro i hF
 refine t_2 (Zw (Zb (Zd H R λa H=>Zd H R λa H=>Zd H R λa H=>?_)))
 obtain ⟨m,n,hF⟩:=p_1 hF
 refine Zn H R (cbm func130) (AP _ e f b (I.rdo c) h 0 m n) ?_
 rintro v w a ⟨o,rfl,hFr,hK⟩ H
 have I:=I.add hK hFr
 refine ZM H Za ld R R λa H=>ZM H Za ld R R λa H=>Zc H R λa H=>Zc H R λa H=>Ze ?_
 obtain rfl:=o_1 hF
 exact u_2 (YN H R (Zy H R) (Zy H R) ⟨_,R,o,R,I.outF (Z1 Yj),I.kept⟩)
def Xn : Option ((Ref Gengine)) :=
 (Qr 4).bind λb=>some b
theorem Vt (b : World)  (r : (Ref Gengine)) (hF : Xn  = some r) :
  Calls prog 132 [].toArray b (e_r λv w'=>(∃ c : Value,v = c ∧ Fr b w' [own NoB r [c]] ∧ Kept (Old b) b w')):=by
 refine ce func132 ?_
 intro a H
 have I:=M.start b
 unfold Xn at hF
 refine Zb (Zc H R λa H=>Ze (Zb ?_))
 obtain ⟨d,e,hF⟩:=p_1 hF
 refine Zn H R Zo0 (Al _ 4 d e) ?_
 rintro f w a ⟨_,rfl,hFr,hK⟩ H
 have I:=I.add hK hFr
 refine Zc H R λa H=>Ze ?_
 obtain rfl:=o_1 hF
 exact u_2 (ZT H R (Zy H R) ⟨_,R,f,R,I.outF (He Yj),I.kept⟩)
def W8 (j : (Ref Gengine)) (i : List GEvent) (b : V32 × Int) : Option (Fl (V32 × Int) V32) :=
 if decide (b.2 < (i.length : Int)) then ((idx i b.2).bind λc=>(slc b.1.toList (0 : Int) (32 : Int)).bind λd=>(XU c.Number 4).bind λe=>(slc c.Tag.toList (0 : Int) (32 : Int)).bind λf=>(YC j ([d,([Zz c.Kind] : List UInt8),e,f] : (List (List UInt8)))).bind λh=>some (Fl.nx (h,wr (b.2 + 1)))) else (some (Fl.ex b.1))
def Wz (c : (Ref Gengine)) (d : List GEvent) : Option (V32) :=
 (mkS 1 (0 : UInt8) 32).bind λe=>(YC c ([e] : (List (List UInt8)))).bind λf=>(ZK (W8 c d) (f,0)).bind λb=>some b
theorem Jr (K : World) (p0 : (Ref Gengine)) (q : Value) (B : Ro K p0 [q]) (p1 : List GEvent) (C : Value) (y : Ro K p1 [C]) (r : V32) (hF : Wz p0 p1 = some r) :
  Calls prog 137 [q,C].toArray K (Rt K (Value.agg (enc r).toArray)):=by
 refine ce func137 ?_
 intro a H
 have I:=M.start K
 unfold Wz at hF
 refine Zb (Zx H I Yi λA w a I H=>Ze (Zb (Zd H R λa H=>?_)))
 obtain ⟨l3,e4,hF⟩:=p_1 hF
 refine Zoa H I Za ld R R o_2 ty5 R dd_ (λ_=>H6.2 ⟨R,R⟩) e4 λu5 w a I H=>TB (xs:=[.tmp 9]) (vs:=[u5]) H I Za ld R R t_5 Uf dd_ (WL (Ym (I.sl0)) Aq) λb7 w a I H=>?_
 obtain ⟨r9,ai,hF⟩:=p_1 hF
 refine c_k H I R Zi5 (X6 _ p0 q (I.rdo B) ([l3] : xp) (Value.slice (some ⟨b7,0,none⟩) 1 1) (Ac I.ra0 (I.rawLt (pre:=[])) ⟨I.sl1,trivial⟩ R) r9 ai) λw a I H=>?_
 refine Zx H I Yi λe w a I H=>s_w r9 H I Za R R R Yi λw a I H=>Ze (s_2 (Zb (Zd H R λa H=>Yp H R s_6 (I.rd y) λa H=>Zd H R λa H=>Ze ?_)))
 obtain ⟨U,W,X⟩:=p_1 hF
 refine ZX (λa w=>Env 33 a [(4,ptr A 0),(5,ptr e 0)] ∧ M (Old K) K w [raw e (enc U),raw A xq]) ?_ ?_
 ·refine p_2 ?_
  have I:=I.pl3.pl1.f_2
  refine ZN (λ(n : V32 × Int) a w=>Env 33 a [(0,q),(4,ptr A 0),(5,ptr e 0),(12,C),(13,vI (p1.length : Int)),(14,vI n.2)] ∧ M (Old K) K w [raw e (enc n.1),raw A xq]) W ⟨H.s,I⟩ ?_
  rintro n a w ⟨H,I⟩ ax d Y
  unfold W8 at d
  refine Zb (Zm H R R R λa H=>Ze (s_2 ?_))
  refine c_if H R d ?_ ?_
  ·intro Z d
   refine t_2 (Zw (s_2 (p_2 (Zb ?_))))
   obtain ⟨b,L,d⟩:=bix d
   refine Ys H R R s_6 KN (I.rd y) L.1 λa H=>Zu H R KN R (Xx (I.rd y) L.2) cq λa H=>Zx H I KN λh w a I H=>Zk (seg:=cat [[vI b.Kind],[vI b.Number],enc b.Tag]) (cs':=cat [[vI b.Kind],[vI b.Number],enc b.Tag]) H I Za R R R KN cq (q_1 cq cq) (Z0 (cc1 (t_1 (b.Kind : Int)) (cc1 (t_1 (b.Number : Int)) (cc1 (t_1 _) cc0)))) (q_2 cq cq) λw a I H=>Ze ?_
   obtain ⟨aj,O,d⟩:=p_1 d
   have aa:=Ul O -- ^
   obtain ⟨o,ak,d⟩:=p_1 d
   obtain ⟨al,T,d⟩:=p_1 d
   have ab:=Ul T -- ^
   refine Y0 (its:=[raw h (cat [[vI b.Kind],[vI b.Number],enc b.Tag]),raw e (enc n.1),raw A xq]) (mk:=([mkO 5 (λv=>osl NoB (([Zz b.Kind] : List UInt8) : List UInt8) v),mkO 8 (λv=>osl NoB o v),mkL 11 [5,8] 4 (λus=>[ZV (.slice (some ⟨e,0,none⟩) 32 32) ((0 : Int)).toNat ((32 : Int)).toNat 1,us.getD 0 undef,us.getD 1 undef,ZV (.slice (some ⟨h,0 + 2,none⟩) 32 32) ((0 : Int)).toNat ((32 : Int)).toNat 1])] : Mk)) [18,19,20,21,22,23,24,25,26,27,28,29] YJ R R dd_ R H (λu=>M.qE (M.qE (M.qE (M.q0 I.drew u) emL) emO) emO) (q_m (λ_=>R) (qsP (λz=>XH (N:=32) z.E Za ld R R R R R p_6 ty5 aa (kr0 R)) (qsP (λz=>Zo z.E Za ld R (jl) (kr0 R)) (qsP (λz=>ZL (v:=(vI b.Kind)) z.E Za ld R ty2 R (at_0 (z.M.ra0)) (kr0 R)) (qsP (λz=>Xq z.E Za ld R t_4 t_3 (kr0 R)) (q_t ?_ (qsP (λz=>Zo z.E Za ld R (yL) (kr0 R)) (qsP (λz=>ZL (v:=(vI b.Number)) z.E Za ld R ty2 R (at_1 (z.M.ra0)) (kr0 R)) (q_t ?_ (qsP (λz=>Zo z.E Za ld R (Zk2) (kr0 R)) (qsP (λz=>XH (N:=32) z.E Za ld R R R R R p_6 ty5 ab (kr0 R)) (q_t ?_ qs0)))))))))))) ?_
   ·intro a w x D z
    have H:=z.E
    have hD : D 5 = false:=z.F
    have hsL : D 11 = false:=Kb (j:=11) (k:=1) z.c R R R hD
    have I:=z.M
    refine ZR (xs:=[.tmp 22]) (l:=([Zz b.Kind] : List UInt8)) (vs:=[vB (Zz b.Kind)]) H I Za ld R R o_2 ty5 R dd_ R λay w a I H=>?_
    have I:=M.litOff (its:=_ :: [raw h (cat [[vI b.Kind],[vI b.Number],enc b.Tag]),raw e (enc n.1),raw A xq]) (mk:=([mkO 5 (λv=>osl NoB (([Zz b.Kind] : List UInt8) : List UInt8) v),mkO 8 (λv=>osl NoB o v)] : Mk)) (i:=11) (ds:=[5,8]) (m:=4) (f:=(λus=>[ZV (.slice (some ⟨e,0,none⟩) 32 32) ((0 : Int)).toNat ((32 : Int)).toNat 1,us.getD 0 undef,us.getD 1 undef,ZV (.slice (some ⟨h,0 + 2,none⟩) 32 32) ((0 : Int)).toNat ((32 : Int)).toNat 1])) I hsL
    exact ⟨_,_,R,H,M.litOn (its:=[raw h (cat [[vI b.Kind],[vI b.Number],enc b.Tag]),raw e (enc n.1),raw A xq]) (mk:=([mkO 5 (λv=>osl NoB (([Zz b.Kind] : List UInt8) : List UInt8) v),mkO 8 (λv=>osl NoB o v)] : Mk)) (i:=11) (ds:=[5,8]) (m:=4) (f:=(λus=>[(ZV (.slice (some ⟨e,0,none⟩) 32 32) ((0 : Int)).toNat ((32 : Int)).toNat 1),(us.getD 0 undef),(us.getD 1 undef),(ZV (.slice (some ⟨h,0 + 2,none⟩) 32 32) ((0 : Int)).toNat ((32 : Int)).toNat 1)])) (M.qFill (its:=[raw h (cat [[vI b.Kind],[vI b.Number],enc b.Tag]),raw e (enc n.1),raw A xq]) (mk1:=[]) (mk2:=[_]) (f:=(λv=>osl NoB (([Zz b.Kind] : List UInt8) : List UInt8) v)) I R hD) hsL dd_,trivial⟩
   ·intro a w x D z
    have H:=z.E
    have hD : D 8 = false:=z.F
    have hsL : D 11 = false:=Kb (j:=11) (k:=2) z.c R R R hD
    have hM0:=z.M
    have I:=z.M
    refine Zn H R Zp8 (JW _ b.Number 4 o ak) ?_
    rintro _ w a ⟨_,rfl,hFr,hK⟩ H
    have I:=hM0.add hK hFr
    have I:=M.litOff (its:=_ :: [raw h (cat [[vI b.Kind],[vI b.Number],enc b.Tag]),raw e (enc n.1),raw A xq]) (mk:=([mkO 5 (λv=>osl NoB (([Zz b.Kind] : List UInt8) : List UInt8) v),mkO 8 (λv=>osl NoB o v)] : Mk)) (i:=11) (ds:=[5,8]) (m:=4) (f:=(λus=>[ZV (.slice (some ⟨e,0,none⟩) 32 32) ((0 : Int)).toNat ((32 : Int)).toNat 1,us.getD 0 undef,us.getD 1 undef,ZV (.slice (some ⟨h,0 + 2,none⟩) 32 32) ((0 : Int)).toNat ((32 : Int)).toNat 1])) I hsL
    exact ⟨_,_,R,H,M.litOn (its:=[raw h (cat [[vI b.Kind],[vI b.Number],enc b.Tag]),raw e (enc n.1),raw A xq]) (mk:=([mkO 5 (λv=>osl NoB (([Zz b.Kind] : List UInt8) : List UInt8) v),mkO 8 (λv=>osl NoB o v)] : Mk)) (i:=11) (ds:=[5,8]) (m:=4) (f:=(λus=>[(ZV (.slice (some ⟨e,0,none⟩) 32 32) ((0 : Int)).toNat ((32 : Int)).toNat 1),(us.getD 0 undef),(us.getD 1 undef),(ZV (.slice (some ⟨h,0 + 2,none⟩) 32 32) ((0 : Int)).toNat ((32 : Int)).toNat 1)])) (M.qFill (its:=[raw h (cat [[vI b.Kind],[vI b.Number],enc b.Tag]),raw e (enc n.1),raw A xq]) (mk1:=[_]) (mk2:=[]) (f:=(λv=>osl NoB o v)) I R hD) hsL dd_,trivial⟩
   ·intro a w x D z
    have H:=z.E
    have hD : D 11 = false:=z.F
    have d5 : D 5 = true:=z.p 1 _ R R
    have d8 : D 8 = true:=z.p 2 _ R R
    have I:=(z.M.su3 d5).sure (pre:=[_,_,_,_]) d8
    refine TB (xs:=[.tmp 19,.tmp 23,.tmp 26,.tmp 28]) (vs:=[ZV (.slice (some ⟨e,0,none⟩) 32 32) ((0 : Int)).toNat ((32 : Int)).toNat 1,x 5,x 8,ZV (.slice (some ⟨h,0 + 2,none⟩) 32 32) ((0 : Int)).toNat ((32 : Int)).toNat 1]) H I Za ld R R t_5 Uf dd_ (WL (Ym (Yo (At.sat I.ra1 (by simp) dd_) O)) (WL (Ym (I.sl3)) (WL (Ym (I.sl4)) (WL (Ym (Yo (At.sat (at_2 I.ra0) (by simp) dd_) T)) Aq)))) λaz w a I H=>?_
    have I:=(I.unsure (pre:=[_,_,_,_,_]) d8).unsure (pre:=[_,_,_,_]) d5
    exact ⟨_,_,R,H,M.litFill (its:=[raw h (cat [[vI b.Kind],[vI b.Number],enc b.Tag]),raw e (enc n.1),raw A xq]) (mk:=([mkO 5 (λv=>osl NoB (([Zz b.Kind] : List UInt8) : List UInt8) v),mkO 8 (λv=>osl NoB o v)] : Mk)) (i:=11) (ds:=[5,8]) (m:=4) (f:=(λus=>[ZV (.slice (some ⟨e,0,none⟩) 32 32) ((0 : Int)).toNat ((32 : Int)).toNat 1,us.getD 0 undef,us.getD 1 undef,ZV (.slice (some ⟨h,0 + 2,none⟩) 32 32) ((0 : Int)).toNat ((32 : Int)).toNat 1])) I R hD dd_,trivial⟩
   intro a w x D H I hG G
   have d5:=G 5 dd_
   have d8:=G 8 dd_
   have am:=G 11 dd_
   have I:=(((I.su3 d5).sure (pre:=[_,_,_,_]) d8).sure (pre:=[_,_,_,_,_]) am).pl
   obtain ⟨an,ao,I⟩:=M.litOpen I
   have H:=H.setq (t:=29) R ao
   obtain ⟨ac,ap,d⟩:=p_1 d
   refine Zn H R Zi5 (X6 _ p0 q (I.rdo B) ([aj,([Zz b.Kind] : List UInt8),o,al] : xp) (Value.slice (some ⟨an,0,none⟩) 4 4) (Ac I.ra0 (I.rawLt (pre:=[])) ⟨Yo (At.sat I.ra2 (by simp) dd_) O,I.sl4,I.sl (pre:=[_,_,_,_,_]) noB,Yo (At.sat (at_2 I.ra1) (by simp) dd_) T,trivial⟩ R) ac ap) ?_
   rintro v w a ⟨rfl,hK⟩ H
   have I:=(I.keep hK).pl2
   refine s_w ac H I Za R R R Yi λw a I H=>Zf (Yn (Zw (s_1 (Zm H R R R λa H=>Zd H R λa H=>Zf (Zi ?_)))))
   have I:=I.pl3.pl1.f_2
   exact ⟨_,ois d,H.s,I⟩
  intro Z d
  refine s_3 (Zp (Zp (Yv ?_)))
  obtain rfl:=Y _ (ois d)
  refine Zi ?_
  exact ⟨H.s,I⟩
 rintro a w ⟨H,I⟩
 refine Zw (Zb (Zu H R Yi R I.ra0 (u_1 _) λa H=>?_))
 have I:=I.pl1
 refine s_w U H I Za R R R Yi λw a I H=>Ze ?_
 obtain rfl:=o_1 X
 have ad : Z8 prog _ _ (.cell 4 32) _:=ZH H R Yi R I.ra0 (u_1 _) R
 exact u_2 (ZT H R ad ⟨_,R,R,I.kept⟩)
def QB (e : V16) : Option (GVault) :=
 ((Xn).bind λb=>(Wz b ([] : List GEvent)).bind λc=>some (([e] : List V16),1,c) : Option (List V16 × Int × V32)).bind λd=>some (⟨d.1,d.2.1,[],[],d.2.2⟩ : GVault)
theorem qC (j : World) (h : V16) (r : GVault) (hF : QB h = some r) :
  Calls prog 40 [Value.agg (enc h).toArray].toArray j (e_r λv w'=>(∃ y A B : Value,v = (vcV y A B r) ∧ Fr j w' [osl NoB r.Keys y,osl NoB r.Records A,osl NoB r.Events B] ∧ Kept (Old j) j w')):=by
 refine ce func40 ?_
 intro a H
 have I:=M.start j
 unfold QB at hF
 refine Zb (ZY (cs:=enc h) H I Za ld R R λC w a I H=>Zx H I YX λm w a I H=>Ze ?_)
 obtain ⟨n,d,o⟩:=p_1 hF
 refine ZG (λa w=>∃ u8 : Value,Env 8 a [(2,ptr m 0)] ∧ M (Old j) j w [raw m (cat [[u8],[vI n.2.1],[xf],[xf],enc n.2.2]),osl NoB n.1 u8]) ?_ ?_
 ·obtain ⟨e,q,d⟩:=p_1 d
  obtain ⟨c,t,d⟩:=p_1 d
  refine Y0 (its:=[raw m xy,raw C (enc h)]) (mk:=([mkO 1 (λv=>osl NoB (([h] : List V16) : List V16) v),mkO 2 (λv=>own NoB e [v])] : Mk)) [3,4,5,6] YJ R R dd_ R H (λu=>M.qE (M.qE (M.q0 I.drew u) emO) emO) (qsP (λz=>ZB z.E Za ld R ZD R (z.M.ra1) (u_1 _) (kr0 R)) (q_t ?_ (q_t ?_ (qsP (v:=(Value.agg (enc c).toArray)) ?_ qs0)))) ?_
  ·intro a w b D z
   have H:=z.E
   have hD : D 1 = false:=z.F
   have I:=z.M
   exact ZR (xs:=[.tmp 3]) (l:=([h] : List V16)) (vs:=[Value.agg (enc h).toArray]) H I Za ld R R o_3 ZD R dd_ R λG w a I H=>⟨_,_,R,H,M.qFill (mk1:=[]) (mk2:=[_]) (f:=(λv=>osl NoB (([h] : List V16) : List V16) v)) I R hD,trivial⟩
  ·intro a w b D z
   have H:=z.E
   have hD : D 2 = false:=z.F
   have hM0:=z.M
   have I:=z.M
   refine Zn H R Zeb (Vt _  e q) ?_
   rintro _ w a ⟨_,rfl,hFr,hK⟩ H
   have I:=hM0.add hK hFr
   exact ⟨_,_,R,H,M.qFill (mk1:=[_]) (mk2:=[]) (f:=(λv=>own NoB e [v])) I R hD,trivial⟩
  ·intro a w b D z
   have H:=z.E
   have x : D 2 = true:=z.p 0 _ R R
   have I:=z.M.su3 x
   refine Zn H R Zpp (Jr _ e (b 2) (I.ro (pre:=[_,_,_]) noB) ([] : List GEvent) xf Zn4 c t) ?_
   rintro v w a ⟨rfl,hK⟩ H
   exact ⟨hK,_,R,H⟩
  intro a w b D H I hG i
  have K:=i 1 dd_
  have x:=i 2 dd_
  have I:=(I.sure (pre:=[_,_]) K).su3 x
  refine YQ (parts:=[(0,.tmp 4),(1,.const (vI 1)),(4,.tmp 6)]) (vs:=[(0,b 1),(1,vI 1),(4,Value.agg (enc c).toArray)]) (cs:=cat [[b 1],[vI 1],[xf],[xf],enc c]) H Za ld R R YX qt (Yk (pre:=[]) (seg:=[xf]) (seg':=[b 1]) (post:=[[vI 0],[xf],[xf],enc xd]) R cl0 R R (Ym (I.sl2)) (Yk (pre:=[[b 1]]) (seg:=[vI 0]) (seg':=[vI 1]) (post:=[[xf],[xf],enc xd]) R ck R R R (Yk (pre:=[[b 1],[vI 1],[xf],[xf]]) (seg:=enc xd) (seg':=enc c) (post:=[]) R ck (u_1 _) (u_1 _) R XL))) λa H=>Zk (seg:=cat [[b 1],[vI 1],[xf],[xf],enc c]) (cs':=cat [[b 1],[vI 1],[xf],[xf],enc c]) H I Za R R R YX cq (q_1 cq cq) (Z0 (cc1 (o_4 (I.sl2)) (cc1 (t_1 (1 : Int)) (cc1 Xr (cc1 Xr (cc1 (t_1 _) cc0)))))) (q_2 cq cq) λw a I H=>Zf ?_
  obtain rfl:=o_1 d
  refine Zi ?_
  have I:=I.pl2.pl1.f_2
  exact ⟨b 1,H.s,I⟩
 rintro a w ⟨u8,H,I⟩
 have I:=M.nilS (α:=GEvent) NoB noB (M.nilS (α:=GRecord) NoB noB I)
 obtain rfl:=o_1 o
 have k : Z8 prog _ _ (.cell 2 79) _:=ZH H R YX R I.ra2 cq R
 have I:=I.pl1.pl3.f_3
 exact u_2 (ZT H R k ⟨_,R,u8,xf,xf,R,I.outF (Z1 (Z1 (Z1 Yj))),I.kept⟩)
def Z3 (b : List V16) : Option (Int) :=
 some (b.length : Int)
theorem YI (d : World) (e : List V16) (b : Value) (c : Ro d e [b]) (r : Int) (hF : Z3 e = some r) :
  Calls prog 135 [b].toArray d (Rt d (vI r)):=by
 refine ce func135 ?_
 intro a H
 have I:=M.start d
 unfold Z3 at hF
 refine Zb (Zc H R λa H=>Ze (Zb (Zd H R λa H=>Yp H R o_3 (I.rd c) λa H=>Zc H R λa H=>Ze ?_)))
 obtain rfl:=o_1 hF
 exact u_2 (kr1 H R R I.kept)
def XK (e : List GEvent) (f : GEvent → Option (Bool)) (b : Int) : Option (Fl Int (Fl Unit Int)) :=
 if decide (b < (e.length : Int)) then ((idx e b).bind λc=>((f c)).bind λd=>if d then (some (Fl.ex (Fl.ex b))) else (some (Fl.nx (wr (b + 1))))) else (some (Fl.ex (Fl.nx ())))
def Xa (b : List GEvent) (c : GEvent → Option (Bool)) : Option (Int) :=
 (ZK (XK b c) 0).bind λd=>d.el (λe=>some (-1)) (λr=>some r)
theorem Q2 (e : World) (o : List GEvent) (d : Value) (c : Ro e o [d]) (z : GEvent → Option (Bool)) (m : Nat) (q1 : List Value) (i : Callable prog m) (q : ∀ (n : World),Kept (Old e) e n → ∀ (A : GEvent) (zr : Bool),z A = some zr → Calls prog m ([Value.agg (enc A).toArray] ++ q1).toArray n (λen E=>∃ v,en = .returned v ∧ (v = (vT zr) ∧ Kept (Old n) n E))) (r : Int) (hF : Xa o z = some r) :
  Calls prog 248 [d,Value.func (.func m) #[] q1.toArray].toArray e (Rt e (vI r)):=by
 refine ce func248 ?_
 intro a H
 have I:=M.start e
 unfold Xa at hF
 refine Zb (Zc H R λa H=>Ze (s_2 (Zb (Zd H R λa H=>Yp H R s_6 (I.rd c) λa H=>Zd H R λa H=>Ze ?_))))
 obtain ⟨F,t,f⟩:=p_1 hF
 refine ZX (λa w=>∃ B : Unit,F = Fl.nx B ∧ Env 19 a [] ∧ M (Old e) e w []) ?_ ?_
 ·refine p_2 ?_
  refine ZN (λ(C : Int) a w=>Env 19 a [(0,d),(1,Value.func (.func m) #[] q1.toArray),(7,vI (o.length : Int)),(8,vI C)] ∧ M (Old e) e w []) t ⟨H.s,I⟩ ?_
  rintro C a w ⟨H,I⟩ G b j
  unfold XK at b
  refine Zb (Zm H R R R λa H=>Ze (s_2 ?_))
  refine c_if H R b ?_ ?_
  ·intro u b
   refine t_2 (Zw (s_2 (p_2 (Zb (Zd H R λa H=>Zc H R λa H=>Ze (Zb (Zd H R λa H=>Zd H R λa H=>Zd H R λa H=>?_)))))))
   obtain ⟨k,h,b⟩:=bix b
   refine Ys H R R s_6 KN (I.rd c) h.1 λa H=>Zu H R KN R (Xx (I.rd c) h.2) cq λa H=>?_
   obtain ⟨x,y,b⟩:=p_1 b
   refine yS (vs:=[Value.agg (enc k).toArray]) H Za ld R R i (q _ I.kept k x y) ?_
   rintro v w a ⟨rfl,hK⟩ H
   have I:=I.keep hK
   refine Ze ?_
   refine c_if H R b ?_ ?_
   ·intro l b
    refine Zb (Zd H R λa H=>Zc H R λa H=>Ze ?_)
    obtain rfl:=j _ (ois b)
    obtain rfl:=o_1 f
    exact u_2 (YZ (ZA (ZA (YZ (ZA (ZA (kr1 H R R I.kept)))))))
   intro l b
   refine t_2 (Yn (Zw (s_1 (Zm H R R R λa H=>Zd H R λa H=>Zf (Zi ?_)))))
   exact ⟨_,ois b,H.s,I⟩
  intro u b
  refine s_3 (Zp (Zp (Yv ?_)))
  obtain rfl:=j _ (ois b)
  refine Zi ?_
  exact ⟨(),R,H.sub trivial,I⟩
 rintro a w ⟨B,ht,H,I⟩
 subst ht
 have f:=JM f
 refine Zw (Zb (Zc H R λa H=>Ze ?_))
 obtain rfl:=o_1 f
 exact u_2 (kr1 H R R I.kept)
def Yt (b : List GEvent) (c : GEvent → Option (Bool)) : Option (Bool) :=
 (Xa b c).bind λd=>some (decide (d ≥ 0))
theorem Qa (d : World) (i : List GEvent) (b : Value) (c : Ro d i [b]) (j : GEvent → Option (Bool)) (h : Nat) (q1 : List Value) (f : Callable prog h) (k : ∀ (e : World),Kept (Old d) d e → ∀ (m : GEvent) (zr : Bool),j m = some zr → Calls prog h ([Value.agg (enc m).toArray] ++ q1).toArray e (λen n=>∃ v,en = .returned v ∧ (v = (vT zr) ∧ Kept (Old e) e n))) (r : Bool) (hF : Yt i j = some r) :
  Calls prog 157 [b,Value.func (.func h) #[] q1.toArray].toArray d (Rt d (vT r)):=by
 refine ce func157 ?_
 intro a H
 have I:=M.start d
 unfold Yt at hF
 refine Zb (Zc H R λa H=>Ze (Zb (Zd H R λa H=>Zd H R λa H=>?_)))
 obtain ⟨o,q,hF⟩:=p_1 hF
 refine c_k H I R (cbm func248) (Q2 _ i b (I.rdo c) j h q1 f (λe l=>k e (I.kept.trans l)) o q) λw a I H=>?_
 refine Zm H R R R λa H=>Zc H R λa H=>Ze ?_
 obtain rfl:=o_1 hF
 exact u_2 (kr1 H R R I.kept)
def Jg (b : Int) : Option (Bool) :=
 (Yy b 0 1000000).bind λc=>some c
theorem ql (b : World) (c : Int) (r : Bool) (hF : Jg c = some r) :
  Calls prog 249 [vI c].toArray b (Rt b (vT r)):=by
 refine ce func249 ?_
 intro a H
 have I:=M.start b
 unfold Jg at hF
 refine Zb (Zc H R λa H=>Ze (Zb (Zd H R λa H=>?_)))
 obtain ⟨d,e,hF⟩:=p_1 hF
 refine c_k H I R JI (Yw _ c 0 1000000 d e) λw a I H=>?_
 refine Zc H R λa H=>Ze ?_
 obtain rfl:=o_1 hF
 exact u_2 (kr1 H R R I.kept)
def Km (b : GEvent) : Option (Bool) :=
 ((Yy b.Kind 1 4).bind λc=>if c then ((Jg b.Number).bind λd=>some d) else (some false) : Option (Bool)).bind λe=>some e
theorem Za5 (e : World) (d : GEvent) (r : Bool) (hF : Km d = some r) :
  Calls prog 159 [Value.agg (enc d).toArray].toArray e (Rt e (vT r)):=by
 refine ce func159 ?_
 intro a H
 have I:=M.start e
 unfold Km at hF
 refine Zb (ZY (cs:=cat [[vI d.Kind],[vI d.Number],enc d.Tag]) H I Za ld R R λm w a I H=>Zc H R λa H=>Ze ?_)
 obtain ⟨j,c,f⟩:=p_1 hF
 refine ZG (λa w=>Env 11 a [(2,vT j)] ∧ M (Old e) e w []) ?_ ?_
 ·refine s_1 (Zr H R (jl) λa H=>ZO (v:=(vI d.Kind)) H R ty2 R (at_0 I.ra0) λa H=>?_)
  obtain ⟨i,k,c⟩:=p_1 c
  refine c_k H I R JI (Yw _ d.Kind 1 4 i k) λw a I H=>?_
  refine Zd H R λa H=>?_
  refine Yq i (λb=>?_) (λb=>?_)
  ·have c:=Zt c b
   refine Zo H (Zh H R (lkb R b)) dd_ R (yL) λa H=>ZL (v:=(vI d.Number)) H (Zh H R (lkb R b)) dd_ R ty2 R (at_1 I.ra0) λa H=>?_
   obtain ⟨l,h,c⟩:=p_1 c
   refine ZW H (Zh H R (lkb R b)) dd_ R (cbm func249) (ql _ d.Number l h) ?_
   rintro v w a ⟨rfl,hK⟩ H
   have I:=I.keep hK
   refine Z2 H (lkb R b) R λa H=>Zc H R λa H=>Zf ?_
   obtain rfl:=o_1 c
   refine Zi ?_
   have I:=I.f_0
   exact ⟨H.s,I⟩
  have c:=Zs c b
  refine k_s H b R R R λa H=>k_s H b R R R λa H=>k_s H b R R R λa H=>ZZ H (lkb R b) R λa H=>Zc H R λa H=>Zf ?_
  obtain rfl:=o_1 c
  refine Zi ?_
  have I:=I.f_0
  exact ⟨H.s,I⟩
 rintro a w ⟨H,I⟩
 obtain rfl:=o_1 f
 exact u_2 (kr1 H R R I.kept)
def T4 (b : GEvent) : Option (Bool) :=
 (Km b).bind λc=>some (!c)
theorem jQ (c : World) (b : GEvent) (r : Bool) (hF : T4 b = some r) :
  Calls prog 158 [Value.agg (enc b).toArray].toArray c (Rt c (vT r)):=by
 refine ce func158 ?_
 intro a H
 have I:=M.start c
 unfold T4 at hF
 refine Zb (ZY (cs:=cat [[vI b.Kind],[vI b.Number],enc b.Tag]) H I Za ld R R λf w a I H=>Zc H R λa H=>Ze (Zb (Zu H R KN R I.ra0 cq λa H=>?_)))
 obtain ⟨d,e,hF⟩:=p_1 hF
 refine c_k H I R (cbm func159) (Za5 _ b d e) λw a I H=>?_
 refine Qe H R λa H=>Zc H R λa H=>Ze ?_
 obtain rfl:=o_1 hF
 exact u_2 (kr1 H R R I.kept)
def Te (d : GVault) (b : Int) : Option (Fl Int (Fl Unit Bool)) :=
 if decide (b < (d.Records.length : Int)) then ((idx d.Records b).bind λc=>((Yy c.Number 1 (wr (d.Next - 1))).bind λe=>if !e then (some true) else (if decide (b > 0) then ((idx d.Records (wr (b - 1))).bind λf=>some (decide (f.Number ≥ c.Number))) else (some false)) : Option (Bool)).bind λh=>if h then (some (Fl.ex (Fl.ex false))) else (((Z3 d.Keys).bind λi=>(Yy c.Version 0 (wr (i - 1))).bind λj=>if !j then (some true) else (if decide ((c.Label.length : Int) > 32) then (some true) else (some (decide ((c.Body.length : Int) > 200)))) : Option (Bool)).bind λk=>if k then (some (Fl.ex (Fl.ex false))) else (some (Fl.nx (wr (b + 1)))))) else (some (Fl.ex (Fl.nx ())))
def VM (b : GVault) : Option (Bool) :=
 ((Z3 b.Keys).bind λf=>(Yy f 1 8).bind λh=>if !h then (some true) else ((Yy b.Next 1 1000000).bind λc=>if !c then (some true) else (if decide ((b.Records.length : Int) > 12) then (some true) else (some (decide ((b.Events.length : Int) > 60))))) : Option (Bool)).bind λi=>if i then (some false) else ((ZK (Te b) 0).bind λd=>d.el (λj=>(Yt b.Events (λk=>T4 k)).bind λe=>some (!e)) (λr=>some r))
theorem JD (K : World) (q : GVault) (b : Value) (B : Ro K q.Keys [b]) (h : Value) (t : Ro K q.Records [h]) (x : Value) (O : Ro K q.Events [x]) (r : Bool) (hF : VM q = some r) :
  Calls prog 48 [vcV b h x q].toArray K (Rt K (vT r)):=by
 refine ce func48 ?_
 intro a H
 have I:=M.start K
 unfold VM at hF
 refine Zb (ZY (cs:=cV b h x q) H I Za ld R R λY w a I H=>Zc H R λa H=>Ze (s_2 ?_))
 obtain ⟨j3,k,T⟩:=p_1 hF
 refine ZG (λa w=>Env 84 a [(1,ptr Y 0),(27,vT j3)] ∧ M (Old K) K w [raw Y (cV b h x q)]) ?_ ?_
 ·refine s_1 (Zr H R (KV) λa H=>ZO (v:=b) H R BZ R (at_0 I.ra0) λa H=>?_)
  obtain ⟨r6,e7,k⟩:=p_1 k
  refine c_k H I R y8 (YI _ q.Keys b (I.rdo B) r6 e7) λw a I H=>?_
  obtain ⟨r8,e9,k⟩:=p_1 k
  refine c_k H I R JI (Yw _ r6 1 8 r8 e9) λw a I H=>?_
  refine Qe H R λa H=>Zd H R λa H=>?_
  refine Yq (!r8) (λl=>?_) (λl=>?_)
  ·have k:=Zt k l
   refine k_s H l R R R λa H=>k_s H l R R R λa H=>k_s H l R R R λa H=>k_s H l R R R λa H=>Z2 H (lkb R l) R λa H=>Zd H R λa H=>Zj H R R R dd_ λa H=>Zj H R R R dd_ λa H=>Zj H R R R dd_ λa H=>Zj H R R R dd_ λa H=>Z2 H R R λa H=>Zd H R λa H=>?_
   refine Zj H R R R dd_ λa H=>Zj H R R R dd_ λa H=>Zj H R R R dd_ λa H=>Zj H R R R dd_ λa H=>Z2 H R R λa H=>Zf ?_
   obtain rfl:=o_1 k
   refine Zi ?_
   exact ⟨H.s,I⟩
  have k:=Zs k l
  refine Zo H (Zh H R (lkb R l)) dd_ R (Ah) λa H=>ZL (v:=(vI q.Next)) H (Zh H R (lkb R l)) dd_ R ty2 R (at_1 I.ra0) λa H=>?_
  obtain ⟨ag,av,k⟩:=p_1 k
  refine ZW H (Zh H R (lkb R l)) dd_ R JI (Yw _ q.Next 1 1000000 ag av) ?_
  rintro v w a ⟨rfl,hK⟩ H
  have I:=I.keep hK
  refine QH H (Zh H R (lkb R l)) dd_ R λa H=>ZZ H (lkb R l) R λa H=>Zd H R λa H=>?_
  refine Yq (!ag) (λm=>?_) (λm=>?_)
  ·have k:=Zt k m
   refine k_s H m R R R λa H=>k_s H m R R R λa H=>k_s H m R R R λa H=>k_s H m R R R λa H=>Z2 H (lkb R m) R λa H=>Zd H R λa H=>Zj H R R R dd_ λa H=>Zj H R R R dd_ λa H=>Zj H R R R dd_ λa H=>Zj H R R R dd_ λa H=>Z2 H R R λa H=>Zf ?_
   obtain rfl:=o_1 k
   refine Zi ?_
   exact ⟨H.s,I⟩
  have k:=Zs k m
  refine Zo H (Zh H R (lkb R m)) dd_ R (Ke) λa H=>ZL (v:=h) H (Zh H R (lkb R m)) dd_ R AG R (at_2 I.ra0) λa H=>Q7 H (Zh H R (lkb R m)) dd_ R p_5 (I.rd t) λa H=>Ye H (Zh H R (lkb R m)) dd_ R R R λa H=>ZZ H (lkb R m) R λa H=>Zd H R λa H=>?_
  refine Yq (decide ((q.Records.length : Int) > 12)) (λn=>?_) (λn=>?_)
  ·have k:=Zt k n
   refine k_s H n R R R λa H=>k_s H n R R R λa H=>k_s H n R R R λa H=>k_s H n R R R λa H=>Z2 H (lkb R n) R λa H=>Zf ?_
   obtain rfl:=o_1 k
   refine Zi ?_
   exact ⟨H.s,I⟩
  have k:=Zs k n
  refine Zo H (Zh H R (lkb R n)) dd_ R (HT) λa H=>ZL (v:=x) H (Zh H R (lkb R n)) dd_ R qh R (at_3 I.ra0) λa H=>Q7 H (Zh H R (lkb R n)) dd_ R s_6 (I.rd O) λa H=>Ye H (Zh H R (lkb R n)) dd_ R R R λa H=>ZZ H (lkb R n) R λa H=>Zf ?_
  obtain rfl:=o_1 k
  refine Zi ?_
  exact ⟨H.s,I⟩
 rintro a w ⟨H,I⟩
 refine c_if H R T ?_ ?_
 ·intro ah T
  refine Zb (Zc H R λa H=>Ze ?_)
  obtain rfl:=o_1 T
  exact u_2 (ZA (kr1 H R R I.kept))
 intro ah T
 refine t_2 (Zw (s_2 (Zb (Zr H R (Ke) λa H=>ZO (v:=h) H R AG R (at_2 I.ra0) λa H=>Yp H R p_5 (I.rd t) λa H=>Zd H R λa H=>Ze ?_))))
 obtain ⟨aw,ai,A⟩:=p_1 T
 refine ZX (λa w=>∃ aj : Unit,aw = Fl.nx aj ∧ Env 84 a [(1,ptr Y 0)] ∧ M (Old K) K w [raw Y (cV b h x q)]) ?_ ?_
 ·refine p_2 ?_
  refine ZN (λ(L : Int) a w=>Env 84 a [(1,ptr Y 0),(29,h),(30,vI (q.Records.length : Int)),(31,vI L)] ∧ M (Old K) K w [raw Y (cV b h x q)]) ai ⟨H.s,I⟩ ?_
  rintro L a w ⟨H,I⟩ ba y U
  unfold Te at y
  refine Zb (Zm H R R R λa H=>Ze (s_2 ?_))
  refine c_if H R y ?_ ?_
  ·intro ak y
   refine t_2 (Zw (s_2 (p_2 (Zb (Zd H R λa H=>?_)))))
   obtain ⟨d,W,y⟩:=bix y
   refine Ys H R R p_5 Vd (I.rd t) W.1 λa H=>?_
   obtain ⟨a5,al,am⟩:=V2 t W.2 -- ^
   obtain ⟨N,Z,rfl,ac,an⟩:=TF al -- ^
   refine Zu H R Vd R (I.atk am (Qi t W.2)) cq λa H=>Zx H I Vd λao w a I H=>Zc H R λa H=>Zk (seg:=cR N Z d) (cs':=cR N Z d) H I Za R R R Vd cq (q_1 cq cq) (Z0 (cc1 (t_1 (d.Number : Int)) (cc1 (t_1 (d.Version : Int)) (cc1 (t_1 _) (cc1 (o_4 (I.rd ac)) (cc1 (o_4 (I.rd an)) (cc1 (t_1 _) cc0))))))) (q_2 cq cq) λw a I H=>Ze (s_2 ?_)
   obtain ⟨ax,i,F⟩:=p_1 y
   refine ZG (λa w=>Env 84 a [(1,ptr Y 0),(4,ptr ao 0),(29,h),(30,vI (q.Records.length : Int)),(31,vI L),(58,vT ax)] ∧ M (Old K) K w [raw ao (cR N Z d),raw Y (cV b h x q)]) ?_ ?_
   ·obtain ⟨aa,ad,i⟩:=p_1 i
    refine Yq (!aa) (λe=>?_) (λe=>?_)
    ·have i:=Zt i e
     refine Z7 [36,37,38,39,40,41,42,43,44,45,46,47,48,49,50,51,52,53,54,55,56,57,58] YJ R R dd_ R H I (qsP (λz=>Zo z.E Za ld R (Hi) (kr0 R)) (qsP (λz=>ZL (v:=(vI d.Number)) z.E Za ld R ty2 R (at_0 (z.M.ra0)) (kr0 R)) (qsP (λz=>Zo z.E Za ld R (Ah) (kr0 R)) (qsP (λz=>ZL (v:=(vI q.Next)) z.E Za ld R ty2 R (at_1 (z.M.ra1)) (kr0 R)) (qsP (v:=(vI (wr (q.Next - 1)))) (λz=>Ye z.E Za ld R R R (kr0 R)) (qsP (λz=>ZW z.E Za ld R JI (Yw _ d.Number 1 (wr (q.Next - 1)) aa ad) (kc R)) (qsP (λz=>QH z.E Za ld R (kr0 R)) (q_m (λ_=>R) (qsP (λz=>Zj z.E R (lkb R e) R dd_ (kr0 R)) (qsP (λz=>Zj z.E R (lkb R e) R dd_ (kr0 R)) (qsP (λz=>Zj z.E R (lkb R e) R dd_ (kr0 R)) (qsP (λz=>JK z.E R R dd_ (kr0 R)) (qsP (λz=>JK z.E R R dd_ (kr0 R)) (qsP (λz=>JK z.E R R dd_ (kr0 R)) (qsP (λz=>JK z.E R R dd_ (kr0 R)) (qsP (λz=>JK z.E R R dd_ (kr0 R)) (qsP (λz=>JK z.E R R dd_ (kr0 R)) (qsP (λz=>JK z.E R R dd_ (kr0 R)) (qsP (λz=>JK z.E R R dd_ (kr0 R)) (qsP (λz=>JK z.E R R dd_ (kr0 R)) (qsP (λz=>JK z.E R R dd_ (kr0 R)) (qsP (λz=>Zj z.E R (lkb R e) R dd_ (kr0 R)) (qsP (λz=>Ji z.E Za ld (lkb R e) R (kr0 R)) qs0))))))))))))))))))))))) ?_
     ·intro a w u H I
      refine Zf ?_
      obtain rfl:=o_1 i
      refine Zi ?_
      exact ⟨H.s,I⟩
    have i:=Zs i e
    refine Yq (decide (L > 0)) (λc=>?_) (λc=>?_)
    ·have i:=Zt i c
     obtain ⟨ay,X,i⟩:=bix i
     obtain ⟨a6,ap,aq⟩:=V2 t X.2 -- ^
     obtain ⟨bb,bc,rfl,bd,be⟩:=TF ap -- ^
     refine Z7 [36,37,38,39,40,41,42,43,44,45,46,47,48,49,50,51,52,53,54,55,56,57,58] YJ R R dd_ R H I (qsP (λz=>Zo z.E Za ld R (Hi) (kr0 R)) (qsP (λz=>ZL (v:=(vI d.Number)) z.E Za ld R ty2 R (at_0 (z.M.ra0)) (kr0 R)) (qsP (λz=>Zo z.E Za ld R (Ah) (kr0 R)) (qsP (λz=>ZL (v:=(vI q.Next)) z.E Za ld R ty2 R (at_1 (z.M.ra1)) (kr0 R)) (qsP (v:=(vI (wr (q.Next - 1)))) (λz=>Ye z.E Za ld R R R (kr0 R)) (qsP (λz=>ZW z.E Za ld R JI (Yw _ d.Number 1 (wr (q.Next - 1)) aa ad) (kc R)) (qsP (λz=>QH z.E Za ld R (kr0 R)) (q_m (λ_=>R) (qsP (λz=>Zl z.E (Zh z.E R (lkb R e)) dd_ R (kr0 R)) (qsP (λz=>Ye z.E (Zh z.E R (lkb R e)) dd_ R R R (kr0 R)) (qsP (λz=>Zl z.E (Zh z.E R (lkb R e)) dd_ R (kr0 R)) (qsP (λz=>Zo z.E (Zh z.E R (lkb R c)) dd_ R (Ke) (kr0 R)) (qsP (λz=>ZL (v:=h) z.E (Zh z.E R (lkb R c)) dd_ R AG R (at_2 (z.M.ra1)) (kr0 R)) (qsP (λz=>Zl z.E (Zh z.E R (lkb R c)) dd_ R (kr0 R)) (qsP (v:=(vI (wr (L - 1)))) (λz=>Ye z.E (Zh z.E R (lkb R c)) dd_ R R R (kr0 R)) (qsP (λz=>XD z.E (Zh z.E R (lkb R c)) dd_ R R p_5 Vd (z.M.rd t) X.1 (kr0 R)) (qsP (λz=>Zo z.E (Zh z.E R (lkb R c)) dd_ R (Hi) (kr0 R)) (qsP (λz=>ZL (v:=(vI ay.Number)) z.E (Zh z.E R (lkb R c)) dd_ R ty2 R (at_0 (z.M.atk aq (Qi t X.2))) (kr0 R)) (qsP (λz=>Zo z.E (Zh z.E R (lkb R c)) dd_ R (Hi) (kr0 R)) (qsP (λz=>ZL (v:=(vI d.Number)) z.E (Zh z.E R (lkb R c)) dd_ R ty2 R (at_0 (z.M.ra0)) (kr0 R)) (qsP (λz=>Ye z.E (Zh z.E R (lkb R c)) dd_ R R R (kr0 R)) (qsP (λz=>Ji z.E (Zh z.E R (lkb R e)) dd_ (lkb R c) R (kr0 R)) (qsP (λz=>KB z.E Za ld (lkb R e) R (kr0 R)) qs0))))))))))))))))))))))) ?_
     ·intro a w u H I
      refine Zf ?_
      obtain rfl:=o_1 i
      refine Zi ?_
      exact ⟨H.s,I⟩
    have i:=Zs i c
    refine Z7 [36,37,38,39,40,41,42,43,44,45,46,47,48,49,50,51,52,53,54,55,56,57,58] YJ R R dd_ R H I (qsP (λz=>Zo z.E Za ld R (Hi) (kr0 R)) (qsP (λz=>ZL (v:=(vI d.Number)) z.E Za ld R ty2 R (at_0 (z.M.ra0)) (kr0 R)) (qsP (λz=>Zo z.E Za ld R (Ah) (kr0 R)) (qsP (λz=>ZL (v:=(vI q.Next)) z.E Za ld R ty2 R (at_1 (z.M.ra1)) (kr0 R)) (qsP (v:=(vI (wr (q.Next - 1)))) (λz=>Ye z.E Za ld R R R (kr0 R)) (qsP (λz=>ZW z.E Za ld R JI (Yw _ d.Number 1 (wr (q.Next - 1)) aa ad) (kc R)) (qsP (λz=>QH z.E Za ld R (kr0 R)) (q_m (λ_=>R) (qsP (λz=>Zl z.E (Zh z.E R (lkb R e)) dd_ R (kr0 R)) (qsP (λz=>Ye z.E (Zh z.E R (lkb R e)) dd_ R R R (kr0 R)) (qsP (λz=>Zl z.E (Zh z.E R (lkb R e)) dd_ R (kr0 R)) (qsP (λz=>Zj z.E R (lkb R c) R dd_ (kr0 R)) (qsP (λz=>Zj z.E R (lkb R c) R dd_ (kr0 R)) (qsP (λz=>Zj z.E R (lkb R c) R dd_ (kr0 R)) (qsP (λz=>Zj z.E R (lkb R c) R dd_ (kr0 R)) (qsP (λz=>Zj z.E R (lkb R c) R dd_ (kr0 R)) (qsP (λz=>Zj z.E R (lkb R c) R dd_ (kr0 R)) (qsP (λz=>Zj z.E R (lkb R c) R dd_ (kr0 R)) (qsP (λz=>Zj z.E R (lkb R c) R dd_ (kr0 R)) (qsP (λz=>Zj z.E R (lkb R c) R dd_ (kr0 R)) (qsP (λz=>Zj z.E R (lkb R c) R dd_ (kr0 R)) (qsP (λz=>KB z.E (Zh z.E R (lkb R e)) dd_ (lkb R c) R (kr0 R)) (qsP (λz=>KB z.E Za ld (lkb R e) R (kr0 R)) qs0))))))))))))))))))))))) ?_
    ·intro a w u H I
     refine Zf ?_
     obtain rfl:=o_1 i
     refine Zi ?_
     exact ⟨H.s,I⟩
   rintro a w ⟨H,I⟩
   refine c_if H R F ?_ ?_
   ·intro ar F
    refine Zb (Zc H R λa H=>Ze ?_)
    obtain rfl:=U _ (ois F)
    obtain rfl:=o_1 A
    exact u_2 (ZA (YZ (ZA (ZA (YZ (ZA (ZA (kr1 H R R I.kept))))))))
   intro ar F
   refine t_2 (Zw ?_)
   obtain ⟨az,j,G⟩:=p_1 F
   refine ZG (λa w=>Env 84 a [(1,ptr Y 0),(29,h),(30,vI (q.Records.length : Int)),(31,vI L),(78,vT az)] ∧ M (Old K) K w [raw Y (cV b h x q)]) ?_ ?_
   ·obtain ⟨C,ae,j⟩:=p_1 j
    obtain ⟨ab,af,j⟩:=p_1 j
    refine Yq (!ab) (λf=>?_) (λf=>?_)
    ·have j:=Zt j f
     refine Z7 [59,60,61,62,63,64,65,66,67,68,69,70,71,72,73,74,75,76,77,78] YJ R R dd_ R H I (qsP (λz=>Zo z.E Za ld R (Am) (kr0 R)) (qsP (λz=>ZL (v:=(vI d.Version)) z.E Za ld R ty2 R (at_1 (z.M.ra0)) (kr0 R)) (qsP (λz=>Zo z.E Za ld R (KV) (kr0 R)) (qsP (λz=>ZL (v:=b) z.E Za ld R BZ R (at_0 (z.M.ra1)) (kr0 R)) (qsP (λz=>ZW z.E Za ld R y8 (YI _ q.Keys b (z.M.rdo B) C ae) (kc R)) (qsP (v:=(vI (wr (C - 1)))) (λz=>Ye z.E Za ld R R R (kr0 R)) (qsP (λz=>ZW z.E Za ld R JI (Yw _ d.Version 0 (wr (C - 1)) ab af) (kc R)) (qsP (λz=>QH z.E Za ld R (kr0 R)) (q_m (λ_=>R) (qsP (λz=>Zj z.E R (lkb R f) R dd_ (kr0 R)) (qsP (λz=>Zj z.E R (lkb R f) R dd_ (kr0 R)) (qsP (λz=>Zj z.E R (lkb R f) R dd_ (kr0 R)) (qsP (λz=>Zj z.E R (lkb R f) R dd_ (kr0 R)) (qsP (λz=>Ji z.E Za ld (lkb R f) R (kr0 R)) (q_m (λ_=>R) (qsP (λz=>Zj z.E R R R dd_ (kr0 R)) (qsP (λz=>Zj z.E R R R dd_ (kr0 R)) (qsP (λz=>Zj z.E R R R dd_ (kr0 R)) (qsP (λz=>Zj z.E R R R dd_ (kr0 R)) (qsP (λz=>Ji z.E Za ld R R (kr0 R)) qs0)))))))))))))))))))) ?_
     ·intro a w u H I
      refine Zf ?_
      obtain rfl:=o_1 j
      refine Zi ?_
      have I:=I.pl1.f_1
      exact ⟨H.s,I⟩
    have j:=Zs j f
    refine Yq (decide ((d.Label.length : Int) > 32)) (λo=>?_) (λo=>?_)
    ·have j:=Zt j o
     refine Z7 [59,60,61,62,63,64,65,66,67,68,69,70,71,72,73,74,75,76,77,78] YJ R R dd_ R H I (qsP (λz=>Zo z.E Za ld R (Am) (kr0 R)) (qsP (λz=>ZL (v:=(vI d.Version)) z.E Za ld R ty2 R (at_1 (z.M.ra0)) (kr0 R)) (qsP (λz=>Zo z.E Za ld R (KV) (kr0 R)) (qsP (λz=>ZL (v:=b) z.E Za ld R BZ R (at_0 (z.M.ra1)) (kr0 R)) (qsP (λz=>ZW z.E Za ld R y8 (YI _ q.Keys b (z.M.rdo B) C ae) (kc R)) (qsP (v:=(vI (wr (C - 1)))) (λz=>Ye z.E Za ld R R R (kr0 R)) (qsP (λz=>ZW z.E Za ld R JI (Yw _ d.Version 0 (wr (C - 1)) ab af) (kc R)) (qsP (λz=>QH z.E Za ld R (kr0 R)) (q_m (λ_=>R) (qsP (λz=>Zo z.E (Zh z.E R (lkb R f)) dd_ R (kd) (kr0 R)) (qsP (λz=>ZL (v:=N) z.E (Zh z.E R (lkb R f)) dd_ R Uf R (at_3 (z.M.ra0)) (kr0 R)) (qsP (λz=>Q7 z.E (Zh z.E R (lkb R f)) dd_ R o_2 (z.M.rd ac) (kr0 R)) (qsP (λz=>Ye z.E (Zh z.E R (lkb R f)) dd_ R R R (kr0 R)) (qsP (λz=>KB z.E Za ld (lkb R f) R (kr0 R)) (q_m (λ_=>R) (qsP (λz=>Zj z.E R (lkb R o) R dd_ (kr0 R)) (qsP (λz=>Zj z.E R (lkb R o) R dd_ (kr0 R)) (qsP (λz=>Zj z.E R (lkb R o) R dd_ (kr0 R)) (qsP (λz=>Zj z.E R (lkb R o) R dd_ (kr0 R)) (qsP (λz=>Ji z.E Za ld (lkb R o) R (kr0 R)) qs0)))))))))))))))))))) ?_
     ·intro a w u H I
      refine Zf ?_
      obtain rfl:=o_1 j
      refine Zi ?_
      have I:=I.pl1.f_1
      exact ⟨H.s,I⟩
    have j:=Zs j o
    refine Z7 [59,60,61,62,63,64,65,66,67,68,69,70,71,72,73,74,75,76,77,78] YJ R R dd_ R H I (qsP (λz=>Zo z.E Za ld R (Am) (kr0 R)) (qsP (λz=>ZL (v:=(vI d.Version)) z.E Za ld R ty2 R (at_1 (z.M.ra0)) (kr0 R)) (qsP (λz=>Zo z.E Za ld R (KV) (kr0 R)) (qsP (λz=>ZL (v:=b) z.E Za ld R BZ R (at_0 (z.M.ra1)) (kr0 R)) (qsP (λz=>ZW z.E Za ld R y8 (YI _ q.Keys b (z.M.rdo B) C ae) (kc R)) (qsP (v:=(vI (wr (C - 1)))) (λz=>Ye z.E Za ld R R R (kr0 R)) (qsP (λz=>ZW z.E Za ld R JI (Yw _ d.Version 0 (wr (C - 1)) ab af) (kc R)) (qsP (λz=>QH z.E Za ld R (kr0 R)) (q_m (λ_=>R) (qsP (λz=>Zo z.E (Zh z.E R (lkb R f)) dd_ R (kd) (kr0 R)) (qsP (λz=>ZL (v:=N) z.E (Zh z.E R (lkb R f)) dd_ R Uf R (at_3 (z.M.ra0)) (kr0 R)) (qsP (λz=>Q7 z.E (Zh z.E R (lkb R f)) dd_ R o_2 (z.M.rd ac) (kr0 R)) (qsP (λz=>Ye z.E (Zh z.E R (lkb R f)) dd_ R R R (kr0 R)) (qsP (λz=>KB z.E Za ld (lkb R f) R (kr0 R)) (q_m (λ_=>R) (qsP (λz=>Zo z.E (Zh z.E R (lkb R o)) dd_ R (yk) (kr0 R)) (qsP (λz=>ZL (v:=Z) z.E (Zh z.E R (lkb R o)) dd_ R Uf R (at_4 (z.M.ra0)) (kr0 R)) (qsP (λz=>Q7 z.E (Zh z.E R (lkb R o)) dd_ R o_2 (z.M.rd an) (kr0 R)) (qsP (λz=>Ye z.E (Zh z.E R (lkb R o)) dd_ R R R (kr0 R)) (qsP (λz=>KB z.E Za ld (lkb R o) R (kr0 R)) qs0)))))))))))))))))))) ?_
    ·intro a w u H I
     refine Zf ?_
     obtain rfl:=o_1 j
     refine Zi ?_
     have I:=I.pl1.f_1
     exact ⟨H.s,I⟩
   rintro a w ⟨H,I⟩
   refine c_if H R G ?_ ?_
   ·intro au G
    refine Zb (Zc H R λa H=>Ze ?_)
    obtain rfl:=U _ (ois G)
    obtain rfl:=o_1 A
    exact u_2 (YZ (ZA (ZA (YZ (ZA (ZA (kr1 H R R I.kept)))))))
   intro au G
   refine t_2 (Yn (Zw (s_1 (Zm H R R R λa H=>Zd H R λa H=>Zf (Zi ?_)))))
   exact ⟨_,ois G,H.s,I⟩
  intro ak y
  refine s_3 (Zp (Zp (Yv ?_)))
  obtain rfl:=U _ (ois y)
  refine Zi ?_
  exact ⟨(),R,H.s,I⟩
 rintro a w ⟨aj,ht,H,I⟩
 subst ht
 have A:=JM A
 refine Zw (Zb (Zr H R (HT) λa H=>ZO (v:=x) H R qh R (at_3 I.ra0) λa H=>?_))
 obtain ⟨a0,a1,A⟩:=p_1 A
 refine c_k H I R (cbm func157) (Qa _ q.Events x (I.rdo O) (λz0=>T4 z0) 158 [] (cbm func158) (λw2 bh z0 zr zhr=>jQ w2 z0 zr zhr) a0 a1) λw a I H=>?_
 refine Qe H R λa H=>Zc H R λa H=>Ze ?_
 obtain rfl:=o_1 A
 exact u_2 (kr1 H R R I.kept)
def Yu (e : List GRecord) (f : GRecord → Option (Bool)) (b : Int) : Option (Fl Int (Fl Unit Int)) :=
 if decide (b < (e.length : Int)) then ((idx e b).bind λc=>((f c)).bind λd=>if d then (some (Fl.ex (Fl.ex b))) else (some (Fl.nx (wr (b + 1))))) else (some (Fl.ex (Fl.nx ())))
def Yf (b : List GRecord) (c : GRecord → Option (Bool)) : Option (Int) :=
 (ZK (Yu b c) 0).bind λd=>d.el (λe=>some (-1)) (λr=>some r)
theorem WZ (f : World) (A : List GRecord) (d : Value) (c : Ro f A [d]) (N : GRecord → Option (Bool)) (y : Nat) (q1 : List Value) (j : Callable prog y) (B : ∀ (i : World),Kept (Old f) f i → ∀ (z : GRecord) (k : Value) (_ : Ro i z.Label [k]) (l : Value) (_ : Ro i z.Body [l]) (zr : Bool),N z = some zr → Calls prog y ([vcR k l z] ++ q1).toArray i (λen W=>∃ v,en = .returned v ∧ (v = (vT zr) ∧ Kept (Old i) i W))) (r : Int) (hF : Yf A N = some r) :
  Calls prog 292 [d,Value.func (.func y) #[] q1.toArray].toArray f (Rt f (vI r)):=by
 refine ce func292 ?_
 intro a H
 have I:=M.start f
 unfold Yf at hF
 refine Zb (Zc H R λa H=>Ze (s_2 (Zb (Zd H R λa H=>Yp H R p_5 (I.rd c) λa H=>Zd H R λa H=>Ze ?_))))
 obtain ⟨X,C,h⟩:=p_1 hF
 refine ZX (λa w=>∃ O : Unit,X = Fl.nx O ∧ Env 19 a [] ∧ M (Old f) f w []) ?_ ?_
 ·refine p_2 ?_
  refine ZN (λ(T : Int) a w=>Env 19 a [(0,d),(1,Value.func (.func y) #[] q1.toArray),(7,vI (A.length : Int)),(8,vI T)] ∧ M (Old f) f w []) C ⟨H.s,I⟩ ?_
  rintro T a w ⟨H,I⟩ Y b m
  unfold Yu at b
  refine Zb (Zm H R R R λa H=>Ze (s_2 ?_))
  refine c_if H R b ?_ ?_
  ·intro E b
   refine t_2 (Zw (s_2 (p_2 (Zb (Zd H R λa H=>Zc H R λa H=>Ze (Zb (Zd H R λa H=>Zd H R λa H=>Zd H R λa H=>?_)))))))
   obtain ⟨n,e,b⟩:=bix b
   refine Ys H R R p_5 Vd (I.rd c) e.1 λa H=>?_
   obtain ⟨U,o,q⟩:=V2 c e.2 -- ^
   obtain ⟨t,u,rfl,F,G⟩:=TF o -- ^
   refine Zu H R Vd R (I.atk q (Qi c e.2)) cq λa H=>?_
   obtain ⟨K,L,b⟩:=p_1 b
   refine yS (vs:=[vcR t u n]) H Za ld R R j (B _ I.kept n t (I.rdo F) u (I.rdo G) K L) ?_
   rintro v w a ⟨rfl,hK⟩ H
   have I:=I.keep hK
   refine Ze ?_
   refine c_if H R b ?_ ?_
   ·intro x b
    refine Zb (Zd H R λa H=>Zc H R λa H=>Ze ?_)
    obtain rfl:=m _ (ois b)
    obtain rfl:=o_1 h
    exact u_2 (YZ (ZA (ZA (YZ (ZA (ZA (kr1 H R R I.kept)))))))
   intro x b
   refine t_2 (Yn (Zw (s_1 (Zm H R R R λa H=>Zd H R λa H=>Zf (Zi ?_)))))
   exact ⟨_,ois b,H.s,I⟩
  intro E b
  refine s_3 (Zp (Zp (Yv ?_)))
  obtain rfl:=m _ (ois b)
  refine Zi ?_
  exact ⟨(),R,H.sub trivial,I⟩
 rintro a w ⟨O,ht,H,I⟩
 subst ht
 have h:=JM h
 refine Zw (Zb (Zc H R λa H=>Ze ?_))
 obtain rfl:=o_1 h
 exact u_2 (kr1 H R R I.kept)
def YM (b : List GRecord) (c : GRecord → Option (Bool)) : Option (Bool) :=
 (Yf b c).bind λd=>some (decide (d ≥ 0))
theorem TI (e : World) (l : List GRecord) (b : Value) (d : Ro e l [b]) (m : GRecord → Option (Bool)) (j : Nat) (q1 : List Value) (f : Callable prog j) (n : ∀ (c : World),Kept (Old e) e c → ∀ (k : GRecord) (h : Value) (_ : Ro c k.Label [h]) (i : Value) (_ : Ro c k.Body [i]) (zr : Bool),m k = some zr → Calls prog j ([vcR h i k] ++ q1).toArray c (λen q=>∃ v,en = .returned v ∧ (v = (vT zr) ∧ Kept (Old c) c q))) (r : Bool) (hF : YM l m = some r) :
  Calls prog 228 [b,Value.func (.func j) #[] q1.toArray].toArray e (Rt e (vT r)):=by
 refine ce func228 ?_
 intro a H
 have I:=M.start e
 unfold YM at hF
 refine Zb (Zc H R λa H=>Ze (Zb (Zd H R λa H=>Zd H R λa H=>?_)))
 obtain ⟨t,u,hF⟩:=p_1 hF
 refine c_k H I R (cbm func292) (WZ _ l b (I.rdo d) m j q1 f (λc o=>n c (I.kept.trans o)) t u) λw a I H=>?_
 refine Zm H R R R λa H=>Zc H R λa H=>Ze ?_
 obtain rfl:=o_1 hF
 exact u_2 (kr1 H R R I.kept)
def Xc (b : GRecord) (c : GVault) (d : V16) : Option (Bool) :=
 ((Z3 c.Keys).bind λe=>if b.Version == (wr (e - 1)) then (some (decide (b.Nonce = d))) else (some false) : Option (Bool)).bind λf=>some f
theorem B9 (e : World) (f : GRecord) (h : Value) (y : Ro e f.Label [h]) (i : Value) (A : Ro e f.Body [i]) (m : Nat) (n : GVault) (c : Value) (j : Ro e n.Keys [c]) (k : Value) (B : Ro e n.Records [k]) (l : Value) (C : Ro e n.Events [l]) (q : At e m 0 (cV c k l n)) (t : Old e m) (o : Nat) (L : V16) (F : At e o 0 (enc L)) (G : Old e o) (r : Bool) (hF : Xc f n L = some r) :
  Calls prog 229 [vcR h i f,ptr m 0,ptr o 0].toArray e (Rt e (vT r)):=by
 refine ce func229 ?_
 intro a H
 have I:=M.start e
 unfold Xc at hF
 refine Zb (ZY (cs:=cR h i f) H I Za ld R R λT w a I H=>Zc H R λa H=>Ze ?_)
 obtain ⟨O,d,K⟩:=p_1 hF
 refine ZG (λa w=>Env 18 a [(4,vT O)] ∧ M (Old e) e w []) ?_ ?_
 ·obtain ⟨x,N,d⟩:=p_1 d
  refine Yq (f.Version == (wr (x - 1))) (λb=>?_) (λb=>?_)
  ·have d:=Zt d b
   refine Z7 [5,6,7,8,9,10,11,12,13,14,15,16,17,4] YJ R R dd_ R H I (qsP (λz=>Zo z.E Za ld R (Am) (kr0 R)) (qsP (λz=>ZL (v:=(vI f.Version)) z.E Za ld R ty2 R (at_1 (z.M.ra0)) (kr0 R)) (qsP (λz=>Zo z.E Za ld R (KV) (kr0 R)) (qsP (λz=>ZL (v:=c) z.E Za ld R BZ R (at_0 (z.M.atk q t)) (kr0 R)) (qsP (λz=>ZW z.E Za ld R y8 (YI _ n.Keys c (z.M.rdo j) x N) (kc R)) (qsP (v:=(vI (wr (x - 1)))) (λz=>Ye z.E Za ld R R R (kr0 R)) (qsP (λz=>Ye z.E Za ld R R R (kr0 R)) (q_m (λ_=>R) (qsP (λz=>Zo z.E (Zh z.E R (lkb R b)) dd_ R (Zfu) (kr0 R)) (qsP (λz=>ZB z.E (Zh z.E R (lkb R b)) dd_ R ZD R (at_2 (z.M.ra0)) (u_1 _) (kr0 R)) (qsP (λz=>ZB z.E (Zh z.E R (lkb R b)) dd_ R ZD R (z.M.atk F G) (u_1 _) (kr0 R)) (qsP (λz=>Zkc z.E (Zh z.E R (lkb R b)) dd_ R R (K4 u_3 ty5 R false R dd_ (QO t_3)) dd_ (by kernel_rfl) (kr0 R)) (qsP (λz=>Ji z.E Za ld (lkb R b) R (kr0 R)) (qsP (λz=>K3 z.E Za ld R (kr0 R)) qs0)))))))))))))) ?_
   ·intro a w u H I
    refine Zf ?_
    obtain rfl:=o_1 d
    refine Zi ?_
    have I:=I.f_0
    exact ⟨H.s,I⟩
  have d:=Zs d b
  refine Z7 [5,6,7,8,9,10,11,12,13,14,15,16,17,4] YJ R R dd_ R H I (qsP (λz=>Zo z.E Za ld R (Am) (kr0 R)) (qsP (λz=>ZL (v:=(vI f.Version)) z.E Za ld R ty2 R (at_1 (z.M.ra0)) (kr0 R)) (qsP (λz=>Zo z.E Za ld R (KV) (kr0 R)) (qsP (λz=>ZL (v:=c) z.E Za ld R BZ R (at_0 (z.M.atk q t)) (kr0 R)) (qsP (λz=>ZW z.E Za ld R y8 (YI _ n.Keys c (z.M.rdo j) x N) (kc R)) (qsP (v:=(vI (wr (x - 1)))) (λz=>Ye z.E Za ld R R R (kr0 R)) (qsP (λz=>Ye z.E Za ld R R R (kr0 R)) (q_m (λ_=>R) (qsP (λz=>Zj z.E R (lkb R b) R dd_ (kr0 R)) (qsP (λz=>Zj z.E R (lkb R b) R dd_ (kr0 R)) (qsP (λz=>Zj z.E R (lkb R b) R dd_ (kr0 R)) (qsP (λz=>Zj z.E R (lkb R b) R dd_ (kr0 R)) (qsP (λz=>KB z.E Za ld (lkb R b) R (kr0 R)) (qsP (λz=>K3 z.E Za ld R (kr0 R)) qs0)))))))))))))) ?_
  ·intro a w u H I
   refine Zf ?_
   obtain rfl:=o_1 d
   refine Zi ?_
   have I:=I.f_0
   exact ⟨H.s,I⟩
 rintro a w ⟨H,I⟩
 obtain rfl:=o_1 K
 exact u_2 (kr1 H R R I.kept)
def Wp (b : GVault) (c : V16) : Option (Bool) :=
 (YM b.Records (λd=>Xc d b c)).bind λe=>some e
theorem JT (o : World) (h : GVault) (c : Value) (i : Ro o h.Keys [c]) (b : Value) (f : Ro o h.Records [b]) (e : Value) (j : Ro o h.Events [e]) (q : V16) (r : Bool) (hF : Wp h q = some r) :
  Calls prog 131 [vcV c b e h,Value.agg (enc q).toArray].toArray o (Rt o (vT r)):=by
 refine ce func131 ?_
 intro a H
 have I:=M.start o
 unfold Wp at hF
 refine Zb (ZY (cs:=cV c b e h) H I Za ld R R λu w a I H=>ZY (cs:=enc q) H I Za ld R R λx w a I H=>Zc H R λa H=>Ze (Zb (Zr H R (Ke) λa H=>ZO (v:=b) H R AG R (at_2 I.ra1) λa H=>Ae H Za ld R λa H=>?_)))
 obtain ⟨y,z,hF⟩:=p_1 hF
 refine c_k H I R (cbm func228) (TI _ h.Records b (I.rdo f) (λt=>Xc t h q) 229 [ptr u 0,ptr x 0] (cbm func229) (λA d t k l m n zr zhr=>B9 A t k l m n u h c (y0 (I.rdo i) d) b (y0 (I.rdo f) d) e (y0 (I.rdo j) d) (zq I.ra1 d (by simp [cat])) (Ha I.ra1 d (by simp [cat])) x q (zq I.ra0 d (Zpr dd_)) (Ha I.ra0 d (Zpr dd_)) zr zhr) y z) λw a I H=>?_
 refine Zc H R λa H=>Ze ?_
 obtain rfl:=o_1 hF
 exact u_2 (kr1 H R R I.kept)
def YV (b : List V16) : Option ((List V16)) :=
 (app 16 ([] : List V16) b).bind λc=>some (([] : List V16) ++ b)
theorem KU (d : World) (i : List V16) (c : Value) (b : Ro d i [c]) (r : List V16) (hF : YV i = some r) :
  Calls prog 230 [c].toArray d (e_r λv w'=>(∃ j : Value,v = j ∧ Fr d w' [osl NoB r j] ∧ Kept (Old d) d w')):=by
 refine ce func230 ?_
 intro a H
 have I:=M.start d
 unfold YV at hF
 refine Zb (Zc H R λa H=>Ze (s_2 (Zb (Zd H R λa H=>Zfa H Za ld R R o_3 (I.rd b) λk a f H=>Ze ?_))))
 refine Zq H R ?_ ?_
 ·intro e
  have m:=f e
  have hF : some ([]) = some r:=by rw [m] at hF; simpa [app] using hF
  refine Zb (Zc H R λa H=>Ze ?_)
  have I:=M.nilS (α:=V16) NoB noB I
  obtain rfl:=o_1 hF
  exact u_2 (ZA (ZT H R (Zy H R) ⟨_,R,xf,R,I.outF (Z1 Yj),I.kept⟩))
 intro e
 refine t_2 (Zw (Zb (ZR (xs:=[]) (l:=([] : List V16)) (vs:=[]) H I Za ld R R o_3 ZD R dd_ R λq w a I H=>Zd H R λa H=>?_)))
 obtain ⟨t,n,hF⟩:=p_1 hF
 have h:=(Yc n).1
 refine Yg H I Za ld R R (I.rd b) o_3 ZD R dd_ h λo w a I H=>Zc H R λa H=>Ze ?_
 obtain rfl:=o_1 hF
 exact u_2 (ZT H R (Zy H R) ⟨_,R,o,R,I.outF (Z1 Yj),I.kept⟩)
def YU (b : List GEvent) : Option ((List GEvent)) :=
 (app 48 ([] : List GEvent) b).bind λc=>some (([] : List GEvent) ++ b)
theorem KO (d : World) (i : List GEvent) (c : Value) (b : Ro d i [c]) (r : List GEvent) (hF : YU i = some r) :
  Calls prog 231 [c].toArray d (e_r λv w'=>(∃ j : Value,v = j ∧ Fr d w' [osl NoB r j] ∧ Kept (Old d) d w')):=by
 refine ce func231 ?_
 intro a H
 have I:=M.start d
 unfold YU at hF
 refine Zb (Zc H R λa H=>Ze (s_2 (Zb (Zd H R λa H=>Zfa H Za ld R R s_6 (I.rd b) λk a f H=>Ze ?_))))
 refine Zq H R ?_ ?_
 ·intro e
  have m:=f e
  have hF : some ([]) = some r:=by rw [m] at hF; simpa [app] using hF
  refine Zb (Zc H R λa H=>Ze ?_)
  have I:=M.nilS (α:=GEvent) NoB noB I
  obtain rfl:=o_1 hF
  exact u_2 (ZA (ZT H R (Zy H R) ⟨_,R,xf,R,I.outF (Z1 Yj),I.kept⟩))
 intro e
 refine t_2 (Zw (Zb (ZR (xs:=[]) (l:=([] : List GEvent)) (vs:=[]) H I Za ld R R s_6 KN R dd_ R λq w a I H=>Zd H R λa H=>?_)))
 obtain ⟨t,n,hF⟩:=p_1 hF
 have h:=(Yc n).1
 refine Yg H I Za ld R R (I.rd b) s_6 KN R dd_ h λo w a I H=>Zc H R λa H=>Ze ?_
 obtain rfl:=o_1 hF
 exact u_2 (ZT H R (Zy H R) ⟨_,R,o,R,I.outF (Z1 Yj),I.kept⟩)
def Ue (h : GVault) (c : List GRecord × Int) : Option (Fl (List GRecord × Int) (List GRecord)) :=
 if decide (c.2 < (h.Records.length : Int)) then ((idx h.Records c.2).bind λb=>((Z4 b.Label).bind λe=>(Z4 b.Body).bind λf=>some (e,f) : Option (List UInt8 × List UInt8)).bind λd=>(app 112 c.1 ([(⟨b.Number,b.Version,b.Nonce,d.1,d.2,b.Tag⟩ : GRecord)] : List GRecord)).bind λi=>some (Fl.nx ((c.1 ++ ([(⟨b.Number,b.Version,b.Nonce,d.1,d.2,b.Tag⟩ : GRecord)] : List GRecord)),wr (c.2 + 1)))) else (some (Fl.ex c.1))
def WB (b : GVault) : Option (GVault) :=
 (YV b.Keys).bind λd=>(YU b.Events).bind λe=>(ZK (Ue b) ([],0)).bind λc=>some (⟨d,b.Next,c,e,b.Head⟩ : GVault)
theorem Jq (B : World) (d : GVault) (h : Value) (Y : Ro B d.Keys [h]) (i : Value) (q : Ro B d.Records [i]) (n : Value) (Z : Ro B d.Events [n]) (r : GVault) (hF : WB d = some r) :
  Calls prog 133 [vcV h i n d].toArray B (e_r λv w'=>(∃ y1 y2 y3 : Value,v = (vcV y1 y2 y3 r) ∧ Fr B w' [osl NoB r.Keys y1,osl NoB r.Records y2,osl NoB r.Events y3] ∧ Kept (Old B) B w')):=by
 refine ce func133 ?_
 intro a H
 have I:=M.start B
 unfold WB at hF
 refine Zb (ZY (cs:=cV h i n d) H I Za ld R R λb1 w a I H=>Zx H I YX λX w a I H=>Ze (s_2 ?_))
 obtain ⟨r6,e7,hF⟩:=p_1 hF
 obtain ⟨r9,au,hF⟩:=p_1 hF
 refine Y0 (its:=[raw X xy,raw b1 (cV h i n d)]) (mk:=([mkO 2 (λv=>osl NoB r6 v),mkO 7 (λv=>osl NoB r9 v),mkO 11 (λv=>Th v xy)] : Mk)) [6,7,8,9,10,11,12,13,14,15,16,3] YJ R R dd_ R H (λu=>M.qE (M.qE (M.qE (M.q0 I.drew u) emO) emO) emO) (qsP (λz=>Zo z.E Za ld R (KV) (kr0 R)) (qsP (λz=>ZL (v:=h) z.E Za ld R BZ R (at_0 (z.M.ra1)) (kr0 R)) (q_t ?_ (qsP (λz=>Zo z.E Za ld R (Ah) (kr0 R)) (qsP (λz=>ZL (v:=(vI d.Next)) z.E Za ld R ty2 R (at_1 (z.M.ra1)) (kr0 R)) (qsP (λz=>Zo z.E Za ld R (HT) (kr0 R)) (qsP (λz=>ZL (v:=n) z.E Za ld R qh R (at_3 (z.M.ra1)) (kr0 R)) (q_t ?_ (qsP (λz=>Zo z.E Za ld R (Zjb) (kr0 R)) (qsP (λz=>ZB z.E Za ld R Yi R (at_4 (z.M.ra1)) (u_1 _) (kr0 R)) (qsD (ds:=[2,7]) (f:=λus=>(Value.agg (cV (us.getD 0 undef) xf (us.getD 1 undef) d).toArray)) ?_ (q_t ?_ qs0)))))))))))) ?_
 ·intro a w b D z
  have H:=z.E
  have hD : D 2 = false:=z.F
  have hM0:=z.M
  have I:=z.M
  refine Zn H R (cbm func230) (KU _ d.Keys h (I.rdo Y) r6 e7) ?_
  rintro _ w a ⟨_,rfl,hFr,hK⟩ H
  have I:=hM0.add hK hFr
  exact ⟨_,_,R,H,M.qFill (mk1:=[]) (mk2:=[_,_]) (f:=(λv=>osl NoB r6 v)) I R hD,trivial⟩
 ·intro a w b D z
  have H:=z.E
  have hD : D 7 = false:=z.F
  have hM0:=z.M
  have I:=z.M
  refine Zn H R (cbm func231) (KO _ d.Events n (I.rdo Z) r9 au) ?_
  rintro _ w a ⟨_,rfl,hFr,hK⟩ H
  have I:=hM0.add hK hFr
  exact ⟨_,_,R,H,M.qFill (mk1:=[_]) (mk2:=[_]) (f:=(λv=>osl NoB r9 v)) I R hD,trivial⟩
 ·intro a w b D z
  have H:=z.E
  have d2 : D 2 = true:=z.p 0 _ R R
  have d7 : D 7 = true:=z.p 2 _ R R
  have I:=(z.M.sure (pre:=[_,_]) d2).su3 d7
  exact YQ (parts:=[(0,.tmp 8),(1,.tmp 10),(3,.tmp 13),(4,.tmp 15)]) (vs:=[(0,b 2),(1,vI d.Next),(3,b 7),(4,Value.agg (enc d.Head).toArray)]) (cs:=cV (b 2) xf (b 7) d) H Za ld R R YX qt (Yk (pre:=[]) (seg:=[xf]) (seg':=[b 2]) (post:=[[vI 0],[xf],[xf],enc xd]) R cl0 R R (Ym (I.sl2)) (Yk (pre:=[[b 2]]) (seg:=[vI 0]) (seg':=[vI d.Next]) (post:=[[xf],[xf],enc xd]) R ck R R R (Yk (pre:=[[b 2],[vI d.Next],[xf]]) (seg:=[xf]) (seg':=[b 7]) (post:=[enc xd]) R ck R R (Ym (I.sl3)) (Yk (pre:=[[b 2],[vI d.Next],[xf],[b 7]]) (seg:=enc xd) (seg':=enc d.Head) (post:=[]) R ck (u_1 _) (u_1 _) R XL)))) λa H=>⟨t_6 _ _,Zfe d2 (Zfe d7 Zg1),_,R,H⟩
 ·intro a w b D z
  have H:=z.E
  have hD : D 11 = false:=z.F
  have I:=z.M
  refine Zx H I YX λa8 w a I H=>?_
  have I:=I.pack1 (it:=Th _ xy) (λw w' fp ⟨b',e,k⟩ hb=>⟨b',e,XR w w' fp k hb⟩) (λfp k=>⟨_,R,k⟩)
  exact ⟨_,_,R,H,M.qFill (mk1:=[_,_]) (mk2:=[]) (f:=λv=>Th v xy) I R hD,trivial⟩
 intro a w b D H I hG o
 have d2:=o 2 dd_
 have d7:=o 7 dd_
 have av:=o 11 dd_
 have I:=(((I.sure (pre:=[_,_]) d2).su3 d7).sure (pre:=[_,_,_,_]) av).pl
 obtain ⟨_,⟨y,ag,_⟩,_⟩:=I.head
 have I:=I.pack1 XR (it:=raw y xy) (λfp ⟨b2,e2,k2⟩=>by rw [ag] at e2; simp [ptr] at e2; subst e2; exact k2)
 have H:=H.setq (t:=3) R ag
 refine Zk (seg:=cV (b 2) xf (b 7) d) (cs':=cV (b 2) xf (b 7) d) H I Za R R R YX cq (q_1 cq cq) (Z0 (cc1 (o_4 (I.sl3)) (cc1 (t_1 (d.Next : Int)) (cc1 Xr (cc1 (o_4 (I.sl4)) (cc1 (t_1 _) cc0)))))) (q_2 cq cq) λw a I H=>Zf (Zw (s_2 (Zb (Zr H R (Ke) λa H=>ZO (v:=i) H R AG R (at_2 I.ra2) λa H=>Yp H R p_5 (I.rd q) λa H=>Zd H R λa H=>Ze ?_))))
 obtain ⟨ax,ah,ai⟩:=p_1 hF
 refine ZX (λa w=>∃ C : Value,Env 40 a [(2,ptr X 0),(3,ptr y 0)] ∧ M (Old B) B w [raw y (cV (b 2) C (b 7) d),raw X xy,osl NoB r6 (b 2),osl NoB r9 (b 7),osl NoB ax C]) ?_ ?_
 ·refine p_2 ?_
  have I:=M.fst (l:=[_,_,_,_,_]) (((((M.nilS (α:=GRecord) NoB noB I).pl5).pl5).pl4).pl4)
  refine ZN (λ(G : List GRecord × Int) a w=>∃ x : Value,Env 40 a [(2,ptr X 0),(3,ptr y 0),(18,i),(19,vI (d.Records.length : Int)),(20,vI G.2)] ∧ M (Old B) B w [raw y (cV (b 2) x (b 7) d),raw X xy,osl NoB r6 (b 2),osl NoB r9 (b 7),osl NoB G.1 x]) ah ⟨xf,H.s,I⟩ ?_
  rintro G a w ⟨x,H,I⟩ ba j aj
  unfold Ue at j
  refine Zb (Zm H R R R λa H=>Ze (s_2 ?_))
  refine c_if H R j ?_ ?_
  ·intro ak j
   refine t_2 (Zw (s_2 (p_2 (Zb ?_))))
   obtain ⟨c,L,j⟩:=bix j
   refine Ys H R R p_5 Vd (I.rd q) L.1 λa H=>?_
   obtain ⟨a5,al,am⟩:=V2 q L.2 -- ^
   obtain ⟨K,N,rfl,an,ao⟩:=TF al -- ^
   refine Zu H R Vd R (I.atk am (Qi q L.2)) cq λa H=>Zx H I Vd λac w a I H=>Zk (seg:=cR K N c) (cs':=cR K N c) H I Za R R R Vd cq (q_1 cq cq) (Z0 (cc1 (t_1 (c.Number : Int)) (cc1 (t_1 (c.Version : Int)) (cc1 (t_1 _) (cc1 (o_4 (I.rd an)) (cc1 (o_4 (I.rd ao)) (cc1 (t_1 _) cc0))))))) (q_2 cq cq) λw a I H=>Ze ?_
   obtain ⟨W,A,O⟩:=p_1 j
   refine ZG (λa w=>∃ T U : Value,Env 40 a [(2,ptr X 0),(3,ptr y 0),(5,ptr ac 0),(18,i),(19,vI (d.Records.length : Int)),(20,vI G.2)] ∧ M (Old B) B w [raw ac (cR T U c),raw y (cV (b 2) x (b 7) d),raw X xy,osl NoB r6 (b 2),osl NoB r9 (b 7),osl NoB G.1 x,osl NoB W.1 T,osl NoB W.2 U]) ?_ ?_
   ·obtain ⟨ad,ay,A⟩:=p_1 A
    obtain ⟨ae,az,A⟩:=p_1 A
    refine Y0 (its:=[raw ac (cR K N c),raw y (cV (b 2) x (b 7) d),raw X xy,osl NoB r6 (b 2),osl NoB r9 (b 7),osl NoB G.1 x]) (mk:=([mkO 2 (λv=>osl NoB ad v),mkO 5 (λv=>osl NoB ae v)] : Mk)) [24,25,26,27,28,29,30] YJ R R dd_ R H (λu=>M.qE (M.qE (M.q0 I.drew u) emO) emO) (qsP (λz=>Zo z.E Za ld R (kd) (kr0 R)) (qsP (λz=>ZL (v:=K) z.E Za ld R Uf R (at_3 (z.M.ra0)) (kr0 R)) (q_t ?_ (qsP (λz=>Zo z.E Za ld R (yk) (kr0 R)) (qsP (λz=>ZL (v:=N) z.E Za ld R Uf R (at_4 (z.M.ra0)) (kr0 R)) (q_t ?_ (qsP (λz=>Zo z.E Za ld R (kd) (kr0 R)) qs0))))))) ?_
    ·intro a w m D z
     have H:=z.E
     have hD : D 2 = false:=z.F
     have hM0:=z.M
     have I:=z.M
     refine Zn H R Zhj (Y1 _ c.Label K (I.rdo an) ad ay) ?_
     rintro _ w a ⟨_,rfl,hFr,hK⟩ H
     have I:=hM0.add hK hFr
     exact ⟨_,_,R,H,M.qFill (mk1:=[]) (mk2:=[_]) (f:=(λv=>osl NoB ad v)) I R hD,trivial⟩
    ·intro a w m D z
     have H:=z.E
     have hD : D 5 = false:=z.F
     have hM0:=z.M
     have I:=z.M
     refine Zn H R Zhj (Y1 _ c.Body N (I.rdo ao) ae az) ?_
     rintro _ w a ⟨_,rfl,hFr,hK⟩ H
     have I:=hM0.add hK hFr
     exact ⟨_,_,R,H,M.qFill (mk1:=[_]) (mk2:=[]) (f:=(λv=>osl NoB ae v)) I R hD,trivial⟩
    intro a w m D H I hG o
    have d2:=o 2 dd_
    have d5:=o 5 dd_
    have I:=(I.sure (pre:=[_,_,_,_,_,_]) d2).sure (pre:=[_,_,_,_,_,_,_]) d5
    refine Zk (seg:=[m 2]) H I Za R R (Ym (I.sl (pre:=[_,_,_,_,_,_]) noB)) Uf R (Wl (pre:=[[vI c.Number],[vI c.Version],enc c.Nonce]) ck R) (o_4 (I.sl (pre:=[_,_,_,_,_,_]) noB)) (YL (pre:=[[vI c.Number],[vI c.Version],enc c.Nonce]) ck R) λw a I H=>Zr H R (yk) λa H=>Zk (seg:=[m 5]) H I Za R R (Ym (I.sl (pre:=[_,_,_,_,_,_,_]) noB)) Uf R (Wl (pre:=[[vI c.Number],[vI c.Version],enc c.Nonce,[m 2]]) ck R) (o_4 (I.sl (pre:=[_,_,_,_,_,_,_]) noB)) (YL (pre:=[[vI c.Number],[vI c.Version],enc c.Nonce,[m 2]]) ck R) λw a I H=>Zf ?_
    obtain rfl:=o_1 A
    refine Zi ?_
    exact ⟨m 2,m 5,H.s,I⟩
   rintro a w ⟨T,U,H,I⟩
   refine s_1 (Zr H R (Ke) λa H=>ZO (v:=x) H R AG R (at_2 I.ra1) λa H=>Zu H R Vd R I.ra0 cq λa H=>?_)
   have I:=I.pl7.pl7
   have I:=I.pack2 (it:=own NoB (⟨c.Number,c.Version,c.Nonce,W.1,W.2,c.Tag⟩ : GRecord) (cR T U c)) (Xl noB) (λf0 f1 q0 q1=>(Ai (UO.sat q0) (UO.sat q1) (by simp)))
   refine H7 (xs:=[.tmp 34]) (seg:=cR T U c) H I noB Za ld R R p_5 Vd R dd_ λbc w a I H=>?_
   obtain ⟨bd,a0,O⟩:=p_1 O
   obtain ⟨a1,rfl⟩:=Yc a0
   have I:=I.pl6
   refine J4 H I noB Za ld R R p_5 Vd R dd_ a1 λap w a I H=>Zr H R (Ke) λa H=>?_
   have I:=I.pl2
   refine Zk (seg:=[ap]) H I Za R R (Ym (I.sl1)) AG R (Wl (pre:=[[b 2],[vI d.Next]]) ck R) (o_4 (I.sl1)) (YL (pre:=[[b 2],[vI d.Next]]) ck R) λw a I H=>Zf (Yn (Zw (s_1 (Zm H R R R λa H=>Zd H R λa H=>Zf (Zi ?_)))))
   have I:=I.pl1.pl5.pl5.pl5.pl4.f_5
   exact ⟨_,ois O,ap,H.s,I⟩
  intro ak j
  refine s_3 (Zp (Zp (Yv ?_)))
  obtain rfl:=aj _ (ois j)
  refine Zi ?_
  exact ⟨x,H.s,I⟩
 rintro a w ⟨C,H,I⟩
 refine Zw (Zb (Zu H R YX R I.ra0 cq λa H=>?_))
 have I:=I.pl1
 refine Zk (seg:=cV (b 2) C (b 7) d) (cs':=cV (b 2) C (b 7) d) H I Za R R R YX cq (q_1 cq cq) (Z0 (cc1 (o_4 (I.sl2)) (cc1 (t_1 (d.Next : Int)) (cc1 (o_4 (I.sl4)) (cc1 (o_4 (I.sl3)) (cc1 (t_1 _) cc0)))))) (q_2 cq cq) λw a I H=>Ze ?_
 obtain rfl:=o_1 ai
 have aq : Z8 prog _ _ (.cell 2 79) _:=ZH H R YX R I.ra0 cq R
 have I:=I.pl3.pl4.pl4.f_3
 exact u_2 (ZT H R aq ⟨_,R,b 2,C,b 7,R,I.outF (Z1 (Z1 (Z1 Yj))),I.kept⟩)
def Qn (d : UInt8) (b : V16 × Int) : Option (Fl (V16 × Int) V16) :=
 if decide (b.2 < 16) then ((ZP b.1 b.2).bind λc=>(ZP b.1 b.2).bind λe=>some (Fl.nx ((b.1.setIfInBounds (b.2).toNat (c ^^^ d)),wr (b.2 + 1)))) else (some (Fl.ex b.1))
def WV (c : V16) (d : UInt8) : Option ((List UInt8)) :=
 (ZK (Qn d) (c,0)).bind λe=>(slc e.toList (0 : Int) (16 : Int)).bind λb=>some b
theorem JN (e : World) (o : V16) (f : UInt8) (r : List UInt8) (hF : WV o f = some r) :
  Calls prog 235 [Value.agg (enc o).toArray,vB f].toArray e (e_r λv w'=>(∃ u : Value,v = u ∧ Fr e w' [osl NoB r u] ∧ Kept (Old e) e w')):=by
 refine ce func235 ?_
 intro a H
 have I:=M.start e
 unfold WV at hF
 refine Zb (ZY (cs:=enc o) H I Za ld R R λk w a I H=>Zc H R λa H=>Ze (s_2 (Zb (Zd H R λa H=>Ze ?_))))
 obtain ⟨y,q,i⟩:=p_1 hF
 refine ZX (λa w=>Env 17 a [(2,ptr k 0)] ∧ M (Old e) e w [raw k (enc y)]) ?_ ?_
 ·refine p_2 ?_
  refine ZN (λ(j : V16 × Int) a w=>Env 17 a [(1,vB f),(2,ptr k 0),(6,vI j.2)] ∧ M (Old e) e w [raw k (enc j.1)]) q ⟨H.s,I⟩ ?_
  rintro j a w ⟨H,I⟩ B b t
  unfold Qn at b
  refine Zb (Zm H R R R λa H=>Ze (s_2 ?_))
  refine c_if H R b ?_ ?_
  ·intro l b
   refine t_2 (Zw (s_2 (p_2 (Zb (Zd H R λa H=>Zc H R λa H=>Ze (s_1 (Zd H R λa H=>?_)))))))
   obtain ⟨c,h,b⟩:=bvx b
   refine ZC H R R u_3 ty5 h.1 λa H=>ZO (v:=(vB c)) H R ty5 R (At.vec I.ra0 h.2) λa H=>Zd H R λa H=>Zm H R R (VH c f) λa H=>?_
   obtain ⟨z,d,b⟩:=bvx b
   refine ZC H R R u_3 ty5 d.1 λa H=>Zk (seg:=[vB (c ^^^ f)]) (cs':=enc (j.1.setIfInBounds (j.2).toNat (c ^^^ f))) H I Za R R R ty5 R (ZS (v:=j.1) (x:=c ^^^ f) d.1) (t_1 (c ^^^ f : UInt8)) (ZF (v:=j.1) (x:=c ^^^ f) d.1) λw a I H=>Zf (Yn (Zw (s_1 (Zm H R R R λa H=>Zd H R λa H=>Zf (Zi ?_)))))
   exact ⟨_,ois b,H.s,I⟩
  intro l b
  refine s_3 (Zp (Zp (Yv ?_)))
  obtain rfl:=t _ (ois b)
  refine Zi ?_
  exact ⟨H.s,I⟩
 rintro a w ⟨H,I⟩
 refine Zw (Zb ?_)
 obtain ⟨A,m,i⟩:=p_1 i
 have n:=Ul m -- ^
 refine XH (N:=16) H Za ld R R R R R u_3 ty5 n λa H=>Zc H R λa H=>Ze ?_
 have I:=(M.rawOsl I).cut noB m
 obtain rfl:=o_1 i
 exact u_2 (ZT H R (Zy H R) ⟨_,R,ZV (.slice (some ⟨k,0,none⟩) 16 16) ((0 : Int)).toNat ((16 : Int)).toNat 1,R,I.outF (Z1 Yj),I.kept⟩)
def V6 (h : (Ref Gengine)) (i : V16) (j : (List (List UInt8))) : Option (V32) :=
 (WV i 90).bind λk=>(YE j).bind λl=>(YC h ([k,l] : (List (List UInt8)))).bind λb=>((WV i 165).bind λc=>(slc b.toList (0 : Int) (32 : Int)).bind λd=>(YC h ([c,d] : (List (List UInt8)))).bind λe=>some e : Option (V32)).bind λf=>some f
theorem Bt (G : World) (p0 : (Ref Gengine)) (n : Value) (q : Ro G p0 [n]) (B : V16) (p2 : xp) (x : Value) (K : Ro G p2 [x]) (r : V32) (hF : V6 p0 B p2 = some r) :
  Calls prog 236 [n,Value.agg (enc B).toArray,x].toArray G (Rt G (Value.agg (enc r).toArray)):=by
 refine ce func236 ?_
 intro a H
 have I:=M.start G
 unfold V6 at hF
 refine Zb (ZY (cs:=enc B) H I Za ld R R λW w a I H=>Zx H I Yi λL w a I H=>Ze (Zb (Zd H R λa H=>Zu H R ZD R I.ra1 (u_1 _) λa H=>?_)))
 obtain ⟨O,e6,hF⟩:=p_1 hF
 refine Zn H R Zoh (JN _ B 90 O e6) ?_
 rintro y w a ⟨_,rfl,hFr,hK⟩ H
 have I:=I.add hK hFr
 refine Zd H R λa H=>?_
 obtain ⟨T,e9,hF⟩:=p_1 hF
 refine Zn H R Zon (U2 _ p2 x (I.rdo K) T e9) ?_
 rintro b w a ⟨_,rfl,hFr,hK⟩ H
 have I:=I.add hK hFr
 refine TB (xs:=[.tmp 10,.tmp 12]) (vs:=[y,b]) H I Za ld R R t_5 Uf dd_ (WL (Ym (I.sl1)) (WL (Ym (I.sl0)) Aq)) λo w a I H=>?_
 obtain ⟨h,ae,hF⟩:=p_1 hF
 refine c_k H I R Zi5 (X6 _ p0 n (I.rdo q) ([O,T] : xp) (Value.slice (some ⟨o,0,none⟩) 2 2) (Ac I.ra0 (I.rawLt (pre:=[])) ⟨I.sl2,I.sl1,trivial⟩ R) h ae) λw a I H=>?_
 refine Zx H I Yi λe w a I H=>s_w h H I Za R R R Yi λw a I H=>Ze ?_
 obtain ⟨af,d,X⟩:=p_1 hF
 refine ZG (λa w=>Env 21 a [(6,ptr L 0)] ∧ M (Old G) G w [raw L (enc af)]) ?_ ?_
 ·obtain ⟨l,ag,d⟩:=p_1 d
  obtain ⟨ah,U,d⟩:=p_1 d
  have Y:=Ul U -- ^
  refine Y0 (its:=[raw e (enc h),raw o [y,b],osl NoB T b,osl NoB O y,raw L xq,raw W (enc B)]) (mk:=([mkO 2 (λv=>osl NoB l v),mkL 4 [2] 2 (λus=>[us.getD 0 undef,ZV (.slice (some ⟨e,0,none⟩) 32 32) ((0 : Int)).toNat ((32 : Int)).toNat 1])] : Mk)) [15,16,17,18,19] YJ R R dd_ R H (λu=>M.qE (M.qE (M.q0 I.drew u) emL) emO) (q_m (λ_=>R) (qsP (λz=>ZB z.E Za ld R ZD R (z.M.ra5) (u_1 _) (kr0 R)) (q_t ?_ (qsP (λz=>XH (N:=32) z.E Za ld R R R R R p_6 ty5 Y (kr0 R)) (q_t ?_ qs0))))) ?_
  ·intro a w A D z
   have H:=z.E
   have hD : D 2 = false:=z.F
   have hsL : D 4 = false:=Kb (j:=4) (k:=0) z.c R R R hD
   have hM0:=z.M
   have I:=z.M
   refine Zn H R Zoh (JN _ B 165 l ag) ?_
   rintro _ w a ⟨_,rfl,hFr,hK⟩ H
   have I:=hM0.add hK hFr
   have I:=M.litOff (its:=_ :: [raw e (enc h),raw o [y,b],osl NoB T b,osl NoB O y,raw L xq,raw W (enc B)]) (mk:=([mkO 2 (λv=>osl NoB l v)] : Mk)) (i:=4) (ds:=[2]) (m:=2) (f:=(λus=>[us.getD 0 undef,ZV (.slice (some ⟨e,0,none⟩) 32 32) ((0 : Int)).toNat ((32 : Int)).toNat 1])) I hsL
   exact ⟨_,_,R,H,M.litOn (its:=[raw e (enc h),raw o [y,b],osl NoB T b,osl NoB O y,raw L xq,raw W (enc B)]) (mk:=([mkO 2 (λv=>osl NoB l v)] : Mk)) (i:=4) (ds:=[2]) (m:=2) (f:=(λus=>[(us.getD 0 undef),(ZV (.slice (some ⟨e,0,none⟩) 32 32) ((0 : Int)).toNat ((32 : Int)).toNat 1)])) (M.qFill (its:=[raw e (enc h),raw o [y,b],osl NoB T b,osl NoB O y,raw L xq,raw W (enc B)]) (mk1:=[]) (mk2:=[]) (f:=(λv=>osl NoB l v)) I R hD) hsL dd_,trivial⟩
  ·intro a w A D z
   have H:=z.E
   have hD : D 4 = false:=z.F
   have d2 : D 2 = true:=z.p 0 _ R R
   have I:=z.M.sure (pre:=[_,_,_,_,_,_]) d2
   refine TB (xs:=[.tmp 17,.tmp 18]) (vs:=[A 2,ZV (.slice (some ⟨e,0,none⟩) 32 32) ((0 : Int)).toNat ((32 : Int)).toNat 1]) H I Za ld R R t_5 Uf dd_ (WL (Ym (I.sl (pre:=[_,_,_,_,_,_]) noB)) (WL (Ym (Yo (At.sat I.ra0 (by simp) dd_) U)) Aq)) λan w a I H=>?_
   have I:=I.unsure (pre:=[_,_,_,_,_,_,_]) d2
   exact ⟨_,_,R,H,M.litFill (its:=[raw e (enc h),raw o [y,b],osl NoB T b,osl NoB O y,raw L xq,raw W (enc B)]) (mk:=([mkO 2 (λv=>osl NoB l v)] : Mk)) (i:=4) (ds:=[2]) (m:=2) (f:=(λus=>[us.getD 0 undef,ZV (.slice (some ⟨e,0,none⟩) 32 32) ((0 : Int)).toNat ((32 : Int)).toNat 1])) I R hD dd_,trivial⟩
  intro a w A D H I hG C
  have d2:=C 2 dd_
  have d4:=C 4 dd_
  have I:=((I.sure (pre:=[_,_,_,_,_,_]) d2).sure (pre:=[_,_,_,_,_,_,_]) d4).pl
  obtain ⟨ai,aj,I⟩:=M.litOpen I
  have H:=H.setq (t:=19) R aj
  obtain ⟨Z,ak,d⟩:=p_1 d
  refine Zn H R Zi5 (X6 _ p0 n (I.rdo q) ([l,ah] : xp) (Value.slice (some ⟨ai,0,none⟩) 2 2) (Ac I.ra0 (I.rawLt (pre:=[])) ⟨I.sl (pre:=[_,_,_,_,_,_,_]) noB,Yo (At.sat I.ra1 (by simp) dd_) U,trivial⟩ R) Z ak) ?_
  rintro v w a ⟨rfl,hK⟩ H
  have I:=(I.keep hK).pl5
  refine s_w Z H I Za R R R Yi λw a I H=>Zf ?_
  obtain rfl:=o_1 d
  refine Zi ?_
  have I:=I.f_1
  exact ⟨H.s,I⟩
 rintro a w ⟨H,I⟩
 obtain rfl:=o_1 X
 have aa : Z8 prog _ _ (.cell 6 32) _:=ZH H R Yi R I.ra0 (u_1 _) R
 exact u_2 (ZT H R aa ⟨_,R,R,I.kept⟩)
def Wq (f : (Ref Gengine)) (h : V16) (i : V16) (j : Int) (b : Int × List UInt8) : Option (Fl (Int × List UInt8) (List UInt8)) :=
 if decide ((b.2.length : Int) < j) then ((slc i.toList (0 : Int) (16 : Int)).bind λd=>(V6 f h ([d,([Zz (Qp b.1 8),Zz b.1] : List UInt8)] : (List (List UInt8)))).bind λe=>(slc e.toList (0 : Int) (32 : Int)).bind λc=>(app 1 b.2 c).bind λk=>some (Fl.nx (wr (b.1 + 1),b.2 ++ c))) else (some (Fl.ex b.2))
def VT (e : (Ref Gengine)) (f : V16) (h : V16) (d : Int) : Option ((List UInt8)) :=
 (ZK (Wq e f h d) (0,([] : List UInt8))).bind λi=>(slc i (0 : Int) d).bind λb=>(Z4 b).bind λc=>some c
theorem A9 (A : World) (p0 : (Ref Gengine)) (o : Value) (K : Ro A p0 [o]) (B : V16) (C : V16) (W : Int) (r : List UInt8) (hF : VT p0 B C W = some r) :
  Calls prog 237 [o,Value.agg (enc B).toArray,Value.agg (enc C).toArray,vI W].toArray A (e_r λv w'=>(∃ y1 : Value,v = y1 ∧ Fr A w' [osl NoB r y1] ∧ Kept (Old A) A w')):=by
 refine ce func237 ?_
 intro a H
 have I:=M.start A
 unfold VT at hF
 refine Zb (ZY (cs:=enc B) H I Za ld R R λL w a I H=>ZY (cs:=enc C) H I Za ld R R λq w a I H=>Zc H R λa H=>Ze (Zb (ZR (xs:=[]) (l:=xz) (vs:=[]) H I Za ld R R o_2 ty5 R dd_ R λu5 w a I H=>Zc H R λa H=>Ze (s_2 (Zb (Zc H R λa H=>Ze ?_))))))
 obtain ⟨j7,ag,x⟩:=p_1 hF
 refine ZX (λa w=>∃ G : Value,Env 37 a [(3,vI W),(9,G)] ∧ M (Old A) A w [osl NoB j7 G]) ?_ ?_
 ·refine p_2 ?_
  have I:=I.pl2.pl2
  refine ZN (λ(b : Int × List UInt8) a w=>∃ h : Value,Env 37 a [(0,o),(3,vI W),(5,ptr L 0),(6,ptr q 0),(9,h),(10,vI b.1)] ∧ M (Old A) A w [raw q (enc C),raw L (enc B),osl NoB b.2 h]) ag ⟨u5,H.s,I⟩ ?_
  rintro b a w ⟨h,H,I⟩ a1 d X
  unfold Wq at d
  refine s_2 (Zb (Zd H R λa H=>Yp H R o_2 (I.sl2) λa H=>Zd H R λa H=>Zm H R R R λa H=>Ze ?_))
  refine c_if H R d ?_ ?_
  ·intro Y d
   refine t_2 (Zw (s_2 (p_2 (s_2 ?_))))
   obtain ⟨ah,O,d⟩:=p_1 d
   have Z:=Ul O -- ^
   obtain ⟨T,ai,d⟩:=p_1 d
   refine Y0 (its:=[raw q (enc C),raw L (enc B),osl NoB b.2 h]) (mk:=([mkO 8 (λv=>osl NoB (([Zz (Qp b.1 8),Zz b.1] : List UInt8) : List UInt8) v),mkO 11 (λv=>Th v xq),mkL 9 [8] 2 (λus=>[ZV (.slice (some ⟨q,0,none⟩) 16 16) ((0 : Int)).toNat ((16 : Int)).toNat 1,us.getD 0 undef])] : Mk)) [19,20,21,22,23,24,25,26,27,28,29,11] YJ R R dd_ R H (λu=>M.qE (M.qE (M.qE (M.q0 I.drew u) emL) emO) emO) (q_m (λ_=>R) (qsP (λz=>ZB z.E Za ld R ZD R (z.M.ra1) (u_1 _) (kr0 R)) (qsP (λz=>XH (N:=16) z.E Za ld R R R R R u_3 ty5 Z (kr0 R)) (q_m (λ_=>R) (qsP (v:=(vI (Qp b.1 8))) (λz=>yd z.E Za ld R R (Ze4 _ _ dd_) (kr0 R)) (qsP (λz=>Xq z.E Za ld R o_6 t_3 (kr0 R)) (q_m (λ_=>R) (qsP (λz=>Xq z.E Za ld R o_6 t_3 (kr0 R)) (q_t ?_ (q_t ?_ (qsP (v:=(Value.agg (enc T).toArray)) ?_ (q_t ?_ qs0)))))))))))) ?_
   ·intro a w n D z
    have H:=z.E
    have hD : D 8 = false:=z.F
    have hsL : D 9 = false:=Kb (j:=9) (k:=1) z.c R R R hD
    have I:=z.M
    refine ZR (xs:=[.tmp 24,.tmp 26]) (l:=([Zz (Qp b.1 8),Zz b.1] : List UInt8)) (vs:=[vB (Zz (Qp b.1 8)),vB (Zz b.1)]) H I Za ld R R o_2 ty5 R dd_ R λa2 w a I H=>?_
    have I:=M.litOff (its:=_ :: [raw q (enc C),raw L (enc B),osl NoB b.2 h]) (mk:=([mkO 8 (λv=>osl NoB (([Zz (Qp b.1 8),Zz b.1] : List UInt8) : List UInt8) v),mkO 11 (λv=>Th v xq)] : Mk)) (i:=9) (ds:=[8]) (m:=2) (f:=(λus=>[ZV (.slice (some ⟨q,0,none⟩) 16 16) ((0 : Int)).toNat ((16 : Int)).toNat 1,us.getD 0 undef])) I hsL
    exact ⟨_,_,R,H,M.litOn (its:=[raw q (enc C),raw L (enc B),osl NoB b.2 h]) (mk:=([mkO 8 (λv=>osl NoB (([Zz (Qp b.1 8),Zz b.1] : List UInt8) : List UInt8) v),mkO 11 (λv=>Th v xq)] : Mk)) (i:=9) (ds:=[8]) (m:=2) (f:=(λus=>[(ZV (.slice (some ⟨q,0,none⟩) 16 16) ((0 : Int)).toNat ((16 : Int)).toNat 1),(us.getD 0 undef)])) (M.qFill (its:=[raw q (enc C),raw L (enc B),osl NoB b.2 h]) (mk1:=[]) (mk2:=[_]) (f:=(λv=>osl NoB (([Zz (Qp b.1 8),Zz b.1] : List UInt8) : List UInt8) v)) I R hD) hsL dd_,trivial⟩
   ·intro a w n D z
    have H:=z.E
    have hD : D 9 = false:=z.F
    have U : D 8 = true:=z.p 1 _ R R
    have I:=z.M.su3 U
    refine TB (xs:=[.tmp 21,.tmp 27]) (vs:=[ZV (.slice (some ⟨q,0,none⟩) 16 16) ((0 : Int)).toNat ((16 : Int)).toNat 1,n 8]) H I Za ld R R t_5 Uf dd_ (WL (Ym (Yo (At.sat I.ra0 (by simp) dd_) O)) (WL (Ym (I.sl3)) Aq)) λa3 w a I H=>?_
    have I:=I.unsure (pre:=[_,_,_,_]) U
    exact ⟨_,_,R,H,M.litFill (its:=[raw q (enc C),raw L (enc B),osl NoB b.2 h]) (mk:=([mkO 8 (λv=>osl NoB (([Zz (Qp b.1 8),Zz b.1] : List UInt8) : List UInt8) v),mkO 11 (λv=>Th v xq)] : Mk)) (i:=9) (ds:=[8]) (m:=2) (f:=(λus=>[ZV (.slice (some ⟨q,0,none⟩) 16 16) ((0 : Int)).toNat ((16 : Int)).toNat 1,us.getD 0 undef])) I R hD dd_,trivial⟩
   ·intro a w n D z
    have H:=z.E
    have d9 : D 9 = true:=z.p 2 _ R R
    have U : D 8 = true:=z.c 9 _ _ R (List.mem_of_getElem? (i:=1) R) R d9
    have I:=((z.M.su3 U).sure (pre:=[_,_,_,_,_]) d9).pl
    obtain ⟨aj,ak,I⟩:=M.litOpen I
    refine Zn H (Ze1 (ym R (ym R (ym (lk R ak) evsN)))) (cbm func236) (Bt _ p0 o (I.rdo K) B ([ah,([Zz (Qp b.1 8),Zz b.1] : List UInt8)] : xp) (Value.slice (some ⟨aj,0,none⟩) 2 2) (Ac I.ra0 (I.rawLt (pre:=[])) ⟨Yo (At.sat I.ra1 (by simp) dd_) O,I.sl4,trivial⟩ R) T ai) ?_
    rintro v w a ⟨rfl,hK⟩ H
    exact ⟨hK,_,R,H⟩
   ·intro a w n D z
    have H:=z.E
    have hD : D 11 = false:=z.F
    have I:=z.M
    refine Zx H I Yi λa4 w a I H=>?_
    have I:=I.pack1 (it:=Th _ xq) (λw w' fp ⟨b',e,k⟩ hb=>⟨b',e,XR w w' fp k hb⟩) (λfp k=>⟨_,R,k⟩)
    exact ⟨_,_,R,H,M.qFill (mk1:=[_]) (mk2:=[_]) (f:=λv=>Th v xq) I R hD,trivial⟩
   intro a w n D H I hG y
   have U:=y 8 dd_
   have d9:=y 9 dd_
   have al:=y 11 dd_
   have I:=((I.su3 U).sure (pre:=[_,_,_,_]) al).pl
   obtain ⟨_,⟨am,aa,_⟩,_⟩:=I.head
   have I:=((I.pack1 XR (it:=raw am xq) (λfp ⟨b2,e2,k2⟩=>by rw [aa] at e2; simp [ptr] at e2; subst e2; exact k2)).sure (pre:=[_,_,_,_,_]) d9).pl
   obtain ⟨a6,ao,I⟩:=M.litOpen I
   have H:=H.setq (t:=28) R ao
   have H:=H.setq (t:=11) R aa
   have I:=I.pl1
   refine s_w T H I Za R R R Yi λw a I H=>Zf (Zw (s_1 (Zd H R λa H=>?_)))
   obtain ⟨a7,ab,d⟩:=p_1 d
   have ac:=Ul ab -- ^
   refine XH (N:=32) H Za ld R R R R R p_6 ty5 ac λa H=>?_
   obtain ⟨a8,ap,d⟩:=p_1 d
   obtain ⟨aq,rfl⟩:=Yc ap
   have I:=I.pl4
   refine Yg H I Za ld R R (Yo (At.sat I.ra1 (by simp) dd_) ab) o_2 ty5 R dd_ aq λar w a I H=>Zc H R λa H=>Zf (Yn (Zw (s_1 (Zd H R λa H=>Zm H R R R λa H=>Zc H R λa H=>Zf (Zi ?_)))))
   have I:=I.pl4.pl4.f_3
   exact ⟨_,ois d,ar,H.s,I⟩
  intro Y d
  refine s_3 (Zp (Zp (Yv ?_)))
  obtain rfl:=X _ (ois d)
  refine Zi ?_
  have I:=I.pl2.f_1
  exact ⟨h,H.s,I⟩
 rintro a w ⟨G,H,I⟩
 refine Zw (Zb (Zd H R λa H=>Zd H R λa H=>?_))
 obtain ⟨au,ad,x⟩:=p_1 x
 refine Uk H Za ld R R R R R o_2 ty5 (I.sl0) ad λa H=>?_
 obtain ⟨av,aw,x⟩:=p_1 x
 refine Zn H R Zhj (Y1 _ au (ZV G ((0 : Int)).toNat (W).toNat 1) (Yo (I.sl0) ad) av aw) ?_
 rintro ax w a ⟨_,rfl,hFr,hK⟩ H
 have I:=I.add hK hFr
 refine Zc H R λa H=>Ze ?_
 obtain rfl:=o_1 x
 have I:=I.f_1
 exact u_2 (ZT H R (Zy H R) ⟨_,R,ax,R,I.outF (Z1 Yj),I.kept⟩)
def X1 (e : List UInt8 × Int × Int) (b : Int × List UInt8) : Option (Fl (Int × List UInt8) (List UInt8)) :=
 if decide (b.1 < e.2.1) then ((idx e.1 b.1).bind λc=>(idx b.2 b.1).bind λd=>(idx b.2 b.1).bind λf=>some (Fl.nx (wr (b.1 + 1),b.2.set (b.1).toNat (d ^^^ c)))) else (some (Fl.ex b.2))
def Xk (i : (Ref Gengine)) (j : GVault) (e : GRecord) (f : List UInt8) : Option ((List UInt8)) :=
 (Z4 f).bind λk=>((idx j.Keys e.Version).bind λc=>(VT i c e.Nonce (f.length : Int)).bind λb=>some (b,(b.length : Int),0) : Option (List UInt8 × Int × Int)).bind λh=>(ZK (X1 h) (h.2.2,k)).bind λd=>some d
theorem Qh (c : World) (p0 : (Ref Gengine)) (l : Value) (X : Ro c p0 [l]) (Y : GVault) (d : Value) (n : Ro c Y.Keys [d]) (e : Value) (ak : Ro c Y.Records [e]) (h : Value) (al : Ro c Y.Events [h]) (o : GRecord) (j : Value) (am : Ro c o.Label [j]) (k : Value) (an : Ro c o.Body [k]) (p3 : List UInt8) (q : Value) (t : Ro c p3 [q]) (r : List UInt8) (hF : Xk p0 Y o p3 = some r) :
  Calls prog 141 [l,vcV d e h Y,vcR j k o,q].toArray c (e_r λv w'=>(∃ y1 : Value,v = y1 ∧ Fr c w' [osl NoB r y1] ∧ Kept (Old c) c w')):=by
 refine ce func141 ?_
 intro a H
 have I:=M.start c
 unfold Xk at hF
 refine Zb (ZY (cs:=cV d e h Y) H I Za ld R R λb1 w a I H=>ZY (cs:=cR j k o) H I Za ld R R λb3 w a I H=>Zc H R λa H=>Ze (Zb (Zd H R λa H=>?_)))
 obtain ⟨r5,e6,hF⟩:=p_1 hF
 refine Zn H R Zhj (Y1 _ p3 q (I.rdo t) r5 e6) ?_
 rintro u7 w a ⟨_,rfl,hFr,hK⟩ H
 have I:=I.add hK hFr
 refine Zc H R λa H=>Ze (s_2 ?_)
 obtain ⟨j8,x,ab⟩:=p_1 hF
 refine ZG (λa w=>∃ y : Value,Env 41 a [(9,u7),(25,y),(26,vI j8.2.1),(27,vI j8.2.2)] ∧ M (Old c) c w [osl NoB r5 u7,osl NoB j8.1 y]) ?_ ?_
 ·obtain ⟨ap,O,x⟩:=bix x
  obtain ⟨K,aq,x⟩:=p_1 x
  refine Y0 (its:=[osl NoB r5 u7,raw b3 (cR j k o),raw b1 (cV d e h Y)]) (mk:=([mkO 11 (λv=>osl NoB K v)] : Mk)) [14,15,16,17,18,19,20,21,22,23,24,25,26,27] YJ R R dd_ R H (λu=>M.qE (M.q0 I.drew u) emO) (q_m (λ_=>R) (qsP (λz=>Zo z.E Za ld R (KV) (kr0 R)) (qsP (λz=>ZL (v:=d) z.E Za ld R BZ R (at_0 (z.M.ra2)) (kr0 R)) (qsP (λz=>Zo z.E Za ld R (Am) (kr0 R)) (qsP (λz=>ZL (v:=(vI o.Version)) z.E Za ld R ty2 R (at_1 (z.M.ra1)) (kr0 R)) (qsP (λz=>XD z.E Za ld R R o_3 ZD (z.M.rd n) O.1 (kr0 R)) (qsP (λz=>ZB z.E Za ld R ZD R (Xx (z.M.rd n) O.2) (u_1 _) (kr0 R)) (qsP (λz=>Zo z.E Za ld R (Zfu) (kr0 R)) (qsP (λz=>ZB z.E Za ld R ZD R (at_2 (z.M.ra1)) (u_1 _) (kr0 R)) (q_m (λ_=>R) (qsP (λz=>Q7 z.E Za ld R o_2 (z.M.rd t) (kr0 R)) (q_t ?_ (qsP (v:=(vI (K.length : Int))) ?_ (q_m (λ_=>R) qs0)))))))))))))) ?_
  ·intro a w A D z
   have H:=z.E
   have hD : D 11 = false:=z.F
   have hM0:=z.M
   have I:=z.M
   refine Zn H R (cbm func237) (A9 _ p0 l (I.rdo X) ap o.Nonce (p3.length : Int) K aq) ?_
   rintro _ w a ⟨_,rfl,hFr,hK⟩ H
   have I:=hM0.add hK hFr
   exact ⟨_,_,R,H,M.qFill (mk1:=[]) (mk2:=[]) (f:=(λv=>osl NoB K v)) I R hD,trivial⟩
  ·intro a w A D z
   have H:=z.E
   have Z : D 11 = true:=z.p 0 _ R R
   have I:=z.M.su3 Z
   exact Yp H R o_2 (I.sl3) λa H=>⟨t_6 _ _,_,R,H⟩
  intro a w A D H I hG ac
  have Z:=ac 11 dd_
  have I:=I.su3 Z
  refine Zf ?_
  obtain rfl:=o_1 x
  refine Zi ?_
  have I:=I.pl3.pl1.f_2
  exact ⟨A 11,H.s,I⟩
 rintro a w ⟨y,H,I⟩
 obtain ⟨ar,ad,ae⟩:=p_1 ab
 refine ZX (λa w=>∃ L : Value,Env 41 a [(9,L)] ∧ M (Old c) c w [osl NoB ar L]) ?_ ?_
 ·refine p_2 ?_
  have I:=I.pl1
  refine ZN (λ(N : Int × List UInt8) a w=>∃ B : Value,Env 41 a [(9,B),(25,y),(26,vI j8.2.1),(27,vI N.1)] ∧ M (Old c) c w [osl NoB j8.1 y,osl NoB N.2 B]) ad ⟨u7,H.s,I⟩ ?_
  rintro N a w ⟨B,H,I⟩ az b af
  unfold X1 at b
  refine Zb (Zm H R R R λa H=>Ze (s_2 ?_))
  refine c_if H R b ?_ ?_
  ·intro ag b
   refine t_2 (Zw (s_2 (p_2 (Zb (Zd H R λa H=>?_)))))
   obtain ⟨C,T,b⟩:=bix b
   refine Ys H R R o_2 ty5 (I.sl0) T.1 λa H=>ZO (v:=(vB C)) H R ty5 R (Xx (I.sl0) T.2) λa H=>Zc H R λa H=>Zc H R λa H=>Ze (s_1 (Zd H R λa H=>Zd H R λa H=>?_))
   obtain ⟨G,U,b⟩:=bix b
   refine Ys H R R o_2 ty5 (I.sl1) U.1 λa H=>ZO (v:=(vB G)) H R ty5 R (Xx (I.sl1) U.2) λa H=>Zd H R λa H=>Zm H R R (VH G C) λa H=>?_
   obtain ⟨au,W,b⟩:=bix b
   refine Ys H R R o_2 ty5 (I.sl1) W.1 λa H=>?_
   have I:=I.pl1
   refine Zhn (i:=(N.1).toNat) (k0:=0) (seg:=[vB (G ^^^ C)]) (xo:=au) (xn:=G ^^^ C) H I Za R R R ty5 R (t_1 (G ^^^ C : UInt8)) W.2 (Zlh (m:=1) R dd_) (Zg R) λw a I H=>Zf (Yn (Zw (s_1 (Zm H R R R λa H=>Zd H R λa H=>Zf (Zi ?_)))))
   have I:=I.pl1
   exact ⟨_,ois b,B,H.s,I⟩
  intro ag b
  refine s_3 (Zp (Zp (Yv ?_)))
  obtain rfl:=af _ (ois b)
  refine Zi ?_
  have I:=I.pl1.f_1
  exact ⟨B,H.s,I⟩
 rintro a w ⟨L,H,I⟩
 refine Zw (Zb (Zd H R λa H=>Zc H R λa H=>Ze ?_))
 obtain rfl:=o_1 ae
 exact u_2 (ZT H R (Zy H R) ⟨_,R,L,R,I.outF (Z1 Yj),I.kept⟩)
def Xg (j : (Ref Gengine)) (k : GVault) (b : GRecord) : Option (V32) :=
 (idx k.Keys b.Version).bind λl=>(WV l 129).bind λc=>(JS 16 c).bind λd=>((XU b.Number 4).bind λe=>(slc b.Nonce.toList (0 : Int) (16 : Int)).bind λf=>(V6 j d ([e,([Zz b.Version] : List UInt8),f,([Zz (b.Label.length : Int)] : List UInt8),b.Label,b.Body] : (List (List UInt8)))).bind λh=>some h : Option (V32)).bind λi=>some i
theorem Ud (W : World) (p0 : (Ref Gengine)) (X : Value) (ac : Ro W p0 [X]) (L : GVault) (h : Value) (Y : Ro W L.Keys [h]) (n : Value) (an : Ro W L.Records [n]) (o : Value) (ao : Ro W L.Events [o]) (e : GRecord) (b : Value) (O : Ro W e.Label [b]) (d : Value) (Z : Ro W e.Body [d]) (r : V32) (hF : Xg p0 L e = some r) :
  Calls prog 140 [X,vcV h n o L,vcR b d e].toArray W (Rt W (Value.agg (enc r).toArray)):=by
 refine ce func140 ?_
 intro a H
 have I:=M.start W
 unfold Xg at hF
 refine Zb (ZY (cs:=cV h n o L) H I Za ld R R λb1 w a I H=>ZY (cs:=cR b d e) H I Za ld R R λK w a I H=>Zx H I Yi λU w a I H=>Ze (Zb (Zr H R (KV) λa H=>ZO (v:=h) H R BZ R (at_0 I.ra2) λa H=>Zr H R (Am) λa H=>ZO (v:=(vI e.Version)) H R ty2 R (at_1 I.ra1) λa H=>?_)))
 obtain ⟨x7,ae,hF⟩:=bix hF
 refine Ys H R R o_3 ZD (I.rd Y) ae.1 λa H=>Zu H R ZD R (Xx (I.rd Y) ae.2) (u_1 _) λa H=>?_
 obtain ⟨x,ap,hF⟩:=p_1 hF
 refine Zn H R Zoh (JN _ x7 129 x ap) ?_
 rintro y w a ⟨_,rfl,hFr,hK⟩ H
 have I:=I.add hK hFr
 obtain ⟨q,af,hF⟩:=p_1 hF
 refine jo H Za ld R u_3 (I.sl0) (J0 af).1 dd_ λa H=>Zu H R ZD R (Za9 (I.sl0) af dd_) (u_1 _) λa H=>Zx H I ZD λA w a I H=>s_w q H I Za R R R ZD λw a I H=>Ze ?_
 obtain ⟨aq,B,ag⟩:=p_1 hF
 refine ZG (λa w=>Env 39 a [(6,ptr U 0)] ∧ M (Old W) W w [raw U (enc aq)]) ?_ ?_
 ·obtain ⟨C,ar,B⟩:=p_1 B
  obtain ⟨au,ad,B⟩:=p_1 B
  have ah:=Ul ad -- ^
  refine Y0 (its:=[raw A (enc q),osl NoB x y,raw U xq,raw K (cR b d e),raw b1 (cV h n o L)]) (mk:=([mkO 4 (λv=>osl NoB C v),mkO 8 (λv=>osl NoB (([Zz e.Version] : List UInt8) : List UInt8) v),mkO 15 (λv=>osl NoB (([Zz (e.Label.length : Int)] : List UInt8) : List UInt8) v),mkL 20 [4,8,15] 6 (λus=>[us.getD 0 undef,us.getD 1 undef,ZV (.slice (some ⟨K,0 + 2,none⟩) 16 16) ((0 : Int)).toNat ((16 : Int)).toNat 1,us.getD 2 undef,b,d])] : Mk)) [17,18,19,20,21,22,23,24,25,26,27,28,29,30,31,32,33,34,35,36,37] YJ R R dd_ R H (λu=>M.qE (M.qE (M.qE (M.qE (M.q0 I.drew u) emL) emO) emO) emO) (q_m (λ_=>R) (qsP (λz=>ZB z.E Za ld R ZD R (z.M.ra0) (u_1 _) (kr0 R)) (qsP (λz=>Zo z.E Za ld R (Hi) (kr0 R)) (qsP (λz=>ZL (v:=(vI e.Number)) z.E Za ld R ty2 R (at_0 (z.M.ra3)) (kr0 R)) (q_t ?_ (qsP (λz=>Zo z.E Za ld R (Am) (kr0 R)) (qsP (λz=>ZL (v:=(vI e.Version)) z.E Za ld R ty2 R (at_1 (z.M.ra3)) (kr0 R)) (qsP (λz=>Xq z.E Za ld R t_4 t_3 (kr0 R)) (q_t ?_ (qsP (λz=>Zo z.E Za ld R (Zfu) (kr0 R)) (qsP (λz=>XH (N:=16) z.E Za ld R R R R R u_3 ty5 ah (kr0 R)) (qsP (λz=>Zo z.E Za ld R (kd) (kr0 R)) (qsP (λz=>ZL (v:=b) z.E Za ld R Uf R (at_3 (z.M.ra3)) (kr0 R)) (qsP (λz=>Q7 z.E Za ld R o_2 (z.M.rd O) (kr0 R)) (qsP (λz=>Xq z.E Za ld R o_6 t_3 (kr0 R)) (q_t ?_ (qsP (λz=>Zo z.E Za ld R (kd) (kr0 R)) (qsP (λz=>ZL (v:=b) z.E Za ld R Uf R (at_3 (z.M.ra3)) (kr0 R)) (qsP (λz=>Zo z.E Za ld R (yk) (kr0 R)) (qsP (λz=>ZL (v:=d) z.E Za ld R Uf R (at_4 (z.M.ra3)) (kr0 R)) (q_t ?_ qs0))))))))))))))))))))) ?_
  ·intro a w G D z
   have H:=z.E
   have hD : D 4 = false:=z.F
   have hsL : D 20 = false:=Kb (j:=20) (k:=0) z.c R R R hD
   have hM0:=z.M
   have I:=z.M
   refine Zn H R Zp8 (JW _ e.Number 4 C ar) ?_
   rintro _ w a ⟨_,rfl,hFr,hK⟩ H
   have I:=hM0.add hK hFr
   have I:=M.litOff (its:=_ :: [raw A (enc q),osl NoB x y,raw U xq,raw K (cR b d e),raw b1 (cV h n o L)]) (mk:=([mkO 4 (λv=>osl NoB C v),mkO 8 (λv=>osl NoB (([Zz e.Version] : List UInt8) : List UInt8) v),mkO 15 (λv=>osl NoB (([Zz (e.Label.length : Int)] : List UInt8) : List UInt8) v)] : Mk)) (i:=20) (ds:=[4,8,15]) (m:=6) (f:=(λus=>[us.getD 0 undef,us.getD 1 undef,ZV (.slice (some ⟨K,0 + 2,none⟩) 16 16) ((0 : Int)).toNat ((16 : Int)).toNat 1,us.getD 2 undef,b,d])) I hsL
   exact ⟨_,_,R,H,M.litOn (its:=[raw A (enc q),osl NoB x y,raw U xq,raw K (cR b d e),raw b1 (cV h n o L)]) (mk:=([mkO 4 (λv=>osl NoB C v),mkO 8 (λv=>osl NoB (([Zz e.Version] : List UInt8) : List UInt8) v),mkO 15 (λv=>osl NoB (([Zz (e.Label.length : Int)] : List UInt8) : List UInt8) v)] : Mk)) (i:=20) (ds:=[4,8,15]) (m:=6) (f:=(λus=>[(us.getD 0 undef),(us.getD 1 undef),(ZV (.slice (some ⟨K,0 + 2,none⟩) 16 16) ((0 : Int)).toNat ((16 : Int)).toNat 1),(us.getD 2 undef),b,d])) (M.qFill (its:=[raw A (enc q),osl NoB x y,raw U xq,raw K (cR b d e),raw b1 (cV h n o L)]) (mk1:=[]) (mk2:=[_,_]) (f:=(λv=>osl NoB C v)) I R hD) hsL dd_,trivial⟩
  ·intro a w G D z
   have H:=z.E
   have hD : D 8 = false:=z.F
   have hsL : D 20 = false:=Kb (j:=20) (k:=1) z.c R R R hD
   have I:=z.M
   refine ZR (xs:=[.tmp 24]) (l:=([Zz e.Version] : List UInt8)) (vs:=[vB (Zz e.Version)]) H I Za ld R R o_2 ty5 R dd_ R λa0 w a I H=>?_
   have I:=M.litOff (its:=_ :: [raw A (enc q),osl NoB x y,raw U xq,raw K (cR b d e),raw b1 (cV h n o L)]) (mk:=([mkO 4 (λv=>osl NoB C v),mkO 8 (λv=>osl NoB (([Zz e.Version] : List UInt8) : List UInt8) v),mkO 15 (λv=>osl NoB (([Zz (e.Label.length : Int)] : List UInt8) : List UInt8) v)] : Mk)) (i:=20) (ds:=[4,8,15]) (m:=6) (f:=(λus=>[us.getD 0 undef,us.getD 1 undef,ZV (.slice (some ⟨K,0 + 2,none⟩) 16 16) ((0 : Int)).toNat ((16 : Int)).toNat 1,us.getD 2 undef,b,d])) I hsL
   exact ⟨_,_,R,H,M.litOn (its:=[raw A (enc q),osl NoB x y,raw U xq,raw K (cR b d e),raw b1 (cV h n o L)]) (mk:=([mkO 4 (λv=>osl NoB C v),mkO 8 (λv=>osl NoB (([Zz e.Version] : List UInt8) : List UInt8) v),mkO 15 (λv=>osl NoB (([Zz (e.Label.length : Int)] : List UInt8) : List UInt8) v)] : Mk)) (i:=20) (ds:=[4,8,15]) (m:=6) (f:=(λus=>[(us.getD 0 undef),(us.getD 1 undef),(ZV (.slice (some ⟨K,0 + 2,none⟩) 16 16) ((0 : Int)).toNat ((16 : Int)).toNat 1),(us.getD 2 undef),b,d])) (M.qFill (its:=[raw A (enc q),osl NoB x y,raw U xq,raw K (cR b d e),raw b1 (cV h n o L)]) (mk1:=[_]) (mk2:=[_]) (f:=(λv=>osl NoB (([Zz e.Version] : List UInt8) : List UInt8) v)) I R hD) hsL dd_,trivial⟩
  ·intro a w G D z
   have H:=z.E
   have hD : D 15 = false:=z.F
   have hsL : D 20 = false:=Kb (j:=20) (k:=3) z.c R R R hD
   have I:=z.M
   refine ZR (xs:=[.tmp 31]) (l:=([Zz (e.Label.length : Int)] : List UInt8)) (vs:=[vB (Zz (e.Label.length : Int))]) H I Za ld R R o_2 ty5 R dd_ R λa1 w a I H=>?_
   have I:=M.litOff (its:=_ :: [raw A (enc q),osl NoB x y,raw U xq,raw K (cR b d e),raw b1 (cV h n o L)]) (mk:=([mkO 4 (λv=>osl NoB C v),mkO 8 (λv=>osl NoB (([Zz e.Version] : List UInt8) : List UInt8) v),mkO 15 (λv=>osl NoB (([Zz (e.Label.length : Int)] : List UInt8) : List UInt8) v)] : Mk)) (i:=20) (ds:=[4,8,15]) (m:=6) (f:=(λus=>[us.getD 0 undef,us.getD 1 undef,ZV (.slice (some ⟨K,0 + 2,none⟩) 16 16) ((0 : Int)).toNat ((16 : Int)).toNat 1,us.getD 2 undef,b,d])) I hsL
   exact ⟨_,_,R,H,M.litOn (its:=[raw A (enc q),osl NoB x y,raw U xq,raw K (cR b d e),raw b1 (cV h n o L)]) (mk:=([mkO 4 (λv=>osl NoB C v),mkO 8 (λv=>osl NoB (([Zz e.Version] : List UInt8) : List UInt8) v),mkO 15 (λv=>osl NoB (([Zz (e.Label.length : Int)] : List UInt8) : List UInt8) v)] : Mk)) (i:=20) (ds:=[4,8,15]) (m:=6) (f:=(λus=>[(us.getD 0 undef),(us.getD 1 undef),(ZV (.slice (some ⟨K,0 + 2,none⟩) 16 16) ((0 : Int)).toNat ((16 : Int)).toNat 1),(us.getD 2 undef),b,d])) (M.qFill (its:=[raw A (enc q),osl NoB x y,raw U xq,raw K (cR b d e),raw b1 (cV h n o L)]) (mk1:=[_,_]) (mk2:=[]) (f:=(λv=>osl NoB (([Zz (e.Label.length : Int)] : List UInt8) : List UInt8) v)) I R hD) hsL dd_,trivial⟩
  ·intro a w G D z
   have H:=z.E
   have hD : D 20 = false:=z.F
   have d4 : D 4 = true:=z.p 0 _ R R
   have d8 : D 8 = true:=z.p 1 _ R R
   have ab : D 15 = true:=z.p 3 _ R R
   have I:=((z.M.sure (pre:=[_,_,_,_,_]) d4).sure (pre:=[_,_,_,_,_,_]) d8).sure (pre:=[_,_,_,_,_,_,_]) ab
   refine TB (xs:=[.tmp 21,.tmp 25,.tmp 27,.tmp 32,.tmp 34,.tmp 36]) (vs:=[G 4,G 8,ZV (.slice (some ⟨K,0 + 2,none⟩) 16 16) ((0 : Int)).toNat ((16 : Int)).toNat 1,G 15,b,d]) H I Za ld R R t_5 Uf dd_ (WL (Ym (I.sl (pre:=[_,_,_,_,_]) noB)) (WL (Ym (I.sl (pre:=[_,_,_,_,_,_]) noB)) (WL (Ym (Yo (At.sat (at_2 I.ra3) (by simp) dd_) ad)) (WL (Ym (I.sl (pre:=[_,_,_,_,_,_,_]) noB)) (WL (Ym (I.rd O)) (WL (Ym (I.rd Z)) Aq)))))) λa2 w a I H=>?_
   have I:=((I.unsure (pre:=[_,_,_,_,_,_,_,_]) ab).unsure (pre:=[_,_,_,_,_,_,_]) d8).unsure (pre:=[_,_,_,_,_,_]) d4
   exact ⟨_,_,R,H,M.litFill (its:=[raw A (enc q),osl NoB x y,raw U xq,raw K (cR b d e),raw b1 (cV h n o L)]) (mk:=([mkO 4 (λv=>osl NoB C v),mkO 8 (λv=>osl NoB (([Zz e.Version] : List UInt8) : List UInt8) v),mkO 15 (λv=>osl NoB (([Zz (e.Label.length : Int)] : List UInt8) : List UInt8) v)] : Mk)) (i:=20) (ds:=[4,8,15]) (m:=6) (f:=(λus=>[us.getD 0 undef,us.getD 1 undef,ZV (.slice (some ⟨K,0 + 2,none⟩) 16 16) ((0 : Int)).toNat ((16 : Int)).toNat 1,us.getD 2 undef,b,d])) I R hD dd_,trivial⟩
  intro a w G D H I hG T
  have d4:=T 4 dd_
  have d8:=T 8 dd_
  have ab:=T 15 dd_
  have av:=T 20 dd_
  have I:=((((I.sure (pre:=[_,_,_,_,_]) d4).sure (pre:=[_,_,_,_,_,_]) d8).sure (pre:=[_,_,_,_,_,_,_]) ab).sure (pre:=[_,_,_,_,_,_,_,_]) av).pl
  obtain ⟨aw,ax,I⟩:=M.litOpen I
  have H:=H.setq (t:=37) R ax
  obtain ⟨ai,ay,B⟩:=p_1 B
  refine Zn H R (cbm func236) (Bt _ p0 X (I.rdo ac) q ([C,([Zz e.Version] : List UInt8),au,([Zz (e.Label.length : Int)] : List UInt8),e.Label,e.Body] : xp) (Value.slice (some ⟨aw,0,none⟩) 6 6) (Ac I.ra0 (I.rawLt (pre:=[])) ⟨I.sl (pre:=[_,_,_,_,_,_]) noB,I.sl (pre:=[_,_,_,_,_,_,_]) noB,Yo (At.sat (at_2 I.ra4) (by simp) dd_) ad,I.sl (pre:=[_,_,_,_,_,_,_,_]) noB,I.rdo O,I.rdo Z,trivial⟩ R) ai ay) ?_
  rintro v w a ⟨rfl,hK⟩ H
  have I:=(I.keep hK).pl3
  refine s_w ai H I Za R R R Yi λw a I H=>Zf ?_
  obtain rfl:=o_1 B
  refine Zi ?_
  have I:=I.f_1
  exact ⟨H.s,I⟩
 rintro a w ⟨H,I⟩
 obtain rfl:=o_1 ag
 have aj : Z8 prog _ _ (.cell 6 32) _:=ZH H R Yi R I.ra0 (u_1 _) R
 exact u_2 (ZT H R aj ⟨_,R,R,I.kept⟩)
def WJ (d : (Ref Gengine)) (e : GVault) (b : GRecord) (h : List UInt8) : Option (GRecord) :=
 (Xk d e b h).bind λf=>(Xg d e (⟨b.Number,b.Version,b.Nonce,b.Label,f,b.Tag⟩ : GRecord)).bind λc=>some (⟨b.Number,b.Version,b.Nonce,b.Label,f,c⟩ : GRecord)
theorem J8 (St : Nat → Prop) (W B : World) (its : List Item) (y : (Ref Gengine)) (h : Value) (j : Rep.sat St W y [h] []) (q : GVault) (d : Value) (k : Rep.sat St W q.Keys [d] []) (e : Value) (l : Rep.sat St W q.Records [e] []) (f : Value) (m : Rep.sat St W q.Events [f] []) (c : GRecord) (b : Value) (i : Value) (z : List UInt8) (n : Value) (t : Rep.sat St W z [n] []) (I : M St W B (own NoB c.Label [b] :: own NoB c.Body [i] :: its)) (r : GRecord) (hF : WJ y q c z = some r) :
  Calls prog 134 [h,vcV d e f q,vcR b i c,n].toArray B (e_r λv w'=>(∃ C E : Value,v = (vcR C E r) ∧ M St W w' (own NoB r.Label [C] :: own NoB r.Body [E] :: its))):=by
 refine ce func134 ?_
 intro a H
 unfold WJ at hF
 refine Zb (ZY (cs:=cV d e f q) H I Za ld R R λK w a I H=>ZY (cs:=cR b i c) H I Za ld R R λL w a I H=>Zx H I Vd λN w a I H=>Ze (Zb (Zd H R λa H=>Zu H R YX R I.ra2 cq λa H=>Zu H R Vd R I.ra1 cq λa H=>Zd H R λa H=>?_)))
 obtain ⟨F,G,hF⟩:=p_1 hF
 refine Zn H R Znu (Qh _ y h (I.rdo j) q d (I.rdo k) e (I.rdo l) f (I.rdo m) c b (I.ro (pre:=[_,_,_]) noB) i (I.ro (pre:=[_,_,_,_]) noB) z n (I.rdo t) F G) ?_
 rintro u w a ⟨_,rfl,hFr,hK⟩ H
 have I:=I.add hK hFr
 refine Zr H R (yk) λa H=>?_
 have I:=I.pl2
 refine Zk (seg:=[u]) H I Za R R (Ym (I.sl1)) Uf R (Wl (pre:=[[vI c.Number],[vI c.Version],enc c.Nonce,[b]]) ck R) (o_4 (I.sl1)) (YL (pre:=[[vI c.Number],[vI c.Version],enc c.Nonce,[b]]) ck R) λw a I H=>Ze (Zb (Zd H R λa H=>Zu H R YX R I.ra3 cq λa H=>Zu H R Vd R I.ra0 cq λa H=>?_))
 obtain ⟨o,A,hF⟩:=p_1 hF
 refine c_k H I R Zgc (Ud _ y h (I.rdo j) q d (I.rdo k) e (I.rdo l) f (I.rdo m) (⟨c.Number,c.Version,c.Nonce,c.Label,F,c.Tag⟩ : GRecord) b (I.ro (pre:=[_,_,_,_]) noB) u (I.sl1) o A) λw a I H=>?_
 refine Zr H R (AV) λa H=>Zk (seg:=enc o) H I Za R R R Yi (u_1 _) (Wl (pre:=[[vI c.Number],[vI c.Version],enc c.Nonce,[b],[u]]) ck flq) (t_1 _) (YL (pre:=[[vI c.Number],[vI c.Version],enc c.Nonce,[b],[u]]) ck flq) λw a I H=>Ze (Zb (Zu H R Vd R I.ra0 cq λa H=>?_))
 have I:=I.pl2
 refine Zk (seg:=cat [[vI c.Number],[vI c.Version],enc c.Nonce,[b],[u],enc o]) (cs':=cat [[vI c.Number],[vI c.Version],enc c.Nonce,[b],[u],enc o]) H I Za R R R Vd cq (q_1 cq cq) (Z0 (cc1 (t_1 (c.Number : Int)) (cc1 (t_1 (c.Version : Int)) (cc1 (t_1 _) (cc1 (o_4 (I.ro (pre:=[_,_,_,_]) noB)) (cc1 (o_4 (I.sl2)) (cc1 (t_1 _) cc0))))))) (q_2 cq cq) λw a I H=>Ze ?_
 have I:=I.pl2.toOwn noB
 obtain rfl:=o_1 hF
 have x : Z8 prog _ _ (.cell 8 98) _:=ZH H R Vd R I.ra1 cq R
 have I:=((((I.pl4.pl5).drop.pl4).drop.pl3).drop.pl2).drop
 exact u_2 (ZT H R x ⟨_,R,b,u,R,I⟩)
def Xf (e : (Ref Gengine)) (b : GVault) (c : GEvent) : Option (GVault) :=
 (app 48 b.Events ([c] : List GEvent)).bind λf=>(Wz e (b.Events ++ ([c] : List GEvent))).bind λd=>some (⟨b.Keys,b.Next,b.Records,b.Events ++ ([c] : List GEvent),d⟩ : GVault)
theorem KY (St : Nat → Prop) (W u : World) (its : List Item) (n : (Ref Gengine)) (h : Value) (k : Rep.sat St W n [h] []) (e : GVault) (b : Value) (c : Value) (f : Value) (j : GEvent) (I : M St W u (osl NoB e.Keys b :: osl NoB e.Records c :: osl NoB e.Events f :: its)) (r : GVault) (hF : Xf n e j = some r) :
  Calls prog 136 [h,vcV b c f e,Value.agg (enc j).toArray].toArray u (e_r λv w'=>(∃ x y z : Value,v = (vcV x y z r) ∧ M St W w' (osl NoB r.Keys x :: osl NoB r.Records y :: osl NoB r.Events z :: its))):=by
 refine ce func136 ?_
 intro a H
 unfold Xf at hF
 refine Zb (ZY (cs:=cV b c f e) H I Za ld R R λA w a I H=>ZY (cs:=cat [[vI j.Kind],[vI j.Number],enc j.Tag]) H I Za ld R R λB w a I H=>Zx H I YX λC w a I H=>Ze (Zb (Zr H R (HT) λa H=>ZO (v:=f) H R qh R (at_3 I.ra2) λa H=>Zu H R KN R I.ra1 cq λa H=>ZR (xs:=[.tmp 9]) (l:=([j] : List GEvent)) (vs:=[Value.agg (enc j).toArray]) H I Za ld R R s_6 KN R dd_ R λE w a I H=>?_)))
 obtain ⟨F,o,hF⟩:=p_1 hF
 obtain ⟨q,rfl⟩:=Yc o
 have I:=I.pl6
 refine Yg H I Za ld R R (I.sl1) s_6 KN R dd_ q λd w a I H=>Zr H R (HT) λa H=>?_
 have I:=I.pl4
 refine Zk (seg:=[d]) H I Za R R (Ym (I.sl1)) qh R (Wl (pre:=[[b],[vI e.Next],[c]]) ck R) (o_4 (I.sl1)) (YL (pre:=[[b],[vI e.Next],[c]]) ck R) λw a I H=>Ze (Zb (Zd H R λa H=>Zr H R (HT) λa H=>ZO (v:=d) H R qh R (at_3 I.ra0) λa H=>?_))
 obtain ⟨i,t,hF⟩:=p_1 hF
 refine c_k H I R Zpp (Jr _ n h (I.rdo k) (e.Events ++ ([j] : List GEvent)) d (I.sl1) i t) λw a I H=>?_
 refine Zr H R (Zjb) λa H=>Zk (seg:=enc i) H I Za R R R Yi (u_1 _) (Wl (pre:=[[b],[vI e.Next],[c],[d]]) ck flq) (t_1 _) (YL (pre:=[[b],[vI e.Next],[c],[d]]) ck flq) λw a I H=>Ze (Zb (Zu H R YX R I.ra0 cq λa H=>?_))
 have I:=I.pl3
 refine Zk (seg:=cat [[b],[vI e.Next],[c],[d],enc i]) (cs':=cat [[b],[vI e.Next],[c],[d],enc i]) H I Za R R R YX cq (q_1 cq cq) (Z0 (cc1 (o_4 (I.sl (pre:=[_,_,_,_,_]) noB)) (cc1 (t_1 (e.Next : Int)) (cc1 (o_4 (I.sl (pre:=[_,_,_,_,_,_]) noB)) (cc1 (o_4 (I.sl2)) (cc1 (t_1 _) cc0)))))) (q_2 cq cq) λw a I H=>Ze ?_
 obtain rfl:=o_1 hF
 have m : Z8 prog _ _ (.cell 6 79) _:=ZH H R YX R I.ra0 cq R
 have I:=((((I.pl2.pl6.pl6.pl6).drop.pl5).drop.pl4).drop.pl3).drop
 exact u_2 (ZT H R m ⟨_,R,b,c,d,R,I⟩)
def Qv (f : GVault) (n : List UInt8) (o : List UInt8) (q : V16) : Option (GVault × Int × Int) :=
 (VM f).bind λt=>if !t then (some ((⟨[],0,[],[],Vector.replicate 32 (0 : UInt8)⟩ : GVault),0,1)) else ((if decide ((o.length : Int) > 200) then (some true) else (some (decide ((n.length : Int) > 32))) : Option (Bool)).bind λi=>if i then (some ((⟨[],0,[],[],Vector.replicate 32 (0 : UInt8)⟩ : GVault),0,2)) else ((Wp f q).bind λj=>if j then (some ((⟨[],0,[],[],Vector.replicate 32 (0 : UInt8)⟩ : GVault),0,5)) else ((if (f.Records.length : Int) == 12 then (some true) else (if (f.Events.length : Int) == 60 then (some true) else (some (f.Next == 1000000))) : Option (Bool)).bind λk=>if k then (some ((⟨[],0,[],[],Vector.replicate 32 (0 : UInt8)⟩ : GVault),0,3)) else ((Xn).bind λh=>(WB f).bind λd=>(Z3 f.Keys).bind λl=>(Z4 n).bind λm=>(WJ h f (⟨f.Next,wr (l - 1),q,m,([] : List UInt8),Vector.replicate 32 (0 : UInt8)⟩ : GRecord) o).bind λe=>(app 112 d.Records ([e] : List GRecord)).bind λu=>((Xf h (⟨d.Keys,wr (d.Next + 1),d.Records ++ ([e] : List GRecord),d.Events,d.Head⟩ : GVault) (⟨1,e.Number,e.Tag⟩ : GEvent)).bind λb=>some (b.Keys,b.Next,b.Records,b.Events,b.Head,0,e.Number) : Option (List V16 × Int × List GRecord × List GEvent × V32 × Int × Int)).bind λc=>some ((⟨c.1,c.2.1,c.2.2.1,c.2.2.2.1,c.2.2.2.2.1⟩ : GVault),c.2.2.2.2.2.2,c.2.2.2.2.2.1)))))
theorem qx (w0 : World) (p0 : GVault) (N : Value) (aj : Ro w0 p0.Keys [N]) (T : Value) (ak : Ro w0 p0.Records [T]) (W : Value) (al : Ro w0 p0.Events [W]) (p1 : List UInt8) (aw : Value) (a5 : Ro w0 p1 [aw]) (p2 : List UInt8) (ax : Value) (a6 : Ro w0 p2 [ax]) (p3 : V16) (r : GVault × Int × Int) (hF : Qv p0 p1 p2 p3 = some r) :
  Calls prog 39 [vcV N T W p0,aw,ax,Value.agg (enc p3).toArray].toArray w0 (e_r λv w'=>(∃ y1 y2 y3 : Value,v = (Value.tuple [vcV y1 y2 y3 r.1,vI r.2.1,vI r.2.2].toArray) ∧ Fr w0 w' [osl NoB r.1.Keys y1,osl NoB r.1.Records y2,osl NoB r.1.Events y3] ∧ Kept (Old w0) w0 w')):=by
 refine ce func39 ?_
 intro a H
 have I:=M.start w0
 unfold Qv at hF
 refine Zb (ZY (cs:=cV N T W p0) H I Za ld R R λb1 w a I H=>ZY (cs:=enc p3) H I Za ld R R λb3 w a I H=>Zx H I YX λb5 w a I H=>Zc H R λa H=>Zc H R λa H=>Ze (s_2 (p_2 (Zb (Zu H R YX R I.ra2 cq λa H=>?_)))))
 obtain ⟨r7,e8,hF⟩:=p_1 hF
 refine c_k H I R cb48 (JD _ p0 N (I.rdo aj) T (I.rdo ak) W (I.rdo al) r7 e8) λw a I H=>?_
 refine Qe H R λa H=>Zc H R λa H=>Ze ?_
 refine c_if H R hF ?_ ?_
 ·intro b8 hF
  refine Zb (YQ (parts:=[]) (vs:=[]) (cs:=cat xa) H Za ld R R YX qt XL λa H=>Zk (seg:=cat xa) (cs':=cat xa) H I Za R R R YX cq (q_1 cq cq) (Z0 (cc1 Xr (cc1 (t_1 (0 : Int)) (cc1 Xr (cc1 Xr (cc1 (t_1 _) cc0)))))) (q_2 cq cq) λw a I H=>Zc H R λa H=>Zc H R λa H=>Ze ?_)
  have I:=M.nilS (α:=GEvent) NoB noB (M.nilS (α:=GRecord) NoB noB (M.nilS (α:=V16) NoB noB I))
  obtain rfl:=o_1 hF
  have an : Z8 prog _ _ (.cell 8 79) _:=ZH H R YX R I.ra3 cq R
  have I:=I.pl1.pl2.f_3
  exact u_2 (YZ (ZA (kp H R an (Zy H R) (Zy H R) ⟨_,R,xf,xf,xf,R,I.outF (Z1 (Z1 (Z1 Yj))),I.kept⟩)))
 intro b8 hF
 obtain ⟨b9,ao,Y⟩:=p_1 hF
 refine ZG (λa w=>Env 88 a [(1,aw),(2,ax),(4,ptr b1 0),(7,ptr b3 0),(8,ptr b5 0),(19,vT b9)] ∧ M (Old w0) w0 w [raw b5 xy,raw b3 (enc p3),raw b1 (cV N T W p0)]) ?_ ?_
 ·refine s_1 (Zd H R λa H=>Yp H R o_2 (I.rd a6) λa H=>Zm H R R R λa H=>Zd H R λa H=>?_)
  refine Yq (decide ((p2.length : Int) > 200)) (λZ=>?_) (λZ=>?_)
  ·have ao:=Zt ao Z
   refine k_s H Z R R R λa H=>k_s H Z R R R λa H=>k_s H Z R R R λa H=>Z2 H (lkb R Z) R λa H=>Zc H R λa H=>Zf ?_
   obtain rfl:=o_1 ao
   refine Zi ?_
   exact ⟨H.s,I⟩
  have ao:=Zs ao Z
  refine Zl H (Zh H R (lkb R Z)) dd_ R λa H=>Q7 H (Zh H R (lkb R Z)) dd_ R o_2 (I.rd a5) λa H=>Ye H (Zh H R (lkb R Z)) dd_ R R R λa H=>ZZ H (lkb R Z) R λa H=>Zc H R λa H=>Zf ?_
  obtain rfl:=o_1 ao
  refine Zi ?_
  exact ⟨H.s,I⟩
 rintro a w ⟨H,I⟩
 refine c_if H R Y ?_ ?_
 ·intro bo Y
  refine Zb (YQ (parts:=[]) (vs:=[]) (cs:=cat xa) H Za ld R R YX qt XL λa H=>Zk (seg:=cat xa) (cs':=cat xa) H I Za R R R YX cq (q_1 cq cq) (Z0 (cc1 Xr (cc1 (t_1 (0 : Int)) (cc1 Xr (cc1 Xr (cc1 (t_1 _) cc0)))))) (q_2 cq cq) λw a I H=>Zc H R λa H=>Zc H R λa H=>Ze ?_)
  have I:=M.nilS (α:=GEvent) NoB noB (M.nilS (α:=GRecord) NoB noB (M.nilS (α:=V16) NoB noB I))
  obtain rfl:=o_1 Y
  have bp : Z8 prog _ _ (.cell 8 79) _:=ZH H R YX R I.ra3 cq R
  have I:=I.pl1.pl2.f_3
  exact u_2 (YZ (ZA (kp H R bp (Zy H R) (Zy H R) ⟨_,R,xf,xf,xf,R,I.outF (Z1 (Z1 (Z1 Yj))),I.kept⟩)))
 intro bo Y
 refine Zb (Zu H R YX R I.ra2 cq λa H=>Zu H R ZD R I.ra1 (u_1 _) λa H=>?_)
 obtain ⟨ca,cb,Y⟩:=p_1 Y
 refine c_k H I R (cbm func131) (JT _ p0 N (I.rdo aj) T (I.rdo ak) W (I.rdo al) p3 ca cb) λw a I H=>?_
 refine Zc H R λa H=>Ze ?_
 refine c_if H R Y ?_ ?_
 ·intro bq Y
  refine Zb (YQ (parts:=[]) (vs:=[]) (cs:=cat xa) H Za ld R R YX qt XL λa H=>Zk (seg:=cat xa) (cs':=cat xa) H I Za R R R YX cq (q_1 cq cq) (Z0 (cc1 Xr (cc1 (t_1 (0 : Int)) (cc1 Xr (cc1 Xr (cc1 (t_1 _) cc0)))))) (q_2 cq cq) λw a I H=>Zc H R λa H=>Zc H R λa H=>Ze ?_)
  have I:=M.nilS (α:=GEvent) NoB noB (M.nilS (α:=GRecord) NoB noB (M.nilS (α:=V16) NoB noB I))
  obtain rfl:=o_1 Y
  have br : Z8 prog _ _ (.cell 8 79) _:=ZH H R YX R I.ra3 cq R
  have I:=I.pl1.pl2.f_3
  exact u_2 (YZ (ZA (kp H R br (Zy H R) (Zy H R) ⟨_,R,xf,xf,xf,R,I.outF (Z1 (Z1 (Z1 Yj))),I.kept⟩)))
 intro bq Y
 obtain ⟨cc,aa,U⟩:=p_1 Y
 refine ZG (λa w=>Env 88 a [(1,aw),(2,ax),(4,ptr b1 0),(7,ptr b3 0),(8,ptr b5 0),(34,vT cc)] ∧ M (Old w0) w0 w [raw b5 xy,raw b3 (enc p3),raw b1 (cV N T W p0)]) ?_ ?_
 ·refine s_1 (Zr H R (Ke) λa H=>ZO (v:=T) H R AG R (at_2 I.ra2) λa H=>Yp H R p_5 (I.rd ak) λa H=>Zm H R R R λa H=>Zd H R λa H=>?_)
  refine Yq ((p0.Records.length : Int) == 12) (λX=>?_) (λX=>?_)
  ·have aa:=Zt aa X
   refine k_s H X R R R λa H=>k_s H X R R R λa H=>k_s H X R R R λa H=>k_s H X R R R λa H=>Z2 H (lkb R X) R λa H=>Zd H R λa H=>Zj H R R R dd_ λa H=>Zj H R R R dd_ λa H=>Zj H R R R dd_ λa H=>Z2 H R R λa H=>Zc H R λa H=>Zf ?_
   obtain rfl:=o_1 aa
   refine Zi ?_
   exact ⟨H.s,I⟩
  have aa:=Zs aa X
  refine Zo H (Zh H R (lkb R X)) dd_ R (HT) λa H=>ZL (v:=W) H (Zh H R (lkb R X)) dd_ R qh R (at_3 I.ra2) λa H=>Q7 H (Zh H R (lkb R X)) dd_ R s_6 (I.rd al) λa H=>Ye H (Zh H R (lkb R X)) dd_ R R R λa H=>ZZ H (lkb R X) R λa H=>Zd H R λa H=>?_
  refine Yq ((p0.Events.length : Int) == 60) (λab=>?_) (λab=>?_)
  ·have aa:=Zt aa ab
   refine k_s H ab R R R λa H=>k_s H ab R R R λa H=>k_s H ab R R R λa H=>Z2 H (lkb R ab) R λa H=>Zc H R λa H=>Zf ?_
   obtain rfl:=o_1 aa
   refine Zi ?_
   exact ⟨H.s,I⟩
  have aa:=Zs aa ab
  refine Zo H (Zh H R (lkb R ab)) dd_ R (Ah) λa H=>ZL (v:=(vI p0.Next)) H (Zh H R (lkb R ab)) dd_ R ty2 R (at_1 I.ra2) λa H=>Ye H (Zh H R (lkb R ab)) dd_ R R R λa H=>ZZ H (lkb R ab) R λa H=>Zc H R λa H=>Zf ?_
  obtain rfl:=o_1 aa
  refine Zi ?_
  exact ⟨H.s,I⟩
 rintro a w ⟨H,I⟩
 refine c_if H R U ?_ ?_
 ·intro bs U
  refine Zb (YQ (parts:=[]) (vs:=[]) (cs:=cat xa) H Za ld R R YX qt XL λa H=>Zk (seg:=cat xa) (cs':=cat xa) H I Za R R R YX cq (q_1 cq cq) (Z0 (cc1 Xr (cc1 (t_1 (0 : Int)) (cc1 Xr (cc1 Xr (cc1 (t_1 _) cc0)))))) (q_2 cq cq) λw a I H=>Zc H R λa H=>Zc H R λa H=>Ze ?_)
  have I:=M.nilS (α:=GEvent) NoB noB (M.nilS (α:=GRecord) NoB noB (M.nilS (α:=V16) NoB noB I))
  obtain rfl:=o_1 U
  have bt : Z8 prog _ _ (.cell 8 79) _:=ZH H R YX R I.ra3 cq R
  have I:=I.pl1.pl2.f_3
  exact u_2 (YZ (ZA (kp H R bt (Zy H R) (Zy H R) ⟨_,R,xf,xf,xf,R,I.outF (Z1 (Z1 (Z1 Yj))),I.kept⟩)))
 intro bs U
 refine t_2 (Yn (Zw (s_2 ?_)))
 obtain ⟨am,cd,U⟩:=p_1 U
 obtain ⟨y,cf,U⟩:=p_1 U
 refine Y0 (its:=[raw b5 xy,raw b3 (enc p3),raw b1 (cV N T W p0)]) (mk:=([mkO 0 (λv=>own NoB am [v]),mkO 2 (λv=>own NoB y (Value.cells v).toList),mkO 3 (λv=>Th v xy)] : Mk)) [51,52,53,12] YJ R R dd_ R H (λu=>M.qE (M.qE (M.qE (M.q0 I.drew u) emO) emO) emO) (q_t ?_ (qsP (λz=>ZB z.E Za ld R YX R (z.M.ra2) cq (kr0 R)) (qsM (pr:=λv=>∃ cs,v = .agg cs) ?_ (q_t ?_ qs0)))) ?_
 ·intro a w ac D z
  have H:=z.E
  have hD : D 0 = false:=z.F
  have hM0:=z.M
  have I:=z.M
  refine Zn H R Zeb (Vt _  am cd) ?_
  rintro _ w a ⟨_,rfl,hFr,hK⟩ H
  have I:=hM0.add hK hFr
  exact ⟨_,_,R,H,M.qFill (mk1:=[]) (mk2:=[_,_]) (f:=(λv=>own NoB am [v])) I R hD,trivial⟩
 ·intro a w ac D z
  have H:=z.E
  have hD : D 2 = false:=z.F
  have hM0:=z.M
  have I:=z.M
  refine Zn H R Zow (Jq _ p0 N (I.rdo aj) T (I.rdo ak) W (I.rdo al) y cf) ?_
  rintro _ w a ⟨c1,c2,c3,rfl,hFr,hK⟩ H
  have I:=BQ (x:=y) (hM0.add hK hFr) sio sio sio
  exact ⟨_,_,R,H,M.qFill (mk1:=[_]) (mk2:=[_]) (f:=(λv=>own NoB y (Value.cells v).toList)) I R hD,⟨_,R⟩⟩
 ·intro a w ac D z
  have H:=z.E
  have hD : D 3 = false:=z.F
  have I:=z.M
  refine Zx H I YX λc4 w a I H=>?_
  have I:=I.pack1 (it:=Th _ xy) (λw w' fp ⟨b',e,k⟩ hb=>⟨b',e,XR w w' fp k hb⟩) (λfp k=>⟨_,R,k⟩)
  exact ⟨_,_,R,H,M.qFill (mk1:=[_,_]) (mk2:=[]) (f:=λv=>Th v xy) I R hD,trivial⟩
 intro a w ac D H I hG ag
 have d0:=ag 0 dd_
 have d2:=ag 2 dd_
 have d3:=ag 3 dd_
 have I:=(((I.su3 d0).sure (pre:=[_,_,_,_]) d2).sure (pre:=[_,_,_,_,_]) d3).pl
 obtain ⟨_,⟨a2,bu,_⟩,_⟩:=I.head
 have I:=I.pack1 XR (it:=raw a2 xy) (λfp ⟨b2,e2,k2⟩=>by rw [bu] at e2; simp [ptr] at e2; subst e2; exact k2)
 obtain ⟨d,O,n,az,_,_,_⟩:=Jv (I.ro (pre:=[_,_,_,_,_]) noB)
 have bg : (ac 2) = (vcV d O n y):=yi az (hG 2 d2 _ R).2
 have I:=I.pl5
 have I:=BT (I.recown (congrArg (λv=>(Value.cells v).toList) bg))
 have H:=H.setq (t:=53) R bg
 have H:=H.setq (t:=12) R bu
 refine Zc H R λa H=>?_
 have I:=I.pl3
 refine Zk (seg:=cV d O n y) (cs':=cV d O n y) H I Za R R R YX cq (q_1 cq cq) (Z0 (cc1 (o_4 (I.ro (pre:=[_]) noB)) (cc1 (t_1 (y.Next : Int)) (cc1 (o_4 (I.rn2)) (cc1 (o_4 (I.ro (pre:=[_,_,_]) noB)) (cc1 (t_1 _) cc0)))))) (q_2 cq cq) λw a I H=>Zf (Zw (s_2 ?_))
 obtain ⟨ap,ch,U⟩:=p_1 U
 obtain ⟨bj,ci,U⟩:=p_1 U
 obtain ⟨B,cj,U⟩:=p_1 U
 refine Y0 (its:=[raw a2 (cV d O n y),own NoB y.Keys [d],own NoB y.Records [O],own NoB y.Events [n],raw b5 xy,raw b3 (enc p3),raw b1 (cV N T W p0),own NoB am [ac 0]]) (mk:=([mkN [(13,λv=>own NoB B (Value.cells v).toList),(10,λv=>osl NoB bj v)],mkO 14 (λv=>Th v xm)] : Mk)) [54,55,56,57,58,59,60,61,62,63,64,65,66,67,13] YJ R R dd_ R H (λu=>M.qE (M.qE (M.q0 I.drew u) emO) emN) (q_m (λ_=>R) (qsP (λz=>ZB z.E Za ld R YX R (z.M.ra6) cq (kr0 R)) (qsP (λz=>Zo z.E Za ld R (Ah) (kr0 R)) (qsP (λz=>ZL (v:=(vI p0.Next)) z.E Za ld R ty2 R (at_1 (z.M.ra6)) (kr0 R)) (qsP (λz=>Zo z.E Za ld R (KV) (kr0 R)) (qsP (λz=>ZL (v:=N) z.E Za ld R BZ R (at_0 (z.M.ra6)) (kr0 R)) (qsP (λz=>ZW z.E Za ld R y8 (YI _ p0.Keys N (z.M.rdo aj) ap ch) (kc R)) (qsP (v:=(vI (wr (ap - 1)))) (λz=>Ye z.E Za ld R R R (kr0 R)) (qsP (λz=>ZB z.E Za ld R ZD R (z.M.ra5) (u_1 _) (kr0 R)) (q_m (λ_=>R) (q_t ?_ (qsD (ds:=[10]) (f:=λus=>(Value.agg (cat [[vI p0.Next],[vI (wr (ap - 1))],enc p3,[us.getD 0 undef],[xf],enc xd]).toArray)) ?_ (q_m (λ_=>R) (qsM (pr:=λv=>∃ cs,v = .agg cs) ?_ (q_t ?_ qs0))))))))))))))) ?_
 ·intro a w ah D z
  have H:=z.E
  have hD : D 10 = false:=z.F
  have hM0:=z.M
  have I:=z.M
  refine Zn H R Zhj (Y1 _ p1 aw (I.rdo a5) bj ci) ?_
  rintro _ w a ⟨_,rfl,hFr,hK⟩ H
  have I:=hM0.add hK hFr
  have an : D 13 = false:=Kb (j:=13) (k:=4) z.c R R R hD
  exact ⟨_,_,R,H,M.qPut (mk1:=[]) (mk2:=[_]) I R (Zk9 (offC an (offC hD offN))) (Ze8 (l:=[_]) (offC an offN)),trivial⟩
 ·intro a w ah D z
  have H:=z.E
  have hD : D 11 = false:=z.F
  have a3 : D 10 = true:=z.p 3 _ R R
  have I:=z.M
  have an : D 13 = false:=Kb (j:=13) (k:=2) z.c R R R hD
  have I:=(I.chnF (pre:=[_,_,_,_,_,_,_,_]) an).chnT (pre:=[_,_,_,_,_,_,_,_]) a3
  exact YQ (parts:=[(0,.tmp 57),(1,.tmp 61),(2,.tmp 62),(3,.tmp 64)]) (vs:=[(0,vI p0.Next),(1,vI (wr (ap - 1))),(2,Value.agg (enc p3).toArray),(3,ah 10)]) (cs:=cat [[vI p0.Next],[vI (wr (ap - 1))],enc p3,[ah 10],[xf],enc xd]) H Za ld R R Vd pl98 (Yk (pre:=[]) (seg:=[vI 0]) (seg':=[vI p0.Next]) (post:=[[vI 0],enc xb,[xf],[xf],enc xd]) R cl0 R R R (Yk (pre:=[[vI p0.Next]]) (seg:=[vI 0]) (seg':=[vI (wr (ap - 1))]) (post:=[enc xb,[xf],[xf],enc xd]) R ck R R R (Yk (pre:=[[vI p0.Next],[vI (wr (ap - 1))]]) (seg:=enc xb) (seg':=enc p3) (post:=[[xf],[xf],enc xd]) R ck (u_1 _) (u_1 _) R (Yk (pre:=[[vI p0.Next],[vI (wr (ap - 1))],enc p3]) (seg:=[xf]) (seg':=[ah 10]) (post:=[[xf],enc xd]) R ck R R (Ym (I.sl (pre:=[_,_,_,_,_,_,_,_]) noB)) XL)))) λa H=>⟨t_6 _ _,Zfe a3 Zg1,_,R,H⟩
 ·intro a w ah D z
  have H:=z.E
  have hD : D 13 = false:=z.F
  have cl : D 11 = true:=z.p 2 _ R R
  have a3 : D 10 = true:=z.c 11 _ _ R (List.mem_of_getElem? (i:=3) R) R cl
  have hM0:=z.M
  have I:=(((M.nilS (α:=UInt8) NoB noB ((((z.M.chnF (pre:=[_,_,_,_,_,_,_,_]) hD).chnT (pre:=[_,_,_,_,_,_,_,_]) a3).pl8).toOwn noB)).toOwn noB).pl1).pl9
  have hM0:=I
  obtain ⟨S71,a1,bv,I,bk⟩:=M.freeze [_,_] I noB
  refine Zn H R (cbm func134) (J8 _ _ _ _ am (ac 0) bv p0 N (hM0.rdw aj (λb hb=>a1 b (hb))) T (hM0.rdw ak (λb hb=>a1 b (hb))) W (hM0.rdw al (λb hb=>a1 b (hb))) (⟨p0.Next,wr (ap - 1),p3,bj,xz,xd⟩ : GRecord) (ah 10) xf p2 ax (hM0.rdw a6 (λb hb=>a1 b (hb))) I B cj) ?_
  rintro v w a ⟨c8,c9,rfl,I⟩ H
  have I:=bk _ [_,_] (He (He Yj)) I
  simp only [l_c,l_n] at I
  have I:=(((((((((H0 (x:=B) I.pl2.pl2 siw siw).pl1).pl8).pl8).pl8).pl8).pl8).pl8).pl8).pl8
  exact ⟨_,_,R,H,M.qTogS (mk1:=[]) (mk2:=[_]) I R (Ze8 (l:=[]) offN),⟨_,R⟩⟩
 ·intro a w ah D z
  have H:=z.E
  have hD : D 14 = false:=z.F
  have I:=z.M
  refine Zx H I Vd λda w a I H=>?_
  have I:=I.pack1 (it:=Th _ xm) (λw w' fp ⟨b',e,k⟩ hb=>⟨b',e,XR w w' fp k hb⟩) (λfp k=>⟨_,R,k⟩)
  exact ⟨_,_,R,H,M.qFill (mk1:=[_]) (mk2:=[]) (f:=λv=>Th v xm) I R hD,trivial⟩
 intro a w ah D H I hG ag
 have bw:=ag 13 dd_
 have cm:=ag 14 dd_
 have I:=((I.chnT (pre:=[_,_,_,_,_,_,_,_]) bw).sure (pre:=[_,_,_,_,_,_,_,_,_]) cm).pl
 obtain ⟨_,⟨a7,bx,_⟩,_⟩:=I.head
 have I:=I.pack1 XR (it:=raw a7 xm) (λfp ⟨b2,e2,k2⟩=>by rw [bx] at e2; simp [ptr] at e2; subst e2; exact k2)
 obtain ⟨o,q,az,_,_⟩:=TF (I.ro (pre:=[_,_,_,_,_,_,_,_,_]) noB)
 have bh : (ah 13) = (vcR o q B):=yi az (hG 13 bw _ R).2
 have I:=I.pl9
 have I:=yz (I.recown (congrArg (λv=>(Value.cells v).toList) bh))
 have H:=H.setq (t:=67) R bh
 have H:=H.setq (t:=13) R bx
 have I:=I.pl2
 refine Zk (seg:=cR o q B) (cs':=cR o q B) H I Za R R R Vd cq (q_1 cq cq) (Z0 (cc1 (t_1 (B.Number : Int)) (cc1 (t_1 (B.Version : Int)) (cc1 (t_1 _) (cc1 (o_4 (I.ro (pre:=[_]) noB)) (cc1 (o_4 (I.rn2)) (cc1 (t_1 _) cc0))))))) (q_2 cq cq) λw a I H=>Zf (Zw (Zb (Zr H R (Ke) λa H=>ZO (v:=O) H R AG R (at_2 I.ra3) λa H=>Zu H R Vd R I.ra0 cq λa H=>?_)))
 have I:=I.pl2.pl2
 have I:=I.pack2 (it:=own NoB B (cR o q B)) (Xl noB) (λf0 f1 q0 q1=>(Ai q0 q1 (by simp)))
 refine H7 (xs:=[.tmp 70]) (seg:=cR o q B) H I noB Za ld R R p_5 Vd R dd_ λu84 w a I H=>?_
 have I:=I.pl4.toOsl0
 obtain ⟨db,cn,U⟩:=p_1 U
 obtain ⟨co,rfl⟩:=Yc cn
 have I:=I.pl1.pl1
 refine J4 H I noB Za ld R R p_5 Vd R dd_ co λu88 w a I H=>Zr H R (Ke) λa H=>?_
 have I:=I.pl2
 refine Zk (seg:=[u88]) H I Za R R (Ym (I.sl1)) AG R (Wl (pre:=[[d],[vI y.Next]]) ck R) (o_4 (I.sl1)) (YL (pre:=[[d],[vI y.Next]]) ck R) λw a I H=>Ze (Zb (Zr H R (Ah) λa H=>ZO (v:=(vI y.Next)) H R ty2 R (at_1 I.ra0) λa H=>Zm H R R R λa H=>Zr H R (Ah) λa H=>Zk (seg:=[vI (wr (y.Next + 1))]) H I Za R R R ty2 R (Wl (pre:=[[d]]) ck R) (t_1 (wr (y.Next + 1) : Int)) (YL (pre:=[[d]]) ck R) λw a I H=>Ze ?_))
 obtain ⟨a0,a8,bz⟩:=p_1 U
 refine ZG (λa w=>∃ bb bc bd : Value,Env 88 a [(8,ptr b5 0),(9,vI a0.2.2.2.2.2.2),(10,vI a0.2.2.2.2.2.1)] ∧ M (Old w0) w0 w [raw b5 (cat [[bb],[vI a0.2.1],[bc],[bd],enc a0.2.2.2.2.1]),osl NoB a0.1 bb,osl NoB a0.2.2.1 bc,osl NoB a0.2.2.2.1 bd]) ?_ ?_
 ·have I:=I.pl5.pl5.pl3.pl5
  have I:=I.packL (m:=[_,_,_]) (it:=qF NoB [_,_,_]) (Zb1.mono noB) (λfp h=>XN.reloc h (He (Z1 (He Yj))))
  obtain ⟨ad,b0,a8⟩:=p_1 a8
  refine Y0 (its:=[raw a2 (cat [[d],[vI (wr (y.Next + 1))],[u88],[n],enc y.Head]),raw a7 (cR o q B),raw b3 (enc p3),raw b1 (cV N T W p0),own NoB am [ac 0]]) (mk:=([mkW 10 7 b5 xy (λv=>(Value.cells v).toList),mkU 7 (qF NoB [own NoB y.Keys [d],osl NoB ((y.Records ++ ([B] : List GRecord)) : List GRecord) u88,own NoB y.Events [n]]) (λv=>own NoB ad (Value.cells v).toList)] : Mk)) [78,79,80,81,82,83,84,85,86,87,98] YJ R R dd_ R H (λu=>M.qS (M.qS (M.q0 I.drew u) λ_=>R) λ_=>R) (q_m (λ_=>R) (qsP (v:=(Value.agg (cat [[d],[vI (wr (y.Next + 1))],[u88],[n],enc y.Head]).toArray)) ?_ (qsP (λz=>Zo z.E Za ld R (Hi) (kr0 R)) (qsP (v:=(vI B.Number)) ?_ (qsP (λz=>Zo z.E Za ld R (AV) (kr0 R)) (qsP (v:=(Value.agg (enc B.Tag).toArray)) ?_ (qsP (λz=>YQ (parts:=[(0,.const (vI 1)),(1,.tmp 81),(2,.tmp 83)]) (vs:=[(0,vI 1),(1,vI B.Number),(2,Value.agg (enc B.Tag).toArray)]) (cs:=cat [[vI 1],[vI B.Number],enc B.Tag]) z.E Za ld R R KN Zqd (Yk (pre:=[]) (seg:=[vI 0]) (seg':=[vI 1]) (post:=[[vI 0],enc xd]) R cl0 R R R (Yk (pre:=[[vI 1]]) (seg:=[vI 0]) (seg':=[vI B.Number]) (post:=[enc xd]) R ck R R R (Yk (pre:=[[vI 1],[vI B.Number]]) (seg:=enc xd) (seg':=enc B.Tag) (post:=[]) R ck (u_1 _) (u_1 _) R XL))) (kr0 R)) (qsM (pr:=λv=>∃ cs,v = .agg cs) ?_ (qsP (λz=>Zo z.E Za ld R (Hi) (kr0 R)) (qsP (λz=>ZL (v:=(vI B.Number)) z.E Za ld R ty2 R (at_0 (z.M.ra1)) (kr0 R)) (q_t ?_ qs0))))))))))) ?_
  ·intro a w ae D z
   have H:=z.E
   have hD : D 1 = false:=z.F
   have I:=z.M.togA (pre:=[_,_,_,_,_]) (Kb (j:=10) (k:=3) z.c R R R hD)
   exact Zu H R YX R I.ra0 cq λa H=>⟨t_6 _ _,_,R,H⟩
  ·intro a w ae D z
   have H:=z.E
   have hD : D 3 = false:=z.F
   have I:=z.M.togA (pre:=[_,_,_,_,_]) (Kb (j:=10) (k:=5) z.c R R R hD)
   exact ZO (v:=(vI B.Number)) H R ty2 R (at_0 I.ra1) λa H=>⟨t_6 _ _,_,R,H⟩
  ·intro a w ae D z
   have H:=z.E
   have hD : D 5 = false:=z.F
   have I:=z.M.togA (pre:=[_,_,_,_,_]) (Kb (j:=10) (k:=7) z.c R R R hD)
   exact Zu H R Yi R (at_5 I.ra1) (u_1 _) λa H=>⟨t_6 _ _,_,R,H⟩
  ·intro a w ae D z
   have H:=z.E
   have hD : D 7 = false:=z.F
   have I:=((z.M.togA (pre:=[_,_,_,_,_]) (Kb (j:=10) (k:=0) z.c R R R hD)).togA (pre:=[_,_,_,_,_,_]) hD).pl
   have I:=I.unpackL (m:=[_,_,_]) (λfp h=>XN.mono h (λ_ h=>h.elim))
   simp only [l_c,l_n] at I
   have I:=I.toOsl0.pl2.toOsl0.pl2.pl2.pl7
   obtain ⟨S104,cp,bl,I,be⟩:=M.freeze [_,_,_] I noB
   refine Zn H R Zp5 (KY _ _ _ _ am (ac 0) bl (⟨y.Keys,wr (y.Next + 1),y.Records ++ ([B] : List GRecord),y.Events,y.Head⟩ : GVault) d u88 n (⟨1,B.Number,B.Tag⟩ : GEvent) I ad b0) ?_
   rintro v w a ⟨cw,cx,cy,rfl,I⟩ H
   have I:=be _ [_,_,_] (Z1 (Z1 (Z1 Yj))) I
   simp only [l_c,l_n] at I
   have I:=(((((((BQ (x:=ad) I.pl3.pl3.pl3 sio sio sio).pl6).pl2).pl6).pl6).pl6).pl6).pl6
   have bm : D 10 = false:=Kb (j:=10) (k:=0) z.c R R R hD
   exact ⟨_,_,R,H,M.qUnconst (p:=mkW 10 7 b5 xy (λv=>(Value.cells v).toList)) (its:=[raw a2 (cat [[d],[vI (wr (y.Next + 1))],[u88],[n],enc y.Head]),raw a7 (cR o q B),raw b3 (enc p3),raw b1 (cV N T W p0),own NoB am [ac 0]]) (mk1:=([] : Mk)) (mk2:=([mkU 7 (qF NoB [own NoB y.Keys [d],osl NoB ((y.Records ++ ([B] : List GRecord)) : List GRecord) u88,own NoB y.Events [n]]) (λv=>own NoB ad (Value.cells v).toList)] : Mk)) (M.qTogS (p:=mkU 7 (qF NoB [own NoB y.Keys [d],osl NoB ((y.Records ++ ([B] : List GRecord)) : List GRecord) u88,own NoB y.Events [n]]) (λv=>own NoB ad (Value.cells v).toList)) (its:=[raw a2 (cat [[d],[vI (wr (y.Next + 1))],[u88],[n],enc y.Head]),raw a7 (cR o q B),raw b3 (enc p3),raw b1 (cV N T W p0),own NoB am [ac 0]]) (mk1:=([([],λ_ _=>raw b5 xy)] : Mk)) (mk2:=([] : Mk)) I R Znw) (Zq2 bm),⟨_,R⟩⟩
  ·intro a w ae D z
   have H:=z.E
   have hD : D 10 = false:=z.F
   have d7 : D 7 = true:=z.p 0 _ R R
   have I:=(z.M.togB (pre:=[_,_,_,_,_,_]) d7).togA (pre:=[_,_,_,_,_]) hD
   obtain ⟨C,K,L,az,aq,ar,au⟩:=Jv (I.ro (pre:=[_,_,_,_,_,_]) noB)
   have ai : (ae 7) = (vcV C K L ad):=yi az (z.G 7 (by assumption) _ R).2
   have I:=I.pl5
   refine Zk (seg:=cV C K L ad) (cs':=cV C K L ad) H I Za R (lk R ai) R YX cq (q_1 cq cq) (Z0 (cc1 (o_4 aq) (cc1 (t_1 (ad.Next : Int)) (cc1 (o_4 ar) (cc1 (o_4 au) (cc1 (t_1 _) cc0)))))) (q_2 cq cq) λw a I H=>?_
   have I:=(M.recell I (show _ = (Value.cells (ae 7)).toList from by rw [ai]; rfl)).untogB (pre:=[_,_,_,_,_,_]) (A:=qF NoB [own NoB y.Keys [d],osl NoB ((y.Records ++ ([B] : List GRecord)) : List GRecord) u88,own NoB y.Events [n]]) d7
   exact ⟨undef,_,R,Env.dummy H dd_,M.qTogS (p:=mkW 10 7 b5 xy (λv=>(Value.cells v).toList)) (its:=[raw a2 (cat [[d],[vI (wr (y.Next + 1))],[u88],[n],enc y.Head]),raw a7 (cR o q B),raw b3 (enc p3),raw b1 (cV N T W p0),own NoB am [ac 0]]) (mk1:=[]) (mk2:=[_]) I R mkW_on,trivial⟩
  intro a w ae D H I hG ag
  have d7:=ag 7 dd_
  have a3:=ag 10 dd_
  have I:=(I.togB (pre:=[_,_,_,_,_]) a3).togB (pre:=[_,_,_,_,_,_]) d7
  obtain ⟨C,K,L,az,_,_,_⟩:=Jv (I.ro (pre:=[_,_,_,_,_,_]) noB)
  have ai : (ae 7) = (vcV C K L ad):=yi az (hG 7 d7 _ R).2
  have I:=I.pl6
  have I:=(BT (I.recown (congrArg (λv=>(Value.cells v).toList) ai))).pl8
  have I:=M.recell (c':=cV C K L ad) I (congrArg (λv=>(Value.cells v).toList) ai)
  have H:=H.setq (t:=85) R ai
  refine Zc H R λa H=>Zc H R λa H=>Zf ?_
  obtain rfl:=o_1 a8
  refine Zi ?_
  have I:=I.pl1.toOsl0.pl2.toOsl0.pl3.toOsl0.pl1.pl2.pl3.f_4
  exact ⟨C,K,L,H.s,I⟩
 rintro a w ⟨bb,bc,bd,H,I⟩
 obtain rfl:=o_1 bz
 have bn : Z8 prog _ _ (.cell 8 79) _:=ZH H R YX R I.ra0 cq R
 have I:=I.pl3.pl3.pl3.f_3
 exact u_2 (kp H R bn (Zy H R) (Zy H R) ⟨_,R,bb,bc,bd,R,I.outF (Z1 (Z1 (Z1 Yj))),I.kept⟩)
def Xv (e : List V16) (f : V16) (b : Int) : Option (Fl Int (Fl Unit Int)) :=
 if decide (b < (e.length : Int)) then (((idx e b).bind λc=>some (decide (f = c)) : Option (Bool)).bind λd=>if d then (some (Fl.ex (Fl.ex b))) else (some (Fl.nx (wr (b + 1))))) else (some (Fl.ex (Fl.nx ())))
def Xz (b : List V16) (c : V16) : Option (Int) :=
 (ZK (Xv b c) 0).bind λd=>d.el (λe=>some (-1)) (λr=>some r)
theorem KQ (h : World) (o : List V16) (d : Value) (c : Ro h o [d]) (k : V16) (r : Int) (hF : Xz o k = some r) :
  Calls prog 233 [d,Value.agg (enc k).toArray].toArray h (Rt h (vI r)):=by
 refine ce func233 ?_
 intro a H
 have I:=M.start h
 unfold Xz at hF
 refine Zb (ZY (cs:=enc k) H I Za ld R R λq w a I H=>Zc H R λa H=>Ze (s_2 (Zb (Zd H R λa H=>Yp H R o_3 (I.rd c) λa H=>Zd H R λa H=>Ze ?_))))
 obtain ⟨B,x,i⟩:=p_1 hF
 refine ZX (λa w=>∃ A : Unit,B = Fl.nx A ∧ Env 19 a [] ∧ M (Old h) h w []) ?_ ?_
 ·refine p_2 ?_
  refine ZN (λ(t : Int) a w=>Env 19 a [(0,d),(3,ptr q 0),(7,vI (o.length : Int)),(8,vI t)] ∧ M (Old h) h w [raw q (enc k)]) x ⟨H.s,I⟩ ?_
  rintro t a w ⟨H,I⟩ C e l
  unfold Xv at e
  refine Zb (Zm H R R R λa H=>Ze (s_2 ?_))
  refine c_if H R e ?_ ?_
  ·intro m e
   refine t_2 (Zw (s_2 (p_2 (Zb (Zd H R λa H=>Zc H R λa H=>Ze ?_)))))
   obtain ⟨y,f,b⟩:=p_1 e
   refine ZG (λa w=>Env 19 a [(0,d),(3,ptr q 0),(5,vI t),(7,vI (o.length : Int)),(8,vI t),(16,vT y)] ∧ M (Old h) h w [raw q (enc k)]) ?_ ?_
   ·obtain ⟨F,j,f⟩:=bix f
    refine Z7 [11,12,13,14,15,16] YJ R R dd_ R H I (qsP (λz=>ZB z.E Za ld R ZD R (z.M.ra0) (u_1 _) (kr0 R)) (q_m (λ_=>R) (q_m (λ_=>R) (qsP (λz=>XD z.E Za ld R R o_3 ZD (z.M.rd c) j.1 (kr0 R)) (qsP (λz=>ZB z.E Za ld R ZD R (Xx (z.M.rd c) j.2) (u_1 _) (kr0 R)) (qsP (λz=>Zkc z.E Za ld R R (K4 u_3 ty5 R false R dd_ (QO t_3)) dd_ (by kernel_rfl) (kr0 R)) qs0)))))) ?_
    ·intro a w u H I
     refine Zf ?_
     obtain rfl:=o_1 f
     refine Zi ?_
     exact ⟨H.s,I⟩
   rintro a w ⟨H,I⟩
   refine c_if H R b ?_ ?_
   ·intro n b
    refine Zb (Zd H R λa H=>Zc H R λa H=>Ze ?_)
    obtain rfl:=l _ (ois b)
    obtain rfl:=o_1 i
    exact u_2 (YZ (ZA (ZA (YZ (ZA (ZA (kr1 H R R I.kept)))))))
   intro n b
   refine t_2 (Yn (Zw (s_1 (Zm H R R R λa H=>Zd H R λa H=>Zf (Zi ?_)))))
   exact ⟨_,ois b,H.s,I⟩
  intro m e
  refine s_3 (Zp (Zp (Yv ?_)))
  obtain rfl:=l _ (ois e)
  refine Zi ?_
  have I:=I.f_0
  exact ⟨(),R,H.sub trivial,I⟩
 rintro a w ⟨A,ht,H,I⟩
 subst ht
 have i:=JM i
 refine Zw (Zb (Zc H R λa H=>Ze ?_))
 obtain rfl:=o_1 i
 exact u_2 (kr1 H R R I.kept)
def YF (b : List V16) (c : V16) : Option (Bool) :=
 (Xz b c).bind λd=>some (decide (d ≥ 0))
theorem Kc (d : World) (f : List V16) (b : Value) (c : Ro d f [b]) (e : V16) (r : Bool) (hF : YF f e = some r) :
  Calls prog 138 [b,Value.agg (enc e).toArray].toArray d (Rt d (vT r)):=by
 refine ce func138 ?_
 intro a H
 have I:=M.start d
 unfold YF at hF
 refine Zb (ZY (cs:=enc e) H I Za ld R R λj w a I H=>Zc H R λa H=>Ze (Zb (Zd H R λa H=>Zu H R ZD R I.ra0 (u_1 _) λa H=>?_)))
 obtain ⟨h,i,hF⟩:=p_1 hF
 refine c_k H I R (cbm func233) (KQ _ f b (I.rdo c) e h i) λw a I H=>?_
 refine Zm H R R R λa H=>Zc H R λa H=>Ze ?_
 obtain rfl:=o_1 hF
 exact u_2 (kr1 H R R I.kept)
def T2 (e : GVault) (f : V16) : Option (GVault × Int) :=
 (VM e).bind λl=>if !l then (some ((⟨[],0,[],[],Vector.replicate 32 (0 : UInt8)⟩ : GVault),1)) else ((YF e.Keys f).bind λh=>if h then (some ((⟨[],0,[],[],Vector.replicate 32 (0 : UInt8)⟩ : GVault),5)) else ((if (e.Keys.length : Int) == 8 then (some true) else (some ((e.Events.length : Int) == 60)) : Option (Bool)).bind λi=>if i then (some ((⟨[],0,[],[],Vector.replicate 32 (0 : UInt8)⟩ : GVault),3)) else ((WB e).bind λb=>(app 16 b.Keys ([f] : List V16)).bind λm=>((Xn).bind λj=>(Z3 e.Keys).bind λk=>(Xf j (⟨b.Keys ++ ([f] : List V16),b.Next,b.Records,b.Events,b.Head⟩ : GVault) (⟨3,k,Vector.replicate 32 (0 : UInt8)⟩ : GEvent)).bind λd=>some (d.Keys,d.Next,d.Records,d.Events,d.Head,0) : Option (List V16 × Int × List GRecord × List GEvent × V32 × Int)).bind λc=>some ((⟨c.1,c.2.1,c.2.2.1,c.2.2.2.1,c.2.2.2.2.1⟩ : GVault),c.2.2.2.2.2))))
theorem kj (t : World) (o : GVault) (b : Value) (j : Ro t o.Keys [b]) (h : Value) (x : Ro t o.Records [h]) (i : Value) (n : Ro t o.Events [i]) (y : V16) (r : GVault × Int) (hF : T2 o y = some r) :
  Calls prog 41 [vcV b h i o,Value.agg (enc y).toArray].toArray t (e_r λv w'=>(∃ y1 y2 y3 : Value,v = (Value.tuple [vcV y1 y2 y3 r.1,vI r.2].toArray) ∧ Fr t w' [osl NoB r.1.Keys y1,osl NoB r.1.Records y2,osl NoB r.1.Events y3] ∧ Kept (Old t) t w')):=by
 refine ce func41 ?_
 intro a H
 have I:=M.start t
 unfold T2 at hF
 refine Zb (ZY (cs:=cV b h i o) H I Za ld R R λb1 w a I H=>ZY (cs:=enc y) H I Za ld R R λb3 w a I H=>Zx H I YX λb5 w a I H=>Zc H R λa H=>Ze (s_2 (p_2 (Zb (Zu H R YX R I.ra2 cq λa H=>?_)))))
 obtain ⟨r7,e8,hF⟩:=p_1 hF
 refine c_k H I R cb48 (JD _ o b (I.rdo j) h (I.rdo x) i (I.rdo n) r7 e8) λw a I H=>?_
 refine Qe H R λa H=>Zc H R λa H=>Ze ?_
 refine c_if H R hF ?_ ?_
 ·intro an hF
  refine Zb (YQ (parts:=[]) (vs:=[]) (cs:=cat xa) H Za ld R R YX qt XL λa H=>Zk (seg:=cat xa) (cs':=cat xa) H I Za R R R YX cq (q_1 cq cq) (Z0 (cc1 Xr (cc1 (t_1 (0 : Int)) (cc1 Xr (cc1 Xr (cc1 (t_1 _) cc0)))))) (q_2 cq cq) λw a I H=>Zc H R λa H=>Ze ?_)
  have I:=M.nilS (α:=GEvent) NoB noB (M.nilS (α:=GRecord) NoB noB (M.nilS (α:=V16) NoB noB I))
  obtain rfl:=o_1 hF
  have ac : Z8 prog _ _ (.cell 4 79) _:=ZH H R YX R I.ra3 cq R
  have I:=I.pl1.pl2.f_3
  exact u_2 (YZ (ZA (YN H R ac (Zy H R) ⟨_,R,xf,xf,xf,R,I.outF (Z1 (Z1 (Z1 Yj))),I.kept⟩)))
 intro an hF
 refine Zb (Zr H R (KV) λa H=>ZO (v:=b) H R BZ R (at_0 I.ra2) λa H=>Zu H R ZD R I.ra1 (u_1 _) λa H=>?_)
 obtain ⟨ao,ap,hF⟩:=p_1 hF
 refine c_k H I R (cbm func138) (Kc _ o.Keys b (I.rdo j) y ao ap) λw a I H=>?_
 refine Zc H R λa H=>Ze ?_
 refine c_if H R hF ?_ ?_
 ·intro ad hF
  refine Zb (YQ (parts:=[]) (vs:=[]) (cs:=cat xa) H Za ld R R YX qt XL λa H=>Zk (seg:=cat xa) (cs':=cat xa) H I Za R R R YX cq (q_1 cq cq) (Z0 (cc1 Xr (cc1 (t_1 (0 : Int)) (cc1 Xr (cc1 Xr (cc1 (t_1 _) cc0)))))) (q_2 cq cq) λw a I H=>Zc H R λa H=>Ze ?_)
  have I:=M.nilS (α:=GEvent) NoB noB (M.nilS (α:=GRecord) NoB noB (M.nilS (α:=V16) NoB noB I))
  obtain rfl:=o_1 hF
  have ae : Z8 prog _ _ (.cell 4 79) _:=ZH H R YX R I.ra3 cq R
  have I:=I.pl1.pl2.f_3
  exact u_2 (YZ (ZA (YN H R ae (Zy H R) ⟨_,R,xf,xf,xf,R,I.outF (Z1 (Z1 (Z1 Yj))),I.kept⟩)))
 intro ad hF
 obtain ⟨aq,m,d⟩:=p_1 hF
 refine ZG (λa w=>Env 45 a [(2,ptr b1 0),(3,ptr b3 0),(4,ptr b5 0),(18,vT aq)] ∧ M (Old t) t w [raw b5 xy,raw b3 (enc y),raw b1 (cV b h i o)]) ?_ ?_
 ·refine s_1 (Zr H R (KV) λa H=>ZO (v:=b) H R BZ R (at_0 I.ra2) λa H=>Yp H R o_3 (I.rd j) λa H=>Zm H R R R λa H=>Zd H R λa H=>?_)
  refine Yq ((o.Keys.length : Int) == 8) (λc=>?_) (λc=>?_)
  ·have m:=Zt m c
   refine k_s H c R R R λa H=>k_s H c R R R λa H=>k_s H c R R R λa H=>k_s H c R R R λa H=>Z2 H (lkb R c) R λa H=>Zc H R λa H=>Zf ?_
   obtain rfl:=o_1 m
   refine Zi ?_
   exact ⟨H.s,I⟩
  have m:=Zs m c
  refine Zo H (Zh H R (lkb R c)) dd_ R (HT) λa H=>ZL (v:=i) H (Zh H R (lkb R c)) dd_ R qh R (at_3 I.ra2) λa H=>Q7 H (Zh H R (lkb R c)) dd_ R s_6 (I.rd n) λa H=>Ye H (Zh H R (lkb R c)) dd_ R R R λa H=>ZZ H (lkb R c) R λa H=>Zc H R λa H=>Zf ?_
  obtain rfl:=o_1 m
  refine Zi ?_
  exact ⟨H.s,I⟩
 rintro a w ⟨H,I⟩
 refine c_if H R d ?_ ?_
 ·intro af d
  refine Zb (YQ (parts:=[]) (vs:=[]) (cs:=cat xa) H Za ld R R YX qt XL λa H=>Zk (seg:=cat xa) (cs':=cat xa) H I Za R R R YX cq (q_1 cq cq) (Z0 (cc1 Xr (cc1 (t_1 (0 : Int)) (cc1 Xr (cc1 Xr (cc1 (t_1 _) cc0)))))) (q_2 cq cq) λw a I H=>Zc H R λa H=>Ze ?_)
  have I:=M.nilS (α:=GEvent) NoB noB (M.nilS (α:=GRecord) NoB noB (M.nilS (α:=V16) NoB noB I))
  obtain rfl:=o_1 d
  have ag : Z8 prog _ _ (.cell 4 79) _:=ZH H R YX R I.ra3 cq R
  have I:=I.pl1.pl2.f_3
  exact u_2 (YZ (ZA (YN H R ag (Zy H R) ⟨_,R,xf,xf,xf,R,I.outF (Z1 (Z1 (Z1 Yj))),I.kept⟩)))
 intro af d
 refine t_2 (Yn (Zw (Zb (Zu H R YX R I.ra2 cq λa H=>?_))))
 obtain ⟨e,ar,d⟩:=p_1 d
 refine Zn H R Zow (Jq _ o b (I.rdo j) h (I.rdo x) i (I.rdo n) e ar) ?_
 rintro v w a ⟨W,A,B,rfl,hFr,hK⟩ H
 have I:=I.add hK hFr
 refine Zx H I YX λau w a I H=>Zk (seg:=cV W A B e) (cs':=cV W A B e) H I Za R R R YX cq (q_1 cq cq) (Z0 (cc1 (o_4 (I.sl1)) (cc1 (t_1 (e.Next : Int)) (cc1 (o_4 (I.sl2)) (cc1 (o_4 (I.sl3)) (cc1 (t_1 _) cc0)))))) (q_2 cq cq) λw a I H=>Ze (Zb (Zr H R (KV) λa H=>ZO (v:=W) H R BZ R (at_0 I.ra0) λa H=>Zu H R ZD R I.ra5 (u_1 _) λa H=>ZR (xs:=[.tmp 34]) (l:=([y] : List V16)) (vs:=[Value.agg (enc y).toArray]) H I Za ld R R o_3 ZD R dd_ R λav w a I H=>?_))
 obtain ⟨a7,aw,d⟩:=p_1 d
 obtain ⟨ax,rfl⟩:=Yc aw
 have I:=I.pl2
 refine Yg H I Za ld R R (I.sl1) o_3 ZD R dd_ ax λG w a I H=>Zr H R (KV) λa H=>?_
 have I:=I.pl2
 refine Zk (seg:=[G]) H I Za R R (Ym (I.sl1)) BZ R (Wl (pre:=[]) cl0 R) (o_4 (I.sl1)) (YL (pre:=[]) cl0 R) λw a I H=>Ze ?_
 obtain ⟨q,k,ah⟩:=p_1 d
 refine ZG (λa w=>∃ K L N : Value,Env 45 a [(4,ptr b5 0),(5,vI q.2.2.2.2.2)] ∧ M (Old t) t w [raw b5 (cat [[K],[vI q.2.1],[L],[N],enc q.2.2.2.2.1]),osl NoB q.1 K,osl NoB q.2.2.1 L,osl NoB q.2.2.2.1 N]) ?_ ?_
 ·obtain ⟨O,ay,k⟩:=p_1 k
  obtain ⟨C,az,k⟩:=p_1 k
  refine Y0 (its:=[raw au (cV G A B e),osl NoB ((e.Keys ++ ([y] : List V16)) : List V16) G,osl NoB (([y] : List V16) : List V16) av,osl NoB e.Records A,osl NoB e.Events B,raw b5 xy,raw b3 (enc y),raw b1 (cV b h i o)]) (mk:=([mkO 0 (λv=>own NoB O [v])] : Mk)) [38,39,40,41,42,43] YJ R R dd_ R H (λu=>M.qE (M.q0 I.drew u) emO) (q_t ?_ (qsP (λz=>ZB z.E Za ld R YX R (z.M.ra0) cq (kr0 R)) (qsP (λz=>Zo z.E Za ld R (KV) (kr0 R)) (qsP (λz=>ZL (v:=b) z.E Za ld R BZ R (at_0 (z.M.ra7)) (kr0 R)) (qsP (λz=>ZW z.E Za ld R y8 (YI _ o.Keys b (z.M.rdo j) C az) (kc R)) (qsP (λz=>YQ (parts:=[(0,.const (vI 3)),(1,.tmp 42)]) (vs:=[(0,vI 3),(1,vI C)]) (cs:=cat [[vI 3],[vI C],enc xd]) z.E Za ld R R KN Zqd (Yk (pre:=[]) (seg:=[vI 0]) (seg':=[vI 3]) (post:=[[vI 0],enc xd]) R cl0 R R R (Yk (pre:=[[vI 3]]) (seg:=[vI 0]) (seg':=[vI C]) (post:=[enc xd]) R ck R R R XL)) (kr0 R)) qs0)))))) ?_
  ·intro a w U D z
   have H:=z.E
   have hD : D 0 = false:=z.F
   have hM0:=z.M
   have I:=z.M
   refine Zn H R Zeb (Vt _  O ay) ?_
   rintro _ w a ⟨_,rfl,hFr,hK⟩ H
   have I:=hM0.add hK hFr
   exact ⟨_,_,R,H,M.qFill (mk1:=[]) (mk2:=[]) (f:=(λv=>own NoB O [v])) I R hD,trivial⟩
  intro a w U D H I hG ai
  have d0:=ai 0 dd_
  have I:=((((I.sure (pre:=[_,_,_,_,_,_,_,_]) d0).pl4).pl4).pl3).pl8
  have hM0:=I
  obtain ⟨S63,a4,aj,I,X⟩:=M.freeze [_,_,_] I noB
  obtain ⟨T,a0,k⟩:=p_1 k
  refine Zn H R Zp5 (KY _ _ _ _ O (U 0) aj (⟨e.Keys ++ ([y] : List V16),e.Next,e.Records,e.Events,e.Head⟩ : GVault) G A B (⟨3,C,xd⟩ : GEvent) I T a0) ?_
  rintro v w a ⟨Y,Z,aa,rfl,I⟩ H
  have I:=X _ [_,_,_] (Z1 (Z1 (Z1 Yj))) I
  simp only [l_c,l_n] at I
  have I:=I.pl6
  refine Zk (seg:=cV Y Z aa T) (cs':=cV Y Z aa T) H I Za R R R YX cq (q_1 cq cq) (Z0 (cc1 (o_4 (I.sl2)) (cc1 (t_1 (T.Next : Int)) (cc1 (o_4 (I.sl3)) (cc1 (o_4 (I.sl4)) (cc1 (t_1 _) cc0)))))) (q_2 cq cq) λw a I H=>Zc H R λa H=>Zf ?_
  obtain rfl:=o_1 k
  refine Zi ?_
  have I:=I.pl4.pl4.pl4.pl3.f_4
  exact ⟨Y,Z,aa,H.s,I⟩
 rintro a w ⟨K,L,N,H,I⟩
 obtain rfl:=o_1 ah
 have ak : Z8 prog _ _ (.cell 4 79) _:=ZH H R YX R I.ra0 cq R
 have I:=I.pl3.pl3.pl3.f_3
 exact u_2 (YN H R ak (Zy H R) ⟨_,R,K,L,N,R,I.outF (Z1 (Z1 (Z1 Yj))),I.kept⟩)
def Tk (b : GRecord) (c : Int) : Option (Bool) :=
 some (b.Number == c)
theorem AZ (d : World) (f : GRecord) (b : Value) (h : Ro d f.Label [b]) (c : Value) (i : Ro d f.Body [c]) (e : Nat) (j : Int) (k : At d e 0 ([vI j])) (l : Old d e) (r : Bool) (hF : Tk f j = some r) :
  Calls prog 293 [vcR b c f,ptr e 0].toArray d (Rt d (vT r)):=by
 refine ce func293 ?_
 intro a H
 have I:=M.start d
 unfold Tk at hF
 refine Zb (ZY (cs:=cR b c f) H I Za ld R R λm w a I H=>Zc H R λa H=>Ze (Zb (Zr H R (Hi) λa H=>ZO (v:=(vI f.Number)) H R ty2 R (at_0 I.ra0) λa H=>ZO (v:=(vI j)) H R ty2 R (I.atk k l) λa H=>Zm H R R R λa H=>Zc H R λa H=>Ze ?_)))
 obtain rfl:=o_1 hF
 exact u_2 (kr1 H R R I.kept)
def UL (b : GVault) (c : Int) : Option (Int) :=
 (Yf b.Records (λd=>Tk d c)).bind λe=>some e
theorem yI (l : World) (e : GVault) (c : Value) (o : Ro l e.Keys [c]) (b : Value) (f : Ro l e.Records [b]) (d : Value) (q : Ro l e.Events [d]) (m : Int) (r : Int) (hF : UL e m = some r) :
  Calls prog 234 [vcV c b d e,vI m].toArray l (Rt l (vI r)):=by
 refine ce func234 ?_
 intro a H
 have I:=M.start l
 unfold UL at hF
 refine Zb (ZY (cs:=cV c b d e) H I Za ld R R λA w a I H=>ZY (cs:=[vI m]) H I Za ld R R λu w a I H=>Zc H R λa H=>Ze (Zb (Zr H R (Ke) λa H=>ZO (v:=b) H R AG R (at_2 I.ra1) λa H=>Ae H Za ld R λa H=>?_)))
 obtain ⟨x,y,hF⟩:=p_1 hF
 refine c_k H I R (cbm func292) (WZ _ e.Records b (I.rdo f) (λt=>Tk t m) 293 [ptr u 0] (cbm func293) (λz n t h i j k zr zhr=>AZ z t h i j k u m (zq I.ra0 n (by simp [cat])) (Ha I.ra0 n (by simp [cat])) zr zhr) x y) λw a I H=>?_
 refine Zc H R λa H=>Ze ?_
 obtain rfl:=o_1 hF
 exact u_2 (kr1 H R R I.kept)
def Vu (b : GVault) (d : Int) : Option (Int × Int) :=
 (VM b).bind λe=>if !e then (some (0,1)) else ((UL b d).bind λc=>if decide (c < 0) then (some (0,4)) else (some (c,0)))
theorem HW (j : World) (i : GVault) (b : Value) (e : Ro j i.Keys [b]) (c : Value) (f : Ro j i.Records [c]) (d : Value) (h : Ro j i.Events [d]) (k : Int) (r : Int × Int) (hF : Vu i k = some r) :
  Calls prog 139 [vcV b c d i,vI k].toArray j (Rt j (Value.tuple [vI r.1,vI r.2].toArray)):=by
 refine ce func139 ?_
 intro a H
 have I:=M.start j
 unfold Vu at hF
 refine Zb (ZY (cs:=cV b c d i) H I Za ld R R λu w a I H=>Zc H R λa H=>Zc H R λa H=>Ze (s_2 (Zb (Zu H R YX R I.ra0 cq λa H=>?_))))
 obtain ⟨n,o,hF⟩:=p_1 hF
 refine c_k H I R cb48 (JD _ i b (I.rdo e) c (I.rdo f) d (I.rdo h) n o) λw a I H=>?_
 refine Qe H R λa H=>Ze ?_
 refine c_if H R hF ?_ ?_
 ·intro l hF
  refine Zb (Zc H R λa H=>Zc H R λa H=>Ze ?_)
  obtain rfl:=o_1 hF
  exact u_2 (ZA (YN H R (Zy H R) (Zy H R) ⟨_,R,R,I.kept⟩))
 intro l hF
 refine t_2 (Zw (Zb (Zu H R YX R I.ra0 cq λa H=>Zd H R λa H=>?_)))
 obtain ⟨q,t,hF⟩:=p_1 hF
 refine c_k H I R (cbm func234) (yI _ i b (I.rdo e) c (I.rdo f) d (I.rdo h) k q t) λw a I H=>?_
 refine Zc H R λa H=>Ze (s_2 (Zb (Zd H R λa H=>Zm H R R R λa H=>Ze ?_)))
 refine c_if H R hF ?_ ?_
 ·intro m hF
  refine Zb (Zc H R λa H=>Zc H R λa H=>Ze ?_)
  obtain rfl:=o_1 hF
  exact u_2 (ZA (YN H R (Zy H R) (Zy H R) ⟨_,R,R,I.kept⟩))
 intro m hF
 refine t_2 (Zw (Zb (Zd H R λa H=>Zc H R λa H=>Zc H R λa H=>Ze ?_)))
 obtain rfl:=o_1 hF
 exact u_2 (YN H R (Zy H R) (Zy H R) ⟨_,R,R,I.kept⟩)
def QL (h : GVault) (x : Int) (y : V16) : Option (GVault × Int) :=
 (Vu h x).bind λi=>if i.2 != 0 then (some ((⟨[],0,[],[],Vector.replicate 32 (0 : UInt8)⟩ : GVault),i.2)) else ((Xn).bind λf=>(WB h).bind λd=>(idx d.Records i.1).bind λb=>((Xg f h b).bind λm=>if !decide (m = b.Tag) then (some true) else ((Wp h y).bind λn=>some n) : Option (Bool)).bind λo=>if o then (some ((⟨[],0,[],[],Vector.replicate 32 (0 : UInt8)⟩ : GVault),5)) else (if (h.Events.length : Int) == 60 then (some ((⟨[],0,[],[],Vector.replicate 32 (0 : UInt8)⟩ : GVault),3)) else ((Xk f h b b.Body).bind λq=>((Z3 h.Keys).bind λt=>some (wr (t - 1),y) : Option (Int × V16)).bind λj=>((WJ f h (⟨b.Number,j.1,j.2,b.Label,b.Body,b.Tag⟩ : GRecord) q).bind λu=>(idx d.Records i.1).bind λz=>some (d.Records.set (i.1).toNat u) : Option ((List GRecord))).bind λk=>((idx k i.1).bind λl=>(Xf f (⟨d.Keys,d.Next,k,d.Events,d.Head⟩ : GVault) (⟨4,x,l.Tag⟩ : GEvent)).bind λc=>some (c.Keys,c.Next,c.Records,c.Events,c.Head,0) : Option (List V16 × Int × List GRecord × List GEvent × V32 × Int)).bind λe=>some ((⟨e.1,e.2.1,e.2.2.1,e.2.2.2.1,e.2.2.2.2.1⟩ : GVault),e.2.2.2.2.2))))
theorem qw (w0 : World) (p0 : GVault) (y : Value) (L : Ro w0 p0.Keys [y]) (B : Value) (W : Ro w0 p0.Records [B]) (C : Value) (N : Ro w0 p0.Events [C]) (p1 : Int) (p2 : V16) (r : GVault × Int) (hF : QL p0 p1 p2 = some r) :
  Calls prog 42 [vcV y B C p0,vI p1,Value.agg (enc p2).toArray].toArray w0 (e_r λv w'=>(∃ y1 y2 y3 : Value,v = (Value.tuple [vcV y1 y2 y3 r.1,vI r.2].toArray) ∧ Fr w0 w' [osl NoB r.1.Keys y1,osl NoB r.1.Records y2,osl NoB r.1.Events y3] ∧ Kept (Old w0) w0 w')):=by
 refine ce func42 ?_
 intro a H
 have I:=M.start w0
 unfold QL at hF
 refine Zb (ZY (cs:=cV y B C p0) H I Za ld R R λb1 w a I H=>ZY (cs:=enc p2) H I Za ld R R λb3 w a I H=>Zx H I YX λb5 w a I H=>Zc H R λa H=>Ze (Zb (Zu H R YX R I.ra2 cq λa H=>Zd H R λa H=>?_)))
 obtain ⟨r7,e8,hF⟩:=p_1 hF
 refine c_k H I R (cbm func139) (HW _ p0 y (I.rdo L) B (I.rdo W) C (I.rdo N) p1 r7 e8) λw a I H=>?_
 refine Zd H R λa H=>ZM H Za ld R R λa H=>ZM H Za ld R R λa H=>Zc H R λa H=>Zc H R λa H=>Ze (s_2 (Zb (Zd H R λa H=>Zm H R R R λa H=>Ze ?_)))
 refine c_if H R hF ?_ ?_
 ·intro b8 hF
  refine Zb (YQ (parts:=[]) (vs:=[]) (cs:=cat xa) H Za ld R R YX qt XL λa H=>Zd H R λa H=>Zk (seg:=cat xa) (cs':=cat xa) H I Za R R R YX cq (q_1 cq cq) (Z0 (cc1 Xr (cc1 (t_1 (0 : Int)) (cc1 Xr (cc1 Xr (cc1 (t_1 _) cc0)))))) (q_2 cq cq) λw a I H=>Zc H R λa H=>Ze ?_)
  have I:=M.nilS (α:=GEvent) NoB noB (M.nilS (α:=GRecord) NoB noB (M.nilS (α:=V16) NoB noB I))
  obtain rfl:=o_1 hF
  have bn : Z8 prog _ _ (.cell 6 79) _:=ZH H R YX R I.ra3 cq R
  have I:=I.pl1.pl2.f_3
  exact u_2 (ZA (YN H R bn (Zy H R) ⟨_,R,xf,xf,xf,R,I.outF (Z1 (Z1 (Z1 Yj))),I.kept⟩))
 intro b8 hF
 refine t_2 (Zw (s_2 ?_))
 obtain ⟨Z,b9,hF⟩:=p_1 hF
 obtain ⟨q,ca,hF⟩:=p_1 hF
 refine Y0 (its:=[raw b5 xy,raw b3 (enc p2),raw b1 (cV y B C p0)]) (mk:=([mkO 0 (λv=>own NoB Z [v]),mkO 2 (λv=>own NoB q (Value.cells v).toList),mkO 3 (λv=>Th v xy)] : Mk)) [24,25,26,11] YJ R R dd_ R H (λu=>M.qE (M.qE (M.qE (M.q0 I.drew u) emO) emO) emO) (q_t ?_ (qsP (λz=>ZB z.E Za ld R YX R (z.M.ra2) cq (kr0 R)) (qsM (pr:=λv=>∃ cs,v = .agg cs) ?_ (q_t ?_ qs0)))) ?_
 ·intro a w A D z
  have H:=z.E
  have hD : D 0 = false:=z.F
  have hM0:=z.M
  have I:=z.M
  refine Zn H R Zeb (Vt _  Z b9) ?_
  rintro _ w a ⟨_,rfl,hFr,hK⟩ H
  have I:=hM0.add hK hFr
  exact ⟨_,_,R,H,M.qFill (mk1:=[]) (mk2:=[_,_]) (f:=(λv=>own NoB Z [v])) I R hD,trivial⟩
 ·intro a w A D z
  have H:=z.E
  have hD : D 2 = false:=z.F
  have hM0:=z.M
  have I:=z.M
  refine Zn H R Zow (Jq _ p0 y (I.rdo L) B (I.rdo W) C (I.rdo N) q ca) ?_
  rintro _ w a ⟨cv,cw,cx,rfl,hFr,hK⟩ H
  have I:=BQ (x:=q) (hM0.add hK hFr) sio sio sio
  exact ⟨_,_,R,H,M.qFill (mk1:=[_]) (mk2:=[_]) (f:=(λv=>own NoB q (Value.cells v).toList)) I R hD,⟨_,R⟩⟩
 ·intro a w A D z
  have H:=z.E
  have hD : D 3 = false:=z.F
  have I:=z.M
  refine Zx H I YX λcy w a I H=>?_
  have I:=I.pack1 (it:=Th _ xy) (λw w' fp ⟨b',e,k⟩ hb=>⟨b',e,XR w w' fp k hb⟩) (λfp k=>⟨_,R,k⟩)
  exact ⟨_,_,R,H,M.qFill (mk1:=[_,_]) (mk2:=[]) (f:=λv=>Th v xy) I R hD,trivial⟩
 intro a w A D H I hG ab
 have d0:=ab 0 dd_
 have d2:=ab 2 dd_
 have d3:=ab 3 dd_
 have I:=(((I.su3 d0).sure (pre:=[_,_,_,_]) d2).sure (pre:=[_,_,_,_,_]) d3).pl
 obtain ⟨_,⟨ac,bo,_⟩,_⟩:=I.head
 have I:=I.pack1 XR (it:=raw ac xy) (λfp ⟨b2,e2,k2⟩=>by rw [bo] at e2; simp [ptr] at e2; subst e2; exact k2)
 obtain ⟨d,n,i,bc,_,_,_⟩:=Jv (I.ro (pre:=[_,_,_,_,_]) noB)
 have a8 : (A 2) = (vcV d n i q):=yi bc (hG 2 d2 _ R).2
 have I:=I.pl5
 have I:=BT (I.recown (congrArg (λv=>(Value.cells v).toList) a8))
 have H:=H.setq (t:=26) R a8
 have H:=H.setq (t:=11) R bo
 refine Zc H R λa H=>?_
 have I:=I.pl3
 refine Zk (seg:=cV d n i q) (cs':=cV d n i q) H I Za R R R YX cq (q_1 cq cq) (Z0 (cc1 (o_4 (I.ro (pre:=[_]) noB)) (cc1 (t_1 (q.Next : Int)) (cc1 (o_4 (I.rn2)) (cc1 (o_4 (I.ro (pre:=[_,_,_]) noB)) (cc1 (t_1 _) cc0)))))) (q_2 cq cq) λw a I H=>Zf (Zw (Zb (Zr H R (Ke) λa H=>ZO (v:=n) H R AG R (at_2 I.ra0) λa H=>Zd H R λa H=>?_)))
 obtain ⟨o,al,hF⟩:=bix hF
 refine Ys H R R p_5 Vd (I.rn2) al.1 λa H=>?_
 have I:=I.pl2.toOsl0
 obtain ⟨cr,I,_⟩:=I.open1 noB al.2
 obtain ⟨_,hx,_⟩:=I.head
 obtain ⟨K,G,_,_,rfl,_,_,_⟩:=qa hx
 have I:=yz I
 refine Zu H R Vd R (I.holeAt (pre:=[_,_])) cq λa H=>Zx H I Vd λaj w a I H=>Zk (seg:=cR K G o) (cs':=cR K G o) H I Za R R R Vd cq (q_1 cq cq) (Z0 (cc1 (t_1 (o.Number : Int)) (cc1 (t_1 (o.Version : Int)) (cc1 (t_1 _) (cc1 (o_4 (I.ro (pre:=[_]) noB)) (cc1 (o_4 (I.rn2)) (cc1 (t_1 _) cc0))))))) (q_2 cq cq) λw a I H=>Ze (s_2 (p_2 ?_))
 obtain ⟨cc,U,O⟩:=p_1 hF
 refine ZG (λa w=>Env 85 a [(1,vI p1),(3,ptr b1 0),(5,ptr b3 0),(6,ptr b5 0),(8,vI r7.1),(10,A 0),(11,ptr ac 0),(12,ptr aj 0),(32,vT cc)] ∧ M (Old w0) w0 w [raw aj (cR K G o),own NoB o.Label [K],own NoB o.Body [G],AH NoB (q.Records : List GRecord) (r7.1).toNat n (cR K G o),raw ac (cV d n i q),own NoB q.Keys [d],own NoB q.Events [i],raw b5 xy,raw b3 (enc p2),raw b1 (cV y B C p0),own NoB Z [A 0]]) ?_ ?_
 ·obtain ⟨bd,bp,U⟩:=p_1 U
  refine Yq (!decide (bd = o.Tag)) (λT=>?_) (λT=>?_)
  ·have U:=Zt U T
   refine Z7 [33,34,35,36,37,38,39,40,41,42,43,44,32] YJ R R dd_ R H I (q_m (λ_=>R) (qsP (λz=>ZB z.E Za ld R YX R (z.M.ra9) cq (kr0 R)) (qsP (λz=>ZB z.E Za ld R Vd R (z.M.ra0) cq (kr0 R)) (qsP (λz=>ZW z.E Za ld R Zgc (Ud _ Z (A 0) (z.M.ro (pre:=[_,_,_,_,_,_,_,_,_,_]) noB) p0 y (z.M.rdo L) B (z.M.rdo W) C (z.M.rdo N) o K (z.M.ro (pre:=[_]) noB) G (z.M.rn2) bd bp) (kc R)) (qsP (λz=>Zo z.E Za ld R (AV) (kr0 R)) (qsP (λz=>ZB z.E Za ld R Yi R (at_5 (z.M.ra0)) (u_1 _) (kr0 R)) (qsP (λz=>Zd0 z.E Za ld R R (K4 p_6 ty5 R false R dd_ (QO t_3)) dd_ (by kernel_rfl) (kr0 R)) (q_m (λ_=>R) (qsP (λz=>Zj z.E R (lkb R T) R dd_ (kr0 R)) (qsP (λz=>Zj z.E R (lkb R T) R dd_ (kr0 R)) (qsP (λz=>Zj z.E R (lkb R T) R dd_ (kr0 R)) (qsP (λz=>Ji z.E Za ld (lkb R T) R (kr0 R)) (qsP (λz=>K3 z.E Za ld R (kr0 R)) qs0))))))))))))) ?_
   ·intro a w u H I
    refine Zf ?_
    obtain rfl:=o_1 U
    refine Zi ?_
    exact ⟨H.s,I⟩
  have U:=Zs U T
  obtain ⟨cd,cf,U⟩:=p_1 U
  refine Z7 [33,34,35,36,37,38,39,40,41,42,43,44,32] YJ R R dd_ R H I (q_m (λ_=>R) (qsP (λz=>ZB z.E Za ld R YX R (z.M.ra9) cq (kr0 R)) (qsP (λz=>ZB z.E Za ld R Vd R (z.M.ra0) cq (kr0 R)) (qsP (λz=>ZW z.E Za ld R Zgc (Ud _ Z (A 0) (z.M.ro (pre:=[_,_,_,_,_,_,_,_,_,_]) noB) p0 y (z.M.rdo L) B (z.M.rdo W) C (z.M.rdo N) o K (z.M.ro (pre:=[_]) noB) G (z.M.rn2) bd bp) (kc R)) (qsP (λz=>Zo z.E Za ld R (AV) (kr0 R)) (qsP (λz=>ZB z.E Za ld R Yi R (at_5 (z.M.ra0)) (u_1 _) (kr0 R)) (qsP (λz=>Zd0 z.E Za ld R R (K4 p_6 ty5 R false R dd_ (QO t_3)) dd_ (by kernel_rfl) (kr0 R)) (q_m (λ_=>R) (qsP (λz=>ZB z.E (Zh z.E R (lkb R T)) dd_ R YX R (z.M.ra9) cq (kr0 R)) (qsP (λz=>ZB z.E (Zh z.E R (lkb R T)) dd_ R ZD R (z.M.ra8) (u_1 _) (kr0 R)) (qsP (λz=>ZW z.E (Zh z.E R (lkb R T)) dd_ R (cbm func131) (JT _ p0 y (z.M.rdo L) B (z.M.rdo W) C (z.M.rdo N) p2 cd cf) (kc R)) (qsP (λz=>KB z.E Za ld (lkb R T) R (kr0 R)) (qsP (λz=>K3 z.E Za ld R (kr0 R)) qs0))))))))))))) ?_
  ·intro a w u H I
   refine Zf ?_
   obtain rfl:=o_1 U
   refine Zi ?_
   exact ⟨H.s,I⟩
 rintro a w ⟨H,I⟩
 refine c_if H R O ?_ ?_
 ·intro bq O
  refine Zb (YQ (parts:=[]) (vs:=[]) (cs:=cat xa) H Za ld R R YX qt XL λa H=>?_)
  have I:=I.pl7
  refine Zk (seg:=cat xa) (cs':=cat xa) H I Za R R R YX cq (q_1 cq cq) (Z0 (cc1 Xr (cc1 (t_1 (0 : Int)) (cc1 Xr (cc1 Xr (cc1 (t_1 _) cc0)))))) (q_2 cq cq) λw a I H=>Zc H R λa H=>Ze ?_
  have I:=M.nilS (α:=GEvent) NoB noB (M.nilS (α:=GRecord) NoB noB (M.nilS (α:=V16) NoB noB ((H0 (x:=o) I.pl10.pl10.pl10.pl10.pl10.pl10.pl7.pl7.pl10.pl10.pl10 siw siw).close0 noB al.2)))
  obtain rfl:=o_1 O
  have br : Z8 prog _ _ (.cell 6 79) _:=ZH H R YX R I.ra4 cq R
  have I:=I.pl1.pl2.f_3
  exact u_2 (YZ (ZA (YN H R br (Zy H R) ⟨_,R,xf,xf,xf,R,I.outF (Z1 (Z1 (Z1 Yj))),I.kept⟩)))
 intro bq O
 refine Zb (Zr H R (HT) λa H=>ZO (v:=C) H R qh R (at_3 I.ra9) λa H=>Yp H R s_6 (I.rd N) λa H=>Zm H R R R λa H=>Zc H R λa H=>Ze ?_)
 refine c_if H R O ?_ ?_
 ·intro bs O
  refine Zb (YQ (parts:=[]) (vs:=[]) (cs:=cat xa) H Za ld R R YX qt XL λa H=>?_)
  have I:=I.pl7
  refine Zk (seg:=cat xa) (cs':=cat xa) H I Za R R R YX cq (q_1 cq cq) (Z0 (cc1 Xr (cc1 (t_1 (0 : Int)) (cc1 Xr (cc1 Xr (cc1 (t_1 _) cc0)))))) (q_2 cq cq) λw a I H=>Zc H R λa H=>Ze ?_
  have I:=M.nilS (α:=GEvent) NoB noB (M.nilS (α:=GRecord) NoB noB (M.nilS (α:=V16) NoB noB ((H0 (x:=o) I.pl10.pl10.pl10.pl10.pl10.pl10.pl7.pl7.pl10.pl10.pl10 siw siw).close0 noB al.2)))
  obtain rfl:=o_1 O
  have bt : Z8 prog _ _ (.cell 6 79) _:=ZH H R YX R I.ra4 cq R
  have I:=I.pl1.pl2.f_3
  exact u_2 (YZ (ZA (YN H R bt (Zy H R) ⟨_,R,xf,xf,xf,R,I.outF (Z1 (Z1 (Z1 Yj))),I.kept⟩)))
 intro bs O
 refine t_2 (Yn (Zw (Zb (Zd H R λa H=>Zu H R YX R I.ra9 cq λa H=>Zu H R Vd R I.ra0 cq λa H=>Zr H R (yk) λa H=>ZO (v:=G) H R Uf R (at_4 I.ra0) λa H=>?_))))
 obtain ⟨ax,cg,O⟩:=p_1 O
 refine Zn H R Znu (Qh _ Z (A 0) (I.ro (pre:=[_,_,_,_,_,_,_,_,_,_]) noB) p0 y (I.rdo L) B (I.rdo W) C (I.rdo N) o K (I.ro (pre:=[_]) noB) G (I.rn2) o.Body G (I.rn2) ax cg) ?_
 rintro u64 w a ⟨_,rfl,hFr,hK⟩ H
 have I:=I.add hK hFr
 refine Zc H R λa H=>Ze ?_
 obtain ⟨ar,ay,bu⟩:=p_1 O
 refine ZG (λa w=>Env 85 a [(1,vI p1),(3,ptr b1 0),(6,ptr b5 0),(8,vI r7.1),(10,A 0),(11,ptr ac 0),(12,ptr aj 0),(13,u64)] ∧ M (Old w0) w0 w [osl NoB ax u64,raw aj (cat [[vI o.Number],[vI ar.1],enc ar.2,[K],[G],enc o.Tag]),own NoB o.Label [K],own NoB o.Body [G],AH NoB (q.Records : List GRecord) (r7.1).toNat n (cR K G o),raw ac (cV d n i q),own NoB q.Keys [d],own NoB q.Events [i],raw b5 xy,raw b1 (cV y B C p0),own NoB Z [A 0]]) ?_ ?_
 ·have I:=I.pl1
  obtain ⟨ag,ch,ay⟩:=p_1 ay
  refine Y0 (its:=[osl NoB ax u64,own NoB o.Label [K],own NoB o.Body [G],AH NoB (q.Records : List GRecord) (r7.1).toNat n (cR K G o),raw ac (cV d n i q),own NoB q.Keys [d],own NoB q.Events [i],raw b5 xy,raw b3 (enc p2),raw b1 (cV y B C p0),own NoB Z [A 0]]) (mk:=([mkT 6 (raw aj (cR K G o)) (raw aj (cat [[vI o.Number],[vI (wr (ag - 1))],enc o.Nonce,[K],[G],enc o.Tag]))] : Mk)) [58,59,60,61,62,63,91] YJ R R dd_ R H (λu=>M.qT (M.q0 I.drew u)) (qsP (λz=>Zo z.E Za ld R (KV) (kr0 R)) (qsP (v:=y) ?_ (qsP (v:=(vI ag)) ?_ (qsP (v:=(vI (wr (ag - 1)))) (λz=>Ye z.E Za ld R R R (kr0 R)) (qsP (λz=>ZB z.E Za ld R ZD R (z.M.ra8) (u_1 _) (kr0 R)) (qsP (λz=>Zo z.E Za ld R (Am) (kr0 R)) (q_t ?_ qs0))))))) ?_
  ·intro a w az D z
   have H:=z.E
   have hD : D 1 = false:=z.F
   have I:=z.M.togA (pre:=[_,_,_,_,_,_,_,_,_,_,_]) (Kb (j:=6) (k:=4) z.c R R R hD)
   exact ZO (v:=y) H R BZ R (at_0 I.ra9) λa H=>⟨t_6 _ _,_,R,H⟩
  ·intro a w az D z
   have H:=z.E
   have hD : D 2 = false:=z.F
   have I:=z.M.togA (pre:=[_,_,_,_,_,_,_,_,_,_,_]) (Kb (j:=6) (k:=2) z.c R R R hD)
   refine Zn H R y8 (YI _ p0.Keys y (I.rdo L) ag ch) ?_
   rintro v w a ⟨rfl,hK⟩ H
   exact ⟨hK,_,R,H⟩
  ·intro a w az D z
   have H:=z.E
   have hD : D 6 = false:=z.F
   have I:=(z.M.togA (pre:=[_,_,_,_,_,_,_,_,_,_,_]) hD).pl11
   exact Zk (seg:=[vI (wr (ag - 1))]) H I Za R R R ty2 R (Wl (pre:=[[vI o.Number]]) ck R) (t_1 (wr (ag - 1) : Int)) (YL (pre:=[[vI o.Number]]) ck R) λw a I H=>⟨undef,_,R,Env.dummy H dd_,M.qTog (mk1:=[]) (mk2:=[]) I R,trivial⟩
  intro a w az D H I hG ab
  have d6:=ab 6 dd_
  have I:=I.togB (pre:=[_,_,_,_,_,_,_,_,_,_,_]) d6
  refine Zr H R (Zfu) λa H=>?_
  have I:=I.pl11
  refine Zk (seg:=enc p2) H I Za R R R ZD (u_1 _) (Wl (pre:=[[vI o.Number],[vI (wr (ag - 1))]]) ck flq) (t_1 _) (YL (pre:=[[vI o.Number],[vI (wr (ag - 1))]]) ck flq) λw a I H=>Zf ?_
  obtain rfl:=o_1 ay
  refine Zi ?_
  have I:=M.fst (l:=[_,_,_,_,_,_,_,_,_,_,_]) I.pl11.pl11.pl10.pl10.pl10.pl10.pl10.pl10.pl10.pl9.pl10
  exact ⟨H.s,I⟩
 rintro a w ⟨H,I⟩
 obtain ⟨be,ah,bv⟩:=p_1 bu
 refine ZG (λa w=>∃ ak : Value,Env 85 a [(1,vI p1),(6,ptr b5 0),(8,vI r7.1),(10,A 0),(11,ptr ac 0)] ∧ M (Old w0) w0 w [raw ac (cV d ak i q),own NoB q.Keys [d],own NoB q.Events [i],raw b5 xy,own NoB Z [A 0],osl NoB be ak]) ?_ ?_
 ·have I:=I.pl3.pl3
  have I:=I.packL (m:=[_,_]) (it:=qF NoB [_,_]) (Zb1.mono noB) (λfp h=>XN.reloc h (He (He Yj)))
  obtain ⟨ae,ci,ah⟩:=p_1 ah
  refine Y0 (its:=[osl NoB ax u64,raw aj (cat [[vI o.Number],[vI ar.1],enc ar.2,[K],[G],enc o.Tag]),AH NoB (q.Records : List GRecord) (r7.1).toNat n (cR K G o),raw ac (cV d n i q),own NoB q.Keys [d],own NoB q.Events [i],raw b5 xy,raw b1 (cV y B C p0),own NoB Z [A 0]]) (mk:=([mkU 7 (qF NoB [own NoB o.Label [K],own NoB o.Body [G]]) (λv=>own NoB ae (Value.cells v).toList)] : Mk)) [65,66,67,68,69,70,71,72] YJ R R dd_ R H (λu=>M.qS (M.q0 I.drew u) λ_=>R) (qsP (λz=>Zo z.E Za ld R (Ke) (kr0 R)) (qsP (λz=>ZL (v:=n) z.E Za ld R AG R (at_2 (z.M.ra3)) (kr0 R)) (q_m (λ_=>R) (q_m (λ_=>R) (qsP (λz=>ZB z.E Za ld R YX R (z.M.ra7) cq (kr0 R)) (qsP (λz=>ZB z.E Za ld R Vd R (z.M.ra1) cq (kr0 R)) (q_m (λ_=>R) (qsM (pr:=λv=>∃ cs,v = .agg cs) ?_ qs0)))))))) ?_
  ·intro a w a9 D z
   have H:=z.E
   have hD : D 7 = false:=z.F
   have hM0:=z.M
   have I:=(z.M.togA (pre:=[_,_,_,_,_,_,_,_,_]) hD).pl
   have I:=I.unpackL (m:=[_,_]) (λfp h=>XN.mono h (λ_ h=>h.elim))
   simp only [l_c,l_n] at I
   have I:=((((I.pl2.toOwn noB).pl2).pl2).pl2).pl10
   have hM0:=I
   obtain ⟨S81,a0,bw,I,bg⟩:=M.freeze [_,_,_] I noB
   obtain ⟨S85,am,bx,I,bh⟩:=M.freeze [_,_] I noB
   refine Zn H R (cbm func134) (J8 _ _ _ _ Z (A 0) (Rep.ro bw (λb hb=>hb.elim (λh=>by cases h) (am b))) p0 y (hM0.rdw L (λb hb=>am b (a0 b (hb)))) B (hM0.rdw W (λb hb=>am b (a0 b (hb)))) C (hM0.rdw N (λb hb=>am b (a0 b (hb)))) (⟨o.Number,ar.1,ar.2,o.Label,o.Body,o.Tag⟩ : GRecord) K G ax u64 bx I ae ci) ?_
   rintro v w a ⟨u89,c3,rfl,I⟩ H
   have I:=bg _ [_,_,_] (He (He (He Yj))) (bh _ [_,_] (He (He Yj)) I)
   simp only [l_c,l_n] at I
   have I:=((((((((((H0 (x:=ae) I.pl1.toOsl0.pl3.pl3 siw siw).pl2).pl9).pl9).pl9).pl9).pl9).pl9).pl9).pl9).pl9
   exact ⟨_,_,R,H,M.qTogS (mk1:=([] : Mk)) (mk2:=([] : Mk)) I R Znw,⟨_,R⟩⟩
  intro a w a9 D H I hG ab
  have d7:=ab 7 dd_
  have I:=I.togB (pre:=[_,_,_,_,_,_,_,_,_]) d7
  obtain ⟨X,Y,bc,_,_⟩:=TF (I.ro (pre:=[_,_,_,_,_,_,_,_,_]) noB)
  have ba : (a9 7) = (vcR X Y ae):=yi bc (hG 7 d7 _ R).2
  have I:=I.pl9
  have I:=yz (I.recown (congrArg (λv=>(Value.cells v).toList) ba))
  have H:=H.setq (t:=72) R ba
  obtain ⟨c4,bz,ah⟩:=bix ah
  refine Zp7 (pre:=[_,_,_,_]) H I Za ld R R p_5 Vd bz.1 λa H=>?_
  have I:=I.pl4
  refine Zoy (k0:=0) (seg:=cR X Y ae) (cs':=cR X Y ae) H I noB Za R R R Vd cq (Z0 (cc1 (t_1 (ae.Number : Int)) (cc1 (t_1 (ae.Version : Int)) (cc1 (t_1 _) (cc1 (o_4 (I.ro (pre:=[_]) noB)) (cc1 (o_4 (I.rn2)) (cc1 (t_1 _) cc0))))))) (q_1 cq cq) (q_2 cq cq) λw a I H=>?_
  have I:=(H0 (x:=ae) I.pl10.pl10.pl10.pl10.pl10.pl10.pl10.pl10.pl8.pl10.pl10 siw siw).close1 noB
  refine Zf ?_
  obtain rfl:=o_1 ah
  refine Zi ?_
  have I:=I.pl8.pl7.pl7.pl7.pl7.f_6
  exact ⟨n,H.s,I⟩
 rintro a w ⟨ak,H,I⟩
 obtain ⟨au,ai,bi⟩:=p_1 bv
 refine ZG (λa w=>∃ an ao ap : Value,Env 85 a [(6,ptr b5 0),(7,vI au.2.2.2.2.2)] ∧ M (Old w0) w0 w [raw b5 (cat [[an],[vI au.2.1],[ao],[ap],enc au.2.2.2.2.1]),osl NoB au.1 an,osl NoB au.2.2.1 ao,osl NoB au.2.2.2.1 ap]) ?_ ?_
 ·obtain ⟨aa,a1,ai⟩:=bix ai
  refine Z7 [74,75,76,77,78,79,80,81,82,83] YJ R R dd_ R H I (q_m (λ_=>R) (qsP (λz=>ZB z.E Za ld R YX R (z.M.ra0) cq (kr0 R)) (q_m (λ_=>R) (qsP (λz=>Zo z.E Za ld R (Ke) (kr0 R)) (qsP (λz=>ZL (v:=ak) z.E Za ld R AG R (at_2 (z.M.ra0)) (kr0 R)) (q_m (λ_=>R) (qsP (λz=>XD z.E Za ld R R p_5 Vd (z.M.sl (pre:=[_,_,_,_,_]) noB) a1.1 (kr0 R)) (qsP (λz=>Zo z.E Za ld R (AV) (kr0 R)) (qsP (v:=(Value.agg (enc aa.Tag).toArray)) ?_ (qsP (λz=>YQ (parts:=[(0,.const (vI 4)),(1,.tmp 76),(2,.tmp 82)]) (vs:=[(0,vI 4),(1,vI p1),(2,Value.agg (enc aa.Tag).toArray)]) (cs:=cat [[vI 4],[vI p1],enc aa.Tag]) z.E Za ld R R KN Zqd (Yk (pre:=[]) (seg:=[vI 0]) (seg':=[vI 4]) (post:=[[vI 0],enc xd]) R cl0 R R R (Yk (pre:=[[vI 4]]) (seg:=[vI 0]) (seg':=[vI p1]) (post:=[enc xd]) R ck R R R (Yk (pre:=[[vI 4],[vI p1]]) (seg:=enc xd) (seg':=enc aa.Tag) (post:=[]) R ck (u_1 _) (u_1 _) R XL))) (kr0 R)) qs0)))))))))) ?_
  ·intro a w u D z
   have H:=z.E
   have I : M (Old w0) w0 w [raw ac (cV d ak i q),own NoB q.Keys [d],own NoB q.Events [i],raw b5 xy,own NoB Z [A 0],osl NoB be ak]:=z.M
   obtain ⟨cj,bj,bk⟩:=V2 (I.sl (pre:=[_,_,_,_,_]) noB) a1.2
   obtain ⟨b0,b4,rfl,_,_⟩:=TF bj
   exact Zu H R Yi R (at_5 bk) (u_1 _) λa H=>⟨t_6 _ _,_,R,H⟩
  intro a w u H I
  have I:=I.pl1.toOsl0.pl2.toOsl0.pl5.pl2.pl5
  have hM0:=I
  obtain ⟨S118,cl,bl,I,a5⟩:=M.freeze [_,_,_] I noB
  obtain ⟨aq,b6,ai⟩:=p_1 ai
  refine Zn H R Zp5 (KY _ _ _ _ Z (A 0) bl (⟨q.Keys,q.Next,be,q.Events,q.Head⟩ : GVault) d ak i (⟨4,p1,aa.Tag⟩ : GEvent) I aq b6) ?_
  rintro v w a ⟨a2,a3,a4,rfl,I⟩ H
  have I:=a5 _ [_,_,_] (Z1 (Z1 (Z1 Yj))) I
  simp only [l_c,l_n] at I
  have I:=I.pl5
  refine Zk (seg:=cV a2 a3 a4 aq) (cs':=cV a2 a3 a4 aq) H I Za R R R YX cq (q_1 cq cq) (Z0 (cc1 (o_4 (I.sl2)) (cc1 (t_1 (aq.Next : Int)) (cc1 (o_4 (I.sl3)) (cc1 (o_4 (I.sl4)) (cc1 (t_1 _) cc0)))))) (q_2 cq cq) λw a I H=>Zc H R λa H=>Zf ?_
  obtain rfl:=o_1 ai
  refine Zi ?_
  have I:=I.pl4.pl4.pl4.pl3.f_4
  exact ⟨a2,a3,a4,H.s,I⟩
 rintro a w ⟨an,ao,ap,H,I⟩
 obtain rfl:=o_1 bi
 have bm : Z8 prog _ _ (.cell 6 79) _:=ZH H R YX R I.ra0 cq R
 have I:=I.pl3.pl3.pl3.f_3
 exact u_2 (YN H R bm (Zy H R) ⟨_,R,an,ao,ap,R,I.outF (Z1 (Z1 (Z1 Yj))),I.kept⟩)
def Tl (c : GVault) (j : Int) : Option (List UInt8 × Int) :=
 (Vu c j).bind λd=>if d.2 != 0 then (some ([],d.2)) else ((Xn).bind λi=>(idx c.Records d.1).bind λb=>((Xg i c b).bind λe=>some (!decide (e = b.Tag)) : Option (Bool)).bind λf=>if f then (some ([],5)) else ((Xk i c b b.Body).bind λh=>some (h,0)))
theorem jH (B : World) (x : GVault) (b : Value) (m : Ro B x.Keys [b]) (c : Value) (h : Ro B x.Records [c]) (i : Value) (n : Ro B x.Events [i]) (X : Int) (r : List UInt8 × Int) (hF : Tl x X = some r) :
  Calls prog 43 [vcV b c i x,vI X].toArray B (e_r λv w'=>(∃ y1 : Value,v = (Value.tuple [y1,vI r.2].toArray) ∧ Fr B w' [osl NoB r.1 y1] ∧ Kept (Old B) B w')):=by
 refine ce func43 ?_
 intro a H
 have I:=M.start B
 unfold Tl at hF
 refine Zb (ZY (cs:=cV b c i x) H I Za ld R R λY w a I H=>Zc H R λa H=>Zc H R λa H=>Ze (Zb (Zu H R YX R I.ra0 cq λa H=>Zd H R λa H=>?_)))
 obtain ⟨r3,e4,hF⟩:=p_1 hF
 refine c_k H I R (cbm func139) (HW _ x b (I.rdo m) c (I.rdo h) i (I.rdo n) X r3 e4) λw a I H=>?_
 refine Zd H R λa H=>ZM H Za ld R R λa H=>ZM H Za ld R R λa H=>Zc H R λa H=>Zc H R λa H=>Ze (s_2 (Zb (Zd H R λa H=>Zm H R R R λa H=>Ze ?_)))
 refine c_if H R hF ?_ ?_
 ·intro Z hF
  refine Zb (Zd H R λa H=>Zc H R λa H=>Zc H R λa H=>Ze ?_)
  have I:=M.nilS (α:=UInt8) NoB noB I
  obtain rfl:=o_1 hF
  have I:=I.f_1
  exact u_2 (ZA (YN H R (Zy H R) (Zy H R) ⟨_,R,xf,R,I.outF (Z1 Yj),I.kept⟩))
 intro Z hF
 refine t_2 (Zw (s_2 ?_))
 obtain ⟨N,e9,hF⟩:=p_1 hF
 obtain ⟨d,y,hF⟩:=bix hF
 obtain ⟨aj,O,T⟩:=V2 h y.2 -- ^
 obtain ⟨o,l,rfl,K,C⟩:=TF O -- ^
 refine Y0 (its:=[raw Y (cV b c i x)]) (mk:=([mkO 0 (λv=>own NoB N [v]),mkO 6 (λv=>Th v xm)] : Mk)) [19,20,21,22,23,24,9,8] YJ R R dd_ R H (λu=>M.qE (M.qE (M.q0 I.drew u) emO) emO) (q_t ?_ (qsP (λz=>Zo z.E Za ld R (Ke) (kr0 R)) (qsP (λz=>ZL (v:=c) z.E Za ld R AG R (at_2 (z.M.ra0)) (kr0 R)) (q_m (λ_=>R) (qsP (λz=>XD z.E Za ld R R p_5 Vd (z.M.rd h) y.1 (kr0 R)) (qsP (λz=>ZB z.E Za ld R Vd R (z.M.atk T (Qi h y.2)) cq (kr0 R)) (q_t ?_ (qsD (ds:=[0]) (f:=λus=>(us.getD 0 undef)) ?_ qs0)))))))) ?_
 ·intro a w q D z
  have H:=z.E
  have hD : D 0 = false:=z.F
  have hM0:=z.M
  have I:=z.M
  refine Zn H R Zeb (Vt _  N e9) ?_
  rintro _ w a ⟨_,rfl,hFr,hK⟩ H
  have I:=hM0.add hK hFr
  exact ⟨_,_,R,H,M.qFill (mk1:=[]) (mk2:=[_]) (f:=(λv=>own NoB N [v])) I R hD,trivial⟩
 ·intro a w q D z
  have H:=z.E
  have hD : D 6 = false:=z.F
  have I:=z.M
  refine Zx H I Vd λan w a I H=>?_
  have I:=I.pack1 (it:=Th _ xm) (λw w' fp ⟨b',e,k⟩ hb=>⟨b',e,XR w w' fp k hb⟩) (λfp k=>⟨_,R,k⟩)
  exact ⟨_,_,R,H,M.qFill (mk1:=[_]) (mk2:=[]) (f:=λv=>Th v xm) I R hD,trivial⟩
 ·intro a w q D z
  have H:=z.E
  have d0 : D 0 = true:=z.p 0 _ R R
  exact Zc H R λa H=>⟨t_6 _ _,Zfe d0 Zg1,_,R,H⟩
 intro a w q D H I hG G
 have d0:=G 0 dd_
 have d6:=G 6 dd_
 have I:=((I.sure (pre:=[_]) d0).sure (pre:=[_,_]) d6).pl
 obtain ⟨_,⟨L,U,_⟩,_⟩:=I.head
 have I:=I.pack1 XR (it:=raw L xm) (λfp ⟨b2,e2,k2⟩=>by rw [U] at e2; simp [ptr] at e2; subst e2; exact k2)
 have H:=H.setq (t:=9) R U
 refine Zk (seg:=cR o l d) (cs':=cR o l d) H I Za R R R Vd cq (q_1 cq cq) (Z0 (cc1 (t_1 (d.Number : Int)) (cc1 (t_1 (d.Version : Int)) (cc1 (t_1 _) (cc1 (o_4 (I.rd K)) (cc1 (o_4 (I.rd C)) (cc1 (t_1 _) cc0))))))) (q_2 cq cq) λw a I H=>Zf (Zw (s_2 ?_))
 obtain ⟨ac,A,j⟩:=p_1 hF
 refine ZG (λa w=>Env 38 a [(2,ptr Y 0),(8,q 0),(9,ptr L 0),(31,vT ac)] ∧ M (Old B) B w [raw L (cR o l d),raw Y (cV b c i x),own NoB N [q 0]]) ?_ ?_
 ·obtain ⟨ad,ae,A⟩:=p_1 A
  refine Z7 [25,26,27,28,29,30,31] YJ R R dd_ R H I (q_m (λ_=>R) (qsP (λz=>ZB z.E Za ld R YX R (z.M.ra1) cq (kr0 R)) (qsP (λz=>ZB z.E Za ld R Vd R (z.M.ra0) cq (kr0 R)) (qsP (λz=>ZW z.E Za ld R Zgc (Ud _ N (q 0) (z.M.rn2) x b (z.M.rdo m) c (z.M.rdo h) i (z.M.rdo n) d o (z.M.rdo K) l (z.M.rdo C) ad ae) (kc R)) (qsP (λz=>Zo z.E Za ld R (AV) (kr0 R)) (qsP (λz=>ZB z.E Za ld R Yi R (at_5 (z.M.ra0)) (u_1 _) (kr0 R)) (qsP (λz=>Zd0 z.E Za ld R R (K4 p_6 ty5 R false R dd_ (QO t_3)) dd_ (by kernel_rfl) (kr0 R)) qs0))))))) ?_
  ·intro a w u H I
   refine Zf ?_
   obtain rfl:=o_1 A
   refine Zi ?_
   exact ⟨H.s,I⟩
 rintro a w ⟨H,I⟩
 refine c_if H R j ?_ ?_
 ·intro W j
  refine Zb (Zc H R λa H=>Zc H R λa H=>Ze ?_)
  have I:=M.nilS (α:=UInt8) NoB noB I
  obtain rfl:=o_1 j
  have I:=I.f_1
  exact u_2 (ZA (YN H R (Zy H R) (Zy H R) ⟨_,R,xf,R,I.outF (Z1 Yj),I.kept⟩))
 intro W j
 refine t_2 (Zw (Zb (Zd H R λa H=>Zu H R YX R I.ra1 cq λa H=>Zu H R Vd R I.ra0 cq λa H=>Zr H R (yk) λa H=>ZO (v:=l) H R Uf R (at_4 I.ra0) λa H=>?_)))
 obtain ⟨af,ag,j⟩:=p_1 j
 refine Zn H R Znu (Qh _ N (q 0) (I.rn2) x b (I.rdo m) c (I.rdo h) i (I.rdo n) d o (I.rdo K) l (I.rdo C) d.Body l (I.rdo C) af ag) ?_
 rintro ah w a ⟨_,rfl,hFr,hK⟩ H
 have I:=I.add hK hFr
 refine Zc H R λa H=>Zc H R λa H=>Ze ?_
 obtain rfl:=o_1 j
 have I:=I.f_1
 exact u_2 (YN H R (Zy H R) (Zy H R) ⟨_,R,ah,R,I.outF (Z1 Yj),I.kept⟩)
def T3 (i : List GEvent) (c : List (Int × V32) × Int) : Option (Fl (List (Int × V32) × Int) (List (Int × V32))) :=
 if decide (c.2 < (i.length : Int)) then (((idx i c.2).bind λb=>((if b.Kind == 1 then (some true) else (if b.Kind == 4 then (some ((X7 c.1 b.Number).isSome)) else (some false)) : Option (Bool)).bind λd=>(if d then (some (KR c.1 b.Number b.Tag)) else (if b.Kind == 2 then (some (HU c.1 b.Number)) else (some c.1)) : Option ((List (Int × V32)))).bind λe=>some e : Option ((List (Int × V32)))).bind λf=>some f : Option ((List (Int × V32)))).bind λh=>some (Fl.nx (h,wr (c.2 + 1)))) else (some (Fl.ex c.1))
def QF (b : List GEvent) : Option ((List (Int × V32))) :=
 (ZK (T3 b) (([] : (List (Int × V32))),0)).bind λc=>some c
theorem qJ (j : World) (t : List GEvent) (h : Value) (k : Ro j t [h]) (r : xj) (hF : QF t = some r) :
  Calls prog 142 [h].toArray j (e_r λv w'=>(∃ l : Nat,v = (Value.map (some l)) ∧ Fr j w' [U1 xl (TD (λx : V32=>Value.agg (enc x).toArray)) (r : xj) l] ∧ Kept (Old j) j w')):=by
 refine ce func142 ?_
 intro a H
 have I:=M.start j
 unfold QF at hF
 refine Zb (Zc H R λa H=>Ze (Zb (Zd3 (κ:=Int) (α:=V32) (S:=NoB) xl (J6 (vv:=(λx : V32=>Value.agg (enc x).toArray))) H I noB Za ld λl w a I H=>Zc H R λa H=>Ze (s_2 (Zb (Zd H R λa H=>Yp H R s_6 (I.rd k) λa H=>Zd H R λa H=>Ze ?_))))))
 obtain ⟨X,K,L⟩:=p_1 hF
 refine ZX (λa w=>Env 48 a [(3,Value.map (some l))] ∧ M (Old j) j w [U1 xl (TD (λx : V32=>Value.agg (enc x).toArray)) (X : xj) l]) ?_ ?_
 ·refine p_2 ?_
  refine ZN (λ(o : List (Int × V32) × Int) a w=>Env 48 a [(3,Value.map (some l)),(9,h),(10,vI (t.length : Int)),(11,vI o.2)] ∧ M (Old j) j w [U1 xl (TD (λx : V32=>Value.agg (enc x).toArray)) (o.1 : xj) l]) K ⟨H.s,I⟩ ?_
  rintro o a w ⟨H,I⟩ Z m N
  unfold T3 at m
  refine Zb (Zm H R R R λa H=>Ze (s_2 ?_))
  refine c_if H R m ?_ ?_
  ·intro u m
   refine t_2 (Zw ?_)
   obtain ⟨O,n,y⟩:=p_1 m
   refine ZG (λa w=>Env 48 a [(3,Value.map (some l)),(9,h),(10,vI (t.length : Int)),(11,vI o.2)] ∧ M (Old j) j w [U1 xl (TD (λx : V32=>Value.agg (enc x).toArray)) (O : xj) l]) ?_ ?_
   ·refine p_2 (Zb ?_)
    obtain ⟨b,q,n⟩:=bix n
    refine Ys H R R s_6 KN (I.rd k) q.1 λa H=>Zu H R KN R (Xx (I.rd k) q.2) cq λa H=>Zx H I KN λz w a I H=>Zk (seg:=cat [[vI b.Kind],[vI b.Number],enc b.Tag]) (cs':=cat [[vI b.Kind],[vI b.Number],enc b.Tag]) H I Za R R R KN cq (q_1 cq cq) (Z0 (cc1 (t_1 (b.Kind : Int)) (cc1 (t_1 (b.Number : Int)) (cc1 (t_1 _) cc0)))) (q_2 cq cq) λw a I H=>Ze (Zb (Zd H R λa H=>Zr H R (yL) λa H=>ZO (v:=(vI b.Number)) H R ty2 R (at_1 I.ra0) λa H=>kG (pre:=[_]) (zero:=xd) (HK t_4) H I Za ld R R t_7 (Znj (by kernel_rfl) _) λa H=>Zd H R λa H=>ZM H Za ld R R λa H=>ZM H Za ld R R λa H=>Zx H I Yi λY w a I H=>?_))
    refine s_w ((X7 o.1 b.Number).getD xd) H I Za R R R Yi λw a I H=>Zc H R λa H=>Ze ?_
    obtain ⟨T,A,B⟩:=p_1 n
    refine ZX (λa w=>Env 48 a [(3,Value.map (some l)),(9,h),(10,vI (t.length : Int)),(11,vI o.2)] ∧ M (Old j) j w [U1 xl (TD (λx : V32=>Value.agg (enc x).toArray)) (T : xj) l]) ?_ ?_
    ·refine p_2 ?_
     obtain ⟨U,e,C⟩:=p_1 A
     refine ZG (λa w=>Env 48 a [(3,Value.map (some l)),(5,ptr z 0),(9,h),(10,vI (t.length : Int)),(11,vI o.2),(22,vT U)] ∧ M (Old j) j w [raw z (cat [[vI b.Kind],[vI b.Number],enc b.Tag]),U1 xl (TD (λx : V32=>Value.agg (enc x).toArray)) (o.1 : xj) l]) ?_ ?_
     ·refine s_1 (Zr H R (jl) λa H=>ZO (v:=(vI b.Kind)) H R ty2 R (at_0 I.ra1) λa H=>Zm H R R R λa H=>Zd H R λa H=>?_)
      refine Yq (b.Kind == 1) (λd=>?_) (λd=>?_)
      ·have e:=Zt e d
       refine k_s H d R R R λa H=>k_s H d R R R λa H=>k_s H d R R R λa H=>k_s H d R R R λa H=>JK H R R dd_ λa H=>k_s H d R R R λa H=>Z2 H (lkb R d) R λa H=>Zc H R λa H=>Zf ?_
       obtain rfl:=o_1 e
       refine Zi ?_
       have I:=I.pl2.pl2.f_2
       exact ⟨H.s,I⟩
      have e:=Zs e d
      refine Zo H (Zh H R (lkb R d)) dd_ R (jl) λa H=>ZL (v:=(vI b.Kind)) H (Zh H R (lkb R d)) dd_ R ty2 R (at_0 I.ra1) λa H=>Ye H (Zh H R (lkb R d)) dd_ R R R λa H=>Zl H (Zh H R (lkb R d)) dd_ R λa H=>?_
      refine Yq (b.Kind == 4) (λi=>?_) (λi=>?_)
      ·have e:=Zt e i
       refine Zl H (Zh H R (lkb R i)) dd_ R λa H=>Ji H (Zh H R (lkb R d)) dd_ (lkb R i) R λa H=>ZZ H (lkb R d) R λa H=>Zc H R λa H=>Zf ?_
       obtain rfl:=o_1 e
       refine Zi ?_
       have I:=I.pl2.pl2.f_2
       exact ⟨H.s,I⟩
      have e:=Zs e i
      refine k_s H i R R R λa H=>KB H (Zh H R (lkb R d)) dd_ (lkb R i) R λa H=>ZZ H (lkb R d) R λa H=>Zc H R λa H=>Zf ?_
      obtain rfl:=o_1 e
      refine Zi ?_
      have I:=I.pl2.pl2.f_2
      exact ⟨H.s,I⟩
     rintro a w ⟨H,I⟩
     obtain ⟨W,f,E⟩:=p_1 C
     refine ZX (λa w=>Env 48 a [(3,Value.map (some l)),(9,h),(10,vI (t.length : Int)),(11,vI o.2)] ∧ M (Old j) j w [U1 xl (TD (λx : V32=>Value.agg (enc x).toArray)) (W : xj) l]) ?_ ?_
     ·refine c_if H R f ?_ ?_
      ·intro F f
       refine s_1 (Zd H R λa H=>Zr H R (yL) λa H=>ZO (v:=(vI b.Number)) H R ty2 R (at_1 I.ra0) λa H=>Zr H R (Zk2) λa H=>Zu H R Yi R (at_2 I.ra0) (u_1 _) λa H=>?_)
       have I:=I.pl1
       refine jq (c:=b.Tag) (HK t_4) H I Za R R R t_7 λw a I H=>Zf ?_
       obtain rfl:=o_1 f
       refine Zi ?_
       have I:=I.f_1
       exact ⟨H.s,I⟩
      intro F f
      refine Zb (Zr H R (jl) λa H=>ZO (v:=(vI b.Kind)) H R ty2 R (at_0 I.ra0) λa H=>Zm H R R R λa H=>Zc H R λa H=>Ze ?_)
      refine c_if H R f ?_ ?_
      ·intro G f
       refine s_1 (Zd H R λa H=>Zr H R (yL) λa H=>ZO (v:=(vI b.Number)) H R ty2 R (at_1 I.ra0) λa H=>?_)
       have I:=I.pl1
       refine Zoz (HK t_4) H I Za R R t_7 λw a I H=>Zf ?_
       obtain rfl:=o_1 f
       refine Zi ?_
       have I:=I.f_1
       exact ⟨H.s,I⟩
      intro G f
      refine t_2 ?_
      obtain rfl:=o_1 f
      refine Zi ?_
      have I:=I.pl1.f_1
      exact ⟨H.s,I⟩
     rintro a w ⟨H,I⟩
     refine Yn ?_
     obtain rfl:=o_1 E
     refine Zi ?_
     exact ⟨H.s,I⟩
    rintro a w ⟨H,I⟩
    refine Yn ?_
    obtain rfl:=o_1 B
    refine Zi ?_
    exact ⟨H.s,I⟩
   rintro a w ⟨H,I⟩
   refine s_1 (Zm H R R R λa H=>Zd H R λa H=>Zf (Zi ?_))
   exact ⟨_,ois y,H.s,I⟩
  intro u m
  refine s_3 (Zp (Zp (Yv ?_)))
  obtain rfl:=N _ (ois m)
  refine Zi ?_
  exact ⟨H.s,I⟩
 rintro a w ⟨H,I⟩
 refine Zw (Zb (Zd H R λa H=>Zc H R λa H=>Ze ?_))
 obtain rfl:=o_1 L
 exact u_2 (ZT H R (Zy H R) ⟨_,R,_,R,I.outF (locNM Yj),I.kept⟩)
def UD (d : GVault) (b : List (Int × V32) × Int × List Int) : Option (Fl (List (Int × V32) × Int × List Int) (List (Int × V32) × List Int)) :=
 if decide (b.2.1 < (d.Records.length : Int)) then ((idx d.Records b.2.1).bind λc=>(app 8 b.2.2 ([c.Number] : List Int)).bind λe=>some (Fl.nx ((KR b.1 c.Number c.Tag),wr (b.2.1 + 1),b.2.2 ++ ([c.Number] : List Int)))) else (some (Fl.ex (b.1,b.2.2)))
def TY (d : (List (Int × V32))) (e : List (Int × V32) × List Int) (b : List (List Int) × Int) : Option (Fl (List (List Int) × Int) (List (List Int))) :=
 if decide (b.2 < ((Lib.compact (Ur (e.2 ++ (d.map (·.1))))).length : Int)) then (((idx (Lib.compact (Ur (e.2 ++ (d.map (·.1))))) b.2).bind λc=>(if !((X7 d c).isSome) then (some true) else (if !((X7 e.1 c).isSome) then (some true) else (some (!decide (((X7 d c).getD (Vector.replicate 32 (0 : UInt8))) = ((X7 e.1 c).getD (Vector.replicate 32 (0 : UInt8))))))) : Option (Bool)).bind λf=>(if f then ((app 24 b.1 ([([2,c] : List Int)] : List (List Int))).bind λj=>some (b.1 ++ ([([2,c] : List Int)] : List (List Int)))) else (some b.1) : Option ((List (List Int)))).bind λh=>some h : Option ((List (List Int)))).bind λi=>some (Fl.nx (i,wr (b.2 + 1)))) else (some (Fl.ex b.1))
def UG (i : GVault) (k : (Ref Gengine)) (b : Int × List (List Int)) : Option (Fl (Int × List (List Int)) (List (List Int))) :=
 if decide (b.1 < (i.Records.length : Int)) then (((idx i.Records b.1).bind λc=>((Xg k i c).bind λd=>some (!decide (d = c.Tag)) : Option (Bool)).bind λe=>(if e then ((app 24 b.2 ([([3,c.Number] : List Int)] : List (List Int))).bind λj=>some (b.2 ++ ([([3,c.Number] : List Int)] : List (List Int)))) else (some b.2) : Option ((List (List Int)))).bind λf=>some f : Option ((List (List Int)))).bind λh=>some (Fl.nx (wr (b.1 + 1),h))) else (some (Fl.ex b.2))
def QM (b : GVault) : Option (List (List Int) × Int) :=
 (VM b).bind λl=>if !l then (some ([],1)) else ((Xn).bind λk=>(((Wz k b.Events).bind λf=>some (!decide (f = b.Head)) : Option (Bool)).bind λh=>if h then ((app 24 ([] : List (List Int)) ([([1] : List Int)] : List (List Int))).bind λm=>some (([] : List (List Int)) ++ ([([1] : List Int)] : List (List Int)))) else (some ([] : List (List Int))) : Option ((List (List Int)))).bind λi=>(QF b.Events).bind λc=>(ZK (UD b) (([] : (List (Int × V32))),0,([] : List Int))).bind λd=>(app 8 d.2 (c.map (·.1))).bind λn=>(ZK (TY c d) (i,0)).bind λj=>(ZK (UG b k) (0,j)).bind λe=>some (e,0))
theorem qI (q : World) (y : GVault) (d : Value) (aw : Ro q y.Keys [d]) (b : Value) (m : Ro q y.Records [b]) (e : Value) (ac : Ro q y.Events [e]) (r : List (List Int) × Int) (hF : QM y = some r) :
  Calls prog 44 [vcV d b e y].toArray q (e_r λv w'=>(∃ y1 : Value,v = (Value.tuple [y1,vI r.2].toArray) ∧ Fr q w' [osl NoB r.1 y1] ∧ Kept (Old q) q w')):=by
 refine ce func44 ?_
 intro a H
 have I:=M.start q
 unfold QM at hF
 refine Zb (ZY (cs:=cV d b e y) H I Za ld R R λL w a I H=>Zc H R λa H=>Zc H R λa H=>Ze (s_2 (Zb (Zu H R YX R I.ra0 cq λa H=>?_))))
 obtain ⟨r3,e4,hF⟩:=p_1 hF
 refine c_k H I R cb48 (JD _ y d (I.rdo aw) b (I.rdo m) e (I.rdo ac) r3 e4) λw a I H=>?_
 refine Qe H R λa H=>Ze ?_
 refine c_if H R hF ?_ ?_
 ·intro c2 hF
  refine Zb (Zc H R λa H=>Zc H R λa H=>Ze ?_)
  have I:=M.nilS (α:=(List Int)) NoB noB I
  obtain rfl:=o_1 hF
  have I:=I.f_1
  exact u_2 (ZA (YN H R (Zy H R) (Zy H R) ⟨_,R,xf,R,I.outF (Z1 Yj),I.kept⟩))
 intro c2 hF
 refine t_2 (Zw (Zb ?_))
 obtain ⟨r7,e8,hF⟩:=p_1 hF
 refine Zn H R Zeb (Vt _  r7 e8) ?_
 rintro C w a ⟨_,rfl,hFr,hK⟩ H
 have I:=I.add hK hFr
 refine jn (xs:=[]) (S:=NoB) (l:=([] : List (List Int))) (vs:=[]) H I.emp noB Za ld R R R o_7 Zkb R dd_ (λ_ h=>⟨R,h⟩) (λ_ h=>by cases h) λbc w a I H=>Zc H R λa H=>Zc H R λa H=>Ze ?_
 obtain ⟨ax,b3,ay⟩:=p_1 hF
 refine ZG (λa w=>∃ U : Value,Env 129 a [(1,ptr L 0),(4,C),(5,U)] ∧ M (Old q) q w [own NoB r7 [C],raw L (cV d b e y),osl NoB ax U]) ?_ ?_
 ·obtain ⟨c3,az,X⟩:=p_1 b3
  refine ZG (λa w=>Env 129 a [(1,ptr L 0),(4,C),(5,bc),(31,vT c3)] ∧ M (Old q) q w [osl NoB (([] : List (List Int)) : List (List Int)) bc,own NoB r7 [C],raw L (cV d b e y)]) ?_ ?_
  ·obtain ⟨c4,c5,az⟩:=p_1 az
   refine Z7 [25,26,27,28,29,30,31] YJ R R dd_ R H I (q_m (λ_=>R) (qsP (λz=>Zo z.E Za ld R (HT) (kr0 R)) (qsP (λz=>ZL (v:=e) z.E Za ld R qh R (at_3 (z.M.ra2)) (kr0 R)) (qsP (λz=>ZW z.E Za ld R Zpp (Jr _ r7 C (z.M.ro (pre:=[_]) noB) y.Events e (z.M.rdo ac) c4 c5) (kc R)) (qsP (λz=>Zo z.E Za ld R (Zjb) (kr0 R)) (qsP (λz=>ZB z.E Za ld R Yi R (at_4 (z.M.ra2)) (u_1 _) (kr0 R)) (qsP (λz=>Zd0 z.E Za ld R R (K4 p_6 ty5 R false R dd_ (QO t_3)) dd_ (by kernel_rfl) (kr0 R)) qs0))))))) ?_
   ·intro a w u H I
    refine Zf ?_
    obtain rfl:=o_1 az
    refine Zi ?_
    exact ⟨H.s,I⟩
  rintro a w ⟨H,I⟩
  refine c_if H R X ?_ ?_
  ·intro b4 X
   refine s_1 (Zd H R λa H=>ZR (xs:=[.const (vI 1)]) (l:=([1] : List Int)) (vs:=[vI 1]) H I Za ld R R s_4 ty2 R dd_ R λb5 w a I H=>?_)
   have b6:=Ym (I.sl0)
   have I:=I.pack1 (it:=own NoB ([1] : List Int) ([b5])) (Xl noB) (λf0 q0=>(UO.sat q0))
   refine H7 (xs:=[.tmp 33]) (seg:=[b5]) H I noB Za ld R b6 o_7 Zkb R dd_ λd1 w a I H=>?_
   obtain ⟨d2,c6,X⟩:=p_1 X
   obtain ⟨c7,rfl⟩:=Yc c6
   have I:=I.pl1
   refine J4 H I noB Za ld R R o_7 Zkb R dd_ c7 λu32 w a I H=>Zc H R λa H=>Zf ?_
   obtain rfl:=o_1 X
   refine Zi ?_
   have I:=I.pl2.pl2
   exact ⟨u32,H.s,I⟩
  intro b4 X
  refine t_2 ?_
  obtain rfl:=o_1 X
  refine Zi ?_
  have I:=I.pl2.pl2
  exact ⟨bc,H.s,I⟩
 rintro a w ⟨U,H,I⟩
 refine Zb (Zr H R (HT) λa H=>ZO (v:=e) H R qh R (at_3 I.ra1) λa H=>?_)
 obtain ⟨j,c8,ay⟩:=p_1 ay
 refine Zn H R (cbm func142) (qJ _ y.Events e (I.rdo ac) j c8) ?_
 rintro v w a ⟨A,rfl,hFr,hK⟩ H
 have I:=I.add hK hFr
 refine Zd3 (κ:=Int) (α:=V32) (S:=NoB) xl (J6 (vv:=(λx : V32=>Value.agg (enc x).toArray))) H I noB Za ld λB w a I H=>ZR (xs:=[]) (l:=([] : List Int)) (vs:=[]) H I Za ld R R s_4 ty2 R dd_ R λc9 w a I H=>Zc H R λa H=>Zc H R λa H=>Zc H R λa H=>Ze (s_2 (Zb (Zr H R (Ke) λa H=>ZO (v:=b) H R AG R (at_2 I.ra4) λa H=>Yp H R p_5 (I.rd m) λa H=>Zd H R λa H=>Ze ?_)))
 obtain ⟨n,b7,b8⟩:=p_1 ay
 refine ZX (λa w=>∃ bd : Value,Env 129 a [(1,ptr L 0),(4,C),(5,U),(6,Value.map (some A)),(7,Value.map (some B)),(8,bd)] ∧ M (Old q) q w [U1 xl (TD (λx : V32=>Value.agg (enc x).toArray)) (n.1 : xj) B,U1 xl (TD (λx : V32=>Value.agg (enc x).toArray)) (j : xj) A,own NoB r7 [C],raw L (cV d b e y),osl NoB ax U,osl NoB n.2 bd]) ?_ ?_
 ·refine p_2 ?_
  have I:=I.pl5.pl5.pl5.pl5.pl5
  refine ZN (λ(a2 : List (Int × V32) × Int × List Int) a w=>∃ a3 : Value,Env 129 a [(1,ptr L 0),(4,C),(5,U),(6,Value.map (some A)),(7,Value.map (some B)),(8,a3),(42,b),(43,vI (y.Records.length : Int)),(44,vI a2.2.1)] ∧ M (Old q) q w [U1 xl (TD (λx : V32=>Value.agg (enc x).toArray)) (a2.1 : xj) B,U1 xl (TD (λx : V32=>Value.agg (enc x).toArray)) (j : xj) A,own NoB r7 [C],raw L (cV d b e y),osl NoB ax U,osl NoB a2.2.2 a3]) b7 ⟨c9,H.s,I⟩ ?_
  rintro a2 a w ⟨a3,H,I⟩ d3 F b9
  unfold UD at F
  refine Zb (Zm H R R R λa H=>Ze (s_2 ?_))
  refine c_if H R F ?_ ?_
  ·intro ca F
   refine t_2 (Zw (s_2 (p_2 (Zb ?_))))
   obtain ⟨W,a0,F⟩:=bix F
   refine Ys H R R p_5 Vd (I.rd m) a0.1 λa H=>?_
   obtain ⟨dp,cb,cc⟩:=V2 m a0.2 -- ^
   obtain ⟨be,bg,rfl,da,db⟩:=TF cb -- ^
   refine Zu H R Vd R (I.atk cc (Qi m a0.2)) cq λa H=>Zx H I Vd λd4 w a I H=>Zk (seg:=cR be bg W) (cs':=cR be bg W) H I Za R R R Vd cq (q_1 cq cq) (Z0 (cc1 (t_1 (W.Number : Int)) (cc1 (t_1 (W.Version : Int)) (cc1 (t_1 _) (cc1 (o_4 (I.rd da)) (cc1 (o_4 (I.rd db)) (cc1 (t_1 _) cc0))))))) (q_2 cq cq) λw a I H=>Ze (Zb (Zd H R λa H=>Zr H R (Hi) λa H=>ZO (v:=(vI W.Number)) H R ty2 R (at_0 I.ra0) λa H=>Zr H R (AV) λa H=>Zu H R Yi R (at_5 I.ra0) (u_1 _) λa H=>?_))
   have I:=I.pl1
   refine jq (c:=W.Tag) (HK t_4) H I Za R R R t_7 λw a I H=>Ze (s_1 (Zd H R λa H=>Zr H R (Hi) λa H=>ZO (v:=(vI W.Number)) H R ty2 R (at_0 I.ra1) λa H=>ZR (xs:=[.tmp 55]) (l:=([W.Number] : List Int)) (vs:=[vI W.Number]) H I Za ld R R s_4 ty2 R dd_ R λd5 w a I H=>?_))
   obtain ⟨d6,dc,F⟩:=p_1 F
   obtain ⟨dd,rfl⟩:=Yc dc
   have I:=I.pl7
   refine Yg H I Za ld R R (I.sl1) s_4 ty2 R dd_ dd λde w a I H=>Zc H R λa H=>Zf (Yn (Zw (s_1 (Zm H R R R λa H=>Zd H R λa H=>Zf (Zi ?_)))))
   have I:=I.pl7.pl7.pl7.pl7.pl6.f_6
   exact ⟨_,ois F,de,H.s,I⟩
  intro ca F
  refine s_3 (Zp (Zp (Yv ?_)))
  obtain rfl:=b9 _ (ois F)
  refine Zi ?_
  exact ⟨a3,H.s,I⟩
 rintro a w ⟨bd,H,I⟩
 refine Zw (s_2 (Zb (Zd H R λa H=>?_)))
 have I:=I.pl1
 refine Zsd (J6 (vv:=(λx : V32=>Value.agg (enc x).toArray))) H I noB Za ld R t_7 λcd w a I H=>Ze ?_
 obtain ⟨d7,cf,cg⟩:=p_1 b8
 have aj:=(Yc cf).1
 have I:=I.pl4.pl4.pl4.pl4.pl5.pl5
 refine ZX (λa w=>∃ ae : List Int,ae.Perm (j.map (·.1)) ∧ ∃ af : Value,Env 129 a [(1,ptr L 0),(4,C),(5,U),(6,Value.map (some A)),(7,Value.map (some B)),(8,af)] ∧ M (Old q) q w [U1 xl (TD (λx : V32=>Value.agg (enc x).toArray)) (j : xj) A,osl NoB ((n.2 ++ ae) : List Int) af,U1 xl (TD (λx : V32=>Value.agg (enc x).toArray)) (n.1 : xj) B,own NoB r7 [C],raw L (cV d b e y),osl NoB ax U]) ?_ ?_
 ·refine p_2 ?_
  refine Zo3 (κ:=Int) j.length (λ(ae : List Int) a w=>∃ af : Value,Env 129 a [(1,ptr L 0),(4,C),(5,U),(6,Value.map (some A)),(7,Value.map (some B)),(8,af),(60,ptr cd 0)] ∧ M (Old q) q w [Zff xl (TD (λx : V32=>Value.agg (enc x).toArray)) (j : xj) ae A cd,osl NoB ((n.2 ++ ae) : List Int) af,U1 xl (TD (λx : V32=>Value.agg (enc x).toArray)) (n.1 : xj) B,own NoB r7 [C],raw L (cV d b e y),osl NoB ax U]) ⟨_,H.s,(by rw [List.append_nil]; exact I)⟩ (λ_ _ _ ⟨_,_,I⟩=>I.rangeLen) ?_
  rintro ae a w ⟨af,H,I⟩
  refine Zb ?_
  refine s_next (J6 (vv:=(λx : V32=>Value.agg (enc x).toArray))) H I noB Za ld R (λw a ch I H=>?_) (λa4 v w a I H=>?_)
  ·refine ZM H Za ld R R λa H=>Ze (s_2 ?_)
   refine Zru H R ?_
   refine s_3 (Zp (Zp (Yv ?_)))
   refine Zi ?_
   exact ⟨ae,ch,af,H.s,I⟩
  refine ZM H Za ld R R λa H=>Ze (s_2 ?_)
  refine Zrv H R ?_
  refine t_2 (Zw (p_2 (Zb (Zqr (J6 (vv:=(λx : V32=>Value.agg (enc x).toArray))) H I noB Za ld R λv a I H=>?_))))
  have a5:=Zlv (k:=a4) I.rangeLen aj
  refine ZM H Za ld R R λa H=>Zc H R λa H=>Ze (s_1 (Zd H R λa H=>Zd H R λa H=>ZR (xs:=[.tmp 66]) (l:=([a4] : List Int)) (vs:=[vI a4]) H I Za ld R R s_4 ty2 R dd_ R λu88 w a I H=>?_))
  obtain ⟨d8,dg,a5⟩:=p_1 a5
  obtain ⟨dh,rfl⟩:=Yc dg
  have I:=I.pl2
  refine Yg H I Za ld R R (I.sl1) s_4 ty2 R dd_ dh λdi w a I H=>Zc H R λa H=>Zf (Yn (Zi ?_))
  have I:=I.pl6.pl6.pl6.pl6.pl4.pl6.f_6
  exact ⟨a4,di,H.s,(by rw [← List.append_assoc]; exact I)⟩
 rintro a w ⟨ae,a6,af,H,I⟩
 refine Zw (Zb (Zd H R λa H=>?_))
 have I:=I.pl1
 have ci:=Zl4 a6 aj
 refine s_sort H I Za ld R (cbm func143) ci slices_Sort_int slices_Sort_int_none λw a I H=>?_
 rw [Zip (List.Perm.append_left _ a6)] at I
 have cj:=Zi0 ((n.2 ++ (j.map (·.1)))) aj
 refine Ze (s_2 (Zb (Zd H R λa H=>Zly H I noB Za ld R (cbm func144) (by rw [zC]; exact cj) (Zc5 _) slices_Compact_int slices_Compact_int_empty λag w a I H=>Yp H R s_4 (I.sl0) λa H=>Zd H R λa H=>Ze ?_)))
 obtain ⟨dj,bh,bi⟩:=p_1 cg
 refine ZX (λa w=>∃ ao : Value,Env 129 a [(1,ptr L 0),(4,C),(5,ao)] ∧ M (Old q) q w [own NoB r7 [C],raw L (cV d b e y),osl NoB dj ao]) ?_ ?_
 ·refine p_2 ?_
  refine ZN (λ(Y : List (List Int) × Int) a w=>∃ Z : Value,Env 129 a [(1,ptr L 0),(4,C),(5,Z),(6,Value.map (some A)),(7,Value.map (some B)),(72,ag),(73,vI ((Lib.compact (Ur (n.2 ++ (j.map (·.1))))).length : Int)),(74,vI Y.2)] ∧ M (Old q) q w [osl NoB ((Lib.compact (Ur (n.2 ++ (j.map (·.1))))) : List Int) ag,U1 xl (TD (λx : V32=>Value.agg (enc x).toArray)) (j : xj) A,U1 xl (TD (λx : V32=>Value.agg (enc x).toArray)) (n.1 : xj) B,own NoB r7 [C],raw L (cV d b e y),osl NoB Y.1 Z]) bh ⟨U,H.s,I⟩ ?_
  rintro Y a w ⟨Z,H,I⟩ dq O bj
  unfold TY at O
  refine Zb (Zm H R R R λa H=>Ze (s_2 ?_))
  refine c_if H R O ?_ ?_
  ·intro bk O
   refine t_2 (Zw ?_)
   obtain ⟨cl,ak,bl⟩:=p_1 O
   refine ZG (λa w=>∃ ap : Value,Env 129 a [(1,ptr L 0),(4,C),(5,ap),(6,Value.map (some A)),(7,Value.map (some B)),(72,ag),(73,vI ((Lib.compact (Ur (n.2 ++ (j.map (·.1))))).length : Int)),(74,vI Y.2)] ∧ M (Old q) q w [osl NoB ((Lib.compact (Ur (n.2 ++ (j.map (·.1))))) : List Int) ag,U1 xl (TD (λx : V32=>Value.agg (enc x).toArray)) (j : xj) A,U1 xl (TD (λx : V32=>Value.agg (enc x).toArray)) (n.1 : xj) B,own NoB r7 [C],raw L (cV d b e y),osl NoB cl ap]) ?_ ?_
   ·refine p_2 (Zb ?_)
    obtain ⟨N,a1,ak⟩:=bix ak
    refine Ys H R R s_4 ty2 (I.sl0) a1.1 λa H=>ZO (v:=(vI N)) H R ty2 R (Xx (I.sl0) a1.2) λa H=>Zc H R λa H=>Ze (Zb (Zd H R λa H=>Zd H R λa H=>kG (pre:=[_]) (zero:=xd) (HK t_4) H I Za ld R R t_7 (Znj (by kernel_rfl) _) λa H=>Zd H R λa H=>ZM H Za ld R R λa H=>ZM H Za ld R R λa H=>Zx H I Yi λdr w a I H=>s_w ((X7 j N).getD xd) H I Za R R R Yi λw a I H=>Zc H R λa H=>?_))
    refine Ze (Zb (Zd H R λa H=>Zd H R λa H=>kG (pre:=[_,_,_]) (zero:=xd) (HK t_4) H I Za ld R R t_7 (Znj (by kernel_rfl) _) λa H=>Zd H R λa H=>ZM H Za ld R R λa H=>ZM H Za ld R R λa H=>Zx H I Yi λds w a I H=>s_w ((X7 n.1 N).getD xd) H I Za R R R Yi λw a I H=>Zc H R λa H=>Ze ?_))
    obtain ⟨cm,f,bm⟩:=p_1 ak
    refine ZG (λa w=>Env 129 a [(1,ptr L 0),(4,C),(5,Z),(6,Value.map (some A)),(7,Value.map (some B)),(13,vI N),(72,ag),(73,vI ((Lib.compact (Ur (n.2 ++ (j.map (·.1))))).length : Int)),(74,vI Y.2),(100,vT cm)] ∧ M (Old q) q w [osl NoB ((Lib.compact (Ur (n.2 ++ (j.map (·.1))))) : List Int) ag,U1 xl (TD (λx : V32=>Value.agg (enc x).toArray)) (j : xj) A,U1 xl (TD (λx : V32=>Value.agg (enc x).toArray)) (n.1 : xj) B,own NoB r7 [C],raw L (cV d b e y),osl NoB Y.1 Z]) ?_ ?_
    ·refine s_1 (Zd H R λa H=>Qe H R λa H=>Zd H R λa H=>?_)
     refine Yq (!((X7 j N).isSome)) (λt=>?_) (λt=>?_)
     ·have f:=Zt f t
      refine k_s H t R R R λa H=>k_s H t R R R λa H=>Z2 H (lkb R t) R λa H=>Zd H R λa H=>Zj H R R R dd_ λa H=>Zj H R R R dd_ λa H=>Zj H R R R dd_ λa H=>Z2 H R R λa H=>Zf ?_
      obtain rfl:=o_1 f
      refine Zi ?_
      have I:=I.pl7.pl7.pl7.pl7.pl7.pl7.f_6
      exact ⟨H.s,I⟩
     have f:=Zs f t
     refine Zl H (Zh H R (lkb R t)) dd_ R λa H=>QH H (Zh H R (lkb R t)) dd_ R λa H=>ZZ H (lkb R t) R λa H=>Zd H R λa H=>?_
     refine Yq (!((X7 n.1 N).isSome)) (λi=>?_) (λi=>?_)
     ·have f:=Zt f i
      refine k_s H i R R R λa H=>k_s H i R R R λa H=>k_s H i R R R λa H=>Z2 H (lkb R i) R λa H=>Zf ?_
      obtain rfl:=o_1 f
      refine Zi ?_
      have I:=I.pl7.pl7.pl7.pl7.pl7.pl7.f_6
      exact ⟨H.s,I⟩
     have f:=Zs f i
     refine ZB H (Zh H R (lkb R i)) dd_ R Yi R I.ra1 (u_1 _) λa H=>ZB H (Zh H R (lkb R i)) dd_ R Yi R I.ra0 (u_1 _) λa H=>Zd0 H (Zh H R (lkb R i)) dd_ R R (K4 p_6 ty5 R false R dd_ (QO t_3)) dd_ (by kernel_rfl) λa H=>ZZ H (lkb R i) R λa H=>Zf ?_
     obtain rfl:=o_1 f
     refine Zi ?_
     have I:=I.pl7.pl7.pl7.pl7.pl7.pl7.f_6
     exact ⟨H.s,I⟩
    rintro a w ⟨H,I⟩
    obtain ⟨cn,G,bn⟩:=p_1 bm
    refine ZX (λa w=>∃ aq : Value,Env 129 a [(1,ptr L 0),(4,C),(5,aq),(6,Value.map (some A)),(7,Value.map (some B)),(72,ag),(73,vI ((Lib.compact (Ur (n.2 ++ (j.map (·.1))))).length : Int)),(74,vI Y.2)] ∧ M (Old q) q w [osl NoB ((Lib.compact (Ur (n.2 ++ (j.map (·.1))))) : List Int) ag,U1 xl (TD (λx : V32=>Value.agg (enc x).toArray)) (j : xj) A,U1 xl (TD (λx : V32=>Value.agg (enc x).toArray)) (n.1 : xj) B,own NoB r7 [C],raw L (cV d b e y),osl NoB cn aq]) ?_ ?_
    ·refine c_if H R G ?_ ?_
     ·intro bo G
      refine s_1 (Zd H R λa H=>Zd H R λa H=>ZR (xs:=[.const (vI 2),.tmp 102]) (l:=([2,N] : List Int)) (vs:=[vI 2,vI N]) H I Za ld R R s_4 ty2 R dd_ R λa7 w a I H=>?_)
      have bp:=Ym (I.sl0)
      have I:=I.pack1 (it:=own NoB ([2,N] : List Int) ([a7])) (Xl noB) (λf0 q0=>(UO.sat q0))
      refine H7 (xs:=[.tmp 103]) (seg:=[a7]) H I noB Za ld R bp o_7 Zkb R dd_ λdt w a I H=>?_
      obtain ⟨du,co,G⟩:=p_1 G
      obtain ⟨cp,rfl⟩:=Yc co
      have I:=I.pl6
      refine J4 H I noB Za ld R R o_7 Zkb R dd_ cp λcr w a I H=>Zc H R λa H=>Zf ?_
      obtain rfl:=o_1 G
      refine Zi ?_
      have I:=I.pl5.pl5.pl5.pl5.pl5
      exact ⟨cr,H.s,I⟩
     intro bo G
     refine t_2 ?_
     obtain rfl:=o_1 G
     refine Zi ?_
     exact ⟨Z,H.s,I⟩
    rintro a w ⟨aq,H,I⟩
    refine Yn ?_
    obtain rfl:=o_1 bn
    refine Zi ?_
    exact ⟨aq,H.s,I⟩
   rintro a w ⟨ap,H,I⟩
   refine s_1 (Zm H R R R λa H=>Zd H R λa H=>Zf (Zi ?_))
   exact ⟨_,ois bl,ap,H.s,I⟩
  intro bk O
  refine s_3 (Zp (Zp (Yv ?_)))
  obtain rfl:=bj _ (ois O)
  refine Zi ?_
  have I:=I.pl5.pl5.pl5.f_3
  exact ⟨Z,H.s,I⟩
 rintro a w ⟨ao,H,I⟩
 refine Zw (s_2 (Zb (Zr H R (Ke) λa H=>ZO (v:=b) H R AG R (at_2 I.ra1) λa H=>Yp H R p_5 (I.rd m) λa H=>Zd H R λa H=>Ze ?_)))
 obtain ⟨ct,bq,br⟩:=p_1 bi
 refine ZX (λa w=>∃ ar : Value,Env 129 a [(5,ar)] ∧ M (Old q) q w [osl NoB ct ar]) ?_ ?_
 ·refine p_2 ?_
  refine ZN (λ(aa : Int × List (List Int)) a w=>∃ ab : Value,Env 129 a [(1,ptr L 0),(4,C),(5,ab),(108,b),(109,vI (y.Records.length : Int)),(110,vI aa.1)] ∧ M (Old q) q w [own NoB r7 [C],raw L (cV d b e y),osl NoB aa.2 ab]) bq ⟨ao,H.s,I⟩ ?_
  rintro aa a w ⟨ab,H,I⟩ dv T bs
  unfold UG at T
  refine Zb (Zm H R R R λa H=>Ze (s_2 ?_))
  refine c_if H R T ?_ ?_
  ·intro bt T
   refine t_2 (Zw ?_)
   obtain ⟨cu,al,bu⟩:=p_1 T
   refine ZG (λa w=>∃ au : Value,Env 129 a [(1,ptr L 0),(4,C),(5,au),(108,b),(109,vI (y.Records.length : Int)),(110,vI aa.1)] ∧ M (Old q) q w [own NoB r7 [C],raw L (cV d b e y),osl NoB cu au]) ?_ ?_
   ·refine p_2 (Zb ?_)
    obtain ⟨o,am,al⟩:=bix al
    refine Ys H R R p_5 Vd (I.rd m) am.1 λa H=>?_
    obtain ⟨dk,bv,bw⟩:=V2 m am.2 -- ^
    obtain ⟨ah,ai,rfl,a8,a9⟩:=TF bv -- ^
    refine Zu H R Vd R (I.atk bw (Qi m am.2)) cq λa H=>Zx H I Vd λba w a I H=>Zk (seg:=cR ah ai o) (cs':=cR ah ai o) H I Za R R R Vd cq (q_1 cq cq) (Z0 (cc1 (t_1 (o.Number : Int)) (cc1 (t_1 (o.Version : Int)) (cc1 (t_1 _) (cc1 (o_4 (I.rd a8)) (cc1 (o_4 (I.rd a9)) (cc1 (t_1 _) cc0))))))) (q_2 cq cq) λw a I H=>Ze ?_
    obtain ⟨cv,an,bx⟩:=p_1 al
    refine ZG (λa w=>Env 129 a [(1,ptr L 0),(4,C),(5,ab),(19,ptr ba 0),(108,b),(109,vI (y.Records.length : Int)),(110,vI aa.1),(120,vT cv)] ∧ M (Old q) q w [raw ba (cR ah ai o),own NoB r7 [C],raw L (cV d b e y),osl NoB aa.2 ab]) ?_ ?_
    ·obtain ⟨cw,cx,an⟩:=p_1 an
     refine Z7 [114,115,116,117,118,119,120] YJ R R dd_ R H I (q_m (λ_=>R) (qsP (λz=>ZB z.E Za ld R YX R (z.M.ra2) cq (kr0 R)) (qsP (λz=>ZB z.E Za ld R Vd R (z.M.ra0) cq (kr0 R)) (qsP (λz=>ZW z.E Za ld R Zgc (Ud _ r7 C (z.M.ro (pre:=[_]) noB) y d (z.M.rdo aw) b (z.M.rdo m) e (z.M.rdo ac) o ah (z.M.rdo a8) ai (z.M.rdo a9) cw cx) (kc R)) (qsP (λz=>Zo z.E Za ld R (AV) (kr0 R)) (qsP (λz=>ZB z.E Za ld R Yi R (at_5 (z.M.ra0)) (u_1 _) (kr0 R)) (qsP (λz=>Zd0 z.E Za ld R R (K4 p_6 ty5 R false R dd_ (QO t_3)) dd_ (by kernel_rfl) (kr0 R)) qs0))))))) ?_
     ·intro a w u H I
      refine Zf ?_
      obtain rfl:=o_1 an
      refine Zi ?_
      exact ⟨H.s,I⟩
    rintro a w ⟨H,I⟩
    obtain ⟨cy,K,bz⟩:=p_1 bx
    refine ZX (λa w=>∃ av : Value,Env 129 a [(1,ptr L 0),(4,C),(5,av),(108,b),(109,vI (y.Records.length : Int)),(110,vI aa.1)] ∧ M (Old q) q w [own NoB r7 [C],raw L (cV d b e y),osl NoB cy av]) ?_ ?_
    ·refine c_if H R K ?_ ?_
     ·intro b0 K
      refine s_1 (Zd H R λa H=>Zr H R (Hi) λa H=>ZO (v:=(vI o.Number)) H R ty2 R (at_0 I.ra0) λa H=>ZR (xs:=[.const (vI 3),.tmp 123]) (l:=([3,o.Number] : List Int)) (vs:=[vI 3,vI o.Number]) H I Za ld R R s_4 ty2 R dd_ R λbb w a I H=>?_)
      have b2:=Ym (I.sl0)
      have I:=I.pack1 (it:=own NoB ([3,o.Number] : List Int) ([bb])) (Xl noB) (λf0 q0=>(UO.sat q0))
      refine H7 (xs:=[.tmp 124]) (seg:=[bb]) H I noB Za ld R b2 o_7 Zkb R dd_ λdw w a I H=>?_
      obtain ⟨dx,cz,K⟩:=p_1 K
      obtain ⟨c0,rfl⟩:=Yc cz
      have I:=I.pl4
      refine J4 H I noB Za ld R R o_7 Zkb R dd_ c0 λc1 w a I H=>Zc H R λa H=>Zf ?_
      obtain rfl:=o_1 K
      refine Zi ?_
      have I:=I.pl3.pl3.f_3
      exact ⟨c1,H.s,I⟩
     intro b0 K
     refine t_2 ?_
     obtain rfl:=o_1 K
     refine Zi ?_
     have I:=I.pl3.pl3.pl3.f_3
     exact ⟨ab,H.s,I⟩
    rintro a w ⟨av,H,I⟩
    refine Yn ?_
    obtain rfl:=o_1 bz
    refine Zi ?_
    exact ⟨av,H.s,I⟩
   rintro a w ⟨au,H,I⟩
   refine s_1 (Zm H R R R λa H=>Zd H R λa H=>Zf (Zi ?_))
   exact ⟨_,ois bu,au,H.s,I⟩
  intro bt T
  refine s_3 (Zp (Zp (Yv ?_)))
  obtain rfl:=bs _ (ois T)
  refine Zi ?_
  have I:=I.pl2.f_1
  exact ⟨ab,H.s,I⟩
 rintro a w ⟨ar,H,I⟩
 refine Zw (Zb (Zd H R λa H=>Zc H R λa H=>Zc H R λa H=>Ze ?_))
 obtain rfl:=o_1 br
 exact u_2 (YN H R (Zy H R) (Zy H R) ⟨_,R,ar,R,I.outF (Z1 Yj),I.kept⟩)
def QP (d : List UInt8 × Int) (e : (Int × Int) × Int) (b : List V32 × Int) : Option (Fl (List V32 × Int) (Fl (List V32) Bool)) :=
 if decide (b.2 < (wr (1 + e.2))) then ((app 1 ([Zz b.2] : List UInt8) d.1).bind λf=>(K6 (([Zz b.2] : List UInt8) ++ d.1)).bind λc=>if c.2 != 0 then (some (Fl.ex (Fl.ex false))) else ((app 32 b.1 ([c.1] : List V32)).bind λh=>some (Fl.nx ((b.1 ++ ([c.1] : List V32)),wr (b.2 + 1))))) else (some (Fl.ex (Fl.nx b.1)))
def Ja (e : List UInt8) (f : List UInt8) (b : Int × Int × List UInt8 × Int) : Option (Fl (Int × Int × List UInt8 × Int) (Int × Int × List UInt8)) :=
 if decide (b.2.2.2 < (f.length : Int)) then ((XC e (b.1,b.2.1) 256).bind λc=>(app 1 b.2.2.1 ([Zz c.2] : List UInt8)).bind λd=>some (Fl.nx (c.1.1,c.1.2,b.2.2.1 ++ ([Zz c.2] : List UInt8),wr (b.2.2.2 + 1)))) else (some (Fl.ex (b.1,b.2.1,b.2.2.1)))
def Je (e : List UInt8) (f : List UInt8) (b : Int × Int × List (List UInt8) × Int) : Option (Fl (Int × Int × List (List UInt8) × Int) (List (List UInt8))) :=
 if decide (b.2.2.2 < 2) then ((ZK (Ja e f) (b.1,b.2.1,([] : List UInt8),0)).bind λc=>(app 24 b.2.2.1 ([c.2.2] : List (List UInt8))).bind λd=>some (Fl.nx (c.1,c.2.1,b.2.2.1 ++ ([c.2.2] : List (List UInt8)),wr (b.2.2.2 + 1)))) else (some (Fl.ex b.2.2.1))
def HA (k : List UInt8) : Option (Bool) :=
 (yC k).bind λr1=>if r1 then (some true) else ((VP k).bind λY=>(if decide ((Y.length : Int) > 100) then ((slc Y (0 : Int) (100 : Int)).bind λZ=>some Z) else (some Y) : Option ((List UInt8))).bind λm=>(Hb k 6911).bind λA=>(QY k (A.1,A.2)).bind λb=>(QY k (b.1.1,b.1.2)).bind λc=>(XC k (c.1.1,c.1.2) 8).bind λy=>(UM (wr (1 + y.2))).bind λl=>(VN l.1 b.2 c.2 m).bind λh=>(VZ l.1 b.2 c.2 m).bind λB=>(if l.2 != 0 then (some true) else (if h.2 != B.2 then (some true) else (if h.2 != 0 then (some true) else ((Us h.1 B.1).bind λaa=>some (!aa)))) : Option (Bool)).bind λab=>if ab then (some false) else ((VW l.1 b.2 c.2 h.1).bind λC=>(if C.2 != 0 then (some true) else ((Us C.1 m).bind λac=>some (!ac)) : Option (Bool)).bind λad=>if ad then (some false) else ((XC k (y.1.1,y.1.2) 9).bind λi=>(ZK (QP h i) (([] : List V32),0)).bind λae=>ae.el (λz=>(XC k (i.1.1,i.1.2) (wr (1 + i.2))).bind λd=>(Jb z).bind λn=>(Kx z d.2).bind λo=>(if n.2 != 0 then (some true) else (if o.2 != 0 then (some true) else ((idx z d.2).bind λE=>(Ks n.1 E d.2 (wr (1 + i.2)) o.1).bind λF=>some (!F))) : Option (Bool)).bind λG=>if G then (some false) else ((ZK (Je k m) (d.1.1,d.1.2,([] : List (List UInt8)),0)).bind λK=>(Qx 285 m K ([3,1,4,5] : List UInt8)).bind λe=>(if e.2 != 0 then (some true) else (some ((e.1.length : Int) != 4)) : Option (Bool)).bind λL=>if L then (some false) else ((slc e.1 (1 : Int) (e.1.length : Int)).bind λN=>(UT 285 N 3).bind λq=>(if q.2 != 0 then (some true) else ((Us q.1 m).bind λO=>some (!O)) : Option (Bool)).bind λT=>if T then (some false) else ((QB b.2).bind λU=>(Qv U ([108,97,98,101,108] : List UInt8) m c.2).bind λf=>if f.2.2 != 0 then (some false) else (if decide (b.2 = c.2) then (some true) else ((T2 f.1 c.2).bind λt=>(QL t.1 f.2.1 b.2).bind λj=>(Tl j.1 f.2.1).bind λu=>(QM j.1).bind λx=>(if t.2 == 0 then (if j.2 == 0 then (if u.2 == 0 then (if x.2 == 0 then ((Us u.1 m).bind λW=>if W then (some ((x.1.length : Int) == 0)) else (some false)) else (some false)) else (some false)) else (some false)) else (some false) : Option (Bool)).bind λX=>some X)))))) (λr=>some r))))
theorem Zfi (w0 : World) (p0 : List UInt8) (K : Value) (ak : Ro w0 p0 [K]) (r : Bool) (hF : HA p0 = some r) :
  Calls prog 4 [K].toArray w0 (Rt w0 (vT r)):=by
 refine ce func4 ?_
 intro a H
 have I:=M.start w0
 unfold HA at hF
 refine Zb (Zc H R λa H=>Ze (s_2 (Zb (Zd H R λa H=>?_))))
 obtain ⟨r1,e2,hF⟩:=p_1 hF
 refine c_k H I R (cbm func7) (Zjq _ p0 K (I.rdo ak) r1 e2) λw a I H=>?_
 refine Ze ?_
 refine c_if H R hF ?_ ?_
 ·intro e0 hF
  refine Zb (Zc H R λa H=>Ze ?_)
  obtain rfl:=o_1 hF
  exact u_2 (ZA (kr1 H R R I.kept))
 intro e0 hF
 refine t_2 (Zw (Zb (Zd H R λa H=>?_)))
 obtain ⟨r4,e5,hF⟩:=p_1 hF
 refine Zn H R (cbm func25) (A8 _ p0 K (I.rdo ak) r4 e5) ?_
 rintro u6 w a ⟨_,rfl,hFr,hK⟩ H
 have I:=I.add hK hFr
 refine Zc H R λa H=>Ze ?_
 obtain ⟨j7,bq,au⟩:=p_1 hF
 refine ZG (λa w=>∃ n : Value,Env 285 a [(0,K),(3,n)] ∧ M (Old w0) w0 w [osl NoB j7 n]) ?_ ?_
 ·refine Zb (Zd H R λa H=>Yp H R o_2 (I.sl0) λa H=>Zm H R R R λa H=>Ze ?_)
  refine c_if H R bq ?_ ?_
  ·intro da bq
   refine s_1 (Zd H R λa H=>?_)
   obtain ⟨gi,db,bq⟩:=p_1 bq
   refine Uk H Za ld R R R R R o_2 ty5 (I.sl0) db λa H=>?_
   have I:=I.cut noB db
   refine Zc H R λa H=>Zf ?_
   obtain rfl:=o_1 bq
   refine Zi ?_
   exact ⟨ZV u6 ((0 : Int)).toNat ((100 : Int)).toNat 1,H.s,I⟩
  intro da bq
  refine t_2 ?_
  obtain rfl:=o_1 bq
  refine Zi ?_
  exact ⟨u6,H.s,I⟩
 rintro a w ⟨n,H,I⟩
 refine Zb (Zd H R λa H=>?_)
 have I:=M.tailP (m:=[]) I
 obtain ⟨cu,e1,au⟩:=p_1 au
 refine Zn H R (cbm func26) (Zif _ _ _ _ p0 K ak 6911 I cu e1) ?_
 rintro v w a ⟨ac,rfl,I⟩ H
 have I:=M.tailU (m:=[_]) I
 simp only [l_c,l_n] at I
 refine Zc H R λa H=>Ze (Zb (Zd H R λa H=>?_))
 have I:=M.tailP (m:=[_]) I
 obtain ⟨U,e3,au⟩:=p_1 au
 refine Zn H R (cbm func27) (yb _ _ _ _ ac p0 K ak (cu.1,cu.2) I U e3) ?_
 rintro v w a ⟨rfl,I⟩ H
 have I:=M.tailU (m:=[_]) I
 simp only [l_c,l_n] at I
 refine Zd H R λa H=>?_
 have I:=M.tailP (m:=[_]) I
 obtain ⟨W,e4,au⟩:=p_1 au
 refine Zn H R (cbm func27) (yb _ _ _ _ ac p0 K ak (U.1.1,U.1.2) I W e4) ?_
 rintro v w a ⟨rfl,I⟩ H
 have I:=M.tailU (m:=[_]) I
 simp only [l_c,l_n] at I
 refine Zx H I ZD λN w a I H=>Zx H I ZD λO w a I H=>?_
 have I:=I.pl1
 refine s_w U.2 H I Za R R R ZD λw a I H=>?_
 have I:=I.pl1
 refine s_w W.2 H I Za R R R ZD λw a I H=>Ze (Zb (Zd H R λa H=>?_))
 have I:=M.tailP (m:=[_]) I.pl2
 obtain ⟨bl,e6,au⟩:=p_1 au
 refine Zn H R cb29 (Tx _ _ _ _ ac p0 K ak (W.1.1,W.1.2) 8 I bl e6) ?_
 rintro v w a ⟨rfl,I⟩ H
 have I:=M.tailU (m:=[_]) I
 simp only [l_c,l_n] at I
 refine Zm H R R R λa H=>?_
 obtain ⟨ad,e7,au⟩:=p_1 au
 refine c_k H I R (cbm func28) (yy _ (wr (1 + bl.2)) ad e7) λw a I H=>?_
 refine Zd H R λa H=>ZM H Za ld R R λa H=>ZM H Za ld R R λa H=>Zx H I Wk λdc w a I H=>Zk (seg:=cat [[vI ad.1.Field],enc ad.1.Box,enc ad.1.Mix,enc ad.1.Places,[vI ad.1.Rounds]]) (cs':=cat [[vI ad.1.Field],enc ad.1.Box,enc ad.1.Mix,enc ad.1.Places,[vI ad.1.Rounds]]) H I Za R R R Wk cq (q_1 cq cq) (Z0 (cc1 (t_1 (ad.1.Field : Int)) (cc1 (t_1 _) (cc1 (t_1 _) (cc1 (t_1 _) (cc1 (t_1 (ad.1.Rounds : Int)) cc0)))))) (q_2 cq cq) λw a I H=>Zc H R λa H=>Ze (Zb (Zu H R Wk R I.ra0 cq λa H=>Zu H R ZD R I.ra3 (u_1 _) λa H=>Zu H R ZD R I.ra2 (u_1 _) λa H=>Zd H R λa H=>?_))
 obtain ⟨bc,e8,au⟩:=p_1 au
 refine Zn H R (cbm func30) (zt _ ad.1 U.2 W.2 j7 n (I.sl4) bc e8) ?_
 rintro v w a ⟨bm,rfl,hFr,hK⟩ H
 have I:=I.add hK hFr
 refine Zd H R λa H=>ZM H Za ld R R λa H=>ZM H Za ld R R λa H=>Zc H R λa H=>Zc H R λa H=>Ze (Zb (Zu H R Wk R I.ra1 cq λa H=>Zu H R ZD R I.ra4 (u_1 _) λa H=>Zu H R ZD R I.ra3 (u_1 _) λa H=>Zd H R λa H=>?_))
 obtain ⟨cv,e9,au⟩:=p_1 au
 refine Zn H R (cbm func31) (A6 _ ad.1 U.2 W.2 j7 n (I.sl (pre:=[_,_,_,_,_]) noB) cv e9) ?_
 rintro v w a ⟨fa,rfl,hFr,hK⟩ H
 have I:=I.add hK hFr
 refine Zd H R λa H=>ZM H Za ld R R λa H=>ZM H Za ld R R λa H=>Zc H R λa H=>Zc H R λa H=>Ze (s_2 ?_)
 obtain ⟨fb,L,a5⟩:=p_1 au
 refine ZG (λa w=>Env 285 a [(3,n),(4,ptr ac 0),(5,ptr N 0),(6,ptr O 0),(7,ptr dc 0),(9,bm),(98,vT fb)] ∧ M (Old w0) w0 w [osl NoB bc.1 bm,raw dc (cat [[vI ad.1.Field],enc ad.1.Box,enc ad.1.Mix,enc ad.1.Places,[vI ad.1.Rounds]]),raw ac (cat [[K],[vI bl.1.1],[Value.int .u64 bl.1.2]]),raw O (enc W.2),raw N (enc U.2),osl NoB j7 n]) ?_ ?_
 ·refine s_1 (Zd H R λa H=>Zm H R R R λa H=>Zd H R λa H=>?_)
  refine Yq (ad.2 != 0) (λap=>?_) (λap=>?_)
  ·have L:=Zt L ap
   refine k_s H ap R R R λa H=>k_s H ap R R R λa H=>k_s H ap R R R λa H=>Z2 H (lkb R ap) R λa H=>Zd H R λa H=>Zj H R R R dd_ λa H=>Zj H R R R dd_ λa H=>Z2 H R R λa H=>Zd H R λa H=>Zj H R R R dd_ λa H=>Zj H R R R dd_ λa H=>Zj H R R R dd_ λa H=>?_
   refine Zj H R R R dd_ λa H=>Z2 H R R λa H=>Zf ?_
   obtain rfl:=o_1 L
   refine Zi ?_
   have I:=I.pl6.pl6.pl6.pl6.pl6.pl6.f_6
   exact ⟨H.s,I⟩
  have L:=Zs L ap
  refine Zl H (Zh H R (lkb R ap)) dd_ R λa H=>Zl H (Zh H R (lkb R ap)) dd_ R λa H=>Ye H (Zh H R (lkb R ap)) dd_ R R R λa H=>ZZ H (lkb R ap) R λa H=>Zd H R λa H=>?_
  refine Yq (bc.2 != cv.2) (λaw=>?_) (λaw=>?_)
  ·have L:=Zt L aw
   refine k_s H aw R R R λa H=>k_s H aw R R R λa H=>Z2 H (lkb R aw) R λa H=>Zd H R λa H=>Zj H R R R dd_ λa H=>Zj H R R R dd_ λa H=>Zj H R R R dd_ λa H=>Zj H R R R dd_ λa H=>Z2 H R R λa H=>Zf ?_
   obtain rfl:=o_1 L
   refine Zi ?_
   have I:=I.pl6.pl6.pl6.pl6.pl6.pl6.f_6
   exact ⟨H.s,I⟩
  have L:=Zs L aw
  refine Zl H (Zh H R (lkb R aw)) dd_ R λa H=>Ye H (Zh H R (lkb R aw)) dd_ R R R λa H=>ZZ H (lkb R aw) R λa H=>Zd H R λa H=>?_
  refine Yq (bc.2 != 0) (λai=>?_) (λai=>?_)
  ·have L:=Zt L ai
   refine k_s H ai R R R λa H=>k_s H ai R R R λa H=>k_s H ai R R R λa H=>k_s H ai R R R λa H=>Z2 H (lkb R ai) R λa H=>Zf ?_
   obtain rfl:=o_1 L
   refine Zi ?_
   have I:=I.pl6.pl6.pl6.pl6.pl6.pl6.f_6
   exact ⟨H.s,I⟩
  have L:=Zs L ai
  refine Zl H (Zh H R (lkb R ai)) dd_ R λa H=>Zl H (Zh H R (lkb R ai)) dd_ R λa H=>?_
  obtain ⟨fc,fd,L⟩:=p_1 L
  refine ZW H (Zh H R (lkb R ai)) dd_ R cb17 (J7 _ bc.1 bm (I.sl1) cv.1 fa (I.sl0) fc fd) ?_
  rintro v w a ⟨rfl,hK⟩ H
  have I:=I.keep hK
  refine QH H (Zh H R (lkb R ai)) dd_ R λa H=>ZZ H (lkb R ai) R λa H=>Zf ?_
  obtain rfl:=o_1 L
  refine Zi ?_
  have I:=I.pl6.pl6.pl6.pl6.pl6.pl6.f_6
  exact ⟨H.s,I⟩
 rintro a w ⟨H,I⟩
 refine c_if H R a5 ?_ ?_
 ·intro dd a5
  refine Zb (Zc H R λa H=>Ze ?_)
  obtain rfl:=o_1 a5
  exact u_2 (ZA (kr1 H R R I.kept))
 intro dd a5
 refine t_2 (Zw (Zb (Zu H R Wk R I.ra1 cq λa H=>Zu H R ZD R I.ra4 (u_1 _) λa H=>Zu H R ZD R I.ra3 (u_1 _) λa H=>Zd H R λa H=>?_)))
 obtain ⟨cw,fe,a5⟩:=p_1 a5
 refine Zn H R (cbm func32) (zj _ ad.1 U.2 W.2 bc.1 bm (I.sl0) cw fe) ?_
 rintro v w a ⟨ff,rfl,hFr,hK⟩ H
 have I:=I.add hK hFr
 refine Zd H R λa H=>ZM H Za ld R R λa H=>ZM H Za ld R R λa H=>Zc H R λa H=>Zc H R λa H=>Ze (s_2 ?_)
 obtain ⟨fg,a2,a6⟩:=p_1 a5
 refine ZG (λa w=>Env 285 a [(3,n),(4,ptr ac 0),(5,ptr N 0),(6,ptr O 0),(9,bm),(114,vT fg)] ∧ M (Old w0) w0 w [osl NoB bc.1 bm,raw ac (cat [[K],[vI bl.1.1],[Value.int .u64 bl.1.2]]),raw O (enc W.2),raw N (enc U.2),osl NoB j7 n]) ?_ ?_
 ·refine s_1 (Zd H R λa H=>Zm H R R R λa H=>Zd H R λa H=>?_)
  refine Yq (cw.2 != 0) (λaj=>?_) (λaj=>?_)
  ·have a2:=Zt a2 aj
   refine k_s H aj R R R λa H=>k_s H aj R R R λa H=>k_s H aj R R R λa H=>k_s H aj R R R λa H=>Z2 H (lkb R aj) R λa H=>Zf ?_
   obtain rfl:=o_1 a2
   refine Zi ?_
   have I:=I.pl6.pl6.pl6.pl6.pl5.f_5
   exact ⟨H.s,I⟩
  have a2:=Zs a2 aj
  refine Zl H (Zh H R (lkb R aj)) dd_ R λa H=>Zl H (Zh H R (lkb R aj)) dd_ R λa H=>?_
  obtain ⟨fh,fi,a2⟩:=p_1 a2
  refine ZW H (Zh H R (lkb R aj)) dd_ R cb17 (J7 _ cw.1 ff (I.sl0) j7 n (I.sl (pre:=[_,_,_,_,_,_]) noB) fh fi) ?_
  rintro v w a ⟨rfl,hK⟩ H
  have I:=I.keep hK
  refine QH H (Zh H R (lkb R aj)) dd_ R λa H=>ZZ H (lkb R aj) R λa H=>Zf ?_
  obtain rfl:=o_1 a2
  refine Zi ?_
  have I:=I.pl6.pl6.pl6.pl6.pl5.f_5
  exact ⟨H.s,I⟩
 rintro a w ⟨H,I⟩
 refine c_if H R a6 ?_ ?_
 ·intro de a6
  refine Zb (Zc H R λa H=>Ze ?_)
  obtain rfl:=o_1 a6
  exact u_2 (ZA (kr1 H R R I.kept))
 intro de a6
 refine t_2 (Zw (Zb (ZR (xs:=[]) (l:=([] : List V32)) (vs:=[]) H I Za ld R R o_5 Yi R dd_ R λfj w a I H=>Zd H R λa H=>?_)))
 have I:=M.tailP (m:=[_]) I.pl2
 obtain ⟨a7,fk,a6⟩:=p_1 a6
 refine Zn H R cb29 (Tx _ _ _ _ ac p0 K ak (bl.1.1,bl.1.2) 9 I a7 fk) ?_
 rintro v w a ⟨rfl,I⟩ H
 have I:=M.tailU (m:=[_]) I
 simp only [l_c,l_n] at I
 refine Zm H R R R λa H=>Zc H R λa H=>Zc H R λa H=>Ze (s_2 (Zb (Zc H R λa H=>Ze ?_)))
 obtain ⟨fl,dg,ar⟩:=p_1 a6
 refine ZX (λa w=>∃ b5 : (List V32),fl = Fl.nx b5 ∧ ∃ b6 : Value,Env 285 a [(3,n),(4,ptr ac 0),(5,ptr N 0),(6,ptr O 0),(15,b6),(16,vI (wr (1 + a7.2)))] ∧ M (Old w0) w0 w [raw ac (cat [[K],[vI a7.1.1],[Value.int .u64 a7.1.2]]),raw O (enc W.2),raw N (enc U.2),osl NoB j7 n,osl NoB b5 b6]) ?_ ?_
 ·refine p_2 ?_
  have I:=I.pl1.pl5.pl5.pl5.pl5.pl5
  refine ZN (λ(br : List V32 × Int) a w=>∃ cj : Value,Env 285 a [(3,n),(4,ptr ac 0),(5,ptr N 0),(6,ptr O 0),(9,bm),(15,cj),(16,vI (wr (1 + a7.2))),(17,vI br.2)] ∧ M (Old w0) w0 w [raw ac (cat [[K],[vI a7.1.1],[Value.int .u64 a7.1.2]]),osl NoB bc.1 bm,raw O (enc W.2),raw N (enc U.2),osl NoB j7 n,osl NoB br.1 cj]) dg ⟨fj,H.s,I⟩ ?_
  rintro br a w ⟨cj,H,I⟩ gj Y cn
  unfold QP at Y
  refine s_2 (Zb (Zd H R λa H=>Zd H R λa H=>Zm H R R R λa H=>Ze ?_))
  refine c_if H R Y ?_ ?_
  ·intro dh Y
   refine t_2 (Zw (s_2 (p_2 (Zb (Zd H R λa H=>Xq H Za ld R t_4 t_3 λa H=>ZR (xs:=[.tmp 126]) (l:=([Zz br.2] : List UInt8)) (vs:=[vB (Zz br.2)]) H I Za ld R R o_2 ty5 R dd_ R λu84 w a I H=>Zd H R λa H=>?_)))))
   obtain ⟨gk,fm,Y⟩:=p_1 Y
   obtain ⟨fn,rfl⟩:=Yc fm
   refine Yg H I Za ld R R (I.sl2) o_2 ty5 R dd_ fn λu88 w a I H=>?_
   obtain ⟨cl,fo,Y⟩:=p_1 Y
   refine c_k H I R (cbm func33) (Zdj _ (([Zz br.2] : List UInt8) ++ bc.1) u88 (I.sl0) cl fo) λw a I H=>?_
   refine Zd H R λa H=>ZM H Za ld R R λa H=>ZM H Za ld R R λa H=>Zx H I Yi λgl w a I H=>s_w cl.1 H I Za R R R Yi λw a I H=>Zc H R λa H=>Ze (s_2 (Zb (Zd H R λa H=>Zm H R R R λa H=>Ze ?_)))
   refine c_if H R Y ?_ ?_
   ·intro di Y
    refine Zb (Zc H R λa H=>Ze ?_)
    obtain rfl:=cn _ (ois Y)
    obtain rfl:=o_1 ar
    exact u_2 (ZA (YZ (ZA (ZA (YZ (ZA (ZA (kr1 H R R I.kept))))))))
   intro di Y
   refine t_2 (Zw (s_1 (Zd H R λa H=>Zu H R Yi R I.ra0 (u_1 _) λa H=>ZR (xs:=[.tmp 136]) (l:=([cl.1] : List V32)) (vs:=[Value.agg (enc cl.1).toArray]) H I Za ld R R o_5 Yi R dd_ R λgm w a I H=>?_)))
   obtain ⟨gn,dj,Y⟩:=p_1 Y
   obtain ⟨dk,rfl⟩:=Yc dj
   have I:=I.pl8
   refine Yg H I Za ld R R (I.sl1) o_5 Yi R dd_ dk λdl w a I H=>Zc H R λa H=>Zf (Yn (Zw (s_1 (Zd H R λa H=>Zm H R R R λa H=>Zc H R λa H=>Zf (Zi ?_)))))
   have I:=I.pl8.pl8.pl8.pl8.pl8.f_6
   exact ⟨_,ois Y,dl,H.s,I⟩
  intro dh Y
  refine s_3 (Zp (Zp (Yv ?_)))
  obtain rfl:=cn _ (ois Y)
  refine Zi ?_
  have I:=I.pl5.pl5.pl5.pl5.pl4.f_5
  exact ⟨br.1,R,cj,H.s,I⟩
 rintro a w ⟨b5,ht,b6,H,I⟩
 subst ht
 have ar:=JM ar
 refine Zw (Zb (Zd H R λa H=>Zd H R λa H=>?_))
 have I:=M.tailP (m:=[_]) I
 obtain ⟨bn,dm,ar⟩:=p_1 ar
 refine Zn H R cb29 (Tx _ _ _ _ ac p0 K ak (a7.1.1,a7.1.2) (wr (1 + a7.2)) I bn dm) ?_
 rintro v w a ⟨rfl,I⟩ H
 have I:=M.tailU (m:=[_]) I
 simp only [l_c,l_n] at I
 refine Zc H R λa H=>Ze (Zb (Zd H R λa H=>?_))
 obtain ⟨bv,dp,ar⟩:=p_1 ar
 refine c_k H I R (cbm func34) (Zdl _ b5 b6 (I.sl4) bv dp) λw a I H=>?_
 refine Zd H R λa H=>ZM H Za ld R R λa H=>ZM H Za ld R R λa H=>Zx H I Yi λfs w a I H=>s_w bv.1 H I Za R R R Yi λw a I H=>Zc H R λa H=>Ze (Zb (Zd H R λa H=>Zd H R λa H=>?_))
 obtain ⟨b7,dq,ar⟩:=p_1 ar
 refine Zn H R (cbm func35) (Zbm _ b5 b6 (I.sl (pre:=[_,_,_,_,_]) noB) bn.2 b7 dq) ?_
 rintro v w a ⟨dr,rfl,hFr,hK⟩ H
 have I:=I.add hK hFr
 refine Zd H R λa H=>ZM H Za ld R R λa H=>ZM H Za ld R R λa H=>Zc H R λa H=>Zc H R λa H=>Ze (s_2 ?_)
 obtain ⟨dt,C,a8⟩:=p_1 ar
 refine ZG (λa w=>Env 285 a [(3,n),(4,ptr ac 0),(5,ptr N 0),(6,ptr O 0),(170,vT dt)] ∧ M (Old w0) w0 w [raw ac (cat [[K],[vI bn.1.1],[Value.int .u64 bn.1.2]]),raw O (enc W.2),raw N (enc U.2),osl NoB j7 n]) ?_ ?_
 ·refine Yq (bv.2 != 0) (λX=>?_) (λX=>?_)
  ·have C:=Zt C X
   refine Z7 [153,154,155,156,157,158,159,160,161,162,163,164,165,166,167,168,169,170] YJ R R dd_ R H I (q_m (λ_=>R) (qsP (λz=>Ye z.E Za ld R R R (kr0 R)) (q_m (λ_=>R) (qsP (λz=>Zj z.E R (lkb R X) R dd_ (kr0 R)) (qsP (λz=>Zj z.E R (lkb R X) R dd_ (kr0 R)) (qsP (λz=>Ji z.E Za ld (lkb R X) R (kr0 R)) (q_m (λ_=>R) (qsP (λz=>Zj z.E R R R dd_ (kr0 R)) (qsP (λz=>Zj z.E R R R dd_ (kr0 R)) (qsP (λz=>Zj z.E R R R dd_ (kr0 R)) (qsP (λz=>Zj z.E R R R dd_ (kr0 R)) (qsP (λz=>Zj z.E R R R dd_ (kr0 R)) (qsP (λz=>Zj z.E R R R dd_ (kr0 R)) (qsP (λz=>Zj z.E R R R dd_ (kr0 R)) (qsP (λz=>Zj z.E R R R dd_ (kr0 R)) (qsP (λz=>Zj z.E R R R dd_ (kr0 R)) (qsP (λz=>Zj z.E R R R dd_ (kr0 R)) (qsP (λz=>Ji z.E Za ld R R (kr0 R)) qs0)))))))))))))))))) ?_
   ·intro a w u H I
    refine Zf ?_
    obtain rfl:=o_1 C
    refine Zi ?_
    have I:=I.pl5.pl5.pl5.pl5.f_4
    exact ⟨H.s,I⟩
  have C:=Zs C X
  refine Yq (b7.2 != 0) (λd=>?_) (λd=>?_)
  ·have C:=Zt C d
   refine Z7 [153,154,155,156,157,158,159,160,161,162,163,164,165,166,167,168,169,170] YJ R R dd_ R H I (q_m (λ_=>R) (qsP (λz=>Ye z.E Za ld R R R (kr0 R)) (q_m (λ_=>R) (qsP (λz=>Zl z.E (Zh z.E R (lkb R X)) dd_ R (kr0 R)) (qsP (λz=>Ye z.E (Zh z.E R (lkb R X)) dd_ R R R (kr0 R)) (qsP (λz=>KB z.E Za ld (lkb R X) R (kr0 R)) (q_m (λ_=>R) (qsP (λz=>Zj z.E R (lkb R d) R dd_ (kr0 R)) (qsP (λz=>Zj z.E R (lkb R d) R dd_ (kr0 R)) (qsP (λz=>Zj z.E R (lkb R d) R dd_ (kr0 R)) (qsP (λz=>Zj z.E R (lkb R d) R dd_ (kr0 R)) (qsP (λz=>Zj z.E R (lkb R d) R dd_ (kr0 R)) (qsP (λz=>Zj z.E R (lkb R d) R dd_ (kr0 R)) (qsP (λz=>Zj z.E R (lkb R d) R dd_ (kr0 R)) (qsP (λz=>Zj z.E R (lkb R d) R dd_ (kr0 R)) (qsP (λz=>Zj z.E R (lkb R d) R dd_ (kr0 R)) (qsP (λz=>Zj z.E R (lkb R d) R dd_ (kr0 R)) (qsP (λz=>Ji z.E Za ld (lkb R d) R (kr0 R)) qs0)))))))))))))))))) ?_
   ·intro a w u H I
    refine Zf ?_
    obtain rfl:=o_1 C
    refine Zi ?_
    have I:=I.pl5.pl5.pl5.pl5.f_4
    exact ⟨H.s,I⟩
  have C:=Zs C d
  obtain ⟨du,b8,C⟩:=bix C
  obtain ⟨dv,dw,C⟩:=p_1 C
  refine Z7 [153,154,155,156,157,158,159,160,161,162,163,164,165,166,167,168,169,170] YJ R R dd_ R H I (q_m (λ_=>R) (qsP (λz=>Ye z.E Za ld R R R (kr0 R)) (q_m (λ_=>R) (qsP (λz=>Zl z.E (Zh z.E R (lkb R X)) dd_ R (kr0 R)) (qsP (λz=>Ye z.E (Zh z.E R (lkb R X)) dd_ R R R (kr0 R)) (qsP (λz=>KB z.E Za ld (lkb R X) R (kr0 R)) (q_m (λ_=>R) (qsP (λz=>ZB z.E (Zh z.E R (lkb R d)) dd_ R Yi R (z.M.ra1) (u_1 _) (kr0 R)) (qsP (λz=>Zl z.E (Zh z.E R (lkb R d)) dd_ R (kr0 R)) (qsP (λz=>Zl z.E (Zh z.E R (lkb R d)) dd_ R (kr0 R)) (qsP (λz=>XD z.E (Zh z.E R (lkb R d)) dd_ R R o_5 Yi (z.M.sl (pre:=[_,_,_,_,_,_]) noB) b8.1 (kr0 R)) (qsP (λz=>ZB z.E (Zh z.E R (lkb R d)) dd_ R Yi R (Xx (z.M.sl (pre:=[_,_,_,_,_,_]) noB) b8.2) (u_1 _) (kr0 R)) (qsP (λz=>Zl z.E (Zh z.E R (lkb R d)) dd_ R (kr0 R)) (qsP (λz=>Zl z.E (Zh z.E R (lkb R d)) dd_ R (kr0 R)) (qsP (λz=>Zl z.E (Zh z.E R (lkb R d)) dd_ R (kr0 R)) (qsP (λz=>ZW z.E (Zh z.E R (lkb R d)) dd_ R (cbm func36) (Zb6 _ bv.1 du bn.2 (wr (1 + a7.2)) b7.1 dr (z.M.sl0) dv dw) (kc R)) (qsP (λz=>QH z.E (Zh z.E R (lkb R d)) dd_ R (kr0 R)) (qsP (λz=>KB z.E Za ld (lkb R d) R (kr0 R)) qs0)))))))))))))))))) ?_
  ·intro a w u H I
   refine Zf ?_
   obtain rfl:=o_1 C
   refine Zi ?_
   have I:=I.pl5.pl5.pl5.pl5.f_4
   exact ⟨H.s,I⟩
 rintro a w ⟨H,I⟩
 refine c_if H R a8 ?_ ?_
 ·intro cx a8
  refine Zb (Zc H R λa H=>Ze ?_)
  obtain rfl:=o_1 a8
  exact u_2 (ZA (kr1 H R R I.kept))
 intro cx a8
 refine t_2 (Zw (Zb (jn (xs:=[]) (S:=NoB) (l:=([] : List (List UInt8))) (vs:=[]) H I.emp noB Za ld R R R t_5 Uf R dd_ (λ_ h=>⟨R,h⟩) (λ_ h=>by cases h) λdx w a I H=>Zc H R λa H=>Ze (s_2 (Zb (Zc H R λa H=>Ze ?_))))))
 obtain ⟨co,cy,bs⟩:=p_1 a8
 refine ZX (λa w=>∃ bw : Value,Env 285 a [(3,n),(5,ptr N 0),(6,ptr O 0),(25,bw)] ∧ M (Old w0) w0 w [raw O (enc W.2),raw N (enc U.2),osl NoB j7 n,osl NoB co bw]) ?_ ?_
 ·refine p_2 ?_
  have I:=I.pl4.pl4.pl4.pl4
  refine ZN (λ(ax : Int × Int × List (List UInt8) × Int) a w=>∃ a3 : Value,Env 285 a [(3,n),(4,ptr ac 0),(5,ptr N 0),(6,ptr O 0),(25,a3),(26,vI ax.2.2.2)] ∧ M (Old w0) w0 w [raw ac (cat [[K],[vI ax.1],[Value.int .u64 ax.2.1]]),raw O (enc W.2),raw N (enc U.2),osl NoB j7 n,osl NoB ax.2.2.1 a3]) cy ⟨dx,H.s,I⟩ ?_
  rintro ax a w ⟨a3,H,I⟩ ft az cz
  unfold Je at az
  refine s_2 (Zb (Zd H R λa H=>Zm H R R R λa H=>Ze ?_))
  refine c_if H R az ?_ ?_
  ·intro c0 az
   refine t_2 (Zw (s_2 (p_2 (Zb (ZR (xs:=[]) (l:=xz) (vs:=[]) H I Za ld R R o_2 ty5 R dd_ R λdy w a I H=>Zc H R λa H=>Ze (s_2 (Zb (Zc H R λa H=>Ze ?_))))))))
   obtain ⟨bx,c1,bt⟩:=p_1 az
   refine ZX (λa w=>∃ bo : Value,Env 285 a [(3,n),(4,ptr ac 0),(5,ptr N 0),(6,ptr O 0),(25,a3),(26,vI ax.2.2.2),(27,bo)] ∧ M (Old w0) w0 w [raw ac (cat [[K],[vI bx.1],[Value.int .u64 bx.2.1]]),raw O (enc W.2),raw N (enc U.2),osl NoB j7 n,osl NoB ax.2.2.1 a3,osl NoB bx.2.2 bo]) ?_ ?_
   ·refine p_2 ?_
    have I:=I.pl5.pl5.pl5.pl5.pl5
    refine ZN (λ(a9 : Int × Int × List UInt8 × Int) a w=>∃ bz : Value,Env 285 a [(3,n),(4,ptr ac 0),(5,ptr N 0),(6,ptr O 0),(25,a3),(26,vI ax.2.2.2),(27,bz),(28,vI a9.2.2.2)] ∧ M (Old w0) w0 w [raw ac (cat [[K],[vI a9.1],[Value.int .u64 a9.2.1]]),raw O (enc W.2),raw N (enc U.2),osl NoB j7 n,osl NoB ax.2.2.1 a3,osl NoB a9.2.2.1 bz]) c1 ⟨dy,H.s,I⟩ ?_
    rintro a9 a w ⟨bz,H,I⟩ fu ah c2
    unfold Ja at ah
    refine s_2 (Zb (Zd H R λa H=>Zd H R λa H=>Yp H R o_2 (I.sl3) λa H=>Zm H R R R λa H=>Ze ?_))
    refine c_if H R ah ?_ ?_
    ·intro c3 ah
     refine t_2 (Zw (s_2 (p_2 (s_1 (Zd H R λa H=>Zd H R λa H=>?_)))))
     have I:=M.tailP (m:=[_]) I
     obtain ⟨b9,dz,ah⟩:=p_1 ah
     refine Zn H R cb29 (Tx _ _ _ _ ac p0 K ak (a9.1,a9.2.1) 256 I b9 dz) ?_
     rintro v w a ⟨rfl,I⟩ H
     have I:=M.tailU (m:=[_]) I
     simp only [l_c,l_n] at I
     refine Xq H Za ld R t_4 t_3 λa H=>ZR (xs:=[.tmp 186]) (l:=([Zz b9.2] : List UInt8)) (vs:=[vB (Zz b9.2)]) H I Za ld R R o_2 ty5 R dd_ R λfv w a I H=>?_
     obtain ⟨fw,d0,ah⟩:=p_1 ah
     obtain ⟨d4,rfl⟩:=Yc d0
     have I:=I.pl6
     refine Yg H I Za ld R R (I.sl1) o_2 ty5 R dd_ d4 λd5 w a I H=>Zc H R λa H=>Zf (Yn (Zw (s_1 (Zd H R λa H=>Zm H R R R λa H=>Zc H R λa H=>Zf (Zi ?_)))))
     have I:=I.pl6.pl6.pl6.pl6.pl6.f_6
     exact ⟨_,ois ah,d5,H.s,I⟩
    intro c3 ah
    refine s_3 (Zp (Zp (Yv ?_)))
    obtain rfl:=c2 _ (ois ah)
    refine Zi ?_
    exact ⟨bz,H.s,I⟩
   rintro a w ⟨bo,H,I⟩
   refine Zw (s_1 (Zd H R λa H=>Zd H R λa H=>?_))
   have c4:=Ym (I.sl (pre:=[_,_,_,_,_]) noB)
   have I:=I.pl5
   have I:=I.pack1 (it:=own NoB bx.2.2 ([bo])) (Xl noB) (λf0 q0=>(UO.sat q0))
   refine H7 (xs:=[.tmp 190]) (seg:=[bo]) H I noB Za ld R c4 t_5 Uf R dd_ λfx w a I H=>?_
   obtain ⟨fy,d9,bt⟩:=p_1 bt
   obtain ⟨ea,rfl⟩:=Yc d9
   have I:=I.pl5
   refine J4 H I noB Za ld R R t_5 Uf R dd_ ea λeb w a I H=>Zc H R λa H=>Zf (Yn (Zw (s_1 (Zd H R λa H=>Zm H R R R λa H=>Zc H R λa H=>Zf (Zi ?_)))))
   have I:=I.pl4.pl4.pl4.pl4
   exact ⟨_,ois bt,eb,H.s,I⟩
  intro c0 az
  refine s_3 (Zp (Zp (Yv ?_)))
  obtain rfl:=cz _ (ois az)
  refine Zi ?_
  have I:=I.pl4.pl4.pl4.pl4.f_4
  exact ⟨a3,H.s,I⟩
 rintro a w ⟨bw,H,I⟩
 refine Zw (Zb (Zd H R λa H=>Zd H R λa H=>ZR (xs:=[.const (vB 3),.const (vB 1),.const (vB 4),.const (vB 5)]) (l:=([3,1,4,5] : List UInt8)) (vs:=[vB 3,vB 1,vB 4,vB 5]) H I Za ld R R o_2 ty5 R dd_ R λec w a I H=>?_))
 obtain ⟨b0,ed,bs⟩:=p_1 bs
 refine Zn H R (cbm func37) (qr _ 285 j7 n (I.sl3) co bw (I.sl4) ([3,1,4,5] : List UInt8) ec (I.sl0) b0 ed) ?_
 rintro v w a ⟨ca,rfl,hFr,hK⟩ H
 have I:=I.add hK hFr
 refine Zd H R λa H=>ZM H Za ld R R λa H=>ZM H Za ld R R λa H=>Zc H R λa H=>Zc H R λa H=>Ze (s_2 ?_)
 obtain ⟨ee,a0,al⟩:=p_1 bs
 refine ZG (λa w=>Env 285 a [(3,n),(5,ptr N 0),(6,ptr O 0),(29,ca),(206,vT ee)] ∧ M (Old w0) w0 w [osl NoB b0.1 ca,raw O (enc W.2),raw N (enc U.2),osl NoB j7 n]) ?_ ?_
 ·refine s_1 (Zd H R λa H=>Zm H R R R λa H=>Zd H R λa H=>?_)
  refine Yq (b0.2 != 0) (λZ=>?_) (λZ=>?_)
  ·have a0:=Zt a0 Z
   refine k_s H Z R R R λa H=>k_s H Z R R R λa H=>k_s H Z R R R λa H=>Z2 H (lkb R Z) R λa H=>Zf ?_
   obtain rfl:=o_1 a0
   refine Zi ?_
   have I:=I.pl4.pl4.pl4.pl3.f_4
   exact ⟨H.s,I⟩
  have a0:=Zs a0 Z
  refine Zl H (Zh H R (lkb R Z)) dd_ R λa H=>Q7 H (Zh H R (lkb R Z)) dd_ R s_5 (I.sl0) λa H=>Ye H (Zh H R (lkb R Z)) dd_ R R R λa H=>ZZ H (lkb R Z) R λa H=>Zf ?_
  obtain rfl:=o_1 a0
  refine Zi ?_
  have I:=I.pl4.pl4.pl4.pl3.f_4
  exact ⟨H.s,I⟩
 rintro a w ⟨H,I⟩
 refine c_if H R al ?_ ?_
 ·intro c5 al
  refine Zb (Zc H R λa H=>Ze ?_)
  obtain rfl:=o_1 al
  exact u_2 (ZA (kr1 H R R I.kept))
 intro c5 al
 refine t_2 (Zw (Zb (Zd H R λa H=>?_)))
 obtain ⟨ef,cp,al⟩:=p_1 al
 refine Uk H Za ld R R R R R s_5 US (I.sl0) cp λa H=>?_
 obtain ⟨cb,eg,al⟩:=p_1 al
 refine Zn H R (cbm func38) (yv _ 285 ef (ZV ca ((1 : Int)).toNat ((b0.1.length : Int)).toNat 2) (Yo (I.sl0) cp) 3 cb eg) ?_
 rintro v w a ⟨eh,rfl,hFr,hK⟩ H
 have I:=I.add hK hFr
 refine Zd H R λa H=>ZM H Za ld R R λa H=>ZM H Za ld R R λa H=>Zc H R λa H=>Zc H R λa H=>Ze (s_2 ?_)
 obtain ⟨ei,aq,e⟩:=p_1 al
 refine ZG (λa w=>Env 285 a [(3,n),(5,ptr N 0),(6,ptr O 0),(220,vT ei)] ∧ M (Old w0) w0 w [raw O (enc W.2),raw N (enc U.2),osl NoB j7 n]) ?_ ?_
 ·refine s_1 (Zd H R λa H=>Zm H R R R λa H=>Zd H R λa H=>?_)
  refine Yq (cb.2 != 0) (λT=>?_) (λT=>?_)
  ·have aq:=Zt aq T
   refine k_s H T R R R λa H=>k_s H T R R R λa H=>k_s H T R R R λa H=>k_s H T R R R λa H=>Z2 H (lkb R T) R λa H=>Zf ?_
   obtain rfl:=o_1 aq
   refine Zi ?_
   have I:=I.pl4.pl4.pl4.f_3
   exact ⟨H.s,I⟩
  have aq:=Zs aq T
  refine Zl H (Zh H R (lkb R T)) dd_ R λa H=>Zl H (Zh H R (lkb R T)) dd_ R λa H=>?_
  obtain ⟨ej,ek,aq⟩:=p_1 aq
  refine ZW H (Zh H R (lkb R T)) dd_ R cb17 (J7 _ cb.1 eh (I.sl0) j7 n (I.sl4) ej ek) ?_
  rintro v w a ⟨rfl,hK⟩ H
  have I:=I.keep hK
  refine QH H (Zh H R (lkb R T)) dd_ R λa H=>ZZ H (lkb R T) R λa H=>Zf ?_
  obtain rfl:=o_1 aq
  refine Zi ?_
  have I:=I.pl4.pl4.pl4.f_3
  exact ⟨H.s,I⟩
 rintro a w ⟨H,I⟩
 refine c_if H R e ?_ ?_
 ·intro c6 e
  refine Zb (Zc H R λa H=>Ze ?_)
  obtain rfl:=o_1 e
  exact u_2 (ZA (kr1 H R R I.kept))
 intro c6 e
 refine t_2 (Zw (s_2 ?_))
 obtain ⟨ay,em,e⟩:=p_1 e
 obtain ⟨B,en,e⟩:=p_1 e
 refine Y0 (its:=[raw O (enc W.2),raw N (enc U.2),osl NoB j7 n]) (mk:=([mkO 1 (λv=>own NoB ay (Value.cells v).toList),mkN [(3,λv=>osl NoB xu v),(2,λv=>osz NoB xu v)],mkO 6 (λv=>own NoB B.1 (Value.cells (Uj v 0)).toList),mkD 11 12 6 xy (λv=>(Value.cells (Uj v 0)).toList)] : Mk)) [222,223,224,225,226,227,228,221,229,230,231,33,297,34] YJ R R dd_ R H (λu=>M.qE (M.qE (M.qE (M.qE (M.q0 I.drew u) emD) emO) emN) emO) (qsP (λz=>ZB z.E Za ld R ZD R (z.M.ra1) (u_1 _) (kr0 R)) (qsM (pr:=λv=>∃ cs,v = .agg cs) ?_ (q_t ?_ (q_t ?_ (q_m (λ_=>R) (qsP (λz=>ZB z.E Za ld R ZD R (z.M.ra0) (u_1 _) (kr0 R)) (qsM (pr:=λv=>v = (Value.tuple [Uj v 0,vI B.2.1,vI B.2.2].toArray) ∧ ∃ cs,(Uj v 0) = .agg cs) ?_ (qsD (ds:=[6]) (f:=λus=>(Value.tuple [Uj (us.getD 0 undef) 0,vI B.2.1,vI B.2.2].toArray)) ?_ (qsD (ds:=[6]) (f:=λus=>(Uj (us.getD 0 undef) 0)) ?_ (qsP (λz=>ZM z.E Za ld R R (kr0 R)) (qsP (λz=>ZM z.E Za ld R R (kr0 R)) (q_t ?_ (q_t ?_ (qsP (λz=>K3 z.E Za ld R (kr0 R)) qs0)))))))))))))) ?_
 ·intro a w A D z
  have H:=z.E
  have hD : D 1 = false:=z.F
  have hM0:=z.M
  have I:=z.M
  refine Zn H R (cbm func40) (qC _ U.2 ay em) ?_
  rintro _ w a ⟨fz,f1,f2,rfl,hFr,hK⟩ H
  have I:=BQ (x:=ay) (hM0.add hK hFr) sio sio sio
  exact ⟨_,_,R,H,M.qFill (mk1:=[]) (mk2:=[_,_,_]) (f:=(λv=>own NoB ay (Value.cells v).toList)) I R hD,⟨_,R⟩⟩
 ·intro a w A D z
  have H:=z.E
  have hD : D 2 = false:=z.F
  have I:=z.M
  refine Zp3 (xs:=[.const (vB 108),.const (vB 97),.const (vB 98),.const (vB 101),.const (vB 108)]) (l:=([108,97,98,101,108] : List UInt8)) H I Za ld R R o_2 ty5 dd_ λf3 w a I H=>?_
  have eo : D 3 = false:=Kb (j:=3) (k:=0) z.c R R R hD
  exact ⟨_,_,R,H,M.qPut (mk1:=[_]) (mk2:=[_,_]) I R (Zk9 (offC eo (offC hD offN))) (Ze8 (l:=[_]) (offC eo offN)),trivial⟩
 ·intro a w A D z
  have H:=z.E
  have hD : D 3 = false:=z.F
  have d2 : D 2 = true:=z.p 0 _ R R
  have I:=((z.M.chnF (pre:=[_,_,_,_]) hD).chnT (pre:=[_,_,_,_]) d2).pl4
  exact Zra H I Za ld R o_2 t_3 λw a I H=>⟨_,_,R,H,M.qTogS (mk1:=[_]) (mk2:=[_,_]) I R (Ze8 (l:=[]) offN),trivial⟩
 ·intro a w A D z
  have H:=z.E
  have hD : D 6 = false:=z.F
  have d1 : D 1 = true:=z.p 0 _ R R
  have d3 : D 3 = true:=z.p 1 _ R R
  have hM0:=z.M
  have I:=(z.M.su3 d1).chnT (pre:=[_,_,_,_]) d3
  obtain ⟨ae,af,ag,bu,bd,be,bg⟩:=Jv (I.ro (pre:=[_,_,_]) noB)
  have bh : (A 1) = (vcV ae af ag ay):=yi bu (z.G 1 (by assumption) _ R).2
  refine Zn H (Ze1 (ym (lk R bh) (ym R (ym R (ym R evsN))))) (cbm func39) (qx _ ay ae bd af be ag bg ([108,97,98,101,108] : List UInt8) (A 3) (I.sl4) j7 n (I.sl2) W.2 B en) ?_
  rintro _ w a ⟨f4,f5,f7,rfl,hFr,hK⟩ H
  have I:=BQ (x:=B.1) (hM0.add hK hFr) sio sio sio
  have hsD : D 12 = false:=Kb (j:=12) (k:=2) z.c R R R hD
  have I:=M.dOff (its:=_ :: [raw O (enc W.2),raw N (enc U.2),osl NoB j7 n]) (mk1:=([mkO 1 (λv=>own NoB ay (Value.cells v).toList),mkN [(3,λv=>osl NoB xu v),(2,λv=>osz NoB xu v)],mkO 6 (λv=>own NoB B.1 (Value.cells (Uj v 0)).toList)] : Mk)) (mk2:=([] : Mk)) (i:=11) (s:=12) (k:=6) (z:=cat xa) (f:=(λv=>(Value.cells (Uj v 0)).toList)) I hsD
  exact ⟨_,_,R,H,M.dOn (its:=[raw O (enc W.2),raw N (enc U.2),osl NoB j7 n]) (mk1:=([mkO 1 (λv=>own NoB ay (Value.cells v).toList),mkN [(3,λv=>osl NoB xu v),(2,λv=>osz NoB xu v)],mkO 6 (λv=>own NoB B.1 (Value.cells (Uj v 0)).toList)] : Mk)) (mk2:=([] : Mk)) (i:=11) (s:=12) (k:=6) (z:=cat xa) (f:=(λv=>(Value.cells (Uj v 0)).toList)) (M.qFill (its:=[raw O (enc W.2),raw N (enc U.2),osl NoB j7 n]) (mk1:=[_,_]) (mk2:=[_]) (f:=(λv=>own NoB B.1 (Value.cells (Uj v 0)).toList)) I R hD) hsD dd_,⟨R,⟨_,R⟩⟩⟩
 ·intro a w A D z
  have H:=z.E
  have d6 : D 6 = true:=z.p 0 _ R R
  have g6:=z.G 6 d6 _ R
  have f6 : A 6 = (Value.tuple [Uj (A 6) 0,vI B.2.1,vI B.2.2].toArray):=g6.2.1
  exact Zd H (lk R f6) λa H=>⟨t_6 _ _,Zfe d6 Zg1,_,R,H⟩
 ·intro a w A D z
  have H:=z.E
  have d7 : D 7 = true:=z.p 0 _ R R
  have d6 : D 6 = true:=z.c 7 _ _ R (List.mem_of_getElem? (i:=0) R) R d7
  exact ZM H Za ld R R λa H=>⟨t_6 _ _,Zfe d6 Zg1,_,R,H⟩
 ·intro a w A D z
  have H:=z.E
  have hD : D 11 = false:=z.F
  have I:=z.M
  refine Zx H I YX λf8 w a I H=>?_
  have hs : D 12 = false:=Kb (j:=12) (k:=0) z.c R R R hD
  exact ⟨_,_,R,H,M.qAllocD (mk1:=[_,_,_]) (mk2:=[]) I R hD hs dd_,trivial⟩
 ·intro a w A D z
  have H:=z.E
  have hD : D 12 = false:=z.F
  have cm : D 11 = true:=z.p 0 _ R R
  have d8 : D 8 = true:=z.p 1 _ R R
  have g8:=z.G 8 d8 _ R
  have d6 : D 6 = true:=g8.1 6 (show 6 ∈ [6] by decide)
  have I:=z.M.sure (pre:=[_,_,_,_,_]) d6
  obtain ⟨o,q,y,bu,bi,bj,bk⟩:=Jv (I.ro (pre:=[_,_,_,_,_]) noB)
  have a1 : (Uj (A 6) 0) = (vcV o q y B.1):=yi bu (z.G 6 (by assumption) _ R).2.2
  obtain ⟨f9,cc,I⟩:=M.openCellF (pre:=[_,_,_,_,_,_]) I cm hD
  refine Zk (seg:=cV o q y B.1) (cs':=cV o q y B.1) H I Za (lk R cc) (lk R a1) R YX cq (q_1 cq cq) (Z0 (cc1 (o_4 bi) (cc1 (t_1 (B.1.Next : Int)) (cc1 (o_4 bj) (cc1 (o_4 bk) (cc1 (t_1 _) cc0)))))) (q_2 cq cq) λw a I H=>?_
  have I:=(M.recell I (show _ = (Value.cells (Uj (A 6) 0)).toList from by rw [a1]; rfl)).unsure (pre:=[_,_,_,_,_,_]) d6
  exact ⟨undef,_,R,Env.dummy H dd_,M.qStoreD (its:=[raw O (enc W.2),raw N (enc U.2),osl NoB j7 n]) (mk1:=[_,_,_]) (mk2:=[]) (i:=11) (s:=12) (k:=6) (z:=cat xa) (f:=(λv=>(Value.cells (Uj v 0)).toList)) I R cm cc dd_ dd_,trivial⟩
 intro a w A D H I hG bp
 have d1:=bp 1 dd_
 have d3:=bp 3 dd_
 have d6:=bp 6 dd_
 have cm:=bp 11 dd_
 have fq:=bp 12 dd_
 have I:=((I.su3 d1).chnT (pre:=[_,_,_,_]) d3).sure (pre:=[_,_,_,_,_]) d6
 obtain ⟨ga,ep,I⟩:=M.openCellT (pre:=[_,_,_,_,_,_]) I cm fq
 obtain ⟨ae,af,ag,bu,_,_,_⟩:=Jv (I.ro (pre:=[_,_,_,_]) noB)
 have bh : (A 1) = (vcV ae af ag ay):=yi bu (hG 1 d1 _ R).2
 have I:=I.pl4
 have I:=BT (I.recown (congrArg (λv=>(Value.cells v).toList) bh))
 obtain ⟨o,q,y,bu,_,_,_⟩:=Jv (I.ro (pre:=[_,_,_,_,_,_,_,_]) noB)
 have a1 : (Uj (A 6) 0) = (vcV o q y B.1):=yi bu (hG 6 d6 _ R).2.2
 have I:=I.pl8
 have I:=(BT (I.recown (congrArg (λv=>(Value.cells v).toList) a1))).pl6
 have I:=M.recell (c':=cV o q y B.1) I (congrArg (λv=>(Value.cells v).toList) a1)
 have H:=H.setq (t:=223) R bh
 have H:=H.setq (t:=229) R a1
 have H:=H.setq (t:=33) R ep
 refine Zc H R λa H=>Zf (Zw (s_2 (Zb (Zd H R λa H=>Zm H R R R λa H=>Ze ?_))))
 refine c_if H R e ?_ ?_
 ·intro c7 e
  refine Zb (Zc H R λa H=>Ze ?_)
  obtain rfl:=o_1 e
  exact u_2 (ZA (kr1 H R R I.kept))
 intro c7 e
 refine t_2 (Zw (s_2 (Zb (Zu H R ZD R I.ra8 (u_1 _) λa H=>Zu H R ZD R I.ra7 (u_1 _) λa H=>Zkc H Za ld R R (K4 u_3 ty5 R false R dd_ (QO t_3)) dd_ (by kernel_rfl) λa H=>Ze ?_))))
 refine c_if H R e ?_ ?_
 ·intro c8 e
  refine Zb (Zc H R λa H=>Ze ?_)
  obtain rfl:=o_1 e
  exact u_2 (ZA (kr1 H R R I.kept))
 intro c8 e
 refine t_2 (Zw (Zb (Zu H R YX R I.ra0 cq λa H=>Zu H R ZD R I.ra7 (u_1 _) λa H=>?_)))
 obtain ⟨bb,er,e⟩:=p_1 e
 refine Zn H R (cbm func41) (kj _ B.1 o (I.ro (pre:=[_]) noB) q (I.rn2) y (I.ro (pre:=[_,_,_]) noB) W.2 bb er) ?_
 rintro v w a ⟨cd,cf,cg,rfl,hFr,hK⟩ H
 have I:=I.add hK hFr
 refine Zd H R λa H=>ZM H Za ld R R λa H=>ZM H Za ld R R λa H=>Zx H I YX λgb w a I H=>Zk (seg:=cV cd cf cg bb.1) (cs':=cV cd cf cg bb.1) H I Za R R R YX cq (q_1 cq cq) (Z0 (cc1 (o_4 (I.sl1)) (cc1 (t_1 (bb.1.Next : Int)) (cc1 (o_4 (I.sl2)) (cc1 (o_4 (I.sl3)) (cc1 (t_1 _) cc0)))))) (q_2 cq cq) λw a I H=>Zc H R λa H=>Ze (Zb (Zu H R YX R I.ra0 cq λa H=>Zd H R λa H=>Zu H R ZD R I.ra12 (u_1 _) λa H=>?_))
 obtain ⟨ba,es,e⟩:=p_1 e
 refine Zn H R (cbm func42) (qw _ bb.1 cd (I.sl1) cf (I.sl2) cg (I.sl3) B.2.1 U.2 ba es) ?_
 rintro v w a ⟨b1,b2,b3,rfl,hFr,hK⟩ H
 have I:=I.add hK hFr
 refine Zd H R λa H=>ZM H Za ld R R λa H=>ZM H Za ld R R λa H=>Zx H I YX λgc w a I H=>Zk (seg:=cV b1 b2 b3 ba.1) (cs':=cV b1 b2 b3 ba.1) H I Za R R R YX cq (q_1 cq cq) (Z0 (cc1 (o_4 (I.sl1)) (cc1 (t_1 (ba.1.Next : Int)) (cc1 (o_4 (I.sl2)) (cc1 (o_4 (I.sl3)) (cc1 (t_1 _) cc0)))))) (q_2 cq cq) λw a I H=>Zc H R λa H=>Ze (Zb (Zu H R YX R I.ra0 cq λa H=>Zd H R λa H=>?_))
 obtain ⟨ch,et,e⟩:=p_1 e
 refine Zn H R (cbm func43) (jH _ ba.1 b1 (I.sl1) b2 (I.sl2) b3 (I.sl3) B.2.1 ch et) ?_
 rintro v w a ⟨eu,rfl,hFr,hK⟩ H
 have I:=I.add hK hFr
 refine Zd H R λa H=>ZM H Za ld R R λa H=>ZM H Za ld R R λa H=>Zc H R λa H=>Zc H R λa H=>Ze (Zb (Zu H R YX R I.ra1 cq λa H=>?_))
 obtain ⟨cr,ew,e⟩:=p_1 e
 refine Zn H R (cbm func44) (qI _ ba.1 b1 (I.sl2) b2 (I.sl3) b3 (I.sl4) cr ew) ?_
 rintro v w a ⟨gd,rfl,hFr,hK⟩ H
 have I:=I.add hK hFr
 refine Zd H R λa H=>ZM H Za ld R R λa H=>ZM H Za ld R R λa H=>Zc H R λa H=>Zc H R λa H=>Ze ?_
 obtain ⟨ex,b,c9⟩:=p_1 e
 refine ZG (λa w=>Env 285 a [(2,vT ex)] ∧ M (Old w0) w0 w []) ?_ ?_
 ·refine s_1 (Zd H R λa H=>Zm H R R R λa H=>Zd H R λa H=>?_)
  refine Yq (bb.2 == 0) (λam=>?_) (λam=>?_)
  ·have b:=Zt b am
   refine Zl H (Zh H R (lkb R am)) dd_ R λa H=>Ye H (Zh H R (lkb R am)) dd_ R R R λa H=>Z2 H (lkb R am) R λa H=>Zd H R λa H=>?_
   refine Yq (ba.2 == 0) (λan=>?_) (λan=>?_)
   ·have b:=Zt b an
    refine Zl H (Zh H R (lkb R an)) dd_ R λa H=>Ye H (Zh H R (lkb R an)) dd_ R R R λa H=>Z2 H (lkb R an) R λa H=>Zd H R λa H=>?_
    refine Yq (ch.2 == 0) (λao=>?_) (λao=>?_)
    ·have b:=Zt b ao
     refine Zl H (Zh H R (lkb R ao)) dd_ R λa H=>Ye H (Zh H R (lkb R ao)) dd_ R R R λa H=>Z2 H (lkb R ao) R λa H=>Zd H R λa H=>?_
     refine Yq (cr.2 == 0) (λaa=>?_) (λaa=>?_)
     ·have b:=Zt b aa
      refine Zl H (Zh H R (lkb R aa)) dd_ R λa H=>Zl H (Zh H R (lkb R aa)) dd_ R λa H=>?_
      obtain ⟨ct,ey,b⟩:=p_1 b
      refine ZW H (Zh H R (lkb R aa)) dd_ R cb17 (J7 _ ch.1 eu (I.sl1) j7 n (I.sl (pre:=[_,_,_,_,_,_,_,_,_,_,_,_,_,_,_,_,_,_,_]) noB) ct ey) ?_
      rintro v w a ⟨rfl,hK⟩ H
      have I:=I.keep hK
      refine Z2 H (lkb R aa) R λa H=>Zd H R λa H=>?_
      refine Yq ct (λab=>?_) (λab=>?_)
      ·have b:=Zt b ab
       refine Zl H (Zh H R (lkb R ab)) dd_ R λa H=>Q7 H (Zh H R (lkb R ab)) dd_ R o_7 (I.sl0) λa H=>Ye H (Zh H R (lkb R ab)) dd_ R R R λa H=>Z2 H (lkb R ab) R λa H=>Zc H R λa H=>Zf ?_
       obtain rfl:=o_1 b
       refine Zi ?_
       have I:=I.f_0
       exact ⟨H.s,I⟩
      have b:=Zs b ab
      refine k_s H ab R R R λa H=>k_s H ab R R R λa H=>k_s H ab R R R λa H=>ZZ H (lkb R ab) R λa H=>Zc H R λa H=>Zf ?_
      obtain rfl:=o_1 b
      refine Zi ?_
      have I:=I.f_0
      exact ⟨H.s,I⟩
     have b:=Zs b aa
     refine k_s H aa R R R λa H=>k_s H aa R R R λa H=>k_s H aa R R R λa H=>ZZ H (lkb R aa) R λa H=>Zd H R λa H=>Zj H R R R dd_ λa H=>Zj H R R R dd_ λa H=>Zj H R R R dd_ λa H=>ZZ H R R λa H=>Zc H R λa H=>Zf ?_
     obtain rfl:=o_1 b
     refine Zi ?_
     have I:=I.f_0
     exact ⟨H.s,I⟩
    have b:=Zs b ao
    refine k_s H ao R R R λa H=>k_s H ao R R R λa H=>ZZ H (lkb R ao) R λa H=>Zd H R λa H=>Zj H R R R dd_ λa H=>Zj H R R R dd_ λa H=>Zj H R R R dd_ λa H=>ZZ H R R λa H=>Zd H R λa H=>Zj H R R R dd_ λa H=>Zj H R R R dd_ λa H=>Zj H R R R dd_ λa H=>?_
    refine ZZ H R R λa H=>Zc H R λa H=>Zf ?_
    obtain rfl:=o_1 b
    refine Zi ?_
    have I:=I.f_0
    exact ⟨H.s,I⟩
   have b:=Zs b an
   refine k_s H an R R R λa H=>k_s H an R R R λa H=>ZZ H (lkb R an) R λa H=>Zd H R λa H=>Zj H R R R dd_ λa H=>Zj H R R R dd_ λa H=>ZZ H R R λa H=>Zd H R λa H=>Zj H R R R dd_ λa H=>Zj H R R R dd_ λa H=>Zj H R R R dd_ λa H=>ZZ H R R λa H=>?_
   refine Zd H R λa H=>Zj H R R R dd_ λa H=>Zj H R R R dd_ λa H=>Zj H R R R dd_ λa H=>ZZ H R R λa H=>Zc H R λa H=>Zf ?_
   obtain rfl:=o_1 b
   refine Zi ?_
   have I:=I.f_0
   exact ⟨H.s,I⟩
  have b:=Zs b am
  refine k_s H am R R R λa H=>k_s H am R R R λa H=>ZZ H (lkb R am) R λa H=>Zd H R λa H=>Zj H R R R dd_ λa H=>Zj H R R R dd_ λa H=>ZZ H R R λa H=>Zd H R λa H=>Zj H R R R dd_ λa H=>Zj H R R R dd_ λa H=>ZZ H R R λa H=>Zd H R λa H=>?_
  refine Zj H R R R dd_ λa H=>Zj H R R R dd_ λa H=>Zj H R R R dd_ λa H=>ZZ H R R λa H=>Zd H R λa H=>Zj H R R R dd_ λa H=>Zj H R R R dd_ λa H=>Zj H R R R dd_ λa H=>ZZ H R R λa H=>Zc H R λa H=>Zf ?_
  obtain rfl:=o_1 b
  refine Zi ?_
  have I:=I.f_0
  exact ⟨H.s,I⟩
 rintro a w ⟨H,I⟩
 obtain rfl:=o_1 c9
 exact u_2 (kr1 H R R I.kept)
end

end Go.Proofs.YtfhhlkkhcoaapaaGreat
