/- The walk of what the law reaches: contracts of functions. -/
import Derived.Test.YtfhhlkkhcoaapaaGreatC2
set_option linter.unusedVariables false
set_option linter.unusedSimpArgs false
set_option maxRecDepth 20000
set_option maxHeartbeats 400000
namespace Go.Proofs.YtfhhlkkhcoaapaaGreat
open Go Go.Proofs.Tryz
open Flat (enc)
noncomputable section
theorem WG (W : World) (p0 : (Ref Gengine)) (X : Value) (ac : Ro W p0 [X]) (L : GVault) (h : Value) (Y : Ro W L.Keys [h]) (n : Value) (an : Ro W L.Records [n]) (o : Value) (ao : Ro W L.Events [o]) (e : GRecord) (b : Value) (O : Ro W e.Label [b]) (d : Value) (Z : Ro W e.Body [d]) (r : V32) (J : YU p0 L e = some r) :
  Calls prog 140 [X,vcV h n o L,vcR b d e].toArray W (Rt W (Value.agg (enc r).toArray)):=by
 refine ce func140 ?_
 intro a H
 have I:=M.start W
 unfold YU at J
 refine Zb (Z1 (cs:=cV h n o L) H I Za ld R R λb1 w a I H=>Z1 (cs:=cR b d e) H I Za ld R R λK w a I H=>Zv H I ZW λU w a I H=>Ze (Zb (Zm H R (Xw) λa H=>ZB (v:=h) H R TF R (at_0 I.ra2) λa H=>Zm H R (TB) λa H=>ZB (v:=(vI e.Version)) H R ty2 R (at_1 I.ra1) λa H=>?_)))
 obtain ⟨x7,af,J⟩:=bix J
 refine Yp H R R s_3 ZL (I.rd Y) af.1 λa H=>Zq H R ZL R (YG (I.rd Y) af.2) (u_1 _) λa H=>?_
 obtain ⟨x,ap,J⟩:=p_1 J
 refine Zp H R Zhz (KS _ x7 129 x ap) ?_
 rintro y w a ⟨_,rfl,hFr,hK⟩ H
 have I:=I.add hK hFr
 obtain ⟨q,ag,J⟩:=p_1 J
 refine z6 H Za ld R o_4 (I.sl0) (Jb ag).1 dd_ λa H=>Zq H R ZL R (qh (I.sl0) ag dd_) (u_1 _) λa H=>Zv H I ZL λA w a I H=>Zl (seg:=enc q) (cs':=enc q) H I Za R R R ZL (u_1 _) (zle flq) (s_1 _) (Zh flq) λw a I H=>Ze ?_
 obtain ⟨aq,B,ah⟩:=p_1 J
 refine ZI (λa w=>Env 39 a [(6,ptr U 0)] ∧ M (Old W) W w [raw U (enc aq)]) ?_ ?_
 ·obtain ⟨C,ar,B⟩:=p_1 B
  obtain ⟨au,ad,B⟩:=p_1 B
  have ai:=Ku ad -- ^
  refine Ys (its:=[raw A (enc q),osl NoB x y,raw U xm,raw K (cR b d e),raw b1 (cV h n o L)]) (mk:=([mkO 4 (λv=>osl NoB C v),mkO 8 (λv=>osl NoB (([ZC e.Version] : List UInt8) : List UInt8) v),mkO 15 (λv=>osl NoB (([ZC (e.Label.length : Int)] : List UInt8) : List UInt8) v),mkL 20 [4,8,15] 6 (λus=>[us.getD 0 undef,us.getD 1 undef,Yg (.slice (some ⟨K,0 + 2,none⟩) 16 16) (xi).toNat xy.toNat 1,us.getD 2 undef,b,d])] : Mk)) [17,18,19,20,21,22,23,24,25,26,27,28,29,30,31,32,33,34,35,36,37] Yx R R dd_ R H (λu=>M.qE (M.qE (M.qE (M.qE (M.q0 I.drew u) emL) emO) emO) emO) (q_m (λ_=>R) (qsP (λz=>Zx z.E Za ld R ZL R (z.M.ra0) (u_1 _) (kr0 R)) (qsP (λz=>Zi z.E Za ld R (VC) (kr0 R)) (qsP (λz=>Zz (v:=(vI e.Number)) z.E Za ld R ty2 R (at_0 (z.M.ra3)) (kr0 R)) (q_t ?_ (qsP (λz=>Zi z.E Za ld R (TB) (kr0 R)) (qsP (λz=>Zz (v:=(vI e.Version)) z.E Za ld R ty2 R (at_1 (z.M.ra3)) (kr0 R)) (qsP (λz=>Y5 z.E Za ld R o_5 u_3 (kr0 R)) (q_t ?_ (qsP (λz=>Zi z.E Za ld R (Ho) (kr0 R)) (qsP (λz=>VA (N:=16) z.E Za ld R R R R R o_4 ty5 ai (kr0 R)) (qsP (λz=>Zi z.E Za ld R (Ka) (kr0 R)) (qsP (λz=>Zz (v:=b) z.E Za ld R Wo R (at_3 (z.M.ra3)) (kr0 R)) (qsP (λz=>W2 z.E Za ld R o_2 (z.M.rd O) (kr0 R)) (qsP (λz=>Y5 z.E Za ld R s_5 u_3 (kr0 R)) (q_t ?_ (qsP (λz=>Zi z.E Za ld R (Ka) (kr0 R)) (qsP (λz=>Zz (v:=b) z.E Za ld R Wo R (at_3 (z.M.ra3)) (kr0 R)) (qsP (λz=>Zi z.E Za ld R (Qh) (kr0 R)) (qsP (λz=>Zz (v:=d) z.E Za ld R Wo R (at_4 (z.M.ra3)) (kr0 R)) (q_t ?_ qs0))))))))))))))))))))) ?_
  ·intro a w G D z
   have H:=z.E
   have hD : D 4 = false:=z.F
   have hsL : D 20 = false:=VE (j:=20) (k:=0) z.c R R R hD
   have hM0:=z.M
   have I:=z.M
   refine Zp H R Zir (Jd _ e.Number 4 C ar) ?_
   rintro _ w a ⟨_,rfl,hFr,hK⟩ H
   have I:=hM0.add hK hFr
   have I:=M.litOff (its:=_ :: [raw A (enc q),osl NoB x y,raw U xm,raw K (cR b d e),raw b1 (cV h n o L)]) (mk:=([mkO 4 (λv=>osl NoB C v),mkO 8 (λv=>osl NoB (([ZC e.Version] : List UInt8) : List UInt8) v),mkO 15 (λv=>osl NoB (([ZC (e.Label.length : Int)] : List UInt8) : List UInt8) v)] : Mk)) (i:=20) (ds:=[4,8,15]) (m:=6) (f:=(λus=>[us.getD 0 undef,us.getD 1 undef,Yg (.slice (some ⟨K,0 + 2,none⟩) 16 16) (xi).toNat xy.toNat 1,us.getD 2 undef,b,d])) I hsL
   exact ⟨_,_,R,H,M.litOn (its:=[raw A (enc q),osl NoB x y,raw U xm,raw K (cR b d e),raw b1 (cV h n o L)]) (mk:=([mkO 4 (λv=>osl NoB C v),mkO 8 (λv=>osl NoB (([ZC e.Version] : List UInt8) : List UInt8) v),mkO 15 (λv=>osl NoB (([ZC (e.Label.length : Int)] : List UInt8) : List UInt8) v)] : Mk)) (i:=20) (ds:=[4,8,15]) (m:=6) (f:=(λus=>[(us.getD 0 undef),(us.getD 1 undef),(Yg (.slice (some ⟨K,0 + 2,none⟩) 16 16) (xi).toNat xy.toNat 1),(us.getD 2 undef),b,d])) (M.qFill (its:=[raw A (enc q),osl NoB x y,raw U xm,raw K (cR b d e),raw b1 (cV h n o L)]) (mk1:=[]) (mk2:=[_,_]) (f:=(λv=>osl NoB C v)) I R hD) hsL dd_,trivial⟩
  ·intro a w G D z
   have H:=z.E
   have hD : D 8 = false:=z.F
   have hsL : D 20 = false:=VE (j:=20) (k:=1) z.c R R R hD
   have I:=z.M
   refine ZM (xs:=[.tmp 24]) (l:=([ZC e.Version] : List UInt8)) (vs:=[vB (ZC e.Version)]) H I Za ld R R o_2 ty5 R dd_ R λa0 w a I H=>?_
   have I:=M.litOff (its:=_ :: [raw A (enc q),osl NoB x y,raw U xm,raw K (cR b d e),raw b1 (cV h n o L)]) (mk:=([mkO 4 (λv=>osl NoB C v),mkO 8 (λv=>osl NoB (([ZC e.Version] : List UInt8) : List UInt8) v),mkO 15 (λv=>osl NoB (([ZC (e.Label.length : Int)] : List UInt8) : List UInt8) v)] : Mk)) (i:=20) (ds:=[4,8,15]) (m:=6) (f:=(λus=>[us.getD 0 undef,us.getD 1 undef,Yg (.slice (some ⟨K,0 + 2,none⟩) 16 16) (xi).toNat xy.toNat 1,us.getD 2 undef,b,d])) I hsL
   exact ⟨_,_,R,H,M.litOn (its:=[raw A (enc q),osl NoB x y,raw U xm,raw K (cR b d e),raw b1 (cV h n o L)]) (mk:=([mkO 4 (λv=>osl NoB C v),mkO 8 (λv=>osl NoB (([ZC e.Version] : List UInt8) : List UInt8) v),mkO 15 (λv=>osl NoB (([ZC (e.Label.length : Int)] : List UInt8) : List UInt8) v)] : Mk)) (i:=20) (ds:=[4,8,15]) (m:=6) (f:=(λus=>[(us.getD 0 undef),(us.getD 1 undef),(Yg (.slice (some ⟨K,0 + 2,none⟩) 16 16) (xi).toNat xy.toNat 1),(us.getD 2 undef),b,d])) (M.qFill (its:=[raw A (enc q),osl NoB x y,raw U xm,raw K (cR b d e),raw b1 (cV h n o L)]) (mk1:=[_]) (mk2:=[_]) (f:=(λv=>osl NoB (([ZC e.Version] : List UInt8) : List UInt8) v)) I R hD) hsL dd_,trivial⟩
  ·intro a w G D z
   have H:=z.E
   have hD : D 15 = false:=z.F
   have hsL : D 20 = false:=VE (j:=20) (k:=3) z.c R R R hD
   have I:=z.M
   refine ZM (xs:=[.tmp 31]) (l:=([ZC (e.Label.length : Int)] : List UInt8)) (vs:=[vB (ZC (e.Label.length : Int))]) H I Za ld R R o_2 ty5 R dd_ R λa1 w a I H=>?_
   have I:=M.litOff (its:=_ :: [raw A (enc q),osl NoB x y,raw U xm,raw K (cR b d e),raw b1 (cV h n o L)]) (mk:=([mkO 4 (λv=>osl NoB C v),mkO 8 (λv=>osl NoB (([ZC e.Version] : List UInt8) : List UInt8) v),mkO 15 (λv=>osl NoB (([ZC (e.Label.length : Int)] : List UInt8) : List UInt8) v)] : Mk)) (i:=20) (ds:=[4,8,15]) (m:=6) (f:=(λus=>[us.getD 0 undef,us.getD 1 undef,Yg (.slice (some ⟨K,0 + 2,none⟩) 16 16) (xi).toNat xy.toNat 1,us.getD 2 undef,b,d])) I hsL
   exact ⟨_,_,R,H,M.litOn (its:=[raw A (enc q),osl NoB x y,raw U xm,raw K (cR b d e),raw b1 (cV h n o L)]) (mk:=([mkO 4 (λv=>osl NoB C v),mkO 8 (λv=>osl NoB (([ZC e.Version] : List UInt8) : List UInt8) v),mkO 15 (λv=>osl NoB (([ZC (e.Label.length : Int)] : List UInt8) : List UInt8) v)] : Mk)) (i:=20) (ds:=[4,8,15]) (m:=6) (f:=(λus=>[(us.getD 0 undef),(us.getD 1 undef),(Yg (.slice (some ⟨K,0 + 2,none⟩) 16 16) (xi).toNat xy.toNat 1),(us.getD 2 undef),b,d])) (M.qFill (its:=[raw A (enc q),osl NoB x y,raw U xm,raw K (cR b d e),raw b1 (cV h n o L)]) (mk1:=[_,_]) (mk2:=[]) (f:=(λv=>osl NoB (([ZC (e.Label.length : Int)] : List UInt8) : List UInt8) v)) I R hD) hsL dd_,trivial⟩
  ·intro a w G D z
   have H:=z.E
   have hD : D 20 = false:=z.F
   have d4 : D 4 = true:=z.p 0 _ R R
   have d8 : D 8 = true:=z.p 1 _ R R
   have ab : D 15 = true:=z.p 3 _ R R
   have I:=((z.M.sure (pre:=[_,_,_,_,_]) d4).sure (pre:=[_,_,_,_,_,_]) d8).sure (pre:=[_,_,_,_,_,_,_]) ab
   refine QE (xs:=[.tmp 21,.tmp 25,.tmp 27,.tmp 32,.tmp 34,.tmp 36]) (vs:=[G 4,G 8,Yg (.slice (some ⟨K,0 + 2,none⟩) 16 16) (xi).toNat xy.toNat 1,G 15,b,d]) H I Za ld R R o_6 Wo dd_ (Ws (Z5 (I.sl5)) (Ws (Z5 (I.sl6)) (Ws (Z5 (Xl (At.sat (at_2 I.ra3) (by simp) dd_) ad)) (Ws (Z5 (I.sl7)) (Ws (Z5 (I.rd O)) (Ws (Z5 (I.rd Z)) BP)))))) λa2 w a I H=>?_
   have I:=((I.unsure (pre:=[_,_,_,_,_,_,_,_]) ab).unsure (pre:=[_,_,_,_,_,_,_]) d8).unsure (pre:=[_,_,_,_,_,_]) d4
   exact ⟨_,_,R,H,M.litFill (its:=[raw A (enc q),osl NoB x y,raw U xm,raw K (cR b d e),raw b1 (cV h n o L)]) (mk:=([mkO 4 (λv=>osl NoB C v),mkO 8 (λv=>osl NoB (([ZC e.Version] : List UInt8) : List UInt8) v),mkO 15 (λv=>osl NoB (([ZC (e.Label.length : Int)] : List UInt8) : List UInt8) v)] : Mk)) (i:=20) (ds:=[4,8,15]) (m:=6) (f:=(λus=>[us.getD 0 undef,us.getD 1 undef,Yg (.slice (some ⟨K,0 + 2,none⟩) 16 16) (xi).toNat xy.toNat 1,us.getD 2 undef,b,d])) I R hD dd_,trivial⟩
  intro a w G D H I hG T
  have d4:=T 4 dd_
  have d8:=T 8 dd_
  have ab:=T 15 dd_
  have av:=T 20 dd_
  have I:=((((I.sure (pre:=[_,_,_,_,_]) d4).sure (pre:=[_,_,_,_,_,_]) d8).sure (pre:=[_,_,_,_,_,_,_]) ab).sure (pre:=[_,_,_,_,_,_,_,_]) av).pl
  obtain ⟨aw,ax,I⟩:=M.litOpen I
  have H:=H.setq (t:=37) R ax
  obtain ⟨ae,ay,B⟩:=p_1 B
  refine Zp H R (cbm func236) (Hf _ p0 X (I.rdo ac) q ([C,([ZC e.Version] : List UInt8),au,([ZC (e.Label.length : Int)] : List UInt8),e.Label,e.Body] : xz) (Value.slice (some ⟨aw,0,none⟩) 6 6) (AX I.ra0 (I.rawLt (pre:=[])) ⟨I.sl6,I.sl7,Xl (At.sat (at_2 I.ra4) (by simp) dd_) ad,I.sl (pre:=[_,_,_,_,_,_,_,_]) noB,I.rdo O,I.rdo Z,trivial⟩ R) ae ay) ?_
  rintro v w a ⟨rfl,hK⟩ H
  have I:=(I.keep hK).pl3
  refine Zl (seg:=enc ae) (cs':=enc ae) H I Za R R R ZW (u_1 _) (zle flq) (s_1 _) (Zh flq) λw a I H=>Zj ?_
  obtain rfl:=o_1 B
  refine Zk ?_
  have I:=M.fst (l:=[_]) I
  exact ⟨H.s,I⟩
 rintro a w ⟨H,I⟩
 obtain rfl:=o_1 ah
 have aj : Z7 prog _ _ (.cell 6 32) _:=ZE H R ZW R I.ra0 (u_1 _) R
 exact p_3 (ZY H R aj ⟨_,R,R,I.kept⟩)
def X1 (f : (Ref Gengine)) (h : V16) (i : V16) (j : Int) (b : Int × List UInt8) : Option (Fl (Int × List UInt8) (List UInt8)) :=
 if decide ((b.2.length : Int) < j) then ((slc i.toList (0 : Int) (16 : Int)).bind λd=>(Vs f h ([d,([ZC (Vj b.1 8),ZC b.1] : List UInt8)] : (List (List UInt8)))).bind λe=>(slc e.toList (0 : Int) (32 : Int)).bind λc=>(app 1 b.2 c).bind λk=>some (Fl.nx (wr (b.1 + 1),b.2 ++ c))) else (some (Fl.ex b.2))
def Vg (e : (Ref Gengine)) (f : V16) (h : V16) (d : Int) : Option ((List UInt8)) :=
 (ZQ (X1 e f h d) (0,([] : List UInt8))).bind λi=>(slc i (0 : Int) d).bind λb=>(Yv b).bind λc=>some c
theorem B3 (A : World) (p0 : (Ref Gengine)) (o : Value) (L : Ro A p0 [o]) (B : V16) (C : V16) (W : Int) (r : List UInt8) (J : Vg p0 B C W = some r) :
  Calls prog 237 [o,Value.agg (enc B).toArray,Value.agg (enc C).toArray,vI W].toArray A (e_r λv w'=>(∃ y1 : Value,v = y1 ∧ Fr A w' [osl NoB r y1] ∧ Kept (Old A) A w')):=by
 refine ce func237 ?_
 intro a H
 have I:=M.start A
 unfold Vg at J
 refine Zb (Z1 (cs:=enc B) H I Za ld R R λO w a I H=>Z1 (cs:=enc C) H I Za ld R R λq w a I H=>Zc H R λa H=>Ze (Zb (ZM (xs:=[]) (l:=xv) (vs:=[]) H I Za ld R R o_2 ty5 R dd_ R λu5 w a I H=>Zc H R λa H=>Ze (s_2 (Zb (Zc H R λa H=>Ze ?_))))))
 obtain ⟨j7,ag,x⟩:=p_1 J
 refine ZV (λa w=>∃ G : Value,Env 37 a [(3,vI W),(9,G)] ∧ M (Old A) A w [osl NoB j7 G]) ?_ ?_
 ·refine p_2 ?_
  have I:=I.pl2.pl2
  refine ZP (λ(b : Int × List UInt8) a w=>∃ h : Value,Env 37 a [(0,o),(3,vI W),(5,ptr O 0),(6,ptr q 0),(9,h),(10,vI b.1)] ∧ M (Old A) A w [raw q (enc C),raw O (enc B),osl NoB b.2 h]) ag ⟨u5,H.s,I⟩ ?_
  rintro b a w ⟨h,H,I⟩ a1 d X
  unfold X1 at d
  refine s_2 (Zb (Zd H R λa H=>Yu H R o_2 (I.sl2) λa H=>Zd H R λa H=>Zn H R R R λa H=>Ze ?_))
  refine c_if H R d ?_ ?_
  ·intro Y d
   refine u_2 (ZA (s_2 (p_2 (s_2 ?_))))
   obtain ⟨ah,T,d⟩:=p_1 d
   have Z:=Ku T -- ^
   obtain ⟨K,ai,d⟩:=p_1 d
   refine Ys (its:=[raw q (enc C),raw O (enc B),osl NoB b.2 h]) (mk:=([mkO 8 (λv=>osl NoB (([ZC (Vj b.1 8),ZC b.1] : List UInt8) : List UInt8) v),mkO 11 (λv=>Wk v xm),mkL 9 [8] 2 (λus=>[Yg (.slice (some ⟨q,0,none⟩) 16 16) (xi).toNat xy.toNat 1,us.getD 0 undef])] : Mk)) [19,20,21,22,23,24,25,26,27,28,29,11] Yx R R dd_ R H (λu=>M.qE (M.qE (M.qE (M.q0 I.drew u) emL) emO) emO) (q_m (λ_=>R) (qsP (λz=>Zx z.E Za ld R ZL R (z.M.ra1) (u_1 _) (kr0 R)) (qsP (λz=>VA (N:=16) z.E Za ld R R R R R o_4 ty5 Z (kr0 R)) (q_m (λ_=>R) (qsP (v:=(vI (Vj b.1 8))) (λz=>A2 z.E Za ld R R (BD _ _ dd_) (kr0 R)) (qsP (λz=>Y5 z.E Za ld R s_5 u_3 (kr0 R)) (q_m (λ_=>R) (qsP (λz=>Y5 z.E Za ld R s_5 u_3 (kr0 R)) (q_t ?_ (q_t ?_ (qsP (v:=(Value.agg (enc K).toArray)) ?_ (q_t ?_ qs0)))))))))))) ?_
   ·intro a w n D z
    have H:=z.E
    have hD : D 8 = false:=z.F
    have hsL : D 9 = false:=VE (j:=9) (k:=1) z.c R R R hD
    have I:=z.M
    refine ZM (xs:=[.tmp 24,.tmp 26]) (l:=([ZC (Vj b.1 8),ZC b.1] : List UInt8)) (vs:=[vB (ZC (Vj b.1 8)),vB (ZC b.1)]) H I Za ld R R o_2 ty5 R dd_ R λa2 w a I H=>?_
    have I:=M.litOff (its:=_ :: [raw q (enc C),raw O (enc B),osl NoB b.2 h]) (mk:=([mkO 8 (λv=>osl NoB (([ZC (Vj b.1 8),ZC b.1] : List UInt8) : List UInt8) v),mkO 11 (λv=>Wk v xm)] : Mk)) (i:=9) (ds:=[8]) (m:=2) (f:=(λus=>[Yg (.slice (some ⟨q,0,none⟩) 16 16) (xi).toNat xy.toNat 1,us.getD 0 undef])) I hsL
    exact ⟨_,_,R,H,M.litOn (its:=[raw q (enc C),raw O (enc B),osl NoB b.2 h]) (mk:=([mkO 8 (λv=>osl NoB (([ZC (Vj b.1 8),ZC b.1] : List UInt8) : List UInt8) v),mkO 11 (λv=>Wk v xm)] : Mk)) (i:=9) (ds:=[8]) (m:=2) (f:=(λus=>[(Yg (.slice (some ⟨q,0,none⟩) 16 16) (xi).toNat xy.toNat 1),(us.getD 0 undef)])) (M.qFill (its:=[raw q (enc C),raw O (enc B),osl NoB b.2 h]) (mk1:=[]) (mk2:=[_]) (f:=(λv=>osl NoB (([ZC (Vj b.1 8),ZC b.1] : List UInt8) : List UInt8) v)) I R hD) hsL dd_,trivial⟩
   ·intro a w n D z
    have H:=z.E
    have hD : D 9 = false:=z.F
    have U : D 8 = true:=z.p 1 _ R R
    have I:=z.M.sure (pre:=[_,_,_]) U
    refine QE (xs:=[.tmp 21,.tmp 27]) (vs:=[Yg (.slice (some ⟨q,0,none⟩) 16 16) (xi).toNat xy.toNat 1,n 8]) H I Za ld R R o_6 Wo dd_ (Ws (Z5 (Xl (At.sat I.ra0 (by simp) dd_) T)) (Ws (Z5 (I.sl3)) BP)) λa3 w a I H=>?_
    have I:=I.unsure (pre:=[_,_,_,_]) U
    exact ⟨_,_,R,H,M.litFill (its:=[raw q (enc C),raw O (enc B),osl NoB b.2 h]) (mk:=([mkO 8 (λv=>osl NoB (([ZC (Vj b.1 8),ZC b.1] : List UInt8) : List UInt8) v),mkO 11 (λv=>Wk v xm)] : Mk)) (i:=9) (ds:=[8]) (m:=2) (f:=(λus=>[Yg (.slice (some ⟨q,0,none⟩) 16 16) (xi).toNat xy.toNat 1,us.getD 0 undef])) I R hD dd_,trivial⟩
   ·intro a w n D z
    have H:=z.E
    have d9 : D 9 = true:=z.p 2 _ R R
    have U : D 8 = true:=z.c 9 _ _ R (List.mem_of_getElem? (i:=1) R) R d9
    have I:=((z.M.sure (pre:=[_,_,_]) U).sure (pre:=[_,_,_,_,_]) d9).pl
    obtain ⟨aj,ak,I⟩:=M.litOpen I
    refine Zp H (evs_of (evsC R (evsC R (evsC (lk R ak) evsN)))) (cbm func236) (Hf _ p0 o (I.rdo L) B ([ah,([ZC (Vj b.1 8),ZC b.1] : List UInt8)] : xz) (Value.slice (some ⟨aj,0,none⟩) 2 2) (AX I.ra0 (I.rawLt (pre:=[])) ⟨Xl (At.sat I.ra1 (by simp) dd_) T,I.sl4,trivial⟩ R) K ai) ?_
    rintro v w a ⟨rfl,hK⟩ H
    exact ⟨hK,_,R,H⟩
   ·intro a w n D z
    have H:=z.E
    have hD : D 11 = false:=z.F
    have I:=z.M
    refine Zv H I ZW λa4 w a I H=>?_
    have I:=I.pack1 (it:=Wk _ xm) (λw w' fp ⟨b',e,k⟩ hb=>⟨b',e,YN w w' fp k hb⟩) (λfp k=>⟨_,R,k⟩)
    exact ⟨_,_,R,H,M.qFill (mk1:=[_]) (mk2:=[_]) (f:=λv=>Wk v xm) I R hD,trivial⟩
   intro a w n D H I hG y
   have U:=y 8 dd_
   have d9:=y 9 dd_
   have al:=y 11 dd_
   have I:=((I.sure (pre:=[_,_,_]) U).sure (pre:=[_,_,_,_]) al).pl
   obtain ⟨_,⟨am,aa,_⟩,_⟩:=I.head
   have I:=((I.pack1 YN (it:=raw am xm) (λfp ⟨b2,e2,k2⟩=>by rw [aa] at e2; simp [ptr] at e2; subst e2; exact k2)).sure (pre:=[_,_,_,_,_]) d9).pl
   obtain ⟨a6,ao,I⟩:=M.litOpen I
   have H:=H.setq (t:=28) R ao
   have H:=H.setq (t:=11) R aa
   have I:=I.pl1
   refine Zl (seg:=enc K) (cs':=enc K) H I Za R R R ZW (u_1 _) (zle flq) (s_1 _) (Zh flq) λw a I H=>Zj (ZA (t_1 (Zd H R λa H=>?_)))
   obtain ⟨a7,ab,d⟩:=p_1 d
   have ac:=Ku ab -- ^
   refine VA (N:=32) H Za ld R R R R R t_4 ty5 ac λa H=>?_
   obtain ⟨a8,ap,d⟩:=p_1 d
   obtain ⟨aq,rfl⟩:=ZU ap
   have I:=I.pl4
   refine ZX H I Za ld R R (Xl (At.sat I.ra1 (by simp) dd_) ab) o_2 ty5 R dd_ aq λar w a I H=>Zc H R λa H=>Zj (Yy (ZA (t_1 (Zd H R λa H=>Zn H R R R λa H=>Zc H R λa H=>Zj (Zk ?_)))))
   have I:=M.fst (l:=[_,_,_]) I.pl4.pl4
   exact ⟨_,ois d,ar,H.s,I⟩
  intro Y d
  refine s_4 (Zu (Zu (YE ?_)))
  obtain rfl:=X _ (ois d)
  refine Zk ?_
  have I:=M.fst (l:=[_]) I.pl2
  exact ⟨h,H.s,I⟩
 rintro a w ⟨G,H,I⟩
 refine ZA (Zb (Zd H R λa H=>Zd H R λa H=>?_))
 obtain ⟨au,ad,x⟩:=p_1 x
 refine Q2 H Za ld R R R R R o_2 ty5 (I.sl0) ad λa H=>?_
 obtain ⟨av,aw,x⟩:=p_1 x
 refine Zp H R cb91 (X3 _ au (Yg G (xi).toNat (W).toNat 1) (Xl (I.sl0) ad) av aw) ?_
 rintro ax w a ⟨_,rfl,hFr,hK⟩ H
 have I:=I.add hK hFr
 refine Zc H R λa H=>Ze ?_
 obtain rfl:=o_1 x
 have I:=M.fst (l:=[_]) I
 exact p_3 (ZY H R (Zy H R) ⟨_,R,ax,R,I.outF (ZK Yd),I.kept⟩)
def XF (e : List UInt8 × Int × Int) (b : Int × List UInt8) : Option (Fl (Int × List UInt8) (List UInt8)) :=
 if decide (b.1 < e.2.1) then ((idx e.1 b.1).bind λc=>(idx b.2 b.1).bind λd=>(idx b.2 b.1).bind λf=>some (Fl.nx (wr (b.1 + 1),b.2.set (b.1).toNat (d ^^^ c)))) else (some (Fl.ex b.2))
def Y9 (i : (Ref Gengine)) (j : GVault) (e : GRecord) (f : List UInt8) : Option ((List UInt8)) :=
 (Yv f).bind λk=>((idx j.Keys e.Version).bind λc=>(Vg i c e.Nonce (f.length : Int)).bind λb=>some (b,(b.length : Int),0) : Option (List UInt8 × Int × Int)).bind λh=>(ZQ (XF h) (h.2.2,k)).bind λd=>some d
theorem TD (c : World) (p0 : (Ref Gengine)) (n : Value) (Y : Ro c p0 [n]) (Z : GVault) (d : Value) (o : Ro c Z.Keys [d]) (e : Value) (al : Ro c Z.Records [e]) (h : Value) (am : Ro c Z.Events [h]) (q : GRecord) (j : Value) (an : Ro c q.Label [j]) (k : Value) (ao : Ro c q.Body [k]) (p3 : List UInt8) (t : Value) (x : Ro c p3 [t]) (r : List UInt8) (J : Y9 p0 Z q p3 = some r) :
  Calls prog 141 [n,vcV d e h Z,vcR j k q,t].toArray c (e_r λv w'=>(∃ y1 : Value,v = y1 ∧ Fr c w' [osl NoB r y1] ∧ Kept (Old c) c w')):=by
 refine ce func141 ?_
 intro a H
 have I:=M.start c
 unfold Y9 at J
 refine Zb (Z1 (cs:=cV d e h Z) H I Za ld R R λb1 w a I H=>Z1 (cs:=cR j k q) H I Za ld R R λb3 w a I H=>Zc H R λa H=>Ze (Zb (Zd H R λa H=>?_)))
 obtain ⟨r5,e6,J⟩:=p_1 J
 refine Zp H R cb91 (X3 _ p3 t (I.rdo x) r5 e6) ?_
 rintro u7 w a ⟨_,rfl,hFr,hK⟩ H
 have I:=I.add hK hFr
 refine Zc H R λa H=>Ze (s_2 ?_)
 obtain ⟨j8,y,ac⟩:=p_1 J
 refine ZI (λa w=>∃ A : Value,Env 41 a [(9,u7),(25,A),(26,vI j8.2.1),(27,vI j8.2.2)] ∧ M (Old c) c w [osl NoB r5 u7,osl NoB j8.1 A]) ?_ ?_
 ·obtain ⟨aq,T,y⟩:=bix y
  obtain ⟨L,ar,y⟩:=p_1 y
  refine Ys (its:=[osl NoB r5 u7,raw b3 (cR j k q),raw b1 (cV d e h Z)]) (mk:=([mkO 11 (λv=>osl NoB L v)] : Mk)) [14,15,16,17,18,19,20,21,22,23,24,25,26,27] Yx R R dd_ R H (λu=>M.qE (M.q0 I.drew u) emO) (q_m (λ_=>R) (qsP (λz=>Zi z.E Za ld R (Xw) (kr0 R)) (qsP (λz=>Zz (v:=d) z.E Za ld R TF R (at_0 (z.M.ra2)) (kr0 R)) (qsP (λz=>Zi z.E Za ld R (TB) (kr0 R)) (qsP (λz=>Zz (v:=(vI q.Version)) z.E Za ld R ty2 R (at_1 (z.M.ra1)) (kr0 R)) (qsP (λz=>Z6 z.E Za ld R R s_3 ZL (z.M.rd o) T.1 (kr0 R)) (qsP (λz=>Zx z.E Za ld R ZL R (YG (z.M.rd o) T.2) (u_1 _) (kr0 R)) (qsP (λz=>Zi z.E Za ld R (Ho) (kr0 R)) (qsP (λz=>Zx z.E Za ld R ZL R (at_2 (z.M.ra1)) (u_1 _) (kr0 R)) (q_m (λ_=>R) (qsP (λz=>W2 z.E Za ld R o_2 (z.M.rd x) (kr0 R)) (q_t ?_ (qsP (v:=(vI (L.length : Int))) ?_ (q_m (λ_=>R) qs0)))))))))))))) ?_
  ·intro a w B D z
   have H:=z.E
   have hD : D 11 = false:=z.F
   have hM0:=z.M
   have I:=z.M
   refine Zp H R (cbm func237) (B3 _ p0 n (I.rdo Y) aq q.Nonce (p3.length : Int) L ar) ?_
   rintro _ w a ⟨_,rfl,hFr,hK⟩ H
   have I:=hM0.add hK hFr
   exact ⟨_,_,R,H,M.qFill (mk1:=[]) (mk2:=[]) (f:=(λv=>osl NoB L v)) I R hD,trivial⟩
  ·intro a w B D z
   have H:=z.E
   have aa : D 11 = true:=z.p 0 _ R R
   have I:=z.M.sure (pre:=[_,_,_]) aa
   exact Yu H R o_2 (I.sl3) λa H=>⟨p_5 _ _,_,R,H⟩
  intro a w B D H I hG ad
  have aa:=ad 11 dd_
  have I:=I.sure (pre:=[_,_,_]) aa
  refine Zj ?_
  obtain rfl:=o_1 y
  refine Zk ?_
  have I:=M.fst (l:=[_,_]) I.pl3.pl1
  exact ⟨B 11,H.s,I⟩
 rintro a w ⟨A,H,I⟩
 obtain ⟨au,ae,af⟩:=p_1 ac
 refine ZV (λa w=>∃ N : Value,Env 41 a [(9,N)] ∧ M (Old c) c w [osl NoB au N]) ?_ ?_
 ·refine p_2 ?_
  have I:=I.pl1
  refine ZP (λ(O : Int × List UInt8) a w=>∃ C : Value,Env 41 a [(9,C),(25,A),(26,vI j8.2.1),(27,vI O.1)] ∧ M (Old c) c w [osl NoB j8.1 A,osl NoB O.2 C]) ae ⟨u7,H.s,I⟩ ?_
  rintro O a w ⟨C,H,I⟩ a0 b ag
  unfold XF at b
  refine Zb (Zn H R R R λa H=>Ze (s_2 ?_))
  refine c_if H R b ?_ ?_
  ·intro ah b
   refine u_2 (ZA (s_2 (p_2 (Zb (Zd H R λa H=>?_)))))
   obtain ⟨G,U,b⟩:=bix b
   refine Yp H R R o_2 ty5 (I.sl0) U.1 λa H=>ZB (v:=(vB G)) H R ty5 R (YG (I.sl0) U.2) λa H=>Zc H R λa H=>Zc H R λa H=>Ze (t_1 (Zd H R λa H=>Zd H R λa H=>?_))
   obtain ⟨K,W,b⟩:=bix b
   refine Yp H R R o_2 ty5 (I.sl1) W.1 λa H=>ZB (v:=(vB K)) H R ty5 R (YG (I.sl1) W.2) λa H=>Zd H R λa H=>Zn H R R (Uj K G) λa H=>?_
   obtain ⟨av,X,b⟩:=bix b
   refine Yp H R R o_2 ty5 (I.sl1) X.1 λa H=>?_
   have I:=I.pl1
   refine BS (i:=(O.1).toNat) (k0:=0) (seg:=[vB (K ^^^ G)]) (xo:=av) (xn:=K ^^^ G) H I Za R R R ty5 R (s_1 (K ^^^ G : UInt8)) X.2 (zh (m:=1) R dd_) (Zh R) λw a I H=>Zj (Yy (ZA (t_1 (Zn H R R R λa H=>Zd H R λa H=>Zj (Zk ?_)))))
   have I:=I.pl1
   exact ⟨_,ois b,C,H.s,I⟩
  intro ah b
  refine s_4 (Zu (Zu (YE ?_)))
  obtain rfl:=ag _ (ois b)
  refine Zk ?_
  have I:=M.fst (l:=[_]) I.pl1
  exact ⟨C,H.s,I⟩
 rintro a w ⟨N,H,I⟩
 refine ZA (Zb (Zd H R λa H=>Zc H R λa H=>Ze ?_))
 obtain rfl:=o_1 af
 exact p_3 (ZY H R (Zy H R) ⟨_,R,N,R,I.outF (ZK Yd),I.kept⟩)
def UP (c : GVault) (j : Int) : Option (List UInt8 × Int) :=
 (XL c j).bind λd=>if d.2 != 0 then (some ([],d.2)) else ((Y0).bind λi=>(idx c.Records d.1).bind λb=>((YU i c b).bind λe=>some (!decide (e = b.Tag)) : Option (Bool)).bind λf=>if f then (some ([],5)) else ((Y9 i c b b.Body).bind λh=>some (h,0)))
theorem zH (C : World) (y : GVault) (b : Value) (n : Ro C y.Keys [b]) (c : Value) (h : Ro C y.Records [c]) (i : Value) (o : Ro C y.Events [i]) (Y : Int) (r : List UInt8 × Int) (J : UP y Y = some r) :
  Calls prog 43 [vcV b c i y,vI Y].toArray C (e_r λv w'=>(∃ y1 : Value,v = (Value.tuple [y1,vI r.2].toArray) ∧ Fr C w' [osl NoB r.1 y1] ∧ Kept (Old C) C w')):=by
 refine ce func43 ?_
 intro a H
 have I:=M.start C
 unfold UP at J
 refine Zb (Z1 (cs:=cV b c i y) H I Za ld R R λZ w a I H=>Zc H R λa H=>Zc H R λa H=>Ze (Zb (Zq H R ZG R I.ra0 cq λa H=>Zd H R λa H=>?_)))
 obtain ⟨r3,e4,J⟩:=p_1 J
 refine c_k H I R Ze9 (TG _ y b (I.rdo n) c (I.rdo h) i (I.rdo o) Y r3 e4) λw a I H=>?_
 refine Zd H R λa H=>ZF H Za ld R R λa H=>ZF H Za ld R R λa H=>Zc H R λa H=>Zc H R λa H=>Ze (s_2 (Zb (Zd H R λa H=>Zn H R R R λa H=>Ze ?_)))
 refine c_if H R J ?_ ?_
 ·intro aa J
  refine Zb (Zd H R λa H=>Zc H R λa H=>Zc H R λa H=>Ze ?_)
  have I:=M.nilS (α:=UInt8) NoB noB I
  obtain rfl:=o_1 J
  have I:=M.fst (l:=[_]) I
  exact p_3 (ZJ (Yq H R (Zy H R) (Zy H R) ⟨_,R,xd,R,I.outF (ZK Yd),I.kept⟩))
 intro aa J
 refine u_2 (ZA (s_2 ?_))
 obtain ⟨O,e9,J⟩:=p_1 J
 obtain ⟨d,A,J⟩:=bix J
 obtain ⟨ak,T,U⟩:=Y2 h A.2 -- ^
 obtain ⟨q,m,rfl,L,G⟩:=Yl T -- ^
 refine Ys (its:=[raw Z (cV b c i y)]) (mk:=([mkO 0 (λv=>own NoB O [v]),mkO 6 (λv=>Wk v xg)] : Mk)) [19,20,21,22,23,24,9,8] Yx R R dd_ R H (λu=>M.qE (M.qE (M.q0 I.drew u) emO) emO) (q_t ?_ (qsP (λz=>Zi z.E Za ld R (Ye) (kr0 R)) (qsP (λz=>Zz (v:=c) z.E Za ld R Xr R (at_2 (z.M.ra0)) (kr0 R)) (q_m (λ_=>R) (qsP (λz=>Z6 z.E Za ld R R o_3 Yk (z.M.rd h) A.1 (kr0 R)) (qsP (λz=>Zx z.E Za ld R Yk R (z.M.atk U (XM h A.2)) cq (kr0 R)) (q_t ?_ (qsD (ds:=[0]) (f:=λus=>(us.getD 0 undef)) ?_ qs0)))))))) ?_
 ·intro a w x D z
  have H:=z.E
  have hD : D 0 = false:=z.F
  have hM0:=z.M
  have I:=z.M
  refine Zp H R kQ (Wd _  O e9) ?_
  rintro _ w a ⟨_,rfl,hFr,hK⟩ H
  have I:=hM0.add hK hFr
  exact ⟨_,_,R,H,M.qFill (mk1:=[]) (mk2:=[_]) (f:=(λv=>own NoB O [v])) I R hD,trivial⟩
 ·intro a w x D z
  have H:=z.E
  have hD : D 6 = false:=z.F
  have I:=z.M
  refine Zv H I Yk λao w a I H=>?_
  have I:=I.pack1 (it:=Wk _ xg) (λw w' fp ⟨b',e,k⟩ hb=>⟨b',e,YN w w' fp k hb⟩) (λfp k=>⟨_,R,k⟩)
  exact ⟨_,_,R,H,M.qFill (mk1:=[_]) (mk2:=[]) (f:=λv=>Wk v xg) I R hD,trivial⟩
 ·intro a w x D z
  have H:=z.E
  have d0 : D 0 = true:=z.p 0 _ R R
  exact Zc H R λa H=>⟨p_5 _ _,AF d0 yn,_,R,H⟩
 intro a w x D H I hG K
 have d0:=K 0 dd_
 have d6:=K 6 dd_
 have I:=((I.sure (pre:=[_]) d0).sure (pre:=[_,_]) d6).pl
 obtain ⟨_,⟨N,W,_⟩,_⟩:=I.head
 have I:=I.pack1 YN (it:=raw N xg) (λfp ⟨b2,e2,k2⟩=>by rw [W] at e2; simp [ptr] at e2; subst e2; exact k2)
 have H:=H.setq (t:=9) R W
 refine Zl (seg:=cR q m d) (cs':=cR q m d) H I Za R R R Yk cq (q_1 cq cq) (ZD (cc1 (s_1 (d.Number : Int)) (cc1 (s_1 (d.Version : Int)) (cc1 (s_1 _) (cc1 (t_2 (I.rd L)) (cc1 (t_2 (I.rd G)) (cc1 (s_1 _) cc0))))))) (q_2 cq cq) λw a I H=>Zj (ZA (s_2 ?_))
 obtain ⟨ad,B,j⟩:=p_1 J
 refine ZI (λa w=>Env 38 a [(2,ptr Z 0),(8,x 0),(9,ptr N 0),(31,vT ad)] ∧ M (Old C) C w [raw N (cR q m d),raw Z (cV b c i y),own NoB O [x 0]]) ?_ ?_
 ·obtain ⟨ae,af,B⟩:=p_1 B
  refine Z9 [25,26,27,28,29,30,31] Yx R R dd_ R H I (q_m (λ_=>R) (qsP (λz=>Zx z.E Za ld R ZG R (z.M.ra1) cq (kr0 R)) (qsP (λz=>Zx z.E Za ld R Yk R (z.M.ra0) cq (kr0 R)) (qsP (λz=>Z8 z.E Za ld R qM (WG _ O (x 0) (z.M.rn2) y b (z.M.rdo n) c (z.M.rdo h) i (z.M.rdo o) d q (z.M.rdo L) m (z.M.rdo G) ae af) (kc R)) (qsP (λz=>Zi z.E Za ld R (Qg) (kr0 R)) (qsP (λz=>Zx z.E Za ld R ZW R (at_5 (z.M.ra0)) (u_1 _) (kr0 R)) (qsP (λz=>Jx z.E Za ld R R (XX t_4 ty5 R false R dd_ (Xp u_3)) dd_ (by kernel_rfl) (kr0 R)) qs0))))))) ?_
  ·intro a w u H I
   refine Zj ?_
   obtain rfl:=o_1 B
   refine Zk ?_
   exact ⟨H.s,I⟩
 rintro a w ⟨H,I⟩
 refine c_if H R j ?_ ?_
 ·intro X j
  refine Zb (Zc H R λa H=>Zc H R λa H=>Ze ?_)
  have I:=M.nilS (α:=UInt8) NoB noB I
  obtain rfl:=o_1 j
  have I:=M.fst (l:=[_]) I
  exact p_3 (ZJ (Yq H R (Zy H R) (Zy H R) ⟨_,R,xd,R,I.outF (ZK Yd),I.kept⟩))
 intro X j
 refine u_2 (ZA (Zb (Zd H R λa H=>Zq H R ZG R I.ra1 cq λa H=>Zq H R Yk R I.ra0 cq λa H=>Zm H R (Qh) λa H=>ZB (v:=m) H R Wo R (at_4 I.ra0) λa H=>?_)))
 obtain ⟨ag,ah,j⟩:=p_1 j
 refine Zp H R Zhn (TD _ O (x 0) (I.rn2) y b (I.rdo n) c (I.rdo h) i (I.rdo o) d q (I.rdo L) m (I.rdo G) d.Body m (I.rdo G) ag ah) ?_
 rintro ai w a ⟨_,rfl,hFr,hK⟩ H
 have I:=I.add hK hFr
 refine Zc H R λa H=>Zc H R λa H=>Ze ?_
 obtain rfl:=o_1 j
 have I:=M.fst (l:=[_]) I
 exact p_3 (Yq H R (Zy H R) (Zy H R) ⟨_,R,ai,R,I.outF (ZK Yd),I.kept⟩)
def YW (b : List V16) : Option ((List V16)) :=
 (app 16 ([] : List V16) b).bind λc=>some (([] : List V16) ++ b)
theorem Ke (d : World) (i : List V16) (c : Value) (b : Ro d i [c]) (r : List V16) (J : YW i = some r) :
  Calls prog 230 [c].toArray d (e_r λv w'=>(∃ j : Value,v = j ∧ Fr d w' [osl NoB r j] ∧ Kept (Old d) d w')):=by
 refine ce func230 ?_
 intro a H
 have I:=M.start d
 unfold YW at J
 refine Zb (Zc H R λa H=>Ze (s_2 (Zb (Zd H R λa H=>Zbv H Za ld R R s_3 (I.rd b) λk a f H=>Ze ?_))))
 refine Zr H R ?_ ?_
 ·intro e
  have m:=f e
  have J : some ([]) = some r:=by rw [m] at J; simpa [app] using J
  refine Zb (Zc H R λa H=>Ze ?_)
  have I:=M.nilS (α:=V16) NoB noB I
  obtain rfl:=o_1 J
  exact p_3 (ZJ (ZY H R (Zy H R) ⟨_,R,xd,R,I.outF (ZK Yd),I.kept⟩))
 intro e
 refine u_2 (ZA (Zb (ZM (xs:=[]) (l:=([] : List V16)) (vs:=[]) H I Za ld R R s_3 ZL R dd_ R λq w a I H=>Zd H R λa H=>?_)))
 obtain ⟨t,n,J⟩:=p_1 J
 have h:=(ZU n).1
 refine ZX H I Za ld R R (I.rd b) s_3 ZL R dd_ h λo w a I H=>Zc H R λa H=>Ze ?_
 obtain rfl:=o_1 J
 exact p_3 (ZY H R (Zy H R) ⟨_,R,o,R,I.outF (ZK Yd),I.kept⟩)
def YS (b : List GEvent) : Option ((List GEvent)) :=
 (app 48 ([] : List GEvent) b).bind λc=>some (([] : List GEvent) ++ b)
theorem Kd (d : World) (i : List GEvent) (c : Value) (b : Ro d i [c]) (r : List GEvent) (J : YS i = some r) :
  Calls prog 231 [c].toArray d (e_r λv w'=>(∃ j : Value,v = j ∧ Fr d w' [osl NoB r j] ∧ Kept (Old d) d w')):=by
 refine ce func231 ?_
 intro a H
 have I:=M.start d
 unfold YS at J
 refine Zb (Zc H R λa H=>Ze (s_2 (Zb (Zd H R λa H=>Zbv H Za ld R R p_4 (I.rd b) λk a f H=>Ze ?_))))
 refine Zr H R ?_ ?_
 ·intro e
  have m:=f e
  have J : some ([]) = some r:=by rw [m] at J; simpa [app] using J
  refine Zb (Zc H R λa H=>Ze ?_)
  have I:=M.nilS (α:=GEvent) NoB noB I
  obtain rfl:=o_1 J
  exact p_3 (ZJ (ZY H R (Zy H R) ⟨_,R,xd,R,I.outF (ZK Yd),I.kept⟩))
 intro e
 refine u_2 (ZA (Zb (ZM (xs:=[]) (l:=xB) (vs:=[]) H I Za ld R R p_4 Xn R dd_ R λq w a I H=>Zd H R λa H=>?_)))
 obtain ⟨t,n,J⟩:=p_1 J
 have h:=(ZU n).1
 refine ZX H I Za ld R R (I.rd b) p_4 Xn R dd_ h λo w a I H=>Zc H R λa H=>Ze ?_
 obtain rfl:=o_1 J
 exact p_3 (ZY H R (Zy H R) ⟨_,R,o,R,I.outF (ZK Yd),I.kept⟩)
def VJ (h : GVault) (c : List GRecord × Int) : Option (Fl (List GRecord × Int) (List GRecord)) :=
 if decide (c.2 < (h.Records.length : Int)) then ((idx h.Records c.2).bind λb=>((Yv b.Label).bind λe=>(Yv b.Body).bind λf=>some (e,f) : Option (List UInt8 × List UInt8)).bind λd=>(app 112 c.1 ([(⟨b.Number,b.Version,b.Nonce,d.1,d.2,b.Tag⟩ : GRecord)] : List GRecord)).bind λi=>some (Fl.nx ((c.1 ++ ([(⟨b.Number,b.Version,b.Nonce,d.1,d.2,b.Tag⟩ : GRecord)] : List GRecord)),wr (c.2 + 1)))) else (some (Fl.ex c.1))
def We (b : GVault) : Option (GVault) :=
 (YW b.Keys).bind λd=>(YS b.Events).bind λe=>(ZQ (VJ b) ([],0)).bind λc=>some (⟨d,b.Next,c,e,b.Head⟩ : GVault)
theorem KD (B : World) (d : GVault) (h : Value) (Y : Ro B d.Keys [h]) (i : Value) (q : Ro B d.Records [i]) (n : Value) (Z : Ro B d.Events [n]) (r : GVault) (J : We d = some r) :
  Calls prog 133 [vcV h i n d].toArray B (e_r λv w'=>(∃ y1 y2 y3 : Value,v = (vcV y1 y2 y3 r) ∧ Fr B w' [osl NoB r.Keys y1,osl NoB r.Records y2,osl NoB r.Events y3] ∧ Kept (Old B) B w')):=by
 refine ce func133 ?_
 intro a H
 have I:=M.start B
 unfold We at J
 refine Zb (Z1 (cs:=cV h i n d) H I Za ld R R λb1 w a I H=>Zv H I ZG λX w a I H=>Ze (s_2 ?_))
 obtain ⟨r6,e7,J⟩:=p_1 J
 obtain ⟨r9,au,J⟩:=p_1 J
 refine Ys (its:=[raw X xh,raw b1 (cV h i n d)]) (mk:=([mkO 2 (λv=>osl NoB r6 v),mkO 7 (λv=>osl NoB r9 v),mkO 11 (λv=>Wk v xh)] : Mk)) [6,7,8,9,10,11,12,13,14,15,16,3] Yx R R dd_ R H (λu=>M.qE (M.qE (M.qE (M.q0 I.drew u) emO) emO) emO) (qsP (λz=>Zi z.E Za ld R (Xw) (kr0 R)) (qsP (λz=>Zz (v:=h) z.E Za ld R TF R (at_0 (z.M.ra1)) (kr0 R)) (q_t ?_ (qsP (λz=>Zi z.E Za ld R (Qw) (kr0 R)) (qsP (λz=>Zz (v:=(vI d.Next)) z.E Za ld R ty2 R (at_1 (z.M.ra1)) (kr0 R)) (qsP (λz=>Zi z.E Za ld R (XA) (kr0 R)) (qsP (λz=>Zz (v:=n) z.E Za ld R T3 R (at_3 (z.M.ra1)) (kr0 R)) (q_t ?_ (qsP (λz=>Zi z.E Za ld R (J1) (kr0 R)) (qsP (λz=>Zx z.E Za ld R ZW R (at_4 (z.M.ra1)) (u_1 _) (kr0 R)) (qsD (ds:=[2,7]) (f:=λus=>(Value.agg (cV (us.getD 0 undef) xd (us.getD 1 undef) d).toArray)) ?_ (q_t ?_ qs0)))))))))))) ?_
 ·intro a w b D z
  have H:=z.E
  have hD : D 2 = false:=z.F
  have hM0:=z.M
  have I:=z.M
  refine Zp H R (cbm func230) (Ke _ d.Keys h (I.rdo Y) r6 e7) ?_
  rintro _ w a ⟨_,rfl,hFr,hK⟩ H
  have I:=hM0.add hK hFr
  exact ⟨_,_,R,H,M.qFill (mk1:=[]) (mk2:=[_,_]) (f:=(λv=>osl NoB r6 v)) I R hD,trivial⟩
 ·intro a w b D z
  have H:=z.E
  have hD : D 7 = false:=z.F
  have hM0:=z.M
  have I:=z.M
  refine Zp H R (cbm func231) (Kd _ d.Events n (I.rdo Z) r9 au) ?_
  rintro _ w a ⟨_,rfl,hFr,hK⟩ H
  have I:=hM0.add hK hFr
  exact ⟨_,_,R,H,M.qFill (mk1:=[_]) (mk2:=[_]) (f:=(λv=>osl NoB r9 v)) I R hD,trivial⟩
 ·intro a w b D z
  have H:=z.E
  have d2 : D 2 = true:=z.p 0 _ R R
  have d7 : D 7 = true:=z.p 2 _ R R
  have I:=(z.M.sure (pre:=[_,_]) d2).sure (pre:=[_,_,_]) d7
  exact Yi (parts:=[(0,.tmp 8),(1,.tmp 10),(3,.tmp 13),(4,.tmp 15)]) (vs:=[(0,b 2),(1,vI d.Next),(3,b 7),(4,Value.agg (enc d.Head).toArray)]) (cs:=cV (b 2) xd (b 7) d) H Za ld R R ZG Ju (Ya (pre:=[]) (seg:=[xd]) (seg':=[b 2]) (post:=[[vI 0],[xd],[xd],enc xb]) R cl0 R R (Z5 (I.sl2)) (Ya (pre:=[[b 2]]) (seg:=[vI 0]) (seg':=[vI d.Next]) (post:=[[xd],[xd],enc xb]) R ck R R R (Ya (pre:=[[b 2],[vI d.Next],[xd]]) (seg:=[xd]) (seg':=[b 7]) (post:=[enc xb]) R ck R R (Z5 (I.sl3)) (Ya (pre:=[[b 2],[vI d.Next],[xd],[b 7]]) (seg:=enc xb) (seg':=enc d.Head) (post:=[]) R ck (u_1 _) (u_1 _) R YF)))) λa H=>⟨p_5 _ _,AF d2 (AF d7 yn),_,R,H⟩
 ·intro a w b D z
  have H:=z.E
  have hD : D 11 = false:=z.F
  have I:=z.M
  refine Zv H I ZG λa8 w a I H=>?_
  have I:=I.pack1 (it:=Wk _ xh) (λw w' fp ⟨b',e,k⟩ hb=>⟨b',e,YN w w' fp k hb⟩) (λfp k=>⟨_,R,k⟩)
  exact ⟨_,_,R,H,M.qFill (mk1:=[_,_]) (mk2:=[]) (f:=λv=>Wk v xh) I R hD,trivial⟩
 intro a w b D H I hG o
 have d2:=o 2 dd_
 have d7:=o 7 dd_
 have av:=o 11 dd_
 have I:=(((I.sure (pre:=[_,_]) d2).sure (pre:=[_,_,_]) d7).sure (pre:=[_,_,_,_]) av).pl
 obtain ⟨_,⟨y,ag,_⟩,_⟩:=I.head
 have I:=I.pack1 YN (it:=raw y xh) (λfp ⟨b2,e2,k2⟩=>by rw [ag] at e2; simp [ptr] at e2; subst e2; exact k2)
 have H:=H.setq (t:=3) R ag
 refine Zl (seg:=cV (b 2) xd (b 7) d) (cs':=cV (b 2) xd (b 7) d) H I Za R R R ZG cq (q_1 cq cq) (ZD (cc1 (t_2 (I.sl3)) (cc1 (s_1 (d.Next : Int)) (cc1 ZZ (cc1 (t_2 (I.sl4)) (cc1 (s_1 _) cc0)))))) (q_2 cq cq) λw a I H=>Zj (ZA (s_2 (Zb (Zm H R (Ye) λa H=>ZB (v:=i) H R Xr R (at_2 I.ra2) λa H=>Yu H R o_3 (I.rd q) λa H=>Zd H R λa H=>Ze ?_))))
 obtain ⟨ax,ah,ai⟩:=p_1 J
 refine ZV (λa w=>∃ C : Value,Env 40 a [(2,ptr X 0),(3,ptr y 0)] ∧ M (Old B) B w [raw y (cV (b 2) C (b 7) d),raw X xh,osl NoB r6 (b 2),osl NoB r9 (b 7),osl NoB ax C]) ?_ ?_
 ·refine p_2 ?_
  have I:=M.fst (l:=[_,_,_,_,_]) (((((M.nilS (α:=GRecord) NoB noB I).pl5).pl5).pl4).pl4)
  refine ZP (λ(G : List GRecord × Int) a w=>∃ x : Value,Env 40 a [(2,ptr X 0),(3,ptr y 0),(18,i),(19,vI (d.Records.length : Int)),(20,vI G.2)] ∧ M (Old B) B w [raw y (cV (b 2) x (b 7) d),raw X xh,osl NoB r6 (b 2),osl NoB r9 (b 7),osl NoB G.1 x]) ah ⟨xd,H.s,I⟩ ?_
  rintro G a w ⟨x,H,I⟩ ba j aj
  unfold VJ at j
  refine Zb (Zn H R R R λa H=>Ze (s_2 ?_))
  refine c_if H R j ?_ ?_
  ·intro ak j
   refine u_2 (ZA (s_2 (p_2 (Zb ?_))))
   obtain ⟨c,L,j⟩:=bix j
   refine Yp H R R o_3 Yk (I.rd q) L.1 λa H=>?_
   obtain ⟨a5,al,am⟩:=Y2 q L.2 -- ^
   obtain ⟨K,N,rfl,an,ao⟩:=Yl al -- ^
   refine Zq H R Yk R (I.atk am (XM q L.2)) cq λa H=>Zv H I Yk λac w a I H=>Zl (seg:=cR K N c) (cs':=cR K N c) H I Za R R R Yk cq (q_1 cq cq) (ZD (cc1 (s_1 (c.Number : Int)) (cc1 (s_1 (c.Version : Int)) (cc1 (s_1 _) (cc1 (t_2 (I.rd an)) (cc1 (t_2 (I.rd ao)) (cc1 (s_1 _) cc0))))))) (q_2 cq cq) λw a I H=>Ze ?_
   obtain ⟨W,A,O⟩:=p_1 j
   refine ZI (λa w=>∃ T U : Value,Env 40 a [(2,ptr X 0),(3,ptr y 0),(5,ptr ac 0),(18,i),(19,vI (d.Records.length : Int)),(20,vI G.2)] ∧ M (Old B) B w [raw ac (cR T U c),raw y (cV (b 2) x (b 7) d),raw X xh,osl NoB r6 (b 2),osl NoB r9 (b 7),osl NoB G.1 x,osl NoB W.1 T,osl NoB W.2 U]) ?_ ?_
   ·obtain ⟨ad,ay,A⟩:=p_1 A
    obtain ⟨ae,az,A⟩:=p_1 A
    refine Ys (its:=[raw ac (cR K N c),raw y (cV (b 2) x (b 7) d),raw X xh,osl NoB r6 (b 2),osl NoB r9 (b 7),osl NoB G.1 x]) (mk:=([mkO 2 (λv=>osl NoB ad v),mkO 5 (λv=>osl NoB ae v)] : Mk)) [24,25,26,27,28,29,30] Yx R R dd_ R H (λu=>M.qE (M.qE (M.q0 I.drew u) emO) emO) (qsP (λz=>Zi z.E Za ld R (Ka) (kr0 R)) (qsP (λz=>Zz (v:=K) z.E Za ld R Wo R (at_3 (z.M.ra0)) (kr0 R)) (q_t ?_ (qsP (λz=>Zi z.E Za ld R (Qh) (kr0 R)) (qsP (λz=>Zz (v:=N) z.E Za ld R Wo R (at_4 (z.M.ra0)) (kr0 R)) (q_t ?_ (qsP (λz=>Zi z.E Za ld R (Ka) (kr0 R)) qs0))))))) ?_
    ·intro a w m D z
     have H:=z.E
     have hD : D 2 = false:=z.F
     have hM0:=z.M
     have I:=z.M
     refine Zp H R cb91 (X3 _ c.Label K (I.rdo an) ad ay) ?_
     rintro _ w a ⟨_,rfl,hFr,hK⟩ H
     have I:=hM0.add hK hFr
     exact ⟨_,_,R,H,M.qFill (mk1:=[]) (mk2:=[_]) (f:=(λv=>osl NoB ad v)) I R hD,trivial⟩
    ·intro a w m D z
     have H:=z.E
     have hD : D 5 = false:=z.F
     have hM0:=z.M
     have I:=z.M
     refine Zp H R cb91 (X3 _ c.Body N (I.rdo ao) ae az) ?_
     rintro _ w a ⟨_,rfl,hFr,hK⟩ H
     have I:=hM0.add hK hFr
     exact ⟨_,_,R,H,M.qFill (mk1:=[_]) (mk2:=[]) (f:=(λv=>osl NoB ae v)) I R hD,trivial⟩
    intro a w m D H I hG o
    have d2:=o 2 dd_
    have d5:=o 5 dd_
    have I:=(I.sure (pre:=[_,_,_,_,_,_]) d2).sure (pre:=[_,_,_,_,_,_,_]) d5
    refine Zl (seg:=[m 2]) H I Za R R (Z5 (I.sl6)) Wo R (Xf (pre:=[[vI c.Number],[vI c.Version],enc c.Nonce]) ck R) (t_2 (I.sl6)) (Ym (pre:=[[vI c.Number],[vI c.Version],enc c.Nonce]) ck R) λw a I H=>Zm H R (Qh) λa H=>Zl (seg:=[m 5]) H I Za R R (Z5 (I.sl7)) Wo R (ft_4 R) (t_2 (I.sl7)) (sp_4 R) λw a I H=>Zj ?_
    obtain rfl:=o_1 A
    refine Zk ?_
    exact ⟨m 2,m 5,H.s,I⟩
   rintro a w ⟨T,U,H,I⟩
   refine t_1 (Zm H R (Ye) λa H=>ZB (v:=x) H R Xr R (at_2 I.ra1) λa H=>Zq H R Yk R I.ra0 cq λa H=>?_)
   have I:=I.pl7.pl7
   have I:=I.pack2 (it:=own NoB (⟨c.Number,c.Version,c.Nonce,W.1,W.2,c.Tag⟩ : GRecord) (cR T U c)) (Wa noB) (λf0 f1 q0 q1=>(JU (X5.sat q0) (X5.sat q1) (by simp)))
   refine KR (xs:=[.tmp 34]) (seg:=cR T U c) H I noB Za ld R R o_3 Yk R dd_ λbc w a I H=>?_
   obtain ⟨bd,a0,O⟩:=p_1 O
   obtain ⟨a1,rfl⟩:=ZU a0
   have I:=I.pl6
   refine Q4 H I noB Za ld R R o_3 Yk R dd_ a1 λap w a I H=>Zm H R (Ye) λa H=>?_
   have I:=I.pl2
   refine Zl (seg:=[ap]) H I Za R R (Z5 (I.sl1)) Xr R (ft_2 R) (t_2 (I.sl1)) (sp_2 R) λw a I H=>Zj (Yy (ZA (t_1 (Zn H R R R λa H=>Zd H R λa H=>Zj (Zk ?_)))))
   have I:=M.fst (l:=[_,_,_,_,_]) I.pl1.pl5.pl5.pl5.pl4
   exact ⟨_,ois O,ap,H.s,I⟩
  intro ak j
  refine s_4 (Zu (Zu (YE ?_)))
  obtain rfl:=aj _ (ois j)
  refine Zk ?_
  exact ⟨x,H.s,I⟩
 rintro a w ⟨C,H,I⟩
 refine ZA (Zb (Zq H R ZG R I.ra0 cq λa H=>?_))
 have I:=I.pl1
 refine Zl (seg:=cV (b 2) C (b 7) d) (cs':=cV (b 2) C (b 7) d) H I Za R R R ZG cq (q_1 cq cq) (ZD (cc1 (t_2 (I.sl2)) (cc1 (s_1 (d.Next : Int)) (cc1 (t_2 (I.sl4)) (cc1 (t_2 (I.sl3)) (cc1 (s_1 _) cc0)))))) (q_2 cq cq) λw a I H=>Ze ?_
 obtain rfl:=o_1 ai
 have aq : Z7 prog _ _ (.cell 2 79) _:=ZE H R ZG R I.ra0 cq R
 have I:=M.fst (l:=[_,_,_]) I.pl3.pl4.pl4
 exact p_3 (ZY H R aq ⟨_,R,b 2,C,b 7,R,I.outF (ZK (ZK (ZK Yd))),I.kept⟩)
def XE (b : List GRecord) (c : Int) (d : Int) : Option (List GRecord):=delF b c d
theorem Qo (St : Nat → Prop) (W c : World) (its : List Item) (l : List (Opq 52)) (v : Value) (i j : Nat) (I : M St W c (osl NoB l v :: its)) (hij : i ≤ j) (hj : j ≤ l.length) :
  Calls prog 161 [v,vI (i : Int),vI (j : Int)].toArray c (λen w'=>∃ y,en = .returned y ∧ M St W w' (osl NoB (l.take i ++ l.drop j) y :: its)):=by
 refine ce func161 ?_
 intro a H
 refine Zb (Zc H R λa H=>Ze (Zb (Zd H R λa H=>Zd H R λa H=>Zd H R λa H=>Zd H R λa H=>Yu H R o_3 (I.sl0) λa H=>Zhv H Za ld R R R R o_3 Yk (I.sl0) hij hj λu a H=>Ze (s_2 (Zb (Zd H R λa H=>Zd H R λa H=>Zn H R R R λa H=>Ze ?_))))))
 refine Zr H R ?_ ?_
 ·intro hb
  have hb:=eqI hb
  subst hb
  refine Zb (Zd H R λa H=>Zc H R λa H=>Ze ?_)
  refine p_3 (ZJ (ZY H R (Zy H R) ⟨_,R,?_⟩))
  rw [List.take_append_drop]
  exact I
 intro hb
 have hb:=neI hb
 have hlt : i < j:=by omega
 refine u_2 (ZA (Zb (Zd H R λa H=>Yu H R o_3 (I.sl0) λa H=>Zc H R λa H=>Ze (s_2 ?_))))
 have d : slc l 0 (i : Int) = some (l.take i):=slcA (by omega)
 have e : slc l (j : Int) (l.length : Int) = some (l.drop j):=slcE (by omega)
 refine Z9 [20,21,22,23,24,25] Yx R R dd_ R H I (q_m (λ_=>R) (q_m (λ_=>R) (qsP (λz=>Q2 (lo:=none) (vhi:=some (vI (i : Int))) (i:=0) (j:=(i : Int)) z.E Za ld R R R R R o_3 Yk (z.M.sl0) d (kr0 R)) (q_m (λ_=>R) (q_m (λ_=>R) (qsP (λz=>Q2 (hi:=none) (vlo:=some (vI (j : Int))) (i:=(j : Int)) (j:=(l.length : Int)) z.E Za ld R R R R R o_3 Yk (z.M.sl0) e (kr0 R)) qs0)))))) ?_
 intro a w u H I
 refine Zhu (i:=i) (j:=j) H I Za ld R R o_3 Yk hlt hj λw a I H=>Zc H R λa H=>Zj (ZA ?_)
 have b : (l.take i ++ (l.drop j ++ l.drop (l.length - (j - i)))).length = l.length:=by simp; omega
 refine Zb (Zd H R λa H=>Zd H R λa H=>Zhi H I Za ld R o_3 (by omega) λa H=>Zd H R λa H=>Zgc (m:=l.length) H I Za ld R R R o_3 Yk (by omega) (by omega) λa H=>Zhy H I Za (by rw [b]; rfl) o_3 Yk R R (by omega) λq w a I H=>Ze (Zb (Zd H R λa H=>Zc H R λa H=>Ze ?_)))
 exact p_3 (ZY H R (Zy H R) ⟨_,R,M.delCut I hij hj (by simp; omega)⟩)
theorem Qp (St : Nat → Prop) (W c : World) (its : List Item) (d : List GRecord) (b : Value) (e : Int) (f : Int) (I : M St W c (osl NoB d b :: its)) (r : List GRecord) (J : XE d e f = some r) :
  Calls prog 161 [b,vI e,vI f].toArray c (e_r λv w'=>(∃ h : Value,v = h ∧ M St W w' (osl NoB r h :: its))) :=
 Ziq (α:=GRecord) (λI i j=>Qo _ _ _ _ _ _ _ _ I i j) I J
def WF (j : (Ref Gengine)) (i : List GEvent) (b : V32 × Int) : Option (Fl (V32 × Int) V32) :=
 if decide (b.2 < (i.length : Int)) then ((idx i b.2).bind λc=>(slc b.1.toList (0 : Int) (32 : Int)).bind λd=>(Xx c.Number 4).bind λe=>(slc c.Tag.toList (0 : Int) (32 : Int)).bind λf=>(Xo j ([d,([ZC c.Kind] : List UInt8),e,f] : (List (List UInt8)))).bind λh=>some (Fl.nx (h,wr (b.2 + 1)))) else (some (Fl.ex b.1))
def Wc (c : (Ref Gengine)) (d : List GEvent) : Option (V32) :=
 (mkS 1 (0 : UInt8) 32).bind λe=>(Xo c ([e] : (List (List UInt8)))).bind λf=>(ZQ (WF c d) (f,0)).bind λb=>some b
theorem KF (K : World) (p0 : (Ref Gengine)) (q : Value) (B : Ro K p0 [q]) (p1 : List GEvent) (C : Value) (y : Ro K p1 [C]) (r : V32) (J : Wc p0 p1 = some r) :
  Calls prog 137 [q,C].toArray K (Rt K (Value.agg (enc r).toArray)):=by
 refine ce func137 ?_
 intro a H
 have I:=M.start K
 unfold Wc at J
 refine Zb (Zv H I ZW λA w a I H=>Ze (Zb (Zd H R λa H=>?_)))
 obtain ⟨l3,e4,J⟩:=p_1 J
 refine Zey H I Za ld R R o_2 ty5 R dd_ (λ_=>Jq.2 ⟨R,R⟩) e4 λu5 w a I H=>QE (xs:=[.tmp 9]) (vs:=[u5]) H I Za ld R R o_6 Wo dd_ (Ws (Z5 (I.sl0)) BP) λb7 w a I H=>?_
 obtain ⟨r9,aj,J⟩:=p_1 J
 refine c_k H I R cb84 (UL _ p0 q (I.rdo B) ([l3] : xz) (Value.slice (some ⟨b7,0,none⟩) 1 1) (AX I.ra0 (I.rawLt (pre:=[])) ⟨I.sl1,trivial⟩ R) r9 aj) λw a I H=>?_
 refine Zv H I ZW λe w a I H=>Zl (seg:=enc r9) (cs':=enc r9) H I Za R R R ZW (u_1 _) (zle flq) (s_1 _) (Zh flq) λw a I H=>Ze (s_2 (Zb (Zd H R λa H=>Yu H R p_4 (I.rd y) λa H=>Zd H R λa H=>Ze ?_)))
 obtain ⟨O,X,Y⟩:=p_1 J
 refine ZV (λa w=>Env 33 a [(4,ptr A 0),(5,ptr e 0)] ∧ M (Old K) K w [raw e (enc O),raw A xm]) ?_ ?_
 ·refine p_2 ?_
  have I:=M.fst (l:=[_,_]) I.pl3.pl1
  refine ZP (λ(n : V32 × Int) a w=>Env 33 a [(0,q),(4,ptr A 0),(5,ptr e 0),(12,C),(13,vI (p1.length : Int)),(14,vI n.2)] ∧ M (Old K) K w [raw e (enc n.1),raw A xm]) X ⟨H.s,I⟩ ?_
  rintro n a w ⟨H,I⟩ ax d Z
  unfold WF at d
  refine Zb (Zn H R R R λa H=>Ze (s_2 ?_))
  refine c_if H R d ?_ ?_
  ·intro aa d
   refine u_2 (ZA (s_2 (p_2 (Zb ?_))))
   obtain ⟨b,L,d⟩:=bix d
   refine Yp H R R p_4 Xn (I.rd y) L.1 λa H=>Zq H R Xn R (YG (I.rd y) L.2) cq λa H=>Zv H I Xn λh w a I H=>Zl (seg:=cat [[vI b.Kind],[vI b.Number],enc b.Tag]) (cs':=cat [[vI b.Kind],[vI b.Number],enc b.Tag]) H I Za R R R Xn cq (q_1 cq cq) (ZD (cc1 (s_1 (b.Kind : Int)) (cc1 (s_1 (b.Number : Int)) (cc1 (s_1 _) cc0)))) (q_2 cq cq) λw a I H=>Ze ?_
   obtain ⟨ak,T,d⟩:=p_1 d
   have ab:=Ku T -- ^
   obtain ⟨o,al,d⟩:=p_1 d
   obtain ⟨am,U,d⟩:=p_1 d
   have ac:=Ku U -- ^
   refine Ys (its:=[raw h (cat [[vI b.Kind],[vI b.Number],enc b.Tag]),raw e (enc n.1),raw A xm]) (mk:=([mkO 5 (λv=>osl NoB (([ZC b.Kind] : List UInt8) : List UInt8) v),mkO 8 (λv=>osl NoB o v),mkL 11 [5,8] 4 (λus=>[Yg (.slice (some ⟨e,0,none⟩) 32 32) (xi).toNat xx.toNat 1,us.getD 0 undef,us.getD 1 undef,Yg (.slice (some ⟨h,0 + 2,none⟩) 32 32) (xi).toNat xx.toNat 1])] : Mk)) [18,19,20,21,22,23,24,25,26,27,28,29] Yx R R dd_ R H (λu=>M.qE (M.qE (M.qE (M.q0 I.drew u) emL) emO) emO) (q_m (λ_=>R) (qsP (λz=>VA (N:=32) z.E Za ld R R R R R t_4 ty5 ab (kr0 R)) (qsP (λz=>Zi z.E Za ld R (KY) (kr0 R)) (qsP (λz=>Zz (v:=(vI b.Kind)) z.E Za ld R ty2 R (at_0 (z.M.ra0)) (kr0 R)) (qsP (λz=>Y5 z.E Za ld R o_5 u_3 (kr0 R)) (q_t ?_ (qsP (λz=>Zi z.E Za ld R (JI) (kr0 R)) (qsP (λz=>Zz (v:=(vI b.Number)) z.E Za ld R ty2 R (at_1 (z.M.ra0)) (kr0 R)) (q_t ?_ (qsP (λz=>Zi z.E Za ld R (jH) (kr0 R)) (qsP (λz=>VA (N:=32) z.E Za ld R R R R R t_4 ty5 ac (kr0 R)) (q_t ?_ qs0)))))))))))) ?_
   ·intro a w x D z
    have H:=z.E
    have hD : D 5 = false:=z.F
    have hsL : D 11 = false:=VE (j:=11) (k:=1) z.c R R R hD
    have I:=z.M
    refine ZM (xs:=[.tmp 22]) (l:=([ZC b.Kind] : List UInt8)) (vs:=[vB (ZC b.Kind)]) H I Za ld R R o_2 ty5 R dd_ R λay w a I H=>?_
    have I:=M.litOff (its:=_ :: [raw h (cat [[vI b.Kind],[vI b.Number],enc b.Tag]),raw e (enc n.1),raw A xm]) (mk:=([mkO 5 (λv=>osl NoB (([ZC b.Kind] : List UInt8) : List UInt8) v),mkO 8 (λv=>osl NoB o v)] : Mk)) (i:=11) (ds:=[5,8]) (m:=4) (f:=(λus=>[Yg (.slice (some ⟨e,0,none⟩) 32 32) (xi).toNat xx.toNat 1,us.getD 0 undef,us.getD 1 undef,Yg (.slice (some ⟨h,0 + 2,none⟩) 32 32) (xi).toNat xx.toNat 1])) I hsL
    exact ⟨_,_,R,H,M.litOn (its:=[raw h (cat [[vI b.Kind],[vI b.Number],enc b.Tag]),raw e (enc n.1),raw A xm]) (mk:=([mkO 5 (λv=>osl NoB (([ZC b.Kind] : List UInt8) : List UInt8) v),mkO 8 (λv=>osl NoB o v)] : Mk)) (i:=11) (ds:=[5,8]) (m:=4) (f:=(λus=>[(Yg (.slice (some ⟨e,0,none⟩) 32 32) (xi).toNat xx.toNat 1),(us.getD 0 undef),(us.getD 1 undef),(Yg (.slice (some ⟨h,0 + 2,none⟩) 32 32) (xi).toNat xx.toNat 1)])) (M.qFill (its:=[raw h (cat [[vI b.Kind],[vI b.Number],enc b.Tag]),raw e (enc n.1),raw A xm]) (mk1:=[]) (mk2:=[_]) (f:=(λv=>osl NoB (([ZC b.Kind] : List UInt8) : List UInt8) v)) I R hD) hsL dd_,trivial⟩
   ·intro a w x D z
    have H:=z.E
    have hD : D 8 = false:=z.F
    have hsL : D 11 = false:=VE (j:=11) (k:=2) z.c R R R hD
    have hM0:=z.M
    have I:=z.M
    refine Zp H R Zir (Jd _ b.Number 4 o al) ?_
    rintro _ w a ⟨_,rfl,hFr,hK⟩ H
    have I:=hM0.add hK hFr
    have I:=M.litOff (its:=_ :: [raw h (cat [[vI b.Kind],[vI b.Number],enc b.Tag]),raw e (enc n.1),raw A xm]) (mk:=([mkO 5 (λv=>osl NoB (([ZC b.Kind] : List UInt8) : List UInt8) v),mkO 8 (λv=>osl NoB o v)] : Mk)) (i:=11) (ds:=[5,8]) (m:=4) (f:=(λus=>[Yg (.slice (some ⟨e,0,none⟩) 32 32) (xi).toNat xx.toNat 1,us.getD 0 undef,us.getD 1 undef,Yg (.slice (some ⟨h,0 + 2,none⟩) 32 32) (xi).toNat xx.toNat 1])) I hsL
    exact ⟨_,_,R,H,M.litOn (its:=[raw h (cat [[vI b.Kind],[vI b.Number],enc b.Tag]),raw e (enc n.1),raw A xm]) (mk:=([mkO 5 (λv=>osl NoB (([ZC b.Kind] : List UInt8) : List UInt8) v),mkO 8 (λv=>osl NoB o v)] : Mk)) (i:=11) (ds:=[5,8]) (m:=4) (f:=(λus=>[(Yg (.slice (some ⟨e,0,none⟩) 32 32) (xi).toNat xx.toNat 1),(us.getD 0 undef),(us.getD 1 undef),(Yg (.slice (some ⟨h,0 + 2,none⟩) 32 32) (xi).toNat xx.toNat 1)])) (M.qFill (its:=[raw h (cat [[vI b.Kind],[vI b.Number],enc b.Tag]),raw e (enc n.1),raw A xm]) (mk1:=[_]) (mk2:=[]) (f:=(λv=>osl NoB o v)) I R hD) hsL dd_,trivial⟩
   ·intro a w x D z
    have H:=z.E
    have hD : D 11 = false:=z.F
    have d5 : D 5 = true:=z.p 1 _ R R
    have d8 : D 8 = true:=z.p 2 _ R R
    have I:=(z.M.sure (pre:=[_,_,_]) d5).sure (pre:=[_,_,_,_]) d8
    refine QE (xs:=[.tmp 19,.tmp 23,.tmp 26,.tmp 28]) (vs:=[Yg (.slice (some ⟨e,0,none⟩) 32 32) (xi).toNat xx.toNat 1,x 5,x 8,Yg (.slice (some ⟨h,0 + 2,none⟩) 32 32) (xi).toNat xx.toNat 1]) H I Za ld R R o_6 Wo dd_ (Ws (Z5 (Xl (At.sat I.ra1 (by simp) dd_) T)) (Ws (Z5 (I.sl3)) (Ws (Z5 (I.sl4)) (Ws (Z5 (Xl (At.sat (at_2 I.ra0) (by simp) dd_) U)) BP)))) λaz w a I H=>?_
    have I:=(I.unsure (pre:=[_,_,_,_,_]) d8).unsure (pre:=[_,_,_,_]) d5
    exact ⟨_,_,R,H,M.litFill (its:=[raw h (cat [[vI b.Kind],[vI b.Number],enc b.Tag]),raw e (enc n.1),raw A xm]) (mk:=([mkO 5 (λv=>osl NoB (([ZC b.Kind] : List UInt8) : List UInt8) v),mkO 8 (λv=>osl NoB o v)] : Mk)) (i:=11) (ds:=[5,8]) (m:=4) (f:=(λus=>[Yg (.slice (some ⟨e,0,none⟩) 32 32) (xi).toNat xx.toNat 1,us.getD 0 undef,us.getD 1 undef,Yg (.slice (some ⟨h,0 + 2,none⟩) 32 32) (xi).toNat xx.toNat 1])) I R hD dd_,trivial⟩
   intro a w x D H I hG G
   have d5:=G 5 dd_
   have d8:=G 8 dd_
   have an:=G 11 dd_
   have I:=(((I.sure (pre:=[_,_,_]) d5).sure (pre:=[_,_,_,_]) d8).sure (pre:=[_,_,_,_,_]) an).pl
   obtain ⟨ao,ap,I⟩:=M.litOpen I
   have H:=H.setq (t:=29) R ap
   obtain ⟨W,aq,d⟩:=p_1 d
   refine Zp H R cb84 (UL _ p0 q (I.rdo B) ([ak,([ZC b.Kind] : List UInt8),o,am] : xz) (Value.slice (some ⟨ao,0,none⟩) 4 4) (AX I.ra0 (I.rawLt (pre:=[])) ⟨Xl (At.sat I.ra2 (by simp) dd_) T,I.sl4,I.sl5,Xl (At.sat (at_2 I.ra1) (by simp) dd_) U,trivial⟩ R) W aq) ?_
   rintro v w a ⟨rfl,hK⟩ H
   have I:=(I.keep hK).pl2
   refine Zl (seg:=enc W) (cs':=enc W) H I Za R R R ZW (u_1 _) (zle flq) (s_1 _) (Zh flq) λw a I H=>Zj (Yy (ZA (t_1 (Zn H R R R λa H=>Zd H R λa H=>Zj (Zk ?_)))))
   have I:=M.fst (l:=[_,_]) I.pl3.pl1
   exact ⟨_,ois d,H.s,I⟩
  intro aa d
  refine s_4 (Zu (Zu (YE ?_)))
  obtain rfl:=Z _ (ois d)
  refine Zk ?_
  exact ⟨H.s,I⟩
 rintro a w ⟨H,I⟩
 refine ZA (Zb (Zq H R ZW R I.ra0 (u_1 _) λa H=>?_))
 have I:=I.pl1
 refine Zl (seg:=enc O) (cs':=enc O) H I Za R R R ZW (u_1 _) (zle flq) (s_1 _) (Zh flq) λw a I H=>Ze ?_
 obtain rfl:=o_1 Y
 have ad : Z7 prog _ _ (.cell 4 32) _:=ZE H R ZW R I.ra0 (u_1 _) R
 exact p_3 (ZY H R ad ⟨_,R,R,I.kept⟩)
def Xj (e : (Ref Gengine)) (b : GVault) (c : GEvent) : Option (GVault) :=
 (app 48 b.Events ([c] : List GEvent)).bind λf=>(Wc e (b.Events ++ ([c] : List GEvent))).bind λd=>some (⟨b.Keys,b.Next,b.Records,b.Events ++ ([c] : List GEvent),d⟩ : GVault)
theorem Kb (St : Nat → Prop) (W u : World) (its : List Item) (n : (Ref Gengine)) (h : Value) (k : Rep.sat St W n [h] []) (e : GVault) (b : Value) (c : Value) (f : Value) (j : GEvent) (I : M St W u (osl NoB e.Keys b :: osl NoB e.Records c :: osl NoB e.Events f :: its)) (r : GVault) (J : Xj n e j = some r) :
  Calls prog 136 [h,vcV b c f e,Value.agg (enc j).toArray].toArray u (e_r λv w'=>(∃ x y z : Value,v = (vcV x y z r) ∧ M St W w' (osl NoB r.Keys x :: osl NoB r.Records y :: osl NoB r.Events z :: its))):=by
 refine ce func136 ?_
 intro a H
 unfold Xj at J
 refine Zb (Z1 (cs:=cV b c f e) H I Za ld R R λA w a I H=>Z1 (cs:=cat [[vI j.Kind],[vI j.Number],enc j.Tag]) H I Za ld R R λB w a I H=>Zv H I ZG λC w a I H=>Ze (Zb (Zm H R (XA) λa H=>ZB (v:=f) H R T3 R (at_3 I.ra2) λa H=>Zq H R Xn R I.ra1 cq λa H=>ZM (xs:=[.tmp 9]) (l:=([j] : List GEvent)) (vs:=[Value.agg (enc j).toArray]) H I Za ld R R p_4 Xn R dd_ R λE w a I H=>?_)))
 obtain ⟨F,o,J⟩:=p_1 J
 obtain ⟨q,rfl⟩:=ZU o
 have I:=I.pl6
 refine ZX H I Za ld R R (I.sl1) p_4 Xn R dd_ q λd w a I H=>Zm H R (XA) λa H=>?_
 have I:=I.pl4
 refine Zl (seg:=[d]) H I Za R R (Z5 (I.sl1)) T3 R (Xf (pre:=[[b],[vI e.Next],[c]]) ck R) (t_2 (I.sl1)) (Ym (pre:=[[b],[vI e.Next],[c]]) ck R) λw a I H=>Ze (Zb (Zd H R λa H=>Zm H R (XA) λa H=>ZB (v:=d) H R T3 R (at_3 I.ra0) λa H=>?_))
 obtain ⟨i,t,J⟩:=p_1 J
 refine c_k H I R Zhc (KF _ n h (I.rdo k) (e.Events ++ ([j] : List GEvent)) d (I.sl1) i t) λw a I H=>?_
 refine Zm H R (J1) λa H=>Zl (seg:=enc i) H I Za R R R ZW (u_1 _) (ft_4 flq) (s_1 _) (sp_4 flq) λw a I H=>Ze (Zb (Zq H R ZG R I.ra0 cq λa H=>?_))
 have I:=I.pl3
 refine Zl (seg:=cat [[b],[vI e.Next],[c],[d],enc i]) (cs':=cat [[b],[vI e.Next],[c],[d],enc i]) H I Za R R R ZG cq (q_1 cq cq) (ZD (cc1 (t_2 (I.sl5)) (cc1 (s_1 (e.Next : Int)) (cc1 (t_2 (I.sl6)) (cc1 (t_2 (I.sl2)) (cc1 (s_1 _) cc0)))))) (q_2 cq cq) λw a I H=>Ze ?_
 obtain rfl:=o_1 J
 have m : Z7 prog _ _ (.cell 6 79) _:=ZE H R ZG R I.ra0 cq R
 have I:=((((I.pl2.pl6.pl6.pl6).drop.pl5).drop.pl4).drop.pl3).drop
 exact p_3 (ZY H R m ⟨_,R,b,c,d,R,I⟩)
def UO (f : GVault) (j : Int) : Option (GVault × Int) :=
 (XL f j).bind λe=>if e.2 != 0 then (some ((⟨[],0,[],[],Vector.replicate 32 (0 : UInt8)⟩ : GVault),e.2)) else (if (f.Events.length : Int) == 60 then (some ((⟨[],0,[],[],Vector.replicate 32 (0 : UInt8)⟩ : GVault),3)) else ((We f).bind λb=>(XE b.Records e.1 (wr (e.1 + 1))).bind λh=>((Y0).bind λi=>(Xj i (⟨b.Keys,b.Next,h,b.Events,b.Head⟩ : GVault) (⟨2,j,Vector.replicate 32 (0 : UInt8)⟩ : GEvent)).bind λc=>some (c.Keys,c.Next,c.Records,c.Events,c.Head) : Option (List V16 × Int × List GRecord × List GEvent × V32)).bind λd=>some ((⟨d.1,d.2.1,d.2.2.1,d.2.2.2.1,d.2.2.2.2⟩ : GVault),0)))
theorem ye (q : World) (t : GVault) (c : Value) (k : Ro q t.Keys [c]) (d : Value) (m : Ro q t.Records [d]) (e : Value) (j : Ro q t.Events [e]) (L : Int) (r : GVault × Int) (J : UO t L = some r) :
  Calls prog 55 [vcV c d e t,vI L].toArray q (e_r λv w'=>(∃ y1 y2 y3 : Value,v = (Value.tuple [vcV y1 y2 y3 r.1,vI r.2].toArray) ∧ Fr q w' [osl NoB r.1.Keys y1,osl NoB r.1.Records y2,osl NoB r.1.Events y3] ∧ Kept (Old q) q w')):=by
 refine ce func55 ?_
 intro a H
 have I:=M.start q
 unfold UO at J
 refine Zb (Z1 (cs:=cV c d e t) H I Za ld R R λb1 w a I H=>Zv H I ZG λb3 w a I H=>Zc H R λa H=>Ze (Zb (Zq H R ZG R I.ra1 cq λa H=>Zd H R λa H=>?_)))
 obtain ⟨r5,e6,J⟩:=p_1 J
 refine c_k H I R Ze9 (TG _ t c (I.rdo k) d (I.rdo m) e (I.rdo j) L r5 e6) λw a I H=>?_
 refine Zd H R λa H=>ZF H Za ld R R λa H=>ZF H Za ld R R λa H=>Zc H R λa H=>Zc H R λa H=>Ze (s_2 (p_2 (Zb (Zd H R λa H=>Zn H R R R λa H=>Zc H R λa H=>Ze ?_))))
 refine c_if H R J ?_ ?_
 ·intro ag J
  refine Zb (Yi (parts:=[]) (vs:=[]) (cs:=cat xa) H Za ld R R ZG Ju YF λa H=>Zd H R λa H=>Zl (seg:=cat xa) (cs':=cat xa) H I Za R R R ZG cq (q_1 cq cq) (ZD (cc1 ZZ (cc1 (s_1 xi) (cc1 ZZ (cc1 ZZ (cc1 (s_1 _) cc0)))))) (q_2 cq cq) λw a I H=>Zc H R λa H=>Ze ?_)
  have I:=M.nilS (α:=GEvent) NoB noB (M.nilS (α:=GRecord) NoB noB (M.nilS (α:=V16) NoB noB I))
  obtain rfl:=o_1 J
  have X : Z7 prog _ _ (.cell 4 79) _:=ZE H R ZG R I.ra3 cq R
  have I:=M.fst (l:=[_,_,_]) I.pl1.pl2
  exact p_3 (Xa (ZJ (Yq H R X (Zy H R) ⟨_,R,xd,xd,xd,R,I.outF (ZK (ZK (ZK Yd))),I.kept⟩)))
 intro ag J
 refine Zb (Zm H R (XA) λa H=>ZB (v:=e) H R T3 R (at_3 I.ra1) λa H=>Yu H R p_4 (I.rd j) λa H=>Zn H R R R λa H=>Zc H R λa H=>Ze ?_)
 refine c_if H R J ?_ ?_
 ·intro Y J
  refine Zb (Yi (parts:=[]) (vs:=[]) (cs:=cat xa) H Za ld R R ZG Ju YF λa H=>Zl (seg:=cat xa) (cs':=cat xa) H I Za R R R ZG cq (q_1 cq cq) (ZD (cc1 ZZ (cc1 (s_1 xi) (cc1 ZZ (cc1 ZZ (cc1 (s_1 _) cc0)))))) (q_2 cq cq) λw a I H=>Zc H R λa H=>Ze ?_)
  have I:=M.nilS (α:=GEvent) NoB noB (M.nilS (α:=GRecord) NoB noB (M.nilS (α:=V16) NoB noB I))
  obtain rfl:=o_1 J
  have Z : Z7 prog _ _ (.cell 4 79) _:=ZE H R ZG R I.ra3 cq R
  have I:=M.fst (l:=[_,_,_]) I.pl1.pl2
  exact p_3 (Xa (ZJ (Yq H R Z (Zy H R) ⟨_,R,xd,xd,xd,R,I.outF (ZK (ZK (ZK Yd))),I.kept⟩)))
 intro Y J
 refine u_2 (Yy (ZA (Zb (Zq H R ZG R I.ra1 cq λa H=>?_))))
 obtain ⟨b,ah,J⟩:=p_1 J
 refine Zp H R Zi4 (KD _ t c (I.rdo k) d (I.rdo m) e (I.rdo j) b ah) ?_
 rintro v w a ⟨h,x,n,rfl,hFr,hK⟩ H
 have I:=I.add hK hFr
 refine Zv H I ZG λai w a I H=>Zl (seg:=cV h x n b) (cs':=cV h x n b) H I Za R R R ZG cq (q_1 cq cq) (ZD (cc1 (t_2 (I.sl1)) (cc1 (s_1 (b.Next : Int)) (cc1 (t_2 (I.sl2)) (cc1 (t_2 (I.sl3)) (cc1 (s_1 _) cc0)))))) (q_2 cq cq) λw a I H=>Ze (Zb (Zm H R (Ye) λa H=>ZB (v:=x) H R Xr R (at_2 I.ra0) λa H=>Zd H R λa H=>Zd H R λa H=>Zn H R R R λa H=>?_))
 have I:=I.pl2
 have hM0:=I
 obtain ⟨N,aj,J⟩:=p_1 J
 refine Zp H R (cbm func161) (Qp _ _ _ _ b.Records x r5.1 (wr (r5.1 + 1)) I N aj) ?_
 rintro y w a ⟨_,rfl,I⟩ H
 refine Zm H R (Ye) λa H=>?_
 have I:=I.pl1
 refine Zl (seg:=[y]) H I Za R R (Z5 (I.sl1)) Xr R (ft_2 R) (t_2 (I.sl1)) (sp_2 R) λw a I H=>Ze ?_
 obtain ⟨o,i,aa⟩:=p_1 J
 refine ZI (λa w=>∃ A u32 B : Value,Env 40 a [(4,ptr b3 0),(5,vI 0)] ∧ M (Old q) q w [raw b3 (cat [[A],[vI o.2.1],[u32],[B],enc o.2.2.2.2]),osl NoB o.1 A,osl NoB o.2.2.1 u32,osl NoB o.2.2.2.1 B]) ?_ ?_
 ·obtain ⟨C,ak,i⟩:=p_1 i
  refine Ys (its:=[raw ai (cV h y n b),osl NoB N y,osl NoB b.Keys h,osl NoB b.Events n,raw b3 xh,raw b1 (cV c d e t)]) (mk:=([mkO 0 (λv=>own NoB C [v])] : Mk)) [35,36,37,38] Yx R R dd_ R H (λu=>M.qE (M.q0 I.drew u) emO) (q_t ?_ (qsP (λz=>Zx z.E Za ld R ZG R (z.M.ra0) cq (kr0 R)) (q_m (λ_=>R) (qsP (λz=>Yi (parts:=[(0,.const (vI 2)),(1,.tmp 37)]) (vs:=[(0,vI 2),(1,vI L)]) (cs:=cat [[vI 2],[vI L],enc xb]) z.E Za ld R R Xn Zap (Ya (pre:=[]) (seg:=[vI 0]) (seg':=[vI 2]) (post:=[[vI 0],enc xb]) R cl0 R R R (Ya (pre:=[[vI 2]]) (seg:=[vI 0]) (seg':=[vI L]) (post:=[enc xb]) R ck R R R YF)) (kr0 R)) qs0)))) ?_
  ·intro a w K D z
   have H:=z.E
   have hD : D 0 = false:=z.F
   have hM0:=z.M
   have I:=z.M
   refine Zp H R kQ (Wd _  C ak) ?_
   rintro _ w a ⟨_,rfl,hFr,hK⟩ H
   have I:=hM0.add hK hFr
   exact ⟨_,_,R,H,M.qFill (mk1:=[]) (mk2:=[]) (f:=(λv=>own NoB C [v])) I R hD,trivial⟩
  intro a w K D H I hG ab
  have d0:=ab 0 dd_
  have I:=((((I.sure (pre:=[_,_,_,_,_,_]) d0).pl3).pl2).pl3).pl6
  have hM0:=I
  obtain ⟨S42,ap,ac,I,O⟩:=M.freeze [_,_,_] I noB
  obtain ⟨G,al,i⟩:=p_1 i
  refine Zp H R Zig (Kb _ _ _ _ C (K 0) ac (⟨b.Keys,b.Next,N,b.Events,b.Head⟩ : GVault) h y n (⟨2,L,xb⟩ : GEvent) I G al) ?_
  rintro v w a ⟨T,U,W,rfl,I⟩ H
  have I:=O _ [_,_,_] (ZK (ZK (ZK Yd))) I
  simp only [List.cons_append,List.nil_append] at I
  have I:=I.pl5
  refine Zl (seg:=cV T U W G) (cs':=cV T U W G) H I Za R R R ZG cq (q_1 cq cq) (ZD (cc1 (t_2 (I.sl2)) (cc1 (s_1 (G.Next : Int)) (cc1 (t_2 (I.sl3)) (cc1 (t_2 (I.sl4)) (cc1 (s_1 _) cc0)))))) (q_2 cq cq) λw a I H=>Zc H R λa H=>Zj ?_
  obtain rfl:=o_1 i
  refine Zk ?_
  have I:=M.fst (l:=[_,_,_,_]) I.pl4.pl4.pl4.pl3
  exact ⟨T,U,W,H.s,I⟩
 rintro a w ⟨A,u32,B,H,I⟩
 obtain rfl:=o_1 aa
 have ad : Z7 prog _ _ (.cell 4 79) _:=ZE H R ZG R I.ra0 cq R
 have I:=M.fst (l:=[_,_,_]) I.pl3.pl3.pl3
 exact p_3 (Yq H R ad (Zy H R) ⟨_,R,A,u32,B,R,I.outF (ZK (ZK (ZK Yd))),I.kept⟩)
def Ui (b : GVault) (h : Int) : Option (V32 × Int) :=
 (XL b h).bind λc=>if c.2 != 0 then (some ((Vector.replicate 32 (0 : UInt8)),c.2)) else (((Y0).bind λd=>(idx b.Records c.1).bind λe=>(YU d b e).bind λf=>some f : Option (V32)).bind λi=>some (i,0))
theorem A9 (o : World) (m : GVault) (b : Value) (i : Ro o m.Keys [b]) (c : Value) (d : Ro o m.Records [c]) (h : Value) (j : Ro o m.Events [h]) (G : Int) (r : V32 × Int) (J : Ui m G = some r) :
  Calls prog 56 [vcV b c h m,vI G].toArray o (Rt o (Value.tuple [Value.agg (enc r.1).toArray,vI r.2].toArray)):=by
 refine ce func56 ?_
 intro a H
 have I:=M.start o
 unfold Ui at J
 refine Zb (Z1 (cs:=cV b c h m) H I Za ld R R λb1 w a I H=>Zv H I ZW λK w a I H=>Zc H R λa H=>Ze (Zb (Zq H R ZG R I.ra1 cq λa H=>Zd H R λa H=>?_)))
 obtain ⟨r5,e6,J⟩:=p_1 J
 refine c_k H I R Ze9 (TG _ m b (I.rdo i) c (I.rdo d) h (I.rdo j) G r5 e6) λw a I H=>?_
 refine Zd H R λa H=>ZF H Za ld R R λa H=>ZF H Za ld R R λa H=>Zc H R λa H=>Zc H R λa H=>Ze (s_2 (Zb (Zd H R λa H=>Zn H R R R λa H=>Ze ?_)))
 refine c_if H R J ?_ ?_
 ·intro L J
  refine Zb (Y6 (parts:=[]) (vs:=[]) (cs:=enc xb) H Za ld R R ZW R ty5 YO λa H=>Zd H R λa H=>Zl (seg:=enc xb) (cs':=enc xb) H I Za R R R ZW (u_1 _) (zle flq) (s_1 _) (Zh flq) λw a I H=>Zc H R λa H=>Ze ?_)
  obtain rfl:=o_1 J
  have N : Z7 prog _ _ (.cell 4 32) _:=ZE H R ZW R I.ra0 (u_1 _) R
  exact p_3 (ZJ (Yq H R N (Zy H R) ⟨_,R,R,I.kept⟩))
 intro L J
 refine u_2 (ZA ?_)
 obtain ⟨j9,e,x⟩:=p_1 J
 refine ZI (λa w=>Env 26 a [(4,ptr K 0),(5,vI 0)] ∧ M (Old o) o w [raw K (enc j9)]) ?_ ?_
 ·obtain ⟨n,O,e⟩:=p_1 e
  obtain ⟨T,k,e⟩:=bix e
  obtain ⟨aa,y,A⟩:=Y2 d k.2 -- ^
  obtain ⟨U,W,rfl,X,Y⟩:=Yl y -- ^
  refine Ys (its:=[raw K xm,raw b1 (cV b c h m)]) (mk:=([mkO 0 (λv=>own NoB n [v])] : Mk)) [18,19,20,21,22,23,24] Yx R R dd_ R H (λu=>M.qE (M.q0 I.drew u) emO) (q_t ?_ (qsP (λz=>Zx z.E Za ld R ZG R (z.M.ra1) cq (kr0 R)) (qsP (λz=>Zi z.E Za ld R (Ye) (kr0 R)) (qsP (λz=>Zz (v:=c) z.E Za ld R Xr R (at_2 (z.M.ra1)) (kr0 R)) (q_m (λ_=>R) (qsP (λz=>Z6 z.E Za ld R R o_3 Yk (z.M.rd d) k.1 (kr0 R)) (qsP (λz=>Zx z.E Za ld R Yk R (z.M.atk A (XM d k.2)) cq (kr0 R)) qs0))))))) ?_
  ·intro a w q D z
   have H:=z.E
   have hD : D 0 = false:=z.F
   have hM0:=z.M
   have I:=z.M
   refine Zp H R kQ (Wd _  n O) ?_
   rintro _ w a ⟨_,rfl,hFr,hK⟩ H
   have I:=hM0.add hK hFr
   exact ⟨_,_,R,H,M.qFill (mk1:=[]) (mk2:=[]) (f:=(λv=>own NoB n [v])) I R hD,trivial⟩
  intro a w q D H I hG B
  have d0:=B 0 dd_
  have I:=I.sure (pre:=[_,_]) d0
  obtain ⟨t,Z,e⟩:=p_1 e
  refine c_k H I R qM (WG _ n (q 0) (I.rn2) m b (I.rdo i) c (I.rdo d) h (I.rdo j) T U (I.rdo X) W (I.rdo Y) t Z) λw a I H=>?_
  refine Zl (seg:=enc t) (cs':=enc t) H I Za R R R ZW (u_1 _) (zle flq) (s_1 _) (Zh flq) λw a I H=>Zc H R λa H=>Zj ?_
  obtain rfl:=o_1 e
  refine Zk ?_
  have I:=M.fst (l:=[_]) I
  exact ⟨H.s,I⟩
 rintro a w ⟨H,I⟩
 obtain rfl:=o_1 x
 have C : Z7 prog _ _ (.cell 4 32) _:=ZE H R ZW R I.ra0 (u_1 _) R
 exact p_3 (Yq H R C (Zy H R) ⟨_,R,R,I.kept⟩)
def Ua (b : GVault) (h : Int) : Option (V32 × Int) :=
 (X9 b).bind λi=>if !i then (some ((Vector.replicate 32 (0 : UInt8)),1)) else ((X8 b h).bind λf=>if decide (f < 0) then (some ((Vector.replicate 32 (0 : UInt8)),4)) else (((idx b.Records f).bind λc=>(X2 b c).bind λd=>some d : Option (V32)).bind λe=>some (e,0)))
theorem AU (m : World) (k : GVault) (c : Value) (h : Ro m k.Keys [c]) (d : Value) (b : Ro m k.Records [d]) (e : Value) (i : Ro m k.Events [e]) (B : Int) (r : V32 × Int) (J : Ua k B = some r) :
  Calls prog 60 [vcV c d e k,vI B].toArray m (Rt m (Value.tuple [Value.agg (enc r.1).toArray,vI r.2].toArray)):=by
 refine ce func60 ?_
 intro a H
 have I:=M.start m
 unfold Ua at J
 refine Zb (Z1 (cs:=cV c d e k) H I Za ld R R λb1 w a I H=>Zv H I ZW λX w a I H=>Zc H R λa H=>Ze (s_2 (Zb (Zq H R ZG R I.ra1 cq λa H=>?_))))
 obtain ⟨Z,e6,J⟩:=p_1 J
 refine c_k H I R yN (UG _ k c (I.rdo h) d (I.rdo b) e (I.rdo i) Z e6) λw a I H=>?_
 refine Kp H R λa H=>Ze ?_
 refine c_if H R J ?_ ?_
 ·intro C J
  refine Zb (Y6 (parts:=[]) (vs:=[]) (cs:=enc xb) H Za ld R R ZW R ty5 YO λa H=>Zl (seg:=enc xb) (cs':=enc xb) H I Za R R R ZW (u_1 _) (zle flq) (s_1 _) (Zh flq) λw a I H=>Zc H R λa H=>Ze ?_)
  obtain rfl:=o_1 J
  have F : Z7 prog _ _ (.cell 4 32) _:=ZE H R ZW R I.ra0 (u_1 _) R
  exact p_3 (ZJ (Yq H R F (Zy H R) ⟨_,R,R,I.kept⟩))
 intro C J
 refine u_2 (ZA (Zb (Zq H R ZG R I.ra1 cq λa H=>Zd H R λa H=>?_)))
 obtain ⟨r9,G,J⟩:=p_1 J
 refine c_k H I R Zc7 (T2 _ k c (I.rdo h) d (I.rdo b) e (I.rdo i) B r9 G) λw a I H=>?_
 refine Zc H R λa H=>Ze (s_2 (Zb (Zd H R λa H=>Zn H R R R λa H=>Ze ?_)))
 refine c_if H R J ?_ ?_
 ·intro o J
  refine Zb (Y6 (parts:=[]) (vs:=[]) (cs:=enc xb) H Za ld R R ZW R ty5 YO λa H=>Zl (seg:=enc xb) (cs':=enc xb) H I Za R R R ZW (u_1 _) (zle flq) (s_1 _) (Zh flq) λw a I H=>Zc H R λa H=>Ze ?_)
  obtain rfl:=o_1 J
  have q : Z7 prog _ _ (.cell 4 32) _:=ZE H R ZW R I.ra0 (u_1 _) R
  exact p_3 (ZJ (Yq H R q (Zy H R) ⟨_,R,R,I.kept⟩))
 intro o J
 refine u_2 (ZA ?_)
 obtain ⟨K,f,t⟩:=p_1 J
 refine ZI (λa w=>Env 24 a [(4,ptr X 0),(5,vI 0)] ∧ M (Old m) m w [raw X (enc K)]) ?_ ?_
 ·obtain ⟨L,j,f⟩:=bix f
  obtain ⟨Y,x,y⟩:=Y2 b j.2 -- ^
  obtain ⟨N,O,rfl,T,U⟩:=Yl x -- ^
  obtain ⟨n,W,f⟩:=p_1 f
  refine Z9 [17,18,19,20,21,22,23] Yx R R dd_ R H I (qsP (λz=>Zx z.E Za ld R ZG R (z.M.ra1) cq (kr0 R)) (qsP (λz=>Zi z.E Za ld R (Ye) (kr0 R)) (qsP (λz=>Zz (v:=d) z.E Za ld R Xr R (at_2 (z.M.ra1)) (kr0 R)) (q_m (λ_=>R) (qsP (λz=>Z6 z.E Za ld R R o_3 Yk (z.M.rd b) j.1 (kr0 R)) (qsP (λz=>Zx z.E Za ld R Yk R (z.M.atk y (XM b j.2)) cq (kr0 R)) (qsP (λz=>Z8 z.E Za ld R Zck (Ks _ k c (z.M.rdo h) d (z.M.rdo b) e (z.M.rdo i) L N (z.M.rdo T) O (z.M.rdo U) n W) (kc R)) qs0))))))) ?_
  ·intro a w u H I
   refine Zl (seg:=enc n) (cs':=enc n) H I Za R R R ZW (u_1 _) (zle flq) (s_1 _) (Zh flq) λw a I H=>Zc H R λa H=>Zj ?_
   obtain rfl:=o_1 f
   refine Zk ?_
   have I:=M.fst (l:=[_]) I
   exact ⟨H.s,I⟩
 rintro a w ⟨H,I⟩
 obtain rfl:=o_1 t
 have A : Z7 prog _ _ (.cell 4 32) _:=ZE H R ZW R I.ra0 (u_1 _) R
 exact p_3 (Yq H R A (Zy H R) ⟨_,R,R,I.kept⟩)
def QI (f : List UInt8) (h : List UInt8) (b : Int) : Option (Fl Int (Fl Unit Bool)) :=
 if decide (b < (f.length : Int)) then (((idx f b).bind λc=>(idx h b).bind λd=>some (c != d) : Option (Bool)).bind λe=>if e then (some (Fl.ex (Fl.ex false))) else (some (Fl.nx (wr (b + 1))))) else (some (Fl.ex (Fl.nx ())))
def U0 (b : List UInt8) (c : List UInt8) : Option (Bool) :=
 if (b.length : Int) != (c.length : Int) then (some false) else ((ZQ (QI b c) 0).bind λd=>d.el (λe=>some true) (λr=>some r))
theorem Hr (j : World) (F : List UInt8) (f : Value) (b : Ro j F [f]) (G : List UInt8) (h : Value) (e : Ro j G [h]) (r : Bool) (J : U0 F G = some r) :
  Calls prog 50 [f,h].toArray j (Rt j (vT r)):=by
 refine ce func50 ?_
 intro a H
 have I:=M.start j
 unfold U0 at J
 refine Zb (Zc H R λa H=>Ze (s_2 (Zb (Zd H R λa H=>Yu H R o_2 (I.rd b) λa H=>Zd H R λa H=>Yu H R o_2 (I.rd e) λa H=>Zn H R R R λa H=>Ze ?_))))
 refine c_if H R J ?_ ?_
 ·intro y J
  refine Zb (Zc H R λa H=>Ze ?_)
  obtain rfl:=o_1 J
  exact p_3 (ZJ (kr1 H R R I.kept))
 intro y J
 refine u_2 (ZA (s_2 (Zb (Zc H R λa H=>Ze ?_))))
 obtain ⟨L,A,k⟩:=p_1 J
 refine ZV (λa w=>∃ K : Unit,L = Fl.nx K ∧ Env 26 a [] ∧ M (Old j) j w []) ?_ ?_
 ·refine p_2 ?_
  refine ZP (λ(B : Int) a w=>Env 26 a [(0,f),(1,h),(5,vI B)] ∧ M (Old j) j w []) A ⟨H.s,I⟩ ?_
  rintro B a w ⟨H,I⟩ N i n
  unfold QI at i
  refine s_2 (Zb (Zd H R λa H=>Zd H R λa H=>Yu H R o_2 (I.rd b) λa H=>Zn H R R R λa H=>Ze ?_))
  refine c_if H R i ?_ ?_
  ·intro o i
   refine u_2 (ZA (s_2 (p_2 ?_)))
   obtain ⟨C,c,d⟩:=p_1 i
   refine ZI (λa w=>Env 26 a [(0,f),(1,h),(5,vI B),(25,vT C)] ∧ M (Old j) j w []) ?_ ?_
   ·obtain ⟨q,l,c⟩:=bix c
    obtain ⟨t,m,c⟩:=bix c
    refine Z9 [17,18,19,20,21,22,23,24,25] Yx R R dd_ R H I (q_m (λ_=>R) (q_m (λ_=>R) (qsP (λz=>Z6 z.E Za ld R R o_2 ty5 (z.M.rd b) l.1 (kr0 R)) (qsP (λz=>Zz (v:=(vB q)) z.E Za ld R ty5 R (YG (z.M.rd b) l.2) (kr0 R)) (q_m (λ_=>R) (q_m (λ_=>R) (qsP (λz=>Z6 z.E Za ld R R o_2 ty5 (z.M.rd e) m.1 (kr0 R)) (qsP (λz=>Zz (v:=(vB t)) z.E Za ld R ty5 R (YG (z.M.rd e) m.2) (kr0 R)) (qsP (λz=>Yc z.E Za ld R R (Zeu q t) (kr0 R)) qs0))))))))) ?_
    ·intro a w u H I
     refine Zj ?_
     obtain rfl:=o_1 c
     refine Zk ?_
     exact ⟨H.s,I⟩
   rintro a w ⟨H,I⟩
   refine c_if H R d ?_ ?_
   ·intro x d
    refine Zb (Zc H R λa H=>Ze ?_)
    obtain rfl:=n _ (ois d)
    obtain rfl:=o_1 k
    exact p_3 (Xa (ZJ (ZJ (Xa (ZJ (ZJ (kr1 H R R I.kept)))))))
   intro x d
   refine u_2 (Yy (ZA (t_1 (Zd H R λa H=>Zn H R R R λa H=>Zc H R λa H=>Zj (Zk ?_)))))
   exact ⟨_,ois d,H.s,I⟩
  intro o i
  refine s_4 (Zu (Zu (YE ?_)))
  obtain rfl:=n _ (ois i)
  refine Zk ?_
  exact ⟨(),R,H.sub trivial,I⟩
 rintro a w ⟨K,ht,H,I⟩
 subst ht
 have k:=KT k
 refine ZA (Zb (Zc H R λa H=>Ze ?_))
 obtain rfl:=o_1 k
 exact p_3 (kr1 H R R I.kept)
def TT (f : List V16) (h : List V16) (b : Int) : Option (Fl Int (Fl Unit Bool)) :=
 if decide (b < (f.length : Int)) then (((idx f b).bind λc=>(idx h b).bind λd=>some (!decide (c = d)) : Option (Bool)).bind λe=>if e then (some (Fl.ex (Fl.ex false))) else (some (Fl.nx (wr (b + 1))))) else (some (Fl.ex (Fl.nx ())))
def Qx (b : List V16) (c : List V16) : Option (Bool) :=
 if (b.length : Int) != (c.length : Int) then (some false) else ((ZQ (TT b c) 0).bind λd=>d.el (λe=>some true) (λr=>some r))
theorem qk (j : World) (B : List V16) (f : Value) (b : Ro j B [f]) (C : List V16) (h : Value) (e : Ro j C [h]) (r : Bool) (J : Qx B C = some r) :
  Calls prog 155 [f,h].toArray j (Rt j (vT r)):=by
 refine ce func155 ?_
 intro a H
 have I:=M.start j
 unfold Qx at J
 refine Zb (Zc H R λa H=>Ze (s_2 (Zb (Zd H R λa H=>Yu H R s_3 (I.rd b) λa H=>Zd H R λa H=>Yu H R s_3 (I.rd e) λa H=>Zn H R R R λa H=>Ze ?_))))
 refine c_if H R J ?_ ?_
 ·intro t J
  refine Zb (Zc H R λa H=>Ze ?_)
  obtain rfl:=o_1 J
  exact p_3 (ZJ (kr1 H R R I.kept))
 intro t J
 refine u_2 (ZA (s_2 (Zb (Zc H R λa H=>Ze ?_))))
 obtain ⟨G,x,k⟩:=p_1 J
 refine ZV (λa w=>∃ F : Unit,G = Fl.nx F ∧ Env 26 a [] ∧ M (Old j) j w []) ?_ ?_
 ·refine p_2 ?_
  refine ZP (λ(y : Int) a w=>Env 26 a [(0,f),(1,h),(5,vI y)] ∧ M (Old j) j w []) x ⟨H.s,I⟩ ?_
  rintro y a w ⟨H,I⟩ N i n
  unfold TT at i
  refine s_2 (Zb (Zd H R λa H=>Zd H R λa H=>Yu H R s_3 (I.rd b) λa H=>Zn H R R R λa H=>Ze ?_))
  refine c_if H R i ?_ ?_
  ·intro o i
   refine u_2 (ZA (s_2 (p_2 ?_)))
   obtain ⟨A,c,d⟩:=p_1 i
   refine ZI (λa w=>Env 26 a [(0,f),(1,h),(5,vI y),(25,vT A)] ∧ M (Old j) j w []) ?_ ?_
   ·obtain ⟨K,l,c⟩:=bix c
    obtain ⟨L,m,c⟩:=bix c
    refine Z9 [17,18,19,20,21,22,23,24,25] Yx R R dd_ R H I (q_m (λ_=>R) (q_m (λ_=>R) (qsP (λz=>Z6 z.E Za ld R R s_3 ZL (z.M.rd b) l.1 (kr0 R)) (qsP (λz=>Zx z.E Za ld R ZL R (YG (z.M.rd b) l.2) (u_1 _) (kr0 R)) (q_m (λ_=>R) (q_m (λ_=>R) (qsP (λz=>Z6 z.E Za ld R R s_3 ZL (z.M.rd e) m.1 (kr0 R)) (qsP (λz=>Zx z.E Za ld R ZL R (YG (z.M.rd e) m.2) (u_1 _) (kr0 R)) (qsP (λz=>Jx z.E Za ld R R (XX o_4 ty5 R false R dd_ (Xp u_3)) dd_ (by kernel_rfl) (kr0 R)) qs0))))))))) ?_
    ·intro a w u H I
     refine Zj ?_
     obtain rfl:=o_1 c
     refine Zk ?_
     exact ⟨H.s,I⟩
   rintro a w ⟨H,I⟩
   refine c_if H R d ?_ ?_
   ·intro q d
    refine Zb (Zc H R λa H=>Ze ?_)
    obtain rfl:=n _ (ois d)
    obtain rfl:=o_1 k
    exact p_3 (Xa (ZJ (ZJ (Xa (ZJ (ZJ (kr1 H R R I.kept)))))))
   intro q d
   refine u_2 (Yy (ZA (t_1 (Zd H R λa H=>Zn H R R R λa H=>Zc H R λa H=>Zj (Zk ?_)))))
   exact ⟨_,ois d,H.s,I⟩
  intro o i
  refine s_4 (Zu (Zu (YE ?_)))
  obtain rfl:=n _ (ois i)
  refine Zk ?_
  exact ⟨(),R,H.sub trivial,I⟩
 rintro a w ⟨F,ht,H,I⟩
 subst ht
 have k:=KT k
 refine ZA (Zb (Zc H R λa H=>Ze ?_))
 obtain rfl:=o_1 k
 exact p_3 (kr1 H R R I.kept)
def Qv (b : GRecord) (c : GRecord) : Option (Bool) :=
 (if b.Number == c.Number then (if b.Version == c.Version then (if decide (b.Nonce = c.Nonce) then (if decide (b.Tag = c.Tag) then ((U0 b.Label c.Label).bind λd=>if d then ((U0 b.Body c.Body).bind λe=>some e) else (some false)) else (some false)) else (some false)) else (some false)) else (some false) : Option (Bool)).bind λf=>some f
theorem jU (q : World) (i : GRecord) (k : Value) (t : Ro q i.Label [k]) (n : Value) (u : Ro q i.Body [n]) (j : GRecord) (m : Value) (x : Ro q j.Label [m]) (o : Value) (y : Ro q j.Body [o]) (r : Bool) (J : Qv i j = some r) :
  Calls prog 156 [vcR k n i,vcR m o j].toArray q (Rt q (vT r)):=by
 refine ce func156 ?_
 intro a H
 have I:=M.start q
 unfold Qv at J
 refine Zb (Z1 (cs:=cR k n i) H I Za ld R R λG w a I H=>Z1 (cs:=cR m o j) H I Za ld R R λK w a I H=>Zc H R λa H=>Ze ?_)
 obtain ⟨F,b,A⟩:=p_1 J
 refine ZI (λa w=>Env 45 a [(4,vT F)] ∧ M (Old q) q w []) ?_ ?_
 ·refine t_1 (Zm H R (VC) λa H=>ZB (v:=(vI i.Number)) H R ty2 R (at_0 I.ra1) λa H=>Zm H R (VC) λa H=>ZB (v:=(vI j.Number)) H R ty2 R (at_0 I.ra0) λa H=>Zn H R R R λa H=>Zd H R λa H=>?_)
  refine Yj (i.Number == j.Number) (λf=>?_) (λf=>?_)
  ·have b:=Zt b f
   refine Zi H (Zg H R (lkb R f)) dd_ R (TB) λa H=>Zz (v:=(vI i.Version)) H (Zg H R (lkb R f)) dd_ R ty2 R (at_1 I.ra1) λa H=>Zi H (Zg H R (lkb R f)) dd_ R (TB) λa H=>Zz (v:=(vI j.Version)) H (Zg H R (lkb R f)) dd_ R ty2 R (at_1 I.ra0) λa H=>Yc H (Zg H R (lkb R f)) dd_ R R R λa H=>ZH H (lkb R f) R λa H=>Zd H R λa H=>?_
   refine Yj (i.Version == j.Version) (λh=>?_) (λh=>?_)
   ·have b:=Zt b h
    refine Zi H (Zg H R (lkb R h)) dd_ R (Ho) λa H=>Zx H (Zg H R (lkb R h)) dd_ R ZL R (at_2 I.ra1) (u_1 _) λa H=>Zi H (Zg H R (lkb R h)) dd_ R (Ho) λa H=>Zx H (Zg H R (lkb R h)) dd_ R ZL R (at_2 I.ra0) (u_1 _) λa H=>qK H (Zg H R (lkb R h)) dd_ R R (XX o_4 ty5 R false R dd_ (Xp u_3)) dd_ (by kernel_rfl) λa H=>ZH H (lkb R h) R λa H=>Zd H R λa H=>?_
    refine Yj (decide (i.Nonce = j.Nonce)) (λc=>?_) (λc=>?_)
    ·have b:=Zt b c
     refine Zi H (Zg H R (lkb R c)) dd_ R (Qg) λa H=>Zx H (Zg H R (lkb R c)) dd_ R ZW R (at_5 I.ra1) (u_1 _) λa H=>Zi H (Zg H R (lkb R c)) dd_ R (Qg) λa H=>Zx H (Zg H R (lkb R c)) dd_ R ZW R (at_5 I.ra0) (u_1 _) λa H=>qK H (Zg H R (lkb R c)) dd_ R R (XX t_4 ty5 R false R dd_ (Xp u_3)) dd_ (by kernel_rfl) λa H=>ZH H (lkb R c) R λa H=>Zd H R λa H=>?_
     refine Yj (decide (i.Tag = j.Tag)) (λd=>?_) (λd=>?_)
     ·have b:=Zt b d
      refine Zi H (Zg H R (lkb R d)) dd_ R (Ka) λa H=>Zz (v:=k) H (Zg H R (lkb R d)) dd_ R Wo R (at_3 I.ra1) λa H=>Zi H (Zg H R (lkb R d)) dd_ R (Ka) λa H=>Zz (v:=m) H (Zg H R (lkb R d)) dd_ R Wo R (at_3 I.ra0) λa H=>?_
      obtain ⟨z,B,b⟩:=p_1 b
      refine Z8 H (Zg H R (lkb R d)) dd_ R cb50 (Hr _ i.Label k (I.rdo t) j.Label m (I.rdo x) z B) ?_
      rintro v w a ⟨rfl,hK⟩ H
      have I:=I.keep hK
      refine ZH H (lkb R d) R λa H=>Zd H R λa H=>?_
      refine Yj z (λe=>?_) (λe=>?_)
      ·have b:=Zt b e
       refine Zi H (Zg H R (lkb R e)) dd_ R (Qh) λa H=>Zz (v:=n) H (Zg H R (lkb R e)) dd_ R Wo R (at_4 I.ra1) λa H=>Zi H (Zg H R (lkb R e)) dd_ R (Qh) λa H=>Zz (v:=o) H (Zg H R (lkb R e)) dd_ R Wo R (at_4 I.ra0) λa H=>?_
       obtain ⟨C,E,b⟩:=p_1 b
       refine Z8 H (Zg H R (lkb R e)) dd_ R cb50 (Hr _ i.Body n (I.rdo u) j.Body o (I.rdo y) C E) ?_
       rintro v w a ⟨rfl,hK⟩ H
       have I:=I.keep hK
       refine ZH H (lkb R e) R λa H=>Zc H R λa H=>Zj ?_
       obtain rfl:=o_1 b
       refine Zk ?_
       have I:=M.fst (l:=[]) I
       exact ⟨H.s,I⟩
      have b:=Zs b e
      refine k_s H e R R R λa H=>k_s H e R R R λa H=>k_s H e R R R λa H=>k_s H e R R R λa H=>k_s H e R R R λa H=>Z2 H (lkb R e) R λa H=>Zc H R λa H=>Zj ?_
      obtain rfl:=o_1 b
      refine Zk ?_
      have I:=M.fst (l:=[]) I
      exact ⟨H.s,I⟩
     have b:=Zs b d
     refine k_s H d R R R λa H=>k_s H d R R R λa H=>k_s H d R R R λa H=>k_s H d R R R λa H=>k_s H d R R R λa H=>Z2 H (lkb R d) R λa H=>Zd H R λa H=>Zf H R R R dd_ λa H=>Zf H R R R dd_ λa H=>Zf H R R R dd_ λa H=>Zf H R R R dd_ λa H=>Zf H R R R dd_ λa H=>?_
     refine Z2 H R R λa H=>Zc H R λa H=>Zj ?_
     obtain rfl:=o_1 b
     refine Zk ?_
     have I:=M.fst (l:=[]) I
     exact ⟨H.s,I⟩
    have b:=Zs b c
    refine k_s H c R R R λa H=>k_s H c R R R λa H=>k_s H c R R R λa H=>k_s H c R R R λa H=>k_s H c R R R λa H=>Z2 H (lkb R c) R λa H=>Zd H R λa H=>Zf H R R R dd_ λa H=>Zf H R R R dd_ λa H=>Zf H R R R dd_ λa H=>Zf H R R R dd_ λa H=>Zf H R R R dd_ λa H=>?_
    refine Z2 H R R λa H=>Zd H R λa H=>Zf H R R R dd_ λa H=>Zf H R R R dd_ λa H=>Zf H R R R dd_ λa H=>Zf H R R R dd_ λa H=>Zf H R R R dd_ λa H=>Z2 H R R λa H=>Zc H R λa H=>Zj ?_
    obtain rfl:=o_1 b
    refine Zk ?_
    have I:=M.fst (l:=[]) I
    exact ⟨H.s,I⟩
   have b:=Zs b h
   refine k_s H h R R R λa H=>k_s H h R R R λa H=>k_s H h R R R λa H=>k_s H h R R R λa H=>k_s H h R R R λa H=>Z2 H (lkb R h) R λa H=>Zd H R λa H=>Zf H R R R dd_ λa H=>Zf H R R R dd_ λa H=>Zf H R R R dd_ λa H=>Zf H R R R dd_ λa H=>Zf H R R R dd_ λa H=>?_
   refine Z2 H R R λa H=>Zd H R λa H=>Zf H R R R dd_ λa H=>Zf H R R R dd_ λa H=>Zf H R R R dd_ λa H=>Zf H R R R dd_ λa H=>Zf H R R R dd_ λa H=>Z2 H R R λa H=>Zd H R λa H=>Zf H R R R dd_ λa H=>Zf H R R R dd_ λa H=>Zf H R R R dd_ λa H=>?_
   refine Zf H R R R dd_ λa H=>Zf H R R R dd_ λa H=>Z2 H R R λa H=>Zc H R λa H=>Zj ?_
   obtain rfl:=o_1 b
   refine Zk ?_
   have I:=M.fst (l:=[]) I
   exact ⟨H.s,I⟩
  have b:=Zs b f
  refine k_s H f R R R λa H=>k_s H f R R R λa H=>k_s H f R R R λa H=>k_s H f R R R λa H=>k_s H f R R R λa H=>Z2 H (lkb R f) R λa H=>Zd H R λa H=>Zf H R R R dd_ λa H=>Zf H R R R dd_ λa H=>Zf H R R R dd_ λa H=>Zf H R R R dd_ λa H=>Zf H R R R dd_ λa H=>?_
  refine Z2 H R R λa H=>Zd H R λa H=>Zf H R R R dd_ λa H=>Zf H R R R dd_ λa H=>Zf H R R R dd_ λa H=>Zf H R R R dd_ λa H=>Zf H R R R dd_ λa H=>Z2 H R R λa H=>Zd H R λa H=>Zf H R R R dd_ λa H=>Zf H R R R dd_ λa H=>Zf H R R R dd_ λa H=>?_
  refine Zf H R R R dd_ λa H=>Zf H R R R dd_ λa H=>Z2 H R R λa H=>Zd H R λa H=>Zf H R R R dd_ λa H=>Zf H R R R dd_ λa H=>Zf H R R R dd_ λa H=>Zf H R R R dd_ λa H=>Zf H R R R dd_ λa H=>Z2 H R R λa H=>Zc H R λa H=>Zj ?_
  obtain rfl:=o_1 b
  refine Zk ?_
  have I:=M.fst (l:=[]) I
  exact ⟨H.s,I⟩
 rintro a w ⟨H,I⟩
 obtain rfl:=o_1 A
 exact p_3 (kr1 H R R I.kept)
def QR (h : GVault) (i : GVault) (b : Int) : Option (Fl Int (Fl Unit Bool)) :=
 if decide (b < (h.Records.length : Int)) then (((idx h.Records b).bind λc=>(idx i.Records b).bind λd=>(Qv c d).bind λe=>some (!e) : Option (Bool)).bind λf=>if f then (some (Fl.ex (Fl.ex false))) else (some (Fl.nx (wr (b + 1))))) else (some (Fl.ex (Fl.nx ())))
def QH (f : GVault) (h : GVault) (b : Int) : Option (Fl Int (Fl Unit Bool)) :=
 if decide (b < (f.Events.length : Int)) then (((idx f.Events b).bind λc=>(idx h.Events b).bind λd=>some (!decide (c = d)) : Option (Bool)).bind λe=>if e then (some (Fl.ex (Fl.ex false))) else (some (Fl.nx (wr (b + 1))))) else (some (Fl.ex (Fl.nx ())))
def U2 (b : GVault) (c : GVault) : Option (Bool) :=
 ((Qx b.Keys c.Keys).bind λf=>if !f then (some true) else (if b.Next != c.Next then (some true) else (if !decide (b.Head = c.Head) then (some true) else (if (b.Records.length : Int) != (c.Records.length : Int) then (some true) else (some ((b.Events.length : Int) != (c.Events.length : Int)))))) : Option (Bool)).bind λh=>if h then (some false) else ((ZQ (QR b c) 0).bind λd=>d.el (λi=>(ZQ (QH b c) 0).bind λe=>e.el (λj=>some true) (λr=>some r)) (λr=>some r))
theorem Hv (q : World) (o : GVault) (b : Value) (ag : Ro q o.Keys [b]) (f : Value) (t : Ro q o.Records [f]) (m : Value) (G : Ro q o.Events [m]) (B : GVault) (e : Value) (ah : Ro q B.Keys [e]) (k : Value) (K : Ro q B.Records [k]) (n : Value) (T : Ro q B.Events [n]) (r : Bool) (J : U2 o B = some r) :
  Calls prog 47 [vcV b f m o,vcV e k n B].toArray q (Rt q (vT r)):=by
 refine ce func47 ?_
 intro a H
 have I:=M.start q
 unfold U2 at J
 refine Zb (Z1 (cs:=cV b f m o) H I Za ld R R λX w a I H=>Z1 (cs:=cV e k n B) H I Za ld R R λY w a I H=>Zc H R λa H=>Ze (s_2 ?_))
 obtain ⟨j5,h,Z⟩:=p_1 J
 refine ZI (λa w=>Env 82 a [(2,ptr X 0),(3,ptr Y 0),(44,vT j5)] ∧ M (Old q) q w [raw Y (cV e k n B),raw X (cV b f m o)]) ?_ ?_
 ·refine t_1 (Zm H R (Xw) λa H=>ZB (v:=b) H R TF R (at_0 I.ra1) λa H=>Zm H R (Xw) λa H=>ZB (v:=e) H R TF R (at_0 I.ra0) λa H=>?_)
  obtain ⟨r8,e9,h⟩:=p_1 h
  refine c_k H I R (cbm func155) (qk _ o.Keys b (I.rdo ag) B.Keys e (I.rdo ah) r8 e9) λw a I H=>?_
  refine Kp H R λa H=>Zd H R λa H=>?_
  refine Yj (!r8) (λi=>?_) (λi=>?_)
  ·have h:=Zt h i
   refine k_s H i R R R λa H=>k_s H i R R R λa H=>k_s H i R R R λa H=>k_s H i R R R λa H=>k_s H i R R R λa H=>ZH H (lkb R i) R λa H=>Zd H R λa H=>Zf H R R R dd_ λa H=>Zf H R R R dd_ λa H=>Zf H R R R dd_ λa H=>Zf H R R R dd_ λa H=>Zf H R R R dd_ λa H=>?_
   refine ZH H R R λa H=>Zd H R λa H=>Zf H R R R dd_ λa H=>Zf H R R R dd_ λa H=>Zf H R R R dd_ λa H=>Zf H R R R dd_ λa H=>Zf H R R R dd_ λa H=>Zf H R R R dd_ λa H=>Zf H R R R dd_ λa H=>ZH H R R λa H=>Zd H R λa H=>Zf H R R R dd_ λa H=>?_
   refine Zf H R R R dd_ λa H=>Zf H R R R dd_ λa H=>Zf H R R R dd_ λa H=>Zf H R R R dd_ λa H=>Zf H R R R dd_ λa H=>Zf H R R R dd_ λa H=>ZH H R R λa H=>Zj ?_
   obtain rfl:=o_1 h
   refine Zk ?_
   exact ⟨H.s,I⟩
  have h:=Zs h i
  refine Zi H (Zg H R (lkb R i)) dd_ R (Qw) λa H=>Zz (v:=(vI o.Next)) H (Zg H R (lkb R i)) dd_ R ty2 R (at_1 I.ra1) λa H=>Zi H (Zg H R (lkb R i)) dd_ R (Qw) λa H=>Zz (v:=(vI B.Next)) H (Zg H R (lkb R i)) dd_ R ty2 R (at_1 I.ra0) λa H=>Yc H (Zg H R (lkb R i)) dd_ R R R λa H=>Z2 H (lkb R i) R λa H=>Zd H R λa H=>?_
  refine Yj (o.Next != B.Next) (λj=>?_) (λj=>?_)
  ·have h:=Zt h j
   refine k_s H j R R R λa H=>k_s H j R R R λa H=>k_s H j R R R λa H=>k_s H j R R R λa H=>k_s H j R R R λa H=>ZH H (lkb R j) R λa H=>Zd H R λa H=>Zf H R R R dd_ λa H=>Zf H R R R dd_ λa H=>Zf H R R R dd_ λa H=>Zf H R R R dd_ λa H=>Zf H R R R dd_ λa H=>?_
   refine Zf H R R R dd_ λa H=>Zf H R R R dd_ λa H=>ZH H R R λa H=>Zd H R λa H=>Zf H R R R dd_ λa H=>Zf H R R R dd_ λa H=>Zf H R R R dd_ λa H=>Zf H R R R dd_ λa H=>Zf H R R R dd_ λa H=>Zf H R R R dd_ λa H=>Zf H R R R dd_ λa H=>ZH H R R λa H=>?_
   refine Zj ?_
   obtain rfl:=o_1 h
   refine Zk ?_
   exact ⟨H.s,I⟩
  have h:=Zs h j
  refine Zi H (Zg H R (lkb R j)) dd_ R (J1) λa H=>Zx H (Zg H R (lkb R j)) dd_ R ZW R (at_4 I.ra1) (u_1 _) λa H=>Zi H (Zg H R (lkb R j)) dd_ R (J1) λa H=>Zx H (Zg H R (lkb R j)) dd_ R ZW R (at_4 I.ra0) (u_1 _) λa H=>Jx H (Zg H R (lkb R j)) dd_ R R (XX t_4 ty5 R false R dd_ (Xp u_3)) dd_ (by kernel_rfl) λa H=>Z2 H (lkb R j) R λa H=>Zd H R λa H=>?_
  refine Yj (!decide (o.Head = B.Head)) (λc=>?_) (λc=>?_)
  ·have h:=Zt h c
   refine k_s H c R R R λa H=>k_s H c R R R λa H=>k_s H c R R R λa H=>k_s H c R R R λa H=>k_s H c R R R λa H=>k_s H c R R R λa H=>k_s H c R R R λa H=>ZH H (lkb R c) R λa H=>Zd H R λa H=>Zf H R R R dd_ λa H=>Zf H R R R dd_ λa H=>Zf H R R R dd_ λa H=>?_
   refine Zf H R R R dd_ λa H=>Zf H R R R dd_ λa H=>Zf H R R R dd_ λa H=>Zf H R R R dd_ λa H=>ZH H R R λa H=>Zj ?_
   obtain rfl:=o_1 h
   refine Zk ?_
   exact ⟨H.s,I⟩
  have h:=Zs h c
  refine Zi H (Zg H R (lkb R c)) dd_ R (Ye) λa H=>Zz (v:=f) H (Zg H R (lkb R c)) dd_ R Xr R (at_2 I.ra1) λa H=>W2 H (Zg H R (lkb R c)) dd_ R o_3 (I.rd t) λa H=>Zi H (Zg H R (lkb R c)) dd_ R (Ye) λa H=>Zz (v:=k) H (Zg H R (lkb R c)) dd_ R Xr R (at_2 I.ra0) λa H=>W2 H (Zg H R (lkb R c)) dd_ R o_3 (I.rd K) λa H=>Yc H (Zg H R (lkb R c)) dd_ R R R λa H=>Z2 H (lkb R c) R λa H=>Zd H R λa H=>?_
  refine Yj ((o.Records.length : Int) != (B.Records.length : Int)) (λd=>?_) (λd=>?_)
  ·have h:=Zt h d
   refine k_s H d R R R λa H=>k_s H d R R R λa H=>k_s H d R R R λa H=>k_s H d R R R λa H=>k_s H d R R R λa H=>k_s H d R R R λa H=>k_s H d R R R λa H=>ZH H (lkb R d) R λa H=>Zj ?_
   obtain rfl:=o_1 h
   refine Zk ?_
   exact ⟨H.s,I⟩
  have h:=Zs h d
  refine Zi H (Zg H R (lkb R d)) dd_ R (XA) λa H=>Zz (v:=m) H (Zg H R (lkb R d)) dd_ R T3 R (at_3 I.ra1) λa H=>W2 H (Zg H R (lkb R d)) dd_ R p_4 (I.rd G) λa H=>Zi H (Zg H R (lkb R d)) dd_ R (XA) λa H=>Zz (v:=n) H (Zg H R (lkb R d)) dd_ R T3 R (at_3 I.ra0) λa H=>W2 H (Zg H R (lkb R d)) dd_ R p_4 (I.rd T) λa H=>Yc H (Zg H R (lkb R d)) dd_ R R R λa H=>Z2 H (lkb R d) R λa H=>Zj ?_
  obtain rfl:=o_1 h
  refine Zk ?_
  exact ⟨H.s,I⟩
 rintro a w ⟨H,I⟩
 refine c_if H R Z ?_ ?_
 ·intro ak Z
  refine Zb (Zc H R λa H=>Ze ?_)
  obtain rfl:=o_1 Z
  exact p_3 (ZJ (kr1 H R R I.kept))
 intro ak Z
 refine u_2 (ZA (s_2 (Zb (Zc H R λa H=>Ze ?_))))
 obtain ⟨az,al,U⟩:=p_1 Z
 refine ZV (λa w=>∃ am : Unit,az = Fl.nx am ∧ Env 82 a [(2,ptr X 0),(3,ptr Y 0)] ∧ M (Old q) q w [raw Y (cV e k n B),raw X (cV b f m o)]) ?_ ?_
 ·refine p_2 ?_
  refine ZP (λ(ai : Int) a w=>Env 82 a [(2,ptr X 0),(3,ptr Y 0),(5,vI ai)] ∧ M (Old q) q w [raw Y (cV e k n B),raw X (cV b f m o)]) al ⟨H.s,I⟩ ?_
  rintro ai a w ⟨H,I⟩ bo C ac
  unfold QR at C
  refine s_2 (Zb (Zd H R λa H=>Zm H R (Ye) λa H=>ZB (v:=f) H R Xr R (at_2 I.ra1) λa H=>Yu H R o_3 (I.rd t) λa H=>Zn H R R R λa H=>Ze ?_))
  refine c_if H R C ?_ ?_
  ·intro an C
   refine u_2 (ZA (s_2 (p_2 ?_)))
   obtain ⟨a0,A,L⟩:=p_1 C
   refine ZI (λa w=>Env 82 a [(2,ptr X 0),(3,ptr Y 0),(5,vI ai),(63,vT a0)] ∧ M (Old q) q w [raw Y (cV e k n B),raw X (cV b f m o)]) ?_ ?_
   ·obtain ⟨a1,aa,A⟩:=bix A
    obtain ⟨bh,ao,ap⟩:=Y2 t aa.2 -- ^
    obtain ⟨a2,a3,rfl,a4,a5⟩:=Yl ao -- ^
    obtain ⟨a6,ab,A⟩:=bix A
    obtain ⟨bi,aq,ar⟩:=Y2 K ab.2 -- ^
    obtain ⟨a7,a8,rfl,a9,ba⟩:=Yl aq -- ^
    obtain ⟨bb,bc,A⟩:=p_1 A
    refine Z9 [52,53,54,55,56,57,58,59,60,61,62,63] Yx R R dd_ R H I (qsP (λz=>Zi z.E Za ld R (Ye) (kr0 R)) (qsP (λz=>Zz (v:=f) z.E Za ld R Xr R (at_2 (z.M.ra1)) (kr0 R)) (q_m (λ_=>R) (qsP (λz=>Z6 z.E Za ld R R o_3 Yk (z.M.rd t) aa.1 (kr0 R)) (qsP (λz=>Zx z.E Za ld R Yk R (z.M.atk ap (XM t aa.2)) cq (kr0 R)) (qsP (λz=>Zi z.E Za ld R (Ye) (kr0 R)) (qsP (λz=>Zz (v:=k) z.E Za ld R Xr R (at_2 (z.M.ra0)) (kr0 R)) (q_m (λ_=>R) (qsP (λz=>Z6 z.E Za ld R R o_3 Yk (z.M.rd K) ab.1 (kr0 R)) (qsP (λz=>Zx z.E Za ld R Yk R (z.M.atk ar (XM K ab.2)) cq (kr0 R)) (qsP (λz=>Z8 z.E Za ld R (cbm func156) (jU _ a1 a2 (z.M.rdo a4) a3 (z.M.rdo a5) a6 a7 (z.M.rdo a9) a8 (z.M.rdo ba) bb bc) (kc R)) (qsP (λz=>KG z.E Za ld R (kr0 R)) qs0)))))))))))) ?_
    ·intro a w u H I
     refine Zj ?_
     obtain rfl:=o_1 A
     refine Zk ?_
     exact ⟨H.s,I⟩
   rintro a w ⟨H,I⟩
   refine c_if H R L ?_ ?_
   ·intro au L
    refine Zb (Zc H R λa H=>Ze ?_)
    obtain rfl:=ac _ (ois L)
    obtain rfl:=o_1 U
    exact p_3 (Xa (ZJ (ZJ (Xa (ZJ (ZJ (kr1 H R R I.kept)))))))
   intro au L
   refine u_2 (Yy (ZA (t_1 (Zd H R λa H=>Zn H R R R λa H=>Zc H R λa H=>Zj (Zk ?_)))))
   exact ⟨_,ois L,H.s,I⟩
  intro an C
  refine s_4 (Zu (Zu (YE ?_)))
  obtain rfl:=ac _ (ois C)
  refine Zk ?_
  exact ⟨(),R,H.s,I⟩
 rintro a w ⟨am,ht,H,I⟩
 subst ht
 have U:=KT U
 refine ZA (s_2 (Zb (Zc H R λa H=>Ze ?_)))
 obtain ⟨bd,av,W⟩:=p_1 U
 refine ZV (λa w=>∃ aw : Unit,bd = Fl.nx aw ∧ Env 82 a [] ∧ M (Old q) q w []) ?_ ?_
 ·refine p_2 ?_
  refine ZP (λ(aj : Int) a w=>Env 82 a [(2,ptr X 0),(3,ptr Y 0),(6,vI aj)] ∧ M (Old q) q w [raw Y (cV e k n B),raw X (cV b f m o)]) av ⟨H.s,I⟩ ?_
  rintro aj a w ⟨H,I⟩ bp F ad
  unfold QH at F
  refine s_2 (Zb (Zd H R λa H=>Zm H R (XA) λa H=>ZB (v:=m) H R T3 R (at_3 I.ra1) λa H=>Yu H R p_4 (I.rd G) λa H=>Zn H R R R λa H=>Ze ?_))
  refine c_if H R F ?_ ?_
  ·intro ax F
   refine u_2 (ZA (s_2 (p_2 ?_)))
   obtain ⟨be,N,O⟩:=p_1 F
   refine ZI (λa w=>Env 82 a [(2,ptr X 0),(3,ptr Y 0),(6,vI aj),(81,vT be)] ∧ M (Old q) q w [raw Y (cV e k n B),raw X (cV b f m o)]) ?_ ?_
   ·obtain ⟨bq,ae,N⟩:=bix N
    obtain ⟨br,af,N⟩:=bix N
    refine Z9 [71,72,73,74,75,76,77,78,79,80,81] Yx R R dd_ R H I (qsP (λz=>Zi z.E Za ld R (XA) (kr0 R)) (qsP (λz=>Zz (v:=m) z.E Za ld R T3 R (at_3 (z.M.ra1)) (kr0 R)) (q_m (λ_=>R) (qsP (λz=>Z6 z.E Za ld R R p_4 Xn (z.M.rd G) ae.1 (kr0 R)) (qsP (λz=>Zx z.E Za ld R Xn R (YG (z.M.rd G) ae.2) cq (kr0 R)) (qsP (λz=>Zi z.E Za ld R (XA) (kr0 R)) (qsP (λz=>Zz (v:=n) z.E Za ld R T3 R (at_3 (z.M.ra0)) (kr0 R)) (q_m (λ_=>R) (qsP (λz=>Z6 z.E Za ld R R p_4 Xn (z.M.rd T) af.1 (kr0 R)) (qsP (λz=>Zx z.E Za ld R Xn R (YG (z.M.rd T) af.2) cq (kr0 R)) (qsP (λz=>Jx z.E Za ld R R (Zjx (λx : GEvent=>x.Kind) (λx=>x.Number) (λx=>x.Tag) Xn.und (by kernel_rfl) (by kernel_rfl) (by kernel_rfl) (by kernel_rfl) R R R ty2 ty2 ZW R (XX t_4 ty5 R false R dd_ (Xp u_3)) (λ_=>R) (λx y h1 h2 h3=>by cases x; cases y; simp only at h1 h2 h3; subst h1; subst h2; subst h3; rfl)) dd_ (by kernel_rfl) (kr0 R)) qs0))))))))))) ?_
    ·intro a w u H I
     refine Zj ?_
     obtain rfl:=o_1 N
     refine Zk ?_
     exact ⟨H.s,I⟩
   rintro a w ⟨H,I⟩
   refine c_if H R O ?_ ?_
   ·intro ay O
    refine Zb (Zc H R λa H=>Ze ?_)
    obtain rfl:=ad _ (ois O)
    obtain rfl:=o_1 W
    exact p_3 (Xa (ZJ (ZJ (Xa (ZJ (ZJ (kr1 H R R I.kept)))))))
   intro ay O
   refine u_2 (Yy (ZA (t_1 (Zd H R λa H=>Zn H R R R λa H=>Zc H R λa H=>Zj (Zk ?_)))))
   exact ⟨_,ois O,H.s,I⟩
  intro ax F
  refine s_4 (Zu (Zu (YE ?_)))
  obtain rfl:=ad _ (ois F)
  refine Zk ?_
  have I:=M.fst (l:=[]) I
  exact ⟨(),R,H.sub trivial,I⟩
 rintro a w ⟨aw,ht,H,I⟩
 subst ht
 have W:=KT W
 refine ZA (Zb (Zc H R λa H=>Ze ?_))
 obtain rfl:=o_1 W
 exact p_3 (kr1 H R R I.kept)
def Vd (h : List UInt8) : Option (GVault × V16) :=
 (X6 h).bind λk=>(WL h (k.1,k.2)).bind λb=>(if decide ((b.2.Keys.length : Int) > 0) then ((ZO h (b.1.1,b.1.2) 5).bind λe=>some (e.1.1,e.1.2,e.2 == 0)) else (some (b.1.1,b.1.2,false)) : Option (Int × Int × Bool)).bind λf=>if f.2.2 then (((idx b.2.Keys (0 : Int)).bind λi=>some (b.2.Keys,b.2.Next,b.2.Records,b.2.Events,b.2.Head,i) : Option (List V16 × Int × List GRecord × List GEvent × V32 × V16)).bind λc=>some ((⟨c.1,c.2.1,c.2.2.1,c.2.2.2.1,c.2.2.2.2.1⟩ : GVault),c.2.2.2.2.2)) else (((YI h (f.1,f.2.1)).bind λj=>some (b.2.Keys,b.2.Next,b.2.Records,b.2.Events,b.2.Head,j.2) : Option (List V16 × Int × List GRecord × List GEvent × V32 × V16)).bind λd=>some ((⟨d.1,d.2.1,d.2.2.1,d.2.2.2.1,d.2.2.2.2.1⟩ : GVault),d.2.2.2.2.2))
theorem B5 (B : World) (p0 : List UInt8) (b : Value) (q : Ro B p0 [b]) (r : GVault × V16) (J : Vd p0 = some r) :
  Calls prog 61 [b].toArray B (e_r λv w'=>(∃ y1 y2 y3 : Value,v = (Value.tuple [vcV y1 y2 y3 r.1,Value.agg (enc r.2).toArray].toArray) ∧ Fr B w' [osl NoB r.1.Keys y1,osl NoB r.1.Records y2,osl NoB r.1.Events y3] ∧ Kept (Old B) B w')):=by
 refine ce func61 ?_
 intro a H
 have I:=M.start B
 unfold Vd at J
 refine Zb (Zv H I ZG λN w a I H=>Zv H I ZL λZ w a I H=>Ze (Zb (Zd H R λa H=>?_)))
 have I:=M.tailP (m:=[]) I
 obtain ⟨r5,e6,J⟩:=p_1 J
 refine Zp H R cb77 (Tp _ _ _ _ p0 b q I r5 e6) ?_
 rintro v w a ⟨L,rfl,I⟩ H
 have I:=M.tailU (m:=[_]) I
 simp only [List.cons_append,List.nil_append] at I
 refine Zc H R λa H=>Ze (Zb (Zd H R λa H=>?_))
 have I:=M.tailP (m:=[_]) I
 obtain ⟨i,an,J⟩:=p_1 J
 refine Zp H R Ze8 (Kw _ _ _ _ L p0 b q (r5.1,r5.2) I i an) ?_
 rintro v w a ⟨d,f,h,rfl,I⟩ H
 have I:=M.tailU (m:=[_,_,_,_]) I
 simp only [List.cons_append,List.nil_append] at I
 refine Zv H I ZG λO w a I H=>Zl (seg:=cV d f h i.2) (cs':=cV d f h i.2) H I Za R R R ZG cq (q_1 cq cq) (ZD (cc1 (t_2 (I.sl2)) (cc1 (s_1 (i.2.Next : Int)) (cc1 (t_2 (I.sl3)) (cc1 (t_2 (I.sl4)) (cc1 (s_1 _) cc0)))))) (q_2 cq cq) λw a I H=>Ze (s_2 ?_)
 obtain ⟨o,n,t⟩:=p_1 J
 refine ZI (λa w=>Env 27 a [(2,ptr N 0),(3,ptr Z 0),(4,ptr L 0),(5,ptr O 0),(18,vT o.2.2)] ∧ M (Old B) B w [raw O (cV d f h i.2),raw L (cat [[b],[vI o.1],[Value.int .u64 o.2.1]]),osl NoB i.2.Keys d,osl NoB i.2.Records f,osl NoB i.2.Events h,raw Z xl,raw N xh]) ?_ ?_
 ·refine t_1 (Zm H R (Xw) λa H=>ZB (v:=d) H R TF R (at_0 I.ra0) λa H=>Yu H R s_3 (I.sl2) λa H=>Zn H R R R λa H=>Zd H R λa H=>?_)
  refine Yj (decide ((i.2.Keys.length : Int) > 0)) (λe=>?_) (λe=>?_)
  ·have n:=Zt n e
   refine Zo H (Zg H R (lkb R e)) dd_ R λa H=>?_
   have I:=M.tailP (m:=[_]) I.pl1
   obtain ⟨ao,ap,n⟩:=p_1 n
   refine Z8 H (Zg H R (lkb R e)) dd_ R Kc (ZT _ _ _ _ L p0 b q (i.1.1,i.1.2) 5 I ao ap) ?_
   rintro v w a ⟨rfl,I⟩ H
   have I:=M.tailU (m:=[_]) I
   simp only [List.cons_append,List.nil_append] at I
   refine Yc H (Zg H R (lkb R e)) dd_ R R R λa H=>ZH H (lkb R e) R λa H=>Zj ?_
   obtain rfl:=o_1 n
   refine Zk ?_
   have I:=I.pl6.pl6.pl6.pl6.pl6.pl5.pl6
   exact ⟨H.s,I⟩
  have n:=Zs n e
  refine k_s H e R R R λa H=>k_s H e R R R λa H=>k_s H e R R R λa H=>Z2 H (lkb R e) R λa H=>Zj ?_
  obtain rfl:=o_1 n
  refine Zk ?_
  exact ⟨H.s,I⟩
 rintro a w ⟨H,I⟩
 refine c_if H R t ?_ ?_
 ·intro ad t
  obtain ⟨y,C,ae⟩:=p_1 t
  refine ZI (λa w=>∃ T U u32 : Value,Env 27 a [(2,ptr N 0),(3,ptr Z 0)] ∧ M (Old B) B w [raw Z (enc y.2.2.2.2.2),raw N (cat [[T],[vI y.2.1],[U],[u32],enc y.2.2.2.2.1]),osl NoB y.1 T,osl NoB y.2.2.1 U,osl NoB y.2.2.2.1 u32]) ?_ ?_
  ·have I:=I.pl6
   obtain ⟨af,aa,C⟩:=bix C
   refine Ys (its:=[raw O (cV d f h i.2),raw L (cat [[b],[vI o.1],[Value.int .u64 o.2.1]]),osl NoB i.2.Keys d,osl NoB i.2.Records f,osl NoB i.2.Events h,raw Z xl]) (mk:=([mkT 5 (raw N xh) (raw N (cV d f h i.2))] : Mk)) [19,20,21,22,23,32] Yx R R dd_ R H (λu=>M.qT (M.q0 I.drew u)) (qsP (v:=(vcV d f h i.2)) ?_ (qsP (λz=>Zi z.E Za ld R (Xw) (kr0 R)) (qsP (λz=>Zz (v:=d) z.E Za ld R TF R (at_0 (z.M.ra0)) (kr0 R)) (qsP (λz=>Z6 z.E Za ld R R s_3 ZL (z.M.sl2) aa.1 (kr0 R)) (qsP (λz=>Zx z.E Za ld R ZL R (YG (z.M.sl2) aa.2) (u_1 _) (kr0 R)) (q_t ?_ qs0)))))) ?_
   ·intro a w ab D z
    have H:=z.E
    have hD : D 0 = false:=z.F
    have I:=z.M.togA (pre:=[_,_,_,_,_,_]) (VE (j:=5) (k:=0) z.c R R R hD)
    exact Zq H R ZG R I.ra0 cq λa H=>⟨p_5 _ _,_,R,H⟩
   ·intro a w ab D z
    have H:=z.E
    have hD : D 5 = false:=z.F
    have I:=(z.M.togA (pre:=[_,_,_,_,_,_]) hD).pl6
    exact Zl (seg:=cV d f h i.2) (cs':=cV d f h i.2) H I Za R R R ZG cq (q_1 cq cq) (ZD (cc1 (t_2 (I.sl3)) (cc1 (s_1 (i.2.Next : Int)) (cc1 (t_2 (I.sl4)) (cc1 (t_2 (I.sl5)) (cc1 (s_1 _) cc0)))))) (q_2 cq cq) λw a I H=>⟨undef,_,R,Env.dummy H dd_,M.qTog (mk1:=[]) (mk2:=[]) I R,trivial⟩
   intro a w ab D H I hG G
   have d5:=G 5 dd_
   have I:=(I.togB (pre:=[_,_,_,_,_,_]) d5).pl5
   refine Zl (seg:=enc af) (cs':=enc af) H I Za R R R ZL (u_1 _) (zle flq) (s_1 _) (Zh flq) λw a I H=>Zj ?_
   obtain rfl:=o_1 C
   refine Zk ?_
   have I:=M.fst (l:=[_,_,_,_,_]) I.pl5.pl5.pl5.pl6.pl4
   exact ⟨d,f,h,H.s,I⟩
  rintro a w ⟨T,U,u32,H,I⟩
  obtain rfl:=o_1 ae
  have ag : Z7 prog _ _ (.cell 2 79) _:=ZE H R ZG R I.ra1 cq R
  have ah : Z7 prog _ _ (.cell 3 53) _:=ZE H R ZL R I.ra0 (u_1 _) R
  have I:=M.fst (l:=[_,_,_]) I.pl4.pl4.pl4
  exact p_3 (ZJ (Yq H R ag ah ⟨_,R,T,U,u32,R,I.outF (ZK (ZK (ZK Yd))),I.kept⟩))
 intro ad t
 refine u_2 (ZA ?_)
 obtain ⟨A,K,ai⟩:=p_1 t
 refine ZI (λa w=>∃ W X Y : Value,Env 27 a [(2,ptr N 0),(3,ptr Z 0)] ∧ M (Old B) B w [raw Z (enc A.2.2.2.2.2),raw N (cat [[W],[vI A.2.1],[X],[Y],enc A.2.2.2.2.1]),osl NoB A.1 W,osl NoB A.2.2.1 X,osl NoB A.2.2.2.1 Y]) ?_ ?_
 ·have I:=I.pl1
  obtain ⟨x,aq,K⟩:=p_1 K
  refine Ys (its:=[raw O (cV d f h i.2),osl NoB i.2.Keys d,osl NoB i.2.Records f,osl NoB i.2.Events h,raw Z xl,raw N xh]) (mk:=([([2],λbs _=>(tog (bs.getD 0 false) (raw L (cat [[b],[vI o.1],[Value.int .u64 o.2.1]])) (raw L (cat [[b],[vI x.1.1],[Value.int .u64 x.1.2]]))))] : Mk)) [24,25,26] Yx R R dd_ R H (λu=>M.qS (M.q0 I.drew u) λ_=>R) (qsP (λz=>Zx z.E Za ld R ZG R (z.M.ra0) cq (kr0 R)) (q_m (λ_=>R) (qsV (v:=(Value.agg (enc x.2).toArray)) ?_ qs0))) ?_
  ·intro a w aj D z
   have H:=z.E
   have hD : D 2 = false:=z.F
   have I:=M.tailP (m:=[_]) ((z.M.togA (pre:=[_,_,_,_,_,_]) hD).pl6)
   refine Zp H R yW (Xy _ _ _ _ L p0 b q (o.1,o.2.1) I x aq) ?_
   rintro v w a ⟨rfl,I⟩ H
   have I:=M.tailU (m:=[_]) I
   simp only [List.cons_append,List.nil_append] at I
   exact ⟨_,R,H,M.qTogS (mk1:=[]) (mk2:=[]) I R (by show tog (Xu D 2 2) (raw L (cat [[b],[vI o.1],[Value.int .u64 o.2.1]])) (raw L (cat [[b],[vI x.1.1],[Value.int .u64 x.1.2]])) = _; rw [tg1 A6])⟩
  intro a w aj D H I hG G
  have d2:=G 2 dd_
  have I:=(I.togB (pre:=[_,_,_,_,_,_]) d2).pl5
  refine Zl (seg:=cV d f h i.2) (cs':=cV d f h i.2) H I Za R R R ZG cq (q_1 cq cq) (ZD (cc1 (t_2 (I.sl2)) (cc1 (s_1 (i.2.Next : Int)) (cc1 (t_2 (I.sl3)) (cc1 (t_2 (I.sl4)) (cc1 (s_1 _) cc0)))))) (q_2 cq cq) λw a I H=>?_
  have I:=I.pl5
  refine Zl (seg:=enc x.2) (cs':=enc x.2) H I Za R R R ZL (u_1 _) (zle flq) (s_1 _) (Zh flq) λw a I H=>Zj ?_
  obtain rfl:=o_1 K
  refine Zk ?_
  have I:=M.fst (l:=[_,_,_,_,_]) I.pl5.pl5.pl5.pl4.pl4
  exact ⟨d,f,h,H.s,I⟩
 rintro a w ⟨W,X,Y,H,I⟩
 obtain rfl:=o_1 ai
 have ak : Z7 prog _ _ (.cell 2 79) _:=ZE H R ZG R I.ra1 cq R
 have al : Z7 prog _ _ (.cell 3 53) _:=ZE H R ZL R I.ra0 (u_1 _) R
 have I:=M.fst (l:=[_,_,_]) I.pl4.pl4.pl4
 exact p_3 (Yq H R ak al ⟨_,R,W,X,Y,R,I.outF (ZK (ZK (ZK Yd))),I.kept⟩)
def Xg (e : List V16) (f : V16) (b : Int) : Option (Fl Int (Fl Unit Int)) :=
 if decide (b < (e.length : Int)) then (((idx e b).bind λc=>some (decide (f = c)) : Option (Bool)).bind λd=>if d then (some (Fl.ex (Fl.ex b))) else (some (Fl.nx (wr (b + 1))))) else (some (Fl.ex (Fl.nx ())))
def Xk (b : List V16) (c : V16) : Option (Int) :=
 (ZQ (Xg b c) 0).bind λd=>d.el (λe=>some (-1)) (λr=>some r)
theorem Kf (h : World) (q : List V16) (d : Value) (c : Ro h q [d]) (k : V16) (r : Int) (J : Xk q k = some r) :
  Calls prog 233 [d,Value.agg (enc k).toArray].toArray h (Rt h (vI r)):=by
 refine ce func233 ?_
 intro a H
 have I:=M.start h
 unfold Xk at J
 refine Zb (Z1 (cs:=enc k) H I Za ld R R λt w a I H=>Zc H R λa H=>Ze (s_2 (Zb (Zd H R λa H=>Yu H R s_3 (I.rd c) λa H=>Zd H R λa H=>Ze ?_))))
 obtain ⟨C,y,i⟩:=p_1 J
 refine ZV (λa w=>∃ B : Unit,C = Fl.nx B ∧ Env 19 a [] ∧ M (Old h) h w []) ?_ ?_
 ·refine p_2 ?_
  refine ZP (λ(x : Int) a w=>Env 19 a [(0,d),(3,ptr t 0),(7,vI (q.length : Int)),(8,vI x)] ∧ M (Old h) h w [raw t (enc k)]) y ⟨H.s,I⟩ ?_
  rintro x a w ⟨H,I⟩ F e m
  unfold Xg at e
  refine Zb (Zn H R R R λa H=>Ze (s_2 ?_))
  refine c_if H R e ?_ ?_
  ·intro n e
   refine u_2 (ZA (s_2 (p_2 (Zb (Zd H R λa H=>Zc H R λa H=>Ze ?_)))))
   obtain ⟨A,f,b⟩:=p_1 e
   refine ZI (λa w=>Env 19 a [(0,d),(3,ptr t 0),(5,vI x),(7,vI (q.length : Int)),(8,vI x),(16,vT A)] ∧ M (Old h) h w [raw t (enc k)]) ?_ ?_
   ·obtain ⟨G,j,f⟩:=bix f
    refine Z9 [11,12,13,14,15,16] Yx R R dd_ R H I (qsP (λz=>Zx z.E Za ld R ZL R (z.M.ra0) (u_1 _) (kr0 R)) (q_m (λ_=>R) (q_m (λ_=>R) (qsP (λz=>Z6 z.E Za ld R R s_3 ZL (z.M.rd c) j.1 (kr0 R)) (qsP (λz=>Zx z.E Za ld R ZL R (YG (z.M.rd c) j.2) (u_1 _) (kr0 R)) (qsP (λz=>qK z.E Za ld R R (XX o_4 ty5 R false R dd_ (Xp u_3)) dd_ (by kernel_rfl) (kr0 R)) qs0)))))) ?_
    ·intro a w u H I
     refine Zj ?_
     obtain rfl:=o_1 f
     refine Zk ?_
     exact ⟨H.s,I⟩
   rintro a w ⟨H,I⟩
   refine c_if H R b ?_ ?_
   ·intro o b
    refine Zb (Zd H R λa H=>Zc H R λa H=>Ze ?_)
    obtain rfl:=m _ (ois b)
    obtain rfl:=o_1 i
    exact p_3 (Xa (ZJ (ZJ (Xa (ZJ (ZJ (kr1 H R R I.kept)))))))
   intro o b
   refine u_2 (Yy (ZA (t_1 (Zn H R R R λa H=>Zd H R λa H=>Zj (Zk ?_)))))
   exact ⟨_,ois b,H.s,I⟩
  intro n e
  refine s_4 (Zu (Zu (YE ?_)))
  obtain rfl:=m _ (ois e)
  refine Zk ?_
  have I:=M.fst (l:=[]) I
  exact ⟨(),R,H.sub trivial,I⟩
 rintro a w ⟨B,ht,H,I⟩
 subst ht
 have i:=KT i
 refine ZA (Zb (Zc H R λa H=>Ze ?_))
 obtain rfl:=o_1 i
 exact p_3 (kr1 H R R I.kept)
def YH (b : List V16) (c : V16) : Option (Bool) :=
 (Xk b c).bind λd=>some (decide (d ≥ 0))
theorem Qr (d : World) (f : List V16) (b : Value) (c : Ro d f [b]) (e : V16) (r : Bool) (J : YH f e = some r) :
  Calls prog 138 [b,Value.agg (enc e).toArray].toArray d (Rt d (vT r)):=by
 refine ce func138 ?_
 intro a H
 have I:=M.start d
 unfold YH at J
 refine Zb (Z1 (cs:=enc e) H I Za ld R R λj w a I H=>Zc H R λa H=>Ze (Zb (Zd H R λa H=>Zq H R ZL R I.ra0 (u_1 _) λa H=>?_)))
 obtain ⟨h,i,J⟩:=p_1 J
 refine c_k H I R (cbm func233) (Kf _ f b (I.rdo c) e h i) λw a I H=>?_
 refine Zn H R R R λa H=>Zc H R λa H=>Ze ?_
 obtain rfl:=o_1 J
 exact p_3 (kr1 H R R I.kept)
def Tk (e : GVault) (f : V16) : Option (GVault × Int) :=
 (Wx e).bind λl=>if !l then (some ((⟨[],0,[],[],Vector.replicate 32 (0 : UInt8)⟩ : GVault),1)) else ((YH e.Keys f).bind λh=>if h then (some ((⟨[],0,[],[],Vector.replicate 32 (0 : UInt8)⟩ : GVault),5)) else ((if (e.Keys.length : Int) == 8 then (some true) else (some ((e.Events.length : Int) == 60)) : Option (Bool)).bind λi=>if i then (some ((⟨[],0,[],[],Vector.replicate 32 (0 : UInt8)⟩ : GVault),3)) else ((We e).bind λb=>(app 16 b.Keys ([f] : List V16)).bind λm=>((Y0).bind λj=>(Yb e.Keys).bind λk=>(Xj j (⟨b.Keys ++ ([f] : List V16),b.Next,b.Records,b.Events,b.Head⟩ : GVault) (⟨3,k,Vector.replicate 32 (0 : UInt8)⟩ : GEvent)).bind λd=>some (d.Keys,d.Next,d.Records,d.Events,d.Head,0) : Option (List V16 × Int × List GRecord × List GEvent × V32 × Int)).bind λc=>some ((⟨c.1,c.2.1,c.2.2.1,c.2.2.2.1,c.2.2.2.2.1⟩ : GVault),c.2.2.2.2.2))))
theorem yB (t : World) (o : GVault) (b : Value) (j : Ro t o.Keys [b]) (h : Value) (x : Ro t o.Records [h]) (i : Value) (n : Ro t o.Events [i]) (y : V16) (r : GVault × Int) (J : Tk o y = some r) :
  Calls prog 41 [vcV b h i o,Value.agg (enc y).toArray].toArray t (e_r λv w'=>(∃ y1 y2 y3 : Value,v = (Value.tuple [vcV y1 y2 y3 r.1,vI r.2].toArray) ∧ Fr t w' [osl NoB r.1.Keys y1,osl NoB r.1.Records y2,osl NoB r.1.Events y3] ∧ Kept (Old t) t w')):=by
 refine ce func41 ?_
 intro a H
 have I:=M.start t
 unfold Tk at J
 refine Zb (Z1 (cs:=cV b h i o) H I Za ld R R λb1 w a I H=>Z1 (cs:=enc y) H I Za ld R R λb3 w a I H=>Zv H I ZG λb5 w a I H=>Zc H R λa H=>Ze (s_2 (p_2 (Zb (Zq H R ZG R I.ra2 cq λa H=>?_)))))
 obtain ⟨r7,e8,J⟩:=p_1 J
 refine c_k H I R cb48 (QJ _ o b (I.rdo j) h (I.rdo x) i (I.rdo n) r7 e8) λw a I H=>?_
 refine Kp H R λa H=>Zc H R λa H=>Ze ?_
 refine c_if H R J ?_ ?_
 ·intro an J
  refine Zb (Yi (parts:=[]) (vs:=[]) (cs:=cat xa) H Za ld R R ZG Ju YF λa H=>Zl (seg:=cat xa) (cs':=cat xa) H I Za R R R ZG cq (q_1 cq cq) (ZD (cc1 ZZ (cc1 (s_1 xi) (cc1 ZZ (cc1 ZZ (cc1 (s_1 _) cc0)))))) (q_2 cq cq) λw a I H=>Zc H R λa H=>Ze ?_)
  have I:=M.nilS (α:=GEvent) NoB noB (M.nilS (α:=GRecord) NoB noB (M.nilS (α:=V16) NoB noB I))
  obtain rfl:=o_1 J
  have ac : Z7 prog _ _ (.cell 4 79) _:=ZE H R ZG R I.ra3 cq R
  have I:=M.fst (l:=[_,_,_]) I.pl1.pl2
  exact p_3 (Xa (ZJ (Yq H R ac (Zy H R) ⟨_,R,xd,xd,xd,R,I.outF (ZK (ZK (ZK Yd))),I.kept⟩)))
 intro an J
 refine Zb (Zm H R (Xw) λa H=>ZB (v:=b) H R TF R (at_0 I.ra2) λa H=>Zq H R ZL R I.ra1 (u_1 _) λa H=>?_)
 obtain ⟨ao,ap,J⟩:=p_1 J
 refine c_k H I R (cbm func138) (Qr _ o.Keys b (I.rdo j) y ao ap) λw a I H=>?_
 refine Zc H R λa H=>Ze ?_
 refine c_if H R J ?_ ?_
 ·intro ad J
  refine Zb (Yi (parts:=[]) (vs:=[]) (cs:=cat xa) H Za ld R R ZG Ju YF λa H=>Zl (seg:=cat xa) (cs':=cat xa) H I Za R R R ZG cq (q_1 cq cq) (ZD (cc1 ZZ (cc1 (s_1 xi) (cc1 ZZ (cc1 ZZ (cc1 (s_1 _) cc0)))))) (q_2 cq cq) λw a I H=>Zc H R λa H=>Ze ?_)
  have I:=M.nilS (α:=GEvent) NoB noB (M.nilS (α:=GRecord) NoB noB (M.nilS (α:=V16) NoB noB I))
  obtain rfl:=o_1 J
  have ae : Z7 prog _ _ (.cell 4 79) _:=ZE H R ZG R I.ra3 cq R
  have I:=M.fst (l:=[_,_,_]) I.pl1.pl2
  exact p_3 (Xa (ZJ (Yq H R ae (Zy H R) ⟨_,R,xd,xd,xd,R,I.outF (ZK (ZK (ZK Yd))),I.kept⟩)))
 intro ad J
 obtain ⟨aq,m,d⟩:=p_1 J
 refine ZI (λa w=>Env 45 a [(2,ptr b1 0),(3,ptr b3 0),(4,ptr b5 0),(18,vT aq)] ∧ M (Old t) t w [raw b5 xh,raw b3 (enc y),raw b1 (cV b h i o)]) ?_ ?_
 ·refine t_1 (Zm H R (Xw) λa H=>ZB (v:=b) H R TF R (at_0 I.ra2) λa H=>Yu H R s_3 (I.rd j) λa H=>Zn H R R R λa H=>Zd H R λa H=>?_)
  refine Yj ((o.Keys.length : Int) == 8) (λc=>?_) (λc=>?_)
  ·have m:=Zt m c
   refine k_s H c R R R λa H=>k_s H c R R R λa H=>k_s H c R R R λa H=>k_s H c R R R λa H=>ZH H (lkb R c) R λa H=>Zc H R λa H=>Zj ?_
   obtain rfl:=o_1 m
   refine Zk ?_
   exact ⟨H.s,I⟩
  have m:=Zs m c
  refine Zi H (Zg H R (lkb R c)) dd_ R (XA) λa H=>Zz (v:=i) H (Zg H R (lkb R c)) dd_ R T3 R (at_3 I.ra2) λa H=>W2 H (Zg H R (lkb R c)) dd_ R p_4 (I.rd n) λa H=>Yc H (Zg H R (lkb R c)) dd_ R R R λa H=>Z2 H (lkb R c) R λa H=>Zc H R λa H=>Zj ?_
  obtain rfl:=o_1 m
  refine Zk ?_
  exact ⟨H.s,I⟩
 rintro a w ⟨H,I⟩
 refine c_if H R d ?_ ?_
 ·intro af d
  refine Zb (Yi (parts:=[]) (vs:=[]) (cs:=cat xa) H Za ld R R ZG Ju YF λa H=>Zl (seg:=cat xa) (cs':=cat xa) H I Za R R R ZG cq (q_1 cq cq) (ZD (cc1 ZZ (cc1 (s_1 xi) (cc1 ZZ (cc1 ZZ (cc1 (s_1 _) cc0)))))) (q_2 cq cq) λw a I H=>Zc H R λa H=>Ze ?_)
  have I:=M.nilS (α:=GEvent) NoB noB (M.nilS (α:=GRecord) NoB noB (M.nilS (α:=V16) NoB noB I))
  obtain rfl:=o_1 d
  have ag : Z7 prog _ _ (.cell 4 79) _:=ZE H R ZG R I.ra3 cq R
  have I:=M.fst (l:=[_,_,_]) I.pl1.pl2
  exact p_3 (Xa (ZJ (Yq H R ag (Zy H R) ⟨_,R,xd,xd,xd,R,I.outF (ZK (ZK (ZK Yd))),I.kept⟩)))
 intro af d
 refine u_2 (Yy (ZA (Zb (Zq H R ZG R I.ra2 cq λa H=>?_))))
 obtain ⟨e,ar,d⟩:=p_1 d
 refine Zp H R Zi4 (KD _ o b (I.rdo j) h (I.rdo x) i (I.rdo n) e ar) ?_
 rintro v w a ⟨W,A,B,rfl,hFr,hK⟩ H
 have I:=I.add hK hFr
 refine Zv H I ZG λau w a I H=>Zl (seg:=cV W A B e) (cs':=cV W A B e) H I Za R R R ZG cq (q_1 cq cq) (ZD (cc1 (t_2 (I.sl1)) (cc1 (s_1 (e.Next : Int)) (cc1 (t_2 (I.sl2)) (cc1 (t_2 (I.sl3)) (cc1 (s_1 _) cc0)))))) (q_2 cq cq) λw a I H=>Ze (Zb (Zm H R (Xw) λa H=>ZB (v:=W) H R TF R (at_0 I.ra0) λa H=>Zq H R ZL R I.ra5 (u_1 _) λa H=>ZM (xs:=[.tmp 34]) (l:=([y] : List V16)) (vs:=[Value.agg (enc y).toArray]) H I Za ld R R s_3 ZL R dd_ R λav w a I H=>?_))
 obtain ⟨a7,aw,d⟩:=p_1 d
 obtain ⟨ax,rfl⟩:=ZU aw
 have I:=I.pl2
 refine ZX H I Za ld R R (I.sl1) s_3 ZL R dd_ ax λG w a I H=>Zm H R (Xw) λa H=>?_
 have I:=I.pl2
 refine Zl (seg:=[G]) H I Za R R (Z5 (I.sl1)) TF R (Xf (pre:=[]) cl0 R) (t_2 (I.sl1)) (Ym (pre:=[]) cl0 R) λw a I H=>Ze ?_
 obtain ⟨q,k,ah⟩:=p_1 d
 refine ZI (λa w=>∃ K L N : Value,Env 45 a [(4,ptr b5 0),(5,vI q.2.2.2.2.2)] ∧ M (Old t) t w [raw b5 (cat [[K],[vI q.2.1],[L],[N],enc q.2.2.2.2.1]),osl NoB q.1 K,osl NoB q.2.2.1 L,osl NoB q.2.2.2.1 N]) ?_ ?_
 ·obtain ⟨O,ay,k⟩:=p_1 k
  obtain ⟨C,az,k⟩:=p_1 k
  refine Ys (its:=[raw au (cV G A B e),osl NoB ((e.Keys ++ ([y] : List V16)) : List V16) G,osl NoB (([y] : List V16) : List V16) av,osl NoB e.Records A,osl NoB e.Events B,raw b5 xh,raw b3 (enc y),raw b1 (cV b h i o)]) (mk:=([mkO 0 (λv=>own NoB O [v])] : Mk)) [38,39,40,41,42,43] Yx R R dd_ R H (λu=>M.qE (M.q0 I.drew u) emO) (q_t ?_ (qsP (λz=>Zx z.E Za ld R ZG R (z.M.ra0) cq (kr0 R)) (qsP (λz=>Zi z.E Za ld R (Xw) (kr0 R)) (qsP (λz=>Zz (v:=b) z.E Za ld R TF R (at_0 (z.M.ra7)) (kr0 R)) (qsP (λz=>Z8 z.E Za ld R zW (YJ _ o.Keys b (z.M.rdo j) C az) (kc R)) (qsP (λz=>Yi (parts:=[(0,.const (vI 3)),(1,.tmp 42)]) (vs:=[(0,vI 3),(1,vI C)]) (cs:=cat [[vI 3],[vI C],enc xb]) z.E Za ld R R Xn Zap (Ya (pre:=[]) (seg:=[vI 0]) (seg':=[vI 3]) (post:=[[vI 0],enc xb]) R cl0 R R R (Ya (pre:=[[vI 3]]) (seg:=[vI 0]) (seg':=[vI C]) (post:=[enc xb]) R ck R R R YF)) (kr0 R)) qs0)))))) ?_
  ·intro a w U D z
   have H:=z.E
   have hD : D 0 = false:=z.F
   have hM0:=z.M
   have I:=z.M
   refine Zp H R kQ (Wd _  O ay) ?_
   rintro _ w a ⟨_,rfl,hFr,hK⟩ H
   have I:=hM0.add hK hFr
   exact ⟨_,_,R,H,M.qFill (mk1:=[]) (mk2:=[]) (f:=(λv=>own NoB O [v])) I R hD,trivial⟩
  intro a w U D H I hG ai
  have d0:=ai 0 dd_
  have I:=((((I.sure (pre:=[_,_,_,_,_,_,_,_]) d0).pl4).pl4).pl3).pl8
  have hM0:=I
  obtain ⟨S63,a4,aj,I,X⟩:=M.freeze [_,_,_] I noB
  obtain ⟨T,a0,k⟩:=p_1 k
  refine Zp H R Zig (Kb _ _ _ _ O (U 0) aj (⟨e.Keys ++ ([y] : List V16),e.Next,e.Records,e.Events,e.Head⟩ : GVault) G A B (⟨3,C,xb⟩ : GEvent) I T a0) ?_
  rintro v w a ⟨Y,Z,aa,rfl,I⟩ H
  have I:=X _ [_,_,_] (ZK (ZK (ZK Yd))) I
  simp only [List.cons_append,List.nil_append] at I
  have I:=I.pl6
  refine Zl (seg:=cV Y Z aa T) (cs':=cV Y Z aa T) H I Za R R R ZG cq (q_1 cq cq) (ZD (cc1 (t_2 (I.sl2)) (cc1 (s_1 (T.Next : Int)) (cc1 (t_2 (I.sl3)) (cc1 (t_2 (I.sl4)) (cc1 (s_1 _) cc0)))))) (q_2 cq cq) λw a I H=>Zc H R λa H=>Zj ?_
  obtain rfl:=o_1 k
  refine Zk ?_
  have I:=M.fst (l:=[_,_,_,_]) I.pl4.pl4.pl4.pl3
  exact ⟨Y,Z,aa,H.s,I⟩
 rintro a w ⟨K,L,N,H,I⟩
 obtain rfl:=o_1 ah
 have ak : Z7 prog _ _ (.cell 4 79) _:=ZE H R ZG R I.ra0 cq R
 have I:=M.fst (l:=[_,_,_]) I.pl3.pl3.pl3
 exact p_3 (Yq H R ak (Zy H R) ⟨_,R,K,L,N,R,I.outF (ZK (ZK (ZK Yd))),I.kept⟩)
def VK (h : List UInt8) : Option (GVault × Int × V16) :=
 (X6 h).bind λi=>(W1 h).bind λd=>(if decide ((d.1.Records.length : Int) > 0) then ((ZO h (i.1,i.2) 6).bind λe=>some (e.1.1,e.1.2,e.2 == 0)) else (some (i.1,i.2,false)) : Option (Int × Int × Bool)).bind λf=>if f.2.2 then (((idx d.1.Records (0 : Int)).bind λj=>some (d.1.Keys,d.1.Next,d.1.Records,d.1.Events,d.1.Head,j.Nonce,d.2) : Option (List V16 × Int × List GRecord × List GEvent × V32 × V16 × Int)).bind λb=>some ((⟨b.1,b.2.1,b.2.2.1,b.2.2.2.1,b.2.2.2.2.1⟩ : GVault),b.2.2.2.2.2.2,b.2.2.2.2.2.1)) else (((YI h (f.1,f.2.1)).bind λk=>some (d.1.Keys,d.1.Next,d.1.Records,d.1.Events,d.1.Head,k.2,d.2) : Option (List V16 × Int × List GRecord × List GEvent × V32 × V16 × Int)).bind λc=>some ((⟨c.1,c.2.1,c.2.2.1,c.2.2.2.1,c.2.2.2.2.1⟩ : GVault),c.2.2.2.2.2.2,c.2.2.2.2.2.1))
theorem Aq (C : World) (p0 : List UInt8) (e : Value) (q : Ro C p0 [e]) (r : GVault × Int × V16) (J : VK p0 = some r) :
  Calls prog 63 [e].toArray C (e_r λv w'=>(∃ y1 y2 y3 : Value,v = (Value.tuple [vcV y1 y2 y3 r.1,vI r.2.1,Value.agg (enc r.2.2).toArray].toArray) ∧ Fr C w' [osl NoB r.1.Keys y1,osl NoB r.1.Records y2,osl NoB r.1.Events y3] ∧ Kept (Old C) C w')):=by
 refine ce func63 ?_
 intro a H
 have I:=M.start C
 unfold VK at J
 refine Zb (Zv H I ZG λT w a I H=>Zc H R λa H=>Zv H I ZL λb3 w a I H=>Ze (Zb (Zd H R λa H=>?_)))
 have I:=M.tailP (m:=[]) I
 obtain ⟨r5,e6,J⟩:=p_1 J
 refine Zp H R cb77 (Tp _ _ _ _ p0 e q I r5 e6) ?_
 rintro v w a ⟨U,rfl,I⟩ H
 have I:=M.tailU (m:=[_]) I
 simp only [List.cons_append,List.nil_append] at I
 refine Zc H R λa H=>Ze (Zb (Zd H R λa H=>?_))
 obtain ⟨i,ap,J⟩:=p_1 J
 refine Zp H R (cbm func162) (J7 _ p0 e (I.rdo q) i ap) ?_
 rintro v w a ⟨b,d,f,rfl,hFr,hK⟩ H
 have I:=I.add hK hFr
 refine Zd H R λa H=>ZF H Za ld R R λa H=>ZF H Za ld R R λa H=>Zv H I ZG λW w a I H=>Zl (seg:=cV b d f i.1) (cs':=cV b d f i.1) H I Za R R R ZG cq (q_1 cq cq) (ZD (cc1 (t_2 (I.sl1)) (cc1 (s_1 (i.1.Next : Int)) (cc1 (t_2 (I.sl2)) (cc1 (t_2 (I.sl3)) (cc1 (s_1 _) cc0)))))) (q_2 cq cq) λw a I H=>Zc H R λa H=>Ze (s_2 ?_)
 obtain ⟨o,n,t⟩:=p_1 J
 refine ZI (λa w=>Env 35 a [(2,ptr T 0),(4,ptr b3 0),(5,ptr U 0),(6,ptr W 0),(7,vI i.2),(23,vT o.2.2)] ∧ M (Old C) C w [raw W (cV b d f i.1),osl NoB i.1.Keys b,osl NoB i.1.Records d,osl NoB i.1.Events f,raw U (cat [[e],[vI o.1],[Value.int .u64 o.2.1]]),raw b3 xl,raw T xh]) ?_ ?_
 ·refine t_1 (Zm H R (Ye) λa H=>ZB (v:=d) H R Xr R (at_2 I.ra0) λa H=>Yu H R o_3 (I.sl2) λa H=>Zn H R R R λa H=>Zd H R λa H=>?_)
  refine Yj (decide ((i.1.Records.length : Int) > 0)) (λh=>?_) (λh=>?_)
  ·have n:=Zt n h
   refine Zo H (Zg H R (lkb R h)) dd_ R λa H=>?_
   have I:=M.tailP (m:=[_]) I.pl4
   obtain ⟨aq,ar,n⟩:=p_1 n
   refine Z8 H (Zg H R (lkb R h)) dd_ R Kc (ZT _ _ _ _ U p0 e q (r5.1,r5.2) 6 I aq ar) ?_
   rintro v w a ⟨rfl,I⟩ H
   have I:=M.tailU (m:=[_]) I
   simp only [List.cons_append,List.nil_append] at I
   refine Yc H (Zg H R (lkb R h)) dd_ R R R λa H=>ZH H (lkb R h) R λa H=>Zj ?_
   obtain rfl:=o_1 n
   refine Zk ?_
   have I:=I.pl6.pl6.pl2.pl6.pl6.pl6.pl6
   exact ⟨H.s,I⟩
  have n:=Zs n h
  refine k_s H h R R R λa H=>k_s H h R R R λa H=>k_s H h R R R λa H=>Z2 H (lkb R h) R λa H=>Zj ?_
  obtain rfl:=o_1 n
  refine Zk ?_
  exact ⟨H.s,I⟩
 rintro a w ⟨H,I⟩
 refine c_if H R t ?_ ?_
 ·intro af t
  obtain ⟨y,G,ag⟩:=p_1 t
  refine ZI (λa w=>∃ X Y u32 : Value,Env 35 a [(2,ptr T 0),(3,vI y.2.2.2.2.2.2),(4,ptr b3 0)] ∧ M (Old C) C w [raw b3 (enc y.2.2.2.2.2.1),raw T (cat [[X],[vI y.2.1],[Y],[u32],enc y.2.2.2.2.1]),osl NoB y.1 X,osl NoB y.2.2.1 Y,osl NoB y.2.2.2.1 u32]) ?_ ?_
  ·have I:=I.pl6
   obtain ⟨K,ad,G⟩:=bix G
   refine Ys (its:=[raw W (cV b d f i.1),osl NoB i.1.Keys b,osl NoB i.1.Records d,osl NoB i.1.Events f,raw U (cat [[e],[vI o.1],[Value.int .u64 o.2.1]]),raw b3 xl]) (mk:=([mkT 7 (raw T xh) (raw T (cV b d f i.1))] : Mk)) [24,25,26,27,28,29,30,42,3] Yx R R dd_ R H (λu=>M.qT (M.q0 I.drew u)) (qsP (v:=(vcV b d f i.1)) ?_ (q_m (λ_=>R) (qsP (λz=>Zi z.E Za ld R (Ye) (kr0 R)) (qsP (λz=>Zz (v:=d) z.E Za ld R Xr R (at_2 (z.M.ra0)) (kr0 R)) (qsP (λz=>Z6 z.E Za ld R R o_3 Yk (z.M.sl2) ad.1 (kr0 R)) (qsP (λz=>Zi z.E Za ld R (Ho) (kr0 R)) (qsP (v:=(Value.agg (enc K.Nonce).toArray)) ?_ (q_t ?_ (qsP (λz=>Qs z.E Za ld R (kr0 R)) qs0))))))))) ?_
   ·intro a w L D z
    have H:=z.E
    have hD : D 0 = false:=z.F
    have I:=z.M.togA (pre:=[_,_,_,_,_,_]) (VE (j:=7) (k:=0) z.c R R R hD)
    exact Zq H R ZG R I.ra0 cq λa H=>⟨p_5 _ _,_,R,H⟩
   ·intro a w L D z
    have H:=z.E
    have I:=z.M
    obtain ⟨ay,ah,ai⟩:=Y2 (I.sl2) ad.2
    obtain ⟨a0,a1,rfl,_,_⟩:=Yl ah
    exact Zq H R ZL R (at_2 ai) (u_1 _) λa H=>⟨p_5 _ _,_,R,H⟩
   ·intro a w L D z
    have H:=z.E
    have hD : D 7 = false:=z.F
    have I:=(z.M.togA (pre:=[_,_,_,_,_,_]) hD).pl6
    exact Zl (seg:=cV b d f i.1) (cs':=cV b d f i.1) H I Za R R R ZG cq (q_1 cq cq) (ZD (cc1 (t_2 (I.sl2)) (cc1 (s_1 (i.1.Next : Int)) (cc1 (t_2 (I.sl3)) (cc1 (t_2 (I.sl4)) (cc1 (s_1 _) cc0)))))) (q_2 cq cq) λw a I H=>⟨undef,_,R,Env.dummy H dd_,M.qTog (mk1:=[]) (mk2:=[]) I R,trivial⟩
   intro a w L D H I hG B
   have d7:=B 7 dd_
   have I:=(I.togB (pre:=[_,_,_,_,_,_]) d7).pl5
   refine Zl (seg:=enc K.Nonce) (cs':=enc K.Nonce) H I Za R R R ZL (u_1 _) (zle flq) (s_1 _) (Zh flq) λw a I H=>Zj ?_
   obtain rfl:=o_1 G
   refine Zk ?_
   have I:=M.fst (l:=[_,_,_,_,_]) I.pl4.pl4.pl4.pl6.pl4
   exact ⟨b,d,f,H.s,I⟩
  rintro a w ⟨X,Y,u32,H,I⟩
  obtain rfl:=o_1 ag
  have aj : Z7 prog _ _ (.cell 2 79) _:=ZE H R ZG R I.ra1 cq R
  have ak : Z7 prog _ _ (.cell 4 53) _:=ZE H R ZL R I.ra0 (u_1 _) R
  have I:=M.fst (l:=[_,_,_]) I.pl4.pl4.pl4
  exact p_3 (ZJ (AS H R aj (Zy H R) ak ⟨_,R,X,Y,u32,R,I.outF (ZK (ZK (ZK Yd))),I.kept⟩))
 intro af t
 refine u_2 (ZA ?_)
 obtain ⟨A,N,al⟩:=p_1 t
 refine ZI (λa w=>∃ Z aa ab : Value,Env 35 a [(2,ptr T 0),(3,vI A.2.2.2.2.2.2),(4,ptr b3 0)] ∧ M (Old C) C w [raw b3 (enc A.2.2.2.2.2.1),raw T (cat [[Z],[vI A.2.1],[aa],[ab],enc A.2.2.2.2.1]),osl NoB A.1 Z,osl NoB A.2.2.1 aa,osl NoB A.2.2.2.1 ab]) ?_ ?_
 ·have I:=I.pl6.pl5
  obtain ⟨x,au,N⟩:=p_1 N
  refine Ys (its:=[raw W (cV b d f i.1),osl NoB i.1.Keys b,osl NoB i.1.Records d,osl NoB i.1.Events f,raw b3 xl]) (mk:=([mkT 4 (raw T xh) (raw T (cV b d f i.1)),([3],λbs _=>(tog (bs.getD 0 false) (raw U (cat [[e],[vI o.1],[Value.int .u64 o.2.1]])) (raw U (cat [[e],[vI x.1.1],[Value.int .u64 x.1.2]]))))] : Mk)) [31,32,33,34,39] Yx R R dd_ R H (λu=>M.qT (M.qS (M.q0 I.drew u) λ_=>R)) (qsP (v:=(vcV b d f i.1)) ?_ (q_m (λ_=>R) (q_m (λ_=>R) (qsV (v:=(Value.agg (enc x.2).toArray)) ?_ (q_t ?_ qs0))))) ?_
  ·intro a w O D z
   have H:=z.E
   have hD : D 0 = false:=z.F
   have I:=z.M.togA (pre:=[_,_,_,_,_]) (VE (j:=4) (k:=0) z.c R R R hD)
   exact Zq H R ZG R I.ra0 cq λa H=>⟨p_5 _ _,_,R,H⟩
  ·intro a w O D z
   have H:=z.E
   have hD : D 3 = false:=z.F
   have I:=M.tailP (m:=[_]) ((z.M.togA (pre:=[_,_,_,_,_,_]) hD).pl6)
   refine Zp H R yW (Xy _ _ _ _ U p0 e q (o.1,o.2.1) I x au) ?_
   rintro v w a ⟨rfl,I⟩ H
   have I:=M.tailU (m:=[_]) I
   simp only [List.cons_append,List.nil_append] at I
   exact ⟨_,R,H,M.qTogS (mk1:=[_]) (mk2:=[]) I R (by show tog (Xu D 3 3) (raw U (cat [[e],[vI o.1],[Value.int .u64 o.2.1]])) (raw U (cat [[e],[vI x.1.1],[Value.int .u64 x.1.2]])) = _; rw [tg1 A6])⟩
  ·intro a w O D z
   have H:=z.E
   have hD : D 4 = false:=z.F
   have I:=(z.M.togA (pre:=[_,_,_,_,_]) hD).pl5
   exact Zl (seg:=cV b d f i.1) (cs':=cV b d f i.1) H I Za R R R ZG cq (q_1 cq cq) (ZD (cc1 (t_2 (I.sl2)) (cc1 (s_1 (i.1.Next : Int)) (cc1 (t_2 (I.sl3)) (cc1 (t_2 (I.sl4)) (cc1 (s_1 _) cc0)))))) (q_2 cq cq) λw a I H=>⟨undef,_,R,Env.dummy H dd_,M.qTog (mk1:=[]) (mk2:=[_]) I R,trivial⟩
  intro a w O D H I hG B
  have d3:=B 3 dd_
  have d4:=B 4 dd_
  have I:=(I.togB (pre:=[_,_,_,_,_]) d4).togB (pre:=[_,_,_,_,_,_]) d3
  refine Zc H R λa H=>?_
  have I:=I.pl4
  refine Zl (seg:=enc x.2) (cs':=enc x.2) H I Za R R R ZL (u_1 _) (zle flq) (s_1 _) (Zh flq) λw a I H=>Zj ?_
  obtain rfl:=o_1 N
  refine Zk ?_
  have I:=M.fst (l:=[_,_,_,_,_]) I.pl4.pl4.pl4.pl5.pl4
  exact ⟨b,d,f,H.s,I⟩
 rintro a w ⟨Z,aa,ab,H,I⟩
 obtain rfl:=o_1 al
 have am : Z7 prog _ _ (.cell 2 79) _:=ZE H R ZG R I.ra1 cq R
 have an : Z7 prog _ _ (.cell 4 53) _:=ZE H R ZL R I.ra0 (u_1 _) R
 have I:=M.fst (l:=[_,_,_]) I.pl4.pl4.pl4
 exact p_3 (AS H R am (Zy H R) an ⟨_,R,Z,aa,ab,R,I.outF (ZK (ZK (ZK Yd))),I.kept⟩)
def YL (b : List GRecord) (c : GRecord → Option (Bool)) : Option (Bool) :=
 (Yr b c).bind λd=>some (decide (d ≥ 0))
theorem U5 (e : World) (l : List GRecord) (b : Value) (d : Ro e l [b]) (m : GRecord → Option (Bool)) (j : Nat) (q1 : List Value) (f : Callable prog j) (n : ∀ (c : World),Kept (Old e) e c → ∀ (k : GRecord) (h : Value) (_ : Ro c k.Label [h]) (i : Value) (_ : Ro c k.Body [i]) (zr : Bool),m k = some zr → Calls prog j ([vcR h i k] ++ q1).toArray c (λen q=>∃ v,en = .returned v ∧ (v = (vT zr) ∧ Kept (Old c) c q))) (r : Bool) (J : YL l m = some r) :
  Calls prog 228 [b,Value.func (.func j) #[] q1.toArray].toArray e (Rt e (vT r)):=by
 refine ce func228 ?_
 intro a H
 have I:=M.start e
 unfold YL at J
 refine Zb (Zc H R λa H=>Ze (Zb (Zd H R λa H=>Zd H R λa H=>?_)))
 obtain ⟨t,u,J⟩:=p_1 J
 refine c_k H I R (cbm func292) (Wz _ l b (I.rdo d) m j q1 f (λc o=>n c (I.kept.trans o)) t u) λw a I H=>?_
 refine Zn H R R R λa H=>Zc H R λa H=>Ze ?_
 obtain rfl:=o_1 J
 exact p_3 (kr1 H R R I.kept)
def Y3 (b : GRecord) (c : GVault) (d : V16) : Option (Bool) :=
 ((Yb c.Keys).bind λe=>if b.Version == (wr (e - 1)) then (some (decide (b.Nonce = d))) else (some false) : Option (Bool)).bind λf=>some f
theorem HC (e : World) (f : GRecord) (h : Value) (A : Ro e f.Label [h]) (i : Value) (B : Ro e f.Body [i]) (n : Nat) (o : GVault) (c : Value) (j : Ro e o.Keys [c]) (k : Value) (C : Ro e o.Records [k]) (m : Value) (F : Ro e o.Events [m]) (t : At e n 0 (cV c k m o)) (x : Old e n) (q : Nat) (N : V16) (G : At e q 0 (enc N)) (K : Old e q) (r : Bool) (J : Y3 f o N = some r) :
  Calls prog 229 [vcR h i f,ptr n 0,ptr q 0].toArray e (Rt e (vT r)):=by
 refine ce func229 ?_
 intro a H
 have I:=M.start e
 unfold Y3 at J
 refine Zb (Z1 (cs:=cR h i f) H I Za ld R R λU w a I H=>Zc H R λa H=>Ze ?_)
 obtain ⟨T,d,L⟩:=p_1 J
 refine ZI (λa w=>Env 18 a [(4,vT T)] ∧ M (Old e) e w []) ?_ ?_
 ·obtain ⟨y,O,d⟩:=p_1 d
  refine Yj (f.Version == (wr (y - 1))) (λb=>?_) (λb=>?_)
  ·have d:=Zt d b
   refine Z9 [5,6,7,8,9,10,11,12,13,14,15,16,17,4] Yx R R dd_ R H I (qsP (λz=>Zi z.E Za ld R (TB) (kr0 R)) (qsP (λz=>Zz (v:=(vI f.Version)) z.E Za ld R ty2 R (at_1 (z.M.ra0)) (kr0 R)) (qsP (λz=>Zi z.E Za ld R (Xw) (kr0 R)) (qsP (λz=>Zz (v:=c) z.E Za ld R TF R (at_0 (z.M.atk t x)) (kr0 R)) (qsP (λz=>Z8 z.E Za ld R zW (YJ _ o.Keys c (z.M.rdo j) y O) (kc R)) (qsP (v:=(vI (wr (y - 1)))) (λz=>Yc z.E Za ld R R R (kr0 R)) (qsP (λz=>Yc z.E Za ld R R R (kr0 R)) (q_m (λ_=>R) (qsP (λz=>Zi z.E (Zg z.E R (lkb R b)) dd_ R (Ho) (kr0 R)) (qsP (λz=>Zx z.E (Zg z.E R (lkb R b)) dd_ R ZL R (at_2 (z.M.ra0)) (u_1 _) (kr0 R)) (qsP (λz=>Zx z.E (Zg z.E R (lkb R b)) dd_ R ZL R (z.M.atk G K) (u_1 _) (kr0 R)) (qsP (λz=>qK z.E (Zg z.E R (lkb R b)) dd_ R R (XX o_4 ty5 R false R dd_ (Xp u_3)) dd_ (by kernel_rfl) (kr0 R)) (qsP (λz=>Q8 z.E Za ld (lkb R b) R (kr0 R)) (qsP (λz=>Qs z.E Za ld R (kr0 R)) qs0)))))))))))))) ?_
   ·intro a w u H I
    refine Zj ?_
    obtain rfl:=o_1 d
    refine Zk ?_
    have I:=M.fst (l:=[]) I
    exact ⟨H.s,I⟩
  have d:=Zs d b
  refine Z9 [5,6,7,8,9,10,11,12,13,14,15,16,17,4] Yx R R dd_ R H I (qsP (λz=>Zi z.E Za ld R (TB) (kr0 R)) (qsP (λz=>Zz (v:=(vI f.Version)) z.E Za ld R ty2 R (at_1 (z.M.ra0)) (kr0 R)) (qsP (λz=>Zi z.E Za ld R (Xw) (kr0 R)) (qsP (λz=>Zz (v:=c) z.E Za ld R TF R (at_0 (z.M.atk t x)) (kr0 R)) (qsP (λz=>Z8 z.E Za ld R zW (YJ _ o.Keys c (z.M.rdo j) y O) (kc R)) (qsP (v:=(vI (wr (y - 1)))) (λz=>Yc z.E Za ld R R R (kr0 R)) (qsP (λz=>Yc z.E Za ld R R R (kr0 R)) (q_m (λ_=>R) (qsP (λz=>Zf z.E R (lkb R b) R dd_ (kr0 R)) (qsP (λz=>Zf z.E R (lkb R b) R dd_ (kr0 R)) (qsP (λz=>Zf z.E R (lkb R b) R dd_ (kr0 R)) (qsP (λz=>Zf z.E R (lkb R b) R dd_ (kr0 R)) (qsP (λz=>TH z.E Za ld (lkb R b) R (kr0 R)) (qsP (λz=>Qs z.E Za ld R (kr0 R)) qs0)))))))))))))) ?_
  ·intro a w u H I
   refine Zj ?_
   obtain rfl:=o_1 d
   refine Zk ?_
   have I:=M.fst (l:=[]) I
   exact ⟨H.s,I⟩
 rintro a w ⟨H,I⟩
 obtain rfl:=o_1 L
 exact p_3 (kr1 H R R I.kept)
def WO (b : GVault) (c : V16) : Option (Bool) :=
 (YL b.Records (λd=>Y3 d b c)).bind λe=>some e
theorem Bk (o : World) (h : GVault) (c : Value) (i : Ro o h.Keys [c]) (b : Value) (f : Ro o h.Records [b]) (e : Value) (j : Ro o h.Events [e]) (q : V16) (r : Bool) (J : WO h q = some r) :
  Calls prog 131 [vcV c b e h,Value.agg (enc q).toArray].toArray o (Rt o (vT r)):=by
 refine ce func131 ?_
 intro a H
 have I:=M.start o
 unfold WO at J
 refine Zb (Z1 (cs:=cV c b e h) H I Za ld R R λu w a I H=>Z1 (cs:=enc q) H I Za ld R R λx w a I H=>Zc H R λa H=>Ze (Zb (Zm H R (Ye) λa H=>ZB (v:=b) H R Xr R (at_2 I.ra1) λa H=>HQ H Za ld R λa H=>?_)))
 obtain ⟨y,z,J⟩:=p_1 J
 refine c_k H I R (cbm func228) (U5 _ h.Records b (I.rdo f) (λt=>Y3 t h q) 229 [ptr u 0,ptr x 0] (cbm func229) (λA d t k l m n zr zhr=>HC A t k l m n u h c (J9 (I.rdo i) d) b (J9 (I.rdo f) d) e (J9 (I.rdo j) d) (BG I.ra1 d (by simp [cat])) (Jp I.ra1 d (by simp [cat])) x q (BG I.ra0 d (Zg4 dd_)) (Jp I.ra0 d (Zg4 dd_)) zr zhr) y z) λw a I H=>?_
 refine Zc H R λa H=>Ze ?_
 obtain rfl:=o_1 J
 exact p_3 (kr1 H R R I.kept)
def Vf (d : (Ref Gengine)) (e : GVault) (b : GRecord) (h : List UInt8) : Option (GRecord) :=
 (Y9 d e b h).bind λf=>(YU d e (⟨b.Number,b.Version,b.Nonce,b.Label,f,b.Tag⟩ : GRecord)).bind λc=>some (⟨b.Number,b.Version,b.Nonce,b.Label,f,c⟩ : GRecord)
theorem BN (St : Nat → Prop) (W B : World) (its : List Item) (y : (Ref Gengine)) (h : Value) (j : Rep.sat St W y [h] []) (q : GVault) (d : Value) (k : Rep.sat St W q.Keys [d] []) (e : Value) (l : Rep.sat St W q.Records [e] []) (f : Value) (m : Rep.sat St W q.Events [f] []) (c : GRecord) (b : Value) (i : Value) (z : List UInt8) (n : Value) (t : Rep.sat St W z [n] []) (I : M St W B (own NoB c.Label [b] :: own NoB c.Body [i] :: its)) (r : GRecord) (J : Vf y q c z = some r) :
  Calls prog 134 [h,vcV d e f q,vcR b i c,n].toArray B (e_r λv w'=>(∃ C E : Value,v = (vcR C E r) ∧ M St W w' (own NoB r.Label [C] :: own NoB r.Body [E] :: its))):=by
 refine ce func134 ?_
 intro a H
 unfold Vf at J
 refine Zb (Z1 (cs:=cV d e f q) H I Za ld R R λK w a I H=>Z1 (cs:=cR b i c) H I Za ld R R λL w a I H=>Zv H I Yk λN w a I H=>Ze (Zb (Zd H R λa H=>Zq H R ZG R I.ra2 cq λa H=>Zq H R Yk R I.ra1 cq λa H=>Zd H R λa H=>?_)))
 obtain ⟨F,G,J⟩:=p_1 J
 refine Zp H R Zhn (TD _ y h (I.rdo j) q d (I.rdo k) e (I.rdo l) f (I.rdo m) c b (I.ro (pre:=[_,_,_]) noB) i (I.ro (pre:=[_,_,_,_]) noB) z n (I.rdo t) F G) ?_
 rintro u w a ⟨_,rfl,hFr,hK⟩ H
 have I:=I.add hK hFr
 refine Zm H R (Qh) λa H=>?_
 have I:=I.pl2
 refine Zl (seg:=[u]) H I Za R R (Z5 (I.sl1)) Wo R (ft_4 R) (t_2 (I.sl1)) (sp_4 R) λw a I H=>Ze (Zb (Zd H R λa H=>Zq H R ZG R I.ra3 cq λa H=>Zq H R Yk R I.ra0 cq λa H=>?_))
 obtain ⟨o,A,J⟩:=p_1 J
 refine c_k H I R qM (WG _ y h (I.rdo j) q d (I.rdo k) e (I.rdo l) f (I.rdo m) (⟨c.Number,c.Version,c.Nonce,c.Label,F,c.Tag⟩ : GRecord) b (I.ro (pre:=[_,_,_,_]) noB) u (I.sl1) o A) λw a I H=>?_
 refine Zm H R (Qg) λa H=>Zl (seg:=enc o) H I Za R R R ZW (u_1 _) (Xf (pre:=[[vI c.Number],[vI c.Version],enc c.Nonce,[b],[u]]) ck flq) (s_1 _) (Ym (pre:=[[vI c.Number],[vI c.Version],enc c.Nonce,[b],[u]]) ck flq) λw a I H=>Ze (Zb (Zq H R Yk R I.ra0 cq λa H=>?_))
 have I:=I.pl2
 refine Zl (seg:=cat [[vI c.Number],[vI c.Version],enc c.Nonce,[b],[u],enc o]) (cs':=cat [[vI c.Number],[vI c.Version],enc c.Nonce,[b],[u],enc o]) H I Za R R R Yk cq (q_1 cq cq) (ZD (cc1 (s_1 (c.Number : Int)) (cc1 (s_1 (c.Version : Int)) (cc1 (s_1 _) (cc1 (t_2 (I.ro (pre:=[_,_,_,_]) noB)) (cc1 (t_2 (I.sl2)) (cc1 (s_1 _) cc0))))))) (q_2 cq cq) λw a I H=>Ze ?_
 have I:=I.pl2.toOwn noB
 obtain rfl:=o_1 J
 have x : Z7 prog _ _ (.cell 8 98) _:=ZE H R Yk R I.ra1 cq R
 have I:=((((I.pl4.pl5).drop.pl4).drop.pl3).drop.pl2).drop
 exact p_3 (ZY H R x ⟨_,R,b,u,R,I⟩)
def TP (h : GVault) (x : Int) (y : V16) : Option (GVault × Int) :=
 (XL h x).bind λi=>if i.2 != 0 then (some ((⟨[],0,[],[],Vector.replicate 32 (0 : UInt8)⟩ : GVault),i.2)) else ((Y0).bind λf=>(We h).bind λd=>(idx d.Records i.1).bind λb=>((YU f h b).bind λm=>if !decide (m = b.Tag) then (some true) else ((WO h y).bind λn=>some n) : Option (Bool)).bind λo=>if o then (some ((⟨[],0,[],[],Vector.replicate 32 (0 : UInt8)⟩ : GVault),5)) else (if (h.Events.length : Int) == 60 then (some ((⟨[],0,[],[],Vector.replicate 32 (0 : UInt8)⟩ : GVault),3)) else ((Y9 f h b b.Body).bind λq=>((Yb h.Keys).bind λt=>some (wr (t - 1),y) : Option (Int × V16)).bind λj=>((Vf f h (⟨b.Number,j.1,j.2,b.Label,b.Body,b.Tag⟩ : GRecord) q).bind λu=>(idx d.Records i.1).bind λz=>some (d.Records.set (i.1).toNat u) : Option ((List GRecord))).bind λk=>((idx k i.1).bind λl=>(Xj f (⟨d.Keys,d.Next,k,d.Events,d.Head⟩ : GVault) (⟨4,x,l.Tag⟩ : GEvent)).bind λc=>some (c.Keys,c.Next,c.Records,c.Events,c.Head,0) : Option (List V16 × Int × List GRecord × List GEvent × V32 × Int)).bind λe=>some ((⟨e.1,e.2.1,e.2.2.1,e.2.2.2.1,e.2.2.2.2.1⟩ : GVault),e.2.2.2.2.2))))
theorem jd (w0 : World) (p0 : GVault) (y : Value) (L : Ro w0 p0.Keys [y]) (B : Value) (W : Ro w0 p0.Records [B]) (C : Value) (N : Ro w0 p0.Events [C]) (p1 : Int) (p2 : V16) (r : GVault × Int) (J : TP p0 p1 p2 = some r) :
  Calls prog 42 [vcV y B C p0,vI p1,Value.agg (enc p2).toArray].toArray w0 (e_r λv w'=>(∃ y1 y2 y3 : Value,v = (Value.tuple [vcV y1 y2 y3 r.1,vI r.2].toArray) ∧ Fr w0 w' [osl NoB r.1.Keys y1,osl NoB r.1.Records y2,osl NoB r.1.Events y3] ∧ Kept (Old w0) w0 w')):=by
 refine ce func42 ?_
 intro a H
 have I:=M.start w0
 unfold TP at J
 refine Zb (Z1 (cs:=cV y B C p0) H I Za ld R R λb1 w a I H=>Z1 (cs:=enc p2) H I Za ld R R λb3 w a I H=>Zv H I ZG λb5 w a I H=>Zc H R λa H=>Ze (Zb (Zq H R ZG R I.ra2 cq λa H=>Zd H R λa H=>?_)))
 obtain ⟨r7,e8,J⟩:=p_1 J
 refine c_k H I R Ze9 (TG _ p0 y (I.rdo L) B (I.rdo W) C (I.rdo N) p1 r7 e8) λw a I H=>?_
 refine Zd H R λa H=>ZF H Za ld R R λa H=>ZF H Za ld R R λa H=>Zc H R λa H=>Zc H R λa H=>Ze (s_2 (Zb (Zd H R λa H=>Zn H R R R λa H=>Ze ?_)))
 refine c_if H R J ?_ ?_
 ·intro b8 J
  refine Zb (Yi (parts:=[]) (vs:=[]) (cs:=cat xa) H Za ld R R ZG Ju YF λa H=>Zd H R λa H=>Zl (seg:=cat xa) (cs':=cat xa) H I Za R R R ZG cq (q_1 cq cq) (ZD (cc1 ZZ (cc1 (s_1 xi) (cc1 ZZ (cc1 ZZ (cc1 (s_1 _) cc0)))))) (q_2 cq cq) λw a I H=>Zc H R λa H=>Ze ?_)
  have I:=M.nilS (α:=GEvent) NoB noB (M.nilS (α:=GRecord) NoB noB (M.nilS (α:=V16) NoB noB I))
  obtain rfl:=o_1 J
  have bn : Z7 prog _ _ (.cell 6 79) _:=ZE H R ZG R I.ra3 cq R
  have I:=M.fst (l:=[_,_,_]) I.pl1.pl2
  exact p_3 (ZJ (Yq H R bn (Zy H R) ⟨_,R,xd,xd,xd,R,I.outF (ZK (ZK (ZK Yd))),I.kept⟩))
 intro b8 J
 refine u_2 (ZA (s_2 ?_))
 obtain ⟨Z,b9,J⟩:=p_1 J
 obtain ⟨q,ca,J⟩:=p_1 J
 refine Ys (its:=[raw b5 xh,raw b3 (enc p2),raw b1 (cV y B C p0)]) (mk:=([mkO 0 (λv=>own NoB Z [v]),mkO 2 (λv=>own NoB q (Value.cells v).toList),mkO 3 (λv=>Wk v xh)] : Mk)) [24,25,26,11] Yx R R dd_ R H (λu=>M.qE (M.qE (M.qE (M.q0 I.drew u) emO) emO) emO) (q_t ?_ (qsP (λz=>Zx z.E Za ld R ZG R (z.M.ra2) cq (kr0 R)) (qsM (pr:=λv=>∃ cs,v = .agg cs) ?_ (q_t ?_ qs0)))) ?_
 ·intro a w A D z
  have H:=z.E
  have hD : D 0 = false:=z.F
  have hM0:=z.M
  have I:=z.M
  refine Zp H R kQ (Wd _  Z b9) ?_
  rintro _ w a ⟨_,rfl,hFr,hK⟩ H
  have I:=hM0.add hK hFr
  exact ⟨_,_,R,H,M.qFill (mk1:=[]) (mk2:=[_,_]) (f:=(λv=>own NoB Z [v])) I R hD,trivial⟩
 ·intro a w A D z
  have H:=z.E
  have hD : D 2 = false:=z.F
  have hM0:=z.M
  have I:=z.M
  refine Zp H R Zi4 (KD _ p0 y (I.rdo L) B (I.rdo W) C (I.rdo N) q ca) ?_
  rintro _ w a ⟨cv,cw,cx,rfl,hFr,hK⟩ H
  have I:=K5 (x:=q) (hM0.add hK hFr) sio sio sio
  exact ⟨_,_,R,H,M.qFill (mk1:=[_]) (mk2:=[_]) (f:=(λv=>own NoB q (Value.cells v).toList)) I R hD,⟨_,R⟩⟩
 ·intro a w A D z
  have H:=z.E
  have hD : D 3 = false:=z.F
  have I:=z.M
  refine Zv H I ZG λcy w a I H=>?_
  have I:=I.pack1 (it:=Wk _ xh) (λw w' fp ⟨b',e,k⟩ hb=>⟨b',e,YN w w' fp k hb⟩) (λfp k=>⟨_,R,k⟩)
  exact ⟨_,_,R,H,M.qFill (mk1:=[_,_]) (mk2:=[]) (f:=λv=>Wk v xh) I R hD,trivial⟩
 intro a w A D H I hG ab
 have d0:=ab 0 dd_
 have d2:=ab 2 dd_
 have d3:=ab 3 dd_
 have I:=(((I.sure (pre:=[_,_,_]) d0).sure (pre:=[_,_,_,_]) d2).sure (pre:=[_,_,_,_,_]) d3).pl
 obtain ⟨_,⟨ac,bo,_⟩,_⟩:=I.head
 have I:=I.pack1 YN (it:=raw ac xh) (λfp ⟨b2,e2,k2⟩=>by rw [bo] at e2; simp [ptr] at e2; subst e2; exact k2)
 obtain ⟨d,n,i,bc,_,_,_⟩:=UD (I.ro (pre:=[_,_,_,_,_]) noB)
 have a8 : (A 2) = (vcV d n i q):=z4 bc (hG 2 d2 _ R).2
 have I:=I.pl5
 have I:=Ja (I.recown (congrArg (λv=>(Value.cells v).toList) a8))
 have H:=H.setq (t:=26) R a8
 have H:=H.setq (t:=11) R bo
 refine Zc H R λa H=>?_
 have I:=I.pl3
 refine Zl (seg:=cV d n i q) (cs':=cV d n i q) H I Za R R R ZG cq (q_1 cq cq) (ZD (cc1 (t_2 (I.ro (pre:=[_]) noB)) (cc1 (s_1 (q.Next : Int)) (cc1 (t_2 (I.rn2)) (cc1 (t_2 (I.ro (pre:=[_,_,_]) noB)) (cc1 (s_1 _) cc0)))))) (q_2 cq cq) λw a I H=>Zj (ZA (Zb (Zm H R (Ye) λa H=>ZB (v:=n) H R Xr R (at_2 I.ra0) λa H=>Zd H R λa H=>?_)))
 obtain ⟨o,al,J⟩:=bix J
 refine Yp H R R o_3 Yk (I.rn2) al.1 λa H=>?_
 have I:=I.pl2.toOsl0
 obtain ⟨cr,I,_⟩:=I.open1 noB al.2
 obtain ⟨_,hx,_⟩:=I.head
 obtain ⟨K,G,_,_,rfl,_,_,_⟩:=Hk hx
 have I:=JY I
 refine Zq H R Yk R (I.holeAt (pre:=[_,_])) cq λa H=>Zv H I Yk λaj w a I H=>Zl (seg:=cR K G o) (cs':=cR K G o) H I Za R R R Yk cq (q_1 cq cq) (ZD (cc1 (s_1 (o.Number : Int)) (cc1 (s_1 (o.Version : Int)) (cc1 (s_1 _) (cc1 (t_2 (I.ro (pre:=[_]) noB)) (cc1 (t_2 (I.rn2)) (cc1 (s_1 _) cc0))))))) (q_2 cq cq) λw a I H=>Ze (s_2 (p_2 ?_))
 obtain ⟨cc,U,O⟩:=p_1 J
 refine ZI (λa w=>Env 85 a [(1,vI p1),(3,ptr b1 0),(5,ptr b3 0),(6,ptr b5 0),(8,vI r7.1),(10,A 0),(11,ptr ac 0),(12,ptr aj 0),(32,vT cc)] ∧ M (Old w0) w0 w [raw aj (cR K G o),own NoB o.Label [K],own NoB o.Body [G],JK NoB (q.Records : List GRecord) (r7.1).toNat n (cR K G o),raw ac (cV d n i q),own NoB q.Keys [d],own NoB q.Events [i],raw b5 xh,raw b3 (enc p2),raw b1 (cV y B C p0),own NoB Z [A 0]]) ?_ ?_
 ·obtain ⟨bd,bp,U⟩:=p_1 U
  refine Yj (!decide (bd = o.Tag)) (λT=>?_) (λT=>?_)
  ·have U:=Zt U T
   refine Z9 [33,34,35,36,37,38,39,40,41,42,43,44,32] Yx R R dd_ R H I (q_m (λ_=>R) (qsP (λz=>Zx z.E Za ld R ZG R (z.M.ra9) cq (kr0 R)) (qsP (λz=>Zx z.E Za ld R Yk R (z.M.ra0) cq (kr0 R)) (qsP (λz=>Z8 z.E Za ld R qM (WG _ Z (A 0) (z.M.ro (pre:=[_,_,_,_,_,_,_,_,_,_]) noB) p0 y (z.M.rdo L) B (z.M.rdo W) C (z.M.rdo N) o K (z.M.ro (pre:=[_]) noB) G (z.M.rn2) bd bp) (kc R)) (qsP (λz=>Zi z.E Za ld R (Qg) (kr0 R)) (qsP (λz=>Zx z.E Za ld R ZW R (at_5 (z.M.ra0)) (u_1 _) (kr0 R)) (qsP (λz=>Jx z.E Za ld R R (XX t_4 ty5 R false R dd_ (Xp u_3)) dd_ (by kernel_rfl) (kr0 R)) (q_m (λ_=>R) (qsP (λz=>Zf z.E R (lkb R T) R dd_ (kr0 R)) (qsP (λz=>Zf z.E R (lkb R T) R dd_ (kr0 R)) (qsP (λz=>Zf z.E R (lkb R T) R dd_ (kr0 R)) (qsP (λz=>Q8 z.E Za ld (lkb R T) R (kr0 R)) (qsP (λz=>Qs z.E Za ld R (kr0 R)) qs0))))))))))))) ?_
   ·intro a w u H I
    refine Zj ?_
    obtain rfl:=o_1 U
    refine Zk ?_
    exact ⟨H.s,I⟩
  have U:=Zs U T
  obtain ⟨cd,cf,U⟩:=p_1 U
  refine Z9 [33,34,35,36,37,38,39,40,41,42,43,44,32] Yx R R dd_ R H I (q_m (λ_=>R) (qsP (λz=>Zx z.E Za ld R ZG R (z.M.ra9) cq (kr0 R)) (qsP (λz=>Zx z.E Za ld R Yk R (z.M.ra0) cq (kr0 R)) (qsP (λz=>Z8 z.E Za ld R qM (WG _ Z (A 0) (z.M.ro (pre:=[_,_,_,_,_,_,_,_,_,_]) noB) p0 y (z.M.rdo L) B (z.M.rdo W) C (z.M.rdo N) o K (z.M.ro (pre:=[_]) noB) G (z.M.rn2) bd bp) (kc R)) (qsP (λz=>Zi z.E Za ld R (Qg) (kr0 R)) (qsP (λz=>Zx z.E Za ld R ZW R (at_5 (z.M.ra0)) (u_1 _) (kr0 R)) (qsP (λz=>Jx z.E Za ld R R (XX t_4 ty5 R false R dd_ (Xp u_3)) dd_ (by kernel_rfl) (kr0 R)) (q_m (λ_=>R) (qsP (λz=>Zx z.E (Zg z.E R (lkb R T)) dd_ R ZG R (z.M.ra9) cq (kr0 R)) (qsP (λz=>Zx z.E (Zg z.E R (lkb R T)) dd_ R ZL R (z.M.ra8) (u_1 _) (kr0 R)) (qsP (λz=>Z8 z.E (Zg z.E R (lkb R T)) dd_ R (cbm func131) (Bk _ p0 y (z.M.rdo L) B (z.M.rdo W) C (z.M.rdo N) p2 cd cf) (kc R)) (qsP (λz=>TH z.E Za ld (lkb R T) R (kr0 R)) (qsP (λz=>Qs z.E Za ld R (kr0 R)) qs0))))))))))))) ?_
  ·intro a w u H I
   refine Zj ?_
   obtain rfl:=o_1 U
   refine Zk ?_
   exact ⟨H.s,I⟩
 rintro a w ⟨H,I⟩
 refine c_if H R O ?_ ?_
 ·intro bq O
  refine Zb (Yi (parts:=[]) (vs:=[]) (cs:=cat xa) H Za ld R R ZG Ju YF λa H=>?_)
  have I:=I.pl7
  refine Zl (seg:=cat xa) (cs':=cat xa) H I Za R R R ZG cq (q_1 cq cq) (ZD (cc1 ZZ (cc1 (s_1 xi) (cc1 ZZ (cc1 ZZ (cc1 (s_1 _) cc0)))))) (q_2 cq cq) λw a I H=>Zc H R λa H=>Ze ?_
  have I:=M.nilS (α:=GEvent) NoB noB (M.nilS (α:=GRecord) NoB noB (M.nilS (α:=V16) NoB noB ((QK (x:=o) I.pl10.pl10.pl10.pl10.pl10.pl10.pl7.pl7.pl10.pl10.pl10 siw siw).close0 noB al.2)))
  obtain rfl:=o_1 O
  have br : Z7 prog _ _ (.cell 6 79) _:=ZE H R ZG R I.ra4 cq R
  have I:=M.fst (l:=[_,_,_]) I.pl1.pl2
  exact p_3 (Xa (ZJ (Yq H R br (Zy H R) ⟨_,R,xd,xd,xd,R,I.outF (ZK (ZK (ZK Yd))),I.kept⟩)))
 intro bq O
 refine Zb (Zm H R (XA) λa H=>ZB (v:=C) H R T3 R (at_3 I.ra9) λa H=>Yu H R p_4 (I.rd N) λa H=>Zn H R R R λa H=>Zc H R λa H=>Ze ?_)
 refine c_if H R O ?_ ?_
 ·intro bs O
  refine Zb (Yi (parts:=[]) (vs:=[]) (cs:=cat xa) H Za ld R R ZG Ju YF λa H=>?_)
  have I:=I.pl7
  refine Zl (seg:=cat xa) (cs':=cat xa) H I Za R R R ZG cq (q_1 cq cq) (ZD (cc1 ZZ (cc1 (s_1 xi) (cc1 ZZ (cc1 ZZ (cc1 (s_1 _) cc0)))))) (q_2 cq cq) λw a I H=>Zc H R λa H=>Ze ?_
  have I:=M.nilS (α:=GEvent) NoB noB (M.nilS (α:=GRecord) NoB noB (M.nilS (α:=V16) NoB noB ((QK (x:=o) I.pl10.pl10.pl10.pl10.pl10.pl10.pl7.pl7.pl10.pl10.pl10 siw siw).close0 noB al.2)))
  obtain rfl:=o_1 O
  have bt : Z7 prog _ _ (.cell 6 79) _:=ZE H R ZG R I.ra4 cq R
  have I:=M.fst (l:=[_,_,_]) I.pl1.pl2
  exact p_3 (Xa (ZJ (Yq H R bt (Zy H R) ⟨_,R,xd,xd,xd,R,I.outF (ZK (ZK (ZK Yd))),I.kept⟩)))
 intro bs O
 refine u_2 (Yy (ZA (Zb (Zd H R λa H=>Zq H R ZG R I.ra9 cq λa H=>Zq H R Yk R I.ra0 cq λa H=>Zm H R (Qh) λa H=>ZB (v:=G) H R Wo R (at_4 I.ra0) λa H=>?_))))
 obtain ⟨ax,cg,O⟩:=p_1 O
 refine Zp H R Zhn (TD _ Z (A 0) (I.ro (pre:=[_,_,_,_,_,_,_,_,_,_]) noB) p0 y (I.rdo L) B (I.rdo W) C (I.rdo N) o K (I.ro (pre:=[_]) noB) G (I.rn2) o.Body G (I.rn2) ax cg) ?_
 rintro u64 w a ⟨_,rfl,hFr,hK⟩ H
 have I:=I.add hK hFr
 refine Zc H R λa H=>Ze ?_
 obtain ⟨ar,ay,bu⟩:=p_1 O
 refine ZI (λa w=>Env 85 a [(1,vI p1),(3,ptr b1 0),(6,ptr b5 0),(8,vI r7.1),(10,A 0),(11,ptr ac 0),(12,ptr aj 0),(13,u64)] ∧ M (Old w0) w0 w [osl NoB ax u64,raw aj (cat [[vI o.Number],[vI ar.1],enc ar.2,[K],[G],enc o.Tag]),own NoB o.Label [K],own NoB o.Body [G],JK NoB (q.Records : List GRecord) (r7.1).toNat n (cR K G o),raw ac (cV d n i q),own NoB q.Keys [d],own NoB q.Events [i],raw b5 xh,raw b1 (cV y B C p0),own NoB Z [A 0]]) ?_ ?_
 ·have I:=I.pl1
  obtain ⟨ag,ch,ay⟩:=p_1 ay
  refine Ys (its:=[osl NoB ax u64,own NoB o.Label [K],own NoB o.Body [G],JK NoB (q.Records : List GRecord) (r7.1).toNat n (cR K G o),raw ac (cV d n i q),own NoB q.Keys [d],own NoB q.Events [i],raw b5 xh,raw b3 (enc p2),raw b1 (cV y B C p0),own NoB Z [A 0]]) (mk:=([mkT 6 (raw aj (cR K G o)) (raw aj (cat [[vI o.Number],[vI (wr (ag - 1))],enc o.Nonce,[K],[G],enc o.Tag]))] : Mk)) [58,59,60,61,62,63,91] Yx R R dd_ R H (λu=>M.qT (M.q0 I.drew u)) (qsP (λz=>Zi z.E Za ld R (Xw) (kr0 R)) (qsP (v:=y) ?_ (qsP (v:=(vI ag)) ?_ (qsP (v:=(vI (wr (ag - 1)))) (λz=>Yc z.E Za ld R R R (kr0 R)) (qsP (λz=>Zx z.E Za ld R ZL R (z.M.ra8) (u_1 _) (kr0 R)) (qsP (λz=>Zi z.E Za ld R (TB) (kr0 R)) (q_t ?_ qs0))))))) ?_
  ·intro a w az D z
   have H:=z.E
   have hD : D 1 = false:=z.F
   have I:=z.M.togA (pre:=[_,_,_,_,_,_,_,_,_,_,_]) (VE (j:=6) (k:=4) z.c R R R hD)
   exact ZB (v:=y) H R TF R (at_0 I.ra9) λa H=>⟨p_5 _ _,_,R,H⟩
  ·intro a w az D z
   have H:=z.E
   have hD : D 2 = false:=z.F
   have I:=z.M.togA (pre:=[_,_,_,_,_,_,_,_,_,_,_]) (VE (j:=6) (k:=2) z.c R R R hD)
   refine Zp H R zW (YJ _ p0.Keys y (I.rdo L) ag ch) ?_
   rintro v w a ⟨rfl,hK⟩ H
   exact ⟨hK,_,R,H⟩
  ·intro a w az D z
   have H:=z.E
   have hD : D 6 = false:=z.F
   have I:=(z.M.togA (pre:=[_,_,_,_,_,_,_,_,_,_,_]) hD).pl11
   exact Zl (seg:=[vI (wr (ag - 1))]) H I Za R R R ty2 R (Xf (pre:=[[vI o.Number]]) ck R) (s_1 (wr (ag - 1) : Int)) (Ym (pre:=[[vI o.Number]]) ck R) λw a I H=>⟨undef,_,R,Env.dummy H dd_,M.qTog (mk1:=[]) (mk2:=[]) I R,trivial⟩
  intro a w az D H I hG ab
  have d6:=ab 6 dd_
  have I:=I.togB (pre:=[_,_,_,_,_,_,_,_,_,_,_]) d6
  refine Zm H R (Ho) λa H=>?_
  have I:=I.pl11
  refine Zl (seg:=enc p2) H I Za R R R ZL (u_1 _) (ft_2 flq) (s_1 _) (sp_2 flq) λw a I H=>Zj ?_
  obtain rfl:=o_1 ay
  refine Zk ?_
  have I:=M.fst (l:=[_,_,_,_,_,_,_,_,_,_,_]) I.pl11.pl11.pl10.pl10.pl10.pl10.pl10.pl10.pl10.pl9.pl10
  exact ⟨H.s,I⟩
 rintro a w ⟨H,I⟩
 obtain ⟨be,ah,bv⟩:=p_1 bu
 refine ZI (λa w=>∃ ak : Value,Env 85 a [(1,vI p1),(6,ptr b5 0),(8,vI r7.1),(10,A 0),(11,ptr ac 0)] ∧ M (Old w0) w0 w [raw ac (cV d ak i q),own NoB q.Keys [d],own NoB q.Events [i],raw b5 xh,own NoB Z [A 0],osl NoB be ak]) ?_ ?_
 ·have I:=I.pl3.pl3
  have I:=I.packL (m:=[_,_]) (it:=AE NoB [_,_]) (B0.mono noB) (λfp h=>Xz.reloc h (Ba (Ba Yd)))
  obtain ⟨ae,ci,ah⟩:=p_1 ah
  refine Ys (its:=[osl NoB ax u64,raw aj (cat [[vI o.Number],[vI ar.1],enc ar.2,[K],[G],enc o.Tag]),JK NoB (q.Records : List GRecord) (r7.1).toNat n (cR K G o),raw ac (cV d n i q),own NoB q.Keys [d],own NoB q.Events [i],raw b5 xh,raw b1 (cV y B C p0),own NoB Z [A 0]]) (mk:=([mkU 7 (AE NoB [own NoB o.Label [K],own NoB o.Body [G]]) (λv=>own NoB ae (Value.cells v).toList)] : Mk)) [65,66,67,68,69,70,71,72] Yx R R dd_ R H (λu=>M.qS (M.q0 I.drew u) λ_=>R) (qsP (λz=>Zi z.E Za ld R (Ye) (kr0 R)) (qsP (λz=>Zz (v:=n) z.E Za ld R Xr R (at_2 (z.M.ra3)) (kr0 R)) (q_m (λ_=>R) (q_m (λ_=>R) (qsP (λz=>Zx z.E Za ld R ZG R (z.M.ra7) cq (kr0 R)) (qsP (λz=>Zx z.E Za ld R Yk R (z.M.ra1) cq (kr0 R)) (q_m (λ_=>R) (qsM (pr:=λv=>∃ cs,v = .agg cs) ?_ qs0)))))))) ?_
  ·intro a w a9 D z
   have H:=z.E
   have hD : D 7 = false:=z.F
   have hM0:=z.M
   have I:=(z.M.togA (pre:=[_,_,_,_,_,_,_,_,_]) hD).pl
   have I:=I.unpackL (m:=[_,_]) (λfp h=>Xz.mono h (λ_ h=>h.elim))
   simp only [List.cons_append,List.nil_append] at I
   have I:=((((I.pl2.toOwn noB).pl2).pl2).pl2).pl10
   have hM0:=I
   obtain ⟨S81,a0,bw,I,bg⟩:=M.freeze [_,_,_] I noB
   obtain ⟨S85,am,bx,I,bh⟩:=M.freeze [_,_] I noB
   refine Zp H R (cbm func134) (BN _ _ _ _ Z (A 0) (Rep.ro bw (λb hb=>hb.elim (λh=>by cases h) (am b))) p0 y (hM0.rdw L (λb hb=>am b (a0 b (hb)))) B (hM0.rdw W (λb hb=>am b (a0 b (hb)))) C (hM0.rdw N (λb hb=>am b (a0 b (hb)))) (⟨o.Number,ar.1,ar.2,o.Label,o.Body,o.Tag⟩ : GRecord) K G ax u64 bx I ae ci) ?_
   rintro v w a ⟨u89,c3,rfl,I⟩ H
   have I:=bg _ [_,_,_] (Ba (Ba (Ba Yd))) (bh _ [_,_] (Ba (Ba Yd)) I)
   simp only [List.cons_append,List.nil_append] at I
   have I:=((((((((((QK (x:=ae) I.pl1.toOsl0.pl3.pl3 siw siw).pl2).pl9).pl9).pl9).pl9).pl9).pl9).pl9).pl9).pl9
   exact ⟨_,_,R,H,M.qTogS (mk1:=([] : Mk)) (mk2:=([] : Mk)) I R Zdz,⟨_,R⟩⟩
  intro a w a9 D H I hG ab
  have d7:=ab 7 dd_
  have I:=I.togB (pre:=[_,_,_,_,_,_,_,_,_]) d7
  obtain ⟨X,Y,bc,_,_⟩:=Yl (I.ro (pre:=[_,_,_,_,_,_,_,_,_]) noB)
  have ba : (a9 7) = (vcR X Y ae):=z4 bc (hG 7 d7 _ R).2
  have I:=I.pl9
  have I:=JY (I.recown (congrArg (λv=>(Value.cells v).toList) ba))
  have H:=H.setq (t:=72) R ba
  obtain ⟨c4,bz,ah⟩:=bix ah
  refine zY (pre:=[_,_,_,_]) H I Za ld R R o_3 Yk bz.1 λa H=>?_
  have I:=I.pl4
  refine qa (k0:=0) (seg:=cR X Y ae) (cs':=cR X Y ae) H I noB Za R R R Yk cq (ZD (cc1 (s_1 (ae.Number : Int)) (cc1 (s_1 (ae.Version : Int)) (cc1 (s_1 _) (cc1 (t_2 (I.ro (pre:=[_]) noB)) (cc1 (t_2 (I.rn2)) (cc1 (s_1 _) cc0))))))) (q_1 cq cq) (q_2 cq cq) λw a I H=>?_
  have I:=(QK (x:=ae) I.pl10.pl10.pl10.pl10.pl10.pl10.pl10.pl10.pl8.pl10.pl10 siw siw).close1 noB
  refine Zj ?_
  obtain rfl:=o_1 ah
  refine Zk ?_
  have I:=M.fst (l:=[_,_,_,_,_,_]) I.pl8.pl7.pl7.pl7.pl7
  exact ⟨n,H.s,I⟩
 rintro a w ⟨ak,H,I⟩
 obtain ⟨au,ai,bi⟩:=p_1 bv
 refine ZI (λa w=>∃ an ao ap : Value,Env 85 a [(6,ptr b5 0),(7,vI au.2.2.2.2.2)] ∧ M (Old w0) w0 w [raw b5 (cat [[an],[vI au.2.1],[ao],[ap],enc au.2.2.2.2.1]),osl NoB au.1 an,osl NoB au.2.2.1 ao,osl NoB au.2.2.2.1 ap]) ?_ ?_
 ·obtain ⟨aa,a1,ai⟩:=bix ai
  refine Z9 [74,75,76,77,78,79,80,81,82,83] Yx R R dd_ R H I (q_m (λ_=>R) (qsP (λz=>Zx z.E Za ld R ZG R (z.M.ra0) cq (kr0 R)) (q_m (λ_=>R) (qsP (λz=>Zi z.E Za ld R (Ye) (kr0 R)) (qsP (λz=>Zz (v:=ak) z.E Za ld R Xr R (at_2 (z.M.ra0)) (kr0 R)) (q_m (λ_=>R) (qsP (λz=>Z6 z.E Za ld R R o_3 Yk (z.M.sl5) a1.1 (kr0 R)) (qsP (λz=>Zi z.E Za ld R (Qg) (kr0 R)) (qsP (v:=(Value.agg (enc aa.Tag).toArray)) ?_ (qsP (λz=>Yi (parts:=[(0,.const (vI 4)),(1,.tmp 76),(2,.tmp 82)]) (vs:=[(0,vI 4),(1,vI p1),(2,Value.agg (enc aa.Tag).toArray)]) (cs:=cat [[vI 4],[vI p1],enc aa.Tag]) z.E Za ld R R Xn Zap (Ya (pre:=[]) (seg:=[vI 0]) (seg':=[vI 4]) (post:=[[vI 0],enc xb]) R cl0 R R R (Ya (pre:=[[vI 4]]) (seg:=[vI 0]) (seg':=[vI p1]) (post:=[enc xb]) R ck R R R (Ya (pre:=[[vI 4],[vI p1]]) (seg:=enc xb) (seg':=enc aa.Tag) (post:=[]) R ck (u_1 _) (u_1 _) R YF))) (kr0 R)) qs0)))))))))) ?_
  ·intro a w u D z
   have H:=z.E
   have I : M (Old w0) w0 w [raw ac (cV d ak i q),own NoB q.Keys [d],own NoB q.Events [i],raw b5 xh,own NoB Z [A 0],osl NoB be ak]:=z.M
   obtain ⟨cj,bj,bk⟩:=Y2 (I.sl5) a1.2
   obtain ⟨b0,b4,rfl,_,_⟩:=Yl bj
   exact Zq H R ZW R (at_5 bk) (u_1 _) λa H=>⟨p_5 _ _,_,R,H⟩
  intro a w u H I
  have I:=I.pl1.toOsl0.pl2.toOsl0.pl5.pl2.pl5
  have hM0:=I
  obtain ⟨S118,cl,bl,I,a5⟩:=M.freeze [_,_,_] I noB
  obtain ⟨aq,b6,ai⟩:=p_1 ai
  refine Zp H R Zig (Kb _ _ _ _ Z (A 0) bl (⟨q.Keys,q.Next,be,q.Events,q.Head⟩ : GVault) d ak i (⟨4,p1,aa.Tag⟩ : GEvent) I aq b6) ?_
  rintro v w a ⟨a2,a3,a4,rfl,I⟩ H
  have I:=a5 _ [_,_,_] (ZK (ZK (ZK Yd))) I
  simp only [List.cons_append,List.nil_append] at I
  have I:=I.pl5
  refine Zl (seg:=cV a2 a3 a4 aq) (cs':=cV a2 a3 a4 aq) H I Za R R R ZG cq (q_1 cq cq) (ZD (cc1 (t_2 (I.sl2)) (cc1 (s_1 (aq.Next : Int)) (cc1 (t_2 (I.sl3)) (cc1 (t_2 (I.sl4)) (cc1 (s_1 _) cc0)))))) (q_2 cq cq) λw a I H=>Zc H R λa H=>Zj ?_
  obtain rfl:=o_1 ai
  refine Zk ?_
  have I:=M.fst (l:=[_,_,_,_]) I.pl4.pl4.pl4.pl3
  exact ⟨a2,a3,a4,H.s,I⟩
 rintro a w ⟨an,ao,ap,H,I⟩
 obtain rfl:=o_1 bi
 have bm : Z7 prog _ _ (.cell 6 79) _:=ZE H R ZG R I.ra0 cq R
 have I:=M.fst (l:=[_,_,_]) I.pl3.pl3.pl3
 exact p_3 (Yq H R bm (Zy H R) ⟨_,R,an,ao,ap,R,I.outF (ZK (ZK (ZK Yd))),I.kept⟩)
def VF (b : List UInt8) : Option (GVault) :=
 (X6 b).bind λc=>(WL b (c.1,c.2)).bind λd=>some d.2
theorem As (f : World) (i : List UInt8) (b : Value) (c : Ro f i [b]) (r : GVault) (J : VF i = some r) :
  Calls prog 65 [b].toArray f (e_r λv w'=>(∃ o q t : Value,v = (vcV o q t r) ∧ Fr f w' [osl NoB r.Keys o,osl NoB r.Records q,osl NoB r.Events t] ∧ Kept (Old f) f w')):=by
 refine ce func65 ?_
 intro a H
 have I:=M.start f
 unfold VF at J
 refine Zb (Zv H I ZG λz w a I H=>Ze (Zb (Zd H R λa H=>?_)))
 have I:=M.tailP (m:=[]) I
 obtain ⟨k,u,J⟩:=p_1 J
 refine Zp H R cb77 (Tp _ _ _ _ i b c I k u) ?_
 rintro v w a ⟨x,rfl,I⟩ H
 have I:=M.tailU (m:=[_]) I
 simp only [List.cons_append,List.nil_append] at I
 have I:=M.tailP (m:=[_]) I
 obtain ⟨j,y,J⟩:=p_1 J
 refine Zp H R Ze8 (Kw _ _ _ _ x i b c (k.1,k.2) I j y) ?_
 rintro v w a ⟨n,d,e,rfl,I⟩ H
 have I:=M.tailU (m:=[_,_,_,_]) I
 simp only [List.cons_append,List.nil_append] at I
 have I:=I.pl4
 refine Zl (seg:=cV n d e j.2) (cs':=cV n d e j.2) H I Za R R R ZG cq (q_1 cq cq) (ZD (cc1 (t_2 (I.sl2)) (cc1 (s_1 (j.2.Next : Int)) (cc1 (t_2 (I.sl3)) (cc1 (t_2 (I.sl4)) (cc1 (s_1 _) cc0)))))) (q_2 cq cq) λw a I H=>Ze ?_
 obtain rfl:=o_1 J
 have h : Z7 prog _ _ (.cell 2 79) _:=ZE H R ZG R I.ra0 cq R
 have I:=M.fst (l:=[_,_,_]) I.pl4.pl4.pl4
 exact p_3 (ZY H R h ⟨_,R,n,d,e,R,I.outF (ZK (ZK (ZK Yd))),I.kept⟩)
def Th (i : List GEvent) (c : List (Int × V32) × Int) : Option (Fl (List (Int × V32) × Int) (List (Int × V32))) :=
 if decide (c.2 < (i.length : Int)) then (((idx i c.2).bind λb=>((if b.Kind == 1 then (some true) else (if b.Kind == 4 then (some ((XO c.1 b.Number).isSome)) else (some false)) : Option (Bool)).bind λd=>(if d then (some (Kh c.1 b.Number b.Tag)) else (if b.Kind == 2 then (some (J3 c.1 b.Number)) else (some c.1)) : Option ((List (Int × V32)))).bind λe=>some e : Option ((List (Int × V32)))).bind λf=>some f : Option ((List (Int × V32)))).bind λh=>some (Fl.nx (h,wr (c.2 + 1)))) else (some (Fl.ex c.1))
def TY (b : List GEvent) : Option ((List (Int × V32))) :=
 (ZQ (Th b) (([] : (List (Int × V32))),0)).bind λc=>some c
theorem jf (j : World) (u : List GEvent) (h : Value) (k : Ro j u [h]) (r : xp) (J : TY u = some r) :
  Calls prog 142 [h].toArray j (e_r λv w'=>(∃ m : Nat,v = (Value.map (some m)) ∧ Fr j w' [Ur xq (U4 (λx : V32=>Value.agg (enc x).toArray)) (r : xp) m] ∧ Kept (Old j) j w')):=by
 refine ce func142 ?_
 intro a H
 have I:=M.start j
 unfold TY at J
 refine Zb (Zc H R λa H=>Ze (Zb (Zah (κ:=Int) (α:=V32) (S:=NoB) xq (Jk (vv:=(λx : V32=>Value.agg (enc x).toArray))) H I noB Za ld λm w a I H=>Zc H R λa H=>Ze (s_2 (Zb (Zd H R λa H=>Yu H R p_4 (I.rd k) λa H=>Zd H R λa H=>Ze ?_))))))
 obtain ⟨Y,L,N⟩:=p_1 J
 refine ZV (λa w=>Env 48 a [(3,Value.map (some m))] ∧ M (Old j) j w [Ur xq (U4 (λx : V32=>Value.agg (enc x).toArray)) (Y : xp) m]) ?_ ?_
 ·refine p_2 ?_
  refine ZP (λ(q : List (Int × V32) × Int) a w=>Env 48 a [(3,Value.map (some m)),(9,h),(10,vI (u.length : Int)),(11,vI q.2)] ∧ M (Old j) j w [Ur xq (U4 (λx : V32=>Value.agg (enc x).toArray)) (q.1 : xp) m]) L ⟨H.s,I⟩ ?_
  rintro q a w ⟨H,I⟩ o9 n O
  unfold Th at n
  refine Zb (Zn H R R R λa H=>Ze (s_2 ?_))
  refine c_if H R n ?_ ?_
  ·intro y n
   refine u_2 (ZA ?_)
   obtain ⟨T,o,z⟩:=p_1 n
   refine ZI (λa w=>Env 48 a [(3,Value.map (some m)),(9,h),(10,vI (u.length : Int)),(11,vI q.2)] ∧ M (Old j) j w [Ur xq (U4 (λx : V32=>Value.agg (enc x).toArray)) (T : xp) m]) ?_ ?_
   ·refine p_2 (Zb ?_)
    obtain ⟨b,t,o⟩:=bix o
    refine Yp H R R p_4 Xn (I.rd k) t.1 λa H=>Zq H R Xn R (YG (I.rd k) t.2) cq λa H=>Zv H I Xn λA w a I H=>Zl (seg:=cat [[vI b.Kind],[vI b.Number],enc b.Tag]) (cs':=cat [[vI b.Kind],[vI b.Number],enc b.Tag]) H I Za R R R Xn cq (q_1 cq cq) (ZD (cc1 (s_1 (b.Kind : Int)) (cc1 (s_1 (b.Number : Int)) (cc1 (s_1 _) cc0)))) (q_2 cq cq) λw a I H=>Ze (Zb (Zd H R λa H=>Zm H R (JI) λa H=>ZB (v:=(vI b.Number)) H R ty2 R (at_1 I.ra0) λa H=>yC (pre:=[_]) (zero:=xb) (JP o_5) H I Za ld R R u_6 (Zh0 (by kernel_rfl) _) λa H=>Zd H R λa H=>ZF H Za ld R R λa H=>ZF H Za ld R R λa H=>Zv H I ZW λZ w a I H=>?_))
    refine Zl (seg:=enc ((XO q.1 b.Number).getD xb)) (cs':=enc ((XO q.1 b.Number).getD xb)) H I Za R R R ZW (u_1 _) (zle flq) (s_1 _) (Zh flq) λw a I H=>Zc H R λa H=>Ze ?_
    obtain ⟨U,B,C⟩:=p_1 o
    refine ZV (λa w=>Env 48 a [(3,Value.map (some m)),(9,h),(10,vI (u.length : Int)),(11,vI q.2)] ∧ M (Old j) j w [Ur xq (U4 (λx : V32=>Value.agg (enc x).toArray)) (U : xp) m]) ?_ ?_
    ·refine p_2 ?_
     obtain ⟨W,e,E⟩:=p_1 B
     refine ZI (λa w=>Env 48 a [(3,Value.map (some m)),(5,ptr A 0),(9,h),(10,vI (u.length : Int)),(11,vI q.2),(22,vT W)] ∧ M (Old j) j w [raw A (cat [[vI b.Kind],[vI b.Number],enc b.Tag]),Ur xq (U4 (λx : V32=>Value.agg (enc x).toArray)) (q.1 : xp) m]) ?_ ?_
     ·refine t_1 (Zm H R (KY) λa H=>ZB (v:=(vI b.Kind)) H R ty2 R (at_0 I.ra1) λa H=>Zn H R R R λa H=>Zd H R λa H=>?_)
      refine Yj (b.Kind == 1) (λd=>?_) (λd=>?_)
      ·have e:=Zt e d
       refine k_s H d R R R λa H=>k_s H d R R R λa H=>k_s H d R R R λa H=>k_s H d R R R λa H=>Vv H R R dd_ λa H=>k_s H d R R R λa H=>ZH H (lkb R d) R λa H=>Zc H R λa H=>Zj ?_
       obtain rfl:=o_1 e
       refine Zk ?_
       have I:=M.fst (l:=[_,_]) I.pl2.pl2
       exact ⟨H.s,I⟩
      have e:=Zs e d
      refine Zi H (Zg H R (lkb R d)) dd_ R (KY) λa H=>Zz (v:=(vI b.Kind)) H (Zg H R (lkb R d)) dd_ R ty2 R (at_0 I.ra1) λa H=>Yc H (Zg H R (lkb R d)) dd_ R R R λa H=>Zo H (Zg H R (lkb R d)) dd_ R λa H=>?_
      refine Yj (b.Kind == 4) (λi=>?_) (λi=>?_)
      ·have e:=Zt e i
       refine Zo H (Zg H R (lkb R i)) dd_ R λa H=>Q8 H (Zg H R (lkb R d)) dd_ (lkb R i) R λa H=>Z2 H (lkb R d) R λa H=>Zc H R λa H=>Zj ?_
       obtain rfl:=o_1 e
       refine Zk ?_
       have I:=M.fst (l:=[_,_]) I.pl2.pl2
       exact ⟨H.s,I⟩
      have e:=Zs e i
      refine k_s H i R R R λa H=>TH H (Zg H R (lkb R d)) dd_ (lkb R i) R λa H=>Z2 H (lkb R d) R λa H=>Zc H R λa H=>Zj ?_
      obtain rfl:=o_1 e
      refine Zk ?_
      have I:=M.fst (l:=[_,_]) I.pl2.pl2
      exact ⟨H.s,I⟩
     rintro a w ⟨H,I⟩
     obtain ⟨X,f,F⟩:=p_1 E
     refine ZV (λa w=>Env 48 a [(3,Value.map (some m)),(9,h),(10,vI (u.length : Int)),(11,vI q.2)] ∧ M (Old j) j w [Ur xq (U4 (λx : V32=>Value.agg (enc x).toArray)) (X : xp) m]) ?_ ?_
     ·refine c_if H R f ?_ ?_
      ·intro G f
       refine t_1 (Zd H R λa H=>Zm H R (JI) λa H=>ZB (v:=(vI b.Number)) H R ty2 R (at_1 I.ra0) λa H=>Zm H R (jH) λa H=>Zq H R ZW R (at_2 I.ra0) (u_1 _) λa H=>?_)
       have I:=I.pl1
       refine zJ (c:=b.Tag) (JP o_5) H I Za R R R u_6 λw a I H=>Zj ?_
       obtain rfl:=o_1 f
       refine Zk ?_
       have I:=M.fst (l:=[_]) I
       exact ⟨H.s,I⟩
      intro G f
      refine Zb (Zm H R (KY) λa H=>ZB (v:=(vI b.Kind)) H R ty2 R (at_0 I.ra0) λa H=>Zn H R R R λa H=>Zc H R λa H=>Ze ?_)
      refine c_if H R f ?_ ?_
      ·intro K f
       refine t_1 (Zd H R λa H=>Zm H R (JI) λa H=>ZB (v:=(vI b.Number)) H R ty2 R (at_1 I.ra0) λa H=>?_)
       have I:=I.pl1
       refine Zh9 (JP o_5) H I Za R R u_6 λw a I H=>Zj ?_
       obtain rfl:=o_1 f
       refine Zk ?_
       have I:=M.fst (l:=[_]) I
       exact ⟨H.s,I⟩
      intro K f
      refine u_2 ?_
      obtain rfl:=o_1 f
      refine Zk ?_
      have I:=M.fst (l:=[_]) I.pl1
      exact ⟨H.s,I⟩
     rintro a w ⟨H,I⟩
     refine Yy ?_
     obtain rfl:=o_1 F
     refine Zk ?_
     exact ⟨H.s,I⟩
    rintro a w ⟨H,I⟩
    refine Yy ?_
    obtain rfl:=o_1 C
    refine Zk ?_
    exact ⟨H.s,I⟩
   rintro a w ⟨H,I⟩
   refine t_1 (Zn H R R R λa H=>Zd H R λa H=>Zj (Zk ?_))
   exact ⟨_,ois z,H.s,I⟩
  intro y n
  refine s_4 (Zu (Zu (YE ?_)))
  obtain rfl:=O _ (ois n)
  refine Zk ?_
  exact ⟨H.s,I⟩
 rintro a w ⟨H,I⟩
 refine ZA (Zb (Zd H R λa H=>Zc H R λa H=>Ze ?_))
 obtain rfl:=o_1 N
 exact p_3 (ZY H R (Zy H R) ⟨_,R,_,R,I.outF (locNM Yd),I.kept⟩)
def V9 (d : GVault) (b : List (Int × V32) × Int × List Int) : Option (Fl (List (Int × V32) × Int × List Int) (List (Int × V32) × List Int)) :=
 if decide (b.2.1 < (d.Records.length : Int)) then ((idx d.Records b.2.1).bind λc=>(app 8 b.2.2 ([c.Number] : List Int)).bind λe=>some (Fl.nx ((Kh b.1 c.Number c.Tag),wr (b.2.1 + 1),b.2.2 ++ ([c.Number] : List Int)))) else (some (Fl.ex (b.1,b.2.2)))
def To (d : (List (Int × V32))) (e : List (Int × V32) × List Int) (b : List (List Int) × Int) : Option (Fl (List (List Int) × Int) (List (List Int))) :=
 if decide (b.2 < ((Lib.compact (VQ (e.2 ++ (d.map (·.1))))).length : Int)) then (((idx (Lib.compact (VQ (e.2 ++ (d.map (·.1))))) b.2).bind λc=>(if !((XO d c).isSome) then (some true) else (if !((XO e.1 c).isSome) then (some true) else (some (!decide (((XO d c).getD (Vector.replicate 32 (0 : UInt8))) = ((XO e.1 c).getD (Vector.replicate 32 (0 : UInt8))))))) : Option (Bool)).bind λf=>(if f then ((app 24 b.1 ([([2,c] : List Int)] : List (List Int))).bind λj=>some (b.1 ++ ([([2,c] : List Int)] : List (List Int)))) else (some b.1) : Option ((List (List Int)))).bind λh=>some h : Option ((List (List Int)))).bind λi=>some (Fl.nx (i,wr (b.2 + 1)))) else (some (Fl.ex b.1))
def V6 (i : GVault) (k : (Ref Gengine)) (b : Int × List (List Int)) : Option (Fl (Int × List (List Int)) (List (List Int))) :=
 if decide (b.1 < (i.Records.length : Int)) then (((idx i.Records b.1).bind λc=>((YU k i c).bind λd=>some (!decide (d = c.Tag)) : Option (Bool)).bind λe=>(if e then ((app 24 b.2 ([([3,c.Number] : List Int)] : List (List Int))).bind λj=>some (b.2 ++ ([([3,c.Number] : List Int)] : List (List Int)))) else (some b.2) : Option ((List (List Int)))).bind λf=>some f : Option ((List (List Int)))).bind λh=>some (Fl.nx (wr (b.1 + 1),h))) else (some (Fl.ex b.2))
def TN (b : GVault) : Option (List (List Int) × Int) :=
 (Wx b).bind λl=>if !l then (some ([],1)) else ((Y0).bind λk=>(((Wc k b.Events).bind λf=>some (!decide (f = b.Head)) : Option (Bool)).bind λh=>if h then ((app 24 ([] : List (List Int)) ([([1] : List Int)] : List (List Int))).bind λm=>some (([] : List (List Int)) ++ ([([1] : List Int)] : List (List Int)))) else (some ([] : List (List Int))) : Option ((List (List Int)))).bind λi=>(TY b.Events).bind λc=>(ZQ (V9 b) (([] : (List (Int × V32))),0,([] : List Int))).bind λd=>(app 8 d.2 (c.map (·.1))).bind λn=>(ZQ (To c d) (i,0)).bind λj=>(ZQ (V6 b k) (0,j)).bind λe=>some (e,0))
theorem jn (q : World) (y : GVault) (d : Value) (aw : Ro q y.Keys [d]) (b : Value) (n : Ro q y.Records [b]) (e : Value) (ac : Ro q y.Events [e]) (r : List xC × Int) (J : TN y = some r) :
  Calls prog 44 [vcV d b e y].toArray q (e_r λv w'=>(∃ y1 : Value,v = (Value.tuple [y1,vI r.2].toArray) ∧ Fr q w' [osl NoB r.1 y1] ∧ Kept (Old q) q w')):=by
 refine ce func44 ?_
 intro a H
 have I:=M.start q
 unfold TN at J
 refine Zb (Z1 (cs:=cV d b e y) H I Za ld R R λN w a I H=>Zc H R λa H=>Zc H R λa H=>Ze (s_2 (Zb (Zq H R ZG R I.ra0 cq λa H=>?_))))
 obtain ⟨r3,e4,J⟩:=p_1 J
 refine c_k H I R cb48 (QJ _ y d (I.rdo aw) b (I.rdo n) e (I.rdo ac) r3 e4) λw a I H=>?_
 refine Kp H R λa H=>Ze ?_
 refine c_if H R J ?_ ?_
 ·intro c2 J
  refine Zb (Zc H R λa H=>Zc H R λa H=>Ze ?_)
  have I:=M.nilS (α:=xC) NoB noB I
  obtain rfl:=o_1 J
  have I:=M.fst (l:=[_]) I
  exact p_3 (ZJ (Yq H R (Zy H R) (Zy H R) ⟨_,R,xd,R,I.outF (ZK Yd),I.kept⟩))
 intro c2 J
 refine u_2 (ZA (Zb ?_))
 obtain ⟨r7,e8,J⟩:=p_1 J
 refine Zp H R kQ (Wd _  r7 e8) ?_
 rintro F w a ⟨_,rfl,hFr,hK⟩ H
 have I:=I.add hK hFr
 refine jB (xs:=[]) (S:=NoB) (l:=([] : List xC)) (vs:=[]) H I.emp noB Za ld R R R u_5 Bh R dd_ (λ_ h=>⟨R,h⟩) (λ_ h=>by cases h) λbc w a I H=>Zc H R λa H=>Zc H R λa H=>Ze ?_
 obtain ⟨ax,b3,ay⟩:=p_1 J
 refine ZI (λa w=>∃ U : Value,Env 129 a [(1,ptr N 0),(4,F),(5,U)] ∧ M (Old q) q w [own NoB r7 [F],raw N (cV d b e y),osl NoB ax U]) ?_ ?_
 ·obtain ⟨c3,az,X⟩:=p_1 b3
  refine ZI (λa w=>Env 129 a [(1,ptr N 0),(4,F),(5,bc),(31,vT c3)] ∧ M (Old q) q w [osl NoB (([] : List xC) : List xC) bc,own NoB r7 [F],raw N (cV d b e y)]) ?_ ?_
  ·obtain ⟨c4,c5,az⟩:=p_1 az
   refine Z9 [25,26,27,28,29,30,31] Yx R R dd_ R H I (q_m (λ_=>R) (qsP (λz=>Zi z.E Za ld R (XA) (kr0 R)) (qsP (λz=>Zz (v:=e) z.E Za ld R T3 R (at_3 (z.M.ra2)) (kr0 R)) (qsP (λz=>Z8 z.E Za ld R Zhc (KF _ r7 F (z.M.ro (pre:=[_]) noB) y.Events e (z.M.rdo ac) c4 c5) (kc R)) (qsP (λz=>Zi z.E Za ld R (J1) (kr0 R)) (qsP (λz=>Zx z.E Za ld R ZW R (at_4 (z.M.ra2)) (u_1 _) (kr0 R)) (qsP (λz=>Jx z.E Za ld R R (XX t_4 ty5 R false R dd_ (Xp u_3)) dd_ (by kernel_rfl) (kr0 R)) qs0))))))) ?_
   ·intro a w u H I
    refine Zj ?_
    obtain rfl:=o_1 az
    refine Zk ?_
    exact ⟨H.s,I⟩
  rintro a w ⟨H,I⟩
  refine c_if H R X ?_ ?_
  ·intro b4 X
   refine t_1 (Zd H R λa H=>ZM (xs:=[.const (vI 1)]) (l:=([1] : List Int)) (vs:=[vI 1]) H I Za ld R R t_3 ty2 R dd_ R λb5 w a I H=>?_)
   have b6:=Z5 (I.sl0)
   have I:=I.pack1 (it:=own NoB ([1] : List Int) ([b5])) (Wa noB) (λf0 q0=>(X5.sat q0))
   refine KR (xs:=[.tmp 33]) (seg:=[b5]) H I noB Za ld R b6 u_5 Bh R dd_ λd1 w a I H=>?_
   obtain ⟨d2,c6,X⟩:=p_1 X
   obtain ⟨c7,rfl⟩:=ZU c6
   have I:=I.pl1
   refine Q4 H I noB Za ld R R u_5 Bh R dd_ c7 λu32 w a I H=>Zc H R λa H=>Zj ?_
   obtain rfl:=o_1 X
   refine Zk ?_
   have I:=I.pl2.pl2
   exact ⟨u32,H.s,I⟩
  intro b4 X
  refine u_2 ?_
  obtain rfl:=o_1 X
  refine Zk ?_
  have I:=I.pl2.pl2
  exact ⟨bc,H.s,I⟩
 rintro a w ⟨U,H,I⟩
 refine Zb (Zm H R (XA) λa H=>ZB (v:=e) H R T3 R (at_3 I.ra1) λa H=>?_)
 obtain ⟨f,c8,ay⟩:=p_1 ay
 refine Zp H R (cbm func142) (jf _ y.Events e (I.rdo ac) f c8) ?_
 rintro v w a ⟨B,rfl,hFr,hK⟩ H
 have I:=I.add hK hFr
 refine Zah (κ:=Int) (α:=V32) (S:=NoB) xq (Jk (vv:=(λx : V32=>Value.agg (enc x).toArray))) H I noB Za ld λC w a I H=>ZM (xs:=[]) (l:=([] : List Int)) (vs:=[]) H I Za ld R R t_3 ty2 R dd_ R λc9 w a I H=>Zc H R λa H=>Zc H R λa H=>Zc H R λa H=>Ze (s_2 (Zb (Zm H R (Ye) λa H=>ZB (v:=b) H R Xr R (at_2 I.ra4) λa H=>Yu H R o_3 (I.rd n) λa H=>Zd H R λa H=>Ze ?_)))
 obtain ⟨m,b7,b8⟩:=p_1 ay
 refine ZV (λa w=>∃ bd : Value,Env 129 a [(1,ptr N 0),(4,F),(5,U),(6,Value.map (some B)),(7,Value.map (some C)),(8,bd)] ∧ M (Old q) q w [Ur xq (U4 (λx : V32=>Value.agg (enc x).toArray)) (m.1 : xp) C,Ur xq (U4 (λx : V32=>Value.agg (enc x).toArray)) (f : xp) B,own NoB r7 [F],raw N (cV d b e y),osl NoB ax U,osl NoB m.2 bd]) ?_ ?_
 ·refine p_2 ?_
  have I:=I.pl5.pl5.pl5.pl5.pl5
  refine ZP (λ(a2 : List (Int × V32) × Int × List Int) a w=>∃ a3 : Value,Env 129 a [(1,ptr N 0),(4,F),(5,U),(6,Value.map (some B)),(7,Value.map (some C)),(8,a3),(42,b),(43,vI (y.Records.length : Int)),(44,vI a2.2.1)] ∧ M (Old q) q w [Ur xq (U4 (λx : V32=>Value.agg (enc x).toArray)) (a2.1 : xp) C,Ur xq (U4 (λx : V32=>Value.agg (enc x).toArray)) (f : xp) B,own NoB r7 [F],raw N (cV d b e y),osl NoB ax U,osl NoB a2.2.2 a3]) b7 ⟨c9,H.s,I⟩ ?_
  rintro a2 a w ⟨a3,H,I⟩ d3 G b9
  unfold V9 at G
  refine Zb (Zn H R R R λa H=>Ze (s_2 ?_))
  refine c_if H R G ?_ ?_
  ·intro ca G
   refine u_2 (ZA (s_2 (p_2 (Zb ?_))))
   obtain ⟨W,a0,G⟩:=bix G
   refine Yp H R R o_3 Yk (I.rd n) a0.1 λa H=>?_
   obtain ⟨dp,cb,cc⟩:=Y2 n a0.2 -- ^
   obtain ⟨be,bg,rfl,da,db⟩:=Yl cb -- ^
   refine Zq H R Yk R (I.atk cc (XM n a0.2)) cq λa H=>Zv H I Yk λd4 w a I H=>Zl (seg:=cR be bg W) (cs':=cR be bg W) H I Za R R R Yk cq (q_1 cq cq) (ZD (cc1 (s_1 (W.Number : Int)) (cc1 (s_1 (W.Version : Int)) (cc1 (s_1 _) (cc1 (t_2 (I.rd da)) (cc1 (t_2 (I.rd db)) (cc1 (s_1 _) cc0))))))) (q_2 cq cq) λw a I H=>Ze (Zb (Zd H R λa H=>Zm H R (VC) λa H=>ZB (v:=(vI W.Number)) H R ty2 R (at_0 I.ra0) λa H=>Zm H R (Qg) λa H=>Zq H R ZW R (at_5 I.ra0) (u_1 _) λa H=>?_))
   have I:=I.pl1
   refine zJ (c:=W.Tag) (JP o_5) H I Za R R R u_6 λw a I H=>Ze (t_1 (Zd H R λa H=>Zm H R (VC) λa H=>ZB (v:=(vI W.Number)) H R ty2 R (at_0 I.ra1) λa H=>ZM (xs:=[.tmp 55]) (l:=([W.Number] : List Int)) (vs:=[vI W.Number]) H I Za ld R R t_3 ty2 R dd_ R λd5 w a I H=>?_))
   obtain ⟨d6,dc,G⟩:=p_1 G
   obtain ⟨dd,rfl⟩:=ZU dc
   have I:=I.pl7
   refine ZX H I Za ld R R (I.sl1) t_3 ty2 R dd_ dd λde w a I H=>Zc H R λa H=>Zj (Yy (ZA (t_1 (Zn H R R R λa H=>Zd H R λa H=>Zj (Zk ?_)))))
   have I:=M.fst (l:=[_,_,_,_,_,_]) I.pl7.pl7.pl7.pl7.pl6
   exact ⟨_,ois G,de,H.s,I⟩
  intro ca G
  refine s_4 (Zu (Zu (YE ?_)))
  obtain rfl:=b9 _ (ois G)
  refine Zk ?_
  exact ⟨a3,H.s,I⟩
 rintro a w ⟨bd,H,I⟩
 refine ZA (s_2 (Zb (Zd H R λa H=>?_)))
 have I:=I.pl1
 refine Zjb (Jk (vv:=(λx : V32=>Value.agg (enc x).toArray))) H I noB Za ld R u_6 λcd w a I H=>Ze ?_
 obtain ⟨d7,cf,cg⟩:=p_1 b8
 have aj:=(ZU cf).1
 have I:=I.pl4.pl4.pl4.pl4.pl5.pl5
 refine ZV (λa w=>∃ ae : List Int,ae.Perm (f.map (·.1)) ∧ ∃ af : Value,Env 129 a [(1,ptr N 0),(4,F),(5,U),(6,Value.map (some B)),(7,Value.map (some C)),(8,af)] ∧ M (Old q) q w [Ur xq (U4 (λx : V32=>Value.agg (enc x).toArray)) (f : xp) B,osl NoB ((m.2 ++ ae) : List Int) af,Ur xq (U4 (λx : V32=>Value.agg (enc x).toArray)) (m.1 : xp) C,own NoB r7 [F],raw N (cV d b e y),osl NoB ax U]) ?_ ?_
 ·refine p_2 ?_
  refine Zhq (κ:=Int) f.length (λ(ae : List Int) a w=>∃ af : Value,Env 129 a [(1,ptr N 0),(4,F),(5,U),(6,Value.map (some B)),(7,Value.map (some C)),(8,af),(60,ptr cd 0)] ∧ M (Old q) q w [Za8 xq (U4 (λx : V32=>Value.agg (enc x).toArray)) (f : xp) ae B cd,osl NoB ((m.2 ++ ae) : List Int) af,Ur xq (U4 (λx : V32=>Value.agg (enc x).toArray)) (m.1 : xp) C,own NoB r7 [F],raw N (cV d b e y),osl NoB ax U]) ⟨_,H.s,(by rw [List.append_nil]; exact I)⟩ (λ_ _ _ ⟨_,_,I⟩=>I.rangeLen) ?_
  rintro ae a w ⟨af,H,I⟩
  refine Zb ?_
  refine s_next (Jk (vv:=(λx : V32=>Value.agg (enc x).toArray))) H I noB Za ld R (λw a ch I H=>?_) (λa4 v w a I H=>?_)
  ·refine ZF H Za ld R R λa H=>Ze (s_2 ?_)
   refine Zjl H R ?_
   refine s_4 (Zu (Zu (YE ?_)))
   refine Zk ?_
   exact ⟨ae,ch,af,H.s,I⟩
  refine ZF H Za ld R R λa H=>Ze (s_2 ?_)
  refine Zjz H R ?_
  refine u_2 (ZA (p_2 (Zb (Zi8 (Jk (vv:=(λx : V32=>Value.agg (enc x).toArray))) H I noB Za ld R λv a I H=>?_))))
  have a5:=Zgh (k:=a4) I.rangeLen aj
  refine ZF H Za ld R R λa H=>Zc H R λa H=>Ze (t_1 (Zd H R λa H=>Zd H R λa H=>ZM (xs:=[.tmp 66]) (l:=([a4] : List Int)) (vs:=[vI a4]) H I Za ld R R t_3 ty2 R dd_ R λu88 w a I H=>?_))
  obtain ⟨d8,dg,a5⟩:=p_1 a5
  obtain ⟨dh,rfl⟩:=ZU dg
  have I:=I.pl2
  refine ZX H I Za ld R R (I.sl1) t_3 ty2 R dd_ dh λdi w a I H=>Zc H R λa H=>Zj (Yy (Zk ?_))
  have I:=M.fst (l:=[_,_,_,_,_,_]) I.pl6.pl6.pl6.pl6.pl4.pl6
  exact ⟨a4,di,H.s,(by rw [← List.append_assoc]; exact I)⟩
 rintro a w ⟨ae,a6,af,H,I⟩
 refine ZA (Zb (Zd H R λa H=>?_))
 have I:=I.pl1
 have ci:=Zgi a6 aj
 refine s_sort H I Za ld R (cbm func143) ci slices_Sort_int slices_Sort_int_none λw a I H=>?_
 rw [Zdo (List.Perm.append_left _ a6)] at I
 have cj:=Zet ((m.2 ++ (f.map (·.1)))) aj
 refine Ze (s_2 (Zb (Zd H R λa H=>Zgt H I noB Za ld R (cbm func144) (by rw [Ad]; exact cj) (kE _) slices_Compact_int slices_Compact_int_empty λag w a I H=>Yu H R t_3 (I.sl0) λa H=>Zd H R λa H=>Ze ?_)))
 obtain ⟨dj,bh,bi⟩:=p_1 cg
 refine ZV (λa w=>∃ ao : Value,Env 129 a [(1,ptr N 0),(4,F),(5,ao)] ∧ M (Old q) q w [own NoB r7 [F],raw N (cV d b e y),osl NoB dj ao]) ?_ ?_
 ·refine p_2 ?_
  refine ZP (λ(Y : List xC × Int) a w=>∃ Z : Value,Env 129 a [(1,ptr N 0),(4,F),(5,Z),(6,Value.map (some B)),(7,Value.map (some C)),(72,ag),(73,vI ((Lib.compact (VQ (m.2 ++ (f.map (·.1))))).length : Int)),(74,vI Y.2)] ∧ M (Old q) q w [osl NoB ((Lib.compact (VQ (m.2 ++ (f.map (·.1))))) : List Int) ag,Ur xq (U4 (λx : V32=>Value.agg (enc x).toArray)) (f : xp) B,Ur xq (U4 (λx : V32=>Value.agg (enc x).toArray)) (m.1 : xp) C,own NoB r7 [F],raw N (cV d b e y),osl NoB Y.1 Z]) bh ⟨U,H.s,I⟩ ?_
  rintro Y a w ⟨Z,H,I⟩ dq O bj
  unfold To at O
  refine Zb (Zn H R R R λa H=>Ze (s_2 ?_))
  refine c_if H R O ?_ ?_
  ·intro bk O
   refine u_2 (ZA ?_)
   obtain ⟨cl,ak,bl⟩:=p_1 O
   refine ZI (λa w=>∃ ap : Value,Env 129 a [(1,ptr N 0),(4,F),(5,ap),(6,Value.map (some B)),(7,Value.map (some C)),(72,ag),(73,vI ((Lib.compact (VQ (m.2 ++ (f.map (·.1))))).length : Int)),(74,vI Y.2)] ∧ M (Old q) q w [osl NoB ((Lib.compact (VQ (m.2 ++ (f.map (·.1))))) : List Int) ag,Ur xq (U4 (λx : V32=>Value.agg (enc x).toArray)) (f : xp) B,Ur xq (U4 (λx : V32=>Value.agg (enc x).toArray)) (m.1 : xp) C,own NoB r7 [F],raw N (cV d b e y),osl NoB cl ap]) ?_ ?_
   ·refine p_2 (Zb ?_)
    obtain ⟨A,a1,ak⟩:=bix ak
    refine Yp H R R t_3 ty2 (I.sl0) a1.1 λa H=>ZB (v:=(vI A)) H R ty2 R (YG (I.sl0) a1.2) λa H=>Zc H R λa H=>Ze (Zb (Zd H R λa H=>Zd H R λa H=>yC (pre:=[_]) (zero:=xb) (JP o_5) H I Za ld R R u_6 (Zh0 (by kernel_rfl) _) λa H=>Zd H R λa H=>ZF H Za ld R R λa H=>ZF H Za ld R R λa H=>Zv H I ZW λdr w a I H=>Zl (seg:=enc ((XO f A).getD xb)) (cs':=enc ((XO f A).getD xb)) H I Za R R R ZW (u_1 _) (zle flq) (s_1 _) (Zh flq) λw a I H=>Zc H R λa H=>?_))
    refine Ze (Zb (Zd H R λa H=>Zd H R λa H=>yC (pre:=[_,_,_]) (zero:=xb) (JP o_5) H I Za ld R R u_6 (Zh0 (by kernel_rfl) _) λa H=>Zd H R λa H=>ZF H Za ld R R λa H=>ZF H Za ld R R λa H=>Zv H I ZW λds w a I H=>Zl (seg:=enc ((XO m.1 A).getD xb)) (cs':=enc ((XO m.1 A).getD xb)) H I Za R R R ZW (u_1 _) (zle flq) (s_1 _) (Zh flq) λw a I H=>Zc H R λa H=>Ze ?_))
    obtain ⟨cm,i,bm⟩:=p_1 ak
    refine ZI (λa w=>Env 129 a [(1,ptr N 0),(4,F),(5,Z),(6,Value.map (some B)),(7,Value.map (some C)),(13,vI A),(72,ag),(73,vI ((Lib.compact (VQ (m.2 ++ (f.map (·.1))))).length : Int)),(74,vI Y.2),(100,vT cm)] ∧ M (Old q) q w [osl NoB ((Lib.compact (VQ (m.2 ++ (f.map (·.1))))) : List Int) ag,Ur xq (U4 (λx : V32=>Value.agg (enc x).toArray)) (f : xp) B,Ur xq (U4 (λx : V32=>Value.agg (enc x).toArray)) (m.1 : xp) C,own NoB r7 [F],raw N (cV d b e y),osl NoB Y.1 Z]) ?_ ?_
    ·refine t_1 (Zd H R λa H=>Kp H R λa H=>Zd H R λa H=>?_)
     refine Yj (!((XO f A).isSome)) (λt=>?_) (λt=>?_)
     ·have i:=Zt i t
      refine k_s H t R R R λa H=>k_s H t R R R λa H=>ZH H (lkb R t) R λa H=>Zd H R λa H=>Zf H R R R dd_ λa H=>Zf H R R R dd_ λa H=>Zf H R R R dd_ λa H=>ZH H R R λa H=>Zj ?_
      obtain rfl:=o_1 i
      refine Zk ?_
      have I:=M.fst (l:=[_,_,_,_,_,_]) I.pl7.pl7.pl7.pl7.pl7.pl7
      exact ⟨H.s,I⟩
     have i:=Zs i t
     refine Zo H (Zg H R (lkb R t)) dd_ R λa H=>KG H (Zg H R (lkb R t)) dd_ R λa H=>Z2 H (lkb R t) R λa H=>Zd H R λa H=>?_
     refine Yj (!((XO m.1 A).isSome)) (λj=>?_) (λj=>?_)
     ·have i:=Zt i j
      refine k_s H j R R R λa H=>k_s H j R R R λa H=>k_s H j R R R λa H=>ZH H (lkb R j) R λa H=>Zj ?_
      obtain rfl:=o_1 i
      refine Zk ?_
      have I:=M.fst (l:=[_,_,_,_,_,_]) I.pl7.pl7.pl7.pl7.pl7.pl7
      exact ⟨H.s,I⟩
     have i:=Zs i j
     refine Zx H (Zg H R (lkb R j)) dd_ R ZW R I.ra1 (u_1 _) λa H=>Zx H (Zg H R (lkb R j)) dd_ R ZW R I.ra0 (u_1 _) λa H=>Jx H (Zg H R (lkb R j)) dd_ R R (XX t_4 ty5 R false R dd_ (Xp u_3)) dd_ (by kernel_rfl) λa H=>Z2 H (lkb R j) R λa H=>Zj ?_
     obtain rfl:=o_1 i
     refine Zk ?_
     have I:=M.fst (l:=[_,_,_,_,_,_]) I.pl7.pl7.pl7.pl7.pl7.pl7
     exact ⟨H.s,I⟩
    rintro a w ⟨H,I⟩
    obtain ⟨cn,K,bn⟩:=p_1 bm
    refine ZV (λa w=>∃ aq : Value,Env 129 a [(1,ptr N 0),(4,F),(5,aq),(6,Value.map (some B)),(7,Value.map (some C)),(72,ag),(73,vI ((Lib.compact (VQ (m.2 ++ (f.map (·.1))))).length : Int)),(74,vI Y.2)] ∧ M (Old q) q w [osl NoB ((Lib.compact (VQ (m.2 ++ (f.map (·.1))))) : List Int) ag,Ur xq (U4 (λx : V32=>Value.agg (enc x).toArray)) (f : xp) B,Ur xq (U4 (λx : V32=>Value.agg (enc x).toArray)) (m.1 : xp) C,own NoB r7 [F],raw N (cV d b e y),osl NoB cn aq]) ?_ ?_
    ·refine c_if H R K ?_ ?_
     ·intro bo K
      refine t_1 (Zd H R λa H=>Zd H R λa H=>ZM (xs:=[.const (vI 2),.tmp 102]) (l:=([2,A] : List Int)) (vs:=[vI 2,vI A]) H I Za ld R R t_3 ty2 R dd_ R λa7 w a I H=>?_)
      have bp:=Z5 (I.sl0)
      have I:=I.pack1 (it:=own NoB ([2,A] : List Int) ([a7])) (Wa noB) (λf0 q0=>(X5.sat q0))
      refine KR (xs:=[.tmp 103]) (seg:=[a7]) H I noB Za ld R bp u_5 Bh R dd_ λdt w a I H=>?_
      obtain ⟨du,co,K⟩:=p_1 K
      obtain ⟨cp,rfl⟩:=ZU co
      have I:=I.pl6
      refine Q4 H I noB Za ld R R u_5 Bh R dd_ cp λcr w a I H=>Zc H R λa H=>Zj ?_
      obtain rfl:=o_1 K
      refine Zk ?_
      have I:=I.pl5.pl5.pl5.pl5.pl5
      exact ⟨cr,H.s,I⟩
     intro bo K
     refine u_2 ?_
     obtain rfl:=o_1 K
     refine Zk ?_
     exact ⟨Z,H.s,I⟩
    rintro a w ⟨aq,H,I⟩
    refine Yy ?_
    obtain rfl:=o_1 bn
    refine Zk ?_
    exact ⟨aq,H.s,I⟩
   rintro a w ⟨ap,H,I⟩
   refine t_1 (Zn H R R R λa H=>Zd H R λa H=>Zj (Zk ?_))
   exact ⟨_,ois bl,ap,H.s,I⟩
  intro bk O
  refine s_4 (Zu (Zu (YE ?_)))
  obtain rfl:=bj _ (ois O)
  refine Zk ?_
  have I:=M.fst (l:=[_,_,_]) I.pl5.pl5.pl5
  exact ⟨Z,H.s,I⟩
 rintro a w ⟨ao,H,I⟩
 refine ZA (s_2 (Zb (Zm H R (Ye) λa H=>ZB (v:=b) H R Xr R (at_2 I.ra1) λa H=>Yu H R o_3 (I.rd n) λa H=>Zd H R λa H=>Ze ?_)))
 obtain ⟨ct,bq,br⟩:=p_1 bi
 refine ZV (λa w=>∃ ar : Value,Env 129 a [(5,ar)] ∧ M (Old q) q w [osl NoB ct ar]) ?_ ?_
 ·refine p_2 ?_
  refine ZP (λ(aa : Int × List xC) a w=>∃ ab : Value,Env 129 a [(1,ptr N 0),(4,F),(5,ab),(108,b),(109,vI (y.Records.length : Int)),(110,vI aa.1)] ∧ M (Old q) q w [own NoB r7 [F],raw N (cV d b e y),osl NoB aa.2 ab]) bq ⟨ao,H.s,I⟩ ?_
  rintro aa a w ⟨ab,H,I⟩ dv T bs
  unfold V6 at T
  refine Zb (Zn H R R R λa H=>Ze (s_2 ?_))
  refine c_if H R T ?_ ?_
  ·intro bt T
   refine u_2 (ZA ?_)
   obtain ⟨cu,al,bu⟩:=p_1 T
   refine ZI (λa w=>∃ au : Value,Env 129 a [(1,ptr N 0),(4,F),(5,au),(108,b),(109,vI (y.Records.length : Int)),(110,vI aa.1)] ∧ M (Old q) q w [own NoB r7 [F],raw N (cV d b e y),osl NoB cu au]) ?_ ?_
   ·refine p_2 (Zb ?_)
    obtain ⟨o,am,al⟩:=bix al
    refine Yp H R R o_3 Yk (I.rd n) am.1 λa H=>?_
    obtain ⟨dk,bv,bw⟩:=Y2 n am.2 -- ^
    obtain ⟨ah,ai,rfl,a8,a9⟩:=Yl bv -- ^
    refine Zq H R Yk R (I.atk bw (XM n am.2)) cq λa H=>Zv H I Yk λba w a I H=>Zl (seg:=cR ah ai o) (cs':=cR ah ai o) H I Za R R R Yk cq (q_1 cq cq) (ZD (cc1 (s_1 (o.Number : Int)) (cc1 (s_1 (o.Version : Int)) (cc1 (s_1 _) (cc1 (t_2 (I.rd a8)) (cc1 (t_2 (I.rd a9)) (cc1 (s_1 _) cc0))))))) (q_2 cq cq) λw a I H=>Ze ?_
    obtain ⟨cv,an,bx⟩:=p_1 al
    refine ZI (λa w=>Env 129 a [(1,ptr N 0),(4,F),(5,ab),(19,ptr ba 0),(108,b),(109,vI (y.Records.length : Int)),(110,vI aa.1),(120,vT cv)] ∧ M (Old q) q w [raw ba (cR ah ai o),own NoB r7 [F],raw N (cV d b e y),osl NoB aa.2 ab]) ?_ ?_
    ·obtain ⟨cw,cx,an⟩:=p_1 an
     refine Z9 [114,115,116,117,118,119,120] Yx R R dd_ R H I (q_m (λ_=>R) (qsP (λz=>Zx z.E Za ld R ZG R (z.M.ra2) cq (kr0 R)) (qsP (λz=>Zx z.E Za ld R Yk R (z.M.ra0) cq (kr0 R)) (qsP (λz=>Z8 z.E Za ld R qM (WG _ r7 F (z.M.ro (pre:=[_]) noB) y d (z.M.rdo aw) b (z.M.rdo n) e (z.M.rdo ac) o ah (z.M.rdo a8) ai (z.M.rdo a9) cw cx) (kc R)) (qsP (λz=>Zi z.E Za ld R (Qg) (kr0 R)) (qsP (λz=>Zx z.E Za ld R ZW R (at_5 (z.M.ra0)) (u_1 _) (kr0 R)) (qsP (λz=>Jx z.E Za ld R R (XX t_4 ty5 R false R dd_ (Xp u_3)) dd_ (by kernel_rfl) (kr0 R)) qs0))))))) ?_
     ·intro a w u H I
      refine Zj ?_
      obtain rfl:=o_1 an
      refine Zk ?_
      exact ⟨H.s,I⟩
    rintro a w ⟨H,I⟩
    obtain ⟨cy,L,bz⟩:=p_1 bx
    refine ZV (λa w=>∃ av : Value,Env 129 a [(1,ptr N 0),(4,F),(5,av),(108,b),(109,vI (y.Records.length : Int)),(110,vI aa.1)] ∧ M (Old q) q w [own NoB r7 [F],raw N (cV d b e y),osl NoB cy av]) ?_ ?_
    ·refine c_if H R L ?_ ?_
     ·intro b0 L
      refine t_1 (Zd H R λa H=>Zm H R (VC) λa H=>ZB (v:=(vI o.Number)) H R ty2 R (at_0 I.ra0) λa H=>ZM (xs:=[.const (vI 3),.tmp 123]) (l:=([3,o.Number] : List Int)) (vs:=[vI 3,vI o.Number]) H I Za ld R R t_3 ty2 R dd_ R λbb w a I H=>?_)
      have b2:=Z5 (I.sl0)
      have I:=I.pack1 (it:=own NoB ([3,o.Number] : List Int) ([bb])) (Wa noB) (λf0 q0=>(X5.sat q0))
      refine KR (xs:=[.tmp 124]) (seg:=[bb]) H I noB Za ld R b2 u_5 Bh R dd_ λdw w a I H=>?_
      obtain ⟨dx,cz,L⟩:=p_1 L
      obtain ⟨c0,rfl⟩:=ZU cz
      have I:=I.pl4
      refine Q4 H I noB Za ld R R u_5 Bh R dd_ c0 λc1 w a I H=>Zc H R λa H=>Zj ?_
      obtain rfl:=o_1 L
      refine Zk ?_
      have I:=M.fst (l:=[_,_,_]) I.pl3.pl3
      exact ⟨c1,H.s,I⟩
     intro b0 L
     refine u_2 ?_
     obtain rfl:=o_1 L
     refine Zk ?_
     have I:=M.fst (l:=[_,_,_]) I.pl3.pl3.pl3
     exact ⟨ab,H.s,I⟩
    rintro a w ⟨av,H,I⟩
    refine Yy ?_
    obtain rfl:=o_1 bz
    refine Zk ?_
    exact ⟨av,H.s,I⟩
   rintro a w ⟨au,H,I⟩
   refine t_1 (Zn H R R R λa H=>Zd H R λa H=>Zj (Zk ?_))
   exact ⟨_,ois bu,au,H.s,I⟩
  intro bt T
  refine s_4 (Zu (Zu (YE ?_)))
  obtain rfl:=bs _ (ois T)
  refine Zk ?_
  have I:=M.fst (l:=[_]) I.pl2
  exact ⟨ab,H.s,I⟩
 rintro a w ⟨ar,H,I⟩
 refine ZA (Zb (Zd H R λa H=>Zc H R λa H=>Zc H R λa H=>Ze ?_))
 obtain rfl:=o_1 br
 exact p_3 (Yq H R (Zy H R) (Zy H R) ⟨_,R,ar,R,I.outF (ZK Yd),I.kept⟩)
def T6 (b : List Int) : Option ((List Int)) :=
 (app 8 ([] : List Int) b).bind λc=>some (([] : List Int) ++ b)
theorem qx (d : World) (e : List Int) (b : Value) (c : Ro d e [b]) (r : List Int) (J : T6 e = some r) :
  Calls prog 194 [b].toArray d (e_r λv w'=>(∃ f : Value,v = f ∧ Fr d w' [osl NoB r f] ∧ Kept (Old d) d w')):=by
 refine ce func194 ?_
 intro a H
 have I:=M.start d
 unfold T6 at J
 refine Zb (Zc H R λa H=>Ze (Zb (ZM (xs:=[]) (l:=([] : List Int)) (vs:=[]) H I Za ld R R t_3 ty2 R dd_ R λk w a I H=>Zd H R λa H=>?_)))
 obtain ⟨m,h,J⟩:=p_1 J
 have i:=(ZU h).1
 refine ZX H I Za ld R R (I.rd c) t_3 ty2 R dd_ i λj w a I H=>Zc H R λa H=>Ze ?_
 obtain rfl:=o_1 J
 exact p_3 (ZY H R (Zy H R) ⟨_,R,j,R,I.outF (ZK Yd),I.kept⟩)
def Ud (d : GVault) (b : List Int × Int) : Option (Fl (List Int × Int) (List Int)) :=
 if decide (b.2 < (d.Records.length : Int)) then ((idx d.Records b.2).bind λc=>(app 8 b.1 ([c.Number] : List Int)).bind λe=>some (Fl.nx ((b.1 ++ ([c.Number] : List Int)),wr (b.2 + 1)))) else (some (Fl.ex b.1))
def WW (c : List Int × Int) (d : GEvent) (b : Int) : Option (Fl Int Int) :=
 (if decide (b < (c.1.length : Int)) then ((idx c.1 b).bind λe=>some (decide (e < d.Number))) else (some false) : Option (Bool)).bind λf=>if f then (some (Fl.nx (wr (b + 1)))) else (some (Fl.ex b))
def Uh (m : GVault) (b : List Int × Int) : Option (Fl (List Int × Int) (List Int)) :=
 if decide (b.2 < (m.Events.length : Int)) then (((idx m.Events b.2).bind λc=>(ZQ (WW b c) 0).bind λd=>(if d == (b.1.length : Int) then (some true) else ((idx b.1 d).bind λh=>some (h != c.Number)) : Option (Bool)).bind λi=>(if i then ((slc b.1 d (b.1.length : Int)).bind λe=>(app 8 ([c.Number] : List Int) e).bind λo=>(slc b.1 (0 : Int) d).bind λj=>(T6 j).bind λf=>(app 8 f (([c.Number] : List Int) ++ e)).bind λn=>some (f ++ (([c.Number] : List Int) ++ e))) else (some b.1) : Option ((List Int))).bind λk=>some k : Option ((List Int))).bind λl=>some (Fl.nx (l,wr (b.2 + 1)))) else (some (Fl.ex b.1))
def UY (c : GVault) : Option ((List Int)) :=
 (ZQ (Ud c) (([] : List Int),0)).bind λd=>(ZQ (Uh c) (d,0)).bind λb=>some b
theorem zd (m : World) (t : GVault) (d : Value) (aw : Ro m t.Keys [d]) (e : Value) (u : Ro m t.Records [e]) (h : Value) (A : Ro m t.Events [h]) (r : List Int) (J : UY t = some r) :
  Calls prog 164 [vcV d e h t].toArray m (e_r λv w'=>(∃ y1 : Value,v = y1 ∧ Fr m w' [osl NoB r y1] ∧ Kept (Old m) m w')):=by
 refine ce func164 ?_
 intro a H
 have I:=M.start m
 unfold UY at J
 refine Zb (Z1 (cs:=cV d e h t) H I Za ld R R λx w a I H=>Zc H R λa H=>Ze (Zb (ZM (xs:=[]) (l:=([] : List Int)) (vs:=[]) H I Za ld R R t_3 ty2 R dd_ R λu3 w a I H=>Zc H R λa H=>Ze (s_2 (Zb (Zc H R λa H=>Ze ?_))))))
 obtain ⟨j5,ax,ay⟩:=p_1 J
 refine ZV (λa w=>∃ u8 : Value,Env 78 a [(1,ptr x 0),(3,u8)] ∧ M (Old m) m w [raw x (cV d e h t),osl NoB j5 u8]) ?_ ?_
 ·refine p_2 ?_
  have I:=I.pl1
  refine ZP (λ(W : List Int × Int) a w=>∃ E : Value,Env 78 a [(1,ptr x 0),(3,E),(4,vI W.2)] ∧ M (Old m) m w [raw x (cV d e h t),osl NoB W.1 E]) ax ⟨u3,H.s,I⟩ ?_
  rintro W a w ⟨E,H,I⟩ bk i Y
  unfold Ud at i
  refine s_2 (Zb (Zd H R λa H=>Zm H R (Ye) λa H=>ZB (v:=e) H R Xr R (at_2 I.ra0) λa H=>Yu H R o_3 (I.rd u) λa H=>Zn H R R R λa H=>Ze ?_))
  refine c_if H R i ?_ ?_
  ·intro Z i
   refine u_2 (ZA (s_2 (p_2 (t_1 (Zd H R λa H=>Zm H R (Ye) λa H=>ZB (v:=e) H R Xr R (at_2 I.ra0) λa H=>Zd H R λa H=>?_)))))
   obtain ⟨X,B,i⟩:=bix i
   refine Yp H R R o_3 Yk (I.rd u) B.1 λa H=>Zm H R (VC) λa H=>?_
   obtain ⟨be,aa,ab⟩:=Y2 u B.2 -- ^
   obtain ⟨bl,bm,rfl,bn,bo⟩:=Yl aa -- ^
   refine ZB (v:=(vI X.Number)) H R ty2 R (at_0 (I.atk ab (XM u B.2))) λa H=>ZM (xs:=[.tmp 23]) (l:=([X.Number] : List Int)) (vs:=[vI X.Number]) H I Za ld R R t_3 ty2 R dd_ R λbp w a I H=>?_
   obtain ⟨bq,az,i⟩:=p_1 i
   obtain ⟨a0,rfl⟩:=ZU az
   have I:=I.pl2
   refine ZX H I Za ld R R (I.sl1) t_3 ty2 R dd_ a0 λa1 w a I H=>Zc H R λa H=>Zj (Yy (ZA (t_1 (Zd H R λa H=>Zn H R R R λa H=>Zc H R λa H=>Zj (Zk ?_)))))
   have I:=M.fst (l:=[_,_]) I.pl2
   exact ⟨_,ois i,a1,H.s,I⟩
  intro Z i
  refine s_4 (Zu (Zu (YE ?_)))
  obtain rfl:=Y _ (ois i)
  refine Zk ?_
  exact ⟨E,H.s,I⟩
 rintro a w ⟨u8,H,I⟩
 refine ZA (s_2 (Zb (Zc H R λa H=>Ze ?_)))
 obtain ⟨a2,ac,ad⟩:=p_1 ay
 refine ZV (λa w=>∃ F : Value,Env 78 a [(3,F)] ∧ M (Old m) m w [osl NoB a2 F]) ?_ ?_
 ·refine p_2 ?_
  refine ZP (λ(j : List Int × Int) a w=>∃ k : Value,Env 78 a [(1,ptr x 0),(3,k),(5,vI j.2)] ∧ M (Old m) m w [raw x (cV d e h t),osl NoB j.1 k]) ac ⟨u8,H.s,I⟩ ?_
  rintro j a w ⟨k,H,I⟩ br q ae
  unfold Uh at q
  refine s_2 (Zb (Zd H R λa H=>Zm H R (XA) λa H=>ZB (v:=h) H R T3 R (at_3 I.ra0) λa H=>Yu H R p_4 (I.rd A) λa H=>Zn H R R R λa H=>Ze ?_))
  refine c_if H R q ?_ ?_
  ·intro af q
   refine u_2 (ZA ?_)
   obtain ⟨a3,C,ag⟩:=p_1 q
   refine ZI (λa w=>∃ G : Value,Env 78 a [(1,ptr x 0),(3,G),(5,vI j.2)] ∧ M (Old m) m w [raw x (cV d e h t),osl NoB a3 G]) ?_ ?_
   ·refine p_2 (Zb (Zm H R (XA) λa H=>ZB (v:=h) H R T3 R (at_3 I.ra0) λa H=>Zd H R λa H=>?_))
    obtain ⟨y,N,C⟩:=bix C
    refine Yp H R R p_4 Xn (I.rd A) N.1 λa H=>Zm H R (JI) λa H=>ZB (v:=(vI y.Number)) H R ty2 R (at_1 (YG (I.rd A) N.2)) λa H=>Zc H R λa H=>Zc H R λa H=>Ze ?_
    obtain ⟨K,ah,ai⟩:=p_1 C
    refine ZI (λa w=>Env 78 a [(1,ptr x 0),(3,k),(5,vI j.2),(6,vI y.Number),(7,vI K)] ∧ M (Old m) m w [raw x (cV d e h t),osl NoB j.1 k]) ?_ ?_
    ·refine p_2 ?_
     refine ZP (λ(L : Int) a w=>Env 78 a [(1,ptr x 0),(3,k),(5,vI j.2),(6,vI y.Number),(7,vI L)] ∧ M (Old m) m w [raw x (cV d e h t),osl NoB j.1 k]) ah ⟨H.s,I⟩ ?_
     rintro L a w ⟨H,I⟩ bs O aj
     unfold WW at O
     refine s_2 ?_
     obtain ⟨a4,n,z⟩:=p_1 O
     refine ZI (λa w=>Env 78 a [(1,ptr x 0),(3,k),(5,vI j.2),(6,vI y.Number),(7,vI L),(50,vT a4)] ∧ M (Old m) m w [raw x (cV d e h t),osl NoB j.1 k]) ?_ ?_
     ·refine t_1 (Zd H R λa H=>Zd H R λa H=>Yu H R t_3 (I.sl1) λa H=>Zn H R R R λa H=>Zd H R λa H=>?_)
      refine Yj (decide (L < (j.1.length : Int))) (λb=>?_) (λb=>?_)
      ·have n:=Zt n b
       refine Zo H (Zg H R (lkb R b)) dd_ R λa H=>Zo H (Zg H R (lkb R b)) dd_ R λa H=>?_
       obtain ⟨a5,T,n⟩:=bix n
       refine Z6 H (Zg H R (lkb R b)) dd_ R R t_3 ty2 (I.sl1) T.1 λa H=>Zz (v:=(vI a5)) H (Zg H R (lkb R b)) dd_ R ty2 R (YG (I.sl1) T.2) λa H=>Zo H (Zg H R (lkb R b)) dd_ R λa H=>Yc H (Zg H R (lkb R b)) dd_ R R R λa H=>ZH H (lkb R b) R λa H=>Zj ?_
       obtain rfl:=o_1 n
       refine Zk ?_
       exact ⟨H.s,I⟩
      have n:=Zs n b
      refine k_s H b R R R λa H=>k_s H b R R R λa H=>k_s H b R R R λa H=>k_s H b R R R λa H=>k_s H b R R R λa H=>k_s H b R R R λa H=>Z2 H (lkb R b) R λa H=>Zj ?_
      obtain rfl:=o_1 n
      refine Zk ?_
      exact ⟨H.s,I⟩
     rintro a w ⟨H,I⟩
     refine c_if H R z ?_ ?_
     ·intro ak z
      refine u_2 (ZA (p_2 (t_1 (Zd H R λa H=>Zn H R R R λa H=>Zc H R λa H=>Zj (Yy (Zk ?_))))))
      exact ⟨_,ois z,H.s,I⟩
     intro ak z
     refine s_4 (Zu (Zu (YE ?_)))
     obtain rfl:=aj _ (ois z)
     refine Zk ?_
     exact ⟨H.s,I⟩
    rintro a w ⟨H,I⟩
    obtain ⟨a6,o,al⟩:=p_1 ai
    refine ZI (λa w=>Env 78 a [(1,ptr x 0),(3,k),(5,vI j.2),(6,vI y.Number),(7,vI K),(64,vT a6)] ∧ M (Old m) m w [raw x (cV d e h t),osl NoB j.1 k]) ?_ ?_
    ·refine t_1 (Zd H R λa H=>Zd H R λa H=>Yu H R t_3 (I.sl1) λa H=>Zn H R R R λa H=>Zd H R λa H=>?_)
     refine Yj (K == (j.1.length : Int)) (λc=>?_) (λc=>?_)
     ·have o:=Zt o c
      refine k_s H c R R R λa H=>k_s H c R R R λa H=>k_s H c R R R λa H=>k_s H c R R R λa H=>k_s H c R R R λa H=>k_s H c R R R λa H=>ZH H (lkb R c) R λa H=>Zj ?_
      obtain rfl:=o_1 o
      refine Zk ?_
      exact ⟨H.s,I⟩
     have o:=Zs o c
     refine Zo H (Zg H R (lkb R c)) dd_ R λa H=>Zo H (Zg H R (lkb R c)) dd_ R λa H=>?_
     obtain ⟨a7,U,o⟩:=bix o
     refine Z6 H (Zg H R (lkb R c)) dd_ R R t_3 ty2 (I.sl1) U.1 λa H=>Zz (v:=(vI a7)) H (Zg H R (lkb R c)) dd_ R ty2 R (YG (I.sl1) U.2) λa H=>Zo H (Zg H R (lkb R c)) dd_ R λa H=>Yc H (Zg H R (lkb R c)) dd_ R R R λa H=>Z2 H (lkb R c) R λa H=>Zj ?_
     obtain rfl:=o_1 o
     refine Zk ?_
     exact ⟨H.s,I⟩
    rintro a w ⟨H,I⟩
    obtain ⟨a8,f,am⟩:=p_1 al
    refine ZV (λa w=>∃ u85 : Value,Env 78 a [(1,ptr x 0),(3,u85),(5,vI j.2)] ∧ M (Old m) m w [raw x (cV d e h t),osl NoB a8 u85]) ?_ ?_
    ·refine c_if H R f ?_ ?_
     ·intro an f
      refine Zb (Zd H R λa H=>ZM (xs:=[.tmp 65]) (l:=([y.Number] : List Int)) (vs:=[vI y.Number]) H I Za ld R R t_3 ty2 R dd_ R λu88 w a I H=>Zd H R λa H=>Zd H R λa H=>?_)
      obtain ⟨bt,ao,f⟩:=p_1 f
      refine Q2 H Za ld R R R R R t_3 ty2 (I.sl2) ao λa H=>?_
      obtain ⟨bu,a9,f⟩:=p_1 f
      obtain ⟨ba,rfl⟩:=ZU a9
      refine ZX H I Za ld R R (Xl (I.sl2) ao) t_3 ty2 R dd_ ba λbv w a I H=>Zc H R λa H=>Ze (t_1 (Zd H R λa H=>Zd H R λa H=>?_))
      obtain ⟨bb,ap,f⟩:=p_1 f
      refine Q2 H Za ld R R R R R t_3 ty2 (I.sl2) ap λa H=>?_
      obtain ⟨bc,aq,f⟩:=p_1 f
      refine Zp H R (cbm func194) (qx _ bb (Yg k (xi).toNat (K).toNat 1) (Xl (I.sl2) ap) bc aq) ?_
      rintro bg w a ⟨_,rfl,hFr,hK⟩ H
      have I:=I.add hK hFr
      refine Zd H R λa H=>?_
      obtain ⟨bh,ar,f⟩:=p_1 f
      obtain ⟨au,rfl⟩:=ZU ar
      refine ZX H I Za ld R R (I.sl1) t_3 ty2 R dd_ au λav w a I H=>Zc H R λa H=>Zj ?_
      obtain rfl:=o_1 f
      refine Zk ?_
      have I:=M.fst (l:=[_,_]) I.pl2
      exact ⟨av,H.s,I⟩
     intro an f
     refine u_2 ?_
     obtain rfl:=o_1 f
     refine Zk ?_
     exact ⟨k,H.s,I⟩
    rintro a w ⟨u85,H,I⟩
    refine Yy ?_
    obtain rfl:=o_1 am
    refine Zk ?_
    exact ⟨u85,H.s,I⟩
   rintro a w ⟨G,H,I⟩
   refine t_1 (Zd H R λa H=>Zn H R R R λa H=>Zc H R λa H=>Zj (Zk ?_))
   exact ⟨_,ois ag,G,H.s,I⟩
  intro af q
  refine s_4 (Zu (Zu (YE ?_)))
  obtain rfl:=ae _ (ois q)
  refine Zk ?_
  have I:=M.fst (l:=[_]) I.pl1
  exact ⟨k,H.s,I⟩
 rintro a w ⟨F,H,I⟩
 refine ZA (Zb (Zd H R λa H=>Zc H R λa H=>Ze ?_))
 obtain rfl:=o_1 ad
 exact p_3 (ZY H R (Zy H R) ⟨_,R,F,R,I.outF (ZK Yd),I.kept⟩)
def T7 (c : List GEvent) (n : Int) (b : V32 × Bool × Int) : Option (Fl (V32 × Bool × Int) (V32 × Bool)) :=
 if decide (b.2.2 < (c.length : Int)) then (((idx c b.2.2).bind λh=>if h.Number != n then (some (b.1,b.2.1)) else ((((idx c b.2.2).bind λi=>if i.Kind == 1 then (some true) else ((idx c b.2.2).bind λj=>if j.Kind == 4 then (some b.2.1) else (some false)) : Option (Bool)).bind λk=>(if k then ((idx c b.2.2).bind λl=>some (l.Tag,true)) else ((idx c b.2.2).bind λm=>if m.Kind == 2 then (some (b.1,false)) else (some (b.1,b.2.1))) : Option (V32 × Bool)).bind λd=>some (d.1,d.2) : Option (V32 × Bool)).bind λe=>some (e.1,e.2)) : Option (V32 × Bool)).bind λf=>some (Fl.nx (f.1,f.2,wr (b.2.2 + 1)))) else (some (Fl.ex (b.1,b.2.1)))
def KO (c : List GEvent) (d : Int) : Option (V32 × Bool) :=
 (ZQ (T7 c d) ((Vector.replicate 32 (0 : UInt8)),false,0)).bind λb=>some (b.1,b.2)
theorem Zbu (j : World) (p0 : List GEvent) (f : Value) (c : Ro j p0 [f]) (z : Int) (r : V32 × Bool) (J : KO p0 z = some r) :
  Calls prog 165 [f,vI z].toArray j (Rt j (Value.tuple [Value.agg (enc r.1).toArray,vT r.2].toArray)):=by
 refine ce func165 ?_
 intro a H
 have I:=M.start j
 unfold KO at J
 refine Zb (Zv H I ZW λl w a I H=>Zc H R λa H=>Ze (Zb (Y6 (parts:=[]) (vs:=[]) (cs:=enc xb) H Za ld R R ZW R ty5 YO λa H=>Zv H I ZW λm w a I H=>Zl (seg:=enc xb) (cs':=enc xb) H I Za R R R ZW (u_1 _) (zle flq) (s_1 _) (Zh flq) λw a I H=>Zc H R λa H=>Ze (s_2 (Zb (Zc H R λa H=>Ze ?_))))))
 obtain ⟨j5,ac,ad⟩:=p_1 J
 refine ZV (λa w=>Env 55 a [(4,ptr l 0),(6,ptr m 0),(7,vT j5.2)] ∧ M (Old j) j w [raw m (enc j5.1),raw l xm]) ?_ ?_
 ·refine p_2 ?_
  refine ZP (λ(n : V32 × Bool × Int) a w=>Env 55 a [(0,f),(1,vI z),(4,ptr l 0),(6,ptr m 0),(7,vT n.2.1),(8,vI n.2.2)] ∧ M (Old j) j w [raw m (enc n.1),raw l xm]) ac ⟨H.s,I⟩ ?_
  rintro n a w ⟨H,I⟩ ah k A
  unfold T7 at k
  refine s_2 (Zb (Zd H R λa H=>Zd H R λa H=>Yu H R p_4 (I.rd c) λa H=>Zn H R R R λa H=>Ze ?_))
  refine c_if H R k ?_ ?_
  ·intro B k
   refine u_2 (ZA ?_)
   obtain ⟨C,h,E⟩:=p_1 k
   refine ZI (λa w=>Env 55 a [(0,f),(1,vI z),(4,ptr l 0),(6,ptr m 0),(7,vT C.2),(8,vI n.2.2)] ∧ M (Old j) j w [raw m (enc C.1),raw l xm]) ?_ ?_
   ·refine p_2 (s_2 (Zb (Zd H R λa H=>Zd H R λa H=>?_)))
    obtain ⟨F,q,h⟩:=bix h
    refine Yp H R R p_4 Xn (I.rd c) q.1 λa H=>Zm H R (JI) λa H=>ZB (v:=(vI F.Number)) H R ty2 R (at_1 (YG (I.rd c) q.2)) λa H=>Zd H R λa H=>Zn H R R R λa H=>Ze ?_
    refine c_if H R h ?_ ?_
    ·intro G h
     refine s_4 (Zu (YE ?_))
     obtain rfl:=o_1 h
     refine Zk ?_
     exact ⟨H.s,I⟩
    intro G h
    refine u_2 (ZA ?_)
    obtain ⟨K,L,N⟩:=p_1 h
    refine ZV (λa w=>Env 55 a [(0,f),(1,vI z),(4,ptr l 0),(6,ptr m 0),(7,vT K.2),(8,vI n.2.2)] ∧ M (Old j) j w [raw m (enc K.1),raw l xm]) ?_ ?_
    ·refine p_2 ?_
     obtain ⟨ae,d,O⟩:=p_1 L
     refine ZI (λa w=>Env 55 a [(0,f),(1,vI z),(4,ptr l 0),(6,ptr m 0),(7,vT n.2.1),(8,vI n.2.2),(23,vT ae)] ∧ M (Old j) j w [raw m (enc n.1),raw l xm]) ?_ ?_
     ·refine t_1 (Zd H R λa H=>Zd H R λa H=>?_)
      obtain ⟨T,t,d⟩:=bix d
      refine Yp H R R p_4 Xn (I.rd c) t.1 λa H=>Zm H R (KY) λa H=>ZB (v:=(vI T.Kind)) H R ty2 R (at_0 (YG (I.rd c) t.2)) λa H=>Zn H R R R λa H=>Zd H R λa H=>?_
      refine Yj (T.Kind == 1) (λb=>?_) (λb=>?_)
      ·have d:=Zt d b
       refine k_s H b R R R λa H=>k_s H b R R R λa H=>k_s H b R R R λa H=>k_s H b R R R λa H=>k_s H b R R R λa H=>k_s H b R R R λa H=>k_s H b R R R λa H=>Vv H R R dd_ λa H=>k_s H b R R R λa H=>ZH H (lkb R b) R λa H=>Zc H R λa H=>Zj ?_
       obtain rfl:=o_1 d
       refine Zk ?_
       exact ⟨H.s,I⟩
      have d:=Zs d b
      refine Zo H (Zg H R (lkb R b)) dd_ R λa H=>Zo H (Zg H R (lkb R b)) dd_ R λa H=>?_
      obtain ⟨U,u,d⟩:=bix d
      refine Z6 H (Zg H R (lkb R b)) dd_ R R p_4 Xn (I.rd c) u.1 λa H=>Zi H (Zg H R (lkb R b)) dd_ R (KY) λa H=>Zz (v:=(vI U.Kind)) H (Zg H R (lkb R b)) dd_ R ty2 R (at_0 (YG (I.rd c) u.2)) λa H=>Yc H (Zg H R (lkb R b)) dd_ R R R λa H=>Zo H (Zg H R (lkb R b)) dd_ R λa H=>?_
      refine Yj (U.Kind == 4) (λi=>?_) (λi=>?_)
      ·have d:=Zt d i
       refine Zo H (Zg H R (lkb R i)) dd_ R λa H=>Q8 H (Zg H R (lkb R b)) dd_ (lkb R i) R λa H=>Z2 H (lkb R b) R λa H=>Zc H R λa H=>Zj ?_
       obtain rfl:=o_1 d
       refine Zk ?_
       exact ⟨H.s,I⟩
      have d:=Zs d i
      refine k_s H i R R R λa H=>TH H (Zg H R (lkb R b)) dd_ (lkb R i) R λa H=>Z2 H (lkb R b) R λa H=>Zc H R λa H=>Zj ?_
      obtain rfl:=o_1 d
      refine Zk ?_
      exact ⟨H.s,I⟩
     rintro a w ⟨H,I⟩
     obtain ⟨W,e,X⟩:=p_1 O
     refine ZV (λa w=>Env 55 a [(0,f),(1,vI z),(4,ptr l 0),(6,ptr m 0),(7,vT W.2),(8,vI n.2.2)] ∧ M (Old j) j w [raw m (enc W.1),raw l xm]) ?_ ?_
     ·refine c_if H R e ?_ ?_
      ·intro Y e
       refine Zb (Zd H R λa H=>Zd H R λa H=>?_)
       obtain ⟨o,x,e⟩:=bix e
       refine Yp H R R p_4 Xn (I.rd c) x.1 λa H=>Zm H R (jH) λa H=>Zq H R ZW R (at_2 (YG (I.rd c) x.2)) (u_1 _) λa H=>Zl (seg:=enc o.Tag) (cs':=enc o.Tag) H I Za R R R ZW (u_1 _) (zle flq) (s_1 _) (Zh flq) λw a I H=>Ze (t_1 (Zc H R λa H=>Zj ?_))
       obtain rfl:=o_1 e
       refine Zk ?_
       exact ⟨H.s,I⟩
      intro Y e
      refine Zb (Zd H R λa H=>Zd H R λa H=>?_)
      obtain ⟨af,y,e⟩:=bix e
      refine Yp H R R p_4 Xn (I.rd c) y.1 λa H=>Zm H R (KY) λa H=>ZB (v:=(vI af.Kind)) H R ty2 R (at_0 (YG (I.rd c) y.2)) λa H=>Zn H R R R λa H=>Zc H R λa H=>Ze ?_
      refine c_if H R e ?_ ?_
      ·intro Z e
       refine t_1 (Zc H R λa H=>Zj ?_)
       obtain rfl:=o_1 e
       refine Zk ?_
       exact ⟨H.s,I⟩
      intro Z e
      refine u_2 ?_
      obtain rfl:=o_1 e
      refine Zk ?_
      exact ⟨H.s,I⟩
     rintro a w ⟨H,I⟩
     refine Yy ?_
     obtain rfl:=o_1 X
     refine Zk ?_
     exact ⟨H.s,I⟩
    rintro a w ⟨H,I⟩
    refine Yy ?_
    obtain rfl:=o_1 N
    refine Zk ?_
    exact ⟨H.s,I⟩
   rintro a w ⟨H,I⟩
   refine t_1 (Zd H R λa H=>Zn H R R R λa H=>Zc H R λa H=>Zj (Zk ?_))
   exact ⟨_,ois E,H.s,I⟩
  intro B k
  refine s_4 (Zu (Zu (YE ?_)))
  obtain rfl:=A _ (ois k)
  refine Zk ?_
  exact ⟨H.s,I⟩
 rintro a w ⟨H,I⟩
 refine ZA (Zb (Zq H R ZW R I.ra0 (u_1 _) λa H=>Zd H R λa H=>?_))
 have I:=I.pl1
 refine Zl (seg:=enc j5.1) (cs':=enc j5.1) H I Za R R R ZW (u_1 _) (zle flq) (s_1 _) (Zh flq) λw a I H=>Zc H R λa H=>Ze ?_
 obtain rfl:=o_1 ad
 have aa : Z7 prog _ _ (.cell 4 32) _:=ZE H R ZW R I.ra0 (u_1 _) R
 exact p_3 (Yq H R aa (Zy H R) ⟨_,R,R,I.kept⟩)
def Tr (h : GVault) (c : List Int) (b : List (List Int) × Int) : Option (Fl (List (List Int) × Int) (List (List Int))) :=
 if decide (b.2 < (c.length : Int)) then (((idx c b.2).bind λi=>(KO h.Events i).bind λe=>((idx c b.2).bind λj=>(X8 h j).bind λk=>some k : Option (Int)).bind λf=>(if e.2 != (decide (f ≥ 0)) then (some true) else (if e.2 then ((idx h.Records f).bind λl=>some (!decide (l.Tag = e.1))) else (some false)) : Option (Bool)).bind λm=>(if m then ((idx c b.2).bind λd=>(app 24 b.1 ([([2,d] : List Int)] : List (List Int))).bind λq=>some (b.1 ++ ([([2,d] : List Int)] : List (List Int)))) else (some b.1) : Option ((List (List Int)))).bind λn=>some n : Option ((List (List Int)))).bind λo=>some (Fl.nx (o,wr (b.2 + 1)))) else (some (Fl.ex b.1))
def V4 (d : GVault) (b : Int × List (List Int)) : Option (Fl (Int × List (List Int)) (List (List Int))) :=
 if decide (b.1 < (d.Records.length : Int)) then ((((idx d.Records b.1).bind λe=>(X2 d e).bind λf=>(idx d.Records b.1).bind λh=>some (!decide (f = h.Tag)) : Option (Bool)).bind λi=>(if i then ((idx d.Records b.1).bind λc=>(app 24 b.2 ([([3,c.Number] : List Int)] : List (List Int))).bind λl=>some (b.2 ++ ([([3,c.Number] : List Int)] : List (List Int)))) else (some b.2) : Option ((List (List Int)))).bind λj=>some j : Option ((List (List Int)))).bind λk=>some (Fl.nx (wr (b.1 + 1),k))) else (some (Fl.ex b.2))
def T4 (b : GVault) : Option (List (List Int) × Int) :=
 (X9 b).bind λi=>if !i then (some ([],1)) else ((((W6 b.Events).bind λd=>some (!decide (d = b.Head)) : Option (Bool)).bind λe=>if e then ((app 24 ([] : List (List Int)) ([([1] : List Int)] : List (List Int))).bind λj=>some (([] : List (List Int)) ++ ([([1] : List Int)] : List (List Int)))) else (some ([] : List (List Int))) : Option ((List (List Int)))).bind λk=>(UY b).bind λf=>(ZQ (Tr b f) (k,0)).bind λh=>(ZQ (V4 b) (0,h)).bind λc=>some (c,0))
theorem ju (x : World) (y : GVault) (b : Value) (Y : Ro x y.Keys [b]) (d : Value) (f : Ro x y.Records [d]) (e : Value) (C : Ro x y.Events [e]) (r : List xC × Int) (J : T4 y = some r) :
  Calls prog 66 [vcV b d e y].toArray x (e_r λv w'=>(∃ y1 : Value,v = (Value.tuple [y1,vI r.2].toArray) ∧ Fr x w' [osl NoB r.1 y1] ∧ Kept (Old x) x w')):=by
 refine ce func66 ?_
 intro a H
 have I:=M.start x
 unfold T4 at J
 refine Zb (Z1 (cs:=cV b d e y) H I Za ld R R λK w a I H=>Zc H R λa H=>Zc H R λa H=>Ze (s_2 (Zb (Zq H R ZG R I.ra0 cq λa H=>?_))))
 obtain ⟨r3,e4,J⟩:=p_1 J
 refine c_k H I R yN (UG _ y b (I.rdo Y) d (I.rdo f) e (I.rdo C) r3 e4) λw a I H=>?_
 refine Kp H R λa H=>Ze ?_
 refine c_if H R J ?_ ?_
 ·intro cv J
  refine Zb (Zc H R λa H=>Zc H R λa H=>Ze ?_)
  have I:=M.nilS (α:=xC) NoB noB I
  obtain rfl:=o_1 J
  have I:=M.fst (l:=[_]) I
  exact p_3 (ZJ (Yq H R (Zy H R) (Zy H R) ⟨_,R,xd,R,I.outF (ZK Yd),I.kept⟩))
 intro cv J
 refine u_2 (ZA (Zb (jB (xs:=[]) (S:=NoB) (l:=([] : List xC)) (vs:=[]) H I.emp noB Za ld R R R u_5 Bh R dd_ (λ_ h=>⟨R,h⟩) (λ_ h=>by cases h) λu7 w a I H=>Zc H R λa H=>Ze ?_)))
 obtain ⟨j9,bo,al⟩:=p_1 J
 refine ZI (λa w=>∃ aq : Value,Env 106 a [(1,ptr K 0),(4,aq)] ∧ M (Old x) x w [raw K (cV b d e y),osl NoB j9 aq]) ?_ ?_
 ·obtain ⟨cx,am,L⟩:=p_1 bo
  refine ZI (λa w=>Env 106 a [(1,ptr K 0),(4,u7),(20,vT cx)] ∧ M (Old x) x w [osl NoB (([] : List xC) : List xC) u7,raw K (cV b d e y)]) ?_ ?_
  ·obtain ⟨cy,cz,am⟩:=p_1 am
   refine Z9 [15,16,17,18,19,20] Yx R R dd_ R H I (qsP (λz=>Zi z.E Za ld R (XA) (kr0 R)) (qsP (λz=>Zz (v:=e) z.E Za ld R T3 R (at_3 (z.M.ra1)) (kr0 R)) (qsP (λz=>Z8 z.E Za ld R Ze6 (K3 _ y.Events e (z.M.rdo C) cy cz) (kc R)) (qsP (λz=>Zi z.E Za ld R (J1) (kr0 R)) (qsP (λz=>Zx z.E Za ld R ZW R (at_4 (z.M.ra1)) (u_1 _) (kr0 R)) (qsP (λz=>Jx z.E Za ld R R (XX t_4 ty5 R false R dd_ (Xp u_3)) dd_ (by kernel_rfl) (kr0 R)) qs0)))))) ?_
   ·intro a w u H I
    refine Zj ?_
    obtain rfl:=o_1 am
    refine Zk ?_
    exact ⟨H.s,I⟩
  rintro a w ⟨H,I⟩
  refine c_if H R L ?_ ?_
  ·intro bp L
   refine t_1 (Zd H R λa H=>ZM (xs:=[.const (vI 1)]) (l:=([1] : List Int)) (vs:=[vI 1]) H I Za ld R R t_3 ty2 R dd_ R λbq w a I H=>?_)
   have br:=Z5 (I.sl0)
   have I:=I.pack1 (it:=own NoB ([1] : List Int) ([bq])) (Wa noB) (λf0 q0=>(X5.sat q0))
   refine KR (xs:=[.tmp 22]) (seg:=[bq]) H I noB Za ld R br u_5 Bh R dd_ λd1 w a I H=>?_
   obtain ⟨d2,c0,L⟩:=p_1 L
   obtain ⟨c1,rfl⟩:=ZU c0
   have I:=I.pl1
   refine Q4 H I noB Za ld R R u_5 Bh R dd_ c1 λc2 w a I H=>Zc H R λa H=>Zj ?_
   obtain rfl:=o_1 L
   refine Zk ?_
   have I:=I.pl1
   exact ⟨c2,H.s,I⟩
  intro bp L
  refine u_2 ?_
  obtain rfl:=o_1 L
  refine Zk ?_
  have I:=I.pl1
  exact ⟨u7,H.s,I⟩
 rintro a w ⟨aq,H,I⟩
 refine Zb (Zq H R ZG R I.ra0 cq λa H=>?_)
 obtain ⟨ac,c3,al⟩:=p_1 al
 refine Zp H R (cbm func164) (zd _ y b (I.rdo Y) d (I.rdo f) e (I.rdo C) ac c3) ?_
 rintro N w a ⟨_,rfl,hFr,hK⟩ H
 have I:=I.add hK hFr
 refine Zc H R λa H=>Ze (s_2 (Zb (Zc H R λa H=>Ze ?_)))
 obtain ⟨c4,bs,bt⟩:=p_1 al
 refine ZV (λa w=>∃ ar : Value,Env 106 a [(1,ptr K 0),(4,ar)] ∧ M (Old x) x w [raw K (cV b d e y),osl NoB c4 ar]) ?_ ?_
 ·refine p_2 ?_
  refine ZP (λ(U : List xC × Int) a w=>∃ W : Value,Env 106 a [(1,ptr K 0),(4,W),(5,N),(6,vI U.2)] ∧ M (Old x) x w [osl NoB ac N,raw K (cV b d e y),osl NoB U.1 W]) bs ⟨aq,H.s,I⟩ ?_
  rintro U a w ⟨W,H,I⟩ d3 X bu
  unfold Tr at X
  refine s_2 (Zb (Zd H R λa H=>Zd H R λa H=>Yu H R t_3 (I.sl0) λa H=>Zn H R R R λa H=>Ze ?_))
  refine c_if H R X ?_ ?_
  ·intro bv X
   refine u_2 (ZA ?_)
   obtain ⟨c5,Z,bw⟩:=p_1 X
   refine ZI (λa w=>∃ au : Value,Env 106 a [(1,ptr K 0),(4,au),(5,N),(6,vI U.2)] ∧ M (Old x) x w [osl NoB ac N,raw K (cV b d e y),osl NoB c5 au]) ?_ ?_
   ·refine p_2 (s_2 ?_)
    obtain ⟨bx,ax,Z⟩:=bix Z
    obtain ⟨aa,c6,Z⟩:=p_1 Z
    refine Ys (its:=[osl NoB ac N,raw K (cV b d e y),osl NoB U.1 W]) (mk:=([mkC 10 11 xm (enc aa.1)] : Mk)) [34,35,36,37,38,39,40,33,41,42,7,117] Yx R R dd_ R H (λu=>M.qE (M.q0 I.drew u) emC) (qsP (λz=>Zi z.E Za ld R (XA) (kr0 R)) (qsP (λz=>Zz (v:=e) z.E Za ld R T3 R (at_3 (z.M.ra1)) (kr0 R)) (q_m (λ_=>R) (q_m (λ_=>R) (qsP (λz=>Z6 z.E Za ld R R t_3 ty2 (z.M.sl0) ax.1 (kr0 R)) (qsP (λz=>Zz (v:=(vI bx)) z.E Za ld R ty2 R (YG (z.M.sl0) ax.2) (kr0 R)) (qsP (λz=>Z8 z.E Za ld R (cbm func165) (Zbu _ y.Events e (z.M.rdo C) bx aa c6) (kc R)) (q_m (λ_=>R) (qsP (λz=>ZF z.E Za ld R R (kr0 R)) (qsP (λz=>ZF z.E Za ld R R (kr0 R)) (q_t ?_ (q_t ?_ qs0)))))))))))) ?_
    ·intro a w ay D z
     have H:=z.E
     have hD : D 10 = false:=z.F
     have I:=z.M
     refine Zv H I ZW λd4 w a I H=>?_
     have hs : D 11 = false:=VE (j:=11) (k:=0) z.c R R R hD
     exact ⟨_,_,R,H,M.qAlloc (mk1:=[]) (mk2:=[]) I R hD hs dd_,trivial⟩
    ·intro a w ay D z
     have H:=z.E
     have hD : D 11 = false:=z.F
     have av : D 10 = true:=z.p 0 _ R R
     have I:=z.M
     obtain ⟨d5,az,I⟩:=M.openCellF (pre:=[_,_,_]) I av hD
     exact Zl (seg:=enc aa.1) (cs':=enc aa.1) H I Za (lk R az) R R ZW (u_1 _) (zle flq) (s_1 _) (Zh flq) λw a I H=>⟨undef,_,R,Env.dummy H dd_,M.qStore (i:=10) (mk1:=[]) (mk2:=[]) I R av az dd_,trivial⟩
    intro a w ay D H I hG a0
    have av:=a0 10 dd_
    have c7:=a0 11 dd_
    obtain ⟨bz,c8,I⟩:=M.openCellT (pre:=[_,_,_]) I av c7
    have H:=H.setq (t:=7) R c8
    refine Zc H R λa H=>Zj (ZA ?_)
    obtain ⟨b0,ab,b2⟩:=p_1 Z
    refine ZI (λa w=>Env 106 a [(1,ptr K 0),(4,W),(5,N),(6,vI U.2),(7,ptr bz 0),(8,vT aa.2),(9,vI b0)] ∧ M (Old x) x w [raw bz (enc aa.1),osl NoB ac N,raw K (cV b d e y),osl NoB U.1 W]) ?_ ?_
    ·obtain ⟨b3,a1,ab⟩:=bix ab
     obtain ⟨c9,da,ab⟩:=p_1 ab
     refine Z9 [43,44,45,46,47,48,9] Yx R R dd_ R H I (qsP (λz=>Zx z.E Za ld R ZG R (z.M.ra2) cq (kr0 R)) (q_m (λ_=>R) (q_m (λ_=>R) (qsP (λz=>Z6 z.E Za ld R R t_3 ty2 (z.M.sl1) a1.1 (kr0 R)) (qsP (λz=>Zz (v:=(vI b3)) z.E Za ld R ty2 R (YG (z.M.sl1) a1.2) (kr0 R)) (qsP (λz=>Z8 z.E Za ld R Zc7 (T2 _ y b (z.M.rdo Y) d (z.M.rdo f) e (z.M.rdo C) b3 c9 da) (kc R)) (qsP (λz=>Qs z.E Za ld R (kr0 R)) qs0))))))) ?_
     ·intro a w u H I
      refine Zj ?_
      obtain rfl:=o_1 ab
      refine Zk ?_
      exact ⟨H.s,I⟩
    rintro a w ⟨H,I⟩
    obtain ⟨db,o,b4⟩:=p_1 b2
    refine ZI (λa w=>Env 106 a [(1,ptr K 0),(4,W),(5,N),(6,vI U.2),(65,vT db)] ∧ M (Old x) x w [osl NoB ac N,raw K (cV b d e y),osl NoB U.1 W]) ?_ ?_
    ·refine Yj (aa.2 != (decide (b0 ≥ 0))) (λn=>?_) (λn=>?_)
     ·have o:=Zt o n
      refine Z9 [49,50,51,52,53,54,55,56,57,58,59,60,61,62,63,64,65] Yx R R dd_ R H I (q_m (λ_=>R) (q_m (λ_=>R) (qsP (λz=>Yc z.E Za ld R R R (kr0 R)) (qsP (λz=>Zg3 z.E Za ld R R underlying4 (kr0 R)) (q_m (λ_=>R) (qsP (λz=>Zf z.E R (lkb R n) R dd_ (kr0 R)) (qsP (λz=>Zf z.E R (lkb R n) R dd_ (kr0 R)) (qsP (λz=>Vv z.E R R dd_ (kr0 R)) (qsP (λz=>Vv z.E R R dd_ (kr0 R)) (qsP (λz=>Vv z.E R R dd_ (kr0 R)) (qsP (λz=>Vv z.E R R dd_ (kr0 R)) (qsP (λz=>Vv z.E R R dd_ (kr0 R)) (qsP (λz=>Vv z.E R R dd_ (kr0 R)) (qsP (λz=>Vv z.E R R dd_ (kr0 R)) (qsP (λz=>Vv z.E R R dd_ (kr0 R)) (qsP (λz=>Zf z.E R (lkb R n) R dd_ (kr0 R)) (qsP (λz=>Q8 z.E Za ld (lkb R n) R (kr0 R)) qs0))))))))))))))))) ?_
      ·intro a w u H I
       refine Zj ?_
       obtain rfl:=o_1 o
       refine Zk ?_
       have I:=M.fst (l:=[_,_,_]) I.pl3.pl3.pl3
       exact ⟨H.s,I⟩
     have o:=Zs o n
     refine Yj aa.2 (λm=>?_) (λm=>?_)
     ·have o:=Zt o m
      obtain ⟨a4,an,o⟩:=bix o
      obtain ⟨dk,b5,b6⟩:=Y2 f an.2 -- ^
      obtain ⟨u89,dc,rfl,d6,d7⟩:=Yl b5 -- ^
      refine Z9 [49,50,51,52,53,54,55,56,57,58,59,60,61,62,63,64,65] Yx R R dd_ R H I (q_m (λ_=>R) (q_m (λ_=>R) (qsP (λz=>Yc z.E Za ld R R R (kr0 R)) (qsP (λz=>Zg3 z.E Za ld R R underlying4 (kr0 R)) (q_m (λ_=>R) (qsP (λz=>Zo z.E (Zg z.E R (lkb R n)) dd_ R (kr0 R)) (qsP (λz=>Zo z.E (Zg z.E R (lkb R n)) dd_ R (kr0 R)) (qsP (λz=>Zi z.E (Zg z.E R (lkb R m)) dd_ R (Ye) (kr0 R)) (qsP (λz=>Zz (v:=d) z.E (Zg z.E R (lkb R m)) dd_ R Xr R (at_2 (z.M.ra2)) (kr0 R)) (qsP (λz=>Zo z.E (Zg z.E R (lkb R m)) dd_ R (kr0 R)) (qsP (λz=>Z6 z.E (Zg z.E R (lkb R m)) dd_ R R o_3 Yk (z.M.rd f) an.1 (kr0 R)) (qsP (λz=>Zi z.E (Zg z.E R (lkb R m)) dd_ R (Qg) (kr0 R)) (qsP (λz=>Zx z.E (Zg z.E R (lkb R m)) dd_ R ZW R (at_5 (z.M.atk b6 (XM f an.2))) (u_1 _) (kr0 R)) (qsP (λz=>Zx z.E (Zg z.E R (lkb R m)) dd_ R ZW R (z.M.ra0) (u_1 _) (kr0 R)) (qsP (λz=>Jx z.E (Zg z.E R (lkb R m)) dd_ R R (XX t_4 ty5 R false R dd_ (Xp u_3)) dd_ (by kernel_rfl) (kr0 R)) (qsP (λz=>Q8 z.E (Zg z.E R (lkb R n)) dd_ (lkb R m) R (kr0 R)) (qsP (λz=>TH z.E Za ld (lkb R n) R (kr0 R)) qs0))))))))))))))))) ?_
      ·intro a w u H I
       refine Zj ?_
       obtain rfl:=o_1 o
       refine Zk ?_
       have I:=M.fst (l:=[_,_,_]) I.pl3.pl3.pl3
       exact ⟨H.s,I⟩
     have o:=Zs o m
     refine Z9 [49,50,51,52,53,54,55,56,57,58,59,60,61,62,63,64,65] Yx R R dd_ R H I (q_m (λ_=>R) (q_m (λ_=>R) (qsP (λz=>Yc z.E Za ld R R R (kr0 R)) (qsP (λz=>Zg3 z.E Za ld R R underlying4 (kr0 R)) (q_m (λ_=>R) (qsP (λz=>Zo z.E (Zg z.E R (lkb R n)) dd_ R (kr0 R)) (qsP (λz=>Zo z.E (Zg z.E R (lkb R n)) dd_ R (kr0 R)) (qsP (λz=>Zf z.E R (lkb R m) R dd_ (kr0 R)) (qsP (λz=>Zf z.E R (lkb R m) R dd_ (kr0 R)) (qsP (λz=>Zf z.E R (lkb R m) R dd_ (kr0 R)) (qsP (λz=>Zf z.E R (lkb R m) R dd_ (kr0 R)) (qsP (λz=>Zf z.E R (lkb R m) R dd_ (kr0 R)) (qsP (λz=>Zf z.E R (lkb R m) R dd_ (kr0 R)) (qsP (λz=>Zf z.E R (lkb R m) R dd_ (kr0 R)) (qsP (λz=>Zf z.E R (lkb R m) R dd_ (kr0 R)) (qsP (λz=>TH z.E (Zg z.E R (lkb R n)) dd_ (lkb R m) R (kr0 R)) (qsP (λz=>TH z.E Za ld (lkb R n) R (kr0 R)) qs0))))))))))))))))) ?_
     ·intro a w u H I
      refine Zj ?_
      obtain rfl:=o_1 o
      refine Zk ?_
      have I:=M.fst (l:=[_,_,_]) I.pl3.pl3.pl3
      exact ⟨H.s,I⟩
    rintro a w ⟨H,I⟩
    obtain ⟨dd,B,b7⟩:=p_1 b4
    refine ZV (λa w=>∃ aw : Value,Env 106 a [(1,ptr K 0),(4,aw),(5,N),(6,vI U.2)] ∧ M (Old x) x w [osl NoB ac N,raw K (cV b d e y),osl NoB dd aw]) ?_ ?_
    ·refine c_if H R B ?_ ?_
     ·intro a5 B
      refine t_1 (Zd H R λa H=>Zd H R λa H=>Zd H R λa H=>?_)
      obtain ⟨ag,ao,B⟩:=bix B
      refine Yp H R R t_3 ty2 (I.sl0) ao.1 λa H=>ZB (v:=(vI ag)) H R ty2 R (YG (I.sl0) ao.2) λa H=>ZM (xs:=[.const (vI 2),.tmp 70]) (l:=([2,ag] : List Int)) (vs:=[vI 2,vI ag]) H I Za ld R R t_3 ty2 R dd_ R λa2 w a I H=>?_
      have a6:=Z5 (I.sl0)
      have I:=I.pack1 (it:=own NoB ([2,ag] : List Int) ([a2])) (Wa noB) (λf0 q0=>(X5.sat q0))
      refine KR (xs:=[.tmp 71]) (seg:=[a2]) H I noB Za ld R a6 u_5 Bh R dd_ λdl w a I H=>?_
      obtain ⟨dm,b8,B⟩:=p_1 B
      obtain ⟨b9,rfl⟩:=ZU b8
      have I:=I.pl3
      refine Q4 H I noB Za ld R R u_5 Bh R dd_ b9 λca w a I H=>Zc H R λa H=>Zj ?_
      obtain rfl:=o_1 B
      refine Zk ?_
      have I:=I.pl2.pl2
      exact ⟨ca,H.s,I⟩
     intro a5 B
     refine u_2 ?_
     obtain rfl:=o_1 B
     refine Zk ?_
     exact ⟨W,H.s,I⟩
    rintro a w ⟨aw,H,I⟩
    refine Yy ?_
    obtain rfl:=o_1 b7
    refine Zk ?_
    exact ⟨aw,H.s,I⟩
   rintro a w ⟨au,H,I⟩
   refine t_1 (Zd H R λa H=>Zn H R R R λa H=>Zc H R λa H=>Zj (Zk ?_))
   exact ⟨_,ois bw,au,H.s,I⟩
  intro bv X
  refine s_4 (Zu (Zu (YE ?_)))
  obtain rfl:=bu _ (ois X)
  refine Zk ?_
  have I:=M.fst (l:=[_,_]) I.pl2.pl2
  exact ⟨W,H.s,I⟩
 rintro a w ⟨ar,H,I⟩
 refine ZA (s_2 (Zb (Zc H R λa H=>Ze ?_)))
 obtain ⟨cb,a7,a8⟩:=p_1 bt
 refine ZV (λa w=>∃ ah : Value,Env 106 a [(4,ah)] ∧ M (Old x) x w [osl NoB cb ah]) ?_ ?_
 ·refine p_2 ?_
  refine ZP (λ(O : Int × List xC) a w=>∃ T : Value,Env 106 a [(1,ptr K 0),(4,T),(10,vI O.1)] ∧ M (Old x) x w [raw K (cV b d e y),osl NoB O.2 T]) a7 ⟨ar,H.s,I⟩ ?_
  rintro O a w ⟨T,H,I⟩ dp G a9
  unfold V4 at G
  refine s_2 (Zb (Zd H R λa H=>Zm H R (Ye) λa H=>ZB (v:=d) H R Xr R (at_2 I.ra0) λa H=>Yu H R o_3 (I.rd f) λa H=>Zn H R R R λa H=>Ze ?_))
  refine c_if H R G ?_ ?_
  ·intro ba G
   refine u_2 (ZA ?_)
   obtain ⟨cc,bb,bc⟩:=p_1 G
   refine ZI (λa w=>∃ ai : Value,Env 106 a [(1,ptr K 0),(4,ai),(10,vI O.1)] ∧ M (Old x) x w [raw K (cV b d e y),osl NoB cc ai]) ?_ ?_
   ·refine p_2 ?_
    obtain ⟨cd,A,bd⟩:=p_1 bb
    refine ZI (λa w=>Env 106 a [(1,ptr K 0),(4,T),(10,vI O.1),(94,vT cd)] ∧ M (Old x) x w [raw K (cV b d e y),osl NoB O.2 T]) ?_ ?_
    ·obtain ⟨cf,ad,A⟩:=bix A
     obtain ⟨de,be,bg⟩:=Y2 f ad.2 -- ^
     obtain ⟨cg,ch,rfl,ci,cj⟩:=Yl be -- ^
     obtain ⟨cl,cm,A⟩:=p_1 A
     obtain ⟨ap,ae,A⟩:=bix A
     obtain ⟨dg,bh,bi⟩:=Y2 f ae.2 -- ^
     obtain ⟨cn,co,rfl,dq,dr⟩:=Yl bh -- ^
     refine Z9 [81,82,83,84,85,86,87,88,89,90,91,92,93,94] Yx R R dd_ R H I (qsP (λz=>Zx z.E Za ld R ZG R (z.M.ra0) cq (kr0 R)) (qsP (λz=>Zi z.E Za ld R (Ye) (kr0 R)) (qsP (λz=>Zz (v:=d) z.E Za ld R Xr R (at_2 (z.M.ra0)) (kr0 R)) (q_m (λ_=>R) (qsP (λz=>Z6 z.E Za ld R R o_3 Yk (z.M.rd f) ad.1 (kr0 R)) (qsP (λz=>Zx z.E Za ld R Yk R (z.M.atk bg (XM f ad.2)) cq (kr0 R)) (qsP (λz=>Z8 z.E Za ld R Zck (Ks _ y b (z.M.rdo Y) d (z.M.rdo f) e (z.M.rdo C) cf cg (z.M.rdo ci) ch (z.M.rdo cj) cl cm) (kc R)) (qsP (λz=>Zi z.E Za ld R (Ye) (kr0 R)) (qsP (λz=>Zz (v:=d) z.E Za ld R Xr R (at_2 (z.M.ra0)) (kr0 R)) (q_m (λ_=>R) (qsP (λz=>Z6 z.E Za ld R R o_3 Yk (z.M.rd f) ae.1 (kr0 R)) (qsP (λz=>Zi z.E Za ld R (Qg) (kr0 R)) (qsP (λz=>Zx z.E Za ld R ZW R (at_5 (z.M.atk bi (XM f ae.2))) (u_1 _) (kr0 R)) (qsP (λz=>Jx z.E Za ld R R (XX t_4 ty5 R false R dd_ (Xp u_3)) dd_ (by kernel_rfl) (kr0 R)) qs0)))))))))))))) ?_
     ·intro a w u H I
      refine Zj ?_
      obtain rfl:=o_1 A
      refine Zk ?_
      exact ⟨H.s,I⟩
    rintro a w ⟨H,I⟩
    obtain ⟨cp,q,bj⟩:=p_1 bd
    refine ZV (λa w=>∃ aj : Value,Env 106 a [(1,ptr K 0),(4,aj),(10,vI O.1)] ∧ M (Old x) x w [raw K (cV b d e y),osl NoB cp aj]) ?_ ?_
    ·refine c_if H R q ?_ ?_
     ·intro bk q
      refine t_1 (Zd H R λa H=>Zm H R (Ye) λa H=>ZB (v:=d) H R Xr R (at_2 I.ra0) λa H=>Zd H R λa H=>?_)
      obtain ⟨ak,af,q⟩:=bix q
      refine Yp H R R o_3 Yk (I.rd f) af.1 λa H=>Zm H R (VC) λa H=>?_
      obtain ⟨dh,bl,bm⟩:=Y2 f af.2 -- ^
      obtain ⟨ds,dt,rfl,du,dv⟩:=Yl bl -- ^
      refine ZB (v:=(vI ak.Number)) H R ty2 R (at_0 (I.atk bm (XM f af.2))) λa H=>ZM (xs:=[.const (vI 3),.tmp 101]) (l:=([3,ak.Number] : List Int)) (vs:=[vI 3,vI ak.Number]) H I Za ld R R t_3 ty2 R dd_ R λa3 w a I H=>?_
      have bn:=Z5 (I.sl0)
      have I:=I.pack1 (it:=own NoB ([3,ak.Number] : List Int) ([a3])) (Wa noB) (λf0 q0=>(X5.sat q0))
      refine KR (xs:=[.tmp 102]) (seg:=[a3]) H I noB Za ld R bn u_5 Bh R dd_ λdw w a I H=>?_
      obtain ⟨dx,cr,q⟩:=p_1 q
      obtain ⟨ct,rfl⟩:=ZU cr
      have I:=I.pl2
      refine Q4 H I noB Za ld R R u_5 Bh R dd_ ct λcu w a I H=>Zc H R λa H=>Zj ?_
      obtain rfl:=o_1 q
      refine Zk ?_
      have I:=I.pl1
      exact ⟨cu,H.s,I⟩
     intro bk q
     refine u_2 ?_
     obtain rfl:=o_1 q
     refine Zk ?_
     exact ⟨T,H.s,I⟩
    rintro a w ⟨aj,H,I⟩
    refine Yy ?_
    obtain rfl:=o_1 bj
    refine Zk ?_
    exact ⟨aj,H.s,I⟩
   rintro a w ⟨ai,H,I⟩
   refine t_1 (Zd H R λa H=>Zn H R R R λa H=>Zc H R λa H=>Zj (Zk ?_))
   exact ⟨_,ois bc,ai,H.s,I⟩
  intro ba G
  refine s_4 (Zu (Zu (YE ?_)))
  obtain rfl:=a9 _ (ois G)
  refine Zk ?_
  have I:=M.fst (l:=[_]) I.pl1
  exact ⟨T,H.s,I⟩
 rintro a w ⟨ah,H,I⟩
 refine ZA (Zb (Zd H R λa H=>Zc H R λa H=>Zc H R λa H=>Ze ?_))
 obtain rfl:=o_1 a8
 exact p_3 (Yq H R (Zy H R) (Zy H R) ⟨_,R,ah,R,I.outF (ZK Yd),I.kept⟩)
def XG (h : GVault) (i : GRecord → Option (Bool)) (b : Int × List Int) : Option (Fl (Int × List Int) (List Int)) :=
 if decide (b.1 < (h.Records.length : Int)) then (((idx h.Records b.1).bind λc=>((i c)).bind λd=>(if d then ((app 8 b.2 ([c.Number] : List Int)).bind λj=>some (b.2 ++ ([c.Number] : List Int))) else (some b.2) : Option ((List Int))).bind λe=>some e : Option ((List Int))).bind λf=>some (Fl.nx (wr (b.1 + 1),f))) else (some (Fl.ex b.2))
def XW (b : GVault) (c : GRecord → Option (Bool)) : Option ((List Int)) :=
 (ZQ (XG b c) (0,([] : List Int))).bind λd=>some d
theorem KP (h : World) (q : GVault) (j : Value) (Y : Ro h q.Keys [j]) (b : Value) (e : Ro h q.Records [b]) (k : Value) (Z : Ro h q.Events [k]) (p1 : GRecord → Option (Bool)) (z : Nat) (q1 : List Value) (B : Callable prog z) (aa : ∀ (A : World),Kept (Old h) h A → ∀ (X : GRecord) (C : Value) (_ : Ro A X.Label [C]) (E : Value) (_ : Ro A X.Body [E]) (zr : Bool),p1 X = some zr → Calls prog z ([vcR C E X] ++ q1).toArray A (λen w3=>∃ v,en = .returned v ∧ (v = (vT zr) ∧ Kept (Old A) A w3))) (r : List Int) (J : XW q p1 = some r) :
  Calls prog 166 [vcV j b k q,Value.func (.func z) #[] q1.toArray].toArray h (e_r λv w'=>(∃ y1 : Value,v = y1 ∧ Fr h w' [osl NoB r y1] ∧ Kept (Old h) h w')):=by
 refine ce func166 ?_
 intro a H
 have I:=M.start h
 unfold XW at J
 refine Zb (Z1 (cs:=cV j b k q) H I Za ld R R λb1 w a I H=>Zc H R λa H=>Ze (Zb (ZM (xs:=[]) (l:=([] : List Int)) (vs:=[]) H I Za ld R R t_3 ty2 R dd_ R λu3 w a I H=>Zc H R λa H=>Ze (s_2 (Zb (Zm H R (Ye) λa H=>ZB (v:=b) H R Xr R (at_2 I.ra1) λa H=>Yu H R o_3 (I.rd e) λa H=>Zd H R λa H=>Ze ?_))))))
 obtain ⟨j5,ab,ac⟩:=p_1 J
 refine ZV (λa w=>∃ u8 : Value,Env 26 a [(5,u8)] ∧ M (Old h) h w [osl NoB j5 u8]) ?_ ?_
 ·refine p_2 ?_
  have I:=M.fst (l:=[_]) I
  refine ZP (λ(m : Int × List Int) a w=>∃ n : Value,Env 26 a [(1,Value.func (.func z) #[] q1.toArray),(5,n),(10,b),(11,vI (q.Records.length : Int)),(12,vI m.1)] ∧ M (Old h) h w [osl NoB m.2 n]) ab ⟨u3,H.s,I⟩ ?_
  rintro m a w ⟨n,H,I⟩ aq d F
  unfold XG at d
  refine Zb (Zn H R R R λa H=>Ze (s_2 ?_))
  refine c_if H R d ?_ ?_
  ·intro G d
   refine u_2 (ZA ?_)
   obtain ⟨ad,i,K⟩:=p_1 d
   refine ZI (λa w=>∃ t : Value,Env 26 a [(1,Value.func (.func z) #[] q1.toArray),(5,t),(10,b),(11,vI (q.Records.length : Int)),(12,vI m.1)] ∧ M (Old h) h w [osl NoB ad t]) ?_ ?_
   ·refine p_2 (Zb ?_)
    obtain ⟨f,o,i⟩:=bix i
    refine Yp H R R o_3 Yk (I.rd e) o.1 λa H=>?_
    obtain ⟨am,L,N⟩:=Y2 e o.2 -- ^
    obtain ⟨u,x,rfl,O,T⟩:=Yl L -- ^
    refine Zq H R Yk R (I.atk N (XM e o.2)) cq λa H=>Zv H I Yk λar w a I H=>Zl (seg:=cR u x f) (cs':=cR u x f) H I Za R R R Yk cq (q_1 cq cq) (ZD (cc1 (s_1 (f.Number : Int)) (cc1 (s_1 (f.Version : Int)) (cc1 (s_1 _) (cc1 (t_2 (I.rd O)) (cc1 (t_2 (I.rd T)) (cc1 (s_1 _) cc0))))))) (q_2 cq cq) λw a I H=>Ze (Zb (Zd H R λa H=>Zq H R Yk R I.ra0 cq λa H=>?_))
    obtain ⟨ae,af,i⟩:=p_1 i
    refine kD (vs:=[vcR u x f]) H Za ld R R B (aa _ I.kept f u (I.rdo O) x (I.rdo T) ae af) ?_
    rintro v w a ⟨rfl,hK⟩ H
    have I:=I.keep hK
    refine Ze ?_
    obtain ⟨ag,c,U⟩:=p_1 i
    refine ZV (λa w=>∃ y : Value,Env 26 a [(1,Value.func (.func z) #[] q1.toArray),(5,y),(10,b),(11,vI (q.Records.length : Int)),(12,vI m.1)] ∧ M (Old h) h w [osl NoB ag y]) ?_ ?_
    ·refine c_if H R c ?_ ?_
     ·intro W c
      refine t_1 (Zd H R λa H=>Zm H R (VC) λa H=>ZB (v:=(vI f.Number)) H R ty2 R (at_0 I.ra0) λa H=>ZM (xs:=[.tmp 21]) (l:=([f.Number] : List Int)) (vs:=[vI f.Number]) H I Za ld R R t_3 ty2 R dd_ R λau w a I H=>?_)
      obtain ⟨av,ah,c⟩:=p_1 c
      obtain ⟨ai,rfl⟩:=ZU ah
      have I:=I.pl2
      refine ZX H I Za ld R R (I.sl1) t_3 ty2 R dd_ ai λaj w a I H=>Zc H R λa H=>Zj ?_
      obtain rfl:=o_1 c
      refine Zk ?_
      have I:=M.fst (l:=[_]) I
      exact ⟨aj,H.s,I⟩
     intro W c
     refine u_2 ?_
     obtain rfl:=o_1 c
     refine Zk ?_
     have I:=M.fst (l:=[_]) I.pl1
     exact ⟨n,H.s,I⟩
    rintro a w ⟨y,H,I⟩
    refine Yy ?_
    obtain rfl:=o_1 U
    refine Zk ?_
    exact ⟨y,H.s,I⟩
   rintro a w ⟨t,H,I⟩
   refine t_1 (Zn H R R R λa H=>Zd H R λa H=>Zj (Zk ?_))
   exact ⟨_,ois K,t,H.s,I⟩
  intro G d
  refine s_4 (Zu (Zu (YE ?_)))
  obtain rfl:=F _ (ois d)
  refine Zk ?_
  exact ⟨n,H.s,I⟩
 rintro a w ⟨u8,H,I⟩
 refine ZA (Zb (Zd H R λa H=>Zc H R λa H=>Ze ?_))
 obtain rfl:=o_1 ac
 exact p_3 (ZY H R (Zy H R) ⟨_,R,u8,R,I.outF (ZK Yd),I.kept⟩)
def VI (b : GRecord) (c : GVault) : Option (Bool) :=
 ((Yb c.Keys).bind λd=>some (b.Version != (wr (d - 1))) : Option (Bool)).bind λe=>some e
theorem Am (c : World) (i : GRecord) (d : Value) (o : Ro c i.Label [d]) (e : Value) (q : Ro c i.Body [e]) (j : Nat) (n : GVault) (b : Value) (k : Ro c n.Keys [b]) (f : Value) (t : Ro c n.Records [f]) (h : Value) (x : Ro c n.Events [h]) (y : At c j 0 (cV b f h n)) (A : Old c j) (r : Bool) (J : VI i n = some r) :
  Calls prog 167 [vcR d e i,ptr j 0].toArray c (Rt c (vT r)):=by
 refine ce func167 ?_
 intro a H
 have I:=M.start c
 unfold VI at J
 refine Zb (Z1 (cs:=cR d e i) H I Za ld R R λK w a I H=>Zc H R λa H=>Ze ?_)
 obtain ⟨F,m,B⟩:=p_1 J
 refine ZI (λa w=>Env 11 a [(3,vT F)] ∧ M (Old c) c w []) ?_ ?_
 ·obtain ⟨C,G,m⟩:=p_1 m
  refine Z9 [4,5,6,7,8,9,10,3] Yx R R dd_ R H I (qsP (λz=>Zi z.E Za ld R (TB) (kr0 R)) (qsP (λz=>Zz (v:=(vI i.Version)) z.E Za ld R ty2 R (at_1 (z.M.ra0)) (kr0 R)) (qsP (λz=>Zi z.E Za ld R (Xw) (kr0 R)) (qsP (λz=>Zz (v:=b) z.E Za ld R TF R (at_0 (z.M.atk y A)) (kr0 R)) (qsP (λz=>Z8 z.E Za ld R zW (YJ _ n.Keys b (z.M.rdo k) C G) (kc R)) (qsP (v:=(vI (wr (C - 1)))) (λz=>Yc z.E Za ld R R R (kr0 R)) (qsP (λz=>Yc z.E Za ld R R R (kr0 R)) (qsP (λz=>Qs z.E Za ld R (kr0 R)) qs0)))))))) ?_
  ·intro a w u H I
   refine Zj ?_
   obtain rfl:=o_1 m
   refine Zk ?_
   have I:=M.fst (l:=[]) I
   exact ⟨H.s,I⟩
 rintro a w ⟨H,I⟩
 obtain rfl:=o_1 B
 exact p_3 (kr1 H R R I.kept)
def Vz (b : GVault) : Option (List Int × Int) :=
 (Wx b).bind λc=>if !c then (some ([],1)) else ((XW b (λd=>VI d b)).bind λe=>some (e,0))
theorem Hn (k : World) (j : GVault) (b : Value) (e : Ro k j.Keys [b]) (c : Value) (f : Ro k j.Records [c]) (d : Value) (h : Ro k j.Events [d]) (r : List Int × Int) (J : Vz j = some r) :
  Calls prog 67 [vcV b c d j].toArray k (e_r λv w'=>(∃ x : Value,v = (Value.tuple [x,vI r.2].toArray) ∧ Fr k w' [osl NoB r.1 x] ∧ Kept (Old k) k w')):=by
 refine ce func67 ?_
 intro a H
 have I:=M.start k
 unfold Vz at J
 refine Zb (Z1 (cs:=cV b c d j) H I Za ld R R λy w a I H=>Zc H R λa H=>Zc H R λa H=>Ze (s_2 (Zb (Zq H R ZG R I.ra0 cq λa H=>?_))))
 obtain ⟨z,A,J⟩:=p_1 J
 refine c_k H I R cb48 (QJ _ j b (I.rdo e) c (I.rdo f) d (I.rdo h) z A) λw a I H=>?_
 refine Kp H R λa H=>Ze ?_
 refine c_if H R J ?_ ?_
 ·intro t J
  refine Zb (Zc H R λa H=>Zc H R λa H=>Ze ?_)
  have I:=M.nilS (α:=Int) NoB noB I
  obtain rfl:=o_1 J
  have I:=M.fst (l:=[_]) I
  exact p_3 (ZJ (Yq H R (Zy H R) (Zy H R) ⟨_,R,xd,R,I.outF (ZK Yd),I.kept⟩))
 intro t J
 refine u_2 (ZA (Zb (Zq H R ZG R I.ra0 cq λa H=>HQ H Za ld R λa H=>?_)))
 obtain ⟨B,C,J⟩:=p_1 J
 refine Zp H R (cbm func166) (KP _ j b (I.rdo e) c (I.rdo f) d (I.rdo h) (λu=>VI u j) 167 [ptr y 0] (cbm func167) (λE i u m n o q zr zhr=>Am E u m n o q y j b (J9 (I.rdo e) i) c (J9 (I.rdo f) i) d (J9 (I.rdo h) i) (BG I.ra0 i (by simp [cat])) (Jp I.ra0 i (by simp [cat])) zr zhr) B C) ?_
 rintro F w a ⟨_,rfl,hFr,hK⟩ H
 have I:=I.add hK hFr
 refine Zc H R λa H=>Zc H R λa H=>Ze ?_
 obtain rfl:=o_1 J
 have I:=M.fst (l:=[_]) I
 exact p_3 (Yq H R (Zy H R) (Zy H R) ⟨_,R,F,R,I.outF (ZK Yd),I.kept⟩)
def WY (d : GVault) (b : List Int × Int) : Option (Fl (List Int × Int) (List Int)) :=
 if decide (b.2 < (d.Records.length : Int)) then ((((idx d.Records b.2).bind λe=>some (e.Version != (wr ((d.Keys.length : Int) - 1))) : Option (Bool)).bind λf=>(if f then ((idx d.Records b.2).bind λc=>(app 8 b.1 ([c.Number] : List Int)).bind λj=>some (b.1 ++ ([c.Number] : List Int))) else (some b.1) : Option ((List Int))).bind λh=>some h : Option ((List Int))).bind λi=>some (Fl.nx (i,wr (b.2 + 1)))) else (some (Fl.ex b.1))
def UF (b : GVault) : Option (List Int × Int) :=
 (X9 b).bind λc=>if !c then (some ([],1)) else ((ZQ (WY b) (([] : List Int),0)).bind λd=>some (d,0))
theorem zI (i : World) (j : GVault) (b : Value) (n : Ro i j.Keys [b]) (c : Value) (d : Ro i j.Records [c]) (f : Value) (C : Ro i j.Events [f]) (r : List Int × Int) (J : UF j = some r) :
  Calls prog 68 [vcV b c f j].toArray i (e_r λv w'=>(∃ y1 : Value,v = (Value.tuple [y1,vI r.2].toArray) ∧ Fr i w' [osl NoB r.1 y1] ∧ Kept (Old i) i w')):=by
 refine ce func68 ?_
 intro a H
 have I:=M.start i
 unfold UF at J
 refine Zb (Z1 (cs:=cV b c f j) H I Za ld R R λB w a I H=>Zc H R λa H=>Zc H R λa H=>Ze (s_2 (Zb (Zq H R ZG R I.ra0 cq λa H=>?_))))
 obtain ⟨r3,e4,J⟩:=p_1 J
 refine c_k H I R yN (UG _ j b (I.rdo n) c (I.rdo d) f (I.rdo C) r3 e4) λw a I H=>?_
 refine Kp H R λa H=>Ze ?_
 refine c_if H R J ?_ ?_
 ·intro ad J
  refine Zb (Zc H R λa H=>Zc H R λa H=>Ze ?_)
  have I:=M.nilS (α:=Int) NoB noB I
  obtain rfl:=o_1 J
  have I:=M.fst (l:=[_]) I
  exact p_3 (ZJ (Yq H R (Zy H R) (Zy H R) ⟨_,R,xd,R,I.outF (ZK Yd),I.kept⟩))
 intro ad J
 refine u_2 (ZA (Zb (ZM (xs:=[]) (l:=([] : List Int)) (vs:=[]) H I Za ld R R t_3 ty2 R dd_ R λu7 w a I H=>Zc H R λa H=>Ze (s_2 (Zb (Zc H R λa H=>Ze ?_))))))
 obtain ⟨j9,G,K⟩:=p_1 J
 refine ZV (λa w=>∃ x : Value,Env 38 a [(4,x)] ∧ M (Old i) i w [osl NoB j9 x]) ?_ ?_
 ·refine p_2 ?_
  have I:=I.pl1
  refine ZP (λ(k : List Int × Int) a w=>∃ m : Value,Env 38 a [(1,ptr B 0),(4,m),(5,vI k.2)] ∧ M (Old i) i w [raw B (cV b c f j),osl NoB k.1 m]) G ⟨u7,H.s,I⟩ ?_
  rintro k a w ⟨m,H,I⟩ ar h L
  unfold WY at h
  refine s_2 (Zb (Zd H R λa H=>Zm H R (Ye) λa H=>ZB (v:=c) H R Xr R (at_2 I.ra0) λa H=>Yu H R o_3 (I.rd d) λa H=>Zn H R R R λa H=>Ze ?_))
  refine c_if H R h ?_ ?_
  ·intro N h
   refine u_2 (ZA ?_)
   obtain ⟨ae,O,T⟩:=p_1 h
   refine ZI (λa w=>∃ y : Value,Env 38 a [(1,ptr B 0),(4,y),(5,vI k.2)] ∧ M (Old i) i w [raw B (cV b c f j),osl NoB ae y]) ?_ ?_
   ·refine p_2 ?_
    obtain ⟨af,o,U⟩:=p_1 O
    refine ZI (λa w=>Env 38 a [(1,ptr B 0),(4,m),(5,vI k.2),(27,vT af)] ∧ M (Old i) i w [raw B (cV b c f j),osl NoB k.1 m]) ?_ ?_
    ·obtain ⟨W,q,o⟩:=bix o
     obtain ⟨al,X,Y⟩:=Y2 d q.2 -- ^
     obtain ⟨au,av,rfl,aw,ax⟩:=Yl X -- ^
     refine Z9 [17,18,19,20,21,22,23,24,25,26,27] Yx R R dd_ R H I (qsP (λz=>Zi z.E Za ld R (Ye) (kr0 R)) (qsP (λz=>Zz (v:=c) z.E Za ld R Xr R (at_2 (z.M.ra0)) (kr0 R)) (q_m (λ_=>R) (qsP (λz=>Z6 z.E Za ld R R o_3 Yk (z.M.rd d) q.1 (kr0 R)) (qsP (λz=>Zi z.E Za ld R (TB) (kr0 R)) (qsP (λz=>Zz (v:=(vI W.Version)) z.E Za ld R ty2 R (at_1 (z.M.atk Y (XM d q.2))) (kr0 R)) (qsP (λz=>Zi z.E Za ld R (Xw) (kr0 R)) (qsP (λz=>Zz (v:=b) z.E Za ld R TF R (at_0 (z.M.ra0)) (kr0 R)) (qsP (λz=>W2 z.E Za ld R s_3 (z.M.rd n) (kr0 R)) (qsP (v:=(vI (wr ((j.Keys.length : Int) - 1)))) (λz=>Yc z.E Za ld R R R (kr0 R)) (qsP (λz=>Yc z.E Za ld R R R (kr0 R)) qs0))))))))))) ?_
     ·intro a w u H I
      refine Zj ?_
      obtain rfl:=o_1 o
      refine Zk ?_
      exact ⟨H.s,I⟩
    rintro a w ⟨H,I⟩
    obtain ⟨ag,e,Z⟩:=p_1 U
    refine ZV (λa w=>∃ A : Value,Env 38 a [(1,ptr B 0),(4,A),(5,vI k.2)] ∧ M (Old i) i w [raw B (cV b c f j),osl NoB ag A]) ?_ ?_
    ·refine c_if H R e ?_ ?_
     ·intro aa e
      refine t_1 (Zd H R λa H=>Zm H R (Ye) λa H=>ZB (v:=c) H R Xr R (at_2 I.ra0) λa H=>Zd H R λa H=>?_)
      obtain ⟨F,t,e⟩:=bix e
      refine Yp H R R o_3 Yk (I.rd d) t.1 λa H=>Zm H R (VC) λa H=>?_
      obtain ⟨am,ab,ac⟩:=Y2 d t.2 -- ^
      obtain ⟨ay,az,rfl,a0,a1⟩:=Yl ab -- ^
      refine ZB (v:=(vI F.Number)) H R ty2 R (at_0 (I.atk ac (XM d t.2))) λa H=>ZM (xs:=[.tmp 34]) (l:=([F.Number] : List Int)) (vs:=[vI F.Number]) H I Za ld R R t_3 ty2 R dd_ R λa2 w a I H=>?_
      obtain ⟨a3,ah,e⟩:=p_1 e
      obtain ⟨ai,rfl⟩:=ZU ah
      have I:=I.pl2
      refine ZX H I Za ld R R (I.sl1) t_3 ty2 R dd_ ai λaj w a I H=>Zc H R λa H=>Zj ?_
      obtain rfl:=o_1 e
      refine Zk ?_
      have I:=M.fst (l:=[_,_]) I.pl2
      exact ⟨aj,H.s,I⟩
     intro aa e
     refine u_2 ?_
     obtain rfl:=o_1 e
     refine Zk ?_
     exact ⟨m,H.s,I⟩
    rintro a w ⟨A,H,I⟩
    refine Yy ?_
    obtain rfl:=o_1 Z
    refine Zk ?_
    exact ⟨A,H.s,I⟩
   rintro a w ⟨y,H,I⟩
   refine t_1 (Zd H R λa H=>Zn H R R R λa H=>Zc H R λa H=>Zj (Zk ?_))
   exact ⟨_,ois T,y,H.s,I⟩
  intro N h
  refine s_4 (Zu (Zu (YE ?_)))
  obtain rfl:=L _ (ois h)
  refine Zk ?_
  have I:=M.fst (l:=[_]) I.pl1
  exact ⟨m,H.s,I⟩
 rintro a w ⟨x,H,I⟩
 refine ZA (Zb (Zd H R λa H=>Zc H R λa H=>Zc H R λa H=>Ze ?_))
 obtain rfl:=o_1 K
 exact p_3 (Yq H R (Zy H R) (Zy H R) ⟨_,R,x,R,I.outF (ZK Yd),I.kept⟩)
def XY (f : List UInt8) : Option (GVault × List UInt8) :=
 (X6 f).bind λj=>(WL f (j.1,j.2)).bind λd=>(ZO f (d.1.1,d.1.2) 20).bind λe=>if e.2 == 0 then (((mkS 1 (0 : UInt8) 33).bind λh=>some (d.2.Keys,d.2.Next,d.2.Records,d.2.Events,d.2.Head,h) : Option (List V16 × Int × List GRecord × List GEvent × V32 × List UInt8)).bind λb=>some ((⟨b.1,b.2.1,b.2.2.1,b.2.2.2.1,b.2.2.2.2.1⟩ : GVault),b.2.2.2.2.2)) else (((Uu f (e.1.1,e.1.2)).bind λi=>some (d.2.Keys,d.2.Next,d.2.Records,d.2.Events,d.2.Head,i.2) : Option (List V16 × Int × List GRecord × List GEvent × V32 × List UInt8)).bind λc=>some ((⟨c.1,c.2.1,c.2.2.1,c.2.2.2.1,c.2.2.2.2.1⟩ : GVault),c.2.2.2.2.2))
theorem Ha (K : World) (p0 : List UInt8) (b : Value) (o : Ro K p0 [b]) (r : GVault × List UInt8) (J : XY p0 = some r) :
  Calls prog 69 [b].toArray K (e_r λv w'=>(∃ y1 y2 y3 y4 : Value,v = (Value.tuple [vcV y1 y2 y3 r.1,y4].toArray) ∧ Fr K w' [osl NoB r.1.Keys y1,osl NoB r.1.Records y2,osl NoB r.1.Events y3,osl NoB r.2 y4] ∧ Kept (Old K) K w')):=by
 refine ce func69 ?_
 intro a H
 have I:=M.start K
 unfold XY at J
 refine Zb (Zv H I ZG λL w a I H=>Zc H R λa H=>Ze (Zb (Zd H R λa H=>?_)))
 have I:=M.tailP (m:=[]) I
 obtain ⟨r3,e4,J⟩:=p_1 J
 refine Zp H R cb77 (Tp _ _ _ _ p0 b o I r3 e4) ?_
 rintro v w a ⟨B,rfl,I⟩ H
 have I:=M.tailU (m:=[_]) I
 simp only [List.cons_append,List.nil_append] at I
 refine Zc H R λa H=>Ze (Zb (Zd H R λa H=>?_))
 have I:=M.tailP (m:=[_]) I
 obtain ⟨h,e8,J⟩:=p_1 J
 refine Zp H R Ze8 (Kw _ _ _ _ B p0 b o (r3.1,r3.2) I h e8) ?_
 rintro v w a ⟨q,d,e,rfl,I⟩ H
 have I:=M.tailU (m:=[_,_,_,_]) I
 simp only [List.cons_append,List.nil_append] at I
 refine Zv H I ZG λN w a I H=>Zl (seg:=cV q d e h.2) (cs':=cV q d e h.2) H I Za R R R ZG cq (q_1 cq cq) (ZD (cc1 (t_2 (I.sl2)) (cc1 (s_1 (h.2.Next : Int)) (cc1 (t_2 (I.sl3)) (cc1 (t_2 (I.sl4)) (cc1 (s_1 _) cc0)))))) (q_2 cq cq) λw a I H=>Ze (s_2 (Zb (Zd H R λa H=>?_)))
 have I:=M.tailP (m:=[_]) I.pl1
 obtain ⟨n,al,J⟩:=p_1 J
 refine Zp H R Kc (ZT _ _ _ _ B p0 b o (h.1.1,h.1.2) 20 I n al) ?_
 rintro v w a ⟨rfl,I⟩ H
 have I:=M.tailU (m:=[_]) I
 simp only [List.cons_append,List.nil_append] at I
 refine Zn H R R R λa H=>Ze ?_
 refine c_if H R J ?_ ?_
 ·intro ad J
  obtain ⟨y,C,ae⟩:=p_1 J
  refine ZI (λa w=>∃ O T U W : Value,Env 18 a [(2,ptr L 0),(3,W)] ∧ M (Old K) K w [raw L (cat [[O],[vI y.2.1],[T],[U],enc y.2.2.2.2.1]),osl NoB y.1 O,osl NoB y.2.2.1 T,osl NoB y.2.2.2.1 U,osl NoB y.2.2.2.2.2 W]) ?_ ?_
  ·have I:=I.pl5
   obtain ⟨af,am,C⟩:=p_1 C
   refine Ys (its:=[raw B (cat [[b],[vI n.1.1],[Value.int .u64 n.1.2]]),raw N (cV q d e h.2),osl NoB h.2.Keys q,osl NoB h.2.Records d,osl NoB h.2.Events e]) (mk:=([mkT 2 (raw L xh) (raw L (cV q d e h.2)),mkO 1 (λv=>osl NoB af v)] : Mk)) [13,14,20] Yx R R dd_ R H (λu=>M.qT (M.qE (M.q0 I.drew u) emO)) (qsP (v:=(vcV q d e h.2)) ?_ (q_t ?_ (q_t ?_ qs0))) ?_
   ·intro a w t D z
    have H:=z.E
    have hD : D 0 = false:=z.F
    have I:=z.M.togA (pre:=[_,_,_,_,_]) (VE (j:=2) (k:=0) z.c R R R hD)
    exact Zq H R ZG R I.ra1 cq λa H=>⟨p_5 _ _,_,R,H⟩
   ·intro a w t D z
    have H:=z.E
    have hD : D 1 = false:=z.F
    have I:=z.M
    exact Zey H I Za ld R R o_2 ty5 R dd_ (λ_=>Jq.2 ⟨R,R⟩) am λaw w a I H=>⟨_,_,R,H,M.qFill (mk1:=[_]) (mk2:=[]) (f:=(λv=>osl NoB af v)) I R hD,trivial⟩
   ·intro a w t D z
    have H:=z.E
    have hD : D 2 = false:=z.F
    have I:=(z.M.togA (pre:=[_,_,_,_,_]) hD).pl5
    exact Zl (seg:=cV q d e h.2) (cs':=cV q d e h.2) H I Za R R R ZG cq (q_1 cq cq) (ZD (cc1 (t_2 (I.sl3)) (cc1 (s_1 (h.2.Next : Int)) (cc1 (t_2 (I.sl4)) (cc1 (t_2 (I.sl5)) (cc1 (s_1 _) cc0)))))) (q_2 cq cq) λw a I H=>⟨undef,_,R,Env.dummy H dd_,M.qTog (mk1:=[]) (mk2:=[_]) I R,trivial⟩
   intro a w t D H I hG x
   have d1:=x 1 dd_
   have d2:=x 2 dd_
   have I:=(I.togB (pre:=[_,_,_,_,_]) d2).sure (pre:=[_,_,_,_,_,_]) d1
   refine Zc H R λa H=>Zj ?_
   obtain rfl:=o_1 C
   refine Zk ?_
   have I:=M.fst (l:=[_,_,_,_,_]) I.pl6.pl5.pl5.pl5.pl6
   exact ⟨q,d,e,t 1,H.s,I⟩
  rintro a w ⟨O,T,U,W,H,I⟩
  obtain rfl:=o_1 ae
  have ag : Z7 prog _ _ (.cell 2 79) _:=ZE H R ZG R I.ra0 cq R
  have I:=M.fst (l:=[_,_,_,_]) I.pl4.pl4.pl4.pl4
  exact p_3 (ZJ (Yq H R ag (Zy H R) ⟨_,R,O,T,U,W,R,I.outF (ZK (ZK (ZK (ZK Yd)))),I.kept⟩))
 intro ad J
 refine u_2 (ZA ?_)
 obtain ⟨A,G,ah⟩:=p_1 J
 refine ZI (λa w=>∃ X Y Z aa : Value,Env 18 a [(2,ptr L 0),(3,aa)] ∧ M (Old K) K w [raw L (cat [[X],[vI A.2.1],[Y],[Z],enc A.2.2.2.2.1]),osl NoB A.1 X,osl NoB A.2.2.1 Y,osl NoB A.2.2.2.1 Z,osl NoB A.2.2.2.2.2 aa]) ?_ ?_
 ·obtain ⟨i,an,G⟩:=p_1 G
  refine Ys (its:=[raw N (cV q d e h.2),osl NoB h.2.Keys q,osl NoB h.2.Records d,osl NoB h.2.Events e,raw L xh]) (mk:=([([2],λbs _=>(tog (bs.getD 0 false) (raw B (cat [[b],[vI n.1.1],[Value.int .u64 n.1.2]])) (raw B (cat [[b],[vI i.1.1],[Value.int .u64 i.1.2]])))),mkO 2 (λv=>osl NoB i.2 v)] : Mk)) [15,16,17] Yx R R dd_ R H (λu=>M.qS (M.qE (M.q0 I.drew u) emO) λ_=>R) (qsP (λz=>Zx z.E Za ld R ZG R (z.M.ra0) cq (kr0 R)) (q_m (λ_=>R) (q_t ?_ qs0))) ?_
  ·intro a w ab D z
   have H:=z.E
   have hD : D 2 = false:=z.F
   have I:=M.tailP (m:=[_]) ((z.M.togA (pre:=[_,_,_,_,_]) hD).pl5)
   refine Zp H R (cbm func147) (Bd _ _ _ _ B p0 b o (n.1.1,n.1.2) I i an) ?_
   rintro ay w a ⟨_,rfl,I⟩ H
   have I:=M.tailU (m:=[_,_]) I
   simp only [List.cons_append,List.nil_append] at I
   have I:=I.pl6.pl6.pl6.pl6.pl6.pl6
   exact ⟨_,_,R,H,M.qUnconst (p:=([2],λbs _=>(tog (bs.getD 0 false) (raw B (cat [[b],[vI n.1.1],[Value.int .u64 n.1.2]])) (raw B (cat [[b],[vI i.1.1],[Value.int .u64 i.1.2]]))))) (its:=[raw N (cV q d e h.2),osl NoB h.2.Keys q,osl NoB h.2.Records d,osl NoB h.2.Events e,raw L xh]) (mk1:=([] : Mk)) (mk2:=([mkO 2 (λv=>osl NoB i.2 v)] : Mk)) (M.qFill (its:=[raw N (cV q d e h.2),osl NoB h.2.Keys q,osl NoB h.2.Records d,osl NoB h.2.Events e,raw L xh]) (mk1:=([([],λ_ _=>raw B (cat [[b],[vI i.1.1],[Value.int .u64 i.1.2]]))] : Mk)) (mk2:=([] : Mk)) (f:=(λv=>osl NoB i.2 v)) I R hD) (by show tog (Xu D 2 2) (raw B (cat [[b],[vI n.1.1],[Value.int .u64 n.1.2]])) (raw B (cat [[b],[vI i.1.1],[Value.int .u64 i.1.2]])) = _; rw [tg1 A6]),trivial⟩
  intro a w ab D H I hG x
  have d2:=x 2 dd_
  have I:=((I.togB (pre:=[_,_,_,_,_]) d2).sure (pre:=[_,_,_,_,_,_]) d2).pl4
  refine Zl (seg:=cV q d e h.2) (cs':=cV q d e h.2) H I Za R R R ZG cq (q_1 cq cq) (ZD (cc1 (t_2 (I.sl2)) (cc1 (s_1 (h.2.Next : Int)) (cc1 (t_2 (I.sl3)) (cc1 (t_2 (I.sl4)) (cc1 (s_1 _) cc0)))))) (q_2 cq cq) λw a I H=>Zc H R λa H=>Zj ?_
  obtain rfl:=o_1 G
  refine Zk ?_
  have I:=M.fst (l:=[_,_,_,_,_]) I.pl6.pl5.pl5.pl5.pl4
  exact ⟨q,d,e,ab 2,H.s,I⟩
 rintro a w ⟨X,Y,Z,aa,H,I⟩
 obtain rfl:=o_1 ah
 have ai : Z7 prog _ _ (.cell 2 79) _:=ZE H R ZG R I.ra0 cq R
 have I:=M.fst (l:=[_,_,_,_]) I.pl4.pl4.pl4.pl4
 exact p_3 (Yq H R ai (Zy H R) ⟨_,R,X,Y,Z,aa,R,I.outF (ZK (ZK (ZK (ZK Yd)))),I.kept⟩)
def Kk (b : List UInt8) (c : List UInt8) : Option (Bool) :=
 some (decide ((⟨b⟩ : Str) = (⟨c⟩ : Str)))
theorem qn (f : World) (h : List UInt8) (b : Value) (d : Ro f h [b]) (i : List UInt8) (c : Value) (e : Ro f i [c]) (r : Bool) (J : Kk h i = some r) :
  Calls prog 169 [b,c].toArray f (Rt f (vT r)):=by
 refine ce func169 ?_
 intro a H
 have I:=M.start f
 unfold Kk at J
 refine Zb (Zc H R λa H=>Ze (Zb (Zd H R λa H=>kr H Za ld R o_2 u_3 underlying9 (I.rd d) λa H=>Zd H R λa H=>kr H Za ld R o_2 u_3 underlying9 (I.rd e) λa H=>s_eqS H Za ld R R λa H=>Zc H R λa H=>Ze ?_)))
 obtain rfl:=o_1 J
 exact p_3 (kr1 H R R I.kept)
def Wj (b : GRecord) (c : List UInt8) : Option (Bool) :=
 (Kk b.Label c).bind λd=>some d
theorem HH (f : World) (e : GRecord) (b : Value) (h : Ro f e.Label [b]) (d : Value) (k : Ro f e.Body [d]) (i : Nat) (l : List UInt8) (c : Value) (j : Ro f l [c]) (m : At f i 0 ([c])) (n : Old f i) (r : Bool) (J : Wj e l = some r) :
  Calls prog 168 [vcR b d e,ptr i 0].toArray f (Rt f (vT r)):=by
 refine ce func168 ?_
 intro a H
 have I:=M.start f
 unfold Wj at J
 refine Zb (Z1 (cs:=cR b d e) H I Za ld R R λt w a I H=>Zc H R λa H=>Ze (Zb (Zm H R (Ka) λa H=>ZB (v:=b) H R Wo R (at_3 I.ra0) λa H=>ZB (v:=c) H R Wo R (I.atk m n) λa H=>?_)))
 obtain ⟨o,q,J⟩:=p_1 J
 refine c_k H I R (cbm func169) (qn _ e.Label b (I.rdo h) l c (I.rdo j) o q) λw a I H=>?_
 refine Zc H R λa H=>Ze ?_
 obtain rfl:=o_1 J
 exact p_3 (kr1 H R R I.kept)
def WV (c : GVault) (d : List UInt8) : Option (List Int × Int) :=
 (Wx c).bind λe=>if !e then (some ([],1)) else (if decide ((d.length : Int) > 32) then (some ([],2)) else ((XW c (λf=>Wj f d)).bind λb=>some (b,0)))
theorem Bp (k : World) (m : GVault) (b : Value) (h : Ro k m.Keys [b]) (c : Value) (i : Ro k m.Records [c]) (d : Value) (j : Ro k m.Events [d]) (x : List UInt8) (e : Value) (f : Ro k x [e]) (r : List Int × Int) (J : WV m x = some r) :
  Calls prog 70 [vcV b c d m,e].toArray k (e_r λv w'=>(∃ F : Value,v = (Value.tuple [F,vI r.2].toArray) ∧ Fr k w' [osl NoB r.1 F] ∧ Kept (Old k) k w')):=by
 refine ce func70 ?_
 intro a H
 have I:=M.start k
 unfold WV at J
 refine Zb (Z1 (cs:=cV b c d m) H I Za ld R R λO w a I H=>Z1 (cs:=[e]) H I Za ld R (Z5 (I.rd f)) λG w a I H=>Zc H R λa H=>Zc H R λa H=>Ze (s_2 (p_2 (Zb (Zq H R ZG R I.ra1 cq λa H=>?_)))))
 obtain ⟨K,L,J⟩:=p_1 J
 refine c_k H I R cb48 (QJ _ m b (I.rdo h) c (I.rdo i) d (I.rdo j) K L) λw a I H=>?_
 refine Kp H R λa H=>Zc H R λa H=>Ze ?_
 refine c_if H R J ?_ ?_
 ·intro y J
  refine Zb (Zc H R λa H=>Zc H R λa H=>Ze ?_)
  have I:=M.nilS (α:=Int) NoB noB I
  obtain rfl:=o_1 J
  have I:=M.fst (l:=[_]) I
  exact p_3 (Xa (ZJ (Yq H R (Zy H R) (Zy H R) ⟨_,R,xd,R,I.outF (ZK Yd),I.kept⟩)))
 intro y J
 refine Zb (ZB (v:=e) H R Wo R I.ra0 λa H=>Yu H R o_2 (I.rd f) λa H=>Zn H R R R λa H=>Zc H R λa H=>Ze ?_)
 refine c_if H R J ?_ ?_
 ·intro z J
  refine Zb (Zc H R λa H=>Zc H R λa H=>Ze ?_)
  have I:=M.nilS (α:=Int) NoB noB I
  obtain rfl:=o_1 J
  have I:=M.fst (l:=[_]) I
  exact p_3 (Xa (ZJ (Yq H R (Zy H R) (Zy H R) ⟨_,R,xd,R,I.outF (ZK Yd),I.kept⟩)))
 intro z J
 refine u_2 (Yy (ZA (Zb (Zq H R ZG R I.ra1 cq λa H=>HQ H Za ld R λa H=>?_))))
 obtain ⟨A,B,J⟩:=p_1 J
 refine Zp H R (cbm func166) (KP _ m b (I.rdo h) c (I.rdo i) d (I.rdo j) (λC=>Wj C x) 168 [ptr G 0] (cbm func168) (λN n C o q t u zr zhr=>HH N C o q t u G x e (J9 (I.rdo f) n) (BG I.ra0 n (by simp [cat])) (Jp I.ra0 n (by simp [cat])) zr zhr) A B) ?_
 rintro E w a ⟨_,rfl,hFr,hK⟩ H
 have I:=I.add hK hFr
 refine Zc H R λa H=>Zc H R λa H=>Ze ?_
 obtain rfl:=o_1 J
 have I:=M.fst (l:=[_]) I
 exact p_3 (Yq H R (Zy H R) (Zy H R) ⟨_,R,E,R,I.outF (ZK Yd),I.kept⟩)
def V8 (f : List UInt8) (h : List UInt8) (b : Int) : Option (Fl Int (Fl Unit Bool)) :=
 if decide (b < (f.length : Int)) then (((idx f b).bind λc=>(idx h b).bind λd=>some (c != d) : Option (Bool)).bind λe=>if e then (some (Fl.ex (Fl.ex false))) else (some (Fl.nx (wr (b + 1))))) else (some (Fl.ex (Fl.nx ())))
def TR (b : List UInt8) (c : List UInt8) : Option (Bool) :=
 if (b.length : Int) != (c.length : Int) then (some false) else ((ZQ (V8 b c) 0).bind λd=>d.el (λe=>some true) (λr=>some r))
theorem y7 (j : World) (F : List UInt8) (f : Value) (b : Ro j F [f]) (G : List UInt8) (h : Value) (e : Ro j G [h]) (r : Bool) (J : TR F G = some r) :
  Calls prog 170 [f,h].toArray j (Rt j (vT r)):=by
 refine ce func170 ?_
 intro a H
 have I:=M.start j
 unfold TR at J
 refine Zb (Zc H R λa H=>Ze (s_2 (Zb (Zd H R λa H=>Yu H R o_2 (I.rd b) λa H=>Zd H R λa H=>Yu H R o_2 (I.rd e) λa H=>Zn H R R R λa H=>Ze ?_))))
 refine c_if H R J ?_ ?_
 ·intro y J
  refine Zb (Zc H R λa H=>Ze ?_)
  obtain rfl:=o_1 J
  exact p_3 (ZJ (kr1 H R R I.kept))
 intro y J
 refine u_2 (ZA (s_2 (Zb (Zc H R λa H=>Ze ?_))))
 obtain ⟨L,A,k⟩:=p_1 J
 refine ZV (λa w=>∃ K : Unit,L = Fl.nx K ∧ Env 26 a [] ∧ M (Old j) j w []) ?_ ?_
 ·refine p_2 ?_
  refine ZP (λ(B : Int) a w=>Env 26 a [(0,f),(1,h),(5,vI B)] ∧ M (Old j) j w []) A ⟨H.s,I⟩ ?_
  rintro B a w ⟨H,I⟩ N i n
  unfold V8 at i
  refine s_2 (Zb (Zd H R λa H=>Zd H R λa H=>Yu H R o_2 (I.rd b) λa H=>Zn H R R R λa H=>Ze ?_))
  refine c_if H R i ?_ ?_
  ·intro o i
   refine u_2 (ZA (s_2 (p_2 ?_)))
   obtain ⟨C,c,d⟩:=p_1 i
   refine ZI (λa w=>Env 26 a [(0,f),(1,h),(5,vI B),(25,vT C)] ∧ M (Old j) j w []) ?_ ?_
   ·obtain ⟨q,l,c⟩:=bix c
    obtain ⟨t,m,c⟩:=bix c
    refine Z9 [17,18,19,20,21,22,23,24,25] Yx R R dd_ R H I (q_m (λ_=>R) (q_m (λ_=>R) (qsP (λz=>Z6 z.E Za ld R R o_2 ty5 (z.M.rd b) l.1 (kr0 R)) (qsP (λz=>Zz (v:=(vB q)) z.E Za ld R ty5 R (YG (z.M.rd b) l.2) (kr0 R)) (q_m (λ_=>R) (q_m (λ_=>R) (qsP (λz=>Z6 z.E Za ld R R o_2 ty5 (z.M.rd e) m.1 (kr0 R)) (qsP (λz=>Zz (v:=(vB t)) z.E Za ld R ty5 R (YG (z.M.rd e) m.2) (kr0 R)) (qsP (λz=>Yc z.E Za ld R R (Zeu q t) (kr0 R)) qs0))))))))) ?_
    ·intro a w u H I
     refine Zj ?_
     obtain rfl:=o_1 c
     refine Zk ?_
     exact ⟨H.s,I⟩
   rintro a w ⟨H,I⟩
   refine c_if H R d ?_ ?_
   ·intro x d
    refine Zb (Zc H R λa H=>Ze ?_)
    obtain rfl:=n _ (ois d)
    obtain rfl:=o_1 k
    exact p_3 (Xa (ZJ (ZJ (Xa (ZJ (ZJ (kr1 H R R I.kept)))))))
   intro x d
   refine u_2 (Yy (ZA (t_1 (Zd H R λa H=>Zn H R R R λa H=>Zc H R λa H=>Zj (Zk ?_)))))
   exact ⟨_,ois d,H.s,I⟩
  intro o i
  refine s_4 (Zu (Zu (YE ?_)))
  obtain rfl:=n _ (ois i)
  refine Zk ?_
  exact ⟨(),R,H.sub trivial,I⟩
 rintro a w ⟨K,ht,H,I⟩
 subst ht
 have k:=KT k
 refine ZA (Zb (Zc H R λa H=>Ze ?_))
 obtain rfl:=o_1 k
 exact p_3 (kr1 H R R I.kept)
def XR (d : GVault) (j : List UInt8) (b : List Int × Int) : Option (Fl (List Int × Int) (List Int)) :=
 if decide (b.2 < (d.Records.length : Int)) then (((idx d.Records b.2).bind λe=>(TR e.Label j).bind λf=>(if f then ((idx d.Records b.2).bind λc=>(app 8 b.1 ([c.Number] : List Int)).bind λk=>some (b.1 ++ ([c.Number] : List Int))) else (some b.1) : Option ((List Int))).bind λh=>some h : Option ((List Int))).bind λi=>some (Fl.nx (i,wr (b.2 + 1)))) else (some (Fl.ex b.1))
def WQ (c : GVault) (d : List UInt8) : Option (List Int × Int) :=
 (X9 c).bind λe=>if !e then (some ([],1)) else (if decide ((d.length : Int) > 32) then (some ([],2)) else ((ZQ (XR c d) (([] : List Int),0)).bind λb=>some (b,0)))
theorem Br (j : World) (m : GVault) (c : Value) (B : Ro j m.Keys [c]) (d : Value) (b : Ro j m.Records [d]) (f : Value) (C : Ro j m.Events [f]) (p1 : List UInt8) (h : Value) (n : Ro j p1 [h]) (r : List Int × Int) (J : WQ m p1 = some r) :
  Calls prog 71 [vcV c d f m,h].toArray j (e_r λv w'=>(∃ y1 : Value,v = (Value.tuple [y1,vI r.2].toArray) ∧ Fr j w' [osl NoB r.1 y1] ∧ Kept (Old j) j w')):=by
 refine ce func71 ?_
 intro a H
 have I:=M.start j
 unfold WQ at J
 refine Zb (Z1 (cs:=cV c d f m) H I Za ld R R λF w a I H=>Zc H R λa H=>Zc H R λa H=>Ze (s_2 (p_2 (Zb (Zq H R ZG R I.ra0 cq λa H=>?_)))))
 obtain ⟨r3,e4,J⟩:=p_1 J
 refine c_k H I R yN (UG _ m c (I.rdo B) d (I.rdo b) f (I.rdo C) r3 e4) λw a I H=>?_
 refine Kp H R λa H=>Zc H R λa H=>Ze ?_
 refine c_if H R J ?_ ?_
 ·intro ac J
  refine Zb (Zc H R λa H=>Zc H R λa H=>Ze ?_)
  have I:=M.nilS (α:=Int) NoB noB I
  obtain rfl:=o_1 J
  have I:=M.fst (l:=[_]) I
  exact p_3 (Xa (ZJ (Yq H R (Zy H R) (Zy H R) ⟨_,R,xd,R,I.outF (ZK Yd),I.kept⟩)))
 intro ac J
 refine Zb (Zd H R λa H=>Yu H R o_2 (I.rd n) λa H=>Zn H R R R λa H=>Zc H R λa H=>Ze ?_)
 refine c_if H R J ?_ ?_
 ·intro ad J
  refine Zb (Zc H R λa H=>Zc H R λa H=>Ze ?_)
  have I:=M.nilS (α:=Int) NoB noB I
  obtain rfl:=o_1 J
  have I:=M.fst (l:=[_]) I
  exact p_3 (Xa (ZJ (Yq H R (Zy H R) (Zy H R) ⟨_,R,xd,R,I.outF (ZK Yd),I.kept⟩)))
 intro ad J
 refine u_2 (Yy (ZA (Zb (ZM (xs:=[]) (l:=([] : List Int)) (vs:=[]) H I Za ld R R t_3 ty2 R dd_ R λu9 w a I H=>Zc H R λa H=>Ze (s_2 (Zb (Zc H R λa H=>Ze ?_)))))))
 obtain ⟨ae,G,K⟩:=p_1 J
 refine ZV (λa w=>∃ x : Value,Env 42 a [(6,x)] ∧ M (Old j) j w [osl NoB ae x]) ?_ ?_
 ·refine p_2 ?_
  have I:=I.pl1
  refine ZP (λ(o : List Int × Int) a w=>∃ q : Value,Env 42 a [(1,h),(2,ptr F 0),(6,q),(7,vI o.2)] ∧ M (Old j) j w [raw F (cV c d f m),osl NoB o.1 q]) G ⟨u9,H.s,I⟩ ?_
  rintro o a w ⟨q,H,I⟩ av i L
  unfold XR at i
  refine s_2 (Zb (Zd H R λa H=>Zm H R (Ye) λa H=>ZB (v:=d) H R Xr R (at_2 I.ra0) λa H=>Yu H R o_3 (I.rd b) λa H=>Zn H R R R λa H=>Ze ?_))
  refine c_if H R i ?_ ?_
  ·intro N i
   refine u_2 (ZA ?_)
   obtain ⟨af,k,O⟩:=p_1 i
   refine ZI (λa w=>∃ y : Value,Env 42 a [(1,h),(2,ptr F 0),(6,y),(7,vI o.2)] ∧ M (Old j) j w [raw F (cV c d f m),osl NoB af y]) ?_ ?_
   ·refine p_2 (Zb (Zm H R (Ye) λa H=>ZB (v:=d) H R Xr R (at_2 I.ra0) λa H=>Zd H R λa H=>?_))
    obtain ⟨z,t,k⟩:=bix k
    refine Yp H R R o_3 Yk (I.rd b) t.1 λa H=>Zm H R (Ka) λa H=>?_
    obtain ⟨ao,T,U⟩:=Y2 b t.2 -- ^
    obtain ⟨W,aw,rfl,ag,ax⟩:=Yl T -- ^
    refine ZB (v:=W) H R Wo R (at_3 (I.atk U (XM b t.2))) λa H=>Zd H R λa H=>?_
    obtain ⟨ah,ai,k⟩:=p_1 k
    refine c_k H I R (cbm func170) (y7 _ z.Label W (I.rdo ag) p1 h (I.rdo n) ah ai) λw a I H=>?_
    refine Ze ?_
    obtain ⟨aj,e,X⟩:=p_1 k
    refine ZV (λa w=>∃ A : Value,Env 42 a [(1,h),(2,ptr F 0),(6,A),(7,vI o.2)] ∧ M (Old j) j w [raw F (cV c d f m),osl NoB aj A]) ?_ ?_
    ·refine c_if H R e ?_ ?_
     ·intro Y e
      refine t_1 (Zd H R λa H=>Zm H R (Ye) λa H=>ZB (v:=d) H R Xr R (at_2 I.ra0) λa H=>Zd H R λa H=>?_)
      obtain ⟨E,u,e⟩:=bix e
      refine Yp H R R o_3 Yk (I.rd b) u.1 λa H=>Zm H R (VC) λa H=>?_
      obtain ⟨ap,Z,aa⟩:=Y2 b u.2 -- ^
      obtain ⟨ay,az,rfl,a0,a1⟩:=Yl Z -- ^
      refine ZB (v:=(vI E.Number)) H R ty2 R (at_0 (I.atk aa (XM b u.2))) λa H=>ZM (xs:=[.tmp 38]) (l:=([E.Number] : List Int)) (vs:=[vI E.Number]) H I Za ld R R t_3 ty2 R dd_ R λa2 w a I H=>?_
      obtain ⟨a3,ak,e⟩:=p_1 e
      obtain ⟨al,rfl⟩:=ZU ak
      have I:=I.pl2
      refine ZX H I Za ld R R (I.sl1) t_3 ty2 R dd_ al λam w a I H=>Zc H R λa H=>Zj ?_
      obtain rfl:=o_1 e
      refine Zk ?_
      have I:=M.fst (l:=[_,_]) I.pl2
      exact ⟨am,H.s,I⟩
     intro Y e
     refine u_2 ?_
     obtain rfl:=o_1 e
     refine Zk ?_
     exact ⟨q,H.s,I⟩
    rintro a w ⟨A,H,I⟩
    refine Yy ?_
    obtain rfl:=o_1 X
    refine Zk ?_
    exact ⟨A,H.s,I⟩
   rintro a w ⟨y,H,I⟩
   refine t_1 (Zd H R λa H=>Zn H R R R λa H=>Zc H R λa H=>Zj (Zk ?_))
   exact ⟨_,ois O,y,H.s,I⟩
  intro N i
  refine s_4 (Zu (Zu (YE ?_)))
  obtain rfl:=L _ (ois i)
  refine Zk ?_
  have I:=M.fst (l:=[_]) I.pl1
  exact ⟨q,H.s,I⟩
 rintro a w ⟨x,H,I⟩
 refine ZA (Zb (Zd H R λa H=>Zc H R λa H=>Zc H R λa H=>Ze ?_))
 obtain rfl:=o_1 K
 exact p_3 (Yq H R (Zy H R) (Zy H R) ⟨_,R,x,R,I.outF (ZK Yd),I.kept⟩)
def Um (d : List UInt8) (b : V32 × Int) : Option (Fl (V32 × Int) V32) :=
 if decide (b.2 < 32) then ((idx d b.2).bind λc=>(Z4 b.1 b.2).bind λe=>some (Fl.nx ((b.1.setIfInBounds (b.2).toNat c),wr (b.2 + 1)))) else (some (Fl.ex b.1))
def W7 (b : List UInt8) (f : (Int × Int)) : Option ((Int × Int) × V32) :=
 (YI b (f.1,f.2)).bind λc=>(YI b (c.1.1,c.1.2)).bind λd=>(Wv ([c.2,d.2] : List V16)).bind λh=>(ZQ (Um h) ((Vector.replicate 32 (0 : UInt8)),0)).bind λe=>some ((d.1.1,d.1.2),e)
theorem BC (St : Nat → Prop) (W L : World) (F : Item) (d : Nat) (f : List UInt8) (c : Value) (i : Rep.sat St W f [c] []) (u : xw) (I : M St W L [raw d (cat [[c],[vI u.1],[Value.int .u64 u.2]]),F]) (r : xw × V32) (J : W7 f u = some r) :
  Calls prog 171 [ptr d 0].toArray L (e_r λv w'=>(v = (Value.agg (enc r.2).toArray) ∧ M St W w' [raw d (cat [[c],[vI r.1.1],[Value.int .u64 r.1.2]]),F])):=by
 refine ce func171 ?_
 intro a H
 unfold W7 at J
 refine Zb (Zv H I ZW λG w a I H=>Ze (Zb (Y6 (parts:=[]) (vs:=[]) (cs:=enc xb) H Za ld R R ZW R ty5 YO λa H=>Zd H R λa H=>?_)))
 have I:=M.tailP (m:=[_]) I.pl1
 obtain ⟨t,O,J⟩:=p_1 J
 refine Zp H R yW (Xy _ _ _ _ d f c i (u.1,u.2) I t O) ?_
 rintro v w a ⟨rfl,I⟩ H
 have I:=M.tailU (m:=[_]) I
 simp only [List.cons_append,List.nil_append] at I
 refine Zd H R λa H=>?_
 have I:=M.tailP (m:=[_]) I
 obtain ⟨n,T,J⟩:=p_1 J
 refine Zp H R yW (Xy _ _ _ _ d f c i (t.1.1,t.1.2) I n T) ?_
 rintro v w a ⟨rfl,I⟩ H
 have I:=M.tailU (m:=[_]) I
 simp only [List.cons_append,List.nil_append] at I
 refine ZM (xs:=[.tmp 8,.tmp 10]) (l:=([t.2,n.2] : List V16)) (vs:=[Value.agg (enc t.2).toArray,Value.agg (enc n.2).toArray]) H I Za ld R R s_3 ZL R dd_ R λU w a I H=>?_
 obtain ⟨N,K,J⟩:=p_1 J
 refine Zp H R Zh6 (JV _ ([t.2,n.2] : List V16) U (I.sl0) N K) ?_
 rintro y w a ⟨_,rfl,hFr,hK⟩ H
 have I:=I.add hK hFr
 refine Zv H I ZW λk w a I H=>Zl (seg:=enc xb) (cs':=enc xb) H I Za R R R ZW (u_1 _) (zle flq) (s_1 _) (Zh flq) λw a I H=>Zc H R λa H=>Ze (s_2 (Zb (Zc H R λa H=>Ze ?_)))
 obtain ⟨q,z,A⟩:=p_1 J
 refine ZV (λa w=>Env 24 a [(2,ptr G 0),(3,ptr k 0)] ∧ M St W w [raw k (enc q),raw d (cat [[c],[vI n.1.1],[Value.int .u64 n.1.2]]),raw G xm,F]) ?_ ?_
 ·refine p_2 ?_
  have I:=(I.pl5.pl5.pl5.pl4.pl4.pl5).drop
  refine ZP (λ(e : V32 × Int) a w=>Env 24 a [(2,ptr G 0),(3,ptr k 0),(4,y),(5,vI e.2)] ∧ M St W w [raw k (enc e.1),osl NoB N y,raw d (cat [[c],[vI n.1.1],[Value.int .u64 n.1.2]]),raw G xm,F]) z ⟨H.s,I⟩ ?_
  rintro e a w ⟨H,I⟩ X b B
  unfold Um at b
  refine s_2 (Zb (Zd H R λa H=>Zn H R R R λa H=>Ze ?_))
  refine c_if H R b ?_ ?_
  ·intro C b
   refine u_2 (ZA (s_2 (p_2 (t_1 (Zd H R λa H=>Zd H R λa H=>Zd H R λa H=>?_)))))
   obtain ⟨h,o,b⟩:=bix b
   refine Yp H R R o_2 ty5 (I.sl1) o.1 λa H=>ZB (v:=(vB h)) H R ty5 R (YG (I.sl1) o.2) λa H=>?_
   obtain ⟨Y,j,b⟩:=bvx b
   refine ZR H R R t_4 ty5 j.1 λa H=>Zl (seg:=[vB h]) (cs':=enc (e.1.setIfInBounds (e.2).toNat h)) H I Za R R R ty5 R (Yf (v:=e.1) (x:=h) j.1) (s_1 (h : UInt8)) (ZS (v:=e.1) (x:=h) j.1) λw a I H=>Zj (Yy (ZA (t_1 (Zd H R λa H=>Zn H R R R λa H=>Zc H R λa H=>Zj (Zk ?_)))))
   exact ⟨_,ois b,H.s,I⟩
  intro C b
  refine s_4 (Zu (Zu (YE ?_)))
  obtain rfl:=B _ (ois b)
  refine Zk ?_
  have I:=(I.pl4.pl4.pl4.pl3.pl4).drop
  exact ⟨H.s,I⟩
 rintro a w ⟨H,I⟩
 refine ZA (Zb (Zq H R ZW R I.ra0 (u_1 _) λa H=>?_))
 have I:=I.pl2
 refine Zl (seg:=enc q) (cs':=enc q) H I Za R R R ZW (u_1 _) (zle flq) (s_1 _) (Zh flq) λw a I H=>Ze ?_
 obtain rfl:=o_1 A
 have E : Z7 prog _ _ (.cell 2 32) _:=ZE H R ZW R I.ra0 (u_1 _) R
 have I:=((I.pl3.pl3.pl3).drop.pl2).drop
 exact p_3 (ZY H R E ⟨_,R,R,I⟩)
def W4 (f : List UInt8) (b : Int × Int × List GEvent × Int) : Option (Fl (Int × Int × List GEvent × Int) (Int × Int × List GEvent)) :=
 if decide (b.2.2.2 > 0) then ((ZO f (b.1,b.2.1) 4).bind λc=>(ZO f (c.1.1,c.1.2) 9).bind λd=>(W7 f (d.1.1,d.1.2)).bind λe=>(app 48 b.2.2.1 ([(⟨wr (1 + c.2),d.2,e.2⟩ : GEvent)] : List GEvent)).bind λh=>some (Fl.nx (e.1.1,e.1.2,b.2.2.1 ++ ([(⟨wr (1 + c.2),d.2,e.2⟩ : GEvent)] : List GEvent),wr (b.2.2.2 - 1)))) else (some (Fl.ex (b.1,b.2.1,b.2.2.1)))
def Wm (c : List UInt8) : Option ((List GEvent)) :=
 (X6 c).bind λn=>(ZO c (n.1,n.2) 4).bind λj=>(ZO c (j.1.1,j.1.2) 8).bind λk=>(ZO c (k.1.1,k.1.2) 8).bind λd=>(Xv c (d.1.1,d.1.2) ([j.2,k.2,d.2,61] : List Int)).bind λe=>(ZQ (W4 c) (e.1.1,e.1.2,([] : List GEvent),e.2)).bind λb=>((if decide ((b.2.2.length : Int) > 0) then ((ZO c (b.1,b.2.1) 16).bind λf=>some (f.1.1,f.1.2,f.2 == 0)) else (some (b.1,b.2.1,false)) : Option (Int × Int × Bool)).bind λh=>if h.2.2 then ((Xv c (h.1,h.2.1) ([0,5] : List Int)).bind λl=>(idx b.2.2 (0 : Int)).bind λi=>some (b.2.2.set ((0 : Int)).toNat (⟨l.2,i.Number,i.Tag⟩ : GEvent))) else (some b.2.2) : Option ((List GEvent))).bind λm=>some m
theorem HD (u : World) (z : List UInt8) (b : Value) (d : Ro u z [b]) (r : List GEvent) (J : Wm z = some r) :
  Calls prog 72 [b].toArray u (e_r λv w'=>(∃ y1 : Value,v = y1 ∧ Fr u w' [osl NoB r y1] ∧ Kept (Old u) u w')):=by
 refine ce func72 ?_
 intro a H
 have I:=M.start u
 unfold Wm at J
 refine Zb (Zc H R λa H=>Ze (Zb (Zd H R λa H=>?_)))
 have I:=M.tailP (m:=[]) I
 obtain ⟨Z,e2,J⟩:=p_1 J
 refine Zp H R cb77 (Tp _ _ _ _ z b d I Z e2) ?_
 rintro v w a ⟨n,rfl,I⟩ H
 have I:=M.tailU (m:=[_]) I
 simp only [List.cons_append,List.nil_append] at I
 refine Zc H R λa H=>Ze (Zb (ZM (xs:=[]) (l:=xB) (vs:=[]) H I Za ld R R p_4 Xn R dd_ R λu5 w a I H=>Zc H R λa H=>Ze (s_2 (Zb (Zd H R λa H=>Zd H R λa H=>?_)))))
 have I:=M.tailP (m:=[_]) I.pl1
 obtain ⟨K,e8,J⟩:=p_1 J
 refine Zp H R Kc (ZT _ _ _ _ n z b d (Z.1,Z.2) 4 I K e8) ?_
 rintro v w a ⟨rfl,I⟩ H
 have I:=M.tailU (m:=[_]) I
 simp only [List.cons_append,List.nil_append] at I
 refine Zd H R λa H=>?_
 have I:=M.tailP (m:=[_]) I
 obtain ⟨L,aa,J⟩:=p_1 J
 refine Zp H R Kc (ZT _ _ _ _ n z b d (K.1.1,K.1.2) 8 I L aa) ?_
 rintro v w a ⟨rfl,I⟩ H
 have I:=M.tailU (m:=[_]) I
 simp only [List.cons_append,List.nil_append] at I
 refine Zd H R λa H=>?_
 have I:=M.tailP (m:=[_]) I
 obtain ⟨x,ab,J⟩:=p_1 J
 refine Zp H R Kc (ZT _ _ _ _ n z b d (L.1.1,L.1.2) 8 I x ab) ?_
 rintro v w a ⟨rfl,I⟩ H
 have I:=M.tailU (m:=[_]) I
 simp only [List.cons_append,List.nil_append] at I
 refine ZM (xs:=[.tmp 11,.tmp 13,.tmp 15,.const (vI 61)]) (l:=([K.2,L.2,x.2,61] : List Int)) (vs:=[vI K.2,vI L.2,vI x.2,vI 61]) H I Za ld R R t_3 ty2 R dd_ R λac w a I H=>?_
 have I:=M.tailP (m:=[_,_]) I.pl1
 obtain ⟨ad,ae,J⟩:=p_1 J
 refine Zp H R yO (Vi _ _ _ _ n z b d (x.1.1,x.1.2) ([K.2,L.2,x.2,61] : List Int) ac I ad ae) ?_
 rintro v w a ⟨rfl,I⟩ H
 have I:=M.tailU (m:=[_,_]) I
 simp only [List.cons_append,List.nil_append] at I
 refine Zc H R λa H=>Ze ?_
 obtain ⟨o,N,O⟩:=p_1 J
 refine ZV (λa w=>∃ q : Value,Env 48 a [(3,ptr n 0),(4,q)] ∧ M (Old u) u w [raw n (cat [[b],[vI o.1],[Value.int .u64 o.2.1]]),osl NoB o.2.2 q]) ?_ ?_
 ·refine p_2 ?_
  have I:=M.fst (l:=[_,_]) I.pl2.pl1
  refine ZP (λ(t : Int × Int × List GEvent × Int) a w=>∃ B : Value,Env 48 a [(3,ptr n 0),(4,B),(5,vI t.2.2.2)] ∧ M (Old u) u w [raw n (cat [[b],[vI t.1],[Value.int .u64 t.2.1]]),osl NoB t.2.2.1 B]) N ⟨u5,H.s,I⟩ ?_
  rintro t a w ⟨B,H,I⟩ aw c T
  unfold W4 at c
  refine s_2 (Zb (Zd H R λa H=>Zn H R R R λa H=>Ze ?_))
  refine c_if H R c ?_ ?_
  ·intro U c
   refine u_2 (ZA (s_2 (p_2 (t_1 (Zd H R λa H=>Zd H R λa H=>?_)))))
   have I:=M.tailP (m:=[_]) I
   obtain ⟨j,af,c⟩:=p_1 c
   refine Zp H R Kc (ZT _ _ _ _ n z b d (t.1,t.2.1) 4 I j af) ?_
   rintro v w a ⟨rfl,I⟩ H
   have I:=M.tailU (m:=[_]) I
   simp only [List.cons_append,List.nil_append] at I
   refine Zn H R R R λa H=>Zd H R λa H=>?_
   have I:=M.tailP (m:=[_]) I
   obtain ⟨k,ag,c⟩:=p_1 c
   refine Zp H R Kc (ZT _ _ _ _ n z b d (j.1.1,j.1.2) 9 I k ag) ?_
   rintro v w a ⟨rfl,I⟩ H
   have I:=M.tailU (m:=[_]) I
   simp only [List.cons_append,List.nil_append] at I
   refine Zd H R λa H=>?_
   have I:=M.tailP (m:=[_]) I
   obtain ⟨y,ah,c⟩:=p_1 c
   refine Zp H R (cbm func171) (BC _ _ _ _ n z b d (k.1.1,k.1.2) I y ah) ?_
   rintro v w a ⟨rfl,I⟩ H
   have I:=M.tailU (m:=[_]) I
   simp only [List.cons_append,List.nil_append] at I
   refine Yi (parts:=[(0,.tmp 25),(1,.tmp 27),(2,.tmp 29)]) (vs:=[(0,vI (wr (1 + j.2))),(1,vI k.2),(2,Value.agg (enc y.2).toArray)]) (cs:=cat [[vI (wr (1 + j.2))],[vI k.2],enc y.2]) H Za ld R R Xn Zap (Ya (pre:=[]) (seg:=[vI 0]) (seg':=[vI (wr (1 + j.2))]) (post:=[[vI 0],enc xb]) R cl0 R R R (Ya (pre:=[[vI (wr (1 + j.2))]]) (seg:=[vI 0]) (seg':=[vI k.2]) (post:=[enc xb]) R ck R R R (Ya (pre:=[[vI (wr (1 + j.2))],[vI k.2]]) (seg:=enc xb) (seg':=enc y.2) (post:=[]) R ck (u_1 _) (u_1 _) R YF))) λa H=>ZM (xs:=[.tmp 30]) (l:=([(⟨wr (1 + j.2),k.2,y.2⟩ : GEvent)] : List GEvent)) (vs:=[Value.agg (enc (⟨wr (1 + j.2),k.2,y.2⟩ : GEvent)).toArray]) H I Za ld R R p_4 Xn R dd_ R λax w a I H=>?_
   obtain ⟨ay,ai,c⟩:=p_1 c
   obtain ⟨aj,rfl⟩:=ZU ai
   have I:=I.pl2
   refine ZX H I Za ld R R (I.sl1) p_4 Xn R dd_ aj λak w a I H=>Zc H R λa H=>Zj (Yy (ZA (t_1 (Zd H R λa H=>Zn H R R R λa H=>Zc H R λa H=>Zj (Zk ?_)))))
   have I:=M.fst (l:=[_,_]) I.pl2
   exact ⟨_,ois c,ak,H.s,I⟩
  intro U c
  refine s_4 (Zu (Zu (YE ?_)))
  obtain rfl:=T _ (ois c)
  refine Zk ?_
  exact ⟨B,H.s,I⟩
 rintro a w ⟨q,H,I⟩
 refine ZA ?_
 obtain ⟨al,W,X⟩:=p_1 O
 refine ZI (λa w=>∃ C : Value,Env 48 a [(4,C)] ∧ M (Old u) u w [osl NoB al C]) ?_ ?_
 ·obtain ⟨A,h,f⟩:=p_1 W
  refine ZI (λa w=>Env 48 a [(3,ptr n 0),(4,q),(40,vT A.2.2)] ∧ M (Old u) u w [raw n (cat [[b],[vI A.1],[Value.int .u64 A.2.1]]),osl NoB o.2.2 q]) ?_ ?_
  ·refine t_1 (Zd H R λa H=>Yu H R p_4 (I.sl1) λa H=>Zn H R R R λa H=>Zd H R λa H=>?_)
   refine Yj (decide ((o.2.2.length : Int) > 0)) (λe=>?_) (λe=>?_)
   ·have h:=Zt h e
    refine Zo H (Zg H R (lkb R e)) dd_ R λa H=>?_
    have I:=M.tailP (m:=[_]) I
    obtain ⟨am,an,h⟩:=p_1 h
    refine Z8 H (Zg H R (lkb R e)) dd_ R Kc (ZT _ _ _ _ n z b d (o.1,o.2.1) 16 I am an) ?_
    rintro v w a ⟨rfl,I⟩ H
    have I:=M.tailU (m:=[_]) I
    simp only [List.cons_append,List.nil_append] at I
    refine Yc H (Zg H R (lkb R e)) dd_ R R R λa H=>ZH H (lkb R e) R λa H=>Zj ?_
    obtain rfl:=o_1 h
    refine Zk ?_
    exact ⟨H.s,I⟩
   have h:=Zs h e
   refine k_s H e R R R λa H=>k_s H e R R R λa H=>k_s H e R R R λa H=>Z2 H (lkb R e) R λa H=>Zj ?_
   obtain rfl:=o_1 h
   refine Zk ?_
   exact ⟨H.s,I⟩
  rintro a w ⟨H,I⟩
  refine c_if H R f ?_ ?_
  ·intro Y f
   refine t_1 (Zd H R λa H=>Zd H R λa H=>ZM (xs:=[.const (vI 0),.const (vI 5)]) (l:=([0,5] : List Int)) (vs:=[vI 0,vI 5]) H I Za ld R R t_3 ty2 R dd_ R λao w a I H=>?_)
   have I:=M.tailP (m:=[_,_]) I.pl1
   obtain ⟨E,ap,f⟩:=p_1 f
   refine Zp H R yO (Vi _ _ _ _ n z b d (A.1,A.2.1) ([0,5] : List Int) ao I E ap) ?_
   rintro v w a ⟨rfl,I⟩ H
   have I:=M.tailU (m:=[_,_]) I
   simp only [List.cons_append,List.nil_append] at I
   obtain ⟨G,F,f⟩:=bix f
   refine Yp H R R p_4 Xn (I.sl2) F.1 λa H=>Zm H R (KY) λa H=>?_
   have I:=I.pl2
   refine BS (i:=(xi).toNat) (k0:=0 + 0) (seg:=[vI E.2]) (xo:=G) (xn:=(⟨E.2,G.Number,G.Tag⟩ : GEvent)) H I Za R R R ty2 R (s_1 (E.2 : Int)) F.2 (zh (m:=1) R dd_) (Ym (pre:=[]) cl0 R) λw a I H=>Zj ?_
   obtain rfl:=o_1 f
   refine Zk ?_
   have I:=M.fst (l:=[_]) I
   exact ⟨q,H.s,I⟩
  intro Y f
  refine u_2 ?_
  obtain rfl:=o_1 f
  refine Zk ?_
  have I:=M.fst (l:=[_]) I.pl1
  exact ⟨q,H.s,I⟩
 rintro a w ⟨C,H,I⟩
 refine Zb (Zd H R λa H=>Zc H R λa H=>Ze ?_)
 obtain rfl:=o_1 X
 exact p_3 (ZY H R (Zy H R) ⟨_,R,C,R,I.outF (ZK Yd),I.kept⟩)
def WS (b : GEvent) : Option (Bool) :=
 (Ti b).bind λc=>some (!c)
theorem Bm (c : World) (b : GEvent) (r : Bool) (J : WS b = some r) :
  Calls prog 172 [Value.agg (enc b).toArray].toArray c (Rt c (vT r)):=by
 refine ce func172 ?_
 intro a H
 have I:=M.start c
 unfold WS at J
 refine Zb (Z1 (cs:=cat [[vI b.Kind],[vI b.Number],enc b.Tag]) H I Za ld R R λf w a I H=>Zc H R λa H=>Ze (Zb (Zq H R Xn R I.ra0 cq λa H=>?_)))
 obtain ⟨d,e,J⟩:=p_1 J
 refine c_k H I R (cbm func159) (By _ b d e) λw a I H=>?_
 refine Kp H R λa H=>Zc H R λa H=>Ze ?_
 obtain rfl:=o_1 J
 exact p_3 (kr1 H R R I.kept)
def WE (b : List GEvent) : Option (V32 × Int) :=
 (Yn b (λd=>WS d)).bind λe=>if e then (some ((Vector.replicate 32 (0 : UInt8)),1)) else (if decide ((b.length : Int) > 60) then (some ((Vector.replicate 32 (0 : UInt8)),2)) else ((Y0).bind λf=>(Wc f b).bind λc=>some (c,0)))
theorem JC (f : World) (h : List GEvent) (c : Value) (b : Ro f h [c]) (r : V32 × Int) (J : WE h = some r) :
  Calls prog 73 [c].toArray f (Rt f (Value.tuple [Value.agg (enc r.1).toArray,vI r.2].toArray)):=by
 refine ce func73 ?_
 intro a H
 have I:=M.start f
 unfold WE at J
 refine Zb (Zv H I ZW λA w a I H=>Zc H R λa H=>Ze (s_2 (p_2 (Zb (Zd H R λa H=>?_)))))
 obtain ⟨u,x,J⟩:=p_1 J
 refine c_k H I R (cbm func157) (Wp _ h c (I.rdo b) (λi=>WS i) 172 [] (cbm func172) (λy z i zr zhr=>Bm y i zr zhr) u x) λw a I H=>?_
 refine Zc H R λa H=>Ze ?_
 refine c_if H R J ?_ ?_
 ·intro j J
  refine Zb (Y6 (parts:=[]) (vs:=[]) (cs:=enc xb) H Za ld R R ZW R ty5 YO λa H=>Zl (seg:=enc xb) (cs':=enc xb) H I Za R R R ZW (u_1 _) (zle flq) (s_1 _) (Zh flq) λw a I H=>Zc H R λa H=>Ze ?_)
  obtain rfl:=o_1 J
  have k : Z7 prog _ _ (.cell 2 32) _:=ZE H R ZW R I.ra0 (u_1 _) R
  exact p_3 (Xa (ZJ (Yq H R k (Zy H R) ⟨_,R,R,I.kept⟩)))
 intro j J
 refine Zb (Zd H R λa H=>Yu H R p_4 (I.rd b) λa H=>Zn H R R R λa H=>Zc H R λa H=>Ze ?_)
 refine c_if H R J ?_ ?_
 ·intro l J
  refine Zb (Y6 (parts:=[]) (vs:=[]) (cs:=enc xb) H Za ld R R ZW R ty5 YO λa H=>Zl (seg:=enc xb) (cs':=enc xb) H I Za R R R ZW (u_1 _) (zle flq) (s_1 _) (Zh flq) λw a I H=>Zc H R λa H=>Ze ?_)
  obtain rfl:=o_1 J
  have m : Z7 prog _ _ (.cell 2 32) _:=ZE H R ZW R I.ra0 (u_1 _) R
  exact p_3 (Xa (ZJ (Yq H R m (Zy H R) ⟨_,R,R,I.kept⟩)))
 intro l J
 refine u_2 (Yy (ZA (Zb ?_)))
 obtain ⟨t,n,J⟩:=p_1 J
 refine Zp H R kQ (Wd _  t n) ?_
 rintro o w a ⟨_,rfl,hFr,hK⟩ H
 have I:=I.add hK hFr
 refine Zd H R λa H=>?_
 obtain ⟨d,q,J⟩:=p_1 J
 refine Zp H R Zhc (KF _ t o (I.ro (pre:=[]) noB) h c (I.rdo b) d q) ?_
 rintro v w a ⟨rfl,hK⟩ H
 have I:=(I.keep hK).pl1
 refine Zl (seg:=enc d) (cs':=enc d) H I Za R R R ZW (u_1 _) (zle flq) (s_1 _) (Zh flq) λw a I H=>Zc H R λa H=>Ze ?_
 obtain rfl:=o_1 J
 have e : Z7 prog _ _ (.cell 2 32) _:=ZE H R ZW R I.ra0 (u_1 _) R
 exact p_3 (Yq H R e (Zy H R) ⟨_,R,R,I.kept⟩)
def Va (e : List GEvent) (b : Int) : Option (Fl Int (Fl Unit (V32 × Int))) :=
 if decide (b < (e.length : Int)) then ((idx e b).bind λc=>(Ux c).bind λd=>if !d then (some (Fl.ex (Fl.ex ((Vector.replicate 32 (0 : UInt8)),1)))) else (some (Fl.nx (wr (b + 1))))) else (some (Fl.ex (Fl.nx ())))
def VL (b : List GEvent) : Option (V32 × Int) :=
 (ZQ (Va b) 0).bind λd=>d.el (λe=>if decide ((b.length : Int) > 60) then (some ((Vector.replicate 32 (0 : UInt8)),2)) else ((W6 b).bind λc=>some (c,0))) (λr=>some r)
theorem Al (f : World) (u : List GEvent) (e : Value) (c : Ro f u [e]) (r : V32 × Int) (J : VL u = some r) :
  Calls prog 74 [e].toArray f (Rt f (Value.tuple [Value.agg (enc r.1).toArray,vI r.2].toArray)):=by
 refine ce func74 ?_
 intro a H
 have I:=M.start f
 unfold VL at J
 refine Zb (Zv H I ZW λt w a I H=>Zc H R λa H=>Ze (s_2 (Zb (Zc H R λa H=>Ze ?_))))
 obtain ⟨F,x,d⟩:=p_1 J
 refine ZV (λa w=>∃ C : Unit,F = Fl.nx C ∧ Env 24 a [(0,e),(2,ptr t 0)] ∧ M (Old f) f w [raw t xm]) ?_ ?_
 ·refine p_2 ?_
  refine ZP (λ(E : Int) a w=>Env 24 a [(0,e),(2,ptr t 0),(4,vI E)] ∧ M (Old f) f w [raw t xm]) x ⟨H.s,I⟩ ?_
  rintro E a w ⟨H,I⟩ G b j
  unfold Va at b
  refine s_2 (Zb (Zd H R λa H=>Zd H R λa H=>Yu H R p_4 (I.rd c) λa H=>Zn H R R R λa H=>Ze ?_))
  refine c_if H R b ?_ ?_
  ·intro k b
   refine u_2 (ZA (s_2 (p_2 (Zb (Zd H R λa H=>Zd H R λa H=>?_)))))
   obtain ⟨y,h,b⟩:=bix b
   refine Yp H R R p_4 Xn (I.rd c) h.1 λa H=>Zq H R Xn R (YG (I.rd c) h.2) cq λa H=>?_
   obtain ⟨z,A,b⟩:=p_1 b
   refine c_k H I R (cbm func173) (Be _ y z A) λw a I H=>?_
   refine Kp H R λa H=>Ze ?_
   refine c_if H R b ?_ ?_
   ·intro l b
    refine Zb (Y6 (parts:=[]) (vs:=[]) (cs:=enc xb) H Za ld R R ZW R ty5 YO λa H=>Zl (seg:=enc xb) (cs':=enc xb) H I Za R R R ZW (u_1 _) (zle flq) (s_1 _) (Zh flq) λw a I H=>Zc H R λa H=>Ze ?_)
    obtain rfl:=j _ (ois b)
    obtain rfl:=o_1 d
    have m : Z7 prog _ _ (.cell 2 32) _:=ZE H R ZW R I.ra0 (u_1 _) R
    exact p_3 (Xa (ZJ (ZJ (Xa (ZJ (ZJ (Yq H R m (Zy H R) ⟨_,R,R,I.kept⟩)))))))
   intro l b
   refine u_2 (Yy (ZA (t_1 (Zd H R λa H=>Zn H R R R λa H=>Zc H R λa H=>Zj (Zk ?_)))))
   exact ⟨_,ois b,H.s,I⟩
  intro k b
  refine s_4 (Zu (Zu (YE ?_)))
  obtain rfl:=j _ (ois b)
  refine Zk ?_
  exact ⟨(),R,H.s,I⟩
 rintro a w ⟨C,ht,H,I⟩
 subst ht
 have d:=KT d
 refine ZA (s_2 (Zb (Zd H R λa H=>Yu H R p_4 (I.rd c) λa H=>Zn H R R R λa H=>Ze ?_)))
 refine c_if H R d ?_ ?_
 ·intro n d
  refine Zb (Y6 (parts:=[]) (vs:=[]) (cs:=enc xb) H Za ld R R ZW R ty5 YO λa H=>Zl (seg:=enc xb) (cs':=enc xb) H I Za R R R ZW (u_1 _) (zle flq) (s_1 _) (Zh flq) λw a I H=>Zc H R λa H=>Ze ?_)
  obtain rfl:=o_1 d
  have o : Z7 prog _ _ (.cell 2 32) _:=ZE H R ZW R I.ra0 (u_1 _) R
  exact p_3 (ZJ (Yq H R o (Zy H R) ⟨_,R,R,I.kept⟩))
 intro n d
 refine u_2 (ZA (Zb (Zd H R λa H=>?_)))
 obtain ⟨i,B,d⟩:=p_1 d
 refine c_k H I R Ze6 (K3 _ u e (I.rdo c) i B) λw a I H=>?_
 refine Zl (seg:=enc i) (cs':=enc i) H I Za R R R ZW (u_1 _) (zle flq) (s_1 _) (Zh flq) λw a I H=>Zc H R λa H=>Ze ?_
 obtain rfl:=o_1 d
 have q : Z7 prog _ _ (.cell 2 32) _:=ZE H R ZW R I.ra0 (u_1 _) R
 exact p_3 (Yq H R q (Zy H R) ⟨_,R,R,I.kept⟩)
def Td (f : List Int) (h : List Int) (b : Int) : Option (Fl Int (Fl Unit Bool)) :=
 if decide (b < (f.length : Int)) then (((idx f b).bind λc=>(idx h b).bind λd=>some (c != d) : Option (Bool)).bind λe=>if e then (some (Fl.ex (Fl.ex false))) else (some (Fl.nx (wr (b + 1))))) else (some (Fl.ex (Fl.nx ())))
def VD (b : List Int) (c : List Int) : Option (Bool) :=
 if (b.length : Int) != (c.length : Int) then (some false) else ((ZQ (Td b c) 0).bind λd=>d.el (λe=>some true) (λr=>some r))
theorem Jv (j : World) (F : List Int) (f : Value) (b : Ro j F [f]) (G : List Int) (h : Value) (e : Ro j G [h]) (r : Bool) (J : VD F G = some r) :
  Calls prog 76 [f,h].toArray j (Rt j (vT r)):=by
 refine ce func76 ?_
 intro a H
 have I:=M.start j
 unfold VD at J
 refine Zb (Zc H R λa H=>Ze (s_2 (Zb (Zd H R λa H=>Yu H R t_3 (I.rd b) λa H=>Zd H R λa H=>Yu H R t_3 (I.rd e) λa H=>Zn H R R R λa H=>Ze ?_))))
 refine c_if H R J ?_ ?_
 ·intro t J
  refine Zb (Zc H R λa H=>Ze ?_)
  obtain rfl:=o_1 J
  exact p_3 (ZJ (kr1 H R R I.kept))
 intro t J
 refine u_2 (ZA (s_2 (Zb (Zc H R λa H=>Ze ?_))))
 obtain ⟨L,x,k⟩:=p_1 J
 refine ZV (λa w=>∃ K : Unit,L = Fl.nx K ∧ Env 26 a [] ∧ M (Old j) j w []) ?_ ?_
 ·refine p_2 ?_
  refine ZP (λ(y : Int) a w=>Env 26 a [(0,f),(1,h),(5,vI y)] ∧ M (Old j) j w []) x ⟨H.s,I⟩ ?_
  rintro y a w ⟨H,I⟩ N i n
  unfold Td at i
  refine s_2 (Zb (Zd H R λa H=>Zd H R λa H=>Yu H R t_3 (I.rd b) λa H=>Zn H R R R λa H=>Ze ?_))
  refine c_if H R i ?_ ?_
  ·intro o i
   refine u_2 (ZA (s_2 (p_2 ?_)))
   obtain ⟨A,c,d⟩:=p_1 i
   refine ZI (λa w=>Env 26 a [(0,f),(1,h),(5,vI y),(25,vT A)] ∧ M (Old j) j w []) ?_ ?_
   ·obtain ⟨B,l,c⟩:=bix c
    obtain ⟨C,m,c⟩:=bix c
    refine Z9 [17,18,19,20,21,22,23,24,25] Yx R R dd_ R H I (q_m (λ_=>R) (q_m (λ_=>R) (qsP (λz=>Z6 z.E Za ld R R t_3 ty2 (z.M.rd b) l.1 (kr0 R)) (qsP (λz=>Zz (v:=(vI B)) z.E Za ld R ty2 R (YG (z.M.rd b) l.2) (kr0 R)) (q_m (λ_=>R) (q_m (λ_=>R) (qsP (λz=>Z6 z.E Za ld R R t_3 ty2 (z.M.rd e) m.1 (kr0 R)) (qsP (λz=>Zz (v:=(vI C)) z.E Za ld R ty2 R (YG (z.M.rd e) m.2) (kr0 R)) (qsP (λz=>Yc z.E Za ld R R R (kr0 R)) qs0))))))))) ?_
    ·intro a w u H I
     refine Zj ?_
     obtain rfl:=o_1 c
     refine Zk ?_
     exact ⟨H.s,I⟩
   rintro a w ⟨H,I⟩
   refine c_if H R d ?_ ?_
   ·intro q d
    refine Zb (Zc H R λa H=>Ze ?_)
    obtain rfl:=n _ (ois d)
    obtain rfl:=o_1 k
    exact p_3 (Xa (ZJ (ZJ (Xa (ZJ (ZJ (kr1 H R R I.kept)))))))
   intro q d
   refine u_2 (Yy (ZA (t_1 (Zd H R λa H=>Zn H R R R λa H=>Zc H R λa H=>Zj (Zk ?_)))))
   exact ⟨_,ois d,H.s,I⟩
  intro o i
  refine s_4 (Zu (Zu (YE ?_)))
  obtain rfl:=n _ (ois i)
  refine Zk ?_
  exact ⟨(),R,H.sub trivial,I⟩
 rintro a w ⟨K,ht,H,I⟩
 subst ht
 have k:=KT k
 refine ZA (Zb (Zc H R λa H=>Ze ?_))
 obtain rfl:=o_1 k
 exact p_3 (kr1 H R R I.kept)
def Kj (h : (List (List Int))) (i : (List (List Int))) (b : Int) : Option (Fl Int (Fl Unit Bool)) :=
 if decide (b < (h.length : Int)) then (((idx h b).bind λc=>(idx i b).bind λd=>(VD c d).bind λe=>some (!e) : Option (Bool)).bind λf=>if f then (some (Fl.ex (Fl.ex false))) else (some (Fl.nx (wr (b + 1))))) else (some (Fl.ex (Fl.nx ())))
def KV (b : (List (List Int))) (c : (List (List Int))) : Option (Bool) :=
 if (b.length : Int) != (c.length : Int) then (some false) else ((ZQ (Kj b c) 0).bind λd=>d.el (λe=>some true) (λr=>some r))
theorem Za6 (j : World) (Y : (List xC)) (f : Value) (b : Ro j Y [f]) (Z : (List xC)) (h : Value) (d : Ro j Z [h]) (r : Bool) (J : KV Y Z = some r) :
  Calls prog 75 [f,h].toArray j (Rt j (vT r)):=by
 refine ce func75 ?_
 intro a H
 have I:=M.start j
 unfold KV at J
 refine Zb (Zc H R λa H=>Ze (s_2 (Zb (Zd H R λa H=>Yu H R u_5 (I.rd b) λa H=>Zd H R λa H=>Yu H R u_5 (I.rd d) λa H=>Zn H R R R λa H=>Ze ?_))))
 refine c_if H R J ?_ ?_
 ·intro F J
  refine Zb (Zc H R λa H=>Ze ?_)
  obtain rfl:=o_1 J
  exact p_3 (ZJ (kr1 H R R I.kept))
 intro F J
 refine u_2 (ZA (s_2 (Zb (Zc H R λa H=>Ze ?_))))
 obtain ⟨j2,G,m⟩:=p_1 J
 refine ZV (λa w=>∃ s5 : Unit,j2 = Fl.nx s5 ∧ Env 27 a [] ∧ M (Old j) j w []) ?_ ?_
 ·refine p_2 ?_
  refine ZP (λ(K : Int) a w=>Env 27 a [(0,f),(1,h),(5,vI K)] ∧ M (Old j) j w []) G ⟨H.s,I⟩ ?_
  rintro K a w ⟨H,I⟩ o9 i q
  unfold Kj at i
  refine s_2 (Zb (Zd H R λa H=>Zd H R λa H=>Yu H R u_5 (I.rd b) λa H=>Zn H R R R λa H=>Ze ?_))
  refine c_if H R i ?_ ?_
  ·intro t i
   refine u_2 (ZA (s_2 (p_2 ?_)))
   obtain ⟨L,c,e⟩:=p_1 i
   refine ZI (λa w=>Env 27 a [(0,f),(1,h),(5,vI K),(26,vT L)] ∧ M (Old j) j w []) ?_ ?_
   ·obtain ⟨N,k,c⟩:=bix c
    obtain ⟨ab,n,x⟩:=Y2 b k.2 -- ^
    obtain ⟨y,rfl⟩:=Kg n -- ^
    have O:=n -- ^
    obtain ⟨T,l,c⟩:=bix c
    obtain ⟨ac,o,A⟩:=Y2 d l.2 -- ^
    obtain ⟨B,rfl⟩:=Kg o -- ^
    have U:=o -- ^
    obtain ⟨W,X,c⟩:=p_1 c
    refine Z9 [17,18,19,20,21,22,23,24,25,26] Yx R R dd_ R H I (q_m (λ_=>R) (q_m (λ_=>R) (qsP (λz=>Z6 z.E Za ld R R u_5 Bh (z.M.rd b) k.1 (kr0 R)) (qsP (λz=>Zz (v:=y) z.E Za ld R Bh R (z.M.atk x (XM b k.2)) (kr0 R)) (q_m (λ_=>R) (q_m (λ_=>R) (qsP (λz=>Z6 z.E Za ld R R u_5 Bh (z.M.rd d) l.1 (kr0 R)) (qsP (λz=>Zz (v:=B) z.E Za ld R Bh R (z.M.atk A (XM d l.2)) (kr0 R)) (qsP (λz=>Z8 z.E Za ld R cb76 (Jv _ N y (z.M.rdo O) T B (z.M.rdo U) W X) (kc R)) (qsP (λz=>KG z.E Za ld R (kr0 R)) qs0)))))))))) ?_
    ·intro a w u H I
     refine Zj ?_
     obtain rfl:=o_1 c
     refine Zk ?_
     exact ⟨H.s,I⟩
   rintro a w ⟨H,I⟩
   refine c_if H R e ?_ ?_
   ·intro C e
    refine Zb (Zc H R λa H=>Ze ?_)
    obtain rfl:=q _ (ois e)
    obtain rfl:=o_1 m
    exact p_3 (Xa (ZJ (ZJ (Xa (ZJ (ZJ (kr1 H R R I.kept)))))))
   intro C e
   refine u_2 (Yy (ZA (t_1 (Zd H R λa H=>Zn H R R R λa H=>Zc H R λa H=>Zj (Zk ?_)))))
   exact ⟨_,ois e,H.s,I⟩
  intro t i
  refine s_4 (Zu (Zu (YE ?_)))
  obtain rfl:=q _ (ois i)
  refine Zk ?_
  exact ⟨(),R,H.sub trivial,I⟩
 rintro a w ⟨s5,ht,H,I⟩
 subst ht
 have m:=KT m
 refine ZA (Zb (Zc H R λa H=>Ze ?_))
 obtain rfl:=o_1 m
 exact p_3 (kr1 H R R I.kept)
def Un (y : List UInt8) : Option (Bool) :=
 (A1 y).bind λr1=>if r1 then (some true) else ((WR y).bind λf=>(UP f.1 f.2).bind λz=>(Vu f.1 f.2).bind λA=>(UO f.1 f.2).bind λB=>(Vp f.1 f.2).bind λC=>(Ui f.1 f.2).bind λE=>(Ua f.1 f.2).bind λF=>(if z.2 != A.2 then (some true) else ((U0 z.1 A.1).bind λab=>if !ab then (some true) else (if B.2 != C.2 then (some true) else ((U2 B.1 C.1).bind λac=>if !ac then (some true) else (if E.2 != F.2 then (some true) else (some (!decide (E.1 = F.1))))))) : Option (Bool)).bind λad=>if ad then (some false) else ((Vd y).bind λh=>(Tk h.1 h.2).bind λb=>(V7 h.1 h.2).bind λG=>(VK y).bind λe=>(TP e.1 e.2.1 e.2.2).bind λK=>(UB e.1 e.2.1 e.2.2).bind λL=>(if b.2 != G.2 then (some true) else ((U2 b.1 G.1).bind λN=>if !N then (some true) else (if K.2 != L.2 then (some true) else ((U2 K.1 L.1).bind λO=>some (!O)))) : Option (Bool)).bind λT=>if T then (some false) else ((VF y).bind λc=>(TN c).bind λi=>(T4 c).bind λj=>(Vz c).bind λk=>(UF c).bind λl=>(XY y).bind λd=>(WV d.1 d.2).bind λm=>(WQ d.1 d.2).bind λn=>(Wm y).bind λo=>(WE o).bind λq=>(VL o).bind λt=>(if i.2 != j.2 then (some true) else ((KV i.1 j.1).bind λU=>if !U then (some true) else (if k.2 != l.2 then (some true) else ((VD k.1 l.1).bind λW=>if !W then (some true) else (if m.2 != n.2 then (some true) else ((VD m.1 n.1).bind λX=>if !X then (some true) else (if q.2 != t.2 then (some true) else (some (!decide (q.1 = t.1))))))))) : Option (Bool)).bind λY=>if Y then (some false) else ((if b.2 == 0 then ((WE b.1.Events).bind λu=>(Vz b.1).bind λx=>(if u.2 != 0 then (some true) else (if x.2 != 0 then (some true) else (if !decide (u.1 = b.1.Head) then (some true) else (some ((x.1.length : Int) != (b.1.Records.length : Int))))) : Option (Bool)).bind λZ=>if Z then (some (Fl.ex false)) else (some (Fl.nx ()))) else (some (Fl.nx ())) : Option (Fl Unit Bool)).bind λaa=>aa.el (λae=>some true) (λr=>some r)))))
end

end Go.Proofs.YtfhhlkkhcoaapaaGreat
