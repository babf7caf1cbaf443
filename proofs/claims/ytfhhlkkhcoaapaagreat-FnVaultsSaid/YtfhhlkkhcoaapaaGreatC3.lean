/- The walk of what the law reaches: contracts of functions. -/
import Derived.Test.YtfhhlkkhcoaapaaGreatC2
set_option linter.unusedVariables false
set_option linter.unusedSimpArgs false
set_option maxRecDepth 20000
set_option maxHeartbeats 400000
namespace Go.Proofs.YtfhhlkkhcoaapaaGreat
open Go Go.Proofs.Tryz
open Flat (enc)
noncomputable section
theorem zn (St : Nat → Prop) (W w0 : World) (its : List Item) (p0 : (Ref xw)) (i : Value) (C : Rep.sat St W p0 [i] []) (f : Nat) (p1 : V16) (I : M St W w0 (raw f (enc p1) :: its)) (r : V16) (J : U9 p0 p1 = some r) :
  Calls prog 319 [i,Value.slice (some ⟨f,0,none⟩) 16 16].toArray w0 (e_r λv w'=>(v = (Value.tuple [].toArray) ∧ M St W w' (raw f (enc r) :: its))):=by
 refine ce func319 ?_
 intro a H
 unfold U9 at J
 refine Zb (Zc H R λa H=>Ze ?_)
 obtain ⟨j1,bh,bi⟩:=p_1 J
 refine Z7 (λa w=>Env 79 a [(1,Value.slice (some ⟨f,0,none⟩) 16 16)] ∧ M St W w (raw f (enc j1) :: its)) ?_ ?_
 ·refine p_2 ?_
  refine ZR (λ(k : V16 × Int) a w=>Env 79 a [(0,i),(1,Value.slice (some ⟨f,0,none⟩) 16 16),(4,vI k.2)] ∧ M St W w (raw f (enc k.1) :: its)) bh ⟨H.s,I⟩ ?_
  rintro k a w ⟨H,I⟩ o7 E bj
  unfold W4 at E
  refine s_2 (Zb (Zd H R λa H=>Zd H R λa H=>YE H R o_2 (Zgw I.ra0) λa H=>Zn H R R R λa H=>Ze ?_))
  refine c_if H R E ?_ ?_
  ·intro bk E
   refine u_2 (Zz (s_2 (p_2 ?_)))
   obtain ⟨t,o,av⟩:=p_1 E
   refine ZJ (λa w=>Env 79 a [(0,i),(1,Value.slice (some ⟨f,0,none⟩) 16 16),(4,vI k.2),(5,vB t.1),(6,vB t.2.1),(7,vB t.2.2.1),(8,vB t.2.2.2)] ∧ M St W w (raw f (enc k.1) :: its)) ?_ ?_
   ·obtain ⟨F,O,o⟩:=bvx o
    obtain ⟨G,T,o⟩:=bvx o
    obtain ⟨K,U,o⟩:=bvx o
    obtain ⟨L,X,o⟩:=bvx o
    refine Zhu (n:=79) (hd:=[_,_,_,_,_,_,_,_,_,_,_,_,_,_,_,_,_,_,_,_,_,_,_]) (tl:=[]) Yt R R [16,17,18,19,20,21,22,23,24,25,26,27,28,29,30,31,32,33,34,5,6,7,8] (by decide) (λw=>M St W w (raw f (enc k.1) :: its)) (λj=>([λv _=>v = (Value.slice (some ⟨f,0,none⟩) 16 16),λv _=>v = (vI k.2),λv _=>v = (ptr f (0 + (k.2).toNat * 1)),λv _=>v = (vB F),λv _=>v = (Value.slice (some ⟨f,0,none⟩) 16 16),λv _=>v = (vI k.2),λv _=>v = (vI (wr (k.2 + 1))),λv _=>v = (ptr f (0 + ((wr (k.2 + 1))).toNat * 1)),λv _=>v = (vB G),λv _=>v = (Value.slice (some ⟨f,0,none⟩) 16 16),λv _=>v = (vI k.2),λv _=>v = (vI (wr (k.2 + 2))),λv _=>v = (ptr f (0 + ((wr (k.2 + 2))).toNat * 1)),λv _=>v = (vB K),λv _=>v = (Value.slice (some ⟨f,0,none⟩) 16 16),λv _=>v = (vI k.2),λv _=>v = (vI (wr (k.2 + 3))),λv _=>v = (ptr f (0 + ((wr (k.2 + 3))).toNat * 1)),λv _=>v = (vB L),λv _=>v = (vB F),λv _=>v = (vB G),λv _=>v = (vB K),λv _=>v = (vB L)] : List (Value → World → Prop)).getD j (λ_ _=>True)) (λ_ _ h hk=>h.keep hk) (gup gu23) H I.drew (st23 ?_ ?_ ?_ ?_ ?_ ?_ ?_ ?_ ?_ ?_ ?_ ?_ ?_ ?_ ?_ ?_ ?_ ?_ ?_ ?_ ?_ ?_ ?_) ?_
    ·exact qm
    ·exact qm
    ·intro a w c H I hp
     have f0 : c 0 = (Value.slice (some ⟨f,0,none⟩) 16 16):=hp 0 _ R R
     have f1 : c 1 = (vI k.2):=hp 1 _ R R
     exact Uh H Za ld (lk R f0) (lk R f1) o_2 ty5 O.1 λa H=>kq R H R
    ·intro a w c H I hp
     have f2 : c 2 = (ptr f (0 + (k.2).toNat * 1)):=hp 0 _ R R
     exact ZB (v:=(vB F)) H (lk R f2) ty5 R (At.vec I.ra0 O.2) λa H=>kq R H R
    ·exact qm
    ·exact qm
    ·intro a w c H I hp
     have f5 : c 5 = (vI k.2):=hp 0 _ R R
     exact Zn H (lk R f5) R R λa H=>kq R H R
    ·intro a w c H I hp
     have f4 : c 4 = (Value.slice (some ⟨f,0,none⟩) 16 16):=hp 0 _ R R
     have f6 : c 6 = (vI (wr (k.2 + 1))):=hp 1 _ R R
     exact Uh H Za ld (lk R f4) (lk R f6) o_2 ty5 T.1 λa H=>kq R H R
    ·intro a w c H I hp
     have f7 : c 7 = (ptr f (0 + ((wr (k.2 + 1))).toNat * 1)):=hp 0 _ R R
     exact ZB (v:=(vB G)) H (lk R f7) ty5 R (At.vec I.ra0 T.2) λa H=>kq R H R
    ·exact qm
    ·exact qm
    ·intro a w c H I hp
     have ak : c 10 = (vI k.2):=hp 0 _ R R
     exact Zn H (lk R ak) R R λa H=>kq R H R
    ·intro a w c H I hp
     have f9 : c 9 = (Value.slice (some ⟨f,0,none⟩) 16 16):=hp 0 _ R R
     have al : c 11 = (vI (wr (k.2 + 2))):=hp 1 _ R R
     exact Uh H Za ld (lk R f9) (lk R al) o_2 ty5 U.1 λa H=>kq R H R
    ·intro a w c H I hp
     have am : c 12 = (ptr f (0 + ((wr (k.2 + 2))).toNat * 1)):=hp 0 _ R R
     exact ZB (v:=(vB K)) H (lk R am) ty5 R (At.vec I.ra0 U.2) λa H=>kq R H R
    ·exact qm
    ·exact qm
    ·intro a w c H I hp
     have an : c 15 = (vI k.2):=hp 0 _ R R
     exact Zn H (lk R an) R R λa H=>kq R H R
    ·intro a w c H I hp
     have ao : c 14 = (Value.slice (some ⟨f,0,none⟩) 16 16):=hp 0 _ R R
     have ap : c 16 = (vI (wr (k.2 + 3))):=hp 1 _ R R
     exact Uh H Za ld (lk R ao) (lk R ap) o_2 ty5 X.1 λa H=>kq R H R
    ·intro a w c H I hp
     have aq : c 17 = (ptr f (0 + ((wr (k.2 + 3))).toNat * 1)):=hp 0 _ R R
     exact ZB (v:=(vB L)) H (lk R aq) ty5 R (At.vec I.ra0 X.2) λa H=>kq R H R
    ·intro a w c H I hp
     have f3 : c 3 = (vB F):=hp 0 _ R R
     exact Zc H (lk R f3) λa H=>kq R H R
    ·intro a w c H I hp
     have f8 : c 8 = (vB G):=hp 0 _ R R
     exact Zc H (lk R f8) λa H=>kq R H R
    ·intro a w c H I hp
     have ar : c 13 = (vB K):=hp 0 _ R R
     exact Zc H (lk R ar) λa H=>kq R H R
    ·intro a w c H I hp
     have au : c 18 = (vB L):=hp 0 _ R R
     exact Zc H (lk R au) λa H=>kq R H R
    intro a w c H I hg
    have H:=H.sub (e':=[(5,vB F),(6,vB G),(7,vB K),(8,vB L),(0,i),(1,Value.slice (some ⟨f,0,none⟩) 16 16),(4,vI k.2),(10,vI k.2),(11,Value.slice (some ⟨f,0,none⟩) 16 16),(12,vI (k.1.toList.length : Int)),(13,vT (decide (k.2 < (k.1.toList.length : Int))))]) ⟨lk R (hg 19 (by decide)),lk R (hg 20 (by decide)),lk R (hg 21 (by decide)),lk R (hg 22 (by decide)),R,R,R,R,R,R,R,trivial⟩
    refine Zj ?_
    obtain rfl:=o_1 o
    refine Zm ?_
    exact ⟨H.s,I⟩
   rintro a w ⟨H,I⟩
   refine Zb (Zd H R λa H=>Ze ?_)
   obtain ⟨bv,aw,ax⟩:=p_1 av
   refine Z7 (λa w=>Env 79 a [(0,i),(1,Value.slice (some ⟨f,0,none⟩) 16 16),(4,vI k.2)] ∧ M St W w (raw f (enc bv) :: its)) ?_ ?_
   ·refine p_2 ?_
    refine ZR (λ(d : V16 × Int) a w=>Env 79 a [(0,i),(1,Value.slice (some ⟨f,0,none⟩) 16 16),(4,vI k.2),(5,vB t.1),(6,vB t.2.1),(7,vB t.2.2.1),(8,vB t.2.2.2),(35,vI d.2)] ∧ M St W w (raw f (enc d.1) :: its)) aw ⟨H.s,I⟩ ?_
    rintro d a w ⟨H,I⟩ cr e ay
    unfold W6 at e
    refine Zb (Zn H R R R λa H=>Ze (s_2 ?_))
    refine c_if H R e ?_ ?_
    ·intro az e
     refine u_2 (Zz (s_2 (p_2 (Zb (Zd H R λa H=>Zc H R λa H=>Ze ?_)))))
     obtain ⟨u,cl,a0,a1,a2,a3⟩:=QK C -- ^
     obtain ⟨rfl,_⟩:=Kj.1 a1 -- ^
     obtain ⟨cs,Y,e⟩:=bvx e
     obtain ⟨ct,Z,e⟩:=bvx e
     obtain ⟨l,aa,e⟩:=bvx e
     obtain ⟨y,cm,a4,a5,a6,a7⟩:=QK C -- ^
     obtain ⟨rfl,_⟩:=Kj.1 a5 -- ^
     obtain ⟨cu,ab,e⟩:=bvx e
     obtain ⟨cv,ac,e⟩:=bvx e
     obtain ⟨m,ad,e⟩:=bvx e
     obtain ⟨z,cn,a8,a9,ba,bb⟩:=QK C -- ^
     obtain ⟨rfl,_⟩:=Kj.1 a9 -- ^
     obtain ⟨cw,ae,e⟩:=bvx e
     obtain ⟨cx,af,e⟩:=bvx e
     obtain ⟨q,ag,e⟩:=bvx e
     obtain ⟨A,co,bc,bd,be,bg⟩:=QK C -- ^
     obtain ⟨rfl,_⟩:=Kj.1 bd -- ^
     obtain ⟨cy,ah,e⟩:=bvx e
     obtain ⟨cz,ai,e⟩:=bvx e
     obtain ⟨B,aj,e⟩:=bvx e
     obtain ⟨c0,N,e⟩:=bvx e
     refine Zhu (n:=79) (hd:=[_,_,_,_,_,_,_,_,_,_,_,_,_,_,_,_,_,_,_,_,_,_,_,_,_,_,_,_,_,_,_,_,_,_,_,_,_,_,_,_]) (tl:=[_]) Yt R R [38,39,40,41,42,43,44,45,46,47,48,49,50,51,52,53,54,55,56,57,58,59,60,61,62,63,64,65,66,67,68,69,70,71,72,73,74,75,76,77] (by decide) (λw=>M St W w (raw f (enc d.1) :: its)) (λj=>([λv _=>v = (Value.slice (some ⟨f,0,none⟩) 16 16),λv _=>v = (vI k.2),λv _=>v = (vI d.2),λv _=>v = (vI (wr (k.2 + d.2))),λv _=>v = i,λv _=>v = (vI d.2),λv _=>v = (vB t.1),λv _=>v = (ptr u 0),λv _=>v = (ptr u (0 + (d.2).toNat * 1024)),λv _=>v = (ptr u (0 + (d.2).toNat * 1024 + (xj).toNat * 256)),λv _=>v = (ptr u (0 + (d.2).toNat * 1024 + (xj).toNat * 256 + ((bI t.1)).toNat * 1)),λv _=>v = (vB l),λv _=>v = i,λv _=>v = (vI d.2),λv _=>v = (vB t.2.1),λv _=>v = (ptr y 0),λv _=>v = (ptr y (0 + (d.2).toNat * 1024)),λv _=>v = (ptr y (0 + (d.2).toNat * 1024 + ((1 : Int)).toNat * 256)),λv _=>v = (ptr y (0 + (d.2).toNat * 1024 + ((1 : Int)).toNat * 256 + ((bI t.2.1)).toNat * 1)),λv _=>v = (vB m),λv _=>v = (vB (l ^^^ m)),λv _=>v = i,λv _=>v = (vI d.2),λv _=>v = (vB t.2.2.1),λv _=>v = (ptr z 0),λv _=>v = (ptr z (0 + (d.2).toNat * 1024)),λv _=>v = (ptr z (0 + (d.2).toNat * 1024 + ((2 : Int)).toNat * 256)),λv _=>v = (ptr z (0 + (d.2).toNat * 1024 + ((2 : Int)).toNat * 256 + ((bI t.2.2.1)).toNat * 1)),λv _=>v = (vB q),λv _=>v = (vB ((l ^^^ m) ^^^ q)),λv _=>v = i,λv _=>v = (vI d.2),λv _=>v = (vB t.2.2.2),λv _=>v = (ptr A 0),λv _=>v = (ptr A (0 + (d.2).toNat * 1024)),λv _=>v = (ptr A (0 + (d.2).toNat * 1024 + ((3 : Int)).toNat * 256)),λv _=>v = (ptr A (0 + (d.2).toNat * 1024 + ((3 : Int)).toNat * 256 + ((bI t.2.2.2)).toNat * 1)),λv _=>v = (vB B),λv _=>v = (vB (((l ^^^ m) ^^^ q) ^^^ B)),λv _=>v = (ptr f (0 + ((wr (k.2 + d.2))).toNat * 1))] : List (Value → World → Prop)).getD j (λ_ _=>True)) (λ_ _ h hk=>h.keep hk) (gup (X8 (X8 (X8 (X8 (X8 (X8 (X8 (X8 (X8 (X8 (X8 (X8 (X8 (X8 (X8 (X8 (X8 (X8 (X8 (X8 (X8 (X8 (X8 (X8 (X8 (X8 (X8 (X8 (X8 (X8 (X8 (X8 (X8 (X8 (X8 (X8 (X8 (X8 (X8 (X8 gupN))))))))))))))))))))))))))))))))))))))))) H I.drew (Zbb (ZH ?_ (ZH ?_ (ZH ?_ (ZH ?_ (ZH ?_ (ZH ?_ (ZH ?_ (ZH ?_ (ZH ?_ (ZH ?_ (ZH ?_ (ZH ?_ (ZH ?_ (ZH ?_ (ZH ?_ (ZH ?_ (ZH ?_ (ZH ?_ (ZH ?_ (ZH ?_ (ZH ?_ (ZH ?_ (ZH ?_ (ZH ?_ (ZH ?_ (ZH ?_ (ZH ?_ (ZH ?_ (ZH ?_ (ZH ?_ (ZH ?_ (ZH ?_ (ZH ?_ (ZH ?_ (ZH ?_ (ZH ?_ (ZH ?_ (ZH ?_ (ZH ?_ (ZH ?_ kP))))))))))))))))))))))))))))))))))))))))) ?_
     ·exact qm
     ·exact qm
     ·exact qm
     ·intro a w b H I hp
      have f1 : b 1 = (vI k.2):=hp 0 _ R R
      have f2 : b 2 = (vI d.2):=hp 1 _ R R
      exact Zn H (lk R f1) (lk R f2) R λa H=>kq R H R
     ·exact qm
     ·exact qm
     ·exact qm
     ·intro a w b H I hp
      have f4 : b 4 = i:=hp 0 _ R R
      exact Yj H Za ld (lk (lk R f4) a0) λa H=>kq R H R
     ·intro a w b H I hp
      have f5 : b 5 = (vI d.2):=hp 1 _ R R
      have f7 : b 7 = (ptr u 0):=hp 0 _ R R
      exact ZO H (lk R f7) (lk R f5) t_6 jc Y.1 λa H=>kq R H R
     ·intro a w b H I hp
      have f8 : b 8 = (ptr u (0 + (d.2).toNat * 1024)):=hp 0 _ R R
      exact ZO H (lk R f8) R u_6 ty55 Z.1 λa H=>kq R H R
     ·intro a w b H I hp
      have f6 : b 6 = (vB t.1):=hp 1 _ R R
      have f9 : b 9 = (ptr u (0 + (d.2).toNat * 1024 + (xj).toNat * 256)):=hp 0 _ R R
      exact ZO H (lk R f9) (lk R f6) s_7 ty5 aa.1 λa H=>kq R H R
     ·intro a w b H I hp
      have ak : b 10 = (ptr u (0 + (d.2).toNat * 1024 + (xj).toNat * 256 + ((bI t.1)).toNat * 1)):=hp 0 _ R R
      exact ZB (v:=(vB l)) H (lk R ak) ty5 R (At.vec (At.vec (At.vec (I.atk a2 a3) Y.2) Z.2) aa.2) λa H=>kq R H R
     ·exact qm
     ·exact qm
     ·exact qm
     ·intro a w b H I hp
      have am : b 12 = i:=hp 0 _ R R
      exact Yj H Za ld (lk (lk R am) a4) λa H=>kq R H R
     ·intro a w b H I hp
      have ar : b 13 = (vI d.2):=hp 1 _ R R
      have an : b 15 = (ptr y 0):=hp 0 _ R R
      exact ZO H (lk R an) (lk R ar) t_6 jc ab.1 λa H=>kq R H R
     ·intro a w b H I hp
      have ap : b 16 = (ptr y (0 + (d.2).toNat * 1024)):=hp 0 _ R R
      exact ZO H (lk R ap) R u_6 ty55 ac.1 λa H=>kq R H R
     ·intro a w b H I hp
      have ao : b 14 = (vB t.2.1):=hp 1 _ R R
      have aq : b 17 = (ptr y (0 + (d.2).toNat * 1024 + ((1 : Int)).toNat * 256)):=hp 0 _ R R
      exact ZO H (lk R aq) (lk R ao) s_7 ty5 ad.1 λa H=>kq R H R
     ·intro a w b H I hp
      have au : b 18 = (ptr y (0 + (d.2).toNat * 1024 + ((1 : Int)).toNat * 256 + ((bI t.2.1)).toNat * 1)):=hp 0 _ R R
      exact ZB (v:=(vB m)) H (lk R au) ty5 R (At.vec (At.vec (At.vec (I.atk a6 a7) ab.2) ac.2) ad.2) λa H=>kq R H R
     ·intro a w b H I hp
      have al : b 11 = (vB l):=hp 0 _ R R
      have bw : b 19 = (vB m):=hp 1 _ R R
      exact Zn H (lk R al) (lk R bw) (Vs l m) λa H=>kq R H R
     ·exact qm
     ·exact qm
     ·exact qm
     ·intro a w b H I hp
      have bx : b 21 = i:=hp 0 _ R R
      exact Yj H Za ld (lk (lk R bx) a8) λa H=>kq R H R
     ·intro a w b H I hp
      have bz : b 22 = (vI d.2):=hp 1 _ R R
      have b0 : b 24 = (ptr z 0):=hp 0 _ R R
      exact ZO H (lk R b0) (lk R bz) t_6 jc ae.1 λa H=>kq R H R
     ·intro a w b H I hp
      have b1 : b 25 = (ptr z (0 + (d.2).toNat * 1024)):=hp 0 _ R R
      exact ZO H (lk R b1) R u_6 ty55 af.1 λa H=>kq R H R
     ·intro a w b H I hp
      have b2 : b 23 = (vB t.2.2.1):=hp 1 _ R R
      have b3 : b 26 = (ptr z (0 + (d.2).toNat * 1024 + ((2 : Int)).toNat * 256)):=hp 0 _ R R
      exact ZO H (lk R b3) (lk R b2) s_7 ty5 ag.1 λa H=>kq R H R
     ·intro a w b H I hp
      have b4 : b 27 = (ptr z (0 + (d.2).toNat * 1024 + ((2 : Int)).toNat * 256 + ((bI t.2.2.1)).toNat * 1)):=hp 0 _ R R
      exact ZB (v:=(vB q)) H (lk R b4) ty5 R (At.vec (At.vec (At.vec (I.atk ba bb) ae.2) af.2) ag.2) λa H=>kq R H R
     ·intro a w b H I hp
      have b5 : b 20 = (vB (l ^^^ m)):=hp 0 _ R R
      have b6 : b 28 = (vB q):=hp 1 _ R R
      exact Zn H (lk R b5) (lk R b6) (Vs (l ^^^ m) q) λa H=>kq R H R
     ·exact qm
     ·exact qm
     ·exact qm
     ·intro a w b H I hp
      have b7 : b 30 = i:=hp 0 _ R R
      exact Yj H Za ld (lk (lk R b7) bc) λa H=>kq R H R
     ·intro a w b H I hp
      have b8 : b 31 = (vI d.2):=hp 1 _ R R
      have b9 : b 33 = (ptr A 0):=hp 0 _ R R
      exact ZO H (lk R b9) (lk R b8) t_6 jc ah.1 λa H=>kq R H R
     ·intro a w b H I hp
      have ca : b 34 = (ptr A (0 + (d.2).toNat * 1024)):=hp 0 _ R R
      exact ZO H (lk R ca) R u_6 ty55 ai.1 λa H=>kq R H R
     ·intro a w b H I hp
      have cb : b 32 = (vB t.2.2.2):=hp 1 _ R R
      have cc : b 35 = (ptr A (0 + (d.2).toNat * 1024 + ((3 : Int)).toNat * 256)):=hp 0 _ R R
      exact ZO H (lk R cc) (lk R cb) s_7 ty5 aj.1 λa H=>kq R H R
     ·intro a w b H I hp
      have cd : b 36 = (ptr A (0 + (d.2).toNat * 1024 + ((3 : Int)).toNat * 256 + ((bI t.2.2.2)).toNat * 1)):=hp 0 _ R R
      exact ZB (v:=(vB B)) H (lk R cd) ty5 R (At.vec (At.vec (At.vec (I.atk be bg) ah.2) ai.2) aj.2) λa H=>kq R H R
     ·intro a w b H I hp
      have cf : b 29 = (vB ((l ^^^ m) ^^^ q)):=hp 0 _ R R
      have cg : b 37 = (vB B):=hp 1 _ R R
      exact Zn H (lk R cf) (lk R cg) (Vs ((l ^^^ m) ^^^ q) B) λa H=>kq R H R
     ·intro a w b H I hp
      have f0 : b 0 = (Value.slice (some ⟨f,0,none⟩) 16 16):=hp 0 _ R R
      have f3 : b 3 = (vI (wr (k.2 + d.2))):=hp 1 _ R R
      exact Uh H Za ld (lk R f0) (lk R f3) o_2 ty5 N.1 λa H=>kq R H R
     intro a w b H I hg
     have H:=H.sub (e':=[(76,vB (((l ^^^ m) ^^^ q) ^^^ B)),(77,ptr f (0 + ((wr (k.2 + d.2))).toNat * 1)),(0,i),(1,Value.slice (some ⟨f,0,none⟩) 16 16),(4,vI k.2),(5,vB t.1),(6,vB t.2.1),(7,vB t.2.2.1),(8,vB t.2.2.2),(9,vI d.2),(35,vI d.2),(36,vT (decide (d.2 < 4))),(37,vI d.2)]) ⟨lk R (hg 38 (by decide)),lk R (hg 39 (by decide)),R,R,R,R,R,R,R,R,R,R,R,trivial⟩
     refine Zk (seg:=[vB (((l ^^^ m) ^^^ q) ^^^ B)]) (cs':=enc (d.1.setIfInBounds ((wr (k.2 + d.2))).toNat (((l ^^^ m) ^^^ q) ^^^ B))) H I Za R R R ty5 R (Ya (v:=d.1) (x:=((l ^^^ m) ^^^ q) ^^^ B) N.1) (s_1 (((l ^^^ m) ^^^ q) ^^^ B : UInt8)) (ZP (v:=d.1) (x:=((l ^^^ m) ^^^ q) ^^^ B) N.1) λw a I H=>Zj (YA (Zz (t_1 (Zn H R R R λa H=>Zd H R λa H=>Zj (Zm ?_)))))
     exact ⟨_,ois e,H.s,I⟩
    intro az e
    refine o_4 (Zu (Zu (YQ ?_)))
    obtain rfl:=ay _ (ois e)
    refine Zm ?_
    exact ⟨H.s,I⟩
   rintro a w ⟨H,I⟩
   refine YA (Zz (t_1 (Zd H R λa H=>Zn H R R R λa H=>Zc H R λa H=>Zj (Zm ?_))))
   exact ⟨_,ois ax,H.s,I⟩
  intro bk E
  refine o_4 (Zu (Zu (YQ ?_)))
  obtain rfl:=bj _ (ois E)
  refine Zm ?_
  exact ⟨H.s,I⟩
 rintro a w ⟨H,I⟩
 obtain rfl:=o_1 bi
 exact Zi3 H (by rfl) ⟨_,R,R,I⟩
def Xa (f : (Ref Gengine)) (c : V16 × Int) (b : V16 × Int) : Option (Fl (V16 × Int) V16) :=
 if decide (b.2 < 16) then ((ZZ c.1 b.2).bind λd=>(ZZ f.v.box (bI d)).bind λe=>(ZZ b.1 b.2).bind λh=>some (Fl.nx ((b.1.setIfInBounds (b.2).toNat e),wr (b.2 + 1)))) else (some (Fl.ex b.1))
def Y8 (d : (Ref Gengine)) (e : (List V16)) (b : V16 × Int) : Option (Fl (V16 × Int) V16) :=
 if decide (b.2 < (e.length : Int)) then (((ZQ (Xa d b) (b.1,0)).bind λf=>((VR d.v.places f).bind λh=>some h : Option (V16)).bind λc=>(if decide (b.2 < (wr ((e.length : Int) - 1))) then ((slc c.toList (0 : Int) (16 : Int)).bind λn=>(U9 d.v.mixer c).bind λi=>some i) else (some c) : Option (V16)).bind λj=>(idx e b.2).bind λk=>(Xc j k).bind λl=>some l : Option (V16)).bind λm=>some (Fl.nx (m,wr (b.2 + 1)))) else (some (Fl.ex b.1))
def XK (e : (Ref Gengine)) (d : (List V16)) (f : V16) : Option (V16) :=
 ((idx d (0 : Int)).bind λh=>(Xc f h).bind λb=>some b : Option (V16)).bind λi=>(ZQ (Y8 e d) (i,1)).bind λc=>some c
theorem JB (h : World) (B : (Ref Gengine)) (c : Value) (n : Ro h B [c]) (p1 : xv) (d : Value) (f : Ro h p1 [d]) (p2 : V16) (r : V16) (J : XK B p1 p2 = some r) :
  Calls prog 275 [c,d,Value.agg (enc p2).toArray].toArray h (Rt h (Value.agg (enc r).toArray)):=by
 refine ce func275 ?_
 intro a H
 have I:=M.start h
 unfold XK at J
 refine Zb (Z2 (cs:=enc p2) H I Za ld R R λk w a I H=>Zw H I ZE λm w a I H=>Ze ?_)
 obtain ⟨j5,t,a2⟩:=p_1 J
 refine ZJ (λa w=>Env 59 a [(0,c),(1,d),(5,ptr k 0),(6,ptr m 0)] ∧ M (Old h) h w [raw m xp,raw k (enc j5)]) ?_ ?_
 ·obtain ⟨x9,C,t⟩:=bix t
  obtain ⟨K,a3,t⟩:=p_1 t
  refine Z9 [10,11,12,13,14] Yt R R (by decide) R H I (qsP (λz=>Zx z.E Za ld R ZE R (z.M.ra1) (u_1 _) (kr0 R)) (q_m (λ_=>R) (qsP (λz=>Yu z.E Za ld R R s_3 ZE (z.M.rd f) C.1 (kr0 R)) (qsP (λz=>Zx z.E Za ld R ZE R (Xe (z.M.rd f) C.2) (u_1 _) (kr0 R)) (qsP (λz=>Yd z.E Za ld R kB (VE _ p2 x9 K a3) (kc R)) qs0))))) ?_
  ·intro a w u H I
   have I:=I.pl1
   refine Zk (seg:=enc K) (cs':=enc K) H I Za R R R ZE (u_1 _) (zle flq) (s_1 _) (Zh flq) λw a I H=>Zj ?_
   obtain rfl:=o_1 t
   refine Zm ?_
   have I:=I.pl1
   exact ⟨H.s,I⟩
 rintro a w ⟨H,I⟩
 refine s_2 (Zb (Zc H R λa H=>Ze ?_))
 obtain ⟨L,W,X⟩:=p_1 a2
 refine Z7 (λa w=>Env 59 a [(5,ptr k 0),(6,ptr m 0)] ∧ M (Old h) h w [raw m xp,raw k (enc L)]) ?_ ?_
 ·refine p_2 ?_
  refine ZR (λ(j : V16 × Int) a w=>Env 59 a [(0,c),(1,d),(5,ptr k 0),(6,ptr m 0),(7,vI j.2)] ∧ M (Old h) h w [raw m xp,raw k (enc j.1)]) W ⟨H.s,I⟩ ?_
  rintro j a w ⟨H,I⟩ bm i Y
  unfold Y8 at i
  refine s_2 (Zb (Zd H R λa H=>Zd H R λa H=>YE H R s_3 (I.rd f) λa H=>Zn H R R R λa H=>Ze ?_))
  refine c_if H R i ?_ ?_
  ·intro Z i
   refine u_2 (Zz ?_)
   obtain ⟨a4,aa,ab⟩:=p_1 i
   refine ZJ (λa w=>Env 59 a [(0,c),(1,d),(5,ptr k 0),(6,ptr m 0),(7,vI j.2)] ∧ M (Old h) h w [raw m xp,raw k (enc a4)]) ?_ ?_
   ·refine p_2 (s_2 (Zb (Zq H R ZE R I.ra1 (u_1 _) λa H=>Zd H R λa H=>Ze ?_)))
    obtain ⟨ac,ad,ae⟩:=p_1 aa
    refine Z7 (λa w=>Env 59 a [(0,c),(1,d),(5,ptr k 0),(6,ptr m 0),(7,vI j.2)] ∧ M (Old h) h w [raw m xp,raw k (enc ac)]) ?_ ?_
    ·refine p_2 ?_
     refine ZR (λ(o : V16 × Int) a w=>Env 59 a [(0,c),(1,d),(5,ptr k 0),(6,ptr m 0),(7,vI j.2),(21,Value.agg (enc j.1).toArray),(22,vI o.2)] ∧ M (Old h) h w [raw m xp,raw k (enc o.1)]) ad ⟨H.s,I⟩ ?_
     rintro o a w ⟨H,I⟩ bn b af
     unfold Xa at b
     refine Zb (Zn H R R R λa H=>Ze (s_2 ?_))
     refine c_if H R b ?_ ?_
     ·intro ag b
      refine u_2 (Zz (s_2 (p_2 (Zb (Zd H R ?_))))); intro a H
      obtain ⟨bo,ah,b⟩:=bvx b
      refine H4 H Za ld R R u_3 ty5 R R ah R λa H=>Zc H R λa H=>Zc H R λa H=>Ze (t_1 (Zd H R λa H=>Zd H R λa H=>Zd H R ?_)); intro a H
      obtain ⟨bd,be,ai,aj,ak,al⟩:=QK n -- ^
      obtain ⟨bp,bq,rfl,br,bs⟩:=KJ aj -- ^
      refine Yj H Za ld (lk R ai) λa H=>Zl H R (qQ) ?_; intro a H
      obtain ⟨q,F,b⟩:=bvx b
      refine ZO H R R o_6 ty5 F.1 λa H=>ZB (v:=(vB q)) H R ty5 R (At.vec (at_0 (I.atk ak al)) F.2) ?_; intro a H
      obtain ⟨bt,y,b⟩:=bvx b
      refine ZO H R R u_3 ty5 y.1 ?_; intro a H
      have I:=I.pl1
      refine Zk (seg:=[vB q]) (cs':=enc (o.1.setIfInBounds (o.2).toNat q)) H I Za R R R ty5 R (Ya (v:=o.1) (x:=q) y.1) (s_1 (q : UInt8)) (ZP (v:=o.1) (x:=q) y.1) λw a I H=>Zj (YA (Zz (t_1 (Zn H R R R λa H=>Zd H R λa H=>Zj (Zm ?_)))))
      have I:=I.pl1
      exact ⟨_,ois b,H.s,I⟩
     intro ag b
     refine o_4 (Zu (Zu (YQ ?_)))
     obtain rfl:=af _ (ois b)
     refine Zm ?_
     exact ⟨H.s,I⟩
    rintro a w ⟨H,I⟩
    refine Zz ?_
    obtain ⟨am,A,an⟩:=p_1 ae
    refine ZJ (λa w=>Env 59 a [(0,c),(1,d),(5,ptr k 0),(6,ptr m 0),(7,vI j.2)] ∧ M (Old h) h w [raw m xp,raw k (enc am)]) ?_ ?_
    ·obtain ⟨bg,bh,ao,ap,aq,ar⟩:=QK n -- ^
     obtain ⟨u64,bu,rfl,bv,bw⟩:=KJ ap -- ^
     obtain ⟨O,a5,A⟩:=p_1 A
     refine Z9 [35,36,37,38,39,40] Yt R R (by decide) R H I (q_m (λ_=>R) (qsP (λz=>Yj z.E Za ld (lk R ao) (kr0 R)) (qsP (λz=>Zg z.E Za ld R (Zio) (kr0 R)) (qsP (λz=>Zx z.E Za ld R BC R (at_2 (z.M.atk aq ar)) (u_1 _) (kr0 R)) (qsP (λz=>Zx z.E Za ld R ZE R (z.M.ra1) (u_1 _) (kr0 R)) (qsP (λz=>Yd z.E Za ld R (cbm func318) (BY _ B.v.places ac O a5) (kc R)) qs0)))))) ?_
     ·intro a w u H I
      have I:=I.pl1
      refine Zk (seg:=enc O) (cs':=enc O) H I Za R R R ZE (u_1 _) (zle flq) (s_1 _) (Zh flq) λw a I H=>Zj ?_
      obtain rfl:=o_1 A
      refine Zm ?_
      have I:=I.pl1
      exact ⟨H.s,I⟩
    rintro a w ⟨H,I⟩
    obtain ⟨au,e,l⟩:=p_1 an
    refine ZJ (λa w=>Env 59 a [(0,c),(1,d),(5,ptr k 0),(6,ptr m 0),(7,vI j.2)] ∧ M (Old h) h w [raw m xp,raw k (enc au)]) ?_ ?_
    ·refine Zb (Zd H R λa H=>Zd H R λa H=>YE H R s_3 (I.rd f) λa H=>Zn H R R R λa H=>Zn H R R R λa H=>Ze ?_)
     refine c_if H R e ?_ ?_
     ·intro av e
      obtain ⟨bi,bj,aw,ax,ay,az⟩:=QK n -- ^
      obtain ⟨u82,u84,rfl,a6,bx⟩:=KJ ax -- ^
      obtain ⟨bz,a7,e⟩:=p_1 e
      have a0:=Q0 a7 -- ^
      refine Z9 [46,47,48,49,50] Yt R R (by decide) R H I (q_m (λ_=>R) (qsP (λz=>Yj z.E Za ld (lk R aw) (kr0 R)) (qsP (λz=>Zg z.E Za ld R (Zie) (kr0 R)) (qsP (λz=>Zy (v:=u82) z.E Za ld R Zgh R (at_4 (z.M.atk ay az)) (kr0 R)) (qsP (λz=>Vf (N:=16) z.E Za ld R R R R R u_3 ty5 a0 (kr0 R)) qs0))))) ?_
      ·intro a w u H I
       have I:=I.pl1
       obtain ⟨a8,a9,e⟩:=p_1 e
       refine Zp H R (cbm func319) (zn _ _ _ _ B.v.mixer u82 a6 k am I a8 a9) ?_
       rintro v w a ⟨rfl,I⟩ H
       refine Zj ?_
       obtain rfl:=o_1 e
       refine Zm ?_
       have I:=I.pl1
       exact ⟨H.s,I⟩
     intro av e
     refine u_2 ?_
     obtain rfl:=o_1 e
     refine Zm ?_
     exact ⟨H.s,I⟩
    rintro a w ⟨H,I⟩
    obtain ⟨ba,G,l⟩:=bix l
    obtain ⟨T,bb,l⟩:=p_1 l
    refine Z9 [52,53,54,55,56,57] Yt R R (by decide) R H I (qsP (λz=>Zx z.E Za ld R ZE R (z.M.ra1) (u_1 _) (kr0 R)) (q_m (λ_=>R) (q_m (λ_=>R) (qsP (λz=>Yu z.E Za ld R R s_3 ZE (z.M.rd f) G.1 (kr0 R)) (qsP (λz=>Zx z.E Za ld R ZE R (Xe (z.M.rd f) G.2) (u_1 _) (kr0 R)) (qsP (λz=>Yd z.E Za ld R kB (VE _ au ba T bb) (kc R)) qs0)))))) ?_
    ·intro a w u H I
     have I:=I.pl1
     refine Zk (seg:=enc T) (cs':=enc T) H I Za R R R ZE (u_1 _) (zle flq) (s_1 _) (Zh flq) λw a I H=>Zj (YA ?_)
     obtain rfl:=o_1 l
     refine Zm ?_
     have I:=I.pl1
     exact ⟨H.s,I⟩
   rintro a w ⟨H,I⟩
   refine t_1 (Zd H R λa H=>Zn H R R R λa H=>Zc H R λa H=>Zj (Zm ?_))
   exact ⟨_,ois ab,H.s,I⟩
  intro Z i
  refine o_4 (Zu (Zu (YQ ?_)))
  obtain rfl:=Y _ (ois i)
  refine Zm ?_
  exact ⟨H.s,I⟩
 rintro a w ⟨H,I⟩
 refine Zz (Zb (Zq H R ZE R I.ra1 (u_1 _) λa H=>Zk (seg:=enc L) (cs':=enc L) H I Za R R R ZE (u_1 _) (zle flq) (s_1 _) (Zh flq) λw a I H=>Ze ?_))
 obtain rfl:=o_1 X
 have U : Yb prog _ _ (.cell 6 53) _:=ZG H R ZE R I.ra0 (u_1 _) R
 exact p_3 (ZV H R U ⟨_,R,R,I.kept⟩)
def Xk (b : (Ref Gengine)) (e : V16) (f : V16) : Option (V16) :=
 ((VV b e b.v.rounds).bind λc=>(XK b c f).bind λd=>some d : Option (V16)).bind λh=>some h
theorem Kf (k : World) (e : (Ref Gengine)) (c : Value) (b : Ro k e [c]) (m : V16) (n : V16) (r : V16) (J : Xk e m n = some r) :
  Calls prog 252 [c,Value.agg (enc m).toArray,Value.agg (enc n).toArray].toArray k (Rt k (Value.agg (enc r).toArray)):=by
 refine ce func252 ?_
 intro a H
 have I:=M.start k
 unfold Xk at J
 refine Zb (Z2 (cs:=enc m) H I Za ld R R λU w a I H=>Z2 (cs:=enc n) H I Za ld R R λW w a I H=>Zw H I ZE λB w a I H=>Ze ?_)
 obtain ⟨X,d,C⟩:=p_1 J
 refine ZJ (λa w=>Env 17 a [(6,ptr B 0)] ∧ M (Old k) k w [raw B (enc X)]) ?_ ?_
 ·obtain ⟨O,T,o,q,t,x⟩:=QK b -- ^
  obtain ⟨G,K,rfl,Y,Z⟩:=KJ q -- ^
  obtain ⟨h,L,d⟩:=p_1 d
  refine Yl (its:=[raw B xp,raw W (enc n),raw U (enc m)]) (mk:=([mkO 7 (λv=>osl NoB (h : List V16) v)] : Mk)) [7,8,9,10,11,12,13,14,15] Yt R R (by decide) R H (λu=>M.qE (M.q0 I.drew u) emO) (q_m (λ_=>R) (q_m (λ_=>R) (qsP (λz=>Zx z.E Za ld R ZE R (z.M.ra2) (u_1 _) (kr0 R)) (q_m (λ_=>R) (qsP (λz=>Yj z.E Za ld (lk R o) (kr0 R)) (qsP (λz=>Zg z.E Za ld R (Zif) (kr0 R)) (qsP (λz=>Zy (v:=(vI e.v.rounds)) z.E Za ld R ty2 R (at_6 (z.M.atk t x)) (kr0 R)) (qsM (pr:=λv=>True) ?_ (qsP (λz=>Zx z.E Za ld R ZE R (z.M.ra1) (u_1 _) (kr0 R)) qs0))))))))) ?_
  ·intro a w i D z
   have H:=z.E
   have hD : D 7 = false:=z.F
   have hM0:=z.M
   have I:=z.M
   refine Zp H R (cbm func204) (BR _ e c (I.rdo b) m e.v.rounds h L) ?_
   rintro _ w a ⟨_,rfl,hFr,hK⟩ H
   have I:=hM0.add hK hFr
   exact ⟨_,_,R,H,M.qFill (mk1:=[]) (mk2:=[]) (f:=(λv=>osl NoB (h : List V16) v)) I R hD,trivial⟩
  intro a w i D H I hG y
  have d7:=y 7 (by decide)
  have I:=I.sure (pre:=[_,_,_]) d7
  obtain ⟨j,N,d⟩:=p_1 d
  refine c_k H I R (cbm func275) (JB _ e c (I.rdo b) h (i 7) (I.sl3) n j N) ?_; intro w a I H
  refine Zk (seg:=enc j) (cs':=enc j) H I Za R R R ZE (u_1 _) (zle flq) (s_1 _) (Zh flq) λw a I H=>Zj ?_
  obtain rfl:=o_1 d
  refine Zm ?_
  have I:=M.fst (l:=[_]) I
  exact ⟨H.s,I⟩
 rintro a w ⟨H,I⟩
 obtain rfl:=o_1 C
 have A : Yb prog _ _ (.cell 6 53) _:=ZG H R ZE R I.ra0 (u_1 _) R
 exact p_3 (ZV H R A ⟨_,R,R,I.kept⟩)
def Wd (x : (Ref Gengine)) (y : V32) (z : V16) : Option (V32) :=
 (slc y.toList (0 : Int) (16 : Int)).bind λA=>(Ky 16 A).bind λf=>(slc y.toList (16 : Int) (32 : Int)).bind λh=>(Ky 16 h).bind λb=>(Xc f z).bind λc=>((Xk x b c).bind λi=>(Xc i c).bind λj=>some j : Option (V16)).bind λd=>(Xc b z).bind λe=>((Xk x d e).bind λk=>(Xc k e).bind λl=>some l : Option (V16)).bind λm=>((slc d.toList (0 : Int) (16 : Int)).bind λn=>(slc m.toList (0 : Int) (16 : Int)).bind λo=>(Yy ([n,o] : (List (List UInt8)))).bind λq=>(Ky 32 q).bind λt=>some t : Option (V32)).bind λu=>some u
theorem H5 (y : World) (p0 : (Ref Gengine)) (c : Value) (m : Ro y p0 [c]) (p1 : V32) (B : V16) (r : V32) (J : Wd p0 p1 B = some r) :
  Calls prog 180 [c,Value.agg (enc p1).toArray,Value.agg (enc B).toArray].toArray y (Rt y (Value.agg (enc r).toArray)):=by
 refine ce func180 ?_
 intro a H
 have I:=M.start y
 unfold Wd at J
 refine Zb (Z2 (cs:=enc p1) H I Za ld R R λb1 w a I H=>Z2 (cs:=enc B) H I Za ld R R λb3 w a I H=>Zw H I Yq λC w a I H=>Ze (s_2 ?_))
 obtain ⟨l8,e9,J⟩:=p_1 J
 have Y:=Q0 e9 -- ^
 obtain ⟨G,Z,J⟩:=p_1 J
 obtain ⟨a9,K,J⟩:=p_1 J
 have aa:=Q0 K -- ^
 obtain ⟨n,ab,J⟩:=p_1 J
 refine Yl (its:=[raw C xr,raw b3 (enc B),raw b1 (enc p1)]) (mk:=([mkO 6 (λv=>XS v xp),mkO 7 (λv=>XS v xp)] : Mk)) [11,12,13,14,15,16,7,8] Yt R R (by decide) R H (λu=>M.qE (M.qE (M.q0 I.drew u) emO) emO) (qsP (λz=>Vf (N:=32) z.E Za ld R R R R R t_4 ty5 Y (kr0 R)) (qsP (λz=>AQ z.E Za ld R u_3 (Xh (At.sat (z.M.ra2) (by simp) (by decide)) e9) (KC Z).1 (by decide) (kr0 R)) (qsP (λz=>Zx z.E Za ld R ZE R (y7 (Xh (At.sat (z.M.ra2) (by simp) (by decide)) e9) Z (by decide)) (u_1 _) (kr0 R)) (qsP (λz=>Vf (N:=32) z.E Za ld R R R R R t_4 ty5 aa (kr0 R)) (qsP (λz=>AQ z.E Za ld R u_3 (Xh (At.sat (z.M.ra2) (by simp) (by decide)) K) (KC ab).1 (by decide) (kr0 R)) (qsP (λz=>Zx z.E Za ld R ZE R (y7 (Xh (At.sat (z.M.ra2) (by simp) (by decide)) K) ab (by decide)) (u_1 _) (kr0 R)) (qsM (pr:=λv=>True) ?_ (qsM (pr:=λv=>True) ?_ qs0)))))))) ?_
 ·intro a w ac D z
  have H:=z.E
  have hD : D 6 = false:=z.F
  have I:=z.M
  refine Zw H I ZE ?_; intro ba w a I H
  have I:=I.pack1 (it:=XS _ xp) (λw w' fp ⟨b',e,k⟩ hb=>⟨b',e,Yz w w' fp k hb⟩) (λfp k=>⟨_,R,k⟩)
  exact ⟨_,_,R,H,M.qFill (mk1:=[]) (mk2:=[_]) (f:=λv=>XS v xp) I R hD,trivial⟩
 ·intro a w ac D z
  have H:=z.E
  have hD : D 7 = false:=z.F
  have I:=z.M
  refine Zw H I ZE ?_; intro bb w a I H
  have I:=I.pack1 (it:=XS _ xp) (λw w' fp ⟨b',e,k⟩ hb=>⟨b',e,Yz w w' fp k hb⟩) (λfp k=>⟨_,R,k⟩)
  exact ⟨_,_,R,H,M.qFill (mk1:=[_]) (mk2:=[]) (f:=λv=>XS v xp) I R hD,trivial⟩
 intro a w ac D H I hG A
 have d6:=A 6 (by decide)
 have d7:=A 7 (by decide)
 have I:=(I.sure (pre:=[_,_,_]) d6).pl
 obtain ⟨_,⟨i,ad,_⟩,_⟩:=I.head
 have I:=((I.pack1 Yz (it:=raw i xp) (λfp ⟨b2,L,k2⟩=>by rw [ad] at L; simp [ptr] at L; subst L; exact k2)).sure (pre:=[_,_,_,_]) d7).pl
 obtain ⟨_,⟨j,ae,_⟩,_⟩:=I.head
 have I:=I.pack1 Yz (it:=raw j xp) (λfp ⟨b2,L,k2⟩=>by rw [ae] at L; simp [ptr] at L; subst L; exact k2)
 have H:=H.setq (t:=7) R ad
 have H:=H.setq (t:=8) R ae
 have I:=I.pl1
 refine Zk (seg:=enc G) (cs':=enc G) H I Za R R R ZE (u_1 _) (zle flq) (s_1 _) (Zh flq) ?_; intro w a I H
 have I:=I.pl1
 refine Zk (seg:=enc n) (cs':=enc n) H I Za R R R ZE (u_1 _) (zle flq) (s_1 _) (Zh flq) λw a I H=>Zj (Zz (Zb (Zq H R ZE R I.ra1 (u_1 _) λa H=>Zq H R ZE R I.ra3 (u_1 _) ?_))); intro a H
 obtain ⟨o,av,J⟩:=p_1 J
 refine c_k H I R kB (VE _ G B o av) ?_; intro w a I H
 refine Zw H I ZE λbg w a I H=>Zk (seg:=enc o) (cs':=enc o) H I Za R R R ZE (u_1 _) (zle flq) (s_1 _) (Zh flq) λw a I H=>Ze ?_
 obtain ⟨O,d,q⟩:=p_1 J
 refine ZJ (λa w=>Env 41 a [(0,c),(5,ptr b3 0),(6,ptr C 0),(7,ptr i 0),(8,ptr j 0)] ∧ M (Old y) y w [raw j (enc n),raw i (enc O),raw C xr,raw b3 (enc B)]) ?_ ?_
 ·obtain ⟨af,aw,d⟩:=p_1 d
  obtain ⟨T,ax,d⟩:=p_1 d
  refine Z9 [20,21,22,23,24,25] Yt R R (by decide) R H I (q_m (λ_=>R) (qsP (λz=>Zx z.E Za ld R ZE R (z.M.ra1) (u_1 _) (kr0 R)) (qsP (λz=>Zx z.E Za ld R ZE R (z.M.ra0) (u_1 _) (kr0 R)) (qsP (λz=>Yd z.E Za ld R (cbm func252) (Kf _ p0 c (z.M.rdo m) n o af aw) (kc R)) (qsP (λz=>Zx z.E Za ld R ZE R (z.M.ra0) (u_1 _) (kr0 R)) (qsP (λz=>Yd z.E Za ld R kB (VE _ af o T ax) (kc R)) qs0)))))) ?_
  ·intro a w u H I
   have I:=I.pl2
   refine Zk (seg:=enc T) (cs':=enc T) H I Za R R R ZE (u_1 _) (zle flq) (s_1 _) (Zh flq) λw a I H=>Zj ?_
   obtain rfl:=o_1 d
   refine Zm ?_
   have I:=M.fst (l:=[_,_,_,_]) I.pl4.pl4.pl2.pl4
   exact ⟨H.s,I⟩
 rintro a w ⟨H,I⟩
 refine Zb (Zq H R ZE R I.ra0 (u_1 _) λa H=>Zq H R ZE R I.ra3 (u_1 _) ?_); intro a H
 obtain ⟨x,ay,q⟩:=p_1 q
 refine c_k H I R kB (VE _ n B x ay) ?_; intro w a I H
 refine Zw H I ZE λbh w a I H=>Zk (seg:=enc x) (cs':=enc x) H I Za R R R ZE (u_1 _) (zle flq) (s_1 _) (Zh flq) λw a I H=>Ze ?_
 obtain ⟨az,h,ag⟩:=p_1 q
 refine ZJ (λa w=>Env 41 a [(6,ptr C 0),(7,ptr i 0),(8,ptr j 0)] ∧ M (Old y) y w [raw j (enc az),raw i (enc O),raw C xr]) ?_ ?_
 ·obtain ⟨ah,a0,h⟩:=p_1 h
  obtain ⟨U,a1,h⟩:=p_1 h
  refine Z9 [29,30,31,32,33,34] Yt R R (by decide) R H I (q_m (λ_=>R) (qsP (λz=>Zx z.E Za ld R ZE R (z.M.ra2) (u_1 _) (kr0 R)) (qsP (λz=>Zx z.E Za ld R ZE R (z.M.ra0) (u_1 _) (kr0 R)) (qsP (λz=>Yd z.E Za ld R (cbm func252) (Kf _ p0 c (z.M.rdo m) O x ah a0) (kc R)) (qsP (λz=>Zx z.E Za ld R ZE R (z.M.ra0) (u_1 _) (kr0 R)) (qsP (λz=>Yd z.E Za ld R kB (VE _ ah x U a1) (kc R)) qs0)))))) ?_
  ·intro a w u H I
   have I:=I.pl1
   refine Zk (seg:=enc U) (cs':=enc U) H I Za R R R ZE (u_1 _) (zle flq) (s_1 _) (Zh flq) λw a I H=>Zj ?_
   obtain rfl:=o_1 h
   refine Zm ?_
   have I:=M.fst (l:=[_,_,_]) I.pl3.pl3.pl2
   exact ⟨H.s,I⟩
 rintro a w ⟨H,I⟩
 obtain ⟨a2,b,ai⟩:=p_1 ag
 refine ZJ (λa w=>Env 41 a [(6,ptr C 0)] ∧ M (Old y) y w [raw C (enc a2)]) ?_ ?_
 ·obtain ⟨a3,W,b⟩:=p_1 b
  have aj:=Q0 W -- ^
  obtain ⟨a4,X,b⟩:=p_1 b
  have ak:=Q0 X -- ^
  refine Z9 [35,36] Yt R R (by decide) R H I (qsP (λz=>Vf (N:=16) z.E Za ld R R R R R u_3 ty5 aj (kr0 R)) (qsP (λz=>Vf (N:=16) z.E Za ld R R R R R u_3 ty5 ak (kr0 R)) qs0)) ?_
  ·intro a w u H I
   refine T6 (xs:=[.tmp 35,.tmp 36]) (vs:=[Yc (.slice (some ⟨i,0,none⟩) 16 16) (xj).toNat xD.toNat 1,Yc (.slice (some ⟨j,0,none⟩) 16 16) (xj).toNat xD.toNat 1]) H I Za ld R R u_5 X7 (by decide) (Wh (ZX (Xh (At.sat I.ra1 (by simp) (by decide)) W)) (Wh (ZX (Xh (At.sat I.ra0 (by simp) (by decide)) X)) H2)) ?_; intro a5 w a I H
   obtain ⟨a6,a7,b⟩:=p_1 b
   refine Zp H R Zfr (V0 _ ([a3,a4] : (List xg)) (Value.slice (some ⟨a5,0,none⟩) 2 2) (BP I.ra0 (I.rawLt (pre:=[])) ⟨Xh (At.sat I.ra2 (by simp) (by decide)) W,Xh (At.sat I.ra1 (by simp) (by decide)) X,trivial⟩ R) a6 a7) ?_
   rintro bi w a ⟨_,rfl,hFr,hK⟩ H
   have I:=I.add hK hFr
   obtain ⟨al,am,b⟩:=p_1 b
   refine AQ H Za ld R t_4 (I.sl0) (KC am).1 (by decide) λa H=>Zq H R Yq R (y7 (I.sl0) am (by decide)) (u_1 _) ?_; intro a H
   have I:=I.pl4
   refine Zk (seg:=enc al) (cs':=enc al) H I Za R R R Yq (u_1 _) (zle flq) (s_1 _) (Zh flq) λw a I H=>Zj ?_
   obtain rfl:=o_1 b
   refine Zm ?_
   have I:=M.fst (l:=[_]) I
   exact ⟨H.s,I⟩
 rintro a w ⟨H,I⟩
 obtain rfl:=o_1 ai
 have an : Yb prog _ _ (.cell 6 32) _:=ZG H R Yq R I.ra0 (u_1 _) R
 exact p_3 (ZV H R an ⟨_,R,R,I.kept⟩)
def XW (f : (Ref Gengine)) (c : (List V16)) (b : V32 × Int) : Option (Fl (V32 × Int) V32) :=
 if decide (b.2 < (c.length : Int)) then ((idx c b.2).bind λd=>(Wd f b.1 d).bind λe=>some (Fl.nx (e,wr (b.2 + 1)))) else (some (Fl.ex b.1))
def Xi (e : (Ref Gengine)) (f : (List (List UInt8))) : Option (V32) :=
 (WU).bind λh=>(Yy f).bind λi=>(Uq i).bind λb=>(TF b).bind λc=>(ZQ (XW e c) (h,0)).bind λd=>some d
theorem Ug (e : World) (E : (Ref Gengine)) (c : Value) (i : Ro e E [c]) (F : (List xg)) (d : Value) (j : Ro e F [d]) (r : V32) (J : Xi E F = some r) :
  Calls prog 84 [c,d].toArray e (Rt e (Value.agg (enc r).toArray)):=by
 refine ce func84 ?_
 intro a H
 have I:=M.start e
 unfold Xi at J
 refine Zb (Zw H I Yq λB w a I H=>Ze (Zb ?_))
 obtain ⟨G,U,J⟩:=p_1 J
 refine c_k H I R (cbm func176) (H8 _  G U) ?_; intro w a I H
 refine Zw H I Yq λC w a I H=>Zk (seg:=enc G) (cs':=enc G) H I Za R R R Yq (u_1 _) (zle flq) (s_1 _) (Zh flq) λw a I H=>Ze (s_2 (Zb (Zd H R ?_))); intro a H
 obtain ⟨T,W,J⟩:=p_1 J
 refine Zp H R Zfr (V0 _ F d (I.rdo j) T W) ?_
 rintro X w a ⟨_,rfl,hFr,hK⟩ H
 have I:=I.add hK hFr
 obtain ⟨q,K,J⟩:=p_1 J
 refine Zp H R (cbm func178) (A2 _ T X (I.sl0) q K) ?_
 rintro L w a ⟨_,rfl,hFr,hK⟩ H
 have I:=I.add hK hFr
 obtain ⟨k,N,J⟩:=p_1 J
 refine Zp H R (cbm func177) (yl _ q L (I.sl0) k N) ?_
 rintro t w a ⟨_,rfl,hFr,hK⟩ H
 have I:=I.add hK hFr
 refine YE H R s_3 (I.sl0) λa H=>Zd H R λa H=>Ze ?_
 obtain ⟨m,u,x⟩:=p_1 J
 refine Z7 (λa w=>Env 24 a [(4,ptr B 0),(5,ptr C 0)] ∧ M (Old e) e w [raw C (enc m),raw B xr]) ?_ ?_
 ·refine p_2 ?_
  have I:=M.fst (l:=[_,_,_]) I.pl4.pl4.pl2
  refine ZR (λ(f : V32 × Int) a w=>Env 24 a [(0,c),(4,ptr B 0),(5,ptr C 0),(12,t),(13,vI (k.length : Int)),(14,vI f.2)] ∧ M (Old e) e w [osl NoB (k : List V16) t,raw C (enc f.1),raw B xr]) u ⟨H.s,I⟩ ?_
  rintro f a w ⟨H,I⟩ Y b y
  unfold XW at b
  refine Zb (Zn H R R R λa H=>Ze (s_2 ?_))
  refine c_if H R b ?_ ?_
  ·intro z b
   refine u_2 (Zz (s_2 (p_2 (Zb ?_))))
   obtain ⟨n,h,b⟩:=bix b
   refine YG H R R s_3 ZE (I.sl0) h.1 λa H=>Zq H R ZE R (Xe (I.sl0) h.2) (u_1 _) λa H=>Zw H I ZE λZ w a I H=>Zk (seg:=enc n) (cs':=enc n) H I Za R R R ZE (u_1 _) (zle flq) (s_1 _) (Zh flq) λw a I H=>Ze (t_1 (Zd H R λa H=>Zq H R Yq R I.ra2 (u_1 _) λa H=>Zq H R ZE R I.ra0 (u_1 _) ?_)); intro a H
   obtain ⟨o,O,b⟩:=p_1 b
   refine Zp H R (cbm func180) (H5 _ E c (I.rdo i) f.1 n o O) ?_
   rintro v w a ⟨rfl,hK⟩ H
   have I:=(I.keep hK).pl2
   refine Zk (seg:=enc o) (cs':=enc o) H I Za R R R Yq (u_1 _) (zle flq) (s_1 _) (Zh flq) λw a I H=>Zj (YA (Zz (t_1 (Zn H R R R λa H=>Zd H R λa H=>Zj (Zm ?_)))))
   have I:=M.fst (l:=[_,_,_]) I.pl3.pl1.pl3
   exact ⟨_,ois b,H.s,I⟩
  intro z b
  refine o_4 (Zu (Zu (YQ ?_)))
  obtain rfl:=y _ (ois b)
  refine Zm ?_
  have I:=M.fst (l:=[_,_]) I.pl2.pl2
  exact ⟨H.s,I⟩
 rintro a w ⟨H,I⟩
 refine Zz (Zb (Zq H R Yq R I.ra0 (u_1 _) ?_)); intro a H
 have I:=I.pl1
 refine Zk (seg:=enc m) (cs':=enc m) H I Za R R R Yq (u_1 _) (zle flq) (s_1 _) (Zh flq) λw a I H=>Ze ?_
 obtain rfl:=o_1 x
 have A : Yb prog _ _ (.cell 4 32) _:=ZG H R Yq R I.ra0 (u_1 _) R
 exact p_3 (ZV H R A ⟨_,R,R,I.kept⟩)
def W8 (h : (Ref Gengine)) (i : V16) (j : (List (List UInt8))) : Option (V32) :=
 (Wm i 90).bind λk=>(Yy j).bind λl=>(Xi h ([k,l] : (List (List UInt8)))).bind λb=>((Wm i 165).bind λc=>(slc b.toList (0 : Int) (32 : Int)).bind λd=>(Xi h ([c,d] : (List (List UInt8)))).bind λe=>some e : Option (V32)).bind λf=>some f
theorem JG (K : World) (p0 : (Ref Gengine)) (o : Value) (x : Ro K p0 [o]) (C : V16) (p2 : (List xg)) (y : Value) (L : Ro K p2 [y]) (r : V32) (J : W8 p0 C p2 = some r) :
  Calls prog 236 [o,Value.agg (enc C).toArray,y].toArray K (Rt K (Value.agg (enc r).toArray)):=by
 refine ce func236 ?_
 intro a H
 have I:=M.start K
 unfold W8 at J
 refine Zb (Z2 (cs:=enc C) H I Za ld R R λY w a I H=>Zw H I Yq λO w a I H=>Ze (Zb (Zd H R λa H=>Zq H R ZE R I.ra1 (u_1 _) ?_))); intro a H
 obtain ⟨T,e6,J⟩:=p_1 J
 refine Zp H R Zg2 (Kl _ C 90 T e6) ?_
 rintro A w a ⟨_,rfl,hFr,hK⟩ H
 have I:=I.add hK hFr
 refine Zd H R ?_; intro a H
 obtain ⟨U,e9,J⟩:=p_1 J
 refine Zp H R Zfr (V0 _ p2 y (I.rdo L) U e9) ?_
 rintro b w a ⟨_,rfl,hFr,hK⟩ H
 have I:=I.add hK hFr
 refine T6 (xs:=[.tmp 10,.tmp 12]) (vs:=[A,b]) H I Za ld R R u_5 X7 (by decide) (Wh (ZX (I.sl1)) (Wh (ZX (I.sl0)) H2)) ?_; intro q w a I H
 obtain ⟨h,af,J⟩:=p_1 J
 refine c_k H I R cb84 (Ug _ p0 o (I.rdo x) ([T,U] : (List xg)) (Value.slice (some ⟨q,0,none⟩) 2 2) (BP I.ra0 (I.rawLt (pre:=[])) ⟨I.sl2,I.sl1,trivial⟩ R) h af) ?_; intro w a I H
 refine Zw H I Yq λe w a I H=>Zk (seg:=enc h) (cs':=enc h) H I Za R R R Yq (u_1 _) (zle flq) (s_1 _) (Zh flq) λw a I H=>Ze ?_
 obtain ⟨ag,d,Z⟩:=p_1 J
 refine ZJ (λa w=>Env 21 a [(6,ptr O 0)] ∧ M (Old K) K w [raw O (enc ag)]) ?_ ?_
 ·obtain ⟨n,ah,d⟩:=p_1 d
  obtain ⟨ai,W,d⟩:=p_1 d
  have aa:=Q0 W -- ^
  refine Yl (its:=[raw e (enc h),raw q [A,b],osl NoB (U : List UInt8) b,osl NoB (T : List UInt8) A,raw O xr,raw Y (enc C)]) (mk:=([mkO 2 (λv=>osl NoB (n : List UInt8) v),mkL 4 [2] 2 (λus=>[us.getD 0 undef,Yc (.slice (some ⟨e,0,none⟩) 32 32) (xj).toNat xC.toNat 1])] : Mk)) [15,16,17,18,19] Yt R R (by decide) R H (λu=>M.qE (M.qE (M.q0 I.drew u) emL) emO) (q_m (λ_=>R) (qsP (λz=>Zx z.E Za ld R ZE R (z.M.ra5) (u_1 _) (kr0 R)) (qsM (pr:=λv=>True) ?_ (qsP (λz=>Vf (N:=32) z.E Za ld R R R R R t_4 ty5 aa (kr0 R)) (qsM (pr:=λv=>True) ?_ qs0))))) ?_
  ·intro a w B D z
   have H:=z.E
   have hD : D 2 = false:=z.F
   have hsL : D 4 = false:=WH (j:=4) (k:=0) z.c R R R hD
   have hM0:=z.M
   have I:=z.M
   refine Zp H R Zg2 (Kl _ C 165 n ah) ?_
   rintro _ w a ⟨_,rfl,hFr,hK⟩ H
   have I:=hM0.add hK hFr
   have I:=M.litOff (its:=_ :: [raw e (enc h),raw q [A,b],osl NoB (U : List UInt8) b,osl NoB (T : List UInt8) A,raw O xr,raw Y (enc C)]) (mk:=([mkO 2 (λv=>osl NoB (n : List UInt8) v)] : Mk)) (i:=4) (ds:=[2]) (m:=2) (f:=(λus=>[us.getD 0 undef,Yc (.slice (some ⟨e,0,none⟩) 32 32) (xj).toNat xC.toNat 1])) I hsL
   exact ⟨_,_,R,H,M.litOn (its:=[raw e (enc h),raw q [A,b],osl NoB (U : List UInt8) b,osl NoB (T : List UInt8) A,raw O xr,raw Y (enc C)]) (mk:=([mkO 2 (λv=>osl NoB (n : List UInt8) v)] : Mk)) (i:=4) (ds:=[2]) (m:=2) (f:=(λus=>[(us.getD 0 undef),(Yc (.slice (some ⟨e,0,none⟩) 32 32) (xj).toNat xC.toNat 1)])) (M.qFill (its:=[raw e (enc h),raw q [A,b],osl NoB (U : List UInt8) b,osl NoB (T : List UInt8) A,raw O xr,raw Y (enc C)]) (mk1:=[]) (mk2:=[]) (f:=(λv=>osl NoB (n : List UInt8) v)) I R hD) hsL (by decide),trivial⟩
  ·intro a w B D z
   have H:=z.E
   have hD : D 4 = false:=z.F
   have d2 : D 2 = true:=z.p 0 _ R R
   have I:=z.M.sure (pre:=[_,_,_,_,_,_]) d2
   refine T6 (xs:=[.tmp 17,.tmp 18]) (vs:=[B 2,Yc (.slice (some ⟨e,0,none⟩) 32 32) (xj).toNat xC.toNat 1]) H I Za ld R R u_5 X7 (by decide) (Wh (ZX (I.sl6)) (Wh (ZX (Xh (At.sat I.ra0 (by simp) (by decide)) W)) H2)) ?_; intro ao w a I H
   have I:=I.unsure (pre:=[_,_,_,_,_,_,_]) d2
   exact ⟨_,_,R,H,M.litFill (its:=[raw e (enc h),raw q [A,b],osl NoB (U : List UInt8) b,osl NoB (T : List UInt8) A,raw O xr,raw Y (enc C)]) (mk:=([mkO 2 (λv=>osl NoB (n : List UInt8) v)] : Mk)) (i:=4) (ds:=[2]) (m:=2) (f:=(λus=>[us.getD 0 undef,Yc (.slice (some ⟨e,0,none⟩) 32 32) (xj).toNat xC.toNat 1])) I R hD (by decide),trivial⟩
  intro a w B D H I hG G
  have d2:=G 2 (by decide)
  have d4:=G 4 (by decide)
  have I:=((I.sure (pre:=[_,_,_,_,_,_]) d2).sure (pre:=[_,_,_,_,_,_,_]) d4).pl
  obtain ⟨aj,ak,I⟩:=M.litOpen I
  have H:=H.setq (t:=19) R ak
  obtain ⟨X,al,d⟩:=p_1 d
  refine Zp H R cb84 (Ug _ p0 o (I.rdo x) ([n,ai] : (List xg)) (Value.slice (some ⟨aj,0,none⟩) 2 2) (BP I.ra0 (I.rawLt (pre:=[])) ⟨I.sl7,Xh (At.sat I.ra1 (by simp) (by decide)) W,trivial⟩ R) X al) ?_
  rintro v w a ⟨rfl,hK⟩ H
  have I:=(I.keep hK).pl5
  refine Zk (seg:=enc X) (cs':=enc X) H I Za R R R Yq (u_1 _) (zle flq) (s_1 _) (Zh flq) λw a I H=>Zj ?_
  obtain rfl:=o_1 d
  refine Zm ?_
  have I:=M.fst (l:=[_]) I
  exact ⟨H.s,I⟩
 rintro a w ⟨H,I⟩
 obtain rfl:=o_1 Z
 have ab : Yb prog _ _ (.cell 6 32) _:=ZG H R Yq R I.ra0 (u_1 _) R
 exact p_3 (ZV H R ab ⟨_,R,R,I.kept⟩)
def X0 (f : (Ref Gengine)) (h : V16) (i : V16) (j : Int) (b : Int × (List UInt8)) : Option (Fl (Int × (List UInt8)) (List UInt8)) :=
 if decide ((b.2.length : Int) < j) then ((slc i.toList (0 : Int) (16 : Int)).bind λd=>(W8 f h ([d,([Zv (WG b.1 8),Zv b.1] : List UInt8)] : (List (List UInt8)))).bind λe=>(slc e.toList (0 : Int) (32 : Int)).bind λc=>(app 1 b.2 c).bind λk=>some (Fl.nx (wr (b.1 + 1),b.2 ++ c))) else (some (Fl.ex b.2))
def WT (e : (Ref Gengine)) (f : V16) (h : V16) (d : Int) : Option ((List UInt8)) :=
 (ZQ (X0 e f h d) (0,([] : List UInt8))).bind λi=>(slc i (0 : Int) d).bind λb=>(Yi b).bind λc=>some c
theorem HY (A : World) (p0 : (Ref Gengine)) (o : Value) (L : Ro A p0 [o]) (B : V16) (C : V16) (W : Int) (r : xg) (J : WT p0 B C W = some r) :
  Calls prog 237 [o,Value.agg (enc B).toArray,Value.agg (enc C).toArray,vI W].toArray A (e_r λv w'=>(∃ y1 : Value,v = y1 ∧ Fr A w' [osl NoB (r : List UInt8) y1] ∧ Kept (Old A) A w')):=by
 refine ce func237 ?_
 intro a H
 have I:=M.start A
 unfold WT at J
 refine Zb (Z2 (cs:=enc B) H I Za ld R R λO w a I H=>Z2 (cs:=enc C) H I Za ld R R λq w a I H=>Zc H R λa H=>Ze (Zb (ZL (xs:=[]) (l:=xx) (vs:=[]) H I Za ld R R o_2 ty5 R (by decide) R λu5 w a I H=>Zc H R λa H=>Ze (s_2 (Zb (Zc H R λa H=>Ze ?_))))))
 obtain ⟨j7,ag,x⟩:=p_1 J
 refine Z7 (λa w=>∃ G : Value,Env 37 a [(3,vI W),(9,G)] ∧ M (Old A) A w [osl NoB (j7 : List UInt8) G]) ?_ ?_
 ·refine p_2 ?_
  have I:=I.pl2.pl2
  refine ZR (λ(b : Int × xg) a w=>∃ h : Value,Env 37 a [(0,o),(3,vI W),(5,ptr O 0),(6,ptr q 0),(9,h),(10,vI b.1)] ∧ M (Old A) A w [raw q (enc C),raw O (enc B),osl NoB (b.2 : List UInt8) h]) ag ⟨u5,H.s,I⟩ ?_
  rintro b a w ⟨h,H,I⟩ a1 d X
  unfold X0 at d
  refine s_2 (Zb (Zd H R λa H=>YE H R o_2 (I.sl2) λa H=>Zd H R λa H=>Zn H R R R λa H=>Ze ?_))
  refine c_if H R d ?_ ?_
  ·intro Y d
   refine u_2 (Zz (s_2 (p_2 (s_2 ?_))))
   obtain ⟨ah,T,d⟩:=p_1 d
   have Z:=Q0 T -- ^
   obtain ⟨K,ai,d⟩:=p_1 d
   refine Yl (its:=[raw q (enc C),raw O (enc B),osl NoB (b.2 : List UInt8) h]) (mk:=([mkO 8 (λv=>osl NoB (([Zv (WG b.1 8),Zv b.1] : List UInt8) : List UInt8) v),mkO 11 (λv=>XS v xr),mkL 9 [8] 2 (λus=>[Yc (.slice (some ⟨q,0,none⟩) 16 16) (xj).toNat xD.toNat 1,us.getD 0 undef])] : Mk)) [19,20,21,22,23,24,25,26,27,28,29,11] Yt R R (by decide) R H (λu=>M.qE (M.qE (M.qE (M.q0 I.drew u) emL) emO) emO) (q_m (λ_=>R) (qsP (λz=>Zx z.E Za ld R ZE R (z.M.ra1) (u_1 _) (kr0 R)) (qsP (λz=>Vf (N:=16) z.E Za ld R R R R R u_3 ty5 Z (kr0 R)) (q_m (λ_=>R) (qsP (v:=(vI (WG b.1 8))) (λz=>BF z.E Za ld R R (Bf _ _ (by decide)) (kr0 R)) (qsP (λz=>YX z.E Za ld R s_5 t_3 (kr0 R)) (q_m (λ_=>R) (qsP (λz=>YX z.E Za ld R s_5 t_3 (kr0 R)) (qsM (pr:=λv=>True) ?_ (qsM (pr:=λv=>True) ?_ (qsP (v:=(Value.agg (enc K).toArray)) ?_ (qsM (pr:=λv=>True) ?_ qs0)))))))))))) ?_
   ·intro a w n D z
    have H:=z.E
    have hD : D 8 = false:=z.F
    have hsL : D 9 = false:=WH (j:=9) (k:=1) z.c R R R hD
    have I:=z.M
    refine ZL (xs:=[.tmp 24,.tmp 26]) (l:=([Zv (WG b.1 8),Zv b.1] : List UInt8)) (vs:=[vB (Zv (WG b.1 8)),vB (Zv b.1)]) H I Za ld R R o_2 ty5 R (by decide) R ?_; intro a2 w a I H
    have I:=M.litOff (its:=_ :: [raw q (enc C),raw O (enc B),osl NoB (b.2 : List UInt8) h]) (mk:=([mkO 8 (λv=>osl NoB (([Zv (WG b.1 8),Zv b.1] : List UInt8) : List UInt8) v),mkO 11 (λv=>XS v xr)] : Mk)) (i:=9) (ds:=[8]) (m:=2) (f:=(λus=>[Yc (.slice (some ⟨q,0,none⟩) 16 16) (xj).toNat xD.toNat 1,us.getD 0 undef])) I hsL
    exact ⟨_,_,R,H,M.litOn (its:=[raw q (enc C),raw O (enc B),osl NoB (b.2 : List UInt8) h]) (mk:=([mkO 8 (λv=>osl NoB (([Zv (WG b.1 8),Zv b.1] : List UInt8) : List UInt8) v),mkO 11 (λv=>XS v xr)] : Mk)) (i:=9) (ds:=[8]) (m:=2) (f:=(λus=>[(Yc (.slice (some ⟨q,0,none⟩) 16 16) (xj).toNat xD.toNat 1),(us.getD 0 undef)])) (M.qFill (its:=[raw q (enc C),raw O (enc B),osl NoB (b.2 : List UInt8) h]) (mk1:=[]) (mk2:=[_]) (f:=(λv=>osl NoB (([Zv (WG b.1 8),Zv b.1] : List UInt8) : List UInt8) v)) I R hD) hsL (by decide),trivial⟩
   ·intro a w n D z
    have H:=z.E
    have hD : D 9 = false:=z.F
    have U : D 8 = true:=z.p 1 _ R R
    have I:=z.M.sure (pre:=[_,_,_]) U
    refine T6 (xs:=[.tmp 21,.tmp 27]) (vs:=[Yc (.slice (some ⟨q,0,none⟩) 16 16) (xj).toNat xD.toNat 1,n 8]) H I Za ld R R u_5 X7 (by decide) (Wh (ZX (Xh (At.sat I.ra0 (by simp) (by decide)) T)) (Wh (ZX (I.sl3)) H2)) ?_; intro a3 w a I H
    have I:=I.unsure (pre:=[_,_,_,_]) U
    exact ⟨_,_,R,H,M.litFill (its:=[raw q (enc C),raw O (enc B),osl NoB (b.2 : List UInt8) h]) (mk:=([mkO 8 (λv=>osl NoB (([Zv (WG b.1 8),Zv b.1] : List UInt8) : List UInt8) v),mkO 11 (λv=>XS v xr)] : Mk)) (i:=9) (ds:=[8]) (m:=2) (f:=(λus=>[Yc (.slice (some ⟨q,0,none⟩) 16 16) (xj).toNat xD.toNat 1,us.getD 0 undef])) I R hD (by decide),trivial⟩
   ·intro a w n D z
    have H:=z.E
    have d9 : D 9 = true:=z.p 2 _ R R
    have U : D 8 = true:=z.c 9 _ _ R (List.mem_of_getElem? (i:=1) R) R d9
    have I:=((z.M.sure (pre:=[_,_,_]) U).sure (pre:=[_,_,_,_,_]) d9).pl
    obtain ⟨aj,ak,I⟩:=M.litOpen I
    refine Zp H (evs_of (evsC R (evsC R (evsC (lk R ak) evsN)))) (cbm func236) (JG _ p0 o (I.rdo L) B ([ah,([Zv (WG b.1 8),Zv b.1] : List UInt8)] : (List xg)) (Value.slice (some ⟨aj,0,none⟩) 2 2) (BP I.ra0 (I.rawLt (pre:=[])) ⟨Xh (At.sat I.ra1 (by simp) (by decide)) T,I.sl4,trivial⟩ R) K ai) ?_
    rintro v w a ⟨rfl,hK⟩ H
    exact ⟨hK,_,R,H⟩
   ·intro a w n D z
    have H:=z.E
    have hD : D 11 = false:=z.F
    have I:=z.M
    refine Zw H I Yq ?_; intro a4 w a I H
    have I:=I.pack1 (it:=XS _ xr) (λw w' fp ⟨b',e,k⟩ hb=>⟨b',e,Yz w w' fp k hb⟩) (λfp k=>⟨_,R,k⟩)
    exact ⟨_,_,R,H,M.qFill (mk1:=[_]) (mk2:=[_]) (f:=λv=>XS v xr) I R hD,trivial⟩
   intro a w n D H I hG y
   have U:=y 8 (by decide)
   have d9:=y 9 (by decide)
   have al:=y 11 (by decide)
   have I:=((I.sure (pre:=[_,_,_]) U).sure (pre:=[_,_,_,_]) al).pl
   obtain ⟨_,⟨am,aa,_⟩,_⟩:=I.head
   have I:=((I.pack1 Yz (it:=raw am xr) (λfp ⟨b2,e2,k2⟩=>by rw [aa] at e2; simp [ptr] at e2; subst e2; exact k2)).sure (pre:=[_,_,_,_,_]) d9).pl
   obtain ⟨a6,ao,I⟩:=M.litOpen I
   have H:=H.setq (t:=28) R ao
   have H:=H.setq (t:=11) R aa
   have I:=I.pl1
   refine Zk (seg:=enc K) (cs':=enc K) H I Za R R R Yq (u_1 _) (zle flq) (s_1 _) (Zh flq) λw a I H=>Zj (Zz (t_1 (Zd H R ?_))); intro a H
   obtain ⟨a7,ab,d⟩:=p_1 d
   have ac:=Q0 ab -- ^
   refine Vf (N:=32) H Za ld R R R R R t_4 ty5 ac ?_; intro a H
   obtain ⟨a8,ap,d⟩:=p_1 d
   obtain ⟨aq,rfl⟩:=Z1 ap
   have I:=I.pl4
   refine Z3 H I Za ld R R (Xh (At.sat I.ra1 (by simp) (by decide)) ab) o_2 ty5 R (by decide) aq λar w a I H=>Zc H R λa H=>Zj (YA (Zz (t_1 (Zd H R λa H=>Zn H R R R λa H=>Zc H R λa H=>Zj (Zm ?_)))))
   have I:=M.fst (l:=[_,_,_]) I.pl4.pl4
   exact ⟨_,ois d,ar,H.s,I⟩
  intro Y d
  refine o_4 (Zu (Zu (YQ ?_)))
  obtain rfl:=X _ (ois d)
  refine Zm ?_
  have I:=M.fst (l:=[_]) I.pl2
  exact ⟨h,H.s,I⟩
 rintro a w ⟨G,H,I⟩
 refine Zz (Zb (Zd H R λa H=>Zd H R ?_)); intro a H
 obtain ⟨au,ad,x⟩:=p_1 x
 refine QZ H Za ld R R R R R o_2 ty5 (I.sl0) ad ?_; intro a H
 obtain ⟨av,aw,x⟩:=p_1 x
 refine Zp H R cb91 (Xq _ au (Yc G (xj).toNat (W).toNat 1) (Xh (I.sl0) ad) av aw) ?_
 rintro ax w a ⟨_,rfl,hFr,hK⟩ H
 have I:=I.add hK hFr
 refine Zc H R λa H=>Ze ?_
 obtain rfl:=o_1 x
 have I:=M.fst (l:=[_]) I
 exact p_3 (ZV H R (ZD H R) ⟨_,R,ax,R,I.outF (ZK Yo),I.kept⟩)
def Xw (e : (List UInt8) × Int × Int) (b : Int × (List UInt8)) : Option (Fl (Int × (List UInt8)) (List UInt8)) :=
 if decide (b.1 < e.2.1) then ((idx e.1 b.1).bind λc=>(idx b.2 b.1).bind λd=>(idx b.2 b.1).bind λf=>some (Fl.nx (wr (b.1 + 1),b.2.set (b.1).toNat (d ^^^ c)))) else (some (Fl.ex b.2))
def Y6 (i : (Ref Gengine)) (j : GVault) (e : GRecord) (f : (List UInt8)) : Option ((List UInt8)) :=
 (Yi f).bind λk=>((idx j.Keys e.Version).bind λc=>(WT i c e.Nonce (f.length : Int)).bind λb=>some (b,(b.length : Int),0) : Option ((List UInt8) × Int × Int)).bind λh=>(ZQ (Xw h) (h.2.2,k)).bind λd=>some d
theorem Tm (c : World) (p0 : (Ref Gengine)) (n : Value) (Y : Ro c p0 [n]) (Z : GVault) (d : Value) (o : Ro c Z.Keys [d]) (e : Value) (al : Ro c Z.Records [e]) (h : Value) (am : Ro c Z.Events [h]) (q : GRecord) (j : Value) (an : Ro c q.Label [j]) (k : Value) (ao : Ro c q.Body [k]) (p3 : xg) (t : Value) (x : Ro c p3 [t]) (r : xg) (J : Y6 p0 Z q p3 = some r) :
  Calls prog 141 [n,vcV d e h Z,vcR j k q,t].toArray c (e_r λv w'=>(∃ y1 : Value,v = y1 ∧ Fr c w' [osl NoB (r : List UInt8) y1] ∧ Kept (Old c) c w')):=by
 refine ce func141 ?_
 intro a H
 have I:=M.start c
 unfold Y6 at J
 refine Zb (Z2 (cs:=cV d e h Z) H I Za ld R R λb1 w a I H=>Z2 (cs:=cR j k q) H I Za ld R R λb3 w a I H=>Zc H R λa H=>Ze (Zb (Zd H R ?_))); intro a H
 obtain ⟨r5,e6,J⟩:=p_1 J
 refine Zp H R cb91 (Xq _ p3 t (I.rdo x) r5 e6) ?_
 rintro u7 w a ⟨_,rfl,hFr,hK⟩ H
 have I:=I.add hK hFr
 refine Zc H R λa H=>Ze (s_2 ?_)
 obtain ⟨j8,y,ac⟩:=p_1 J
 refine ZJ (λa w=>∃ A : Value,Env 41 a [(9,u7),(25,A),(26,vI j8.2.1),(27,vI j8.2.2)] ∧ M (Old c) c w [osl NoB (r5 : List UInt8) u7,osl NoB (j8.1 : List UInt8) A]) ?_ ?_
 ·obtain ⟨aq,T,y⟩:=bix y
  obtain ⟨L,ar,y⟩:=p_1 y
  refine Yl (its:=[osl NoB (r5 : List UInt8) u7,raw b3 (cR j k q),raw b1 (cV d e h Z)]) (mk:=([mkO 11 (λv=>osl NoB (L : List UInt8) v)] : Mk)) [14,15,16,17,18,19,20,21,22,23,24,25,26,27] Yt R R (by decide) R H (λu=>M.qE (M.q0 I.drew u) emO) (q_m (λ_=>R) (qsP (λz=>Zg z.E Za ld R (XA) (kr0 R)) (qsP (λz=>Zy (v:=d) z.E Za ld R T0 R (at_0 (z.M.ra2)) (kr0 R)) (qsP (λz=>Zg z.E Za ld R (Qe) (kr0 R)) (qsP (λz=>Zy (v:=(vI q.Version)) z.E Za ld R ty2 R (at_1 (z.M.ra1)) (kr0 R)) (qsP (λz=>Yu z.E Za ld R R s_3 ZE (z.M.rd o) T.1 (kr0 R)) (qsP (λz=>Zx z.E Za ld R ZE R (Xe (z.M.rd o) T.2) (u_1 _) (kr0 R)) (qsP (λz=>Zg z.E Za ld R (JT) (kr0 R)) (qsP (λz=>Zx z.E Za ld R ZE R (at_2 (z.M.ra1)) (u_1 _) (kr0 R)) (q_m (λ_=>R) (qsP (λz=>WE z.E Za ld R o_2 (z.M.rd x) (kr0 R)) (qsM (pr:=λv=>True) ?_ (qsP (v:=(vI (L.length : Int))) ?_ (q_m (λ_=>R) qs0)))))))))))))) ?_
  ·intro a w B D z
   have H:=z.E
   have hD : D 11 = false:=z.F
   have hM0:=z.M
   have I:=z.M
   refine Zp H R (cbm func237) (HY _ p0 n (I.rdo Y) aq q.Nonce (p3.length : Int) L ar) ?_
   rintro _ w a ⟨_,rfl,hFr,hK⟩ H
   have I:=hM0.add hK hFr
   exact ⟨_,_,R,H,M.qFill (mk1:=[]) (mk2:=[]) (f:=(λv=>osl NoB (L : List UInt8) v)) I R hD,trivial⟩
  ·intro a w B D z
   have H:=z.E
   have aa : D 11 = true:=z.p 0 _ R R
   have I:=z.M.sure (pre:=[_,_,_]) aa
   exact YE H R o_2 (I.sl3) λa H=>⟨o_5 _ _,_,R,H⟩
  intro a w B D H I hG ad
  have aa:=ad 11 (by decide)
  have I:=I.sure (pre:=[_,_,_]) aa
  refine Zj ?_
  obtain rfl:=o_1 y
  refine Zm ?_
  have I:=M.fst (l:=[_,_]) I.pl3.pl1
  exact ⟨B 11,H.s,I⟩
 rintro a w ⟨A,H,I⟩
 obtain ⟨au,ae,af⟩:=p_1 ac
 refine Z7 (λa w=>∃ N : Value,Env 41 a [(9,N)] ∧ M (Old c) c w [osl NoB (au : List UInt8) N]) ?_ ?_
 ·refine p_2 ?_
  have I:=I.pl1
  refine ZR (λ(O : Int × xg) a w=>∃ C : Value,Env 41 a [(9,C),(25,A),(26,vI j8.2.1),(27,vI O.1)] ∧ M (Old c) c w [osl NoB (j8.1 : List UInt8) A,osl NoB (O.2 : List UInt8) C]) ae ⟨u7,H.s,I⟩ ?_
  rintro O a w ⟨C,H,I⟩ a0 b ag
  unfold Xw at b
  refine Zb (Zn H R R R λa H=>Ze (s_2 ?_))
  refine c_if H R b ?_ ?_
  ·intro ah b
   refine u_2 (Zz (s_2 (p_2 (Zb (Zd H R ?_))))); intro a H
   obtain ⟨G,U,b⟩:=bix b
   refine YG H R R o_2 ty5 (I.sl0) U.1 λa H=>ZB (v:=(vB G)) H R ty5 R (Xe (I.sl0) U.2) λa H=>Zc H R λa H=>Zc H R λa H=>Ze (t_1 (Zd H R λa H=>Zd H R ?_)); intro a H
   obtain ⟨K,W,b⟩:=bix b
   refine YG H R R o_2 ty5 (I.sl1) W.1 λa H=>ZB (v:=(vB K)) H R ty5 R (Xe (I.sl1) W.2) λa H=>Zd H R λa H=>Zn H R R (Vs K G) ?_; intro a H
   obtain ⟨av,X,b⟩:=bix b
   refine YG H R R o_2 ty5 (I.sl1) X.1 ?_; intro a H
   have I:=I.pl1
   refine Bj (i:=(O.1).toNat) (k0:=0) (seg:=[vB (K ^^^ G)]) (xo:=av) (xn:=K ^^^ G) H I Za R R R ty5 R (s_1 (K ^^^ G : UInt8)) X.2 (AR (m:=1) R (by decide)) (Zh R) λw a I H=>Zj (YA (Zz (t_1 (Zn H R R R λa H=>Zd H R λa H=>Zj (Zm ?_)))))
   have I:=I.pl1
   exact ⟨_,ois b,C,H.s,I⟩
  intro ah b
  refine o_4 (Zu (Zu (YQ ?_)))
  obtain rfl:=ag _ (ois b)
  refine Zm ?_
  have I:=M.fst (l:=[_]) I.pl1
  exact ⟨C,H.s,I⟩
 rintro a w ⟨N,H,I⟩
 refine Zz (Zb (Zd H R λa H=>Zc H R λa H=>Ze ?_))
 obtain rfl:=o_1 af
 exact p_3 (ZV H R (ZD H R) ⟨_,R,N,R,I.outF (ZK Yo),I.kept⟩)
def YU (j : (Ref Gengine)) (k : GVault) (b : GRecord) : Option (V32) :=
 (idx k.Keys b.Version).bind λl=>(Wm l 129).bind λc=>(Ky 16 c).bind λd=>((Xp b.Number 4).bind λe=>(slc b.Nonce.toList (0 : Int) (16 : Int)).bind λf=>(W8 j d ([e,([Zv b.Version] : List UInt8),f,([Zv (b.Label.length : Int)] : List UInt8),b.Label,b.Body] : (List (List UInt8)))).bind λh=>some h : Option (V32)).bind λi=>some i
theorem Wu (W : World) (p0 : (Ref Gengine)) (X : Value) (ac : Ro W p0 [X]) (L : GVault) (h : Value) (Y : Ro W L.Keys [h]) (n : Value) (an : Ro W L.Records [n]) (o : Value) (ao : Ro W L.Events [o]) (e : GRecord) (b : Value) (O : Ro W e.Label [b]) (d : Value) (Z : Ro W e.Body [d]) (r : V32) (J : YU p0 L e = some r) :
  Calls prog 140 [X,vcV h n o L,vcR b d e].toArray W (Rt W (Value.agg (enc r).toArray)):=by
 refine ce func140 ?_
 intro a H
 have I:=M.start W
 unfold YU at J
 refine Zb (Z2 (cs:=cV h n o L) H I Za ld R R λb1 w a I H=>Z2 (cs:=cR b d e) H I Za ld R R λK w a I H=>Zw H I Yq λU w a I H=>Ze (Zb (Zl H R (XA) λa H=>ZB (v:=h) H R T0 R (at_0 I.ra2) λa H=>Zl H R (Qe) λa H=>ZB (v:=(vI e.Version)) H R ty2 R (at_1 I.ra1) ?_))); intro a H
 obtain ⟨x7,af,J⟩:=bix J
 refine YG H R R s_3 ZE (I.rd Y) af.1 λa H=>Zq H R ZE R (Xe (I.rd Y) af.2) (u_1 _) ?_; intro a H
 obtain ⟨x,ap,J⟩:=p_1 J
 refine Zp H R Zg2 (Kl _ x7 129 x ap) ?_
 rintro y w a ⟨_,rfl,hFr,hK⟩ H
 have I:=I.add hK hFr
 obtain ⟨q,ag,J⟩:=p_1 J
 refine AQ H Za ld R u_3 (I.sl0) (KC ag).1 (by decide) λa H=>Zq H R ZE R (y7 (I.sl0) ag (by decide)) (u_1 _) λa H=>Zw H I ZE λA w a I H=>Zk (seg:=enc q) (cs':=enc q) H I Za R R R ZE (u_1 _) (zle flq) (s_1 _) (Zh flq) λw a I H=>Ze ?_
 obtain ⟨aq,B,ah⟩:=p_1 J
 refine ZJ (λa w=>Env 39 a [(6,ptr U 0)] ∧ M (Old W) W w [raw U (enc aq)]) ?_ ?_
 ·obtain ⟨C,ar,B⟩:=p_1 B
  obtain ⟨au,ad,B⟩:=p_1 B
  have ai:=Q0 ad -- ^
  refine Yl (its:=[raw A (enc q),osl NoB (x : List UInt8) y,raw U xr,raw K (cR b d e),raw b1 (cV h n o L)]) (mk:=([mkO 4 (λv=>osl NoB (C : List UInt8) v),mkO 8 (λv=>osl NoB (([Zv e.Version] : List UInt8) : List UInt8) v),mkO 15 (λv=>osl NoB (([Zv (e.Label.length : Int)] : List UInt8) : List UInt8) v),mkL 20 [4,8,15] 6 (λus=>[us.getD 0 undef,us.getD 1 undef,Yc (.slice (some ⟨K,0 + 2,none⟩) 16 16) (xj).toNat xD.toNat 1,us.getD 2 undef,b,d])] : Mk)) [17,18,19,20,21,22,23,24,25,26,27,28,29,30,31,32,33,34,35,36,37] Yt R R (by decide) R H (λu=>M.qE (M.qE (M.qE (M.qE (M.q0 I.drew u) emL) emO) emO) emO) (q_m (λ_=>R) (qsP (λz=>Zx z.E Za ld R ZE R (z.M.ra0) (u_1 _) (kr0 R)) (qsP (λz=>Zg z.E Za ld R (VS) (kr0 R)) (qsP (λz=>Zy (v:=(vI e.Number)) z.E Za ld R ty2 R (at_0 (z.M.ra3)) (kr0 R)) (qsM (pr:=λv=>True) ?_ (qsP (λz=>Zg z.E Za ld R (Qe) (kr0 R)) (qsP (λz=>Zy (v:=(vI e.Version)) z.E Za ld R ty2 R (at_1 (z.M.ra3)) (kr0 R)) (qsP (λz=>YX z.E Za ld R s_4 t_3 (kr0 R)) (qsM (pr:=λv=>True) ?_ (qsP (λz=>Zg z.E Za ld R (JT) (kr0 R)) (qsP (λz=>Vf (N:=16) z.E Za ld R R R R R u_3 ty5 ai (kr0 R)) (qsP (λz=>Zg z.E Za ld R (Ko) (kr0 R)) (qsP (λz=>Zy (v:=b) z.E Za ld R X7 R (at_3 (z.M.ra3)) (kr0 R)) (qsP (λz=>WE z.E Za ld R o_2 (z.M.rd O) (kr0 R)) (qsP (λz=>YX z.E Za ld R s_5 t_3 (kr0 R)) (qsM (pr:=λv=>True) ?_ (qsP (λz=>Zg z.E Za ld R (Ko) (kr0 R)) (qsP (λz=>Zy (v:=b) z.E Za ld R X7 R (at_3 (z.M.ra3)) (kr0 R)) (qsP (λz=>Zg z.E Za ld R (Uy) (kr0 R)) (qsP (λz=>Zy (v:=d) z.E Za ld R X7 R (at_4 (z.M.ra3)) (kr0 R)) (qsM (pr:=λv=>True) ?_ qs0))))))))))))))))))))) ?_
  ·intro a w G D z
   have H:=z.E
   have hD : D 4 = false:=z.F
   have hsL : D 20 = false:=WH (j:=20) (k:=0) z.c R R R hD
   have hM0:=z.M
   have I:=z.M
   refine Zp H R Zf8 (KB _ e.Number 4 C ar) ?_
   rintro _ w a ⟨_,rfl,hFr,hK⟩ H
   have I:=hM0.add hK hFr
   have I:=M.litOff (its:=_ :: [raw A (enc q),osl NoB (x : List UInt8) y,raw U xr,raw K (cR b d e),raw b1 (cV h n o L)]) (mk:=([mkO 4 (λv=>osl NoB (C : List UInt8) v),mkO 8 (λv=>osl NoB (([Zv e.Version] : List UInt8) : List UInt8) v),mkO 15 (λv=>osl NoB (([Zv (e.Label.length : Int)] : List UInt8) : List UInt8) v)] : Mk)) (i:=20) (ds:=[4,8,15]) (m:=6) (f:=(λus=>[us.getD 0 undef,us.getD 1 undef,Yc (.slice (some ⟨K,0 + 2,none⟩) 16 16) (xj).toNat xD.toNat 1,us.getD 2 undef,b,d])) I hsL
   exact ⟨_,_,R,H,M.litOn (its:=[raw A (enc q),osl NoB (x : List UInt8) y,raw U xr,raw K (cR b d e),raw b1 (cV h n o L)]) (mk:=([mkO 4 (λv=>osl NoB (C : List UInt8) v),mkO 8 (λv=>osl NoB (([Zv e.Version] : List UInt8) : List UInt8) v),mkO 15 (λv=>osl NoB (([Zv (e.Label.length : Int)] : List UInt8) : List UInt8) v)] : Mk)) (i:=20) (ds:=[4,8,15]) (m:=6) (f:=(λus=>[(us.getD 0 undef),(us.getD 1 undef),(Yc (.slice (some ⟨K,0 + 2,none⟩) 16 16) (xj).toNat xD.toNat 1),(us.getD 2 undef),b,d])) (M.qFill (its:=[raw A (enc q),osl NoB (x : List UInt8) y,raw U xr,raw K (cR b d e),raw b1 (cV h n o L)]) (mk1:=[]) (mk2:=[_,_]) (f:=(λv=>osl NoB (C : List UInt8) v)) I R hD) hsL (by decide),trivial⟩
  ·intro a w G D z
   have H:=z.E
   have hD : D 8 = false:=z.F
   have hsL : D 20 = false:=WH (j:=20) (k:=1) z.c R R R hD
   have I:=z.M
   refine ZL (xs:=[.tmp 24]) (l:=([Zv e.Version] : List UInt8)) (vs:=[vB (Zv e.Version)]) H I Za ld R R o_2 ty5 R (by decide) R ?_; intro a0 w a I H
   have I:=M.litOff (its:=_ :: [raw A (enc q),osl NoB (x : List UInt8) y,raw U xr,raw K (cR b d e),raw b1 (cV h n o L)]) (mk:=([mkO 4 (λv=>osl NoB (C : List UInt8) v),mkO 8 (λv=>osl NoB (([Zv e.Version] : List UInt8) : List UInt8) v),mkO 15 (λv=>osl NoB (([Zv (e.Label.length : Int)] : List UInt8) : List UInt8) v)] : Mk)) (i:=20) (ds:=[4,8,15]) (m:=6) (f:=(λus=>[us.getD 0 undef,us.getD 1 undef,Yc (.slice (some ⟨K,0 + 2,none⟩) 16 16) (xj).toNat xD.toNat 1,us.getD 2 undef,b,d])) I hsL
   exact ⟨_,_,R,H,M.litOn (its:=[raw A (enc q),osl NoB (x : List UInt8) y,raw U xr,raw K (cR b d e),raw b1 (cV h n o L)]) (mk:=([mkO 4 (λv=>osl NoB (C : List UInt8) v),mkO 8 (λv=>osl NoB (([Zv e.Version] : List UInt8) : List UInt8) v),mkO 15 (λv=>osl NoB (([Zv (e.Label.length : Int)] : List UInt8) : List UInt8) v)] : Mk)) (i:=20) (ds:=[4,8,15]) (m:=6) (f:=(λus=>[(us.getD 0 undef),(us.getD 1 undef),(Yc (.slice (some ⟨K,0 + 2,none⟩) 16 16) (xj).toNat xD.toNat 1),(us.getD 2 undef),b,d])) (M.qFill (its:=[raw A (enc q),osl NoB (x : List UInt8) y,raw U xr,raw K (cR b d e),raw b1 (cV h n o L)]) (mk1:=[_]) (mk2:=[_]) (f:=(λv=>osl NoB (([Zv e.Version] : List UInt8) : List UInt8) v)) I R hD) hsL (by decide),trivial⟩
  ·intro a w G D z
   have H:=z.E
   have hD : D 15 = false:=z.F
   have hsL : D 20 = false:=WH (j:=20) (k:=3) z.c R R R hD
   have I:=z.M
   refine ZL (xs:=[.tmp 31]) (l:=([Zv (e.Label.length : Int)] : List UInt8)) (vs:=[vB (Zv (e.Label.length : Int))]) H I Za ld R R o_2 ty5 R (by decide) R ?_; intro a1 w a I H
   have I:=M.litOff (its:=_ :: [raw A (enc q),osl NoB (x : List UInt8) y,raw U xr,raw K (cR b d e),raw b1 (cV h n o L)]) (mk:=([mkO 4 (λv=>osl NoB (C : List UInt8) v),mkO 8 (λv=>osl NoB (([Zv e.Version] : List UInt8) : List UInt8) v),mkO 15 (λv=>osl NoB (([Zv (e.Label.length : Int)] : List UInt8) : List UInt8) v)] : Mk)) (i:=20) (ds:=[4,8,15]) (m:=6) (f:=(λus=>[us.getD 0 undef,us.getD 1 undef,Yc (.slice (some ⟨K,0 + 2,none⟩) 16 16) (xj).toNat xD.toNat 1,us.getD 2 undef,b,d])) I hsL
   exact ⟨_,_,R,H,M.litOn (its:=[raw A (enc q),osl NoB (x : List UInt8) y,raw U xr,raw K (cR b d e),raw b1 (cV h n o L)]) (mk:=([mkO 4 (λv=>osl NoB (C : List UInt8) v),mkO 8 (λv=>osl NoB (([Zv e.Version] : List UInt8) : List UInt8) v),mkO 15 (λv=>osl NoB (([Zv (e.Label.length : Int)] : List UInt8) : List UInt8) v)] : Mk)) (i:=20) (ds:=[4,8,15]) (m:=6) (f:=(λus=>[(us.getD 0 undef),(us.getD 1 undef),(Yc (.slice (some ⟨K,0 + 2,none⟩) 16 16) (xj).toNat xD.toNat 1),(us.getD 2 undef),b,d])) (M.qFill (its:=[raw A (enc q),osl NoB (x : List UInt8) y,raw U xr,raw K (cR b d e),raw b1 (cV h n o L)]) (mk1:=[_,_]) (mk2:=[]) (f:=(λv=>osl NoB (([Zv (e.Label.length : Int)] : List UInt8) : List UInt8) v)) I R hD) hsL (by decide),trivial⟩
  ·intro a w G D z
   have H:=z.E
   have hD : D 20 = false:=z.F
   have d4 : D 4 = true:=z.p 0 _ R R
   have d8 : D 8 = true:=z.p 1 _ R R
   have ab : D 15 = true:=z.p 3 _ R R
   have I:=((z.M.sure (pre:=[_,_,_,_,_]) d4).sure (pre:=[_,_,_,_,_,_]) d8).sure (pre:=[_,_,_,_,_,_,_]) ab
   refine T6 (xs:=[.tmp 21,.tmp 25,.tmp 27,.tmp 32,.tmp 34,.tmp 36]) (vs:=[G 4,G 8,Yc (.slice (some ⟨K,0 + 2,none⟩) 16 16) (xj).toNat xD.toNat 1,G 15,b,d]) H I Za ld R R u_5 X7 (by decide) (Wh (ZX (I.sl5)) (Wh (ZX (I.sl6)) (Wh (ZX (Xh (At.sat (at_2 I.ra3) (by simp) (by decide)) ad)) (Wh (ZX (I.sl7)) (Wh (ZX (I.rd O)) (Wh (ZX (I.rd Z)) H2)))))) ?_; intro a2 w a I H
   have I:=((I.unsure (pre:=[_,_,_,_,_,_,_,_]) ab).unsure (pre:=[_,_,_,_,_,_,_]) d8).unsure (pre:=[_,_,_,_,_,_]) d4
   exact ⟨_,_,R,H,M.litFill (its:=[raw A (enc q),osl NoB (x : List UInt8) y,raw U xr,raw K (cR b d e),raw b1 (cV h n o L)]) (mk:=([mkO 4 (λv=>osl NoB (C : List UInt8) v),mkO 8 (λv=>osl NoB (([Zv e.Version] : List UInt8) : List UInt8) v),mkO 15 (λv=>osl NoB (([Zv (e.Label.length : Int)] : List UInt8) : List UInt8) v)] : Mk)) (i:=20) (ds:=[4,8,15]) (m:=6) (f:=(λus=>[us.getD 0 undef,us.getD 1 undef,Yc (.slice (some ⟨K,0 + 2,none⟩) 16 16) (xj).toNat xD.toNat 1,us.getD 2 undef,b,d])) I R hD (by decide),trivial⟩
  intro a w G D H I hG T
  have d4:=T 4 (by decide)
  have d8:=T 8 (by decide)
  have ab:=T 15 (by decide)
  have av:=T 20 (by decide)
  have I:=((((I.sure (pre:=[_,_,_,_,_]) d4).sure (pre:=[_,_,_,_,_,_]) d8).sure (pre:=[_,_,_,_,_,_,_]) ab).sure (pre:=[_,_,_,_,_,_,_,_]) av).pl
  obtain ⟨aw,ax,I⟩:=M.litOpen I
  have H:=H.setq (t:=37) R ax
  obtain ⟨ae,ay,B⟩:=p_1 B
  refine Zp H R (cbm func236) (JG _ p0 X (I.rdo ac) q ([C,([Zv e.Version] : List UInt8),au,([Zv (e.Label.length : Int)] : List UInt8),e.Label,e.Body] : (List xg)) (Value.slice (some ⟨aw,0,none⟩) 6 6) (BP I.ra0 (I.rawLt (pre:=[])) ⟨I.sl6,I.sl7,Xh (At.sat (at_2 I.ra4) (by simp) (by decide)) ad,I.sl8,I.rdo O,I.rdo Z,trivial⟩ R) ae ay) ?_
  rintro v w a ⟨rfl,hK⟩ H
  have I:=(I.keep hK).pl3
  refine Zk (seg:=enc ae) (cs':=enc ae) H I Za R R R Yq (u_1 _) (zle flq) (s_1 _) (Zh flq) λw a I H=>Zj ?_
  obtain rfl:=o_1 B
  refine Zm ?_
  have I:=M.fst (l:=[_]) I
  exact ⟨H.s,I⟩
 rintro a w ⟨H,I⟩
 obtain rfl:=o_1 ah
 have aj : Yb prog _ _ (.cell 6 32) _:=ZG H R Yq R I.ra0 (u_1 _) R
 exact p_3 (ZV H R aj ⟨_,R,R,I.kept⟩)
def Wb (d : (Ref Gengine)) (e : GVault) (b : GRecord) (h : (List UInt8)) : Option (GRecord) :=
 (Y6 d e b h).bind λf=>(YU d e (⟨b.Number,b.Version,b.Nonce,b.Label,f,b.Tag⟩ : GRecord)).bind λc=>some (⟨b.Number,b.Version,b.Nonce,b.Label,f,c⟩ : GRecord)
theorem KU (St : Nat → Prop) (W B : World) (its : List Item) (y : (Ref Gengine)) (h : Value) (j : Rep.sat St W y [h] []) (q : GVault) (d : Value) (k : Rep.sat St W q.Keys [d] []) (e : Value) (l : Rep.sat St W q.Records [e] []) (f : Value) (m : Rep.sat St W q.Events [f] []) (c : GRecord) (b : Value) (i : Value) (z : xg) (n : Value) (t : Rep.sat St W z [n] []) (I : M St W B (own NoB (c.Label : xg) [b] :: own NoB (c.Body : xg) [i] :: its)) (r : GRecord) (J : Wb y q c z = some r) :
  Calls prog 134 [h,vcV d e f q,vcR b i c,n].toArray B (e_r λv w'=>(∃ C E : Value,v = (vcR C E r) ∧ M St W w' (own NoB (r.Label : xg) [C] :: own NoB (r.Body : xg) [E] :: its))):=by
 refine ce func134 ?_
 intro a H
 unfold Wb at J
 refine Zb (Z2 (cs:=cV d e f q) H I Za ld R R λK w a I H=>Z2 (cs:=cR b i c) H I Za ld R R λL w a I H=>Zw H I Yf λN w a I H=>Ze (Zb (Zd H R λa H=>Zq H R ZF R I.ra2 cq λa H=>Zq H R Yf R I.ra1 cq λa H=>Zd H R ?_))); intro a H
 obtain ⟨F,G,J⟩:=p_1 J
 refine Zp H R Zf2 (Tm _ y h (I.rdo j) q d (I.rdo k) e (I.rdo l) f (I.rdo m) c b (I.rn3) i (I.rn4) z n (I.rdo t) F G) ?_
 rintro u w a ⟨_,rfl,hFr,hK⟩ H
 have I:=I.add hK hFr
 refine Zl H R (Uy) ?_; intro a H
 have I:=I.pl2
 refine Zk (seg:=[u]) H I Za R R (ZX (I.sl1)) X7 R (YN (pre:=[[vI c.Number],[vI c.Version],enc c.Nonce,[b]]) ck R) (t_2 (I.sl1)) (Z4 (pre:=[[vI c.Number],[vI c.Version],enc c.Nonce,[b]]) ck R) λw a I H=>Ze (Zb (Zd H R λa H=>Zq H R ZF R I.ra3 cq λa H=>Zq H R Yf R I.ra0 cq ?_)); intro a H
 obtain ⟨o,A,J⟩:=p_1 J
 refine c_k H I R kL (Wu _ y h (I.rdo j) q d (I.rdo k) e (I.rdo l) f (I.rdo m) (⟨c.Number,c.Version,c.Nonce,c.Label,F,c.Tag⟩ : GRecord) b (I.rn4) u (I.sl1) o A) ?_; intro w a I H
 refine Zl H R (Tl) λa H=>Zk (seg:=enc o) H I Za R R R Yq (u_1 _) (YN (pre:=[[vI c.Number],[vI c.Version],enc c.Nonce,[b],[u]]) ck flq) (s_1 _) (Z4 (pre:=[[vI c.Number],[vI c.Version],enc c.Nonce,[b],[u]]) ck flq) λw a I H=>Ze (Zb (Zq H R Yf R I.ra0 cq ?_)); intro a H
 have I:=I.pl2
 refine Zk (seg:=cat [[vI c.Number],[vI c.Version],enc c.Nonce,[b],[u],enc o]) (cs':=cat [[vI c.Number],[vI c.Version],enc c.Nonce,[b],[u],enc o]) H I Za R R R Yf cq (q_1 cq cq) (ZC (cc1 (s_1 (c.Number : Int)) (cc1 (s_1 (c.Version : Int)) (cc1 (s_1 _) (cc1 (t_2 (I.rn4)) (cc1 (t_2 (I.sl2)) (cc1 (s_1 _) cc0))))))) (q_2 cq cq) λw a I H=>Ze ?_
 have I:=I.pl2.toOwn noB
 obtain rfl:=o_1 J
 have x : Yb prog _ _ (.cell 8 98) _:=ZG H R Yf R I.ra1 cq R
 have I:=((((I.pl4.pl5).drop.pl4).drop.pl3).drop.pl2).drop
 exact p_3 (ZV H R x ⟨_,R,b,u,R,I⟩)
def Wy (j : (Ref Gengine)) (i : (List GEvent)) (b : V32 × Int) : Option (Fl (V32 × Int) V32) :=
 if decide (b.2 < (i.length : Int)) then ((idx i b.2).bind λc=>(slc b.1.toList (0 : Int) (32 : Int)).bind λd=>(Xp c.Number 4).bind λe=>(slc c.Tag.toList (0 : Int) (32 : Int)).bind λf=>(Xi j ([d,([Zv c.Kind] : List UInt8),e,f] : (List (List UInt8)))).bind λh=>some (Fl.nx (h,wr (b.2 + 1)))) else (some (Fl.ex b.1))
def X9 (c : (Ref Gengine)) (d : (List GEvent)) : Option (V32) :=
 (mkS 1 (0 : UInt8) 32).bind λe=>(Xi c ([e] : (List (List UInt8)))).bind λf=>(ZQ (Wy c d) (f,0)).bind λb=>some b
theorem Q2 (K : World) (p0 : (Ref Gengine)) (q : Value) (B : Ro K p0 [q]) (p1 : xu) (C : Value) (y : Ro K p1 [C]) (r : V32) (J : X9 p0 p1 = some r) :
  Calls prog 137 [q,C].toArray K (Rt K (Value.agg (enc r).toArray)):=by
 refine ce func137 ?_
 intro a H
 have I:=M.start K
 unfold X9 at J
 refine Zb (Zw H I Yq λA w a I H=>Ze (Zb (Zd H R ?_))); intro a H
 obtain ⟨l3,e4,J⟩:=p_1 J
 refine qJ H I Za ld R R o_2 ty5 R (by decide) (λ_=>Kj.2 ⟨R,R⟩) e4 λu5 w a I H=>T6 (xs:=[.tmp 9]) (vs:=[u5]) H I Za ld R R u_5 X7 (by decide) (Wh (ZX (I.sl0)) H2) ?_; intro b7 w a I H
 obtain ⟨r9,aj,J⟩:=p_1 J
 refine c_k H I R cb84 (Ug _ p0 q (I.rdo B) ([l3] : (List xg)) (Value.slice (some ⟨b7,0,none⟩) 1 1) (BP I.ra0 (I.rawLt (pre:=[])) ⟨I.sl1,trivial⟩ R) r9 aj) ?_; intro w a I H
 refine Zw H I Yq λe w a I H=>Zk (seg:=enc r9) (cs':=enc r9) H I Za R R R Yq (u_1 _) (zle flq) (s_1 _) (Zh flq) λw a I H=>Ze (s_2 (Zb (Zd H R λa H=>YE H R p_4 (I.rd y) λa H=>Zd H R λa H=>Ze ?_)))
 obtain ⟨O,X,Y⟩:=p_1 J
 refine Z7 (λa w=>Env 33 a [(4,ptr A 0),(5,ptr e 0)] ∧ M (Old K) K w [raw e (enc O),raw A xr]) ?_ ?_
 ·refine p_2 ?_
  have I:=M.fst (l:=[_,_]) I.pl3.pl1
  refine ZR (λ(n : V32 × Int) a w=>Env 33 a [(0,q),(4,ptr A 0),(5,ptr e 0),(12,C),(13,vI (p1.length : Int)),(14,vI n.2)] ∧ M (Old K) K w [raw e (enc n.1),raw A xr]) X ⟨H.s,I⟩ ?_
  rintro n a w ⟨H,I⟩ ax d Z
  unfold Wy at d
  refine Zb (Zn H R R R λa H=>Ze (s_2 ?_))
  refine c_if H R d ?_ ?_
  ·intro aa d
   refine u_2 (Zz (s_2 (p_2 (Zb ?_))))
   obtain ⟨b,L,d⟩:=bix d
   refine YG H R R p_4 Wc (I.rd y) L.1 λa H=>Zq H R Wc R (Xe (I.rd y) L.2) cq λa H=>Zw H I Wc λh w a I H=>Zk (seg:=cat [[vI b.Kind],[vI b.Number],enc b.Tag]) (cs':=cat [[vI b.Kind],[vI b.Number],enc b.Tag]) H I Za R R R Wc cq (q_1 cq cq) (ZC (cc1 (s_1 (b.Kind : Int)) (cc1 (s_1 (b.Number : Int)) (cc1 (s_1 _) cc0)))) (q_2 cq cq) λw a I H=>Ze ?_
   obtain ⟨ak,T,d⟩:=p_1 d
   have ab:=Q0 T -- ^
   obtain ⟨o,al,d⟩:=p_1 d
   obtain ⟨am,U,d⟩:=p_1 d
   have ac:=Q0 U -- ^
   refine Yl (its:=[raw h (cat [[vI b.Kind],[vI b.Number],enc b.Tag]),raw e (enc n.1),raw A xr]) (mk:=([mkO 5 (λv=>osl NoB (([Zv b.Kind] : List UInt8) : List UInt8) v),mkO 8 (λv=>osl NoB (o : List UInt8) v),mkL 11 [5,8] 4 (λus=>[Yc (.slice (some ⟨e,0,none⟩) 32 32) (xj).toNat xC.toNat 1,us.getD 0 undef,us.getD 1 undef,Yc (.slice (some ⟨h,0 + 2,none⟩) 32 32) (xj).toNat xC.toNat 1])] : Mk)) [18,19,20,21,22,23,24,25,26,27,28,29] Yt R R (by decide) R H (λu=>M.qE (M.qE (M.qE (M.q0 I.drew u) emL) emO) emO) (q_m (λ_=>R) (qsP (λz=>Vf (N:=32) z.E Za ld R R R R R t_4 ty5 ab (kr0 R)) (qsP (λz=>Zg z.E Za ld R (Hp) (kr0 R)) (qsP (λz=>Zy (v:=(vI b.Kind)) z.E Za ld R ty2 R (at_0 (z.M.ra0)) (kr0 R)) (qsP (λz=>YX z.E Za ld R s_4 t_3 (kr0 R)) (qsM (pr:=λv=>True) ?_ (qsP (λz=>Zg z.E Za ld R (Hk) (kr0 R)) (qsP (λz=>Zy (v:=(vI b.Number)) z.E Za ld R ty2 R (at_1 (z.M.ra0)) (kr0 R)) (qsM (pr:=λv=>True) ?_ (qsP (λz=>Zg z.E Za ld R (qB) (kr0 R)) (qsP (λz=>Vf (N:=32) z.E Za ld R R R R R t_4 ty5 ac (kr0 R)) (qsM (pr:=λv=>True) ?_ qs0)))))))))))) ?_
   ·intro a w x D z
    have H:=z.E
    have hD : D 5 = false:=z.F
    have hsL : D 11 = false:=WH (j:=11) (k:=1) z.c R R R hD
    have I:=z.M
    refine ZL (xs:=[.tmp 22]) (l:=([Zv b.Kind] : List UInt8)) (vs:=[vB (Zv b.Kind)]) H I Za ld R R o_2 ty5 R (by decide) R ?_; intro ay w a I H
    have I:=M.litOff (its:=_ :: [raw h (cat [[vI b.Kind],[vI b.Number],enc b.Tag]),raw e (enc n.1),raw A xr]) (mk:=([mkO 5 (λv=>osl NoB (([Zv b.Kind] : List UInt8) : List UInt8) v),mkO 8 (λv=>osl NoB (o : List UInt8) v)] : Mk)) (i:=11) (ds:=[5,8]) (m:=4) (f:=(λus=>[Yc (.slice (some ⟨e,0,none⟩) 32 32) (xj).toNat xC.toNat 1,us.getD 0 undef,us.getD 1 undef,Yc (.slice (some ⟨h,0 + 2,none⟩) 32 32) (xj).toNat xC.toNat 1])) I hsL
    exact ⟨_,_,R,H,M.litOn (its:=[raw h (cat [[vI b.Kind],[vI b.Number],enc b.Tag]),raw e (enc n.1),raw A xr]) (mk:=([mkO 5 (λv=>osl NoB (([Zv b.Kind] : List UInt8) : List UInt8) v),mkO 8 (λv=>osl NoB (o : List UInt8) v)] : Mk)) (i:=11) (ds:=[5,8]) (m:=4) (f:=(λus=>[(Yc (.slice (some ⟨e,0,none⟩) 32 32) (xj).toNat xC.toNat 1),(us.getD 0 undef),(us.getD 1 undef),(Yc (.slice (some ⟨h,0 + 2,none⟩) 32 32) (xj).toNat xC.toNat 1)])) (M.qFill (its:=[raw h (cat [[vI b.Kind],[vI b.Number],enc b.Tag]),raw e (enc n.1),raw A xr]) (mk1:=[]) (mk2:=[_]) (f:=(λv=>osl NoB (([Zv b.Kind] : List UInt8) : List UInt8) v)) I R hD) hsL (by decide),trivial⟩
   ·intro a w x D z
    have H:=z.E
    have hD : D 8 = false:=z.F
    have hsL : D 11 = false:=WH (j:=11) (k:=2) z.c R R R hD
    have hM0:=z.M
    have I:=z.M
    refine Zp H R Zf8 (KB _ b.Number 4 o al) ?_
    rintro _ w a ⟨_,rfl,hFr,hK⟩ H
    have I:=hM0.add hK hFr
    have I:=M.litOff (its:=_ :: [raw h (cat [[vI b.Kind],[vI b.Number],enc b.Tag]),raw e (enc n.1),raw A xr]) (mk:=([mkO 5 (λv=>osl NoB (([Zv b.Kind] : List UInt8) : List UInt8) v),mkO 8 (λv=>osl NoB (o : List UInt8) v)] : Mk)) (i:=11) (ds:=[5,8]) (m:=4) (f:=(λus=>[Yc (.slice (some ⟨e,0,none⟩) 32 32) (xj).toNat xC.toNat 1,us.getD 0 undef,us.getD 1 undef,Yc (.slice (some ⟨h,0 + 2,none⟩) 32 32) (xj).toNat xC.toNat 1])) I hsL
    exact ⟨_,_,R,H,M.litOn (its:=[raw h (cat [[vI b.Kind],[vI b.Number],enc b.Tag]),raw e (enc n.1),raw A xr]) (mk:=([mkO 5 (λv=>osl NoB (([Zv b.Kind] : List UInt8) : List UInt8) v),mkO 8 (λv=>osl NoB (o : List UInt8) v)] : Mk)) (i:=11) (ds:=[5,8]) (m:=4) (f:=(λus=>[(Yc (.slice (some ⟨e,0,none⟩) 32 32) (xj).toNat xC.toNat 1),(us.getD 0 undef),(us.getD 1 undef),(Yc (.slice (some ⟨h,0 + 2,none⟩) 32 32) (xj).toNat xC.toNat 1)])) (M.qFill (its:=[raw h (cat [[vI b.Kind],[vI b.Number],enc b.Tag]),raw e (enc n.1),raw A xr]) (mk1:=[_]) (mk2:=[]) (f:=(λv=>osl NoB (o : List UInt8) v)) I R hD) hsL (by decide),trivial⟩
   ·intro a w x D z
    have H:=z.E
    have hD : D 11 = false:=z.F
    have d5 : D 5 = true:=z.p 1 _ R R
    have d8 : D 8 = true:=z.p 2 _ R R
    have I:=(z.M.sure (pre:=[_,_,_]) d5).sure (pre:=[_,_,_,_]) d8
    refine T6 (xs:=[.tmp 19,.tmp 23,.tmp 26,.tmp 28]) (vs:=[Yc (.slice (some ⟨e,0,none⟩) 32 32) (xj).toNat xC.toNat 1,x 5,x 8,Yc (.slice (some ⟨h,0 + 2,none⟩) 32 32) (xj).toNat xC.toNat 1]) H I Za ld R R u_5 X7 (by decide) (Wh (ZX (Xh (At.sat I.ra1 (by simp) (by decide)) T)) (Wh (ZX (I.sl3)) (Wh (ZX (I.sl4)) (Wh (ZX (Xh (At.sat (at_2 I.ra0) (by simp) (by decide)) U)) H2)))) ?_; intro az w a I H
    have I:=(I.unsure (pre:=[_,_,_,_,_]) d8).unsure (pre:=[_,_,_,_]) d5
    exact ⟨_,_,R,H,M.litFill (its:=[raw h (cat [[vI b.Kind],[vI b.Number],enc b.Tag]),raw e (enc n.1),raw A xr]) (mk:=([mkO 5 (λv=>osl NoB (([Zv b.Kind] : List UInt8) : List UInt8) v),mkO 8 (λv=>osl NoB (o : List UInt8) v)] : Mk)) (i:=11) (ds:=[5,8]) (m:=4) (f:=(λus=>[Yc (.slice (some ⟨e,0,none⟩) 32 32) (xj).toNat xC.toNat 1,us.getD 0 undef,us.getD 1 undef,Yc (.slice (some ⟨h,0 + 2,none⟩) 32 32) (xj).toNat xC.toNat 1])) I R hD (by decide),trivial⟩
   intro a w x D H I hG G
   have d5:=G 5 (by decide)
   have d8:=G 8 (by decide)
   have an:=G 11 (by decide)
   have I:=(((I.sure (pre:=[_,_,_]) d5).sure (pre:=[_,_,_,_]) d8).sure (pre:=[_,_,_,_,_]) an).pl
   obtain ⟨ao,ap,I⟩:=M.litOpen I
   have H:=H.setq (t:=29) R ap
   obtain ⟨W,aq,d⟩:=p_1 d
   refine Zp H R cb84 (Ug _ p0 q (I.rdo B) ([ak,([Zv b.Kind] : List UInt8),o,am] : (List xg)) (Value.slice (some ⟨ao,0,none⟩) 4 4) (BP I.ra0 (I.rawLt (pre:=[])) ⟨Xh (At.sat I.ra2 (by simp) (by decide)) T,I.sl4,I.sl5,Xh (At.sat (at_2 I.ra1) (by simp) (by decide)) U,trivial⟩ R) W aq) ?_
   rintro v w a ⟨rfl,hK⟩ H
   have I:=(I.keep hK).pl2
   refine Zk (seg:=enc W) (cs':=enc W) H I Za R R R Yq (u_1 _) (zle flq) (s_1 _) (Zh flq) λw a I H=>Zj (YA (Zz (t_1 (Zn H R R R λa H=>Zd H R λa H=>Zj (Zm ?_)))))
   have I:=M.fst (l:=[_,_]) I.pl3.pl1
   exact ⟨_,ois d,H.s,I⟩
  intro aa d
  refine o_4 (Zu (Zu (YQ ?_)))
  obtain rfl:=Z _ (ois d)
  refine Zm ?_
  exact ⟨H.s,I⟩
 rintro a w ⟨H,I⟩
 refine Zz (Zb (Zq H R Yq R I.ra0 (u_1 _) ?_)); intro a H
 have I:=I.pl1
 refine Zk (seg:=enc O) (cs':=enc O) H I Za R R R Yq (u_1 _) (zle flq) (s_1 _) (Zh flq) λw a I H=>Ze ?_
 obtain rfl:=o_1 Y
 have ad : Yb prog _ _ (.cell 4 32) _:=ZG H R Yq R I.ra0 (u_1 _) R
 exact p_3 (ZV H R ad ⟨_,R,R,I.kept⟩)
def YS (e : (Ref Gengine)) (b : GVault) (c : GEvent) : Option (GVault) :=
 (app 48 b.Events ([c] : List GEvent)).bind λf=>(X9 e (b.Events ++ ([c] : List GEvent))).bind λd=>some (⟨b.Keys,b.Next,b.Records,b.Events ++ ([c] : List GEvent),d⟩ : GVault)
theorem UL (St : Nat → Prop) (W u : World) (its : List Item) (n : (Ref Gengine)) (h : Value) (k : Rep.sat St W n [h] []) (e : GVault) (b : Value) (c : Value) (f : Value) (j : GEvent) (I : M St W u (osl NoB (e.Keys : List V16) b :: osl NoB (e.Records : List GRecord) c :: osl NoB (e.Events : List GEvent) f :: its)) (r : GVault) (J : YS n e j = some r) :
  Calls prog 136 [h,vcV b c f e,Value.agg (enc j).toArray].toArray u (e_r λv w'=>(∃ x y z : Value,v = (vcV x y z r) ∧ M St W w' (osl NoB (r.Keys : List V16) x :: osl NoB (r.Records : List GRecord) y :: osl NoB (r.Events : List GEvent) z :: its))):=by
 refine ce func136 ?_
 intro a H
 unfold YS at J
 refine Zb (Z2 (cs:=cV b c f e) H I Za ld R R λA w a I H=>Z2 (cs:=cat [[vI j.Kind],[vI j.Number],enc j.Tag]) H I Za ld R R λB w a I H=>Zw H I ZF λC w a I H=>Ze (Zb (Zl H R (XU) λa H=>ZB (v:=f) H R Qy R (at_3 I.ra2) λa H=>Zq H R Wc R I.ra1 cq λa H=>ZL (xs:=[.tmp 9]) (l:=([j] : List GEvent)) (vs:=[Value.agg (enc j).toArray]) H I Za ld R R p_4 Wc R (by decide) R ?_))); intro E w a I H
 obtain ⟨F,o,J⟩:=p_1 J
 obtain ⟨q,rfl⟩:=Z1 o
 have I:=I.pl6
 refine Z3 H I Za ld R R (I.sl1) p_4 Wc R (by decide) q λd w a I H=>Zl H R (XU) ?_; intro a H
 have I:=I.pl4
 refine Zk (seg:=[d]) H I Za R R (ZX (I.sl1)) Qy R (YN (pre:=[[b],[vI e.Next],[c]]) ck R) (t_2 (I.sl1)) (Z4 (pre:=[[b],[vI e.Next],[c]]) ck R) λw a I H=>Ze (Zb (Zd H R λa H=>Zl H R (XU) λa H=>ZB (v:=d) H R Qy R (at_3 I.ra0) ?_)); intro a H
 obtain ⟨i,t,J⟩:=p_1 J
 refine c_k H I R Zgg (Q2 _ n h (I.rdo k) (e.Events ++ ([j] : List GEvent)) d (I.sl1) i t) ?_; intro w a I H
 refine Zl H R (He) λa H=>Zk (seg:=enc i) H I Za R R R Yq (u_1 _) (YN (pre:=[[b],[vI e.Next],[c],[d]]) ck flq) (s_1 _) (Z4 (pre:=[[b],[vI e.Next],[c],[d]]) ck flq) λw a I H=>Ze (Zb (Zq H R ZF R I.ra0 cq ?_)); intro a H
 have I:=I.pl3
 refine Zk (seg:=cat [[b],[vI e.Next],[c],[d],enc i]) (cs':=cat [[b],[vI e.Next],[c],[d],enc i]) H I Za R R R ZF cq (q_1 cq cq) (ZC (cc1 (t_2 (I.sl5)) (cc1 (s_1 (e.Next : Int)) (cc1 (t_2 (I.sl6)) (cc1 (t_2 (I.sl2)) (cc1 (s_1 _) cc0)))))) (q_2 cq cq) λw a I H=>Ze ?_
 obtain rfl:=o_1 J
 have m : Yb prog _ _ (.cell 6 79) _:=ZG H R ZF R I.ra0 cq R
 have I:=((((I.pl2.pl6.pl6.pl6).drop.pl5).drop.pl4).drop.pl3).drop
 exact p_3 (ZV H R m ⟨_,R,b,c,d,R,I⟩)
def V6 (f : GVault) (n : (List UInt8)) (o : (List UInt8)) (q : V16) : Option (GVault × Int × Int) :=
 (X1 f).bind λt=>if !t then (some ((⟨[],0,[],[],Vector.replicate 32 (0 : UInt8)⟩ : GVault),0,1)) else ((if decide ((o.length : Int) > 200) then (some true) else (some (decide ((n.length : Int) > 32))) : Option (Bool)).bind λi=>if i then (some ((⟨[],0,[],[],Vector.replicate 32 (0 : UInt8)⟩ : GVault),0,2)) else ((XY f q).bind λj=>if j then (some ((⟨[],0,[],[],Vector.replicate 32 (0 : UInt8)⟩ : GVault),0,5)) else ((if (f.Records.length : Int) == 12 then (some true) else (if (f.Events.length : Int) == 60 then (some true) else (some (f.Next == 1000000))) : Option (Bool)).bind λk=>if k then (some ((⟨[],0,[],[],Vector.replicate 32 (0 : UInt8)⟩ : GVault),0,3)) else ((YP).bind λh=>(XE f).bind λd=>(Z6 f.Keys).bind λl=>(Yi n).bind λm=>(Wb h f (⟨f.Next,wr (l - 1),q,m,([] : (List UInt8)),Vector.replicate 32 (0 : UInt8)⟩ : GRecord) o).bind λe=>(app 112 d.Records ([e] : List GRecord)).bind λu=>((YS h (⟨d.Keys,wr (d.Next + 1),d.Records ++ ([e] : List GRecord),d.Events,d.Head⟩ : GVault) (⟨1,e.Number,e.Tag⟩ : GEvent)).bind λb=>some (b.Keys,b.Next,b.Records,b.Events,b.Head,0,e.Number) : Option ((List V16) × Int × (List GRecord) × (List GEvent) × V32 × Int × Int)).bind λc=>some ((⟨c.1,c.2.1,c.2.2.1,c.2.2.2.1,c.2.2.2.2.1⟩ : GVault),c.2.2.2.2.2.2,c.2.2.2.2.2.1)))))
theorem Hy (w0 : World) (p0 : GVault) (N : Value) (aj : Ro w0 p0.Keys [N]) (T : Value) (ak : Ro w0 p0.Records [T]) (W : Value) (al : Ro w0 p0.Events [W]) (p1 : xg) (aw : Value) (a5 : Ro w0 p1 [aw]) (p2 : xg) (ax : Value) (a6 : Ro w0 p2 [ax]) (p3 : V16) (r : GVault × Int × Int) (J : V6 p0 p1 p2 p3 = some r) :
  Calls prog 39 [vcV N T W p0,aw,ax,Value.agg (enc p3).toArray].toArray w0 (e_r λv w'=>(∃ y1 y2 y3 : Value,v = (Value.tuple [vcV y1 y2 y3 r.1,vI r.2.1,vI r.2.2].toArray) ∧ Fr w0 w' [osl NoB (r.1.Keys : List V16) y1,osl NoB (r.1.Records : List GRecord) y2,osl NoB (r.1.Events : List GEvent) y3] ∧ Kept (Old w0) w0 w')):=by
 refine ce func39 ?_
 intro a H
 have I:=M.start w0
 unfold V6 at J
 refine Zb (Z2 (cs:=cV N T W p0) H I Za ld R R λb1 w a I H=>Z2 (cs:=enc p3) H I Za ld R R λb3 w a I H=>Zw H I ZF λb5 w a I H=>Zc H R λa H=>Zc H R λa H=>Ze (s_2 (p_2 (Zb (Zq H R ZF R I.ra2 cq ?_))))); intro a H
 obtain ⟨r7,e8,J⟩:=p_1 J
 refine c_k H I R cb48 (UX _ p0 N (I.rdo aj) T (I.rdo ak) W (I.rdo al) r7 e8) ?_; intro w a I H
 refine JD H R λa H=>Zc H R λa H=>Ze ?_
 refine c_if H R J ?_ ?_
 ·intro b8 J
  refine Zb (ZY (parts:=[]) (vs:=[]) (cs:=cat xa) H Za ld R R ZF Kd Yp λa H=>Zk (seg:=cat xa) (cs':=cat xa) H I Za R R R ZF cq (q_1 cq cq) (ZC (cc1 ZN (cc1 (s_1 xj) (cc1 ZN (cc1 ZN (cc1 (s_1 _) cc0)))))) (q_2 cq cq) λw a I H=>Zc H R λa H=>Zc H R λa H=>Ze ?_)
  have I:=M.nilS (α:=GEvent) NoB noB (M.nilS (α:=GRecord) NoB noB (M.nilS (α:=V16) NoB noB I))
  obtain rfl:=o_1 J
  have an : Yb prog _ _ (.cell 8 79) _:=ZG H R ZF R I.ra3 cq R
  have I:=M.fst (l:=[_,_,_]) I.pl1.pl2
  exact p_3 (Xl (ZI (JR H R an (ZD H R) (ZD H R) ⟨_,R,xd,xd,xd,R,I.outF (ZK (ZK (ZK Yo))),I.kept⟩)))
 intro b8 J
 obtain ⟨b9,ao,Y⟩:=p_1 J
 refine ZJ (λa w=>Env 88 a [(1,aw),(2,ax),(4,ptr b1 0),(7,ptr b3 0),(8,ptr b5 0),(19,vT b9)] ∧ M (Old w0) w0 w [raw b5 xi,raw b3 (enc p3),raw b1 (cV N T W p0)]) ?_ ?_
 ·refine t_1 (Zd H R λa H=>YE H R o_2 (I.rd a6) λa H=>Zn H R R R λa H=>Zd H R ?_); intro a H
  refine Ys (decide ((p2.length : Int) > 200)) (λZ=>?_) (λZ=>?_)
  ·have ao:=Zt ao Z
   refine k_s H Z R R R λa H=>k_s H Z R R R λa H=>k_s H Z R R R λa H=>ZU H (lkb R Z) R λa H=>Zc H R λa H=>Zj ?_
   obtain rfl:=o_1 ao
   refine Zm ?_
   exact ⟨H.s,I⟩
  have ao:=Zs ao Z
  refine Zo H (Zi H R (lkb R Z)) (by decide) R λa H=>WE H (Zi H R (lkb R Z)) (by decide) R o_2 (I.rd a5) λa H=>Z8 H (Zi H R (lkb R Z)) (by decide) R R R λa H=>Ye H (lkb R Z) R λa H=>Zc H R λa H=>Zj ?_
  obtain rfl:=o_1 ao
  refine Zm ?_
  exact ⟨H.s,I⟩
 rintro a w ⟨H,I⟩
 refine c_if H R Y ?_ ?_
 ·intro bo Y
  refine Zb (ZY (parts:=[]) (vs:=[]) (cs:=cat xa) H Za ld R R ZF Kd Yp λa H=>Zk (seg:=cat xa) (cs':=cat xa) H I Za R R R ZF cq (q_1 cq cq) (ZC (cc1 ZN (cc1 (s_1 xj) (cc1 ZN (cc1 ZN (cc1 (s_1 _) cc0)))))) (q_2 cq cq) λw a I H=>Zc H R λa H=>Zc H R λa H=>Ze ?_)
  have I:=M.nilS (α:=GEvent) NoB noB (M.nilS (α:=GRecord) NoB noB (M.nilS (α:=V16) NoB noB I))
  obtain rfl:=o_1 Y
  have bp : Yb prog _ _ (.cell 8 79) _:=ZG H R ZF R I.ra3 cq R
  have I:=M.fst (l:=[_,_,_]) I.pl1.pl2
  exact p_3 (Xl (ZI (JR H R bp (ZD H R) (ZD H R) ⟨_,R,xd,xd,xd,R,I.outF (ZK (ZK (ZK Yo))),I.kept⟩)))
 intro bo Y
 refine Zb (Zq H R ZF R I.ra2 cq λa H=>Zq H R ZE R I.ra1 (u_1 _) ?_); intro a H
 obtain ⟨ca,cb,Y⟩:=p_1 Y
 refine c_k H I R (cbm func131) (Kz _ p0 N (I.rdo aj) T (I.rdo ak) W (I.rdo al) p3 ca cb) ?_; intro w a I H
 refine Zc H R λa H=>Ze ?_
 refine c_if H R Y ?_ ?_
 ·intro bq Y
  refine Zb (ZY (parts:=[]) (vs:=[]) (cs:=cat xa) H Za ld R R ZF Kd Yp λa H=>Zk (seg:=cat xa) (cs':=cat xa) H I Za R R R ZF cq (q_1 cq cq) (ZC (cc1 ZN (cc1 (s_1 xj) (cc1 ZN (cc1 ZN (cc1 (s_1 _) cc0)))))) (q_2 cq cq) λw a I H=>Zc H R λa H=>Zc H R λa H=>Ze ?_)
  have I:=M.nilS (α:=GEvent) NoB noB (M.nilS (α:=GRecord) NoB noB (M.nilS (α:=V16) NoB noB I))
  obtain rfl:=o_1 Y
  have br : Yb prog _ _ (.cell 8 79) _:=ZG H R ZF R I.ra3 cq R
  have I:=M.fst (l:=[_,_,_]) I.pl1.pl2
  exact p_3 (Xl (ZI (JR H R br (ZD H R) (ZD H R) ⟨_,R,xd,xd,xd,R,I.outF (ZK (ZK (ZK Yo))),I.kept⟩)))
 intro bq Y
 obtain ⟨cc,aa,U⟩:=p_1 Y
 refine ZJ (λa w=>Env 88 a [(1,aw),(2,ax),(4,ptr b1 0),(7,ptr b3 0),(8,ptr b5 0),(34,vT cc)] ∧ M (Old w0) w0 w [raw b5 xi,raw b3 (enc p3),raw b1 (cV N T W p0)]) ?_ ?_
 ·refine t_1 (Zl H R (Yn) λa H=>ZB (v:=T) H R XO R (at_2 I.ra2) λa H=>YE H R o_3 (I.rd ak) λa H=>Zn H R R R λa H=>Zd H R ?_); intro a H
  refine Ys ((p0.Records.length : Int) == 12) (λX=>?_) (λX=>?_)
  ·have aa:=Zt aa X
   refine k_s H X R R R λa H=>k_s H X R R R λa H=>k_s H X R R R λa H=>k_s H X R R R λa H=>ZU H (lkb R X) R λa H=>Zd H R λa H=>Zf H R R R (by decide) λa H=>Zf H R R R (by decide) λa H=>Zf H R R R (by decide) λa H=>ZU H R R λa H=>Zc H R λa H=>Zj ?_
   obtain rfl:=o_1 aa
   refine Zm ?_
   exact ⟨H.s,I⟩
  have aa:=Zs aa X
  refine Zg H (Zi H R (lkb R X)) (by decide) R (XU) λa H=>Zy (v:=W) H (Zi H R (lkb R X)) (by decide) R Qy R (at_3 I.ra2) λa H=>WE H (Zi H R (lkb R X)) (by decide) R p_4 (I.rd al) λa H=>Z8 H (Zi H R (lkb R X)) (by decide) R R R λa H=>Ye H (lkb R X) R λa H=>Zd H R ?_; intro a H
  refine Ys ((p0.Events.length : Int) == 60) (λab=>?_) (λab=>?_)
  ·have aa:=Zt aa ab
   refine k_s H ab R R R λa H=>k_s H ab R R R λa H=>k_s H ab R R R λa H=>ZU H (lkb R ab) R λa H=>Zc H R λa H=>Zj ?_
   obtain rfl:=o_1 aa
   refine Zm ?_
   exact ⟨H.s,I⟩
  have aa:=Zs aa ab
  refine Zg H (Zi H R (lkb R ab)) (by decide) R (UA) λa H=>Zy (v:=(vI p0.Next)) H (Zi H R (lkb R ab)) (by decide) R ty2 R (at_1 I.ra2) λa H=>Z8 H (Zi H R (lkb R ab)) (by decide) R R R λa H=>Ye H (lkb R ab) R λa H=>Zc H R λa H=>Zj ?_
  obtain rfl:=o_1 aa
  refine Zm ?_
  exact ⟨H.s,I⟩
 rintro a w ⟨H,I⟩
 refine c_if H R U ?_ ?_
 ·intro bs U
  refine Zb (ZY (parts:=[]) (vs:=[]) (cs:=cat xa) H Za ld R R ZF Kd Yp λa H=>Zk (seg:=cat xa) (cs':=cat xa) H I Za R R R ZF cq (q_1 cq cq) (ZC (cc1 ZN (cc1 (s_1 xj) (cc1 ZN (cc1 ZN (cc1 (s_1 _) cc0)))))) (q_2 cq cq) λw a I H=>Zc H R λa H=>Zc H R λa H=>Ze ?_)
  have I:=M.nilS (α:=GEvent) NoB noB (M.nilS (α:=GRecord) NoB noB (M.nilS (α:=V16) NoB noB I))
  obtain rfl:=o_1 U
  have bt : Yb prog _ _ (.cell 8 79) _:=ZG H R ZF R I.ra3 cq R
  have I:=M.fst (l:=[_,_,_]) I.pl1.pl2
  exact p_3 (Xl (ZI (JR H R bt (ZD H R) (ZD H R) ⟨_,R,xd,xd,xd,R,I.outF (ZK (ZK (ZK Yo))),I.kept⟩)))
 intro bs U
 refine u_2 (YA (Zz (s_2 ?_)))
 obtain ⟨am,cd,U⟩:=p_1 U
 obtain ⟨y,cf,U⟩:=p_1 U
 refine Yl (its:=[raw b5 xi,raw b3 (enc p3),raw b1 (cV N T W p0)]) (mk:=([mkO 0 (λv=>own NoB (am : (Ref Gengine)) [v]),mkO 2 (λv=>own NoB y (Value.cells v).toList),mkO 3 (λv=>XS v xi)] : Mk)) [51,52,53,12] Yt R R (by decide) R H (λu=>M.qE (M.qE (M.qE (M.q0 I.drew u) emO) emO) emO) (qsM (pr:=λv=>True) ?_ (qsP (λz=>Zx z.E Za ld R ZF R (z.M.ra2) cq (kr0 R)) (qsM (pr:=λv=>∃ cs,v = .agg cs) ?_ (qsM (pr:=λv=>True) ?_ qs0)))) ?_
 ·intro a w ac D z
  have H:=z.E
  have hD : D 0 = false:=z.F
  have hM0:=z.M
  have I:=z.M
  refine Zp H R zU (Xz _  am cd) ?_
  rintro _ w a ⟨_,rfl,hFr,hK⟩ H
  have I:=hM0.add hK hFr
  exact ⟨_,_,R,H,M.qFill (mk1:=[]) (mk2:=[_,_]) (f:=(λv=>own NoB (am : (Ref Gengine)) [v])) I R hD,trivial⟩
 ·intro a w ac D z
  have H:=z.E
  have hD : D 2 = false:=z.F
  have hM0:=z.M
  have I:=z.M
  refine Zp H R Zd0 (Ti _ p0 N (I.rdo aj) T (I.rdo ak) W (I.rdo al) y cf) ?_
  rintro _ w a ⟨c1,c2,c3,rfl,hFr,hK⟩ H
  have I:=V4 (x:=y) (hM0.add hK hFr) sio sio sio
  exact ⟨_,_,R,H,M.qFill (mk1:=[_]) (mk2:=[_]) (f:=(λv=>own NoB y (Value.cells v).toList)) I R hD,⟨_,R⟩⟩
 ·intro a w ac D z
  have H:=z.E
  have hD : D 3 = false:=z.F
  have I:=z.M
  refine Zw H I ZF ?_; intro c4 w a I H
  have I:=I.pack1 (it:=XS _ xi) (λw w' fp ⟨b',e,k⟩ hb=>⟨b',e,Yz w w' fp k hb⟩) (λfp k=>⟨_,R,k⟩)
  exact ⟨_,_,R,H,M.qFill (mk1:=[_,_]) (mk2:=[]) (f:=λv=>XS v xi) I R hD,trivial⟩
 intro a w ac D H I hG ag
 have d0:=ag 0 (by decide)
 have d2:=ag 2 (by decide)
 have d3:=ag 3 (by decide)
 have I:=(((I.sure (pre:=[_,_,_]) d0).sure (pre:=[_,_,_,_]) d2).sure (pre:=[_,_,_,_,_]) d3).pl
 obtain ⟨_,⟨a2,bu,_⟩,_⟩:=I.head
 have I:=I.pack1 Yz (it:=raw a2 xi) (λfp ⟨b2,e2,k2⟩=>by rw [bu] at e2; simp [ptr] at e2; subst e2; exact k2)
 obtain ⟨d,O,n,az,_,_,_⟩:=Xx (I.rn5)
 have bg : (ac 2) = (vcV d O n y):=Jw az (hG 2 d2 _ R).2
 have I:=I.pl5
 have I:=V9 (I.recown (congrArg (λv=>(Value.cells v).toList) bg))
 have H:=H.setq (t:=53) R bg
 have H:=H.setq (t:=12) R bu
 refine Zc H R ?_; intro a H
 have I:=I.pl3
 refine Zk (seg:=cV d O n y) (cs':=cV d O n y) H I Za R R R ZF cq (q_1 cq cq) (ZC (cc1 (t_2 (I.rn1)) (cc1 (s_1 (y.Next : Int)) (cc1 (t_2 (I.rn2)) (cc1 (t_2 (I.rn3)) (cc1 (s_1 _) cc0)))))) (q_2 cq cq) λw a I H=>Zj (Zz (s_2 ?_))
 obtain ⟨ap,ch,U⟩:=p_1 U
 obtain ⟨bj,ci,U⟩:=p_1 U
 obtain ⟨B,cj,U⟩:=p_1 U
 refine Yl (its:=[raw a2 (cV d O n y),own NoB (y.Keys : xv) [d],own NoB (y.Records : (List GRecord)) [O],own NoB (y.Events : xu) [n],raw b5 xi,raw b3 (enc p3),raw b1 (cV N T W p0),own NoB (am : (Ref Gengine)) [ac 0]]) (mk:=([mkN [(13,λv=>own NoB B (Value.cells v).toList),(10,λv=>osl NoB (bj : List UInt8) v)],mkO 14 (λv=>XS v xh)] : Mk)) [54,55,56,57,58,59,60,61,62,63,64,65,66,67,13] Yt R R (by decide) R H (λu=>M.qE (M.qE (M.q0 I.drew u) emO) emN) (q_m (λ_=>R) (qsP (λz=>Zx z.E Za ld R ZF R (z.M.ra6) cq (kr0 R)) (qsP (λz=>Zg z.E Za ld R (UA) (kr0 R)) (qsP (λz=>Zy (v:=(vI p0.Next)) z.E Za ld R ty2 R (at_1 (z.M.ra6)) (kr0 R)) (qsP (λz=>Zg z.E Za ld R (XA) (kr0 R)) (qsP (λz=>Zy (v:=N) z.E Za ld R T0 R (at_0 (z.M.ra6)) (kr0 R)) (qsP (λz=>Yd z.E Za ld R AE (YD _ p0.Keys N (z.M.rdo aj) ap ch) (kc R)) (qsP (v:=(vI (wr (ap - 1)))) (λz=>Z8 z.E Za ld R R R (kr0 R)) (qsP (λz=>Zx z.E Za ld R ZE R (z.M.ra5) (u_1 _) (kr0 R)) (q_m (λ_=>R) (qsM (pr:=λv=>True) ?_ (qsD (ds:=[10]) (f:=λus=>(Value.agg (cat [[vI p0.Next],[vI (wr (ap - 1))],enc p3,[us.getD 0 undef],[xd],enc xc]).toArray)) ?_ (q_m (λ_=>R) (qsM (pr:=λv=>∃ cs,v = .agg cs) ?_ (qsM (pr:=λv=>True) ?_ qs0))))))))))))))) ?_
 ·intro a w ah D z
  have H:=z.E
  have hD : D 10 = false:=z.F
  have hM0:=z.M
  have I:=z.M
  refine Zp H R cb91 (Xq _ p1 aw (I.rdo a5) bj ci) ?_
  rintro _ w a ⟨_,rfl,hFr,hK⟩ H
  have I:=hM0.add hK hFr
  have an : D 13 = false:=WH (j:=13) (k:=4) z.c R R R hD
  exact ⟨_,_,R,H,M.qPut (mk1:=[]) (mk2:=[_]) I R (Bp (HH an (HH hD HK))) (K7 (l:=[_]) (HH an HK)),trivial⟩
 ·intro a w ah D z
  have H:=z.E
  have hD : D 11 = false:=z.F
  have a3 : D 10 = true:=z.p 3 _ R R
  have I:=z.M
  have an : D 13 = false:=WH (j:=13) (k:=2) z.c R R R hD
  have I:=(I.chnF (pre:=[_,_,_,_,_,_,_,_]) an).chnT (pre:=[_,_,_,_,_,_,_,_]) a3
  exact ZY (parts:=[(0,.tmp 57),(1,.tmp 61),(2,.tmp 62),(3,.tmp 64)]) (vs:=[(0,vI p0.Next),(1,vI (wr (ap - 1))),(2,Value.agg (enc p3).toArray),(3,ah 10)]) (cs:=cat [[vI p0.Next],[vI (wr (ap - 1))],enc p3,[ah 10],[xd],enc xc]) H Za ld R R Yf pl98 (ZT (pre:=[]) (seg:=[vI 0]) (seg':=[vI p0.Next]) (post:=[[vI 0],enc xb,[xd],[xd],enc xc]) R cl0 R R R (ZT (pre:=[[vI p0.Next]]) (seg:=[vI 0]) (seg':=[vI (wr (ap - 1))]) (post:=[enc xb,[xd],[xd],enc xc]) R ck R R R (ZT (pre:=[[vI p0.Next],[vI (wr (ap - 1))]]) (seg:=enc xb) (seg':=enc p3) (post:=[[xd],[xd],enc xc]) R ck (u_1 _) (u_1 _) R (ZT (pre:=[[vI p0.Next],[vI (wr (ap - 1))],enc p3]) (seg:=[xd]) (seg':=[ah 10]) (post:=[[xd],enc xc]) R ck R R (ZX (I.sl8)) Yp)))) λa H=>⟨o_5 _ _,J8 a3 HJ,_,R,H⟩
 ·intro a w ah D z
  have H:=z.E
  have hD : D 13 = false:=z.F
  have cl : D 11 = true:=z.p 2 _ R R
  have a3 : D 10 = true:=z.c 11 _ _ R (List.mem_of_getElem? (i:=3) R) R cl
  have hM0:=z.M
  have I:=(((M.nilS (α:=UInt8) NoB noB ((((z.M.chnF (pre:=[_,_,_,_,_,_,_,_]) hD).chnT (pre:=[_,_,_,_,_,_,_,_]) a3).pl8).toOwn noB)).toOwn noB).pl1).pl9
  have hM0:=I
  obtain ⟨S71,a1,bv,I,bk⟩:=M.freeze [_,_] I noB
  refine Zp H R (cbm func134) (KU _ _ _ _ am (ac 0) bv p0 N (hM0.rdw aj (λb hb=>a1 b (hb))) T (hM0.rdw ak (λb hb=>a1 b (hb))) W (hM0.rdw al (λb hb=>a1 b (hb))) (⟨p0.Next,wr (ap - 1),p3,bj,([] : xg),xc⟩ : GRecord) (ah 10) xd p2 ax (hM0.rdw a6 (λb hb=>a1 b (hb))) I B cj) ?_
  rintro v w a ⟨c8,c9,rfl,I⟩ H
  have I:=bk _ [_,_] (Jd (Jd Yo)) I
  simp only [List.cons_append,List.nil_append] at I
  have I:=(((((((((VP (x:=B) I.pl2.pl2 siw siw).pl1).pl8).pl8).pl8).pl8).pl8).pl8).pl8).pl8
  exact ⟨_,_,R,H,M.qTogS (mk1:=[]) (mk2:=[_]) I R (K7 (l:=[]) HK),⟨_,R⟩⟩
 ·intro a w ah D z
  have H:=z.E
  have hD : D 14 = false:=z.F
  have I:=z.M
  refine Zw H I Yf ?_; intro da w a I H
  have I:=I.pack1 (it:=XS _ xh) (λw w' fp ⟨b',e,k⟩ hb=>⟨b',e,Yz w w' fp k hb⟩) (λfp k=>⟨_,R,k⟩)
  exact ⟨_,_,R,H,M.qFill (mk1:=[_]) (mk2:=[]) (f:=λv=>XS v xh) I R hD,trivial⟩
 intro a w ah D H I hG ag
 have bw:=ag 13 (by decide)
 have cm:=ag 14 (by decide)
 have I:=((I.chnT (pre:=[_,_,_,_,_,_,_,_]) bw).sure (pre:=[_,_,_,_,_,_,_,_,_]) cm).pl
 obtain ⟨_,⟨a7,bx,_⟩,_⟩:=I.head
 have I:=I.pack1 Yz (it:=raw a7 xh) (λfp ⟨b2,e2,k2⟩=>by rw [bx] at e2; simp [ptr] at e2; subst e2; exact k2)
 obtain ⟨o,q,az,_,_⟩:=YV (I.rn9)
 have bh : (ah 13) = (vcR o q B):=Jw az (hG 13 bw _ R).2
 have I:=I.pl9
 have I:=T3 (I.recown (congrArg (λv=>(Value.cells v).toList) bh))
 have H:=H.setq (t:=67) R bh
 have H:=H.setq (t:=13) R bx
 have I:=I.pl2
 refine Zk (seg:=cR o q B) (cs':=cR o q B) H I Za R R R Yf cq (q_1 cq cq) (ZC (cc1 (s_1 (B.Number : Int)) (cc1 (s_1 (B.Version : Int)) (cc1 (s_1 _) (cc1 (t_2 (I.rn1)) (cc1 (t_2 (I.rn2)) (cc1 (s_1 _) cc0))))))) (q_2 cq cq) λw a I H=>Zj (Zz (Zb (Zl H R (Yn) λa H=>ZB (v:=O) H R XO R (at_2 I.ra3) λa H=>Zq H R Yf R I.ra0 cq ?_))); intro a H
 have I:=I.pl2.pl2
 have I:=I.pack2 (it:=own NoB B (cR o q B)) (X4 noB) (λf0 f1 q0 q1=>(KD q0 q1 (by simp)))
 refine Js (xs:=[.tmp 70]) (seg:=cR o q B) H I noB Za ld R R o_3 Yf R (by decide) ?_; intro u84 w a I H
 have I:=I.pl4.toOsl0
 obtain ⟨db,cn,U⟩:=p_1 U
 obtain ⟨co,rfl⟩:=Z1 cn
 have I:=I.pl1.pl1
 refine KL H I noB Za ld R R o_3 Yf R (by decide) co λu88 w a I H=>Zl H R (Yn) ?_; intro a H
 have I:=I.pl2
 refine Zk (seg:=[u88]) H I Za R R (ZX (I.sl1)) XO R (YN (pre:=[[d],[vI y.Next]]) ck R) (t_2 (I.sl1)) (Z4 (pre:=[[d],[vI y.Next]]) ck R) λw a I H=>Ze (Zb (Zl H R (UA) λa H=>ZB (v:=(vI y.Next)) H R ty2 R (at_1 I.ra0) λa H=>Zn H R R R λa H=>Zl H R (UA) λa H=>Zk (seg:=[vI (wr (y.Next + 1))]) H I Za R R R ty2 R (YN (pre:=[[d]]) ck R) (s_1 (wr (y.Next + 1) : Int)) (Z4 (pre:=[[d]]) ck R) λw a I H=>Ze ?_))
 obtain ⟨a0,a8,bz⟩:=p_1 U
 refine ZJ (λa w=>∃ bb bc bd : Value,Env 88 a [(8,ptr b5 0),(9,vI a0.2.2.2.2.2.2),(10,vI a0.2.2.2.2.2.1)] ∧ M (Old w0) w0 w [raw b5 (cat [[bb],[vI a0.2.1],[bc],[bd],enc a0.2.2.2.2.1]),osl NoB (a0.1 : List V16) bb,osl NoB (a0.2.2.1 : List GRecord) bc,osl NoB (a0.2.2.2.1 : List GEvent) bd]) ?_ ?_
 ·have I:=I.pl5.pl5.pl3.pl5
  have I:=I.packL (m:=[_,_,_]) (it:=J1 NoB [_,_,_]) (JW.mono noB) (λfp h=>Xm.reloc h (Jd (ZK (Jd Yo))))
  obtain ⟨ad,b0,a8⟩:=p_1 a8
  refine Yl (its:=[raw a2 (cat [[d],[vI (wr (y.Next + 1))],[u88],[n],enc y.Head]),raw a7 (cR o q B),raw b3 (enc p3),raw b1 (cV N T W p0),own NoB (am : (Ref Gengine)) [ac 0]]) (mk:=([mkW 10 7 b5 xi (λv=>(Value.cells v).toList),mkU 7 (J1 NoB [own NoB (y.Keys : xv) [d],osl NoB ((y.Records ++ ([B] : List GRecord)) : List GRecord) u88,own NoB (y.Events : xu) [n]]) (λv=>own NoB ad (Value.cells v).toList)] : Mk)) [78,79,80,81,82,83,84,85,86,87,98] Yt R R (by decide) R H (λu=>M.qS (M.qS (M.q0 I.drew u) λ_=>R) λ_=>R) (q_m (λ_=>R) (qsP (v:=(Value.agg (cat [[d],[vI (wr (y.Next + 1))],[u88],[n],enc y.Head]).toArray)) ?_ (qsP (λz=>Zg z.E Za ld R (VS) (kr0 R)) (qsP (v:=(vI B.Number)) ?_ (qsP (λz=>Zg z.E Za ld R (Tl) (kr0 R)) (qsP (v:=(Value.agg (enc B.Tag).toArray)) ?_ (qsP (λz=>ZY (parts:=[(0,.const (vI 1)),(1,.tmp 81),(2,.tmp 83)]) (vs:=[(0,vI 1),(1,vI B.Number),(2,Value.agg (enc B.Tag).toArray)]) (cs:=cat [[vI 1],[vI B.Number],enc B.Tag]) z.E Za ld R R Wc kS (ZT (pre:=[]) (seg:=[vI 0]) (seg':=[vI 1]) (post:=[[vI 0],enc xc]) R cl0 R R R (ZT (pre:=[[vI 1]]) (seg:=[vI 0]) (seg':=[vI B.Number]) (post:=[enc xc]) R ck R R R (ZT (pre:=[[vI 1],[vI B.Number]]) (seg:=enc xc) (seg':=enc B.Tag) (post:=[]) R ck (u_1 _) (u_1 _) R Yp))) (kr0 R)) (qsM (pr:=λv=>∃ cs,v = .agg cs) ?_ (qsP (λz=>Zg z.E Za ld R (VS) (kr0 R)) (qsP (λz=>Zy (v:=(vI B.Number)) z.E Za ld R ty2 R (at_0 (z.M.ra1)) (kr0 R)) (qsM (pr:=λv=>True) ?_ qs0))))))))))) ?_
  ·intro a w ae D z
   have H:=z.E
   have hD : D 1 = false:=z.F
   have I:=z.M.togA (pre:=[_,_,_,_,_]) (WH (j:=10) (k:=3) z.c R R R hD)
   exact Zq H R ZF R I.ra0 cq λa H=>⟨o_5 _ _,_,R,H⟩
  ·intro a w ae D z
   have H:=z.E
   have hD : D 3 = false:=z.F
   have I:=z.M.togA (pre:=[_,_,_,_,_]) (WH (j:=10) (k:=5) z.c R R R hD)
   exact ZB (v:=(vI B.Number)) H R ty2 R (at_0 I.ra1) λa H=>⟨o_5 _ _,_,R,H⟩
  ·intro a w ae D z
   have H:=z.E
   have hD : D 5 = false:=z.F
   have I:=z.M.togA (pre:=[_,_,_,_,_]) (WH (j:=10) (k:=7) z.c R R R hD)
   exact Zq H R Yq R (at_5 I.ra1) (u_1 _) λa H=>⟨o_5 _ _,_,R,H⟩
  ·intro a w ae D z
   have H:=z.E
   have hD : D 7 = false:=z.F
   have I:=((z.M.togA (pre:=[_,_,_,_,_]) (WH (j:=10) (k:=0) z.c R R R hD)).togA (pre:=[_,_,_,_,_,_]) hD).pl
   have I:=I.unpackL (m:=[_,_,_]) (λfp h=>Xm.mono h (λ_ h=>h.elim))
   simp only [List.cons_append,List.nil_append] at I
   have I:=I.toOsl0.pl2.toOsl0.pl2.pl2.pl7
   obtain ⟨S104,cp,bl,I,be⟩:=M.freeze [_,_,_] I noB
   refine Zp H R Zd6 (UL _ _ _ _ am (ac 0) bl (⟨y.Keys,wr (y.Next + 1),y.Records ++ ([B] : List GRecord),y.Events,y.Head⟩ : GVault) d u88 n (⟨1,B.Number,B.Tag⟩ : GEvent) I ad b0) ?_
   rintro v w a ⟨cw,cx,cy,rfl,I⟩ H
   have I:=be _ [_,_,_] (ZK (ZK (ZK Yo))) I
   simp only [List.cons_append,List.nil_append] at I
   have I:=(((((((V4 (x:=ad) I.pl3.pl3.pl3 sio sio sio).pl6).pl2).pl6).pl6).pl6).pl6).pl6
   have bm : D 10 = false:=WH (j:=10) (k:=0) z.c R R R hD
   exact ⟨_,_,R,H,M.qUnconst (p:=mkW 10 7 b5 xi (λv=>(Value.cells v).toList)) (its:=[raw a2 (cat [[d],[vI (wr (y.Next + 1))],[u88],[n],enc y.Head]),raw a7 (cR o q B),raw b3 (enc p3),raw b1 (cV N T W p0),own NoB (am : (Ref Gengine)) [ac 0]]) (mk1:=([] : Mk)) (mk2:=([mkU 7 (J1 NoB [own NoB (y.Keys : xv) [d],osl NoB ((y.Records ++ ([B] : List GRecord)) : List GRecord) u88,own NoB (y.Events : xu) [n]]) (λv=>own NoB ad (Value.cells v).toList)] : Mk)) (M.qTogS (p:=mkU 7 (J1 NoB [own NoB (y.Keys : xv) [d],osl NoB ((y.Records ++ ([B] : List GRecord)) : List GRecord) u88,own NoB (y.Events : xu) [n]]) (λv=>own NoB ad (Value.cells v).toList)) (its:=[raw a2 (cat [[d],[vI (wr (y.Next + 1))],[u88],[n],enc y.Head]),raw a7 (cR o q B),raw b3 (enc p3),raw b1 (cV N T W p0),own NoB (am : (Ref Gengine)) [ac 0]]) (mk1:=([([],λ_ _=>raw b5 xi)] : Mk)) (mk2:=([] : Mk)) I R qu) (Bo bm),⟨_,R⟩⟩
  ·intro a w ae D z
   have H:=z.E
   have hD : D 10 = false:=z.F
   have d7 : D 7 = true:=z.p 0 _ R R
   have I:=(z.M.togB (pre:=[_,_,_,_,_,_]) d7).togA (pre:=[_,_,_,_,_]) hD
   obtain ⟨C,K,L,az,aq,ar,au⟩:=Xx (I.rn6)
   have ai : (ae 7) = (vcV C K L ad):=Jw az (z.G 7 (by assumption) _ R).2
   have I:=I.pl5
   refine Zk (seg:=cV C K L ad) (cs':=cV C K L ad) H I Za R (lk R ai) R ZF cq (q_1 cq cq) (ZC (cc1 (t_2 aq) (cc1 (s_1 (ad.Next : Int)) (cc1 (t_2 ar) (cc1 (t_2 au) (cc1 (s_1 _) cc0)))))) (q_2 cq cq) ?_; intro w a I H
   have I:=(M.recell I (show _ = (Value.cells (ae 7)).toList from by rw [ai]; rfl)).untogB (pre:=[_,_,_,_,_,_]) (A:=J1 NoB [own NoB (y.Keys : xv) [d],osl NoB ((y.Records ++ ([B] : List GRecord)) : List GRecord) u88,own NoB (y.Events : xu) [n]]) d7
   exact ⟨undef,_,R,Env.dummy H (by decide),M.qTogS (p:=mkW 10 7 b5 xi (λv=>(Value.cells v).toList)) (its:=[raw a2 (cat [[d],[vI (wr (y.Next + 1))],[u88],[n],enc y.Head]),raw a7 (cR o q B),raw b3 (enc p3),raw b1 (cV N T W p0),own NoB (am : (Ref Gengine)) [ac 0]]) (mk1:=[]) (mk2:=[_]) I R zq,trivial⟩
  intro a w ae D H I hG ag
  have d7:=ag 7 (by decide)
  have a3:=ag 10 (by decide)
  have I:=(I.togB (pre:=[_,_,_,_,_]) a3).togB (pre:=[_,_,_,_,_,_]) d7
  obtain ⟨C,K,L,az,_,_,_⟩:=Xx (I.rn6)
  have ai : (ae 7) = (vcV C K L ad):=Jw az (hG 7 d7 _ R).2
  have I:=I.pl6
  have I:=(V9 (I.recown (congrArg (λv=>(Value.cells v).toList) ai))).pl8
  have I:=M.recell (c':=cV C K L ad) I (congrArg (λv=>(Value.cells v).toList) ai)
  have H:=H.setq (t:=85) R ai
  refine Zc H R λa H=>Zc H R λa H=>Zj ?_
  obtain rfl:=o_1 a8
  refine Zm ?_
  have I:=M.fst (l:=[_,_,_,_]) I.pl1.toOsl0.pl2.toOsl0.pl3.toOsl0.pl1.pl2.pl3
  exact ⟨C,K,L,H.s,I⟩
 rintro a w ⟨bb,bc,bd,H,I⟩
 obtain rfl:=o_1 bz
 have bn : Yb prog _ _ (.cell 8 79) _:=ZG H R ZF R I.ra0 cq R
 have I:=M.fst (l:=[_,_,_]) I.pl3.pl3.pl3
 exact p_3 (JR H R bn (ZD H R) (ZD H R) ⟨_,R,bb,bc,bd,R,I.outF (ZK (ZK (ZK Yo))),I.kept⟩)
def Tt (f : (List V16)) (h : (List V16)) (b : Int) : Option (Fl Int (Fl Unit Bool)) :=
 if decide (b < (f.length : Int)) then (((idx f b).bind λc=>(idx h b).bind λd=>some (!decide (c = d)) : Option (Bool)).bind λe=>if e then (some (Fl.ex (Fl.ex false))) else (some (Fl.nx (wr (b + 1))))) else (some (Fl.ex (Fl.nx ())))
def Qg (b : (List V16)) (c : (List V16)) : Option (Bool) :=
 if (b.length : Int) != (c.length : Int) then (some false) else ((ZQ (Tt b c) 0).bind λd=>d.el (λe=>some true) (λr=>some r))
theorem jy (j : World) (B : xv) (f : Value) (b : Ro j B [f]) (C : xv) (h : Value) (e : Ro j C [h]) (r : Bool) (J : Qg B C = some r) :
  Calls prog 155 [f,h].toArray j (Rt j (vT r)):=by
 refine ce func155 ?_
 intro a H
 have I:=M.start j
 unfold Qg at J
 refine Zb (Zc H R λa H=>Ze (s_2 (Zb (Zd H R λa H=>YE H R s_3 (I.rd b) λa H=>Zd H R λa H=>YE H R s_3 (I.rd e) λa H=>Zn H R R R λa H=>Ze ?_))))
 refine c_if H R J ?_ ?_
 ·intro t J
  refine Zb (Zc H R λa H=>Ze ?_)
  obtain rfl:=o_1 J
  exact p_3 (ZI (kr1 H R R I.kept))
 intro t J
 refine u_2 (Zz (s_2 (Zb (Zc H R λa H=>Ze ?_))))
 obtain ⟨G,x,k⟩:=p_1 J
 refine Z7 (λa w=>∃ F : Unit,G = Fl.nx F ∧ Env 26 a [] ∧ M (Old j) j w []) ?_ ?_
 ·refine p_2 ?_
  refine ZR (λ(y : Int) a w=>Env 26 a [(0,f),(1,h),(5,vI y)] ∧ M (Old j) j w []) x ⟨H.s,I⟩ ?_
  rintro y a w ⟨H,I⟩ N i n
  unfold Tt at i
  refine s_2 (Zb (Zd H R λa H=>Zd H R λa H=>YE H R s_3 (I.rd b) λa H=>Zn H R R R λa H=>Ze ?_))
  refine c_if H R i ?_ ?_
  ·intro o i
   refine u_2 (Zz (s_2 (p_2 ?_)))
   obtain ⟨A,c,d⟩:=p_1 i
   refine ZJ (λa w=>Env 26 a [(0,f),(1,h),(5,vI y),(25,vT A)] ∧ M (Old j) j w []) ?_ ?_
   ·obtain ⟨K,l,c⟩:=bix c
    obtain ⟨L,m,c⟩:=bix c
    refine Z9 [17,18,19,20,21,22,23,24,25] Yt R R (by decide) R H I (q_m (λ_=>R) (q_m (λ_=>R) (qsP (λz=>Yu z.E Za ld R R s_3 ZE (z.M.rd b) l.1 (kr0 R)) (qsP (λz=>Zx z.E Za ld R ZE R (Xe (z.M.rd b) l.2) (u_1 _) (kr0 R)) (q_m (λ_=>R) (q_m (λ_=>R) (qsP (λz=>Yu z.E Za ld R R s_3 ZE (z.M.rd e) m.1 (kr0 R)) (qsP (λz=>Zx z.E Za ld R ZE R (Xe (z.M.rd e) m.2) (u_1 _) (kr0 R)) (qsP (λz=>Hx z.E Za ld R R (WJ u_3 ty5 R false R (by decide) (XZ t_3)) (by decide) (by kernel_rfl) (kr0 R)) qs0))))))))) ?_
    ·intro a w u H I
     refine Zj ?_
     obtain rfl:=o_1 c
     refine Zm ?_
     exact ⟨H.s,I⟩
   rintro a w ⟨H,I⟩
   refine c_if H R d ?_ ?_
   ·intro q d
    refine Zb (Zc H R λa H=>Ze ?_)
    obtain rfl:=n _ (ois d)
    obtain rfl:=o_1 k
    exact p_3 (Xl (ZI (ZI (Xl (ZI (ZI (kr1 H R R I.kept)))))))
   intro q d
   refine u_2 (YA (Zz (t_1 (Zd H R λa H=>Zn H R R R λa H=>Zc H R λa H=>Zj (Zm ?_)))))
   exact ⟨_,ois d,H.s,I⟩
  intro o i
  refine o_4 (Zu (Zu (YQ ?_)))
  obtain rfl:=n _ (ois i)
  refine Zm ?_
  exact ⟨(),R,H.sub trivial,I⟩
 rintro a w ⟨F,ht,H,I⟩
 subst ht
 have k:=Kv k
 refine Zz (Zb (Zc H R λa H=>Ze ?_))
 obtain rfl:=o_1 k
 exact p_3 (kr1 H R R I.kept)
def Qk (f : (List UInt8)) (h : (List UInt8)) (b : Int) : Option (Fl Int (Fl Unit Bool)) :=
 if decide (b < (f.length : Int)) then (((idx f b).bind λc=>(idx h b).bind λd=>some (c != d) : Option (Bool)).bind λe=>if e then (some (Fl.ex (Fl.ex false))) else (some (Fl.nx (wr (b + 1))))) else (some (Fl.ex (Fl.nx ())))
def Vy (b : (List UInt8)) (c : (List UInt8)) : Option (Bool) :=
 if (b.length : Int) != (c.length : Int) then (some false) else ((ZQ (Qk b c) 0).bind λd=>d.el (λe=>some true) (λr=>some r))
theorem KR (j : World) (F : xg) (f : Value) (b : Ro j F [f]) (G : xg) (h : Value) (e : Ro j G [h]) (r : Bool) (J : Vy F G = some r) :
  Calls prog 50 [f,h].toArray j (Rt j (vT r)):=by
 refine ce func50 ?_
 intro a H
 have I:=M.start j
 unfold Vy at J
 refine Zb (Zc H R λa H=>Ze (s_2 (Zb (Zd H R λa H=>YE H R o_2 (I.rd b) λa H=>Zd H R λa H=>YE H R o_2 (I.rd e) λa H=>Zn H R R R λa H=>Ze ?_))))
 refine c_if H R J ?_ ?_
 ·intro y J
  refine Zb (Zc H R λa H=>Ze ?_)
  obtain rfl:=o_1 J
  exact p_3 (ZI (kr1 H R R I.kept))
 intro y J
 refine u_2 (Zz (s_2 (Zb (Zc H R λa H=>Ze ?_))))
 obtain ⟨L,A,k⟩:=p_1 J
 refine Z7 (λa w=>∃ K : Unit,L = Fl.nx K ∧ Env 26 a [] ∧ M (Old j) j w []) ?_ ?_
 ·refine p_2 ?_
  refine ZR (λ(B : Int) a w=>Env 26 a [(0,f),(1,h),(5,vI B)] ∧ M (Old j) j w []) A ⟨H.s,I⟩ ?_
  rintro B a w ⟨H,I⟩ N i n
  unfold Qk at i
  refine s_2 (Zb (Zd H R λa H=>Zd H R λa H=>YE H R o_2 (I.rd b) λa H=>Zn H R R R λa H=>Ze ?_))
  refine c_if H R i ?_ ?_
  ·intro o i
   refine u_2 (Zz (s_2 (p_2 ?_)))
   obtain ⟨C,c,d⟩:=p_1 i
   refine ZJ (λa w=>Env 26 a [(0,f),(1,h),(5,vI B),(25,vT C)] ∧ M (Old j) j w []) ?_ ?_
   ·obtain ⟨q,l,c⟩:=bix c
    obtain ⟨t,m,c⟩:=bix c
    refine Z9 [17,18,19,20,21,22,23,24,25] Yt R R (by decide) R H I (q_m (λ_=>R) (q_m (λ_=>R) (qsP (λz=>Yu z.E Za ld R R o_2 ty5 (z.M.rd b) l.1 (kr0 R)) (qsP (λz=>Zy (v:=(vB q)) z.E Za ld R ty5 R (Xe (z.M.rd b) l.2) (kr0 R)) (q_m (λ_=>R) (q_m (λ_=>R) (qsP (λz=>Yu z.E Za ld R R o_2 ty5 (z.M.rd e) m.1 (kr0 R)) (qsP (λz=>Zy (v:=(vB t)) z.E Za ld R ty5 R (Xe (z.M.rd e) m.2) (kr0 R)) (qsP (λz=>Z8 z.E Za ld R R (Zhi q t) (kr0 R)) qs0))))))))) ?_
    ·intro a w u H I
     refine Zj ?_
     obtain rfl:=o_1 c
     refine Zm ?_
     exact ⟨H.s,I⟩
   rintro a w ⟨H,I⟩
   refine c_if H R d ?_ ?_
   ·intro x d
    refine Zb (Zc H R λa H=>Ze ?_)
    obtain rfl:=n _ (ois d)
    obtain rfl:=o_1 k
    exact p_3 (Xl (ZI (ZI (Xl (ZI (ZI (kr1 H R R I.kept)))))))
   intro x d
   refine u_2 (YA (Zz (t_1 (Zd H R λa H=>Zn H R R R λa H=>Zc H R λa H=>Zj (Zm ?_)))))
   exact ⟨_,ois d,H.s,I⟩
  intro o i
  refine o_4 (Zu (Zu (YQ ?_)))
  obtain rfl:=n _ (ois i)
  refine Zm ?_
  exact ⟨(),R,H.sub trivial,I⟩
 rintro a w ⟨K,ht,H,I⟩
 subst ht
 have k:=Kv k
 refine Zz (Zb (Zc H R λa H=>Ze ?_))
 obtain rfl:=o_1 k
 exact p_3 (kr1 H R R I.kept)
def Qb (b : GRecord) (c : GRecord) : Option (Bool) :=
 (if b.Number == c.Number then (if b.Version == c.Version then (if decide (b.Nonce = c.Nonce) then (if decide (b.Tag = c.Tag) then ((Vy b.Label c.Label).bind λd=>if d then ((Vy b.Body c.Body).bind λe=>some e) else (some false)) else (some false)) else (some false)) else (some false)) else (some false) : Option (Bool)).bind λf=>some f
theorem yY (q : World) (i : GRecord) (k : Value) (t : Ro q i.Label [k]) (n : Value) (u : Ro q i.Body [n]) (j : GRecord) (m : Value) (x : Ro q j.Label [m]) (o : Value) (y : Ro q j.Body [o]) (r : Bool) (J : Qb i j = some r) :
  Calls prog 156 [vcR k n i,vcR m o j].toArray q (Rt q (vT r)):=by
 refine ce func156 ?_
 intro a H
 have I:=M.start q
 unfold Qb at J
 refine Zb (Z2 (cs:=cR k n i) H I Za ld R R λG w a I H=>Z2 (cs:=cR m o j) H I Za ld R R λK w a I H=>Zc H R λa H=>Ze ?_)
 obtain ⟨F,b,A⟩:=p_1 J
 refine ZJ (λa w=>Env 45 a [(4,vT F)] ∧ M (Old q) q w []) ?_ ?_
 ·refine t_1 (Zl H R (VS) λa H=>ZB (v:=(vI i.Number)) H R ty2 R (at_0 I.ra1) λa H=>Zl H R (VS) λa H=>ZB (v:=(vI j.Number)) H R ty2 R (at_0 I.ra0) λa H=>Zn H R R R λa H=>Zd H R ?_); intro a H
  refine Ys (i.Number == j.Number) (λf=>?_) (λf=>?_)
  ·have b:=Zt b f
   refine Zg H (Zi H R (lkb R f)) (by decide) R (Qe) λa H=>Zy (v:=(vI i.Version)) H (Zi H R (lkb R f)) (by decide) R ty2 R (at_1 I.ra1) λa H=>Zg H (Zi H R (lkb R f)) (by decide) R (Qe) λa H=>Zy (v:=(vI j.Version)) H (Zi H R (lkb R f)) (by decide) R ty2 R (at_1 I.ra0) λa H=>Z8 H (Zi H R (lkb R f)) (by decide) R R R λa H=>ZU H (lkb R f) R λa H=>Zd H R ?_; intro a H
   refine Ys (i.Version == j.Version) (λh=>?_) (λh=>?_)
   ·have b:=Zt b h
    refine Zg H (Zi H R (lkb R h)) (by decide) R (JT) λa H=>Zx H (Zi H R (lkb R h)) (by decide) R ZE R (at_2 I.ra1) (u_1 _) λa H=>Zg H (Zi H R (lkb R h)) (by decide) R (JT) λa H=>Zx H (Zi H R (lkb R h)) (by decide) R ZE R (at_2 I.ra0) (u_1 _) λa H=>kR H (Zi H R (lkb R h)) (by decide) R R (WJ u_3 ty5 R false R (by decide) (XZ t_3)) (by decide) (by kernel_rfl) λa H=>ZU H (lkb R h) R λa H=>Zd H R ?_; intro a H
    refine Ys (decide (i.Nonce = j.Nonce)) (λc=>?_) (λc=>?_)
    ·have b:=Zt b c
     refine Zg H (Zi H R (lkb R c)) (by decide) R (Tl) λa H=>Zx H (Zi H R (lkb R c)) (by decide) R Yq R (at_5 I.ra1) (u_1 _) λa H=>Zg H (Zi H R (lkb R c)) (by decide) R (Tl) λa H=>Zx H (Zi H R (lkb R c)) (by decide) R Yq R (at_5 I.ra0) (u_1 _) λa H=>kR H (Zi H R (lkb R c)) (by decide) R R (WJ t_4 ty5 R false R (by decide) (XZ t_3)) (by decide) (by kernel_rfl) λa H=>ZU H (lkb R c) R λa H=>Zd H R ?_; intro a H
     refine Ys (decide (i.Tag = j.Tag)) (λd=>?_) (λd=>?_)
     ·have b:=Zt b d
      refine Zg H (Zi H R (lkb R d)) (by decide) R (Ko) λa H=>Zy (v:=k) H (Zi H R (lkb R d)) (by decide) R X7 R (at_3 I.ra1) λa H=>Zg H (Zi H R (lkb R d)) (by decide) R (Ko) λa H=>Zy (v:=m) H (Zi H R (lkb R d)) (by decide) R X7 R (at_3 I.ra0) ?_; intro a H
      obtain ⟨z,B,b⟩:=p_1 b
      refine Yd H (Zi H R (lkb R d)) (by decide) R cb50 (KR _ i.Label k (I.rdo t) j.Label m (I.rdo x) z B) ?_
      rintro v w a ⟨rfl,hK⟩ H
      have I:=I.keep hK
      refine ZU H (lkb R d) R λa H=>Zd H R ?_; intro a H
      refine Ys z (λe=>?_) (λe=>?_)
      ·have b:=Zt b e
       refine Zg H (Zi H R (lkb R e)) (by decide) R (Uy) λa H=>Zy (v:=n) H (Zi H R (lkb R e)) (by decide) R X7 R (at_4 I.ra1) λa H=>Zg H (Zi H R (lkb R e)) (by decide) R (Uy) λa H=>Zy (v:=o) H (Zi H R (lkb R e)) (by decide) R X7 R (at_4 I.ra0) ?_; intro a H
       obtain ⟨C,E,b⟩:=p_1 b
       refine Yd H (Zi H R (lkb R e)) (by decide) R cb50 (KR _ i.Body n (I.rdo u) j.Body o (I.rdo y) C E) ?_
       rintro v w a ⟨rfl,hK⟩ H
       have I:=I.keep hK
       refine ZU H (lkb R e) R λa H=>Zc H R λa H=>Zj ?_
       obtain rfl:=o_1 b
       refine Zm ?_
       have I:=M.fst (l:=[]) I
       exact ⟨H.s,I⟩
      have b:=Zs b e
      refine k_s H e R R R λa H=>k_s H e R R R λa H=>k_s H e R R R λa H=>k_s H e R R R λa H=>k_s H e R R R λa H=>Ye H (lkb R e) R λa H=>Zc H R λa H=>Zj ?_
      obtain rfl:=o_1 b
      refine Zm ?_
      have I:=M.fst (l:=[]) I
      exact ⟨H.s,I⟩
     have b:=Zs b d
     refine k_s H d R R R λa H=>k_s H d R R R λa H=>k_s H d R R R λa H=>k_s H d R R R λa H=>k_s H d R R R λa H=>Ye H (lkb R d) R λa H=>Zd H R λa H=>Zf H R R R (by decide) λa H=>Zf H R R R (by decide) λa H=>Zf H R R R (by decide) λa H=>Zf H R R R (by decide) λa H=>Zf H R R R (by decide) ?_; intro a H
     refine Ye H R R λa H=>Zc H R λa H=>Zj ?_
     obtain rfl:=o_1 b
     refine Zm ?_
     have I:=M.fst (l:=[]) I
     exact ⟨H.s,I⟩
    have b:=Zs b c
    refine k_s H c R R R λa H=>k_s H c R R R λa H=>k_s H c R R R λa H=>k_s H c R R R λa H=>k_s H c R R R λa H=>Ye H (lkb R c) R λa H=>Zd H R λa H=>Zf H R R R (by decide) λa H=>Zf H R R R (by decide) λa H=>Zf H R R R (by decide) λa H=>Zf H R R R (by decide) λa H=>Zf H R R R (by decide) ?_; intro a H
    refine Ye H R R λa H=>Zd H R λa H=>Zf H R R R (by decide) λa H=>Zf H R R R (by decide) λa H=>Zf H R R R (by decide) λa H=>Zf H R R R (by decide) λa H=>Zf H R R R (by decide) λa H=>Ye H R R λa H=>Zc H R λa H=>Zj ?_
    obtain rfl:=o_1 b
    refine Zm ?_
    have I:=M.fst (l:=[]) I
    exact ⟨H.s,I⟩
   have b:=Zs b h
   refine k_s H h R R R λa H=>k_s H h R R R λa H=>k_s H h R R R λa H=>k_s H h R R R λa H=>k_s H h R R R λa H=>Ye H (lkb R h) R λa H=>Zd H R λa H=>Zf H R R R (by decide) λa H=>Zf H R R R (by decide) λa H=>Zf H R R R (by decide) λa H=>Zf H R R R (by decide) λa H=>Zf H R R R (by decide) ?_; intro a H
   refine Ye H R R λa H=>Zd H R λa H=>Zf H R R R (by decide) λa H=>Zf H R R R (by decide) λa H=>Zf H R R R (by decide) λa H=>Zf H R R R (by decide) λa H=>Zf H R R R (by decide) λa H=>Ye H R R λa H=>Zd H R λa H=>Zf H R R R (by decide) λa H=>Zf H R R R (by decide) λa H=>Zf H R R R (by decide) ?_; intro a H
   refine Zf H R R R (by decide) λa H=>Zf H R R R (by decide) λa H=>Ye H R R λa H=>Zc H R λa H=>Zj ?_
   obtain rfl:=o_1 b
   refine Zm ?_
   have I:=M.fst (l:=[]) I
   exact ⟨H.s,I⟩
  have b:=Zs b f
  refine k_s H f R R R λa H=>k_s H f R R R λa H=>k_s H f R R R λa H=>k_s H f R R R λa H=>k_s H f R R R λa H=>Ye H (lkb R f) R λa H=>Zd H R λa H=>Zf H R R R (by decide) λa H=>Zf H R R R (by decide) λa H=>Zf H R R R (by decide) λa H=>Zf H R R R (by decide) λa H=>Zf H R R R (by decide) ?_; intro a H
  refine Ye H R R λa H=>Zd H R λa H=>Zf H R R R (by decide) λa H=>Zf H R R R (by decide) λa H=>Zf H R R R (by decide) λa H=>Zf H R R R (by decide) λa H=>Zf H R R R (by decide) λa H=>Ye H R R λa H=>Zd H R λa H=>Zf H R R R (by decide) λa H=>Zf H R R R (by decide) λa H=>Zf H R R R (by decide) ?_; intro a H
  refine Zf H R R R (by decide) λa H=>Zf H R R R (by decide) λa H=>Ye H R R λa H=>Zd H R λa H=>Zf H R R R (by decide) λa H=>Zf H R R R (by decide) λa H=>Zf H R R R (by decide) λa H=>Zf H R R R (by decide) λa H=>Zf H R R R (by decide) λa H=>Ye H R R λa H=>Zc H R λa H=>Zj ?_
  obtain rfl:=o_1 b
  refine Zm ?_
  have I:=M.fst (l:=[]) I
  exact ⟨H.s,I⟩
 rintro a w ⟨H,I⟩
 obtain rfl:=o_1 A
 exact p_3 (kr1 H R R I.kept)
def T5 (h : GVault) (i : GVault) (b : Int) : Option (Fl Int (Fl Unit Bool)) :=
 if decide (b < (h.Records.length : Int)) then (((idx h.Records b).bind λc=>(idx i.Records b).bind λd=>(Qb c d).bind λe=>some (!e) : Option (Bool)).bind λf=>if f then (some (Fl.ex (Fl.ex false))) else (some (Fl.nx (wr (b + 1))))) else (some (Fl.ex (Fl.nx ())))
def Qp (f : GVault) (h : GVault) (b : Int) : Option (Fl Int (Fl Unit Bool)) :=
 if decide (b < (f.Events.length : Int)) then (((idx f.Events b).bind λc=>(idx h.Events b).bind λd=>some (!decide (c = d)) : Option (Bool)).bind λe=>if e then (some (Fl.ex (Fl.ex false))) else (some (Fl.nx (wr (b + 1))))) else (some (Fl.ex (Fl.nx ())))
def TJ (b : GVault) (c : GVault) : Option (Bool) :=
 ((Qg b.Keys c.Keys).bind λf=>if !f then (some true) else (if b.Next != c.Next then (some true) else (if !decide (b.Head = c.Head) then (some true) else (if (b.Records.length : Int) != (c.Records.length : Int) then (some true) else (some ((b.Events.length : Int) != (c.Events.length : Int)))))) : Option (Bool)).bind λh=>if h then (some false) else ((ZQ (T5 b c) 0).bind λd=>d.el (λi=>(ZQ (Qp b c) 0).bind λe=>e.el (λj=>some true) (λr=>some r)) (λr=>some r))
theorem JO (q : World) (o : GVault) (b : Value) (ag : Ro q o.Keys [b]) (f : Value) (t : Ro q o.Records [f]) (m : Value) (G : Ro q o.Events [m]) (B : GVault) (e : Value) (ah : Ro q B.Keys [e]) (k : Value) (K : Ro q B.Records [k]) (n : Value) (T : Ro q B.Events [n]) (r : Bool) (J : TJ o B = some r) :
  Calls prog 47 [vcV b f m o,vcV e k n B].toArray q (Rt q (vT r)):=by
 refine ce func47 ?_
 intro a H
 have I:=M.start q
 unfold TJ at J
 refine Zb (Z2 (cs:=cV b f m o) H I Za ld R R λX w a I H=>Z2 (cs:=cV e k n B) H I Za ld R R λY w a I H=>Zc H R λa H=>Ze (s_2 ?_))
 obtain ⟨j5,h,Z⟩:=p_1 J
 refine ZJ (λa w=>Env 82 a [(2,ptr X 0),(3,ptr Y 0),(44,vT j5)] ∧ M (Old q) q w [raw Y (cV e k n B),raw X (cV b f m o)]) ?_ ?_
 ·refine t_1 (Zl H R (XA) λa H=>ZB (v:=b) H R T0 R (at_0 I.ra1) λa H=>Zl H R (XA) λa H=>ZB (v:=e) H R T0 R (at_0 I.ra0) ?_); intro a H
  obtain ⟨r8,e9,h⟩:=p_1 h
  refine c_k H I R (cbm func155) (jy _ o.Keys b (I.rdo ag) B.Keys e (I.rdo ah) r8 e9) ?_; intro w a I H
  refine JD H R λa H=>Zd H R ?_; intro a H
  refine Ys (!r8) (λi=>?_) (λi=>?_)
  ·have h:=Zt h i
   refine k_s H i R R R λa H=>k_s H i R R R λa H=>k_s H i R R R λa H=>k_s H i R R R λa H=>k_s H i R R R λa H=>ZU H (lkb R i) R λa H=>Zd H R λa H=>Zf H R R R (by decide) λa H=>Zf H R R R (by decide) λa H=>Zf H R R R (by decide) λa H=>Zf H R R R (by decide) λa H=>Zf H R R R (by decide) ?_; intro a H
   refine ZU H R R λa H=>Zd H R λa H=>Zf H R R R (by decide) λa H=>Zf H R R R (by decide) λa H=>Zf H R R R (by decide) λa H=>Zf H R R R (by decide) λa H=>Zf H R R R (by decide) λa H=>Zf H R R R (by decide) λa H=>Zf H R R R (by decide) λa H=>ZU H R R λa H=>Zd H R λa H=>Zf H R R R (by decide) ?_; intro a H
   refine Zf H R R R (by decide) λa H=>Zf H R R R (by decide) λa H=>Zf H R R R (by decide) λa H=>Zf H R R R (by decide) λa H=>Zf H R R R (by decide) λa H=>Zf H R R R (by decide) λa H=>ZU H R R λa H=>Zj ?_
   obtain rfl:=o_1 h
   refine Zm ?_
   exact ⟨H.s,I⟩
  have h:=Zs h i
  refine Zg H (Zi H R (lkb R i)) (by decide) R (UA) λa H=>Zy (v:=(vI o.Next)) H (Zi H R (lkb R i)) (by decide) R ty2 R (at_1 I.ra1) λa H=>Zg H (Zi H R (lkb R i)) (by decide) R (UA) λa H=>Zy (v:=(vI B.Next)) H (Zi H R (lkb R i)) (by decide) R ty2 R (at_1 I.ra0) λa H=>Z8 H (Zi H R (lkb R i)) (by decide) R R R λa H=>Ye H (lkb R i) R λa H=>Zd H R ?_; intro a H
  refine Ys (o.Next != B.Next) (λj=>?_) (λj=>?_)
  ·have h:=Zt h j
   refine k_s H j R R R λa H=>k_s H j R R R λa H=>k_s H j R R R λa H=>k_s H j R R R λa H=>k_s H j R R R λa H=>ZU H (lkb R j) R λa H=>Zd H R λa H=>Zf H R R R (by decide) λa H=>Zf H R R R (by decide) λa H=>Zf H R R R (by decide) λa H=>Zf H R R R (by decide) λa H=>Zf H R R R (by decide) ?_; intro a H
   refine Zf H R R R (by decide) λa H=>Zf H R R R (by decide) λa H=>ZU H R R λa H=>Zd H R λa H=>Zf H R R R (by decide) λa H=>Zf H R R R (by decide) λa H=>Zf H R R R (by decide) λa H=>Zf H R R R (by decide) λa H=>Zf H R R R (by decide) λa H=>Zf H R R R (by decide) λa H=>Zf H R R R (by decide) λa H=>ZU H R R ?_; intro a H
   refine Zj ?_
   obtain rfl:=o_1 h
   refine Zm ?_
   exact ⟨H.s,I⟩
  have h:=Zs h j
  refine Zg H (Zi H R (lkb R j)) (by decide) R (He) λa H=>Zx H (Zi H R (lkb R j)) (by decide) R Yq R (at_4 I.ra1) (u_1 _) λa H=>Zg H (Zi H R (lkb R j)) (by decide) R (He) λa H=>Zx H (Zi H R (lkb R j)) (by decide) R Yq R (at_4 I.ra0) (u_1 _) λa H=>Hx H (Zi H R (lkb R j)) (by decide) R R (WJ t_4 ty5 R false R (by decide) (XZ t_3)) (by decide) (by kernel_rfl) λa H=>Ye H (lkb R j) R λa H=>Zd H R ?_; intro a H
  refine Ys (!decide (o.Head = B.Head)) (λc=>?_) (λc=>?_)
  ·have h:=Zt h c
   refine k_s H c R R R λa H=>k_s H c R R R λa H=>k_s H c R R R λa H=>k_s H c R R R λa H=>k_s H c R R R λa H=>k_s H c R R R λa H=>k_s H c R R R λa H=>ZU H (lkb R c) R λa H=>Zd H R λa H=>Zf H R R R (by decide) λa H=>Zf H R R R (by decide) λa H=>Zf H R R R (by decide) ?_; intro a H
   refine Zf H R R R (by decide) λa H=>Zf H R R R (by decide) λa H=>Zf H R R R (by decide) λa H=>Zf H R R R (by decide) λa H=>ZU H R R λa H=>Zj ?_
   obtain rfl:=o_1 h
   refine Zm ?_
   exact ⟨H.s,I⟩
  have h:=Zs h c
  refine Zg H (Zi H R (lkb R c)) (by decide) R (Yn) λa H=>Zy (v:=f) H (Zi H R (lkb R c)) (by decide) R XO R (at_2 I.ra1) λa H=>WE H (Zi H R (lkb R c)) (by decide) R o_3 (I.rd t) λa H=>Zg H (Zi H R (lkb R c)) (by decide) R (Yn) λa H=>Zy (v:=k) H (Zi H R (lkb R c)) (by decide) R XO R (at_2 I.ra0) λa H=>WE H (Zi H R (lkb R c)) (by decide) R o_3 (I.rd K) λa H=>Z8 H (Zi H R (lkb R c)) (by decide) R R R λa H=>Ye H (lkb R c) R λa H=>Zd H R ?_; intro a H
  refine Ys ((o.Records.length : Int) != (B.Records.length : Int)) (λd=>?_) (λd=>?_)
  ·have h:=Zt h d
   refine k_s H d R R R λa H=>k_s H d R R R λa H=>k_s H d R R R λa H=>k_s H d R R R λa H=>k_s H d R R R λa H=>k_s H d R R R λa H=>k_s H d R R R λa H=>ZU H (lkb R d) R λa H=>Zj ?_
   obtain rfl:=o_1 h
   refine Zm ?_
   exact ⟨H.s,I⟩
  have h:=Zs h d
  refine Zg H (Zi H R (lkb R d)) (by decide) R (XU) λa H=>Zy (v:=m) H (Zi H R (lkb R d)) (by decide) R Qy R (at_3 I.ra1) λa H=>WE H (Zi H R (lkb R d)) (by decide) R p_4 (I.rd G) λa H=>Zg H (Zi H R (lkb R d)) (by decide) R (XU) λa H=>Zy (v:=n) H (Zi H R (lkb R d)) (by decide) R Qy R (at_3 I.ra0) λa H=>WE H (Zi H R (lkb R d)) (by decide) R p_4 (I.rd T) λa H=>Z8 H (Zi H R (lkb R d)) (by decide) R R R λa H=>Ye H (lkb R d) R λa H=>Zj ?_
  obtain rfl:=o_1 h
  refine Zm ?_
  exact ⟨H.s,I⟩
 rintro a w ⟨H,I⟩
 refine c_if H R Z ?_ ?_
 ·intro ak Z
  refine Zb (Zc H R λa H=>Ze ?_)
  obtain rfl:=o_1 Z
  exact p_3 (ZI (kr1 H R R I.kept))
 intro ak Z
 refine u_2 (Zz (s_2 (Zb (Zc H R λa H=>Ze ?_))))
 obtain ⟨az,al,U⟩:=p_1 Z
 refine Z7 (λa w=>∃ am : Unit,az = Fl.nx am ∧ Env 82 a [(2,ptr X 0),(3,ptr Y 0)] ∧ M (Old q) q w [raw Y (cV e k n B),raw X (cV b f m o)]) ?_ ?_
 ·refine p_2 ?_
  refine ZR (λ(ai : Int) a w=>Env 82 a [(2,ptr X 0),(3,ptr Y 0),(5,vI ai)] ∧ M (Old q) q w [raw Y (cV e k n B),raw X (cV b f m o)]) al ⟨H.s,I⟩ ?_
  rintro ai a w ⟨H,I⟩ bo C ac
  unfold T5 at C
  refine s_2 (Zb (Zd H R λa H=>Zl H R (Yn) λa H=>ZB (v:=f) H R XO R (at_2 I.ra1) λa H=>YE H R o_3 (I.rd t) λa H=>Zn H R R R λa H=>Ze ?_))
  refine c_if H R C ?_ ?_
  ·intro an C
   refine u_2 (Zz (s_2 (p_2 ?_)))
   obtain ⟨a0,A,L⟩:=p_1 C
   refine ZJ (λa w=>Env 82 a [(2,ptr X 0),(3,ptr Y 0),(5,vI ai),(63,vT a0)] ∧ M (Old q) q w [raw Y (cV e k n B),raw X (cV b f m o)]) ?_ ?_
   ·obtain ⟨a1,aa,A⟩:=bix A
    obtain ⟨bh,ao,ap⟩:=Wj t aa.2 -- ^
    obtain ⟨a2,a3,rfl,a4,a5⟩:=YV ao -- ^
    obtain ⟨a6,ab,A⟩:=bix A
    obtain ⟨bi,aq,ar⟩:=Wj K ab.2 -- ^
    obtain ⟨a7,a8,rfl,a9,ba⟩:=YV aq -- ^
    obtain ⟨bb,bc,A⟩:=p_1 A
    refine Z9 [52,53,54,55,56,57,58,59,60,61,62,63] Yt R R (by decide) R H I (qsP (λz=>Zg z.E Za ld R (Yn) (kr0 R)) (qsP (λz=>Zy (v:=f) z.E Za ld R XO R (at_2 (z.M.ra1)) (kr0 R)) (q_m (λ_=>R) (qsP (λz=>Yu z.E Za ld R R o_3 Yf (z.M.rd t) aa.1 (kr0 R)) (qsP (λz=>Zx z.E Za ld R Yf R (z.M.atk ap (VZ t aa.2)) cq (kr0 R)) (qsP (λz=>Zg z.E Za ld R (Yn) (kr0 R)) (qsP (λz=>Zy (v:=k) z.E Za ld R XO R (at_2 (z.M.ra0)) (kr0 R)) (q_m (λ_=>R) (qsP (λz=>Yu z.E Za ld R R o_3 Yf (z.M.rd K) ab.1 (kr0 R)) (qsP (λz=>Zx z.E Za ld R Yf R (z.M.atk ar (VZ K ab.2)) cq (kr0 R)) (qsP (λz=>Yd z.E Za ld R (cbm func156) (yY _ a1 a2 (z.M.rdo a4) a3 (z.M.rdo a5) a6 a7 (z.M.rdo a9) a8 (z.M.rdo ba) bb bc) (kc R)) (qsP (λz=>KW z.E Za ld R (kr0 R)) qs0)))))))))))) ?_
    ·intro a w u H I
     refine Zj ?_
     obtain rfl:=o_1 A
     refine Zm ?_
     exact ⟨H.s,I⟩
   rintro a w ⟨H,I⟩
   refine c_if H R L ?_ ?_
   ·intro au L
    refine Zb (Zc H R λa H=>Ze ?_)
    obtain rfl:=ac _ (ois L)
    obtain rfl:=o_1 U
    exact p_3 (Xl (ZI (ZI (Xl (ZI (ZI (kr1 H R R I.kept)))))))
   intro au L
   refine u_2 (YA (Zz (t_1 (Zd H R λa H=>Zn H R R R λa H=>Zc H R λa H=>Zj (Zm ?_)))))
   exact ⟨_,ois L,H.s,I⟩
  intro an C
  refine o_4 (Zu (Zu (YQ ?_)))
  obtain rfl:=ac _ (ois C)
  refine Zm ?_
  exact ⟨(),R,H.s,I⟩
 rintro a w ⟨am,ht,H,I⟩
 subst ht
 have U:=Kv U
 refine Zz (s_2 (Zb (Zc H R λa H=>Ze ?_)))
 obtain ⟨bd,av,W⟩:=p_1 U
 refine Z7 (λa w=>∃ aw : Unit,bd = Fl.nx aw ∧ Env 82 a [] ∧ M (Old q) q w []) ?_ ?_
 ·refine p_2 ?_
  refine ZR (λ(aj : Int) a w=>Env 82 a [(2,ptr X 0),(3,ptr Y 0),(6,vI aj)] ∧ M (Old q) q w [raw Y (cV e k n B),raw X (cV b f m o)]) av ⟨H.s,I⟩ ?_
  rintro aj a w ⟨H,I⟩ bp F ad
  unfold Qp at F
  refine s_2 (Zb (Zd H R λa H=>Zl H R (XU) λa H=>ZB (v:=m) H R Qy R (at_3 I.ra1) λa H=>YE H R p_4 (I.rd G) λa H=>Zn H R R R λa H=>Ze ?_))
  refine c_if H R F ?_ ?_
  ·intro ax F
   refine u_2 (Zz (s_2 (p_2 ?_)))
   obtain ⟨be,N,O⟩:=p_1 F
   refine ZJ (λa w=>Env 82 a [(2,ptr X 0),(3,ptr Y 0),(6,vI aj),(81,vT be)] ∧ M (Old q) q w [raw Y (cV e k n B),raw X (cV b f m o)]) ?_ ?_
   ·obtain ⟨bq,ae,N⟩:=bix N
    obtain ⟨br,af,N⟩:=bix N
    refine Z9 [71,72,73,74,75,76,77,78,79,80,81] Yt R R (by decide) R H I (qsP (λz=>Zg z.E Za ld R (XU) (kr0 R)) (qsP (λz=>Zy (v:=m) z.E Za ld R Qy R (at_3 (z.M.ra1)) (kr0 R)) (q_m (λ_=>R) (qsP (λz=>Yu z.E Za ld R R p_4 Wc (z.M.rd G) ae.1 (kr0 R)) (qsP (λz=>Zx z.E Za ld R Wc R (Xe (z.M.rd G) ae.2) cq (kr0 R)) (qsP (λz=>Zg z.E Za ld R (XU) (kr0 R)) (qsP (λz=>Zy (v:=n) z.E Za ld R Qy R (at_3 (z.M.ra0)) (kr0 R)) (q_m (λ_=>R) (qsP (λz=>Yu z.E Za ld R R p_4 Wc (z.M.rd T) af.1 (kr0 R)) (qsP (λz=>Zx z.E Za ld R Wc R (Xe (z.M.rd T) af.2) cq (kr0 R)) (qsP (λz=>Hx z.E Za ld R R (Zid (λx : GEvent=>x.Kind) (λx=>x.Number) (λx=>x.Tag) Wc.und (by kernel_rfl) (by kernel_rfl) (by kernel_rfl) (by kernel_rfl) R R R ty2 ty2 Yq R (WJ t_4 ty5 R false R (by decide) (XZ t_3)) (λ_=>R) (λx y h1 h2 h3=>by cases x; cases y; simp only at h1 h2 h3; subst h1; subst h2; subst h3; rfl)) (by decide) (by kernel_rfl) (kr0 R)) qs0))))))))))) ?_
    ·intro a w u H I
     refine Zj ?_
     obtain rfl:=o_1 N
     refine Zm ?_
     exact ⟨H.s,I⟩
   rintro a w ⟨H,I⟩
   refine c_if H R O ?_ ?_
   ·intro ay O
    refine Zb (Zc H R λa H=>Ze ?_)
    obtain rfl:=ad _ (ois O)
    obtain rfl:=o_1 W
    exact p_3 (Xl (ZI (ZI (Xl (ZI (ZI (kr1 H R R I.kept)))))))
   intro ay O
   refine u_2 (YA (Zz (t_1 (Zd H R λa H=>Zn H R R R λa H=>Zc H R λa H=>Zj (Zm ?_)))))
   exact ⟨_,ois O,H.s,I⟩
  intro ax F
  refine o_4 (Zu (Zu (YQ ?_)))
  obtain rfl:=ad _ (ois F)
  refine Zm ?_
  have I:=M.fst (l:=[]) I
  exact ⟨(),R,H.sub trivial,I⟩
 rintro a w ⟨aw,ht,H,I⟩
 subst ht
 have W:=Kv W
 refine Zz (Zb (Zc H R λa H=>Ze ?_))
 obtain rfl:=o_1 W
 exact p_3 (kr1 H R R I.kept)
def T4 (b : GVault) : Option (Bool) :=
 (Vq b).bind λc=>some c
theorem y0 (j : World) (e : GVault) (b : Value) (f : Ro j e.Keys [b]) (c : Value) (h : Ro j e.Records [c]) (d : Value) (i : Ro j e.Events [d]) (r : Bool) (J : T4 e = some r) :
  Calls prog 49 [vcV b c d e].toArray j (Rt j (vT r)):=by
 refine ce func49 ?_
 intro a H
 have I:=M.start j
 unfold T4 at J
 refine Zb (Z2 (cs:=cV b c d e) H I Za ld R R λm w a I H=>Zc H R λa H=>Ze (Zb (Zq H R ZF R I.ra0 cq ?_))); intro a H
 obtain ⟨k,l,J⟩:=p_1 J
 refine c_k H I R Zah (Kp _ e b (I.rdo f) c (I.rdo h) d (I.rdo i) k l) ?_; intro w a I H
 refine Zc H R λa H=>Ze ?_
 obtain rfl:=o_1 J
 exact p_3 (kr1 H R R I.kept)
def Us (b : GRecord) (c : Int) : Option (Bool) :=
 some (b.Number == c)
theorem HN (d : World) (f : GRecord) (b : Value) (h : Ro d f.Label [b]) (c : Value) (i : Ro d f.Body [c]) (e : Nat) (j : Int) (k : At d e 0 ([vI j])) (l : Old d e) (r : Bool) (J : Us f j = some r) :
  Calls prog 293 [vcR b c f,ptr e 0].toArray d (Rt d (vT r)):=by
 refine ce func293 ?_
 intro a H
 have I:=M.start d
 unfold Us at J
 refine Zb (Z2 (cs:=cR b c f) H I Za ld R R λm w a I H=>Zc H R λa H=>Ze (Zb (Zl H R (VS) λa H=>ZB (v:=(vI f.Number)) H R ty2 R (at_0 I.ra0) λa H=>ZB (v:=(vI j)) H R ty2 R (I.atk k l) λa H=>Zn H R R R λa H=>Zc H R λa H=>Ze ?_)))
 obtain rfl:=o_1 J
 exact p_3 (kr1 H R R I.kept)
def VX (b : GVault) (c : Int) : Option (Int) :=
 (Ym b.Records (λd=>Us d c)).bind λe=>some e
theorem B1 (l : World) (e : GVault) (c : Value) (o : Ro l e.Keys [c]) (b : Value) (f : Ro l e.Records [b]) (d : Value) (q : Ro l e.Events [d]) (m : Int) (r : Int) (J : VX e m = some r) :
  Calls prog 234 [vcV c b d e,vI m].toArray l (Rt l (vI r)):=by
 refine ce func234 ?_
 intro a H
 have I:=M.start l
 unfold VX at J
 refine Zb (Z2 (cs:=cV c b d e) H I Za ld R R λA w a I H=>Z2 (cs:=[vI m]) H I Za ld R R λu w a I H=>Zc H R λa H=>Ze (Zb (Zl H R (Yn) λa H=>ZB (v:=b) H R XO R (at_2 I.ra1) λa H=>yQ H Za ld R ?_))); intro a H
 obtain ⟨x,y,J⟩:=p_1 J
 refine c_k H I R (cbm func292) (Wn _ e.Records b (I.rdo f) (λt=>Us t m) 293 [ptr u 0] (cbm func293) (λz n t h i j k zr zhr=>HN z t h i j k u m (yX I.ra0 n (by simp [cat])) (HZ I.ra0 n (by simp [cat])) zr zhr) x y) ?_; intro w a I H
 refine Zc H R λa H=>Ze ?_
 obtain rfl:=o_1 J
 exact p_3 (kr1 H R R I.kept)
def XM (b : GVault) (d : Int) : Option (Int × Int) :=
 (X1 b).bind λe=>if !e then (some (0,1)) else ((VX b d).bind λc=>if decide (c < 0) then (some (0,4)) else (some (c,0)))
theorem Tg (j : World) (i : GVault) (b : Value) (e : Ro j i.Keys [b]) (c : Value) (f : Ro j i.Records [c]) (d : Value) (h : Ro j i.Events [d]) (k : Int) (r : Int × Int) (J : XM i k = some r) :
  Calls prog 139 [vcV b c d i,vI k].toArray j (Rt j (Value.tuple [vI r.1,vI r.2].toArray)):=by
 refine ce func139 ?_
 intro a H
 have I:=M.start j
 unfold XM at J
 refine Zb (Z2 (cs:=cV b c d i) H I Za ld R R λu w a I H=>Zc H R λa H=>Zc H R λa H=>Ze (s_2 (Zb (Zq H R ZF R I.ra0 cq ?_)))); intro a H
 obtain ⟨n,o,J⟩:=p_1 J
 refine c_k H I R cb48 (UX _ i b (I.rdo e) c (I.rdo f) d (I.rdo h) n o) ?_; intro w a I H
 refine JD H R λa H=>Ze ?_
 refine c_if H R J ?_ ?_
 ·intro l J
  refine Zb (Zc H R λa H=>Zc H R λa H=>Ze ?_)
  obtain rfl:=o_1 J
  exact p_3 (ZI (Xf H R (ZD H R) (ZD H R) ⟨_,R,R,I.kept⟩))
 intro l J
 refine u_2 (Zz (Zb (Zq H R ZF R I.ra0 cq λa H=>Zd H R ?_))); intro a H
 obtain ⟨q,t,J⟩:=p_1 J
 refine c_k H I R (cbm func234) (B1 _ i b (I.rdo e) c (I.rdo f) d (I.rdo h) k q t) ?_; intro w a I H
 refine Zc H R λa H=>Ze (s_2 (Zb (Zd H R λa H=>Zn H R R R λa H=>Ze ?_)))
 refine c_if H R J ?_ ?_
 ·intro m J
  refine Zb (Zc H R λa H=>Zc H R λa H=>Ze ?_)
  obtain rfl:=o_1 J
  exact p_3 (ZI (Xf H R (ZD H R) (ZD H R) ⟨_,R,R,I.kept⟩))
 intro m J
 refine u_2 (Zz (Zb (Zd H R λa H=>Zc H R λa H=>Zc H R λa H=>Ze ?_)))
 obtain rfl:=o_1 J
 exact p_3 (Xf H R (ZD H R) (ZD H R) ⟨_,R,R,I.kept⟩)
def Wp (c : GVault) (j : Int) : Option ((List UInt8) × Int) :=
 (XM c j).bind λd=>if d.2 != 0 then (some ([],d.2)) else ((YP).bind λi=>(idx c.Records d.1).bind λb=>((YU i c b).bind λe=>some (!decide (e = b.Tag)) : Option (Bool)).bind λf=>if f then (some ([],5)) else ((Y6 i c b b.Body).bind λh=>some (h,0)))
theorem Kg (C : World) (y : GVault) (b : Value) (n : Ro C y.Keys [b]) (c : Value) (h : Ro C y.Records [c]) (i : Value) (o : Ro C y.Events [i]) (Y : Int) (r : xg × Int) (J : Wp y Y = some r) :
  Calls prog 43 [vcV b c i y,vI Y].toArray C (e_r λv w'=>(∃ y1 : Value,v = (Value.tuple [y1,vI r.2].toArray) ∧ Fr C w' [osl NoB (r.1 : List UInt8) y1] ∧ Kept (Old C) C w')):=by
 refine ce func43 ?_
 intro a H
 have I:=M.start C
 unfold Wp at J
 refine Zb (Z2 (cs:=cV b c i y) H I Za ld R R λZ w a I H=>Zc H R λa H=>Zc H R λa H=>Ze (Zb (Zq H R ZF R I.ra0 cq λa H=>Zd H R ?_))); intro a H
 obtain ⟨r3,e4,J⟩:=p_1 J
 refine c_k H I R Zdi (Tg _ y b (I.rdo n) c (I.rdo h) i (I.rdo o) Y r3 e4) ?_; intro w a I H
 refine Zd H R λa H=>ZM H Za ld R R λa H=>ZM H Za ld R R λa H=>Zc H R λa H=>Zc H R λa H=>Ze (s_2 (Zb (Zd H R λa H=>Zn H R R R λa H=>Ze ?_)))
 refine c_if H R J ?_ ?_
 ·intro aa J
  refine Zb (Zd H R λa H=>Zc H R λa H=>Zc H R λa H=>Ze ?_)
  have I:=M.nilS (α:=UInt8) NoB noB I
  obtain rfl:=o_1 J
  have I:=M.fst (l:=[_]) I
  exact p_3 (ZI (Xf H R (ZD H R) (ZD H R) ⟨_,R,xd,R,I.outF (ZK Yo),I.kept⟩))
 intro aa J
 refine u_2 (Zz (s_2 ?_))
 obtain ⟨O,e9,J⟩:=p_1 J
 obtain ⟨d,A,J⟩:=bix J
 obtain ⟨ak,T,U⟩:=Wj h A.2 -- ^
 obtain ⟨q,m,rfl,L,G⟩:=YV T -- ^
 refine Yl (its:=[raw Z (cV b c i y)]) (mk:=([mkO 0 (λv=>own NoB (O : (Ref Gengine)) [v]),mkO 6 (λv=>XS v xh)] : Mk)) [19,20,21,22,23,24,9,8] Yt R R (by decide) R H (λu=>M.qE (M.qE (M.q0 I.drew u) emO) emO) (qsM (pr:=λv=>True) ?_ (qsP (λz=>Zg z.E Za ld R (Yn) (kr0 R)) (qsP (λz=>Zy (v:=c) z.E Za ld R XO R (at_2 (z.M.ra0)) (kr0 R)) (q_m (λ_=>R) (qsP (λz=>Yu z.E Za ld R R o_3 Yf (z.M.rd h) A.1 (kr0 R)) (qsP (λz=>Zx z.E Za ld R Yf R (z.M.atk U (VZ h A.2)) cq (kr0 R)) (qsM (pr:=λv=>True) ?_ (qsD (ds:=[0]) (f:=λus=>(us.getD 0 undef)) ?_ qs0)))))))) ?_
 ·intro a w x D z
  have H:=z.E
  have hD : D 0 = false:=z.F
  have hM0:=z.M
  have I:=z.M
  refine Zp H R zU (Xz _  O e9) ?_
  rintro _ w a ⟨_,rfl,hFr,hK⟩ H
  have I:=hM0.add hK hFr
  exact ⟨_,_,R,H,M.qFill (mk1:=[]) (mk2:=[_]) (f:=(λv=>own NoB (O : (Ref Gengine)) [v])) I R hD,trivial⟩
 ·intro a w x D z
  have H:=z.E
  have hD : D 6 = false:=z.F
  have I:=z.M
  refine Zw H I Yf ?_; intro ao w a I H
  have I:=I.pack1 (it:=XS _ xh) (λw w' fp ⟨b',e,k⟩ hb=>⟨b',e,Yz w w' fp k hb⟩) (λfp k=>⟨_,R,k⟩)
  exact ⟨_,_,R,H,M.qFill (mk1:=[_]) (mk2:=[]) (f:=λv=>XS v xh) I R hD,trivial⟩
 ·intro a w x D z
  have H:=z.E
  have d0 : D 0 = true:=z.p 0 _ R R
  exact Zc H R λa H=>⟨o_5 _ _,J8 d0 HJ,_,R,H⟩
 intro a w x D H I hG K
 have d0:=K 0 (by decide)
 have d6:=K 6 (by decide)
 have I:=((I.sure (pre:=[_]) d0).sure (pre:=[_,_]) d6).pl
 obtain ⟨_,⟨N,W,_⟩,_⟩:=I.head
 have I:=I.pack1 Yz (it:=raw N xh) (λfp ⟨b2,e2,k2⟩=>by rw [W] at e2; simp [ptr] at e2; subst e2; exact k2)
 have H:=H.setq (t:=9) R W
 refine Zk (seg:=cR q m d) (cs':=cR q m d) H I Za R R R Yf cq (q_1 cq cq) (ZC (cc1 (s_1 (d.Number : Int)) (cc1 (s_1 (d.Version : Int)) (cc1 (s_1 _) (cc1 (t_2 (I.rd L)) (cc1 (t_2 (I.rd G)) (cc1 (s_1 _) cc0))))))) (q_2 cq cq) λw a I H=>Zj (Zz (s_2 ?_))
 obtain ⟨ad,B,j⟩:=p_1 J
 refine ZJ (λa w=>Env 38 a [(2,ptr Z 0),(8,x 0),(9,ptr N 0),(31,vT ad)] ∧ M (Old C) C w [raw N (cR q m d),raw Z (cV b c i y),own NoB (O : (Ref Gengine)) [x 0]]) ?_ ?_
 ·obtain ⟨ae,af,B⟩:=p_1 B
  refine Z9 [25,26,27,28,29,30,31] Yt R R (by decide) R H I (q_m (λ_=>R) (qsP (λz=>Zx z.E Za ld R ZF R (z.M.ra1) cq (kr0 R)) (qsP (λz=>Zx z.E Za ld R Yf R (z.M.ra0) cq (kr0 R)) (qsP (λz=>Yd z.E Za ld R kL (Wu _ O (x 0) (z.M.rn2) y b (z.M.rdo n) c (z.M.rdo h) i (z.M.rdo o) d q (z.M.rdo L) m (z.M.rdo G) ae af) (kc R)) (qsP (λz=>Zg z.E Za ld R (Tl) (kr0 R)) (qsP (λz=>Zx z.E Za ld R Yq R (at_5 (z.M.ra0)) (u_1 _) (kr0 R)) (qsP (λz=>Hx z.E Za ld R R (WJ t_4 ty5 R false R (by decide) (XZ t_3)) (by decide) (by kernel_rfl) (kr0 R)) qs0))))))) ?_
  ·intro a w u H I
   refine Zj ?_
   obtain rfl:=o_1 B
   refine Zm ?_
   exact ⟨H.s,I⟩
 rintro a w ⟨H,I⟩
 refine c_if H R j ?_ ?_
 ·intro X j
  refine Zb (Zc H R λa H=>Zc H R λa H=>Ze ?_)
  have I:=M.nilS (α:=UInt8) NoB noB I
  obtain rfl:=o_1 j
  have I:=M.fst (l:=[_]) I
  exact p_3 (ZI (Xf H R (ZD H R) (ZD H R) ⟨_,R,xd,R,I.outF (ZK Yo),I.kept⟩))
 intro X j
 refine u_2 (Zz (Zb (Zd H R λa H=>Zq H R ZF R I.ra1 cq λa H=>Zq H R Yf R I.ra0 cq λa H=>Zl H R (Uy) λa H=>ZB (v:=m) H R X7 R (at_4 I.ra0) ?_))); intro a H
 obtain ⟨ag,ah,j⟩:=p_1 j
 refine Zp H R Zf2 (Tm _ O (x 0) (I.rn2) y b (I.rdo n) c (I.rdo h) i (I.rdo o) d q (I.rdo L) m (I.rdo G) d.Body m (I.rdo G) ag ah) ?_
 rintro ai w a ⟨_,rfl,hFr,hK⟩ H
 have I:=I.add hK hFr
 refine Zc H R λa H=>Zc H R λa H=>Ze ?_
 obtain rfl:=o_1 j
 have I:=M.fst (l:=[_]) I
 exact p_3 (Xf H R (ZD H R) (ZD H R) ⟨_,R,ai,R,I.outF (ZK Yo),I.kept⟩)
def Ji (d : (List UInt8)) (b : Int × Int) : Option (Fl (Int × Int) Int) :=
 if decide (b.2 < (d.length : Int)) then ((idx d b.2).bind λc=>some (Fl.nx (IntKind.u64.wrap ((IntKind.u64.wrap ((IntKind.u64.wrap (b.1 * 1099511628211)) + (bI c))) + 5),wr (b.2 + 1)))) else (some (Fl.ex b.1))
def Kb (b : (List UInt8)) (c : Int) : Option ((Int × Int)) :=
 (ZQ (Ji b) (IntKind.u64.wrap ((IntKind.u64.wrap (c * 6907)) + (IntKind.u64.wrap (b.length : Int))),0)).bind λd=>some (0,d)
theorem zY (St : Nat → Prop) (W x : World) (n : Item) (j : xg) (c : Value) (d : Rep.sat St W j [c] []) (k : Int) (I : M St W x [n]) (r : xy) (J : Kb j k = some r) :
  Calls prog 26 [c,Value.int .u64 k].toArray x (e_r λv w'=>(∃ (b : Nat),v = ptr b 0 ∧ M St W w' [raw b (cat [[c],[vI r.1],[Value.int .u64 r.2]]),n])):=by
 refine ce func26 ?_
 intro a H
 unfold Kb at J
 refine Zb (Zc H R λa H=>Ze (Zb (Zd H R λa H=>Zd H R λa H=>Zn H R R R λa H=>Zd H R λa H=>YE H R o_2 (I.rd d) λa H=>JN H Za ld R s_5 s_6 λa H=>Zn H R R R λa H=>ZY (parts:=[(0,.tmp 7),(2,.tmp 13)]) (vs:=[(0,c),(2,Value.int .u64 (IntKind.u64.wrap ((IntKind.u64.wrap (k * 6907)) + (IntKind.u64.wrap (j.length : Int)))))]) (cs:=cat [[c],[vI 0],[Value.int .u64 (IntKind.u64.wrap ((IntKind.u64.wrap (k * 6907)) + (IntKind.u64.wrap (j.length : Int))))]]) H Za ld R R Zd3 pl148 (ZT (pre:=[]) (seg:=[xd]) (seg':=[c]) (post:=[[vI 0],[Value.int .u64 0]]) R cl0 R R (ZX (I.rd d)) (ZT (pre:=[[c],[vI 0]]) (seg:=[Value.int .u64 0]) (seg':=[Value.int .u64 (IntKind.u64.wrap ((IntKind.u64.wrap (k * 6907)) + (IntKind.u64.wrap (j.length : Int))))]) (post:=[]) R ck R R R Yp)) λa H=>Z2 (cs:=cat [[c],[vI 0],[Value.int .u64 (IntKind.u64.wrap ((IntKind.u64.wrap (k * 6907)) + (IntKind.u64.wrap (j.length : Int))))]]) H I Za ld R R λl w a I H=>Zc H R λa H=>Ze (s_2 (Zb (Zc H R ?_)))))); intro a H
 refine Ze ?_
 obtain ⟨y,o,q⟩:=p_1 J
 refine Z7 (λa w=>Env 38 a [(5,ptr l 0)] ∧ M St W w [raw l (cat [[c],[vI 0],[Value.int .u64 y]]),n]) ?_ ?_
 ·refine p_2 ?_
  refine ZR (λ(h : Int × Int) a w=>Env 38 a [(0,c),(5,ptr l 0),(6,vI h.2)] ∧ M St W w [raw l (cat [[c],[vI 0],[Value.int .u64 h.1]]),n]) o ⟨H.s,I⟩ ?_
  rintro h a w ⟨H,I⟩ A e t
  unfold Ji at e
  refine s_2 (Zb (Zd H R λa H=>Zd H R λa H=>YE H R o_2 (I.rd d) λa H=>Zn H R R R λa H=>Ze ?_))
  refine c_if H R e ?_ ?_
  ·intro m e
   refine u_2 (Zz (s_2 (p_2 ?_)))
   obtain ⟨f,i,e⟩:=bix e
   refine Z9 [22,23,24,25,26,27,28,29,30,31,32,33,34,35,36] Yt R R (by decide) R H I (q_m (λ_=>R) (q_m (λ_=>R) (qsP (λz=>Yj z.E Za ld R (kr0 R)) (qsP (λz=>Zg z.E Za ld R (A0) (kr0 R)) (qsP (λz=>Zy (v:=(Value.int .u64 h.1)) z.E Za ld R yk R (at_2 (z.M.ra0)) (kr0 R)) (qsP (v:=(Value.int .u64 (IntKind.u64.wrap (h.1 * 1099511628211)))) (λz=>Z8 z.E Za ld R R R (kr0 R)) (q_m (λ_=>R) (q_m (λ_=>R) (qsP (λz=>Yu z.E Za ld R R o_2 ty5 (z.M.rd d) i.1 (kr0 R)) (qsP (λz=>Zy (v:=(vB f)) z.E Za ld R ty5 R (Xe (z.M.rd d) i.2) (kr0 R)) (qsP (λz=>Zdh z.E Za ld R t_3 s_6 (kr0 R)) (qsP (v:=(Value.int .u64 (IntKind.u64.wrap ((IntKind.u64.wrap (h.1 * 1099511628211)) + (bI f))))) (λz=>Z8 z.E Za ld R R R (kr0 R)) (qsP (v:=(Value.int .u64 (IntKind.u64.wrap ((IntKind.u64.wrap ((IntKind.u64.wrap (h.1 * 1099511628211)) + (bI f))) + 5)))) (λz=>Z8 z.E Za ld R R R (kr0 R)) (qsP (λz=>Yj z.E Za ld R (kr0 R)) (qsP (λz=>Zg z.E Za ld R (A0) (kr0 R)) qs0))))))))))))))) ?_
   ·intro a w u H I
    refine Zk (seg:=[Value.int .u64 (IntKind.u64.wrap ((IntKind.u64.wrap ((IntKind.u64.wrap (h.1 * 1099511628211)) + (bI f))) + 5))]) H I Za R R R yk R (YN (pre:=[[c],[vI 0]]) ck R) yO (Z4 (pre:=[[c],[vI 0]]) ck R) λw a I H=>Zj (YA (Zz (t_1 (Zd H R λa H=>Zn H R R R λa H=>Zc H R λa H=>Zj (Zm ?_)))))
    exact ⟨_,ois e,H.s,I⟩
  intro m e
  refine o_4 (Zu (Zu (YQ ?_)))
  obtain rfl:=t _ (ois e)
  refine Zm ?_
  exact ⟨H.s,I⟩
 rintro a w ⟨H,I⟩
 refine Zz (Zb (Zd H R λa H=>Zc H R λa H=>Ze ?_))
 obtain rfl:=o_1 q
 exact p_3 (ZV H R (ZD H R) ⟨_,R,l,R,I⟩)
def Xu (c : (List UInt8)) (b : (Int × Int)) (d : Int) : Option ((Int × Int) × Int) :=
 if decide (d < 1) then (some ((b.1,b.2),0)) else (((some (decide (b.1 < (c.length : Int))) : Option (Bool)).bind λi=>if i then (((idx c b.1).bind λe=>some (wr ((IntKind.i64.wrap (wru (BitVec.ofInt 64 (WG (IntKind.u64.wrap ((IntKind.u64.wrap (b.2 * 6364136223846793005)) + 1442695040888963407)) 33) &&& BitVec.ofInt 64 16777215).toNat)) + (bI e))) : Option (Int)).bind λf=>some (wr (b.1 + 1),f)) else (some (b.1,IntKind.i64.wrap (wru (BitVec.ofInt 64 (WG (IntKind.u64.wrap ((IntKind.u64.wrap (b.2 * 6364136223846793005)) + 1442695040888963407)) 33) &&& BitVec.ofInt 64 16777215).toNat))) : Option (Int × Int)).bind λh=>(JF d).bind λ_=>some ((h.1,IntKind.u64.wrap ((IntKind.u64.wrap (b.2 * 6364136223846793005)) + 1442695040888963407)),Int.tmod h.2 d))
theorem Ur (St : Nat → Prop) (W C : World) (m : Item) (d : Nat) (i : xg) (b : Value) (e : Rep.sat St W i [b] []) (c : xy) (n : Int) (I : M St W C [raw d (cat [[b],[vI c.1],[Value.int .u64 c.2]]),m]) (r : xy × Int) (J : Xu i c n = some r) :
  Calls prog 29 [ptr d 0,vI n].toArray C (e_r λv w'=>(v = (vI r.2) ∧ M St W w' [raw d (cat [[b],[vI r.1.1],[Value.int .u64 r.1.2]]),m])):=by
 refine ce func29 ?_
 intro a H
 unfold Xu at J
 refine Zb (Zc H R λa H=>Ze (s_2 (Zb (Zd H R λa H=>Zn H R R R λa H=>Ze ?_))))
 refine c_if H R J ?_ ?_
 ·intro x J
  refine Zb (Zc H R λa H=>Ze ?_)
  obtain rfl:=o_1 J
  exact p_3 (ZI (ZV H R (ZD H R) ⟨_,R,R,I⟩))
 intro x J
 refine u_2 (Zz (Zb (Zd H R λa H=>Zd H R λa H=>Yj H Za ld R λa H=>Zl H R (A0) λa H=>ZB (v:=(Value.int .u64 c.2)) H R yk R (at_2 I.ra0) λa H=>Zn H R R R λa H=>Zn H R R R λa H=>Yj H Za ld R λa H=>Zl H R (A0) λa H=>Zk (seg:=[Value.int .u64 (IntKind.u64.wrap ((IntKind.u64.wrap (c.2 * 6364136223846793005)) + 1442695040888963407))]) H I Za R R R yk R (YN (pre:=[[b],[vI c.1]]) ck R) yO (Z4 (pre:=[[b],[vI c.1]]) ck R) λw a I H=>Ze (Zb (Zd H R λa H=>Yj H Za ld R ?_))))); intro a H
 refine Zl H R (A0) λa H=>ZB (v:=(Value.int .u64 (IntKind.u64.wrap ((IntKind.u64.wrap (c.2 * 6364136223846793005)) + 1442695040888963407)))) H R yk R (at_2 I.ra0) λa H=>BF H Za ld R R (Zfv _ _ (by decide)) λa H=>Zn H R R R λa H=>JN H Za ld R s_6 s_4 λa H=>Zc H R λa H=>Ze ?_
 obtain ⟨F,y,k⟩:=p_1 J
 refine ZJ (λa w=>Env 58 a [(1,vI n),(5,vI F.2)] ∧ M St W w [raw d (cat [[b],[vI F.1],[Value.int .u64 (IntKind.u64.wrap ((IntKind.u64.wrap (c.2 * 6364136223846793005)) + 1442695040888963407))]]),m]) ?_ ?_
 ·obtain ⟨G,A,f⟩:=p_1 y
  refine ZJ (λa w=>Env 58 a [(0,ptr d 0),(1,vI n),(5,vI (IntKind.i64.wrap (wru (BitVec.ofInt 64 (WG (IntKind.u64.wrap ((IntKind.u64.wrap (c.2 * 6364136223846793005)) + 1442695040888963407)) 33) &&& BitVec.ofInt 64 16777215).toNat))),(33,vT G)] ∧ M St W w [raw d (cat [[b],[vI c.1],[Value.int .u64 (IntKind.u64.wrap ((IntKind.u64.wrap (c.2 * 6364136223846793005)) + 1442695040888963407))]]),m]) ?_ ?_
  ·refine Z9 [24,25,26,27,28,29,30,31,32,33] Yt R R (by decide) R H I (q_m (λ_=>R) (qsP (λz=>Yj z.E Za ld R (kr0 R)) (qsP (λz=>Zg z.E Za ld R (yH) (kr0 R)) (qsP (λz=>Zy (v:=(vI c.1)) z.E Za ld R ty3 R (at_1 (z.M.ra0)) (kr0 R)) (q_m (λ_=>R) (qsP (λz=>Yj z.E Za ld R (kr0 R)) (qsP (λz=>Zg z.E Za ld R (Zdx) (kr0 R)) (qsP (λz=>Zy (v:=b) z.E Za ld R X7 R (at_0 (z.M.ra0)) (kr0 R)) (qsP (λz=>WE z.E Za ld R o_2 (z.M.rd e) (kr0 R)) (qsP (λz=>Z8 z.E Za ld R R R (kr0 R)) qs0)))))))))) ?_
   ·intro a w u H I
    refine Zj ?_
    obtain rfl:=o_1 A
    refine Zm ?_
    exact ⟨H.s,I⟩
  rintro a w ⟨H,I⟩
  refine c_if H R f ?_ ?_
  ·intro o f
   obtain ⟨B,h,q⟩:=p_1 f
   refine ZJ (λa w=>Env 58 a [(0,ptr d 0),(1,vI n),(5,vI B)] ∧ M St W w [raw d (cat [[b],[vI c.1],[Value.int .u64 (IntKind.u64.wrap ((IntKind.u64.wrap (c.2 * 6364136223846793005)) + 1442695040888963407))]]),m]) ?_ ?_
   ·obtain ⟨t,j,h⟩:=bix h
    refine Z9 [34,35,36,37,38,39,40,41,42,43,44,45,46] Yt R R (by decide) R H I (q_m (λ_=>R) (q_m (λ_=>R) (qsP (λz=>Yj z.E Za ld R (kr0 R)) (qsP (λz=>Zg z.E Za ld R (Zdx) (kr0 R)) (qsP (λz=>Zy (v:=b) z.E Za ld R X7 R (at_0 (z.M.ra0)) (kr0 R)) (q_m (λ_=>R) (qsP (λz=>Yj z.E Za ld R (kr0 R)) (qsP (λz=>Zg z.E Za ld R (yH) (kr0 R)) (qsP (λz=>Zy (v:=(vI c.1)) z.E Za ld R ty3 R (at_1 (z.M.ra0)) (kr0 R)) (qsP (λz=>Yu z.E Za ld R R o_2 ty5 (z.M.rd e) j.1 (kr0 R)) (qsP (λz=>Zy (v:=(vB t)) z.E Za ld R ty5 R (Xe (z.M.rd e) j.2) (kr0 R)) (qsP (λz=>Bl z.E Za ld R t_3 s_4 (kr0 R)) (qsP (v:=(vI (wr ((IntKind.i64.wrap (wru (BitVec.ofInt 64 (WG (IntKind.u64.wrap ((IntKind.u64.wrap (c.2 * 6364136223846793005)) + 1442695040888963407)) 33) &&& BitVec.ofInt 64 16777215).toNat)) + (bI t))))) (λz=>Z8 z.E Za ld R R R (kr0 R)) qs0))))))))))))) ?_
    ·intro a w u H I
     refine Zc H R λa H=>Zj ?_
     obtain rfl:=o_1 h
     refine Zm ?_
     exact ⟨H.s,I⟩
   rintro a w ⟨H,I⟩
   refine t_1 (Zd H R λa H=>Zd H R λa H=>Yj H Za ld R λa H=>Zl H R (yH) λa H=>ZB (v:=(vI c.1)) H R ty3 R (at_1 I.ra0) λa H=>Zn H R R R λa H=>Yj H Za ld R λa H=>Zl H R (yH) λa H=>Zk (seg:=[vI (wr (c.1 + 1))]) H I Za R R R ty3 R (YN (pre:=[[b]]) ck R) (s_1 (wr (c.1 + 1) : Int)) (Z4 (pre:=[[b]]) ck R) λw a I H=>Zj ?_)
   obtain rfl:=o_1 q
   refine Zm ?_
   exact ⟨H.s,I⟩
  intro o f
  refine u_2 ?_
  obtain rfl:=o_1 f
  refine Zm ?_
  exact ⟨H.s,I⟩
 rintro a w ⟨H,I⟩
 refine Zb (Zd H R λa H=>Zd H R ?_); intro a H
 obtain ⟨_,l,k⟩:=p_1 k
 have l:=AW l
 refine Zn H R R (KG _ _ l) λa H=>Zc H R λa H=>Ze ?_
 obtain rfl:=o_1 k
 exact p_3 (ZV H R (ZD H R) ⟨_,R,R,I⟩)
def Kk (d : (List UInt8)) (b : V16 × Int × Int × Int) : Option (Fl (V16 × Int × Int × Int) (V16 × Int × Int)) :=
 if decide (b.2.2.2 < 16) then ((Xu d (b.2.1,b.2.2.1) 256).bind λc=>(ZZ b.1 b.2.2.2).bind λe=>some (Fl.nx ((b.1.setIfInBounds (b.2.2.2).toNat (Zv c.2)),c.1.1,c.1.2,wr (b.2.2.2 + 1)))) else (some (Fl.ex (b.1,b.2.1,b.2.2.1)))
def TL (b : (List UInt8)) (d : (Int × Int)) : Option ((Int × Int) × V16) :=
 (ZQ (Kk b) ((Vector.replicate 16 (0 : UInt8)),d.1,d.2,0)).bind λc=>some ((c.2.1,c.2.2),c.1)
theorem BJ (St : Nat → Prop) (W C : World) (q : Item) (d : Nat) (f : xg) (c : Value) (j : Rep.sat St W f [c] []) (y : xy) (I : M St W C [raw d (cat [[c],[vI y.1],[Value.int .u64 y.2]]),q]) (r : xy × V16) (J : TL f y = some r) :
  Calls prog 51 [ptr d 0].toArray C (e_r λv w'=>(v = (Value.agg (enc r.2).toArray) ∧ M St W w' [raw d (cat [[c],[vI r.1.1],[Value.int .u64 r.1.2]]),q])):=by
 refine ce func51 ?_
 intro a H
 unfold TL at J
 refine Zb (Zw H I ZE λt w a I H=>Ze (Zb (XT (parts:=[]) (vs:=[]) (cs:=enc xb) H Za ld R R ZE R ty5 Xj λa H=>Zw H I ZE λu w a I H=>Zk (seg:=enc xb) (cs':=enc xb) H I Za R R R ZE (u_1 _) (zle flq) (s_1 _) (Zh flq) λw a I H=>Ze (s_2 (Zb (Zc H R λa H=>Ze ?_))))))
 obtain ⟨k,z,A⟩:=p_1 J
 refine Z7 (λa w=>Env 16 a [(2,ptr t 0),(3,ptr u 0)] ∧ M St W w [raw u (enc k.1),raw t xp,raw d (cat [[c],[vI k.2.1],[Value.int .u64 k.2.2]]),q]) ?_ ?_
 ·refine p_2 ?_
  refine ZR (λ(h : V16 × Int × Int × Int) a w=>Env 16 a [(0,ptr d 0),(2,ptr t 0),(3,ptr u 0),(4,vI h.2.2.2)] ∧ M St W w [raw u (enc h.1),raw t xp,raw d (cat [[c],[vI h.2.1],[Value.int .u64 h.2.2.1]]),q]) z ⟨H.s,I⟩ ?_
  rintro h a w ⟨H,I⟩ E b l
  unfold Kk at b
  refine s_2 (Zb (Zd H R λa H=>Zn H R R R λa H=>Ze ?_))
  refine c_if H R b ?_ ?_
  ·intro n b
   refine u_2 (Zz (s_2 (p_2 (t_1 (Zd H R λa H=>Zd H R ?_))))); intro a H
   have I:=M.tailP (m:=[_]) I.pl2
   obtain ⟨e,B,b⟩:=p_1 b
   refine Zp H R cb29 (Ur _ _ _ _ d f c j (h.2.1,h.2.2.1) 256 I e B) ?_
   rintro v w a ⟨rfl,I⟩ H
   have I:=M.tailU (m:=[_]) I
   simp only [List.cons_append,List.nil_append] at I
   refine YX H Za ld R s_4 t_3 ?_; intro a H
   obtain ⟨F,i,b⟩:=bvx b
   refine ZO H R R u_3 ty5 i.1 ?_; intro a H
   have I:=I.pl1
   refine Zk (seg:=[vB (Zv e.2)]) (cs':=enc (h.1.setIfInBounds (h.2.2.2).toNat (Zv e.2))) H I Za R R R ty5 R (Ya (v:=h.1) (x:=Zv e.2) i.1) (s_1 (Zv e.2 : UInt8)) (ZP (v:=h.1) (x:=Zv e.2) i.1) λw a I H=>Zj (YA (Zz (t_1 (Zd H R λa H=>Zn H R R R λa H=>Zc H R λa H=>Zj (Zm ?_)))))
   have I:=I.pl3.pl2.pl3.pl3
   exact ⟨_,ois b,H.s,I⟩
  intro n b
  refine o_4 (Zu (Zu (YQ ?_)))
  obtain rfl:=l _ (ois b)
  refine Zm ?_
  exact ⟨H.s,I⟩
 rintro a w ⟨H,I⟩
 refine Zz (Zb (Zq H R ZE R I.ra0 (u_1 _) ?_)); intro a H
 have I:=I.pl1
 refine Zk (seg:=enc k.1) (cs':=enc k.1) H I Za R R R ZE (u_1 _) (zle flq) (s_1 _) (Zh flq) λw a I H=>Ze ?_
 obtain rfl:=o_1 A
 have o : Yb prog _ _ (.cell 2 53) _:=ZG H R ZE R I.ra0 (u_1 _) R
 have I:=((I.pl3.pl3.pl3).drop.pl2).drop
 exact p_3 (ZV H R o ⟨_,R,R,I⟩)
def Y9 (e : (List V16)) (f : V16) (b : Int) : Option (Fl Int (Fl Unit Int)) :=
 if decide (b < (e.length : Int)) then (((idx e b).bind λc=>some (decide (f = c)) : Option (Bool)).bind λd=>if d then (some (Fl.ex (Fl.ex b))) else (some (Fl.nx (wr (b + 1))))) else (some (Fl.ex (Fl.nx ())))
def Xb (b : (List V16)) (c : V16) : Option (Int) :=
 (ZQ (Y9 b c) 0).bind λd=>d.el (λe=>some (-1)) (λr=>some r)
theorem QJ (h : World) (q : xv) (d : Value) (c : Ro h q [d]) (k : V16) (r : Int) (J : Xb q k = some r) :
  Calls prog 233 [d,Value.agg (enc k).toArray].toArray h (Rt h (vI r)):=by
 refine ce func233 ?_
 intro a H
 have I:=M.start h
 unfold Xb at J
 refine Zb (Z2 (cs:=enc k) H I Za ld R R λt w a I H=>Zc H R λa H=>Ze (s_2 (Zb (Zd H R λa H=>YE H R s_3 (I.rd c) λa H=>Zd H R λa H=>Ze ?_))))
 obtain ⟨C,y,i⟩:=p_1 J
 refine Z7 (λa w=>∃ B : Unit,C = Fl.nx B ∧ Env 19 a [] ∧ M (Old h) h w []) ?_ ?_
 ·refine p_2 ?_
  refine ZR (λ(x : Int) a w=>Env 19 a [(0,d),(3,ptr t 0),(7,vI (q.length : Int)),(8,vI x)] ∧ M (Old h) h w [raw t (enc k)]) y ⟨H.s,I⟩ ?_
  rintro x a w ⟨H,I⟩ F e m
  unfold Y9 at e
  refine Zb (Zn H R R R λa H=>Ze (s_2 ?_))
  refine c_if H R e ?_ ?_
  ·intro n e
   refine u_2 (Zz (s_2 (p_2 (Zb (Zd H R λa H=>Zc H R λa H=>Ze ?_)))))
   obtain ⟨A,f,b⟩:=p_1 e
   refine ZJ (λa w=>Env 19 a [(0,d),(3,ptr t 0),(5,vI x),(7,vI (q.length : Int)),(8,vI x),(16,vT A)] ∧ M (Old h) h w [raw t (enc k)]) ?_ ?_
   ·obtain ⟨G,j,f⟩:=bix f
    refine Z9 [11,12,13,14,15,16] Yt R R (by decide) R H I (qsP (λz=>Zx z.E Za ld R ZE R (z.M.ra0) (u_1 _) (kr0 R)) (q_m (λ_=>R) (q_m (λ_=>R) (qsP (λz=>Yu z.E Za ld R R s_3 ZE (z.M.rd c) j.1 (kr0 R)) (qsP (λz=>Zx z.E Za ld R ZE R (Xe (z.M.rd c) j.2) (u_1 _) (kr0 R)) (qsP (λz=>kR z.E Za ld R R (WJ u_3 ty5 R false R (by decide) (XZ t_3)) (by decide) (by kernel_rfl) (kr0 R)) qs0)))))) ?_
    ·intro a w u H I
     refine Zj ?_
     obtain rfl:=o_1 f
     refine Zm ?_
     exact ⟨H.s,I⟩
   rintro a w ⟨H,I⟩
   refine c_if H R b ?_ ?_
   ·intro o b
    refine Zb (Zd H R λa H=>Zc H R λa H=>Ze ?_)
    obtain rfl:=m _ (ois b)
    obtain rfl:=o_1 i
    exact p_3 (Xl (ZI (ZI (Xl (ZI (ZI (kr1 H R R I.kept)))))))
   intro o b
   refine u_2 (YA (Zz (t_1 (Zn H R R R λa H=>Zd H R λa H=>Zj (Zm ?_)))))
   exact ⟨_,ois b,H.s,I⟩
  intro n e
  refine o_4 (Zu (Zu (YQ ?_)))
  obtain rfl:=m _ (ois e)
  refine Zm ?_
  have I:=M.fst (l:=[]) I
  exact ⟨(),R,H.sub trivial,I⟩
 rintro a w ⟨B,ht,H,I⟩
 subst ht
 have i:=Kv i
 refine Zz (Zb (Zc H R λa H=>Ze ?_))
 obtain rfl:=o_1 i
 exact p_3 (kr1 H R R I.kept)
def YB (b : (List V16)) (c : V16) : Option (Bool) :=
 (Xb b c).bind λd=>some (decide (d ≥ 0))
theorem TY (d : World) (f : xv) (b : Value) (c : Ro d f [b]) (e : V16) (r : Bool) (J : YB f e = some r) :
  Calls prog 138 [b,Value.agg (enc e).toArray].toArray d (Rt d (vT r)):=by
 refine ce func138 ?_
 intro a H
 have I:=M.start d
 unfold YB at J
 refine Zb (Z2 (cs:=enc e) H I Za ld R R λj w a I H=>Zc H R λa H=>Ze (Zb (Zd H R λa H=>Zq H R ZE R I.ra0 (u_1 _) ?_))); intro a H
 obtain ⟨h,i,J⟩:=p_1 J
 refine c_k H I R (cbm func233) (QJ _ f b (I.rdo c) e h i) ?_; intro w a I H
 refine Zn H R R R λa H=>Zc H R λa H=>Ze ?_
 obtain rfl:=o_1 J
 exact p_3 (kr1 H R R I.kept)
def UO (e : GVault) (f : V16) : Option (GVault × Int) :=
 (X1 e).bind λl=>if !l then (some ((⟨[],0,[],[],Vector.replicate 32 (0 : UInt8)⟩ : GVault),1)) else ((YB e.Keys f).bind λh=>if h then (some ((⟨[],0,[],[],Vector.replicate 32 (0 : UInt8)⟩ : GVault),5)) else ((if (e.Keys.length : Int) == 8 then (some true) else (some ((e.Events.length : Int) == 60)) : Option (Bool)).bind λi=>if i then (some ((⟨[],0,[],[],Vector.replicate 32 (0 : UInt8)⟩ : GVault),3)) else ((XE e).bind λb=>(app 16 b.Keys ([f] : List V16)).bind λm=>((YP).bind λj=>(Z6 e.Keys).bind λk=>(YS j (⟨b.Keys ++ ([f] : List V16),b.Next,b.Records,b.Events,b.Head⟩ : GVault) (⟨3,k,Vector.replicate 32 (0 : UInt8)⟩ : GEvent)).bind λd=>some (d.Keys,d.Next,d.Records,d.Events,d.Head,0) : Option ((List V16) × Int × (List GRecord) × (List GEvent) × V32 × Int)).bind λc=>some ((⟨c.1,c.2.1,c.2.2.1,c.2.2.2.1,c.2.2.2.2.1⟩ : GVault),c.2.2.2.2.2))))
theorem zt (t : World) (o : GVault) (b : Value) (j : Ro t o.Keys [b]) (h : Value) (x : Ro t o.Records [h]) (i : Value) (n : Ro t o.Events [i]) (y : V16) (r : GVault × Int) (J : UO o y = some r) :
  Calls prog 41 [vcV b h i o,Value.agg (enc y).toArray].toArray t (e_r λv w'=>(∃ y1 y2 y3 : Value,v = (Value.tuple [vcV y1 y2 y3 r.1,vI r.2].toArray) ∧ Fr t w' [osl NoB (r.1.Keys : List V16) y1,osl NoB (r.1.Records : List GRecord) y2,osl NoB (r.1.Events : List GEvent) y3] ∧ Kept (Old t) t w')):=by
 refine ce func41 ?_
 intro a H
 have I:=M.start t
 unfold UO at J
 refine Zb (Z2 (cs:=cV b h i o) H I Za ld R R λb1 w a I H=>Z2 (cs:=enc y) H I Za ld R R λb3 w a I H=>Zw H I ZF λb5 w a I H=>Zc H R λa H=>Ze (s_2 (p_2 (Zb (Zq H R ZF R I.ra2 cq ?_))))); intro a H
 obtain ⟨r7,e8,J⟩:=p_1 J
 refine c_k H I R cb48 (UX _ o b (I.rdo j) h (I.rdo x) i (I.rdo n) r7 e8) ?_; intro w a I H
 refine JD H R λa H=>Zc H R λa H=>Ze ?_
 refine c_if H R J ?_ ?_
 ·intro an J
  refine Zb (ZY (parts:=[]) (vs:=[]) (cs:=cat xa) H Za ld R R ZF Kd Yp λa H=>Zk (seg:=cat xa) (cs':=cat xa) H I Za R R R ZF cq (q_1 cq cq) (ZC (cc1 ZN (cc1 (s_1 xj) (cc1 ZN (cc1 ZN (cc1 (s_1 _) cc0)))))) (q_2 cq cq) λw a I H=>Zc H R λa H=>Ze ?_)
  have I:=M.nilS (α:=GEvent) NoB noB (M.nilS (α:=GRecord) NoB noB (M.nilS (α:=V16) NoB noB I))
  obtain rfl:=o_1 J
  have ac : Yb prog _ _ (.cell 4 79) _:=ZG H R ZF R I.ra3 cq R
  have I:=M.fst (l:=[_,_,_]) I.pl1.pl2
  exact p_3 (Xl (ZI (Xf H R ac (ZD H R) ⟨_,R,xd,xd,xd,R,I.outF (ZK (ZK (ZK Yo))),I.kept⟩)))
 intro an J
 refine Zb (Zl H R (XA) λa H=>ZB (v:=b) H R T0 R (at_0 I.ra2) λa H=>Zq H R ZE R I.ra1 (u_1 _) ?_); intro a H
 obtain ⟨ao,ap,J⟩:=p_1 J
 refine c_k H I R (cbm func138) (TY _ o.Keys b (I.rdo j) y ao ap) ?_; intro w a I H
 refine Zc H R λa H=>Ze ?_
 refine c_if H R J ?_ ?_
 ·intro ad J
  refine Zb (ZY (parts:=[]) (vs:=[]) (cs:=cat xa) H Za ld R R ZF Kd Yp λa H=>Zk (seg:=cat xa) (cs':=cat xa) H I Za R R R ZF cq (q_1 cq cq) (ZC (cc1 ZN (cc1 (s_1 xj) (cc1 ZN (cc1 ZN (cc1 (s_1 _) cc0)))))) (q_2 cq cq) λw a I H=>Zc H R λa H=>Ze ?_)
  have I:=M.nilS (α:=GEvent) NoB noB (M.nilS (α:=GRecord) NoB noB (M.nilS (α:=V16) NoB noB I))
  obtain rfl:=o_1 J
  have ae : Yb prog _ _ (.cell 4 79) _:=ZG H R ZF R I.ra3 cq R
  have I:=M.fst (l:=[_,_,_]) I.pl1.pl2
  exact p_3 (Xl (ZI (Xf H R ae (ZD H R) ⟨_,R,xd,xd,xd,R,I.outF (ZK (ZK (ZK Yo))),I.kept⟩)))
 intro ad J
 obtain ⟨aq,m,d⟩:=p_1 J
 refine ZJ (λa w=>Env 45 a [(2,ptr b1 0),(3,ptr b3 0),(4,ptr b5 0),(18,vT aq)] ∧ M (Old t) t w [raw b5 xi,raw b3 (enc y),raw b1 (cV b h i o)]) ?_ ?_
 ·refine t_1 (Zl H R (XA) λa H=>ZB (v:=b) H R T0 R (at_0 I.ra2) λa H=>YE H R s_3 (I.rd j) λa H=>Zn H R R R λa H=>Zd H R ?_); intro a H
  refine Ys ((o.Keys.length : Int) == 8) (λc=>?_) (λc=>?_)
  ·have m:=Zt m c
   refine k_s H c R R R λa H=>k_s H c R R R λa H=>k_s H c R R R λa H=>k_s H c R R R λa H=>ZU H (lkb R c) R λa H=>Zc H R λa H=>Zj ?_
   obtain rfl:=o_1 m
   refine Zm ?_
   exact ⟨H.s,I⟩
  have m:=Zs m c
  refine Zg H (Zi H R (lkb R c)) (by decide) R (XU) λa H=>Zy (v:=i) H (Zi H R (lkb R c)) (by decide) R Qy R (at_3 I.ra2) λa H=>WE H (Zi H R (lkb R c)) (by decide) R p_4 (I.rd n) λa H=>Z8 H (Zi H R (lkb R c)) (by decide) R R R λa H=>Ye H (lkb R c) R λa H=>Zc H R λa H=>Zj ?_
  obtain rfl:=o_1 m
  refine Zm ?_
  exact ⟨H.s,I⟩
 rintro a w ⟨H,I⟩
 refine c_if H R d ?_ ?_
 ·intro af d
  refine Zb (ZY (parts:=[]) (vs:=[]) (cs:=cat xa) H Za ld R R ZF Kd Yp λa H=>Zk (seg:=cat xa) (cs':=cat xa) H I Za R R R ZF cq (q_1 cq cq) (ZC (cc1 ZN (cc1 (s_1 xj) (cc1 ZN (cc1 ZN (cc1 (s_1 _) cc0)))))) (q_2 cq cq) λw a I H=>Zc H R λa H=>Ze ?_)
  have I:=M.nilS (α:=GEvent) NoB noB (M.nilS (α:=GRecord) NoB noB (M.nilS (α:=V16) NoB noB I))
  obtain rfl:=o_1 d
  have ag : Yb prog _ _ (.cell 4 79) _:=ZG H R ZF R I.ra3 cq R
  have I:=M.fst (l:=[_,_,_]) I.pl1.pl2
  exact p_3 (Xl (ZI (Xf H R ag (ZD H R) ⟨_,R,xd,xd,xd,R,I.outF (ZK (ZK (ZK Yo))),I.kept⟩)))
 intro af d
 refine u_2 (YA (Zz (Zb (Zq H R ZF R I.ra2 cq ?_)))); intro a H
 obtain ⟨e,ar,d⟩:=p_1 d
 refine Zp H R Zd0 (Ti _ o b (I.rdo j) h (I.rdo x) i (I.rdo n) e ar) ?_
 rintro v w a ⟨W,A,B,rfl,hFr,hK⟩ H
 have I:=I.add hK hFr
 refine Zw H I ZF λau w a I H=>Zk (seg:=cV W A B e) (cs':=cV W A B e) H I Za R R R ZF cq (q_1 cq cq) (ZC (cc1 (t_2 (I.sl1)) (cc1 (s_1 (e.Next : Int)) (cc1 (t_2 (I.sl2)) (cc1 (t_2 (I.sl3)) (cc1 (s_1 _) cc0)))))) (q_2 cq cq) λw a I H=>Ze (Zb (Zl H R (XA) λa H=>ZB (v:=W) H R T0 R (at_0 I.ra0) λa H=>Zq H R ZE R I.ra5 (u_1 _) λa H=>ZL (xs:=[.tmp 34]) (l:=([y] : List V16)) (vs:=[Value.agg (enc y).toArray]) H I Za ld R R s_3 ZE R (by decide) R ?_)); intro av w a I H
 obtain ⟨a7,aw,d⟩:=p_1 d
 obtain ⟨ax,rfl⟩:=Z1 aw
 have I:=I.pl2
 refine Z3 H I Za ld R R (I.sl1) s_3 ZE R (by decide) ax λG w a I H=>Zl H R (XA) ?_; intro a H
 have I:=I.pl2
 refine Zk (seg:=[G]) H I Za R R (ZX (I.sl1)) T0 R (YN (pre:=[]) cl0 R) (t_2 (I.sl1)) (Z4 (pre:=[]) cl0 R) λw a I H=>Ze ?_
 obtain ⟨q,k,ah⟩:=p_1 d
 refine ZJ (λa w=>∃ K L N : Value,Env 45 a [(4,ptr b5 0),(5,vI q.2.2.2.2.2)] ∧ M (Old t) t w [raw b5 (cat [[K],[vI q.2.1],[L],[N],enc q.2.2.2.2.1]),osl NoB (q.1 : List V16) K,osl NoB (q.2.2.1 : List GRecord) L,osl NoB (q.2.2.2.1 : List GEvent) N]) ?_ ?_
 ·obtain ⟨O,ay,k⟩:=p_1 k
  obtain ⟨C,az,k⟩:=p_1 k
  refine Yl (its:=[raw au (cV G A B e),osl NoB ((e.Keys ++ ([y] : List V16)) : List V16) G,osl NoB (([y] : List V16) : List V16) av,osl NoB (e.Records : List GRecord) A,osl NoB (e.Events : List GEvent) B,raw b5 xi,raw b3 (enc y),raw b1 (cV b h i o)]) (mk:=([mkO 0 (λv=>own NoB (O : (Ref Gengine)) [v])] : Mk)) [38,39,40,41,42,43] Yt R R (by decide) R H (λu=>M.qE (M.q0 I.drew u) emO) (qsM (pr:=λv=>True) ?_ (qsP (λz=>Zx z.E Za ld R ZF R (z.M.ra0) cq (kr0 R)) (qsP (λz=>Zg z.E Za ld R (XA) (kr0 R)) (qsP (λz=>Zy (v:=b) z.E Za ld R T0 R (at_0 (z.M.ra7)) (kr0 R)) (qsP (λz=>Yd z.E Za ld R AE (YD _ o.Keys b (z.M.rdo j) C az) (kc R)) (qsP (λz=>ZY (parts:=[(0,.const (vI 3)),(1,.tmp 42)]) (vs:=[(0,vI 3),(1,vI C)]) (cs:=cat [[vI 3],[vI C],enc xc]) z.E Za ld R R Wc kS (ZT (pre:=[]) (seg:=[vI 0]) (seg':=[vI 3]) (post:=[[vI 0],enc xc]) R cl0 R R R (ZT (pre:=[[vI 3]]) (seg:=[vI 0]) (seg':=[vI C]) (post:=[enc xc]) R ck R R R Yp)) (kr0 R)) qs0)))))) ?_
  ·intro a w U D z
   have H:=z.E
   have hD : D 0 = false:=z.F
   have hM0:=z.M
   have I:=z.M
   refine Zp H R zU (Xz _  O ay) ?_
   rintro _ w a ⟨_,rfl,hFr,hK⟩ H
   have I:=hM0.add hK hFr
   exact ⟨_,_,R,H,M.qFill (mk1:=[]) (mk2:=[]) (f:=(λv=>own NoB (O : (Ref Gengine)) [v])) I R hD,trivial⟩
  intro a w U D H I hG ai
  have d0:=ai 0 (by decide)
  have I:=((((I.sure (pre:=[_,_,_,_,_,_,_,_]) d0).pl4).pl4).pl3).pl8
  have hM0:=I
  obtain ⟨S63,a4,aj,I,X⟩:=M.freeze [_,_,_] I noB
  obtain ⟨T,a0,k⟩:=p_1 k
  refine Zp H R Zd6 (UL _ _ _ _ O (U 0) aj (⟨e.Keys ++ ([y] : List V16),e.Next,e.Records,e.Events,e.Head⟩ : GVault) G A B (⟨3,C,xc⟩ : GEvent) I T a0) ?_
  rintro v w a ⟨Y,Z,aa,rfl,I⟩ H
  have I:=X _ [_,_,_] (ZK (ZK (ZK Yo))) I
  simp only [List.cons_append,List.nil_append] at I
  have I:=I.pl6
  refine Zk (seg:=cV Y Z aa T) (cs':=cV Y Z aa T) H I Za R R R ZF cq (q_1 cq cq) (ZC (cc1 (t_2 (I.sl2)) (cc1 (s_1 (T.Next : Int)) (cc1 (t_2 (I.sl3)) (cc1 (t_2 (I.sl4)) (cc1 (s_1 _) cc0)))))) (q_2 cq cq) λw a I H=>Zc H R λa H=>Zj ?_
  obtain rfl:=o_1 k
  refine Zm ?_
  have I:=M.fst (l:=[_,_,_,_]) I.pl4.pl4.pl4.pl3
  exact ⟨Y,Z,aa,H.s,I⟩
 rintro a w ⟨K,L,N,H,I⟩
 obtain rfl:=o_1 ah
 have ak : Yb prog _ _ (.cell 4 79) _:=ZG H R ZF R I.ra0 cq R
 have I:=M.fst (l:=[_,_,_]) I.pl3.pl3.pl3
 exact p_3 (Xf H R ak (ZD H R) ⟨_,R,K,L,N,R,I.outF (ZK (ZK (ZK Yo))),I.kept⟩)
def TB (h : GVault) (x : Int) (y : V16) : Option (GVault × Int) :=
 (XM h x).bind λi=>if i.2 != 0 then (some ((⟨[],0,[],[],Vector.replicate 32 (0 : UInt8)⟩ : GVault),i.2)) else ((YP).bind λf=>(XE h).bind λd=>(idx d.Records i.1).bind λb=>((YU f h b).bind λm=>if !decide (m = b.Tag) then (some true) else ((XY h y).bind λn=>some n) : Option (Bool)).bind λo=>if o then (some ((⟨[],0,[],[],Vector.replicate 32 (0 : UInt8)⟩ : GVault),5)) else (if (h.Events.length : Int) == 60 then (some ((⟨[],0,[],[],Vector.replicate 32 (0 : UInt8)⟩ : GVault),3)) else ((Y6 f h b b.Body).bind λq=>((Z6 h.Keys).bind λt=>some (wr (t - 1),y) : Option (Int × V16)).bind λj=>((Wb f h (⟨b.Number,j.1,j.2,b.Label,b.Body,b.Tag⟩ : GRecord) q).bind λu=>(idx d.Records i.1).bind λz=>some (d.Records.set (i.1).toNat u) : Option ((List GRecord))).bind λk=>((idx k i.1).bind λl=>(YS f (⟨d.Keys,d.Next,k,d.Events,d.Head⟩ : GVault) (⟨4,x,l.Tag⟩ : GEvent)).bind λc=>some (c.Keys,c.Next,c.Records,c.Events,c.Head,0) : Option ((List V16) × Int × (List GRecord) × (List GEvent) × V32 × Int)).bind λe=>some ((⟨e.1,e.2.1,e.2.2.1,e.2.2.2.1,e.2.2.2.2.1⟩ : GVault),e.2.2.2.2.2))))
theorem ym (w0 : World) (p0 : GVault) (y : Value) (L : Ro w0 p0.Keys [y]) (B : Value) (W : Ro w0 p0.Records [B]) (C : Value) (N : Ro w0 p0.Events [C]) (p1 : Int) (p2 : V16) (r : GVault × Int) (J : TB p0 p1 p2 = some r) :
  Calls prog 42 [vcV y B C p0,vI p1,Value.agg (enc p2).toArray].toArray w0 (e_r λv w'=>(∃ y1 y2 y3 : Value,v = (Value.tuple [vcV y1 y2 y3 r.1,vI r.2].toArray) ∧ Fr w0 w' [osl NoB (r.1.Keys : List V16) y1,osl NoB (r.1.Records : List GRecord) y2,osl NoB (r.1.Events : List GEvent) y3] ∧ Kept (Old w0) w0 w')):=by
 refine ce func42 ?_
 intro a H
 have I:=M.start w0
 unfold TB at J
 refine Zb (Z2 (cs:=cV y B C p0) H I Za ld R R λb1 w a I H=>Z2 (cs:=enc p2) H I Za ld R R λb3 w a I H=>Zw H I ZF λb5 w a I H=>Zc H R λa H=>Ze (Zb (Zq H R ZF R I.ra2 cq λa H=>Zd H R ?_))); intro a H
 obtain ⟨r7,e8,J⟩:=p_1 J
 refine c_k H I R Zdi (Tg _ p0 y (I.rdo L) B (I.rdo W) C (I.rdo N) p1 r7 e8) ?_; intro w a I H
 refine Zd H R λa H=>ZM H Za ld R R λa H=>ZM H Za ld R R λa H=>Zc H R λa H=>Zc H R λa H=>Ze (s_2 (Zb (Zd H R λa H=>Zn H R R R λa H=>Ze ?_)))
 refine c_if H R J ?_ ?_
 ·intro b8 J
  refine Zb (ZY (parts:=[]) (vs:=[]) (cs:=cat xa) H Za ld R R ZF Kd Yp λa H=>Zd H R λa H=>Zk (seg:=cat xa) (cs':=cat xa) H I Za R R R ZF cq (q_1 cq cq) (ZC (cc1 ZN (cc1 (s_1 xj) (cc1 ZN (cc1 ZN (cc1 (s_1 _) cc0)))))) (q_2 cq cq) λw a I H=>Zc H R λa H=>Ze ?_)
  have I:=M.nilS (α:=GEvent) NoB noB (M.nilS (α:=GRecord) NoB noB (M.nilS (α:=V16) NoB noB I))
  obtain rfl:=o_1 J
  have bn : Yb prog _ _ (.cell 6 79) _:=ZG H R ZF R I.ra3 cq R
  have I:=M.fst (l:=[_,_,_]) I.pl1.pl2
  exact p_3 (ZI (Xf H R bn (ZD H R) ⟨_,R,xd,xd,xd,R,I.outF (ZK (ZK (ZK Yo))),I.kept⟩))
 intro b8 J
 refine u_2 (Zz (s_2 ?_))
 obtain ⟨Z,b9,J⟩:=p_1 J
 obtain ⟨q,ca,J⟩:=p_1 J
 refine Yl (its:=[raw b5 xi,raw b3 (enc p2),raw b1 (cV y B C p0)]) (mk:=([mkO 0 (λv=>own NoB (Z : (Ref Gengine)) [v]),mkO 2 (λv=>own NoB q (Value.cells v).toList),mkO 3 (λv=>XS v xi)] : Mk)) [24,25,26,11] Yt R R (by decide) R H (λu=>M.qE (M.qE (M.qE (M.q0 I.drew u) emO) emO) emO) (qsM (pr:=λv=>True) ?_ (qsP (λz=>Zx z.E Za ld R ZF R (z.M.ra2) cq (kr0 R)) (qsM (pr:=λv=>∃ cs,v = .agg cs) ?_ (qsM (pr:=λv=>True) ?_ qs0)))) ?_
 ·intro a w A D z
  have H:=z.E
  have hD : D 0 = false:=z.F
  have hM0:=z.M
  have I:=z.M
  refine Zp H R zU (Xz _  Z b9) ?_
  rintro _ w a ⟨_,rfl,hFr,hK⟩ H
  have I:=hM0.add hK hFr
  exact ⟨_,_,R,H,M.qFill (mk1:=[]) (mk2:=[_,_]) (f:=(λv=>own NoB (Z : (Ref Gengine)) [v])) I R hD,trivial⟩
 ·intro a w A D z
  have H:=z.E
  have hD : D 2 = false:=z.F
  have hM0:=z.M
  have I:=z.M
  refine Zp H R Zd0 (Ti _ p0 y (I.rdo L) B (I.rdo W) C (I.rdo N) q ca) ?_
  rintro _ w a ⟨cv,cw,cx,rfl,hFr,hK⟩ H
  have I:=V4 (x:=q) (hM0.add hK hFr) sio sio sio
  exact ⟨_,_,R,H,M.qFill (mk1:=[_]) (mk2:=[_]) (f:=(λv=>own NoB q (Value.cells v).toList)) I R hD,⟨_,R⟩⟩
 ·intro a w A D z
  have H:=z.E
  have hD : D 3 = false:=z.F
  have I:=z.M
  refine Zw H I ZF ?_; intro cy w a I H
  have I:=I.pack1 (it:=XS _ xi) (λw w' fp ⟨b',e,k⟩ hb=>⟨b',e,Yz w w' fp k hb⟩) (λfp k=>⟨_,R,k⟩)
  exact ⟨_,_,R,H,M.qFill (mk1:=[_,_]) (mk2:=[]) (f:=λv=>XS v xi) I R hD,trivial⟩
 intro a w A D H I hG ab
 have d0:=ab 0 (by decide)
 have d2:=ab 2 (by decide)
 have d3:=ab 3 (by decide)
 have I:=(((I.sure (pre:=[_,_,_]) d0).sure (pre:=[_,_,_,_]) d2).sure (pre:=[_,_,_,_,_]) d3).pl
 obtain ⟨_,⟨ac,bo,_⟩,_⟩:=I.head
 have I:=I.pack1 Yz (it:=raw ac xi) (λfp ⟨b2,e2,k2⟩=>by rw [bo] at e2; simp [ptr] at e2; subst e2; exact k2)
 obtain ⟨d,n,i,bc,_,_,_⟩:=Xx (I.rn5)
 have a8 : (A 2) = (vcV d n i q):=Jw bc (hG 2 d2 _ R).2
 have I:=I.pl5
 have I:=V9 (I.recown (congrArg (λv=>(Value.cells v).toList) a8))
 have H:=H.setq (t:=26) R a8
 have H:=H.setq (t:=11) R bo
 refine Zc H R ?_; intro a H
 have I:=I.pl3
 refine Zk (seg:=cV d n i q) (cs':=cV d n i q) H I Za R R R ZF cq (q_1 cq cq) (ZC (cc1 (t_2 (I.rn1)) (cc1 (s_1 (q.Next : Int)) (cc1 (t_2 (I.rn2)) (cc1 (t_2 (I.rn3)) (cc1 (s_1 _) cc0)))))) (q_2 cq cq) λw a I H=>Zj (Zz (Zb (Zl H R (Yn) λa H=>ZB (v:=n) H R XO R (at_2 I.ra0) λa H=>Zd H R ?_))); intro a H
 obtain ⟨o,al,J⟩:=bix J
 refine YG H R R o_3 Yf (I.rn2) al.1 ?_; intro a H
 have I:=I.pl2.toOsl0
 obtain ⟨cr,I,_⟩:=I.open1 noB al.2
 obtain ⟨_,hx,_⟩:=I.head
 obtain ⟨K,G,_,_,rfl,_,_,_⟩:=Q8 hx
 have I:=T3 I
 refine Zq H R Yf R (I.holeAt (pre:=[_,_])) cq λa H=>Zw H I Yf λaj w a I H=>Zk (seg:=cR K G o) (cs':=cR K G o) H I Za R R R Yf cq (q_1 cq cq) (ZC (cc1 (s_1 (o.Number : Int)) (cc1 (s_1 (o.Version : Int)) (cc1 (s_1 _) (cc1 (t_2 (I.rn1)) (cc1 (t_2 (I.rn2)) (cc1 (s_1 _) cc0))))))) (q_2 cq cq) λw a I H=>Ze (s_2 (p_2 ?_))
 obtain ⟨cc,U,O⟩:=p_1 J
 refine ZJ (λa w=>Env 85 a [(1,vI p1),(3,ptr b1 0),(5,ptr b3 0),(6,ptr b5 0),(8,vI r7.1),(10,A 0),(11,ptr ac 0),(12,ptr aj 0),(32,vT cc)] ∧ M (Old w0) w0 w [raw aj (cR K G o),own NoB (o.Label : xg) [K],own NoB (o.Body : xg) [G],KZ NoB (q.Records : List GRecord) (r7.1).toNat n (cR K G o),raw ac (cV d n i q),own NoB (q.Keys : xv) [d],own NoB (q.Events : xu) [i],raw b5 xi,raw b3 (enc p2),raw b1 (cV y B C p0),own NoB (Z : (Ref Gengine)) [A 0]]) ?_ ?_
 ·obtain ⟨bd,bp,U⟩:=p_1 U
  refine Ys (!decide (bd = o.Tag)) (λT=>?_) (λT=>?_)
  ·have U:=Zt U T
   refine Z9 [33,34,35,36,37,38,39,40,41,42,43,44,32] Yt R R (by decide) R H I (q_m (λ_=>R) (qsP (λz=>Zx z.E Za ld R ZF R (z.M.ra9) cq (kr0 R)) (qsP (λz=>Zx z.E Za ld R Yf R (z.M.ra0) cq (kr0 R)) (qsP (λz=>Yd z.E Za ld R kL (Wu _ Z (A 0) (z.M.rn10) p0 y (z.M.rdo L) B (z.M.rdo W) C (z.M.rdo N) o K (z.M.rn1) G (z.M.rn2) bd bp) (kc R)) (qsP (λz=>Zg z.E Za ld R (Tl) (kr0 R)) (qsP (λz=>Zx z.E Za ld R Yq R (at_5 (z.M.ra0)) (u_1 _) (kr0 R)) (qsP (λz=>Hx z.E Za ld R R (WJ t_4 ty5 R false R (by decide) (XZ t_3)) (by decide) (by kernel_rfl) (kr0 R)) (q_m (λ_=>R) (qsP (λz=>Zf z.E R (lkb R T) R (by decide) (kr0 R)) (qsP (λz=>Zf z.E R (lkb R T) R (by decide) (kr0 R)) (qsP (λz=>Zf z.E R (lkb R T) R (by decide) (kr0 R)) (qsP (λz=>UM z.E Za ld (lkb R T) R (kr0 R)) (qsP (λz=>T9 z.E Za ld R (kr0 R)) qs0))))))))))))) ?_
   ·intro a w u H I
    refine Zj ?_
    obtain rfl:=o_1 U
    refine Zm ?_
    exact ⟨H.s,I⟩
  have U:=Zs U T
  obtain ⟨cd,cf,U⟩:=p_1 U
  refine Z9 [33,34,35,36,37,38,39,40,41,42,43,44,32] Yt R R (by decide) R H I (q_m (λ_=>R) (qsP (λz=>Zx z.E Za ld R ZF R (z.M.ra9) cq (kr0 R)) (qsP (λz=>Zx z.E Za ld R Yf R (z.M.ra0) cq (kr0 R)) (qsP (λz=>Yd z.E Za ld R kL (Wu _ Z (A 0) (z.M.rn10) p0 y (z.M.rdo L) B (z.M.rdo W) C (z.M.rdo N) o K (z.M.rn1) G (z.M.rn2) bd bp) (kc R)) (qsP (λz=>Zg z.E Za ld R (Tl) (kr0 R)) (qsP (λz=>Zx z.E Za ld R Yq R (at_5 (z.M.ra0)) (u_1 _) (kr0 R)) (qsP (λz=>Hx z.E Za ld R R (WJ t_4 ty5 R false R (by decide) (XZ t_3)) (by decide) (by kernel_rfl) (kr0 R)) (q_m (λ_=>R) (qsP (λz=>Zx z.E (Zi z.E R (lkb R T)) (by decide) R ZF R (z.M.ra9) cq (kr0 R)) (qsP (λz=>Zx z.E (Zi z.E R (lkb R T)) (by decide) R ZE R (z.M.ra8) (u_1 _) (kr0 R)) (qsP (λz=>Yd z.E (Zi z.E R (lkb R T)) (by decide) R (cbm func131) (Kz _ p0 y (z.M.rdo L) B (z.M.rdo W) C (z.M.rdo N) p2 cd cf) (kc R)) (qsP (λz=>Um z.E Za ld (lkb R T) R (kr0 R)) (qsP (λz=>T9 z.E Za ld R (kr0 R)) qs0))))))))))))) ?_
  ·intro a w u H I
   refine Zj ?_
   obtain rfl:=o_1 U
   refine Zm ?_
   exact ⟨H.s,I⟩
 rintro a w ⟨H,I⟩
 refine c_if H R O ?_ ?_
 ·intro bq O
  refine Zb (ZY (parts:=[]) (vs:=[]) (cs:=cat xa) H Za ld R R ZF Kd Yp ?_); intro a H
  have I:=I.pl7
  refine Zk (seg:=cat xa) (cs':=cat xa) H I Za R R R ZF cq (q_1 cq cq) (ZC (cc1 ZN (cc1 (s_1 xj) (cc1 ZN (cc1 ZN (cc1 (s_1 _) cc0)))))) (q_2 cq cq) λw a I H=>Zc H R λa H=>Ze ?_
  have I:=M.nilS (α:=GEvent) NoB noB (M.nilS (α:=GRecord) NoB noB (M.nilS (α:=V16) NoB noB ((VP (x:=o) I.pl10.pl10.pl10.pl10.pl10.pl10.pl7.pl7.pl10.pl10.pl10 siw siw).close0 noB al.2)))
  obtain rfl:=o_1 O
  have br : Yb prog _ _ (.cell 6 79) _:=ZG H R ZF R I.ra4 cq R
  have I:=M.fst (l:=[_,_,_]) I.pl1.pl2
  exact p_3 (Xl (ZI (Xf H R br (ZD H R) ⟨_,R,xd,xd,xd,R,I.outF (ZK (ZK (ZK Yo))),I.kept⟩)))
 intro bq O
 refine Zb (Zl H R (XU) λa H=>ZB (v:=C) H R Qy R (at_3 I.ra9) λa H=>YE H R p_4 (I.rd N) λa H=>Zn H R R R λa H=>Zc H R λa H=>Ze ?_)
 refine c_if H R O ?_ ?_
 ·intro bs O
  refine Zb (ZY (parts:=[]) (vs:=[]) (cs:=cat xa) H Za ld R R ZF Kd Yp ?_); intro a H
  have I:=I.pl7
  refine Zk (seg:=cat xa) (cs':=cat xa) H I Za R R R ZF cq (q_1 cq cq) (ZC (cc1 ZN (cc1 (s_1 xj) (cc1 ZN (cc1 ZN (cc1 (s_1 _) cc0)))))) (q_2 cq cq) λw a I H=>Zc H R λa H=>Ze ?_
  have I:=M.nilS (α:=GEvent) NoB noB (M.nilS (α:=GRecord) NoB noB (M.nilS (α:=V16) NoB noB ((VP (x:=o) I.pl10.pl10.pl10.pl10.pl10.pl10.pl7.pl7.pl10.pl10.pl10 siw siw).close0 noB al.2)))
  obtain rfl:=o_1 O
  have bt : Yb prog _ _ (.cell 6 79) _:=ZG H R ZF R I.ra4 cq R
  have I:=M.fst (l:=[_,_,_]) I.pl1.pl2
  exact p_3 (Xl (ZI (Xf H R bt (ZD H R) ⟨_,R,xd,xd,xd,R,I.outF (ZK (ZK (ZK Yo))),I.kept⟩)))
 intro bs O
 refine u_2 (YA (Zz (Zb (Zd H R λa H=>Zq H R ZF R I.ra9 cq λa H=>Zq H R Yf R I.ra0 cq λa H=>Zl H R (Uy) λa H=>ZB (v:=G) H R X7 R (at_4 I.ra0) ?_)))); intro a H
 obtain ⟨ax,cg,O⟩:=p_1 O
 refine Zp H R Zf2 (Tm _ Z (A 0) (I.rn10) p0 y (I.rdo L) B (I.rdo W) C (I.rdo N) o K (I.rn1) G (I.rn2) o.Body G (I.rn2) ax cg) ?_
 rintro u64 w a ⟨_,rfl,hFr,hK⟩ H
 have I:=I.add hK hFr
 refine Zc H R λa H=>Ze ?_
 obtain ⟨ar,ay,bu⟩:=p_1 O
 refine ZJ (λa w=>Env 85 a [(1,vI p1),(3,ptr b1 0),(6,ptr b5 0),(8,vI r7.1),(10,A 0),(11,ptr ac 0),(12,ptr aj 0),(13,u64)] ∧ M (Old w0) w0 w [osl NoB (ax : List UInt8) u64,raw aj (cat [[vI o.Number],[vI ar.1],enc ar.2,[K],[G],enc o.Tag]),own NoB (o.Label : xg) [K],own NoB (o.Body : xg) [G],KZ NoB (q.Records : List GRecord) (r7.1).toNat n (cR K G o),raw ac (cV d n i q),own NoB (q.Keys : xv) [d],own NoB (q.Events : xu) [i],raw b5 xi,raw b1 (cV y B C p0),own NoB (Z : (Ref Gengine)) [A 0]]) ?_ ?_
 ·have I:=I.pl1
  obtain ⟨ag,ch,ay⟩:=p_1 ay
  refine Yl (its:=[osl NoB (ax : List UInt8) u64,own NoB (o.Label : xg) [K],own NoB (o.Body : xg) [G],KZ NoB (q.Records : List GRecord) (r7.1).toNat n (cR K G o),raw ac (cV d n i q),own NoB (q.Keys : xv) [d],own NoB (q.Events : xu) [i],raw b5 xi,raw b3 (enc p2),raw b1 (cV y B C p0),own NoB (Z : (Ref Gengine)) [A 0]]) (mk:=([mkT 6 (raw aj (cR K G o)) (raw aj (cat [[vI o.Number],[vI (wr (ag - 1))],enc o.Nonce,[K],[G],enc o.Tag]))] : Mk)) [58,59,60,61,62,63,91] Yt R R (by decide) R H (λu=>M.qT (M.q0 I.drew u)) (qsP (λz=>Zg z.E Za ld R (XA) (kr0 R)) (qsP (v:=y) ?_ (qsP (v:=(vI ag)) ?_ (qsP (v:=(vI (wr (ag - 1)))) (λz=>Z8 z.E Za ld R R R (kr0 R)) (qsP (λz=>Zx z.E Za ld R ZE R (z.M.ra8) (u_1 _) (kr0 R)) (qsP (λz=>Zg z.E Za ld R (Qe) (kr0 R)) (qsM (pr:=λv=>True) ?_ qs0))))))) ?_
  ·intro a w az D z
   have H:=z.E
   have hD : D 1 = false:=z.F
   have I:=z.M.togA (pre:=[_,_,_,_,_,_,_,_,_,_,_]) (WH (j:=6) (k:=4) z.c R R R hD)
   exact ZB (v:=y) H R T0 R (at_0 I.ra9) λa H=>⟨o_5 _ _,_,R,H⟩
  ·intro a w az D z
   have H:=z.E
   have hD : D 2 = false:=z.F
   have I:=z.M.togA (pre:=[_,_,_,_,_,_,_,_,_,_,_]) (WH (j:=6) (k:=2) z.c R R R hD)
   refine Zp H R AE (YD _ p0.Keys y (I.rdo L) ag ch) ?_
   rintro v w a ⟨rfl,hK⟩ H
   exact ⟨hK,_,R,H⟩
  ·intro a w az D z
   have H:=z.E
   have hD : D 6 = false:=z.F
   have I:=(z.M.togA (pre:=[_,_,_,_,_,_,_,_,_,_,_]) hD).pl11
   exact Zk (seg:=[vI (wr (ag - 1))]) H I Za R R R ty2 R (YN (pre:=[[vI o.Number]]) ck R) (s_1 (wr (ag - 1) : Int)) (Z4 (pre:=[[vI o.Number]]) ck R) λw a I H=>⟨undef,_,R,Env.dummy H (by decide),M.qTog (mk1:=[]) (mk2:=[]) I R,trivial⟩
  intro a w az D H I hG ab
  have d6:=ab 6 (by decide)
  have I:=I.togB (pre:=[_,_,_,_,_,_,_,_,_,_,_]) d6
  refine Zl H R (JT) ?_; intro a H
  have I:=I.pl11
  refine Zk (seg:=enc p2) H I Za R R R ZE (u_1 _) (YN (pre:=[[vI o.Number],[vI (wr (ag - 1))]]) ck flq) (s_1 _) (Z4 (pre:=[[vI o.Number],[vI (wr (ag - 1))]]) ck flq) λw a I H=>Zj ?_
  obtain rfl:=o_1 ay
  refine Zm ?_
  have I:=M.fst (l:=[_,_,_,_,_,_,_,_,_,_,_]) I.pl11.pl11.pl10.pl10.pl10.pl10.pl10.pl10.pl10.pl9.pl10
  exact ⟨H.s,I⟩
 rintro a w ⟨H,I⟩
 obtain ⟨be,ah,bv⟩:=p_1 bu
 refine ZJ (λa w=>∃ ak : Value,Env 85 a [(1,vI p1),(6,ptr b5 0),(8,vI r7.1),(10,A 0),(11,ptr ac 0)] ∧ M (Old w0) w0 w [raw ac (cV d ak i q),own NoB (q.Keys : xv) [d],own NoB (q.Events : xu) [i],raw b5 xi,own NoB (Z : (Ref Gengine)) [A 0],osl NoB (be : List GRecord) ak]) ?_ ?_
 ·have I:=I.pl3.pl3
  have I:=I.packL (m:=[_,_]) (it:=J1 NoB [_,_]) (JW.mono noB) (λfp h=>Xm.reloc h (Jd (Jd Yo)))
  obtain ⟨ae,ci,ah⟩:=p_1 ah
  refine Yl (its:=[osl NoB (ax : List UInt8) u64,raw aj (cat [[vI o.Number],[vI ar.1],enc ar.2,[K],[G],enc o.Tag]),KZ NoB (q.Records : List GRecord) (r7.1).toNat n (cR K G o),raw ac (cV d n i q),own NoB (q.Keys : xv) [d],own NoB (q.Events : xu) [i],raw b5 xi,raw b1 (cV y B C p0),own NoB (Z : (Ref Gengine)) [A 0]]) (mk:=([mkU 7 (J1 NoB [own NoB (o.Label : xg) [K],own NoB (o.Body : xg) [G]]) (λv=>own NoB ae (Value.cells v).toList)] : Mk)) [65,66,67,68,69,70,71,72] Yt R R (by decide) R H (λu=>M.qS (M.q0 I.drew u) λ_=>R) (qsP (λz=>Zg z.E Za ld R (Yn) (kr0 R)) (qsP (λz=>Zy (v:=n) z.E Za ld R XO R (at_2 (z.M.ra3)) (kr0 R)) (q_m (λ_=>R) (q_m (λ_=>R) (qsP (λz=>Zx z.E Za ld R ZF R (z.M.ra7) cq (kr0 R)) (qsP (λz=>Zx z.E Za ld R Yf R (z.M.ra1) cq (kr0 R)) (q_m (λ_=>R) (qsM (pr:=λv=>∃ cs,v = .agg cs) ?_ qs0)))))))) ?_
  ·intro a w a9 D z
   have H:=z.E
   have hD : D 7 = false:=z.F
   have hM0:=z.M
   have I:=(z.M.togA (pre:=[_,_,_,_,_,_,_,_,_]) hD).pl
   have I:=I.unpackL (m:=[_,_]) (λfp h=>Xm.mono h (λ_ h=>h.elim))
   simp only [List.cons_append,List.nil_append] at I
   have I:=((((I.pl2.toOwn noB).pl2).pl2).pl2).pl10
   have hM0:=I
   obtain ⟨S81,a0,bw,I,bg⟩:=M.freeze [_,_,_] I noB
   obtain ⟨S85,am,bx,I,bh⟩:=M.freeze [_,_] I noB
   refine Zp H R (cbm func134) (KU _ _ _ _ Z (A 0) (Rep.ro bw (λb hb=>hb.elim (λh=>by cases h) (am b))) p0 y (hM0.rdw L (λb hb=>am b (a0 b (hb)))) B (hM0.rdw W (λb hb=>am b (a0 b (hb)))) C (hM0.rdw N (λb hb=>am b (a0 b (hb)))) (⟨o.Number,ar.1,ar.2,o.Label,o.Body,o.Tag⟩ : GRecord) K G ax u64 bx I ae ci) ?_
   rintro v w a ⟨u89,c3,rfl,I⟩ H
   have I:=bg _ [_,_,_] (Jd (Jd (Jd Yo))) (bh _ [_,_] (Jd (Jd Yo)) I)
   simp only [List.cons_append,List.nil_append] at I
   have I:=((((((((((VP (x:=ae) I.pl1.toOsl0.pl3.pl3 siw siw).pl2).pl9).pl9).pl9).pl9).pl9).pl9).pl9).pl9).pl9
   exact ⟨_,_,R,H,M.qTogS (mk1:=([] : Mk)) (mk2:=([] : Mk)) I R qu,⟨_,R⟩⟩
  intro a w a9 D H I hG ab
  have d7:=ab 7 (by decide)
  have I:=I.togB (pre:=[_,_,_,_,_,_,_,_,_]) d7
  obtain ⟨X,Y,bc,_,_⟩:=YV (I.rn9)
  have ba : (a9 7) = (vcR X Y ae):=Jw bc (hG 7 d7 _ R).2
  have I:=I.pl9
  have I:=T3 (I.recown (congrArg (λv=>(Value.cells v).toList) ba))
  have H:=H.setq (t:=72) R ba
  obtain ⟨c4,bz,ah⟩:=bix ah
  refine Aw (pre:=[_,_,_,_]) H I Za ld R R o_3 Yf bz.1 ?_; intro a H
  have I:=I.pl4
  refine jN (k0:=0) (seg:=cR X Y ae) (cs':=cR X Y ae) H I noB Za R R R Yf cq (ZC (cc1 (s_1 (ae.Number : Int)) (cc1 (s_1 (ae.Version : Int)) (cc1 (s_1 _) (cc1 (t_2 (I.rn1)) (cc1 (t_2 (I.rn2)) (cc1 (s_1 _) cc0))))))) (q_1 cq cq) (q_2 cq cq) ?_; intro w a I H
  have I:=(VP (x:=ae) I.pl10.pl10.pl10.pl10.pl10.pl10.pl10.pl10.pl8.pl10.pl10 siw siw).close1 noB
  refine Zj ?_
  obtain rfl:=o_1 ah
  refine Zm ?_
  have I:=M.fst (l:=[_,_,_,_,_,_]) I.pl8.pl7.pl7.pl7.pl7
  exact ⟨n,H.s,I⟩
 rintro a w ⟨ak,H,I⟩
 obtain ⟨au,ai,bi⟩:=p_1 bv
 refine ZJ (λa w=>∃ an ao ap : Value,Env 85 a [(6,ptr b5 0),(7,vI au.2.2.2.2.2)] ∧ M (Old w0) w0 w [raw b5 (cat [[an],[vI au.2.1],[ao],[ap],enc au.2.2.2.2.1]),osl NoB (au.1 : List V16) an,osl NoB (au.2.2.1 : List GRecord) ao,osl NoB (au.2.2.2.1 : List GEvent) ap]) ?_ ?_
 ·obtain ⟨aa,a1,ai⟩:=bix ai
  refine Z9 [74,75,76,77,78,79,80,81,82,83] Yt R R (by decide) R H I (q_m (λ_=>R) (qsP (λz=>Zx z.E Za ld R ZF R (z.M.ra0) cq (kr0 R)) (q_m (λ_=>R) (qsP (λz=>Zg z.E Za ld R (Yn) (kr0 R)) (qsP (λz=>Zy (v:=ak) z.E Za ld R XO R (at_2 (z.M.ra0)) (kr0 R)) (q_m (λ_=>R) (qsP (λz=>Yu z.E Za ld R R o_3 Yf (z.M.sl5) a1.1 (kr0 R)) (qsP (λz=>Zg z.E Za ld R (Tl) (kr0 R)) (qsP (v:=(Value.agg (enc aa.Tag).toArray)) ?_ (qsP (λz=>ZY (parts:=[(0,.const (vI 4)),(1,.tmp 76),(2,.tmp 82)]) (vs:=[(0,vI 4),(1,vI p1),(2,Value.agg (enc aa.Tag).toArray)]) (cs:=cat [[vI 4],[vI p1],enc aa.Tag]) z.E Za ld R R Wc kS (ZT (pre:=[]) (seg:=[vI 0]) (seg':=[vI 4]) (post:=[[vI 0],enc xc]) R cl0 R R R (ZT (pre:=[[vI 4]]) (seg:=[vI 0]) (seg':=[vI p1]) (post:=[enc xc]) R ck R R R (ZT (pre:=[[vI 4],[vI p1]]) (seg:=enc xc) (seg':=enc aa.Tag) (post:=[]) R ck (u_1 _) (u_1 _) R Yp))) (kr0 R)) qs0)))))))))) ?_
  ·intro a w u D z
   have H:=z.E
   have I : M (Old w0) w0 w [raw ac (cV d ak i q),own NoB (q.Keys : xv) [d],own NoB (q.Events : xu) [i],raw b5 xi,own NoB (Z : (Ref Gengine)) [A 0],osl NoB (be : List GRecord) ak]:=z.M
   obtain ⟨cj,bj,bk⟩:=Wj (I.sl5) a1.2
   obtain ⟨b0,b4,rfl,_,_⟩:=YV bj
   exact Zq H R Yq R (at_5 bk) (u_1 _) λa H=>⟨o_5 _ _,_,R,H⟩
  intro a w u H I
  have I:=I.pl1.toOsl0.pl2.toOsl0.pl5.pl2.pl5
  have hM0:=I
  obtain ⟨S118,cl,bl,I,a5⟩:=M.freeze [_,_,_] I noB
  obtain ⟨aq,b6,ai⟩:=p_1 ai
  refine Zp H R Zd6 (UL _ _ _ _ Z (A 0) bl (⟨q.Keys,q.Next,be,q.Events,q.Head⟩ : GVault) d ak i (⟨4,p1,aa.Tag⟩ : GEvent) I aq b6) ?_
  rintro v w a ⟨a2,a3,a4,rfl,I⟩ H
  have I:=a5 _ [_,_,_] (ZK (ZK (ZK Yo))) I
  simp only [List.cons_append,List.nil_append] at I
  have I:=I.pl5
  refine Zk (seg:=cV a2 a3 a4 aq) (cs':=cV a2 a3 a4 aq) H I Za R R R ZF cq (q_1 cq cq) (ZC (cc1 (t_2 (I.sl2)) (cc1 (s_1 (aq.Next : Int)) (cc1 (t_2 (I.sl3)) (cc1 (t_2 (I.sl4)) (cc1 (s_1 _) cc0)))))) (q_2 cq cq) λw a I H=>Zc H R λa H=>Zj ?_
  obtain rfl:=o_1 ai
  refine Zm ?_
  have I:=M.fst (l:=[_,_,_,_]) I.pl4.pl4.pl4.pl3
  exact ⟨a2,a3,a4,H.s,I⟩
 rintro a w ⟨an,ao,ap,H,I⟩
 obtain rfl:=o_1 bi
 have bm : Yb prog _ _ (.cell 6 79) _:=ZG H R ZF R I.ra0 cq R
 have I:=M.fst (l:=[_,_,_]) I.pl3.pl3.pl3
 exact p_3 (Xf H R bm (ZD H R) ⟨_,R,an,ao,ap,R,I.outF (ZK (ZK (ZK Yo))),I.kept⟩)
def Vi (b : (List UInt8)) : Option (V16) :=
 (UT b).bind λc=>(Y3 b (c.1,c.2)).bind λd=>some d.2
theorem BA (d : World) (e : xg) (b : Value) (c : Ro d e [b]) (r : V16) (J : Vi e = some r) :
  Calls prog 52 [b].toArray d (Rt d (Value.agg (enc r).toArray)):=by
 refine ce func52 ?_
 intro a H
 have I:=M.start d
 unfold Vi at J
 refine Zb (Zw H I ZE λn w a I H=>Ze (Zb (Zd H R ?_))); intro a H
 have I:=M.tailP (m:=[]) I
 obtain ⟨f,j,J⟩:=p_1 J
 refine Zp H R (cbm func77) (Bc _ _ _ _ e b c I f j) ?_
 rintro v w a ⟨k,rfl,I⟩ H
 have I:=M.tailU (m:=[_]) I
 simp only [List.cons_append,List.nil_append] at I
 have I:=M.tailP (m:=[_]) I
 obtain ⟨h,l,J⟩:=p_1 J
 refine Zp H R kC (Wq _ _ _ _ k e b c (f.1,f.2) I h l) ?_
 rintro v w a ⟨rfl,I⟩ H
 have I:=M.tailU (m:=[_]) I
 simp only [List.cons_append,List.nil_append] at I
 have I:=I.pl1
 refine Zk (seg:=enc h.2) (cs':=enc h.2) H I Za R R R ZE (u_1 _) (zle flq) (s_1 _) (Zh flq) λw a I H=>Ze ?_
 obtain rfl:=o_1 J
 have i : Yb prog _ _ (.cell 2 53) _:=ZG H R ZE R I.ra0 (u_1 _) R
 exact p_3 (ZV H R i ⟨_,R,R,I.kept⟩)
def Tr (e : V16) : Option (GVault) :=
 ((YP).bind λb=>(X9 b ([] : (List GEvent))).bind λc=>some (([e] : List V16),1,c) : Option ((List V16) × Int × V32)).bind λd=>some (⟨d.1,d.2.1,[],[],d.2.2⟩ : GVault)
theorem z7 (j : World) (h : V16) (r : GVault) (J : Tr h = some r) :
  Calls prog 40 [Value.agg (enc h).toArray].toArray j (e_r λv w'=>(∃ y A B : Value,v = (vcV y A B r) ∧ Fr j w' [osl NoB (r.Keys : List V16) y,osl NoB (r.Records : List GRecord) A,osl NoB (r.Events : List GEvent) B] ∧ Kept (Old j) j w')):=by
 refine ce func40 ?_
 intro a H
 have I:=M.start j
 unfold Tr at J
 refine Zb (Z2 (cs:=enc h) H I Za ld R R λC w a I H=>Zw H I ZF λm w a I H=>Ze ?_)
 obtain ⟨n,d,o⟩:=p_1 J
 refine ZJ (λa w=>∃ u8 : Value,Env 8 a [(2,ptr m 0)] ∧ M (Old j) j w [raw m (cat [[u8],[vI n.2.1],[xd],[xd],enc n.2.2]),osl NoB (n.1 : List V16) u8]) ?_ ?_
 ·obtain ⟨e,q,d⟩:=p_1 d
  obtain ⟨c,t,d⟩:=p_1 d
  refine Yl (its:=[raw m xi,raw C (enc h)]) (mk:=([mkO 1 (λv=>osl NoB (([h] : List V16) : List V16) v),mkO 2 (λv=>own NoB (e : (Ref Gengine)) [v])] : Mk)) [3,4,5,6] Yt R R (by decide) R H (λu=>M.qE (M.qE (M.q0 I.drew u) emO) emO) (qsP (λz=>Zx z.E Za ld R ZE R (z.M.ra1) (u_1 _) (kr0 R)) (qsM (pr:=λv=>True) ?_ (qsM (pr:=λv=>True) ?_ (qsP (v:=(Value.agg (enc c).toArray)) ?_ qs0)))) ?_
  ·intro a w b D z
   have H:=z.E
   have hD : D 1 = false:=z.F
   have I:=z.M
   exact ZL (xs:=[.tmp 3]) (l:=([h] : List V16)) (vs:=[Value.agg (enc h).toArray]) H I Za ld R R s_3 ZE R (by decide) R λG w a I H=>⟨_,_,R,H,M.qFill (mk1:=[]) (mk2:=[_]) (f:=(λv=>osl NoB (([h] : List V16) : List V16) v)) I R hD,trivial⟩
  ·intro a w b D z
   have H:=z.E
   have hD : D 2 = false:=z.F
   have hM0:=z.M
   have I:=z.M
   refine Zp H R zU (Xz _  e q) ?_
   rintro _ w a ⟨_,rfl,hFr,hK⟩ H
   have I:=hM0.add hK hFr
   exact ⟨_,_,R,H,M.qFill (mk1:=[_]) (mk2:=[]) (f:=(λv=>own NoB (e : (Ref Gengine)) [v])) I R hD,trivial⟩
  ·intro a w b D z
   have H:=z.E
   have x : D 2 = true:=z.p 0 _ R R
   have I:=z.M.sure (pre:=[_,_,_]) x
   refine Zp H R Zgg (Q2 _ e (b 2) (I.rn3) ([] : xu) xd qp c t) ?_
   rintro v w a ⟨rfl,hK⟩ H
   exact ⟨hK,_,R,H⟩
  intro a w b D H I hG i
  have K:=i 1 (by decide)
  have x:=i 2 (by decide)
  have I:=(I.sure (pre:=[_,_]) K).sure (pre:=[_,_,_]) x
  refine ZY (parts:=[(0,.tmp 4),(1,.const (vI 1)),(4,.tmp 6)]) (vs:=[(0,b 1),(1,vI 1),(4,Value.agg (enc c).toArray)]) (cs:=cat [[b 1],[vI 1],[xd],[xd],enc c]) H Za ld R R ZF Kd (ZT (pre:=[]) (seg:=[xd]) (seg':=[b 1]) (post:=[[vI 0],[xd],[xd],enc xc]) R cl0 R R (ZX (I.sl2)) (ZT (pre:=[[b 1]]) (seg:=[vI 0]) (seg':=[vI 1]) (post:=[[xd],[xd],enc xc]) R ck R R R (ZT (pre:=[[b 1],[vI 1],[xd],[xd]]) (seg:=enc xc) (seg':=enc c) (post:=[]) R ck (u_1 _) (u_1 _) R Yp))) λa H=>Zk (seg:=cat [[b 1],[vI 1],[xd],[xd],enc c]) (cs':=cat [[b 1],[vI 1],[xd],[xd],enc c]) H I Za R R R ZF cq (q_1 cq cq) (ZC (cc1 (t_2 (I.sl2)) (cc1 (s_1 (1 : Int)) (cc1 ZN (cc1 ZN (cc1 (s_1 _) cc0)))))) (q_2 cq cq) λw a I H=>Zj ?_
  obtain rfl:=o_1 d
  refine Zm ?_
  have I:=M.fst (l:=[_,_]) I.pl2.pl1
  exact ⟨b 1,H.s,I⟩
 rintro a w ⟨u8,H,I⟩
 have I:=M.nilS (α:=GEvent) NoB noB (M.nilS (α:=GRecord) NoB noB I)
 obtain rfl:=o_1 o
 have k : Yb prog _ _ (.cell 2 79) _:=ZG H R ZF R I.ra2 cq R
 have I:=M.fst (l:=[_,_,_]) I.pl1.pl3
 exact p_3 (ZV H R k ⟨_,R,u8,xd,xd,R,I.outF (ZK (ZK (ZK Yo))),I.kept⟩)
def KO (d : (List UInt8)) (b : Int × Int × Int × (List UInt8)) : Option (Fl (Int × Int × Int × (List UInt8)) (Int × Int × (List UInt8))) :=
 if decide (b.2.2.1 > 0) then ((Xu d (b.1,b.2.1) 256).bind λc=>(app 1 b.2.2.2 ([Zv c.2] : List UInt8)).bind λe=>some (Fl.nx (c.1.1,c.1.2,wr (b.2.2.1 - 1),b.2.2.2 ++ ([Zv c.2] : List UInt8)))) else (some (Fl.ex (b.1,b.2.1,b.2.2.2)))
def Kt (b : (List UInt8)) (d : (Int × Int)) (e : Int) : Option ((Int × Int) × (List UInt8)) :=
 (ZQ (KO b) (d.1,d.2,e,([] : List UInt8))).bind λc=>some ((c.1,c.2.1),c.2.2)
theorem qw (St : Nat → Prop) (W E : World) (n : Item) (d : Nat) (e : xg) (c : Value) (f : Rep.sat St W e [c] []) (t : xy) (F : Int) (I : M St W E [raw d (cat [[c],[vI t.1],[Value.int .u64 t.2]]),n]) (r : xy × xg) (J : Kt e t F = some r) :
  Calls prog 54 [ptr d 0,vI F].toArray E (e_r λv w'=>(∃ G : Value,v = G ∧ M St W w' [raw d (cat [[c],[vI r.1.1],[Value.int .u64 r.1.2]]),osl NoB (r.2 : List UInt8) G,n])):=by
 refine ce func54 ?_
 intro a H
 unfold Kt at J
 refine Zb (Zc H R λa H=>Ze (Zb (ZL (xs:=[]) (l:=xx) (vs:=[]) H I Za ld R R o_2 ty5 R (by decide) R λK w a I H=>Zc H R λa H=>Ze ?_)))
 obtain ⟨u,x,y⟩:=p_1 J
 refine ZJ (λa w=>∃ o : Value,Env 18 a [(5,o)] ∧ M St W w [raw d (cat [[c],[vI u.1],[Value.int .u64 u.2.1]]),n,osl NoB (u.2.2 : List UInt8) o]) ?_ ?_
 ·refine p_2 ?_
  have I:=I.pl2.pl2
  refine ZR (λ(h : Int × Int × Int × xg) a w=>∃ q : Value,Env 18 a [(0,ptr d 0),(1,vI h.2.2.1),(5,q)] ∧ M St W w [raw d (cat [[c],[vI h.1],[Value.int .u64 h.2.1]]),n,osl NoB (h.2.2.2 : List UInt8) q]) x ⟨K,H.s,I⟩ ?_
  rintro h a w ⟨q,H,I⟩ L b j
  unfold KO at b
  refine s_2 (Zb (Zd H R λa H=>Zn H R R R λa H=>Ze ?_))
  refine c_if H R b ?_ ?_
  ·intro k b
   refine u_2 (Zz (s_2 (p_2 (t_1 (Zd H R λa H=>Zd H R ?_))))); intro a H
   have I:=M.tailP (m:=[_]) I
   obtain ⟨i,z,b⟩:=p_1 b
   refine Zp H R cb29 (Ur _ _ _ _ d e c f (h.1,h.2.1) 256 I i z) ?_
   rintro v w a ⟨rfl,I⟩ H
   have I:=M.tailU (m:=[_]) I
   simp only [List.cons_append,List.nil_append] at I
   refine YX H Za ld R s_4 t_3 λa H=>ZL (xs:=[.tmp 14]) (l:=([Zv i.2] : List UInt8)) (vs:=[vB (Zv i.2)]) H I Za ld R R o_2 ty5 R (by decide) R ?_; intro N w a I H
   obtain ⟨O,A,b⟩:=p_1 b
   obtain ⟨B,rfl⟩:=Z1 A
   have I:=I.pl3
   refine Z3 H I Za ld R R (I.sl1) o_2 ty5 R (by decide) B λC w a I H=>Zc H R λa H=>Zj (YA (Zz (t_1 (Zd H R λa H=>Zn H R R R λa H=>Zc H R λa H=>Zj (Zm ?_)))))
   have I:=(I.pl3.pl3.pl3).drop
   exact ⟨_,ois b,C,H.s,I⟩
  intro k b
  refine o_4 (Zu (Zu (YQ ?_)))
  obtain rfl:=j _ (ois b)
  refine Zm ?_
  exact ⟨q,H.s,I⟩
 rintro a w ⟨o,H,I⟩
 refine Zb (Zd H R λa H=>Zc H R λa H=>Ze ?_)
 obtain rfl:=o_1 y
 have I:=I.pl1.pl2.pl2
 exact p_3 (ZV H R (ZD H R) ⟨_,R,o,R,I⟩)
def Xv (b : List GRecord) (c : Int) (d : Int) : Option (List GRecord):=delF b c d
theorem TX (St : Nat → Prop) (W c : World) (its : List Item) (l : List (Opq 52)) (v : Value) (i j : Nat) (I : M St W c (osl NoB l v :: its)) (hij : i ≤ j) (hj : j ≤ l.length) :
  Calls prog 161 [v,vI (i : Int),vI (j : Int)].toArray c (λen w'=>∃ y,en = .returned y ∧ M St W w' (osl NoB (l.take i ++ l.drop j) y :: its)):=by
 refine ce func161 ?_
 intro a H
 refine Zb (Zc H R λa H=>Ze (Zb (Zd H R λa H=>Zd H R λa H=>Zd H R λa H=>Zd H R λa H=>YE H R o_3 (I.sl0) λa H=>Zhe H Za ld R R R R o_3 Yf (I.sl0) hij hj λu a H=>Ze (s_2 (Zb (Zd H R λa H=>Zd H R λa H=>Zn H R R R λa H=>Ze ?_))))))
 refine Zr H R ?_ ?_
 ·intro hb
  have hb:=eqI hb
  subst hb
  refine Zb (Zd H R λa H=>Zc H R λa H=>Ze ?_)
  refine p_3 (ZI (ZV H R (ZD H R) ⟨_,R,?_⟩))
  rw [List.take_append_drop]
  exact I
 intro hb
 have hb:=neI hb
 have hlt : i < j:=by omega
 refine u_2 (Zz (Zb (Zd H R λa H=>YE H R o_3 (I.sl0) λa H=>Zc H R λa H=>Ze (s_2 ?_))))
 have d : slc l 0 (i : Int) = some (l.take i):=slcA (by omega)
 have e : slc l (j : Int) (l.length : Int) = some (l.drop j):=slcE (by omega)
 refine Z9 [20,21,22,23,24,25] Yt R R (by decide) R H I (q_m (λ_=>R) (q_m (λ_=>R) (qsP (λz=>QZ (lo:=none) (vhi:=some (vI (i : Int))) (i:=0) (j:=(i : Int)) z.E Za ld R R R R R o_3 Yf (z.M.sl0) d (kr0 R)) (q_m (λ_=>R) (q_m (λ_=>R) (qsP (λz=>QZ (hi:=none) (vlo:=some (vI (j : Int))) (i:=(j : Int)) (j:=(l.length : Int)) z.E Za ld R R R R R o_3 Yf (z.M.sl0) e (kr0 R)) qs0)))))) ?_
 intro a w u H I
 refine Zfq (i:=i) (j:=j) H I Za ld R R o_3 Yf hlt hj λw a I H=>Zc H R λa H=>Zj (Zz ?_)
 have b : (l.take i ++ (l.drop j ++ l.drop (l.length - (j - i)))).length = l.length:=by simp; omega
 refine Zb (Zd H R λa H=>Zd H R λa H=>Zga H I Za ld R o_3 (by omega) λa H=>Zd H R λa H=>Zep (m:=l.length) H I Za ld R R R o_3 Yf (by omega) (by omega) λa H=>Zgj H I Za (by rw [b]; rfl) o_3 Yf R R (by omega) λq w a I H=>Ze (Zb (Zd H R λa H=>Zc H R λa H=>Ze ?_)))
 exact p_3 (ZV H R (ZD H R) ⟨_,R,M.delCut I hij hj (by simp; omega)⟩)
theorem TZ (St : Nat → Prop) (W c : World) (its : List Item) (d : List GRecord) (b : Value) (e : Int) (f : Int) (I : M St W c (osl NoB d b :: its)) (r : List GRecord) (J : Xv d e f = some r) :
  Calls prog 161 [b,vI e,vI f].toArray c (e_r λv w'=>(∃ h : Value,v = h ∧ M St W w' (osl NoB r h :: its))) :=
 Zg8 (α:=GRecord) (λI i j=>TX _ _ _ _ _ _ _ _ I i j) I J
def Uu (f : GVault) (j : Int) : Option (GVault × Int) :=
 (XM f j).bind λe=>if e.2 != 0 then (some ((⟨[],0,[],[],Vector.replicate 32 (0 : UInt8)⟩ : GVault),e.2)) else (if (f.Events.length : Int) == 60 then (some ((⟨[],0,[],[],Vector.replicate 32 (0 : UInt8)⟩ : GVault),3)) else ((XE f).bind λb=>(Xv b.Records e.1 (wr (e.1 + 1))).bind λh=>((YP).bind λi=>(YS i (⟨b.Keys,b.Next,h,b.Events,b.Head⟩ : GVault) (⟨2,j,Vector.replicate 32 (0 : UInt8)⟩ : GEvent)).bind λc=>some (c.Keys,c.Next,c.Records,c.Events,c.Head) : Option ((List V16) × Int × (List GRecord) × (List GEvent) × V32)).bind λd=>some ((⟨d.1,d.2.1,d.2.2.1,d.2.2.2.1,d.2.2.2.2⟩ : GVault),0)))
theorem Ak (q : World) (t : GVault) (c : Value) (k : Ro q t.Keys [c]) (d : Value) (m : Ro q t.Records [d]) (e : Value) (j : Ro q t.Events [e]) (L : Int) (r : GVault × Int) (J : Uu t L = some r) :
  Calls prog 55 [vcV c d e t,vI L].toArray q (e_r λv w'=>(∃ y1 y2 y3 : Value,v = (Value.tuple [vcV y1 y2 y3 r.1,vI r.2].toArray) ∧ Fr q w' [osl NoB (r.1.Keys : List V16) y1,osl NoB (r.1.Records : List GRecord) y2,osl NoB (r.1.Events : List GEvent) y3] ∧ Kept (Old q) q w')):=by
 refine ce func55 ?_
 intro a H
 have I:=M.start q
 unfold Uu at J
 refine Zb (Z2 (cs:=cV c d e t) H I Za ld R R λb1 w a I H=>Zw H I ZF λb3 w a I H=>Zc H R λa H=>Ze (Zb (Zq H R ZF R I.ra1 cq λa H=>Zd H R ?_))); intro a H
 obtain ⟨r5,e6,J⟩:=p_1 J
 refine c_k H I R Zdi (Tg _ t c (I.rdo k) d (I.rdo m) e (I.rdo j) L r5 e6) ?_; intro w a I H
 refine Zd H R λa H=>ZM H Za ld R R λa H=>ZM H Za ld R R λa H=>Zc H R λa H=>Zc H R λa H=>Ze (s_2 (p_2 (Zb (Zd H R λa H=>Zn H R R R λa H=>Zc H R λa H=>Ze ?_))))
 refine c_if H R J ?_ ?_
 ·intro ag J
  refine Zb (ZY (parts:=[]) (vs:=[]) (cs:=cat xa) H Za ld R R ZF Kd Yp λa H=>Zd H R λa H=>Zk (seg:=cat xa) (cs':=cat xa) H I Za R R R ZF cq (q_1 cq cq) (ZC (cc1 ZN (cc1 (s_1 xj) (cc1 ZN (cc1 ZN (cc1 (s_1 _) cc0)))))) (q_2 cq cq) λw a I H=>Zc H R λa H=>Ze ?_)
  have I:=M.nilS (α:=GEvent) NoB noB (M.nilS (α:=GRecord) NoB noB (M.nilS (α:=V16) NoB noB I))
  obtain rfl:=o_1 J
  have X : Yb prog _ _ (.cell 4 79) _:=ZG H R ZF R I.ra3 cq R
  have I:=M.fst (l:=[_,_,_]) I.pl1.pl2
  exact p_3 (Xl (ZI (Xf H R X (ZD H R) ⟨_,R,xd,xd,xd,R,I.outF (ZK (ZK (ZK Yo))),I.kept⟩)))
 intro ag J
 refine Zb (Zl H R (XU) λa H=>ZB (v:=e) H R Qy R (at_3 I.ra1) λa H=>YE H R p_4 (I.rd j) λa H=>Zn H R R R λa H=>Zc H R λa H=>Ze ?_)
 refine c_if H R J ?_ ?_
 ·intro Y J
  refine Zb (ZY (parts:=[]) (vs:=[]) (cs:=cat xa) H Za ld R R ZF Kd Yp λa H=>Zk (seg:=cat xa) (cs':=cat xa) H I Za R R R ZF cq (q_1 cq cq) (ZC (cc1 ZN (cc1 (s_1 xj) (cc1 ZN (cc1 ZN (cc1 (s_1 _) cc0)))))) (q_2 cq cq) λw a I H=>Zc H R λa H=>Ze ?_)
  have I:=M.nilS (α:=GEvent) NoB noB (M.nilS (α:=GRecord) NoB noB (M.nilS (α:=V16) NoB noB I))
  obtain rfl:=o_1 J
  have Z : Yb prog _ _ (.cell 4 79) _:=ZG H R ZF R I.ra3 cq R
  have I:=M.fst (l:=[_,_,_]) I.pl1.pl2
  exact p_3 (Xl (ZI (Xf H R Z (ZD H R) ⟨_,R,xd,xd,xd,R,I.outF (ZK (ZK (ZK Yo))),I.kept⟩)))
 intro Y J
 refine u_2 (YA (Zz (Zb (Zq H R ZF R I.ra1 cq ?_)))); intro a H
 obtain ⟨b,ah,J⟩:=p_1 J
 refine Zp H R Zd0 (Ti _ t c (I.rdo k) d (I.rdo m) e (I.rdo j) b ah) ?_
 rintro v w a ⟨h,x,n,rfl,hFr,hK⟩ H
 have I:=I.add hK hFr
 refine Zw H I ZF λai w a I H=>Zk (seg:=cV h x n b) (cs':=cV h x n b) H I Za R R R ZF cq (q_1 cq cq) (ZC (cc1 (t_2 (I.sl1)) (cc1 (s_1 (b.Next : Int)) (cc1 (t_2 (I.sl2)) (cc1 (t_2 (I.sl3)) (cc1 (s_1 _) cc0)))))) (q_2 cq cq) λw a I H=>Ze (Zb (Zl H R (Yn) λa H=>ZB (v:=x) H R XO R (at_2 I.ra0) λa H=>Zd H R λa H=>Zd H R λa H=>Zn H R R R ?_)); intro a H
 have I:=I.pl2
 have hM0:=I
 obtain ⟨N,aj,J⟩:=p_1 J
 refine Zp H R (cbm func161) (TZ _ _ _ _ b.Records x r5.1 (wr (r5.1 + 1)) I N aj) ?_
 rintro y w a ⟨_,rfl,I⟩ H
 refine Zl H R (Yn) ?_; intro a H
 have I:=I.pl1
 refine Zk (seg:=[y]) H I Za R R (ZX (I.sl1)) XO R (YN (pre:=[[h],[vI b.Next]]) ck R) (t_2 (I.sl1)) (Z4 (pre:=[[h],[vI b.Next]]) ck R) λw a I H=>Ze ?_
 obtain ⟨o,i,aa⟩:=p_1 J
 refine ZJ (λa w=>∃ A u32 B : Value,Env 40 a [(4,ptr b3 0),(5,vI 0)] ∧ M (Old q) q w [raw b3 (cat [[A],[vI o.2.1],[u32],[B],enc o.2.2.2.2]),osl NoB (o.1 : List V16) A,osl NoB (o.2.2.1 : List GRecord) u32,osl NoB (o.2.2.2.1 : List GEvent) B]) ?_ ?_
 ·obtain ⟨C,ak,i⟩:=p_1 i
  refine Yl (its:=[raw ai (cV h y n b),osl NoB (N : List GRecord) y,osl NoB (b.Keys : List V16) h,osl NoB (b.Events : List GEvent) n,raw b3 xi,raw b1 (cV c d e t)]) (mk:=([mkO 0 (λv=>own NoB (C : (Ref Gengine)) [v])] : Mk)) [35,36,37,38] Yt R R (by decide) R H (λu=>M.qE (M.q0 I.drew u) emO) (qsM (pr:=λv=>True) ?_ (qsP (λz=>Zx z.E Za ld R ZF R (z.M.ra0) cq (kr0 R)) (q_m (λ_=>R) (qsP (λz=>ZY (parts:=[(0,.const (vI 2)),(1,.tmp 37)]) (vs:=[(0,vI 2),(1,vI L)]) (cs:=cat [[vI 2],[vI L],enc xc]) z.E Za ld R R Wc kS (ZT (pre:=[]) (seg:=[vI 0]) (seg':=[vI 2]) (post:=[[vI 0],enc xc]) R cl0 R R R (ZT (pre:=[[vI 2]]) (seg:=[vI 0]) (seg':=[vI L]) (post:=[enc xc]) R ck R R R Yp)) (kr0 R)) qs0)))) ?_
  ·intro a w K D z
   have H:=z.E
   have hD : D 0 = false:=z.F
   have hM0:=z.M
   have I:=z.M
   refine Zp H R zU (Xz _  C ak) ?_
   rintro _ w a ⟨_,rfl,hFr,hK⟩ H
   have I:=hM0.add hK hFr
   exact ⟨_,_,R,H,M.qFill (mk1:=[]) (mk2:=[]) (f:=(λv=>own NoB (C : (Ref Gengine)) [v])) I R hD,trivial⟩
  intro a w K D H I hG ab
  have d0:=ab 0 (by decide)
  have I:=((((I.sure (pre:=[_,_,_,_,_,_]) d0).pl3).pl2).pl3).pl6
  have hM0:=I
  obtain ⟨S42,ap,ac,I,O⟩:=M.freeze [_,_,_] I noB
  obtain ⟨G,al,i⟩:=p_1 i
  refine Zp H R Zd6 (UL _ _ _ _ C (K 0) ac (⟨b.Keys,b.Next,N,b.Events,b.Head⟩ : GVault) h y n (⟨2,L,xc⟩ : GEvent) I G al) ?_
  rintro v w a ⟨T,U,W,rfl,I⟩ H
  have I:=O _ [_,_,_] (ZK (ZK (ZK Yo))) I
  simp only [List.cons_append,List.nil_append] at I
  have I:=I.pl5
  refine Zk (seg:=cV T U W G) (cs':=cV T U W G) H I Za R R R ZF cq (q_1 cq cq) (ZC (cc1 (t_2 (I.sl2)) (cc1 (s_1 (G.Next : Int)) (cc1 (t_2 (I.sl3)) (cc1 (t_2 (I.sl4)) (cc1 (s_1 _) cc0)))))) (q_2 cq cq) λw a I H=>Zc H R λa H=>Zj ?_
  obtain rfl:=o_1 i
  refine Zm ?_
  have I:=M.fst (l:=[_,_,_,_]) I.pl4.pl4.pl4.pl3
  exact ⟨T,U,W,H.s,I⟩
 rintro a w ⟨A,u32,B,H,I⟩
 obtain rfl:=o_1 aa
 have ad : Yb prog _ _ (.cell 4 79) _:=ZG H R ZF R I.ra0 cq R
 have I:=M.fst (l:=[_,_,_]) I.pl3.pl3.pl3
 exact p_3 (Xf H R ad (ZD H R) ⟨_,R,A,u32,B,R,I.outF (ZK (ZK (ZK Yo))),I.kept⟩)
def U4 (i : (List GEvent)) (c : (List (Int × V32)) × Int) : Option (Fl ((List (Int × V32)) × Int) (List (Int × V32))) :=
 if decide (c.2 < (i.length : Int)) then (((idx i c.2).bind λb=>((if b.Kind == 1 then (some true) else (if b.Kind == 4 then (some ((XJ c.1 b.Number).isSome)) else (some false)) : Option (Bool)).bind λd=>(if d then (some (QG c.1 b.Number b.Tag)) else (if b.Kind == 2 then (some (Jz c.1 b.Number)) else (some c.1)) : Option ((List (Int × V32)))).bind λe=>some e : Option ((List (Int × V32)))).bind λf=>some f : Option ((List (Int × V32)))).bind λh=>some (Fl.nx (h,wr (c.2 + 1)))) else (some (Fl.ex c.1))
def Tv (b : (List GEvent)) : Option ((List (Int × V32))) :=
 (ZQ (U4 b) (([] : (List (Int × V32))),0)).bind λc=>some c
theorem z8 (j : World) (u : xu) (h : Value) (k : Ro j u [h]) (r : xq) (J : Tv u = some r) :
  Calls prog 142 [h].toArray j (e_r λv w'=>(∃ m : Nat,v = (Value.map (some m)) ∧ Fr j w' [V1 xt (UB (λx : V32=>Value.agg (enc x).toArray)) (r : xq) m] ∧ Kept (Old j) j w')):=by
 refine ce func142 ?_
 intro a H
 have I:=M.start j
 unfold Tv at J
 refine Zb (Zc H R λa H=>Ze (Zb (kE (κ:=Int) (α:=V32) (S:=NoB) xt (KN (vv:=(λx : V32=>Value.agg (enc x).toArray))) H I noB Za ld λm w a I H=>Zc H R λa H=>Ze (s_2 (Zb (Zd H R λa H=>YE H R p_4 (I.rd k) λa H=>Zd H R λa H=>Ze ?_))))))
 obtain ⟨Y,L,N⟩:=p_1 J
 refine Z7 (λa w=>Env 48 a [(3,Value.map (some m))] ∧ M (Old j) j w [V1 xt (UB (λx : V32=>Value.agg (enc x).toArray)) (Y : xq) m]) ?_ ?_
 ·refine p_2 ?_
  refine ZR (λ(q : xq × Int) a w=>Env 48 a [(3,Value.map (some m)),(9,h),(10,vI (u.length : Int)),(11,vI q.2)] ∧ M (Old j) j w [V1 xt (UB (λx : V32=>Value.agg (enc x).toArray)) (q.1 : xq) m]) L ⟨H.s,I⟩ ?_
  rintro q a w ⟨H,I⟩ o9 n O
  unfold U4 at n
  refine Zb (Zn H R R R λa H=>Ze (s_2 ?_))
  refine c_if H R n ?_ ?_
  ·intro y n
   refine u_2 (Zz ?_)
   obtain ⟨T,o,z⟩:=p_1 n
   refine ZJ (λa w=>Env 48 a [(3,Value.map (some m)),(9,h),(10,vI (u.length : Int)),(11,vI q.2)] ∧ M (Old j) j w [V1 xt (UB (λx : V32=>Value.agg (enc x).toArray)) (T : xq) m]) ?_ ?_
   ·refine p_2 (Zb ?_)
    obtain ⟨b,t,o⟩:=bix o
    refine YG H R R p_4 Wc (I.rd k) t.1 λa H=>Zq H R Wc R (Xe (I.rd k) t.2) cq λa H=>Zw H I Wc λA w a I H=>Zk (seg:=cat [[vI b.Kind],[vI b.Number],enc b.Tag]) (cs':=cat [[vI b.Kind],[vI b.Number],enc b.Tag]) H I Za R R R Wc cq (q_1 cq cq) (ZC (cc1 (s_1 (b.Kind : Int)) (cc1 (s_1 (b.Number : Int)) (cc1 (s_1 _) cc0)))) (q_2 cq cq) λw a I H=>Ze (Zb (Zd H R λa H=>Zl H R (Hk) λa H=>ZB (v:=(vI b.Number)) H R ty2 R (at_1 I.ra0) λa H=>zw (pre:=[_]) (zero:=xc) (Jl s_4) H I Za ld R R o_7 (Zhc (by kernel_rfl) _) λa H=>Zd H R λa H=>ZM H Za ld R R λa H=>ZM H Za ld R R λa H=>Zw H I Yq ?_)); intro Z w a I H
    refine Zk (seg:=enc ((XJ q.1 b.Number).getD xc)) (cs':=enc ((XJ q.1 b.Number).getD xc)) H I Za R R R Yq (u_1 _) (zle flq) (s_1 _) (Zh flq) λw a I H=>Zc H R λa H=>Ze ?_
    obtain ⟨U,B,C⟩:=p_1 o
    refine Z7 (λa w=>Env 48 a [(3,Value.map (some m)),(9,h),(10,vI (u.length : Int)),(11,vI q.2)] ∧ M (Old j) j w [V1 xt (UB (λx : V32=>Value.agg (enc x).toArray)) (U : xq) m]) ?_ ?_
    ·refine p_2 ?_
     obtain ⟨W,e,E⟩:=p_1 B
     refine ZJ (λa w=>Env 48 a [(3,Value.map (some m)),(5,ptr A 0),(9,h),(10,vI (u.length : Int)),(11,vI q.2),(22,vT W)] ∧ M (Old j) j w [raw A (cat [[vI b.Kind],[vI b.Number],enc b.Tag]),V1 xt (UB (λx : V32=>Value.agg (enc x).toArray)) (q.1 : xq) m]) ?_ ?_
     ·refine t_1 (Zl H R (Hp) λa H=>ZB (v:=(vI b.Kind)) H R ty2 R (at_0 I.ra1) λa H=>Zn H R R R λa H=>Zd H R ?_); intro a H
      refine Ys (b.Kind == 1) (λd=>?_) (λd=>?_)
      ·have e:=Zt e d
       refine k_s H d R R R λa H=>k_s H d R R R λa H=>k_s H d R R R λa H=>k_s H d R R R λa H=>Ki H R R (by decide) λa H=>k_s H d R R R λa H=>ZU H (lkb R d) R λa H=>Zc H R λa H=>Zj ?_
       obtain rfl:=o_1 e
       refine Zm ?_
       have I:=M.fst (l:=[_,_]) I.pl2.pl2
       exact ⟨H.s,I⟩
      have e:=Zs e d
      refine Zg H (Zi H R (lkb R d)) (by decide) R (Hp) λa H=>Zy (v:=(vI b.Kind)) H (Zi H R (lkb R d)) (by decide) R ty2 R (at_0 I.ra1) λa H=>Z8 H (Zi H R (lkb R d)) (by decide) R R R λa H=>Zo H (Zi H R (lkb R d)) (by decide) R ?_; intro a H
      refine Ys (b.Kind == 4) (λi=>?_) (λi=>?_)
      ·have e:=Zt e i
       refine Zo H (Zi H R (lkb R i)) (by decide) R λa H=>UM H (Zi H R (lkb R d)) (by decide) (lkb R i) R λa H=>Ye H (lkb R d) R λa H=>Zc H R λa H=>Zj ?_
       obtain rfl:=o_1 e
       refine Zm ?_
       have I:=M.fst (l:=[_,_]) I.pl2.pl2
       exact ⟨H.s,I⟩
      have e:=Zs e i
      refine k_s H i R R R λa H=>Um H (Zi H R (lkb R d)) (by decide) (lkb R i) R λa H=>Ye H (lkb R d) R λa H=>Zc H R λa H=>Zj ?_
      obtain rfl:=o_1 e
      refine Zm ?_
      have I:=M.fst (l:=[_,_]) I.pl2.pl2
      exact ⟨H.s,I⟩
     rintro a w ⟨H,I⟩
     obtain ⟨X,f,F⟩:=p_1 E
     refine Z7 (λa w=>Env 48 a [(3,Value.map (some m)),(9,h),(10,vI (u.length : Int)),(11,vI q.2)] ∧ M (Old j) j w [V1 xt (UB (λx : V32=>Value.agg (enc x).toArray)) (X : xq) m]) ?_ ?_
     ·refine c_if H R f ?_ ?_
      ·intro G f
       refine t_1 (Zd H R λa H=>Zl H R (Hk) λa H=>ZB (v:=(vI b.Number)) H R ty2 R (at_1 I.ra0) λa H=>Zl H R (qB) λa H=>Zq H R Yq R (at_2 I.ra0) (u_1 _) ?_); intro a H
       have I:=I.pl1
       refine AT (c:=b.Tag) (Jl s_4) H I Za R R R o_7 λw a I H=>Zj ?_
       obtain rfl:=o_1 f
       refine Zm ?_
       have I:=M.fst (l:=[_]) I
       exact ⟨H.s,I⟩
      intro G f
      refine Zb (Zl H R (Hp) λa H=>ZB (v:=(vI b.Kind)) H R ty2 R (at_0 I.ra0) λa H=>Zn H R R R λa H=>Zc H R λa H=>Ze ?_)
      refine c_if H R f ?_ ?_
      ·intro K f
       refine t_1 (Zd H R λa H=>Zl H R (Hk) λa H=>ZB (v:=(vI b.Number)) H R ty2 R (at_1 I.ra0) ?_); intro a H
       have I:=I.pl1
       refine Zf6 (Jl s_4) H I Za R R o_7 λw a I H=>Zj ?_
       obtain rfl:=o_1 f
       refine Zm ?_
       have I:=M.fst (l:=[_]) I
       exact ⟨H.s,I⟩
      intro K f
      refine u_2 ?_
      obtain rfl:=o_1 f
      refine Zm ?_
      have I:=M.fst (l:=[_]) I.pl1
      exact ⟨H.s,I⟩
     rintro a w ⟨H,I⟩
     refine YA ?_
     obtain rfl:=o_1 F
     refine Zm ?_
     exact ⟨H.s,I⟩
    rintro a w ⟨H,I⟩
    refine YA ?_
    obtain rfl:=o_1 C
    refine Zm ?_
    exact ⟨H.s,I⟩
   rintro a w ⟨H,I⟩
   refine t_1 (Zn H R R R λa H=>Zd H R λa H=>Zj (Zm ?_))
   exact ⟨_,ois z,H.s,I⟩
  intro y n
  refine o_4 (Zu (Zu (YQ ?_)))
  obtain rfl:=O _ (ois n)
  refine Zm ?_
  exact ⟨H.s,I⟩
 rintro a w ⟨H,I⟩
 refine Zz (Zb (Zd H R λa H=>Zc H R λa H=>Ze ?_))
 obtain rfl:=o_1 N
 exact p_3 (ZV H R (ZD H R) ⟨_,R,_,R,I.outF (locNM Yo),I.kept⟩)
def VG (d : GVault) (b : (List (Int × V32)) × Int × (List Int)) : Option (Fl ((List (Int × V32)) × Int × (List Int)) ((List (Int × V32)) × (List Int))) :=
 if decide (b.2.1 < (d.Records.length : Int)) then ((idx d.Records b.2.1).bind λc=>(app 8 b.2.2 ([c.Number] : List Int)).bind λe=>some (Fl.nx ((QG b.1 c.Number c.Tag),wr (b.2.1 + 1),b.2.2 ++ ([c.Number] : List Int)))) else (some (Fl.ex (b.1,b.2.2)))
def UW (d : (List (Int × V32))) (e : (List (Int × V32)) × (List Int)) (b : (List (List Int)) × Int) : Option (Fl ((List (List Int)) × Int) (List (List Int))) :=
 if decide (b.2 < ((Lib.compact (Vx (e.2 ++ (d.map (·.1))))).length : Int)) then (((idx (Lib.compact (Vx (e.2 ++ (d.map (·.1))))) b.2).bind λc=>(if !((XJ d c).isSome) then (some true) else (if !((XJ e.1 c).isSome) then (some true) else (some (!decide (((XJ d c).getD (Vector.replicate 32 (0 : UInt8))) = ((XJ e.1 c).getD (Vector.replicate 32 (0 : UInt8))))))) : Option (Bool)).bind λf=>(if f then ((app 24 b.1 ([([2,c] : List Int)] : List (List Int))).bind λj=>some (b.1 ++ ([([2,c] : List Int)] : List (List Int)))) else (some b.1) : Option ((List (List Int)))).bind λh=>some h : Option ((List (List Int)))).bind λi=>some (Fl.nx (i,wr (b.2 + 1)))) else (some (Fl.ex b.1))
def VH (i : GVault) (k : (Ref Gengine)) (b : Int × (List (List Int))) : Option (Fl (Int × (List (List Int))) (List (List Int))) :=
 if decide (b.1 < (i.Records.length : Int)) then (((idx i.Records b.1).bind λc=>((YU k i c).bind λd=>some (!decide (d = c.Tag)) : Option (Bool)).bind λe=>(if e then ((app 24 b.2 ([([3,c.Number] : List Int)] : List (List Int))).bind λj=>some (b.2 ++ ([([3,c.Number] : List Int)] : List (List Int)))) else (some b.2) : Option ((List (List Int)))).bind λf=>some f : Option ((List (List Int)))).bind λh=>some (Fl.nx (wr (b.1 + 1),h))) else (some (Fl.ex b.2))
def Vg (b : GVault) : Option ((List (List Int)) × Int) :=
 (X1 b).bind λl=>if !l then (some ([],1)) else ((YP).bind λk=>(((X9 k b.Events).bind λf=>some (!decide (f = b.Head)) : Option (Bool)).bind λh=>if h then ((app 24 ([] : List (List Int)) ([([1] : List Int)] : List (List Int))).bind λm=>some (([] : List (List Int)) ++ ([([1] : List Int)] : List (List Int)))) else (some ([] : List (List Int))) : Option ((List (List Int)))).bind λi=>(Tv b.Events).bind λc=>(ZQ (VG b) (([] : (List (Int × V32))),0,([] : List Int))).bind λd=>(app 8 d.2 (c.map (·.1))).bind λn=>(ZQ (UW c d) (i,0)).bind λj=>(ZQ (VH b k) (0,j)).bind λe=>some (e,0))
theorem HB (q : World) (y : GVault) (d : Value) (aw : Ro q y.Keys [d]) (b : Value) (n : Ro q y.Records [b]) (e : Value) (ac : Ro q y.Events [e]) (r : (List xB) × Int) (J : Vg y = some r) :
  Calls prog 44 [vcV d b e y].toArray q (e_r λv w'=>(∃ y1 : Value,v = (Value.tuple [y1,vI r.2].toArray) ∧ Fr q w' [osl NoB (r.1 : List xB) y1] ∧ Kept (Old q) q w')):=by
 refine ce func44 ?_
 intro a H
 have I:=M.start q
 unfold Vg at J
 refine Zb (Z2 (cs:=cV d b e y) H I Za ld R R λN w a I H=>Zc H R λa H=>Zc H R λa H=>Ze (s_2 (Zb (Zq H R ZF R I.ra0 cq ?_)))); intro a H
 obtain ⟨r3,e4,J⟩:=p_1 J
 refine c_k H I R cb48 (UX _ y d (I.rdo aw) b (I.rdo n) e (I.rdo ac) r3 e4) ?_; intro w a I H
 refine JD H R λa H=>Ze ?_
 refine c_if H R J ?_ ?_
 ·intro c2 J
  refine Zb (Zc H R λa H=>Zc H R λa H=>Ze ?_)
  have I:=M.nilS (α:=xB) NoB noB I
  obtain rfl:=o_1 J
  have I:=M.fst (l:=[_]) I
  exact p_3 (ZI (Xf H R (ZD H R) (ZD H R) ⟨_,R,xd,R,I.outF (ZK Yo),I.kept⟩))
 intro c2 J
 refine u_2 (Zz (Zb ?_))
 obtain ⟨r7,e8,J⟩:=p_1 J
 refine Zp H R zU (Xz _  r7 e8) ?_
 rintro F w a ⟨_,rfl,hFr,hK⟩ H
 have I:=I.add hK hFr
 refine qz (xs:=[]) (S:=NoB) (l:=([] : List xB)) (vs:=[]) H I.emp noB Za ld R R R p_6 Zda R (by decide) (λ_ h=>⟨R,h⟩) (λ_ h=>by cases h) λbc w a I H=>Zc H R λa H=>Zc H R λa H=>Ze ?_
 obtain ⟨ax,b3,ay⟩:=p_1 J
 refine ZJ (λa w=>∃ U : Value,Env 129 a [(1,ptr N 0),(4,F),(5,U)] ∧ M (Old q) q w [own NoB (r7 : (Ref Gengine)) [F],raw N (cV d b e y),osl NoB (ax : List xB) U]) ?_ ?_
 ·obtain ⟨c3,az,X⟩:=p_1 b3
  refine ZJ (λa w=>Env 129 a [(1,ptr N 0),(4,F),(5,bc),(31,vT c3)] ∧ M (Old q) q w [osl NoB (([] : List xB) : List xB) bc,own NoB (r7 : (Ref Gengine)) [F],raw N (cV d b e y)]) ?_ ?_
  ·obtain ⟨c4,c5,az⟩:=p_1 az
   refine Z9 [25,26,27,28,29,30,31] Yt R R (by decide) R H I (q_m (λ_=>R) (qsP (λz=>Zg z.E Za ld R (XU) (kr0 R)) (qsP (λz=>Zy (v:=e) z.E Za ld R Qy R (at_3 (z.M.ra2)) (kr0 R)) (qsP (λz=>Yd z.E Za ld R Zgg (Q2 _ r7 F (z.M.rn1) y.Events e (z.M.rdo ac) c4 c5) (kc R)) (qsP (λz=>Zg z.E Za ld R (He) (kr0 R)) (qsP (λz=>Zx z.E Za ld R Yq R (at_4 (z.M.ra2)) (u_1 _) (kr0 R)) (qsP (λz=>Hx z.E Za ld R R (WJ t_4 ty5 R false R (by decide) (XZ t_3)) (by decide) (by kernel_rfl) (kr0 R)) qs0))))))) ?_
   ·intro a w u H I
    refine Zj ?_
    obtain rfl:=o_1 az
    refine Zm ?_
    exact ⟨H.s,I⟩
  rintro a w ⟨H,I⟩
  refine c_if H R X ?_ ?_
  ·intro b4 X
   refine t_1 (Zd H R λa H=>ZL (xs:=[.const (vI 1)]) (l:=([1] : List Int)) (vs:=[vI 1]) H I Za ld R R p_5 ty2 R (by decide) R ?_); intro b5 w a I H
   have b6:=ZX (I.sl0)
   have I:=I.pack1 (it:=own NoB ([1] : List Int) ([b5])) (X4 noB) (λf0 q0=>(WK.sat q0))
   refine Js (xs:=[.tmp 33]) (seg:=[b5]) H I noB Za ld R b6 p_6 Zda R (by decide) ?_; intro d1 w a I H
   obtain ⟨d2,c6,X⟩:=p_1 X
   obtain ⟨c7,rfl⟩:=Z1 c6
   have I:=I.pl1
   refine KL H I noB Za ld R R p_6 Zda R (by decide) c7 λu32 w a I H=>Zc H R λa H=>Zj ?_
   obtain rfl:=o_1 X
   refine Zm ?_
   have I:=I.pl2.pl2
   exact ⟨u32,H.s,I⟩
  intro b4 X
  refine u_2 ?_
  obtain rfl:=o_1 X
  refine Zm ?_
  have I:=I.pl2.pl2
  exact ⟨bc,H.s,I⟩
 rintro a w ⟨U,H,I⟩
 refine Zb (Zl H R (XU) λa H=>ZB (v:=e) H R Qy R (at_3 I.ra1) ?_); intro a H
 obtain ⟨f,c8,ay⟩:=p_1 ay
 refine Zp H R (cbm func142) (z8 _ y.Events e (I.rdo ac) f c8) ?_
 rintro v w a ⟨B,rfl,hFr,hK⟩ H
 have I:=I.add hK hFr
 refine kE (κ:=Int) (α:=V32) (S:=NoB) xt (KN (vv:=(λx : V32=>Value.agg (enc x).toArray))) H I noB Za ld λC w a I H=>ZL (xs:=[]) (l:=([] : List Int)) (vs:=[]) H I Za ld R R p_5 ty2 R (by decide) R λc9 w a I H=>Zc H R λa H=>Zc H R λa H=>Zc H R λa H=>Ze (s_2 (Zb (Zl H R (Yn) λa H=>ZB (v:=b) H R XO R (at_2 I.ra4) λa H=>YE H R o_3 (I.rd n) λa H=>Zd H R λa H=>Ze ?_)))
 obtain ⟨m,b7,b8⟩:=p_1 ay
 refine Z7 (λa w=>∃ bd : Value,Env 129 a [(1,ptr N 0),(4,F),(5,U),(6,Value.map (some B)),(7,Value.map (some C)),(8,bd)] ∧ M (Old q) q w [V1 xt (UB (λx : V32=>Value.agg (enc x).toArray)) (m.1 : xq) C,V1 xt (UB (λx : V32=>Value.agg (enc x).toArray)) (f : xq) B,own NoB (r7 : (Ref Gengine)) [F],raw N (cV d b e y),osl NoB (ax : List xB) U,osl NoB (m.2 : List Int) bd]) ?_ ?_
 ·refine p_2 ?_
  have I:=I.pl5.pl5.pl5.pl5.pl5
  refine ZR (λ(a2 : xq × Int × xB) a w=>∃ a3 : Value,Env 129 a [(1,ptr N 0),(4,F),(5,U),(6,Value.map (some B)),(7,Value.map (some C)),(8,a3),(42,b),(43,vI (y.Records.length : Int)),(44,vI a2.2.1)] ∧ M (Old q) q w [V1 xt (UB (λx : V32=>Value.agg (enc x).toArray)) (a2.1 : xq) C,V1 xt (UB (λx : V32=>Value.agg (enc x).toArray)) (f : xq) B,own NoB (r7 : (Ref Gengine)) [F],raw N (cV d b e y),osl NoB (ax : List xB) U,osl NoB (a2.2.2 : List Int) a3]) b7 ⟨c9,H.s,I⟩ ?_
  rintro a2 a w ⟨a3,H,I⟩ d3 G b9
  unfold VG at G
  refine Zb (Zn H R R R λa H=>Ze (s_2 ?_))
  refine c_if H R G ?_ ?_
  ·intro ca G
   refine u_2 (Zz (s_2 (p_2 (Zb ?_))))
   obtain ⟨W,a0,G⟩:=bix G
   refine YG H R R o_3 Yf (I.rd n) a0.1 ?_; intro a H
   obtain ⟨dp,cb,cc⟩:=Wj n a0.2 -- ^
   obtain ⟨be,bg,rfl,da,db⟩:=YV cb -- ^
   refine Zq H R Yf R (I.atk cc (VZ n a0.2)) cq λa H=>Zw H I Yf λd4 w a I H=>Zk (seg:=cR be bg W) (cs':=cR be bg W) H I Za R R R Yf cq (q_1 cq cq) (ZC (cc1 (s_1 (W.Number : Int)) (cc1 (s_1 (W.Version : Int)) (cc1 (s_1 _) (cc1 (t_2 (I.rd da)) (cc1 (t_2 (I.rd db)) (cc1 (s_1 _) cc0))))))) (q_2 cq cq) λw a I H=>Ze (Zb (Zd H R λa H=>Zl H R (VS) λa H=>ZB (v:=(vI W.Number)) H R ty2 R (at_0 I.ra0) λa H=>Zl H R (Tl) λa H=>Zq H R Yq R (at_5 I.ra0) (u_1 _) ?_)); intro a H
   have I:=I.pl1
   refine AT (c:=W.Tag) (Jl s_4) H I Za R R R o_7 λw a I H=>Ze (t_1 (Zd H R λa H=>Zl H R (VS) λa H=>ZB (v:=(vI W.Number)) H R ty2 R (at_0 I.ra1) λa H=>ZL (xs:=[.tmp 55]) (l:=([W.Number] : List Int)) (vs:=[vI W.Number]) H I Za ld R R p_5 ty2 R (by decide) R ?_)); intro d5 w a I H
   obtain ⟨d6,dc,G⟩:=p_1 G
   obtain ⟨dd,rfl⟩:=Z1 dc
   have I:=I.pl7
   refine Z3 H I Za ld R R (I.sl1) p_5 ty2 R (by decide) dd λde w a I H=>Zc H R λa H=>Zj (YA (Zz (t_1 (Zn H R R R λa H=>Zd H R λa H=>Zj (Zm ?_)))))
   have I:=M.fst (l:=[_,_,_,_,_,_]) I.pl7.pl7.pl7.pl7.pl6
   exact ⟨_,ois G,de,H.s,I⟩
  intro ca G
  refine o_4 (Zu (Zu (YQ ?_)))
  obtain rfl:=b9 _ (ois G)
  refine Zm ?_
  exact ⟨a3,H.s,I⟩
 rintro a w ⟨bd,H,I⟩
 refine Zz (s_2 (Zb (Zd H R ?_))); intro a H
 have I:=I.pl1
 refine Zi0 (KN (vv:=(λx : V32=>Value.agg (enc x).toArray))) H I noB Za ld R o_7 λcd w a I H=>Ze ?_
 obtain ⟨d7,cf,cg⟩:=p_1 b8
 have aj:=(Z1 cf).1
 have I:=I.pl4.pl4.pl4.pl4.pl5.pl5
 refine Z7 (λa w=>∃ ae : List Int,ae.Perm (f.map (·.1)) ∧ ∃ af : Value,Env 129 a [(1,ptr N 0),(4,F),(5,U),(6,Value.map (some B)),(7,Value.map (some C)),(8,af)] ∧ M (Old q) q w [V1 xt (UB (λx : V32=>Value.agg (enc x).toArray)) (f : xq) B,osl NoB ((m.2 ++ ae) : List Int) af,V1 xt (UB (λx : V32=>Value.agg (enc x).toArray)) (m.1 : xq) C,own NoB (r7 : (Ref Gengine)) [F],raw N (cV d b e y),osl NoB (ax : List xB) U]) ?_ ?_
 ·refine p_2 ?_
  refine Zgk (κ:=Int) f.length (λ(ae : List Int) a w=>∃ af : Value,Env 129 a [(1,ptr N 0),(4,F),(5,U),(6,Value.map (some B)),(7,Value.map (some C)),(8,af),(60,ptr cd 0)] ∧ M (Old q) q w [qx xt (UB (λx : V32=>Value.agg (enc x).toArray)) (f : xq) ae B cd,osl NoB ((m.2 ++ ae) : List Int) af,V1 xt (UB (λx : V32=>Value.agg (enc x).toArray)) (m.1 : xq) C,own NoB (r7 : (Ref Gengine)) [F],raw N (cV d b e y),osl NoB (ax : List xB) U]) ⟨_,H.s,(by rw [List.append_nil]; exact I)⟩ (λ_ _ _ ⟨_,_,I⟩=>I.rangeLen) ?_
  rintro ae a w ⟨af,H,I⟩
  refine Zb ?_
  refine s_next (KN (vv:=(λx : V32=>Value.agg (enc x).toArray))) H I noB Za ld R (λw a ch I H=>?_) (λa4 v w a I H=>?_)
  ·refine ZM H Za ld R R λa H=>Ze (s_2 ?_)
   refine Ziz H R ?_
   refine o_4 (Zu (Zu (YQ ?_)))
   refine Zm ?_
   exact ⟨ae,ch,af,H.s,I⟩
  refine ZM H Za ld R R λa H=>Ze (s_2 ?_)
  refine Zic H R ?_
  refine u_2 (Zz (p_2 (Zb (Zh8 (KN (vv:=(λx : V32=>Value.agg (enc x).toArray))) H I noB Za ld R ?_)))); intro v a I H
  have a5:=Ze5 (k:=a4) I.rangeLen aj
  refine ZM H Za ld R R λa H=>Zc H R λa H=>Ze (t_1 (Zd H R λa H=>Zd H R λa H=>ZL (xs:=[.tmp 66]) (l:=([a4] : List Int)) (vs:=[vI a4]) H I Za ld R R p_5 ty2 R (by decide) R ?_)); intro u88 w a I H
  obtain ⟨d8,dg,a5⟩:=p_1 a5
  obtain ⟨dh,rfl⟩:=Z1 dg
  have I:=I.pl2
  refine Z3 H I Za ld R R (I.sl1) p_5 ty2 R (by decide) dh λdi w a I H=>Zc H R λa H=>Zj (YA (Zm ?_))
  have I:=M.fst (l:=[_,_,_,_,_,_]) I.pl6.pl6.pl6.pl6.pl4.pl6
  exact ⟨a4,di,H.s,(by rw [← List.append_assoc]; exact I)⟩
 rintro a w ⟨ae,a6,af,H,I⟩
 refine Zz (Zb (Zd H R ?_)); intro a H
 have I:=I.pl1
 have ci:=Zfc a6 aj
 refine s_sort H I Za ld R (cbm func143) ci slices_Sort_int slices_Sort_int_none ?_; intro w a I H
 rw [Zc2 (List.Perm.append_left _ a6)] at I
 have cj:=Zb1 ((m.2 ++ (f.map (·.1)))) aj
 refine Ze (s_2 (Zb (Zd H R λa H=>Zet H I noB Za ld R (cbm func144) (by rw [Bz]; exact cj) (yS _) slices_Compact_int slices_Compact_int_empty λag w a I H=>YE H R p_5 (I.sl0) λa H=>Zd H R λa H=>Ze ?_)))
 obtain ⟨dj,bh,bi⟩:=p_1 cg
 refine Z7 (λa w=>∃ ao : Value,Env 129 a [(1,ptr N 0),(4,F),(5,ao)] ∧ M (Old q) q w [own NoB (r7 : (Ref Gengine)) [F],raw N (cV d b e y),osl NoB (dj : List xB) ao]) ?_ ?_
 ·refine p_2 ?_
  refine ZR (λ(Y : (List xB) × Int) a w=>∃ Z : Value,Env 129 a [(1,ptr N 0),(4,F),(5,Z),(6,Value.map (some B)),(7,Value.map (some C)),(72,ag),(73,vI ((Lib.compact (Vx (m.2 ++ (f.map (·.1))))).length : Int)),(74,vI Y.2)] ∧ M (Old q) q w [osl NoB ((Lib.compact (Vx (m.2 ++ (f.map (·.1))))) : List Int) ag,V1 xt (UB (λx : V32=>Value.agg (enc x).toArray)) (f : xq) B,V1 xt (UB (λx : V32=>Value.agg (enc x).toArray)) (m.1 : xq) C,own NoB (r7 : (Ref Gengine)) [F],raw N (cV d b e y),osl NoB (Y.1 : List xB) Z]) bh ⟨U,H.s,I⟩ ?_
  rintro Y a w ⟨Z,H,I⟩ dq O bj
  unfold UW at O
  refine Zb (Zn H R R R λa H=>Ze (s_2 ?_))
  refine c_if H R O ?_ ?_
  ·intro bk O
   refine u_2 (Zz ?_)
   obtain ⟨cl,ak,bl⟩:=p_1 O
   refine ZJ (λa w=>∃ ap : Value,Env 129 a [(1,ptr N 0),(4,F),(5,ap),(6,Value.map (some B)),(7,Value.map (some C)),(72,ag),(73,vI ((Lib.compact (Vx (m.2 ++ (f.map (·.1))))).length : Int)),(74,vI Y.2)] ∧ M (Old q) q w [osl NoB ((Lib.compact (Vx (m.2 ++ (f.map (·.1))))) : List Int) ag,V1 xt (UB (λx : V32=>Value.agg (enc x).toArray)) (f : xq) B,V1 xt (UB (λx : V32=>Value.agg (enc x).toArray)) (m.1 : xq) C,own NoB (r7 : (Ref Gengine)) [F],raw N (cV d b e y),osl NoB (cl : List xB) ap]) ?_ ?_
   ·refine p_2 (Zb ?_)
    obtain ⟨A,a1,ak⟩:=bix ak
    refine YG H R R p_5 ty2 (I.sl0) a1.1 λa H=>ZB (v:=(vI A)) H R ty2 R (Xe (I.sl0) a1.2) λa H=>Zc H R λa H=>Ze (Zb (Zd H R λa H=>Zd H R λa H=>zw (pre:=[_]) (zero:=xc) (Jl s_4) H I Za ld R R o_7 (Zhc (by kernel_rfl) _) λa H=>Zd H R λa H=>ZM H Za ld R R λa H=>ZM H Za ld R R λa H=>Zw H I Yq λdr w a I H=>Zk (seg:=enc ((XJ f A).getD xc)) (cs':=enc ((XJ f A).getD xc)) H I Za R R R Yq (u_1 _) (zle flq) (s_1 _) (Zh flq) λw a I H=>Zc H R ?_)); intro a H
    refine Ze (Zb (Zd H R λa H=>Zd H R λa H=>zw (pre:=[_,_,_]) (zero:=xc) (Jl s_4) H I Za ld R R o_7 (Zhc (by kernel_rfl) _) λa H=>Zd H R λa H=>ZM H Za ld R R λa H=>ZM H Za ld R R λa H=>Zw H I Yq λds w a I H=>Zk (seg:=enc ((XJ m.1 A).getD xc)) (cs':=enc ((XJ m.1 A).getD xc)) H I Za R R R Yq (u_1 _) (zle flq) (s_1 _) (Zh flq) λw a I H=>Zc H R λa H=>Ze ?_))
    obtain ⟨cm,i,bm⟩:=p_1 ak
    refine ZJ (λa w=>Env 129 a [(1,ptr N 0),(4,F),(5,Z),(6,Value.map (some B)),(7,Value.map (some C)),(13,vI A),(72,ag),(73,vI ((Lib.compact (Vx (m.2 ++ (f.map (·.1))))).length : Int)),(74,vI Y.2),(100,vT cm)] ∧ M (Old q) q w [osl NoB ((Lib.compact (Vx (m.2 ++ (f.map (·.1))))) : List Int) ag,V1 xt (UB (λx : V32=>Value.agg (enc x).toArray)) (f : xq) B,V1 xt (UB (λx : V32=>Value.agg (enc x).toArray)) (m.1 : xq) C,own NoB (r7 : (Ref Gengine)) [F],raw N (cV d b e y),osl NoB (Y.1 : List xB) Z]) ?_ ?_
    ·refine t_1 (Zd H R λa H=>JD H R λa H=>Zd H R ?_); intro a H
     refine Ys (!((XJ f A).isSome)) (λt=>?_) (λt=>?_)
     ·have i:=Zt i t
      refine k_s H t R R R λa H=>k_s H t R R R λa H=>ZU H (lkb R t) R λa H=>Zd H R λa H=>Zf H R R R (by decide) λa H=>Zf H R R R (by decide) λa H=>Zf H R R R (by decide) λa H=>ZU H R R λa H=>Zj ?_
      obtain rfl:=o_1 i
      refine Zm ?_
      have I:=M.fst (l:=[_,_,_,_,_,_]) I.pl7.pl7.pl7.pl7.pl7.pl7
      exact ⟨H.s,I⟩
     have i:=Zs i t
     refine Zo H (Zi H R (lkb R t)) (by decide) R λa H=>KW H (Zi H R (lkb R t)) (by decide) R λa H=>Ye H (lkb R t) R λa H=>Zd H R ?_; intro a H
     refine Ys (!((XJ m.1 A).isSome)) (λj=>?_) (λj=>?_)
     ·have i:=Zt i j
      refine k_s H j R R R λa H=>k_s H j R R R λa H=>k_s H j R R R λa H=>ZU H (lkb R j) R λa H=>Zj ?_
      obtain rfl:=o_1 i
      refine Zm ?_
      have I:=M.fst (l:=[_,_,_,_,_,_]) I.pl7.pl7.pl7.pl7.pl7.pl7
      exact ⟨H.s,I⟩
     have i:=Zs i j
     refine Zx H (Zi H R (lkb R j)) (by decide) R Yq R I.ra1 (u_1 _) λa H=>Zx H (Zi H R (lkb R j)) (by decide) R Yq R I.ra0 (u_1 _) λa H=>Hx H (Zi H R (lkb R j)) (by decide) R R (WJ t_4 ty5 R false R (by decide) (XZ t_3)) (by decide) (by kernel_rfl) λa H=>Ye H (lkb R j) R λa H=>Zj ?_
     obtain rfl:=o_1 i
     refine Zm ?_
     have I:=M.fst (l:=[_,_,_,_,_,_]) I.pl7.pl7.pl7.pl7.pl7.pl7
     exact ⟨H.s,I⟩
    rintro a w ⟨H,I⟩
    obtain ⟨cn,K,bn⟩:=p_1 bm
    refine Z7 (λa w=>∃ aq : Value,Env 129 a [(1,ptr N 0),(4,F),(5,aq),(6,Value.map (some B)),(7,Value.map (some C)),(72,ag),(73,vI ((Lib.compact (Vx (m.2 ++ (f.map (·.1))))).length : Int)),(74,vI Y.2)] ∧ M (Old q) q w [osl NoB ((Lib.compact (Vx (m.2 ++ (f.map (·.1))))) : List Int) ag,V1 xt (UB (λx : V32=>Value.agg (enc x).toArray)) (f : xq) B,V1 xt (UB (λx : V32=>Value.agg (enc x).toArray)) (m.1 : xq) C,own NoB (r7 : (Ref Gengine)) [F],raw N (cV d b e y),osl NoB (cn : List xB) aq]) ?_ ?_
    ·refine c_if H R K ?_ ?_
     ·intro bo K
      refine t_1 (Zd H R λa H=>Zd H R λa H=>ZL (xs:=[.const (vI 2),.tmp 102]) (l:=([2,A] : List Int)) (vs:=[vI 2,vI A]) H I Za ld R R p_5 ty2 R (by decide) R ?_); intro a7 w a I H
      have bp:=ZX (I.sl0)
      have I:=I.pack1 (it:=own NoB ([2,A] : List Int) ([a7])) (X4 noB) (λf0 q0=>(WK.sat q0))
      refine Js (xs:=[.tmp 103]) (seg:=[a7]) H I noB Za ld R bp p_6 Zda R (by decide) ?_; intro dt w a I H
      obtain ⟨du,co,K⟩:=p_1 K
      obtain ⟨cp,rfl⟩:=Z1 co
      have I:=I.pl6
      refine KL H I noB Za ld R R p_6 Zda R (by decide) cp λcr w a I H=>Zc H R λa H=>Zj ?_
      obtain rfl:=o_1 K
      refine Zm ?_
      have I:=I.pl5.pl5.pl5.pl5.pl5
      exact ⟨cr,H.s,I⟩
     intro bo K
     refine u_2 ?_
     obtain rfl:=o_1 K
     refine Zm ?_
     exact ⟨Z,H.s,I⟩
    rintro a w ⟨aq,H,I⟩
    refine YA ?_
    obtain rfl:=o_1 bn
    refine Zm ?_
    exact ⟨aq,H.s,I⟩
   rintro a w ⟨ap,H,I⟩
   refine t_1 (Zn H R R R λa H=>Zd H R λa H=>Zj (Zm ?_))
   exact ⟨_,ois bl,ap,H.s,I⟩
  intro bk O
  refine o_4 (Zu (Zu (YQ ?_)))
  obtain rfl:=bj _ (ois O)
  refine Zm ?_
  have I:=M.fst (l:=[_,_,_]) I.pl5.pl5.pl5
  exact ⟨Z,H.s,I⟩
 rintro a w ⟨ao,H,I⟩
 refine Zz (s_2 (Zb (Zl H R (Yn) λa H=>ZB (v:=b) H R XO R (at_2 I.ra1) λa H=>YE H R o_3 (I.rd n) λa H=>Zd H R λa H=>Ze ?_)))
 obtain ⟨ct,bq,br⟩:=p_1 bi
 refine Z7 (λa w=>∃ ar : Value,Env 129 a [(5,ar)] ∧ M (Old q) q w [osl NoB (ct : List xB) ar]) ?_ ?_
 ·refine p_2 ?_
  refine ZR (λ(aa : Int × (List xB)) a w=>∃ ab : Value,Env 129 a [(1,ptr N 0),(4,F),(5,ab),(108,b),(109,vI (y.Records.length : Int)),(110,vI aa.1)] ∧ M (Old q) q w [own NoB (r7 : (Ref Gengine)) [F],raw N (cV d b e y),osl NoB (aa.2 : List xB) ab]) bq ⟨ao,H.s,I⟩ ?_
  rintro aa a w ⟨ab,H,I⟩ dv T bs
  unfold VH at T
  refine Zb (Zn H R R R λa H=>Ze (s_2 ?_))
  refine c_if H R T ?_ ?_
  ·intro bt T
   refine u_2 (Zz ?_)
   obtain ⟨cu,al,bu⟩:=p_1 T
   refine ZJ (λa w=>∃ au : Value,Env 129 a [(1,ptr N 0),(4,F),(5,au),(108,b),(109,vI (y.Records.length : Int)),(110,vI aa.1)] ∧ M (Old q) q w [own NoB (r7 : (Ref Gengine)) [F],raw N (cV d b e y),osl NoB (cu : List xB) au]) ?_ ?_
   ·refine p_2 (Zb ?_)
    obtain ⟨o,am,al⟩:=bix al
    refine YG H R R o_3 Yf (I.rd n) am.1 ?_; intro a H
    obtain ⟨dk,bv,bw⟩:=Wj n am.2 -- ^
    obtain ⟨ah,ai,rfl,a8,a9⟩:=YV bv -- ^
    refine Zq H R Yf R (I.atk bw (VZ n am.2)) cq λa H=>Zw H I Yf λba w a I H=>Zk (seg:=cR ah ai o) (cs':=cR ah ai o) H I Za R R R Yf cq (q_1 cq cq) (ZC (cc1 (s_1 (o.Number : Int)) (cc1 (s_1 (o.Version : Int)) (cc1 (s_1 _) (cc1 (t_2 (I.rd a8)) (cc1 (t_2 (I.rd a9)) (cc1 (s_1 _) cc0))))))) (q_2 cq cq) λw a I H=>Ze ?_
    obtain ⟨cv,an,bx⟩:=p_1 al
    refine ZJ (λa w=>Env 129 a [(1,ptr N 0),(4,F),(5,ab),(19,ptr ba 0),(108,b),(109,vI (y.Records.length : Int)),(110,vI aa.1),(120,vT cv)] ∧ M (Old q) q w [raw ba (cR ah ai o),own NoB (r7 : (Ref Gengine)) [F],raw N (cV d b e y),osl NoB (aa.2 : List xB) ab]) ?_ ?_
    ·obtain ⟨cw,cx,an⟩:=p_1 an
     refine Z9 [114,115,116,117,118,119,120] Yt R R (by decide) R H I (q_m (λ_=>R) (qsP (λz=>Zx z.E Za ld R ZF R (z.M.ra2) cq (kr0 R)) (qsP (λz=>Zx z.E Za ld R Yf R (z.M.ra0) cq (kr0 R)) (qsP (λz=>Yd z.E Za ld R kL (Wu _ r7 F (z.M.rn1) y d (z.M.rdo aw) b (z.M.rdo n) e (z.M.rdo ac) o ah (z.M.rdo a8) ai (z.M.rdo a9) cw cx) (kc R)) (qsP (λz=>Zg z.E Za ld R (Tl) (kr0 R)) (qsP (λz=>Zx z.E Za ld R Yq R (at_5 (z.M.ra0)) (u_1 _) (kr0 R)) (qsP (λz=>Hx z.E Za ld R R (WJ t_4 ty5 R false R (by decide) (XZ t_3)) (by decide) (by kernel_rfl) (kr0 R)) qs0))))))) ?_
     ·intro a w u H I
      refine Zj ?_
      obtain rfl:=o_1 an
      refine Zm ?_
      exact ⟨H.s,I⟩
    rintro a w ⟨H,I⟩
    obtain ⟨cy,L,bz⟩:=p_1 bx
    refine Z7 (λa w=>∃ av : Value,Env 129 a [(1,ptr N 0),(4,F),(5,av),(108,b),(109,vI (y.Records.length : Int)),(110,vI aa.1)] ∧ M (Old q) q w [own NoB (r7 : (Ref Gengine)) [F],raw N (cV d b e y),osl NoB (cy : List xB) av]) ?_ ?_
    ·refine c_if H R L ?_ ?_
     ·intro b0 L
      refine t_1 (Zd H R λa H=>Zl H R (VS) λa H=>ZB (v:=(vI o.Number)) H R ty2 R (at_0 I.ra0) λa H=>ZL (xs:=[.const (vI 3),.tmp 123]) (l:=([3,o.Number] : List Int)) (vs:=[vI 3,vI o.Number]) H I Za ld R R p_5 ty2 R (by decide) R ?_); intro bb w a I H
      have b2:=ZX (I.sl0)
      have I:=I.pack1 (it:=own NoB ([3,o.Number] : List Int) ([bb])) (X4 noB) (λf0 q0=>(WK.sat q0))
      refine Js (xs:=[.tmp 124]) (seg:=[bb]) H I noB Za ld R b2 p_6 Zda R (by decide) ?_; intro dw w a I H
      obtain ⟨dx,cz,L⟩:=p_1 L
      obtain ⟨c0,rfl⟩:=Z1 cz
      have I:=I.pl4
      refine KL H I noB Za ld R R p_6 Zda R (by decide) c0 λc1 w a I H=>Zc H R λa H=>Zj ?_
      obtain rfl:=o_1 L
      refine Zm ?_
      have I:=M.fst (l:=[_,_,_]) I.pl3.pl3
      exact ⟨c1,H.s,I⟩
     intro b0 L
     refine u_2 ?_
     obtain rfl:=o_1 L
     refine Zm ?_
     have I:=M.fst (l:=[_,_,_]) I.pl3.pl3.pl3
     exact ⟨ab,H.s,I⟩
    rintro a w ⟨av,H,I⟩
    refine YA ?_
    obtain rfl:=o_1 bz
    refine Zm ?_
    exact ⟨av,H.s,I⟩
   rintro a w ⟨au,H,I⟩
   refine t_1 (Zn H R R R λa H=>Zd H R λa H=>Zj (Zm ?_))
   exact ⟨_,ois bu,au,H.s,I⟩
  intro bt T
  refine o_4 (Zu (Zu (YQ ?_)))
  obtain rfl:=bs _ (ois T)
  refine Zm ?_
  have I:=M.fst (l:=[_]) I.pl2
  exact ⟨ab,H.s,I⟩
 rintro a w ⟨ar,H,I⟩
 refine Zz (Zb (Zd H R λa H=>Zc H R λa H=>Zc H R λa H=>Ze ?_))
 obtain rfl:=o_1 br
 exact p_3 (Xf H R (ZD H R) (ZD H R) ⟨_,R,ar,R,I.outF (ZK Yo),I.kept⟩)
def VW (b : GVault) (h : Int) : Option (V32 × Int) :=
 (XM b h).bind λc=>if c.2 != 0 then (some ((Vector.replicate 32 (0 : UInt8)),c.2)) else (((YP).bind λd=>(idx b.Records c.1).bind λe=>(YU d b e).bind λf=>some f : Option (V32)).bind λi=>some (i,0))
theorem B0 (o : World) (m : GVault) (b : Value) (i : Ro o m.Keys [b]) (c : Value) (d : Ro o m.Records [c]) (h : Value) (j : Ro o m.Events [h]) (G : Int) (r : V32 × Int) (J : VW m G = some r) :
  Calls prog 56 [vcV b c h m,vI G].toArray o (Rt o (Value.tuple [Value.agg (enc r.1).toArray,vI r.2].toArray)):=by
 refine ce func56 ?_
 intro a H
 have I:=M.start o
 unfold VW at J
 refine Zb (Z2 (cs:=cV b c h m) H I Za ld R R λb1 w a I H=>Zw H I Yq λK w a I H=>Zc H R λa H=>Ze (Zb (Zq H R ZF R I.ra1 cq λa H=>Zd H R ?_))); intro a H
 obtain ⟨r5,e6,J⟩:=p_1 J
 refine c_k H I R Zdi (Tg _ m b (I.rdo i) c (I.rdo d) h (I.rdo j) G r5 e6) ?_; intro w a I H
 refine Zd H R λa H=>ZM H Za ld R R λa H=>ZM H Za ld R R λa H=>Zc H R λa H=>Zc H R λa H=>Ze (s_2 (Zb (Zd H R λa H=>Zn H R R R λa H=>Ze ?_)))
 refine c_if H R J ?_ ?_
 ·intro L J
  refine Zb (XT (parts:=[]) (vs:=[]) (cs:=enc xc) H Za ld R R Yq R ty5 Xj λa H=>Zd H R λa H=>Zk (seg:=enc xc) (cs':=enc xc) H I Za R R R Yq (u_1 _) (zle flq) (s_1 _) (Zh flq) λw a I H=>Zc H R λa H=>Ze ?_)
  obtain rfl:=o_1 J
  have N : Yb prog _ _ (.cell 4 32) _:=ZG H R Yq R I.ra0 (u_1 _) R
  exact p_3 (ZI (Xf H R N (ZD H R) ⟨_,R,R,I.kept⟩))
 intro L J
 refine u_2 (Zz ?_)
 obtain ⟨j9,e,x⟩:=p_1 J
 refine ZJ (λa w=>Env 26 a [(4,ptr K 0),(5,vI 0)] ∧ M (Old o) o w [raw K (enc j9)]) ?_ ?_
 ·obtain ⟨n,O,e⟩:=p_1 e
  obtain ⟨T,k,e⟩:=bix e
  obtain ⟨aa,y,A⟩:=Wj d k.2 -- ^
  obtain ⟨U,W,rfl,X,Y⟩:=YV y -- ^
  refine Yl (its:=[raw K xr,raw b1 (cV b c h m)]) (mk:=([mkO 0 (λv=>own NoB (n : (Ref Gengine)) [v])] : Mk)) [18,19,20,21,22,23,24] Yt R R (by decide) R H (λu=>M.qE (M.q0 I.drew u) emO) (qsM (pr:=λv=>True) ?_ (qsP (λz=>Zx z.E Za ld R ZF R (z.M.ra1) cq (kr0 R)) (qsP (λz=>Zg z.E Za ld R (Yn) (kr0 R)) (qsP (λz=>Zy (v:=c) z.E Za ld R XO R (at_2 (z.M.ra1)) (kr0 R)) (q_m (λ_=>R) (qsP (λz=>Yu z.E Za ld R R o_3 Yf (z.M.rd d) k.1 (kr0 R)) (qsP (λz=>Zx z.E Za ld R Yf R (z.M.atk A (VZ d k.2)) cq (kr0 R)) qs0))))))) ?_
  ·intro a w q D z
   have H:=z.E
   have hD : D 0 = false:=z.F
   have hM0:=z.M
   have I:=z.M
   refine Zp H R zU (Xz _  n O) ?_
   rintro _ w a ⟨_,rfl,hFr,hK⟩ H
   have I:=hM0.add hK hFr
   exact ⟨_,_,R,H,M.qFill (mk1:=[]) (mk2:=[]) (f:=(λv=>own NoB (n : (Ref Gengine)) [v])) I R hD,trivial⟩
  intro a w q D H I hG B
  have d0:=B 0 (by decide)
  have I:=I.sure (pre:=[_,_]) d0
  obtain ⟨t,Z,e⟩:=p_1 e
  refine c_k H I R kL (Wu _ n (q 0) (I.rn2) m b (I.rdo i) c (I.rdo d) h (I.rdo j) T U (I.rdo X) W (I.rdo Y) t Z) ?_; intro w a I H
  refine Zk (seg:=enc t) (cs':=enc t) H I Za R R R Yq (u_1 _) (zle flq) (s_1 _) (Zh flq) λw a I H=>Zc H R λa H=>Zj ?_
  obtain rfl:=o_1 e
  refine Zm ?_
  have I:=M.fst (l:=[_]) I
  exact ⟨H.s,I⟩
 rintro a w ⟨H,I⟩
 obtain rfl:=o_1 x
 have C : Yb prog _ _ (.cell 4 32) _:=ZG H R Yq R I.ra0 (u_1 _) R
 exact p_3 (Xf H R C (ZD H R) ⟨_,R,R,I.kept⟩)
def U2 (n : (List UInt8)) (b : (List V16) × Int × (List GRecord) × (List GEvent) × V32 × Int × Int × Int) : Option (Fl ((List V16) × Int × (List GRecord) × (List GEvent) × V32 × Int × Int × Int) (Fl ((List V16) × Int × (List GRecord) × (List GEvent) × V32) Bool)) :=
 if decide (b.2.2.2.2.2.2.2 > 0) then (((TL n (b.2.2.2.2.2.1,b.2.2.2.2.2.2.1)).bind λh=>(ZZ h.2 (0 : Int)).bind λo=>(Xu n (h.1.1,h.1.2) 20).bind λi=>(Kt n (i.1.1,i.1.2) i.2).bind λj=>(V6 (⟨b.1,b.2.1,b.2.2.1,b.2.2.2.1,b.2.2.2.2.1⟩ : GVault) ([Zv b.2.2.2.2.2.2.2] : List UInt8) j.2 (h.2.setIfInBounds ((0 : Int)).toNat (Zv b.2.2.2.2.2.2.2))).bind λc=>if c.2.2 != 0 then (some (Fl.ex false)) else ((Xu n (j.1.1,j.1.2) 4).bind λk=>(if k.2 == 0 then ((Uu c.1 c.2.1).bind λe=>if e.2 != 0 then (some (Fl.ex false)) else (some (Fl.nx (e.1.Keys,e.1.Next,e.1.Records,e.1.Events,e.1.Head)))) else (some (Fl.nx (c.1.Keys,c.1.Next,c.1.Records,c.1.Events,c.1.Head))) : Option (Fl ((List V16) × Int × (List GRecord) × (List GEvent) × V32) Bool)).bind λl=>l.el (λf=>some (Fl.nx (f.1,f.2.1,f.2.2.1,f.2.2.2.1,f.2.2.2.2,k.1.1,k.1.2))) (λr=>some (Fl.ex r))) : Option (Fl ((List V16) × Int × (List GRecord) × (List GEvent) × V32 × Int × Int) Bool)).bind λm=>m.el (λd=>some (Fl.nx (d.1,d.2.1,d.2.2.1,d.2.2.2.1,d.2.2.2.2.1,d.2.2.2.2.2.1,d.2.2.2.2.2.2,wr (b.2.2.2.2.2.2.2 - 1)))) (λr=>some (Fl.ex (Fl.ex r)))) else (some (Fl.ex (Fl.nx (b.1,b.2.1,b.2.2.1,b.2.2.2.1,b.2.2.2.2.1))))
def QV (k : (List UInt8)) : Option (Bool) :=
 (BZ k).bind λr1=>if r1 then (some true) else ((Vk k).bind λf=>(V6 f.1 f.2.1 f.2.2.1 f.2.2.2).bind λd=>(Uf f.1 f.2.1 f.2.2.1 f.2.2.2).bind λt=>(if d.2.2 != t.2.2 then (some true) else (if d.2.1 != t.2.1 then (some true) else ((TJ d.1 t.1).bind λX=>if !X then (some true) else ((X1 f.1).bind λY=>(T4 f.1).bind λZ=>some (Y != Z)))) : Option (Bool)).bind λaa=>if aa then (some false) else ((if d.2.2 == 0 then ((Wp d.1 d.2.1).bind λu=>(if u.2 != 0 then (some true) else ((Vy u.1 f.2.2.1).bind λab=>if !ab then (some true) else ((X1 d.1).bind λac=>some (!ac))) : Option (Bool)).bind λad=>if ad then (some (Fl.ex false)) else ((Kb k 907).bind λx=>(TL k (x.1,x.2)).bind λae=>(UO d.1 ae.2).bind λy=>if y.2 == 0 then ((TB y.1 d.2.1 f.2.2.2).bind λz=>if z.2 == 0 then ((Wp z.1 d.2.1).bind λl=>(if l.2 != 0 then (some true) else ((Vy l.1 f.2.2.1).bind λA=>some (!A)) : Option (Bool)).bind λB=>if B then (some (Fl.ex false)) else (some (Fl.nx ()))) else (some (Fl.nx ()))) else (some (Fl.nx ())))) else (some (Fl.nx ())) : Option (Fl Unit Bool)).bind λaf=>af.el (λak=>(Vi k).bind λm=>(Tr m).bind λe=>((Uc m).bind λC=>(TJ e C).bind λE=>some (!E) : Option (Bool)).bind λF=>if F then (some false) else ((Kb k 908).bind λn=>(Xu k (n.1,n.2) 4).bind λh=>(ZQ (U2 k) (e.Keys,e.Next,e.Records,e.Events,e.Head,h.1.1,h.1.2,wr (1 + h.2))).bind λG=>G.el (λb=>(Vg (⟨b.1,b.2.1,b.2.2.1,b.2.2.2.1,b.2.2.2.2⟩ : GVault)).bind λo=>(if o.2 != 0 then (some true) else (some ((o.1.length : Int) != 0)) : Option (Bool)).bind λK=>if K then (some false) else (((if decide ((b.2.2.1.length : Int) > 0) then ((idx b.2.2.1 (0 : Int)).bind λL=>some (decide ((L.Body.length : Int) > 0))) else (some false) : Option (Bool)).bind λN=>if N then ((idx b.2.2.1 (0 : Int)).bind λc=>(app 1 ([] : List UInt8) c.Body).bind λag=>(idx (([] : List UInt8) ++ c.Body) (0 : Int)).bind λO=>(idx (([] : List UInt8) ++ c.Body) (0 : Int)).bind λah=>(qo 112 b.2.2.1 (⟨c.Number,c.Version,c.Nonce,c.Label,(([] : List UInt8) ++ c.Body).set ((0 : Int)).toNat (O ^^^ 1),c.Tag⟩ : GRecord)).bind λi=>(Vg (⟨b.1,b.2.1,i,b.2.2.2.1,b.2.2.2.2⟩ : GVault)).bind λq=>(Wp (⟨b.1,b.2.1,i,b.2.2.2.1,b.2.2.2.2⟩ : GVault) c.Number).bind λT=>(VW (⟨b.1,b.2.1,i,b.2.2.2.1,b.2.2.2.2⟩ : GVault) c.Number).bind λj=>(if q.2 != 0 then (some true) else (if j.2 != 0 then (some true) else (if (!decide (j.1 = c.Tag)) != ((q.1.length : Int) == 1) then (some true) else (some ((!decide (j.1 = c.Tag)) != (T.2 == 5))))) : Option (Bool)).bind λU=>if U then (some (Fl.ex false)) else (some (Fl.nx ()))) else (some (Fl.nx ())) : Option (Fl Unit Bool)).bind λW=>W.el (λai=>some true) (λr=>some r))) (λr=>some r))) (λr=>some r)))
end

end Go.Proofs.YtfhhlkkhcoaapaaGreat
