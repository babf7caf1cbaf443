/- The walk of what the law reaches: contracts of functions. -/
import Derived.Test.YtkajmkegelcfjaaGreatC1
set_option linter.unusedVariables false
set_option linter.unusedSimpArgs false
set_option maxRecDepth 20000
set_option maxHeartbeats 400000
namespace Go.Proofs.YtkajmkegelcfjaaGreat
open Go
open Flat (enc)
noncomputable section
theorem UD (w0 : World) (p0 : Int) (p1 : UInt8) (r : UInt8) (hF : Yo p0 p1 = some r) :
  Calls Tryz.prog 78 [vI p0,vB p1].toArray w0 (Rt w0 (vB r)):=by
 refine ce Tryz.func78 ?_
 intro a hE
 have hM:=M.start w0
 unfold Yo at hF
 refine Zb (Zc hE rfl fun a hE=>Ze (Zb (Zd hE rfl fun a hE=>Zd hE rfl ?_))); intro a hE
 obtain ⟨r1,e2,hF⟩:=bind_some hF
 refine Zo hE rfl (cbm Tryz.func98) (JU _ p0 p1 254 r1 e2) ?_
 rintro v w a ⟨rfl,hK⟩ hE
 have hM:=hM.keep hK
 refine Zc hE rfl fun a hE=>Ze ?_
 obtain rfl:=Option.some.inj hF
 exact wp_ret (kr1 hE rfl rfl hM.kept)
def UB (s13 : (Vector (Vector UInt8 4) 4) × (Vector (Vector UInt8 4) 4) × Int × UInt8) (s21 : Int) : Option (Fl Int Int) :=
 (if (decide (s21 < 4)) = true then ((ZB s13.1 s21).bind fun x30=>(ZB x30 s13.2.2.1).bind fun x33=>some (x33 == 0)) else (some false) : Option (Bool)).bind fun j25=>if j25 = true then (some (Fl.nx (wr (s21 + 1)))) else (some (Fl.ex s21))
def Wn (p0 : Int) (s13 : (Vector (Vector UInt8 4) 4) × (Vector (Vector UInt8 4) 4) × Int × UInt8) (r90 : UInt8) (s95 : (Vector (Vector UInt8 4) 4) × (Vector (Vector UInt8 4) 4) × Int) : Option (Fl ((Vector (Vector UInt8 4) 4) × (Vector (Vector UInt8 4) 4) × Int) ((Vector (Vector UInt8 4) 4) × (Vector (Vector UInt8 4) 4))) :=
 if (decide (s95.2.2 < 4)) = true then ((ZB s95.1 s13.2.2.1).bind fun x102=>(ZB x102 s95.2.2).bind fun x105=>(Yd p0 x105 r90).bind fun r107=>(ZB s95.2.1 s13.2.2.1).bind fun x110=>(ZB x110 s95.2.2).bind fun x113=>(Yd p0 x113 r90).bind fun r115=>(ZB s95.1 s13.2.2.1).bind fun x118=>(ZB x118 s95.2.2).bind fun x121=>(ZB s95.2.1 s13.2.2.1).bind fun x124=>(ZB x124 s95.2.2).bind fun x127=>some (Fl.nx ((s95.1.setIfInBounds (s13.2.2.1).toNat (x118.setIfInBounds (s95.2.2).toNat r107)),(s95.2.1.setIfInBounds (s13.2.2.1).toNat (x124.setIfInBounds (s95.2.2).toNat r115)),wr (s95.2.2 + 1)))) else (some (Fl.ex (s95.1,s95.2.1)))
def Ww (p0 : Int) (s13 : (Vector (Vector UInt8 4) 4) × (Vector (Vector UInt8 4) 4) × Int × UInt8) (s133 : (Vector (Vector UInt8 4) 4) × (Vector (Vector UInt8 4) 4) × Int) (x145 : UInt8) (s160 : (Vector (Vector UInt8 4) 4) × (Vector (Vector UInt8 4) 4) × Int) : Option (Fl ((Vector (Vector UInt8 4) 4) × (Vector (Vector UInt8 4) 4) × Int) ((Vector (Vector UInt8 4) 4) × (Vector (Vector UInt8 4) 4))) :=
 if (decide (s160.2.2 < 4)) = true then (((ZB s160.1 s133.2.2).bind fun x170=>(ZB x170 s160.2.2).bind fun x173=>(ZB s160.1 s13.2.2.1).bind fun x176=>(ZB x176 s160.2.2).bind fun x179=>(Yd p0 x145 x179).bind fun r181=>(ZB s160.1 s133.2.2).bind fun x184=>(ZB x184 s160.2.2).bind fun x187=>some (s160.1.setIfInBounds (s133.2.2).toNat (x184.setIfInBounds (s160.2.2).toNat (x173 ^^^ r181))) : Option ((Vector (Vector UInt8 4) 4))).bind fun j165=>(ZB s160.2.1 s133.2.2).bind fun x192=>(ZB x192 s160.2.2).bind fun x195=>(ZB s160.2.1 s13.2.2.1).bind fun x198=>(ZB x198 s160.2.2).bind fun x201=>(Yd p0 x145 x201).bind fun r203=>(ZB s160.2.1 s133.2.2).bind fun x206=>(ZB x206 s160.2.2).bind fun x209=>some (Fl.nx (j165,(s160.2.1.setIfInBounds (s133.2.2).toNat (x206.setIfInBounds (s160.2.2).toNat (x195 ^^^ r203))),wr (s160.2.2 + 1)))) else (some (Fl.ex (s160.1,s160.2.1)))
def Wp (p0 : Int) (s13 : (Vector (Vector UInt8 4) 4) × (Vector (Vector UInt8 4) 4) × Int × UInt8) (s133 : (Vector (Vector UInt8 4) 4) × (Vector (Vector UInt8 4) 4) × Int) : Option (Fl ((Vector (Vector UInt8 4) 4) × (Vector (Vector UInt8 4) 4) × Int) ((Vector (Vector UInt8 4) 4) × (Vector (Vector UInt8 4) 4))) :=
 if (decide (s133.2.2 < 4)) = true then (((ZB s133.1 s133.2.2).bind fun x142=>(ZB x142 s13.2.2.1).bind fun x145=>(if (s133.2.2 != s13.2.2.1) = true then (some (x145 != 0)) else (some false) : Option (Bool)).bind fun j147=>(if j147 = true then ((ZK (Ww p0 s13 s133 x145) (s133.1,s133.2.1,0)).bind fun j157=>some (j157.1,j157.2)) else (some (s133.1,s133.2.1)) : Option ((Vector (Vector UInt8 4) 4) × (Vector (Vector UInt8 4) 4))).bind fun j153=>some (j153.1,j153.2) : Option ((Vector (Vector UInt8 4) 4) × (Vector (Vector UInt8 4) 4))).bind fun j138=>some (Fl.nx (j138.1,j138.2,wr (s133.2.2 + 1)))) else (some (Fl.ex (s133.1,s133.2.1)))
def YZ (p0 : Int) (s13 : (Vector (Vector UInt8 4) 4) × (Vector (Vector UInt8 4) 4) × Int × UInt8) : Option (Fl ((Vector (Vector UInt8 4) 4) × (Vector (Vector UInt8 4) 4) × Int × UInt8) (Fl ((Vector (Vector UInt8 4) 4) × UInt8) (UInt8 × (Vector (Vector UInt8 4) 4)))) :=
 if (decide (s13.2.2.1 < 4)) = true then ((ZK (UB s13) s13.2.2.1).bind fun j18=>if (j18 == 4) = true then (some (Fl.ex (Fl.ex (0,(Vector.replicate 4 (Vector.replicate 4 (0 : UInt8))))))) else (((ZB s13.1 s13.2.2.1).bind fun x47=>(ZB s13.1 j18).bind fun x50=>(ZB s13.1 j18).bind fun x53=>(ZB (s13.1.setIfInBounds (j18).toNat x47) s13.2.2.1).bind fun x56=>some ((s13.1.setIfInBounds (j18).toNat x47).setIfInBounds (s13.2.2.1).toNat x50) : Option ((Vector (Vector UInt8 4) 4))).bind fun j42=>((ZB s13.2.1 s13.2.2.1).bind fun x64=>(ZB s13.2.1 j18).bind fun x67=>(ZB s13.2.1 j18).bind fun x70=>(ZB (s13.2.1.setIfInBounds (j18).toNat x64) s13.2.2.1).bind fun x73=>some ((s13.2.1.setIfInBounds (j18).toNat x64).setIfInBounds (s13.2.2.1).toNat x67) : Option ((Vector (Vector UInt8 4) 4))).bind fun j59=>(ZB j42 s13.2.2.1).bind fun x77=>(ZB x77 s13.2.2.1).bind fun x80=>(Yd p0 s13.2.2.2 x80).bind fun r82=>(ZB j42 s13.2.2.1).bind fun x85=>(ZB x85 s13.2.2.1).bind fun x88=>(Yo p0 x88).bind fun r90=>(ZK (Wn p0 s13 r90) (j42,j59,0)).bind fun j92=>(ZK (Wp p0 s13) (j92.1,j92.2,0)).bind fun j130=>some (Fl.nx (j130.1,j130.2,wr (s13.2.2.1 + 1),r82)))) else (some (Fl.ex (Fl.nx (s13.2.1,s13.2.2.2))))
def Xe (p0 : Int) (p1 : (Vector (Vector UInt8 4) 4)) : Option (UInt8 × (Vector (Vector UInt8 4) 4)) :=
 (VF).bind fun r5=>(ZK (YZ p0) (p1,r5,0,1)).bind fun j9=>j9.el (fun s12=>(some (s12.1,s12.2) : Option ((Vector (Vector UInt8 4) 4) × UInt8)).bind fun j217=>some (j217.2,j217.1)) (fun r=>some r)
theorem Qh (w0 : World) (p0 : Int) (p1 : (Vector (Vector UInt8 4) 4)) (r : UInt8 × (Vector (Vector UInt8 4) 4)) (hF : Xe p0 p1 = some r) :
  Calls Tryz.prog 64 [vI p0,(Value.agg (enc p1).toArray)].toArray w0 (Rt w0 (Value.tuple [vB r.1,(Value.agg (enc r.2).toArray)].toArray)):=by
 refine ce Tryz.func64 ?_
 intro a hE
 have hM:=M.start w0
 unfold Xe at hF
 refine Zb (ZY (cs:=enc p1) hE hM Za ld rfl rfl fun b1 w a hM hE=>Zc hE rfl fun a hE=>Zs hE hM XV fun b3 w a hM hE=>Ze (Zb ?_))
 obtain ⟨r5,e6,hF⟩:=bind_some hF
 refine Zo hE rfl (cbm Tryz.func92) (Hs _  r5 e6) ?_
 rintro v w a ⟨rfl,hK⟩ hE
 have hM:=hM.keep hK
 refine Zs hE hM XV fun b7 w a hM hE=>Zg (seg:=enc r5) (cs':=enc r5) hE hM Za rfl rfl rfl XV (Flat.len _) (zle flq) (Flat.cell _) (Zf flq) fun w a hM hE=>Zc hE rfl fun a hE=>Ze (wp_seq (Zb (Zd hE rfl fun a hE=>Ze ?_)))
 obtain ⟨j9,hl10,hF11⟩:=bind_some hF
 refine ZS (fun a w=>∃ s12 : (Vector (Vector UInt8 4) 4) × UInt8,j9 = Fl.nx s12 ∧ Env 153 a [(5,(ptr b3 0)),(6,(ptr b7 0)),(7,vB s12.2)] ∧ M (Old w0) w0 w [raw b7 (enc s12.1),raw b3 (enc (Vector.replicate 4 (Vector.replicate 4 (0 : UInt8))))]) ?_ ?_
 ·skip
  refine wp_block ?_
  refine ZO (fun (s13 : (Vector (Vector UInt8 4) 4) × (Vector (Vector UInt8 4) 4) × Int × UInt8) a w=>Env 153 a [(0,vI p0),(3,(ptr b1 0)),(5,(ptr b3 0)),(6,(ptr b7 0)),(7,vB s13.2.2.2),(16,vI s13.2.2.1)] ∧ M (Old w0) w0 w [raw b7 (enc s13.2.1),raw b3 (enc (Vector.replicate 4 (Vector.replicate 4 (0 : UInt8)))),raw b1 (enc s13.1)]) hl10 ⟨hE.sub ⟨rfl,rfl,rfl,rfl,rfl,rfl,trivial⟩,hM⟩ ?_
  rintro s13 a w ⟨hE,hM⟩ o16 hs14 hx15
  unfold YZ at hs14
  refine Zb (Zl hE rfl rfl rfl fun a hE=>Ze (wp_seq ?_))
  refine Zr hE rfl ?_ ?_
  ·intro hb17
   have hs14:=Zu hs14 hb17
   refine wp_skip (Zz (wp_seq (wp_block (Zb (Zd hE rfl fun a hE=>Zc hE rfl fun a hE=>Ze (Zb (Zd hE rfl fun a hE=>Zc hE rfl fun a hE=>Ze ?_)))))))
   obtain ⟨j18,hl19,hF20⟩:=bind_some hs14
   refine ZQ (fun a w=>Env 153 a [(0,vI p0),(3,(ptr b1 0)),(5,(ptr b3 0)),(6,(ptr b7 0)),(7,vB s13.2.2.2),(8,vI s13.2.2.1),(9,vI j18),(16,vI s13.2.2.1)] ∧ M (Old w0) w0 w [raw b7 (enc s13.2.1),raw b3 (enc (Vector.replicate 4 (Vector.replicate 4 (0 : UInt8)))),raw b1 (enc s13.1)]) ?_ ?_
   ·skip
    refine wp_block ?_
    refine ZO (fun (s21 : Int) a w=>Env 153 a [(0,vI p0),(3,(ptr b1 0)),(5,(ptr b3 0)),(6,(ptr b7 0)),(7,vB s13.2.2.2),(8,vI s13.2.2.1),(9,vI s21),(16,vI s13.2.2.1)] ∧ M (Old w0) w0 w [raw b7 (enc s13.2.1),raw b3 (enc (Vector.replicate 4 (Vector.replicate 4 (0 : UInt8)))),raw b1 (enc s13.1)]) hl19 ⟨hE.sub ⟨rfl,rfl,rfl,rfl,rfl,rfl,rfl,rfl,trivial⟩,hM⟩ ?_
    rintro s21 a w ⟨hE,hM⟩ o24 hs22 hx23
    unfold UB at hs22
    refine wp_seq ?_
    obtain ⟨j25,hl26,hF27⟩:=bind_some hs22
    refine ZQ (fun a w=>Env 153 a [(0,vI p0),(3,(ptr b1 0)),(5,(ptr b3 0)),(6,(ptr b7 0)),(7,vB s13.2.2.2),(8,vI s13.2.2.1),(9,vI s21),(16,vI s13.2.2.1),(29,vT j25)] ∧ M (Old w0) w0 w [raw b7 (enc s13.2.1),raw b3 (enc (Vector.replicate 4 (Vector.replicate 4 (0 : UInt8)))),raw b1 (enc s13.1)]) ?_ ?_
    ·skip
     refine wp_region_lit (Zd hE rfl fun a hE=>Zl hE rfl rfl rfl fun a hE=>Zd hE rfl ?_); intro a hE
     refine YF (decide (s21 < 4)) (fun hb28=>?_) (fun hb28=>?_)
     ·have hl26:=Zu hl26 hb28
      refine Zj hE (Zm hE rfl (lkb rfl hb28)) (by decide) rfl fun a hE=>Zj hE (Zm hE rfl (lkb rfl hb28)) (by decide) rfl ?_; intro a hE
      obtain ⟨x30,hi29,hl26⟩:=bvx hl26
      refine ZA hE (Zm hE rfl (lkb rfl hb28)) (by decide) rfl rfl Tryz.underlying28 Yq hi29.1 ?_; intro a hE
      obtain ⟨x33,hi32,hl26⟩:=bvx hl26
      refine ZA hE (Zm hE rfl (lkb rfl hb28)) (by decide) rfl rfl Tryz.underlying26 ty5 hi32.1 fun a hE=>Z0 (v:=(vB x33)) hE (Zm hE rfl (lkb rfl hb28)) (by decide) rfl ty5 rfl (At.vec (At.vec hM.rawAt2 hi29.2) hi32.2) fun a hE=>Yk hE (Zm hE rfl (lkb rfl hb28)) (by decide) rfl rfl (Al x33 0) fun a hE=>ZW hE (lkb rfl hb28) rfl fun a hE=>Zh ?_
      obtain rfl:=Option.some.inj hl26
      refine Zi ?_
      exact ⟨hE.sub ⟨rfl,rfl,rfl,rfl,rfl,rfl,rfl,rfl,rfl,trivial⟩,hM⟩
     ·have hl26:=Zt hl26 hb28
      refine Zp hE rfl (lkb rfl hb28) rfl (by decide) fun a hE=>Zp hE rfl (lkb rfl hb28) rfl (by decide) fun a hE=>Zp hE rfl (lkb rfl hb28) rfl (by decide) fun a hE=>Zp hE rfl (lkb rfl hb28) rfl (by decide) fun a hE=>Zp hE rfl (lkb rfl hb28) rfl (by decide) fun a hE=>Zp hE rfl (lkb rfl hb28) rfl (by decide) fun a hE=>Z7 hE (lkb rfl hb28) rfl fun a hE=>Zh ?_
      obtain rfl:=Option.some.inj hl26
      refine Zi ?_
      exact ⟨hE.sub ⟨rfl,rfl,rfl,rfl,rfl,rfl,rfl,rfl,rfl,trivial⟩,hM⟩
    ·skip
     rintro a w ⟨hE,hM⟩
     refine Zr hE rfl ?_ ?_
     ·intro hb37
      have hF27:=Zu hF27 hb37
      refine wp_skip (Zz (wp_block (wp_region_lit (Zd hE rfl fun a hE=>Zl hE rfl rfl rfl fun a hE=>Zc hE rfl fun a hE=>Zh (Z9 (Zi ?_))))))
      exact ⟨_,(ois hF27),hE.sub ⟨rfl,rfl,rfl,rfl,rfl,rfl,rfl,rfl,trivial⟩,hM⟩
     ·intro hb37
      have hF27:=Zt hF27 hb37
      refine wp_exit (Zq (Zq (Yi ?_)))
      obtain rfl:=hx23 _ (ois hF27)
      refine Zi ?_
      exact ⟨hE.sub ⟨rfl,rfl,rfl,rfl,rfl,rfl,rfl,rfl,trivial⟩,hM⟩
   ·skip
    rintro a w ⟨hE,hM⟩
    refine wp_seq (Zb (Zd hE rfl fun a hE=>Zl hE rfl rfl rfl fun a hE=>Ze ?_))
    refine Zr hE rfl ?_ ?_
    ·intro hb39
     have hF20:=Zu hF20 hb39
     refine Zb (Z8 (parts:=[]) (vs:=[]) (cs:=enc (Vector.replicate 4 (Vector.replicate 4 (0 : UInt8)))) hE Za ld rfl rfl XV rfl Yq ZZ fun a hE=>Zc hE rfl ?_); intro a hE
     have hM:=hM.pull1
     refine Zg (seg:=enc (Vector.replicate 4 (Vector.replicate 4 (0 : UInt8)))) (cs':=enc (Vector.replicate 4 (Vector.replicate 4 (0 : UInt8)))) hE hM Za rfl rfl rfl XV (Flat.len _) (zle flq) (Flat.cell _) (Zf flq) fun w a hM hE=>Ze ?_
     obtain rfl:=hx15 _ (ois hF20)
     obtain rfl:=Option.some.inj hF11
     have hq41 : ZX Tryz.prog _ _ (.cell 5 28) _:=ZN hE rfl XV rfl hM.rawAt0 (Flat.len _) rfl
     exact wp_ret (ZI (Y8 (ZI (ZI (Y8 (ZI (ZI (Xk hE rfl (ZF hE rfl) hq41 ⟨_,rfl,rfl,hM.kept⟩))))))))
    ·intro hb39
     have hF20:=Zt hF20 hb39
     refine wp_skip (Zz ?_)
     obtain ⟨j42,hl43,hF44⟩:=bind_some hF20
     refine ZQ (fun a w=>Env 153 a [(0,vI p0),(3,(ptr b1 0)),(5,(ptr b3 0)),(6,(ptr b7 0)),(7,vB s13.2.2.2),(8,vI s13.2.2.1),(9,vI j18),(16,vI s13.2.2.1)] ∧ M (Old w0) w0 w [raw b7 (enc s13.2.1),raw b3 (enc (Vector.replicate 4 (Vector.replicate 4 (0 : UInt8)))),raw b1 (enc j42)]) ?_ ?_
     ·skip
      have hM:=hM.pull2
      obtain ⟨x47,hi46,hl43⟩:=bvx hl43
      obtain ⟨x50,hi49,hl43⟩:=bvx hl43
      obtain ⟨x53,hi52,hl43⟩:=bvx hl43
      refine Wk (its:=[raw b7 (enc s13.2.1),raw b3 (enc (Vector.replicate 4 (Vector.replicate 4 (0 : UInt8))))]) (mk:=([mkT 9 (raw b1 (enc s13.1)) (raw b1 (enc (s13.1.setIfInBounds (j18).toNat x47)))] : Mk)) [35,36,37,38,39,40,41,42,43,162] Xm rfl rfl (by decide) rfl hE (fun u=>M.qT (M.q0 hM.drew u)) (qsP (fun z=>Zj z.E Za ld rfl (kr0 rfl)) (qsP (fun z=>Zj z.E Za ld rfl (kr0 rfl)) (qsP (fun z=>Zj z.E Za ld rfl (kr0 rfl)) (qsP (fun z=>ZA z.E Za ld rfl rfl Tryz.underlying28 Yq hi46.1 (kr0 rfl)) (qsP (v:=(Value.agg (enc x47).toArray)) ?_ (qsP (fun z=>Zj z.E Za ld rfl (kr0 rfl)) (qsP (fun z=>ZA z.E Za ld rfl rfl Tryz.underlying28 Yq hi49.1 (kr0 rfl)) (qsP (v:=(Value.agg (enc x50).toArray)) ?_ (qsP (fun z=>ZA z.E Za ld rfl rfl Tryz.underlying28 Yq hi52.1 (kr0 rfl)) (qsM (pr:=fun v=>True) ?_ qs0)))))))))) ?_
      ·intro a w ux45 D z
       have hE:=z.E
       have hD : D 4 = false:=z.F
       have hM:=z.M.togA (pre:=[_,_]) (VH (j:=9) (k:=1) z.c rfl rfl rfl hD)
       exact Zk hE rfl Yq rfl (At.vec hM.rawAt2 hi46.2) (Flat.len _) fun a hE=>⟨Kept.refl _ _,_,rfl,hE⟩
      ·intro a w ux45 D z
       have hE:=z.E
       have hD : D 7 = false:=z.F
       have hM:=z.M.togA (pre:=[_,_]) (VH (j:=9) (k:=9) z.c rfl rfl rfl hD)
       exact Zk hE rfl Yq rfl (At.vec hM.rawAt2 hi49.2) (Flat.len _) fun a hE=>⟨Kept.refl _ _,_,rfl,hE⟩
      ·intro a w ux45 D z
       have hE:=z.E
       have hD : D 9 = false:=z.F
       have hM:=(z.M.togA (pre:=[_,_]) hD).pull2
       exact Zg (seg:=enc x47) (cs':=enc (s13.1.setIfInBounds (j18).toNat x47)) hE hM Za rfl rfl rfl Yq (Flat.len _) (ZE (v:=s13.1) (x:=x47) hi52.1) (Flat.cell _) (Zy (v:=s13.1) (x:=x47) hi52.1) fun w a hM hE=>⟨undef,_,rfl,Env.dummy hE (by decide),M.qTog (mk1:=[]) (mk2:=[]) hM rfl,trivial⟩
      ·intro a w ux45 D hE hM hG hall
       have d9:=hall 9 (by decide)
       have hM:=hM.togB (pre:=[_,_]) d9
       obtain ⟨x56,hi55,hl43⟩:=bvx hl43
       refine Zw hE rfl rfl Tryz.underlying28 Yq hi55.1 ?_; intro a hE
       have hM:=hM.pull2
       refine Zg (seg:=enc x50) (cs':=enc ((s13.1.setIfInBounds (j18).toNat x47).setIfInBounds (s13.2.2.1).toNat x50)) hE hM Za rfl rfl rfl Yq (Flat.len _) (ZE (v:=(s13.1.setIfInBounds (j18).toNat x47)) (x:=x50) hi55.1) (Flat.cell _) (Zy (v:=(s13.1.setIfInBounds (j18).toNat x47)) (x:=x50) hi55.1) fun w a hM hE=>Zh ?_
       obtain rfl:=Option.some.inj hl43
       refine Zi ?_
       have hM:=hM.pull2.pull2
       exact ⟨hE.sub ⟨rfl,rfl,rfl,rfl,rfl,rfl,rfl,rfl,trivial⟩,hM⟩
     ·skip
      rintro a w ⟨hE,hM⟩
      obtain ⟨j59,hl60,hF61⟩:=bind_some hF44
      refine ZQ (fun a w=>Env 153 a [(0,vI p0),(3,(ptr b1 0)),(5,(ptr b3 0)),(6,(ptr b7 0)),(7,vB s13.2.2.2),(8,vI s13.2.2.1),(16,vI s13.2.2.1)] ∧ M (Old w0) w0 w [raw b7 (enc j59),raw b3 (enc (Vector.replicate 4 (Vector.replicate 4 (0 : UInt8)))),raw b1 (enc j42)]) ?_ ?_
      ·skip
       obtain ⟨x64,hi63,hl60⟩:=bvx hl60
       obtain ⟨x67,hi66,hl60⟩:=bvx hl60
       obtain ⟨x70,hi69,hl60⟩:=bvx hl60
       refine Wk (its:=[raw b3 (enc (Vector.replicate 4 (Vector.replicate 4 (0 : UInt8)))),raw b1 (enc j42)]) (mk:=([mkT 9 (raw b7 (enc s13.2.1)) (raw b7 (enc (s13.2.1.setIfInBounds (j18).toNat x64)))] : Mk)) [45,46,47,48,49,50,51,52,53,162] Xm rfl rfl (by decide) rfl hE (fun u=>M.qT (M.q0 hM.drew u)) (qsP (fun z=>Zj z.E Za ld rfl (kr0 rfl)) (qsP (fun z=>Zj z.E Za ld rfl (kr0 rfl)) (qsP (fun z=>Zj z.E Za ld rfl (kr0 rfl)) (qsP (fun z=>ZA z.E Za ld rfl rfl Tryz.underlying28 Yq hi63.1 (kr0 rfl)) (qsP (v:=(Value.agg (enc x64).toArray)) ?_ (qsP (fun z=>Zj z.E Za ld rfl (kr0 rfl)) (qsP (fun z=>ZA z.E Za ld rfl rfl Tryz.underlying28 Yq hi66.1 (kr0 rfl)) (qsP (v:=(Value.agg (enc x67).toArray)) ?_ (qsP (fun z=>ZA z.E Za ld rfl rfl Tryz.underlying28 Yq hi69.1 (kr0 rfl)) (qsM (pr:=fun v=>True) ?_ qs0)))))))))) ?_
       ·intro a w ux62 D z
        have hE:=z.E
        have hD : D 4 = false:=z.F
        have hM:=z.M.togA (pre:=[_,_]) (VH (j:=9) (k:=1) z.c rfl rfl rfl hD)
        exact Zk hE rfl Yq rfl (At.vec hM.rawAt2 hi63.2) (Flat.len _) fun a hE=>⟨Kept.refl _ _,_,rfl,hE⟩
       ·intro a w ux62 D z
        have hE:=z.E
        have hD : D 7 = false:=z.F
        have hM:=z.M.togA (pre:=[_,_]) (VH (j:=9) (k:=9) z.c rfl rfl rfl hD)
        exact Zk hE rfl Yq rfl (At.vec hM.rawAt2 hi66.2) (Flat.len _) fun a hE=>⟨Kept.refl _ _,_,rfl,hE⟩
       ·intro a w ux62 D z
        have hE:=z.E
        have hD : D 9 = false:=z.F
        have hM:=(z.M.togA (pre:=[_,_]) hD).pull2
        exact Zg (seg:=enc x64) (cs':=enc (s13.2.1.setIfInBounds (j18).toNat x64)) hE hM Za rfl rfl rfl Yq (Flat.len _) (ZE (v:=s13.2.1) (x:=x64) hi69.1) (Flat.cell _) (Zy (v:=s13.2.1) (x:=x64) hi69.1) fun w a hM hE=>⟨undef,_,rfl,Env.dummy hE (by decide),M.qTog (mk1:=[]) (mk2:=[]) hM rfl,trivial⟩
       ·intro a w ux62 D hE hM hG hall
        have d9:=hall 9 (by decide)
        have hM:=hM.togB (pre:=[_,_]) d9
        obtain ⟨x73,hi72,hl60⟩:=bvx hl60
        refine Zw hE rfl rfl Tryz.underlying28 Yq hi72.1 ?_; intro a hE
        have hM:=hM.pull2
        refine Zg (seg:=enc x67) (cs':=enc ((s13.2.1.setIfInBounds (j18).toNat x64).setIfInBounds (s13.2.2.1).toNat x67)) hE hM Za rfl rfl rfl Yq (Flat.len _) (ZE (v:=(s13.2.1.setIfInBounds (j18).toNat x64)) (x:=x67) hi72.1) (Flat.cell _) (Zy (v:=(s13.2.1.setIfInBounds (j18).toNat x64)) (x:=x67) hi72.1) fun w a hM hE=>Zh ?_
        obtain rfl:=Option.some.inj hl60
        refine Zi ?_
        exact ⟨hE.sub ⟨rfl,rfl,rfl,rfl,rfl,rfl,rfl,trivial⟩,hM⟩
      ·skip
       rintro a w ⟨hE,hM⟩
       refine Zb (Zd hE rfl fun a hE=>Zd hE rfl fun a hE=>Zd hE rfl fun a hE=>Zd hE rfl ?_); intro a hE
       obtain ⟨x77,hi76,hF61⟩:=bvx hF61
       refine Zw hE rfl rfl Tryz.underlying28 Yq hi76.1 ?_; intro a hE
       obtain ⟨x80,hi79,hF61⟩:=bvx hF61
       refine Zw hE rfl rfl Tryz.underlying26 ty5 hi79.1 fun a hE=>ZR (v:=(vB x80)) hE rfl ty5 rfl (At.vec (At.vec hM.rawAt2 hi76.2) hi79.2) ?_; intro a hE
       obtain ⟨r82,e83,hF61⟩:=bind_some hF61
       refine Zo hE rfl yo (Y3 _ p0 s13.2.2.2 x80 r82 e83) ?_
       rintro v w a ⟨rfl,hK⟩ hE
       have hM:=hM.keep hK
       refine Zc hE rfl fun a hE=>Ze (Zb (Zd hE rfl fun a hE=>Zd hE rfl fun a hE=>Zd hE rfl ?_)); intro a hE
       obtain ⟨x85,hi84,hF61⟩:=bvx hF61
       refine Zw hE rfl rfl Tryz.underlying28 Yq hi84.1 ?_; intro a hE
       obtain ⟨x88,hi87,hF61⟩:=bvx hF61
       refine Zw hE rfl rfl Tryz.underlying26 ty5 hi87.1 fun a hE=>ZR (v:=(vB x88)) hE rfl ty5 rfl (At.vec (At.vec hM.rawAt2 hi84.2) hi87.2) ?_; intro a hE
       obtain ⟨r90,e91,hF61⟩:=bind_some hF61
       refine Zo hE rfl cb78 (UD _ p0 x88 r90 e91) ?_
       rintro v w a ⟨rfl,hK⟩ hE
       have hM:=hM.keep hK
       refine Zc hE rfl fun a hE=>Ze (wp_seq (Zb (Zd hE rfl fun a hE=>Ze ?_)))
       obtain ⟨j92,hl93,hF94⟩:=bind_some hF61
       refine ZS (fun a w=>Env 153 a [(0,vI p0),(3,(ptr b1 0)),(5,(ptr b3 0)),(6,(ptr b7 0)),(7,vB r82),(8,vI s13.2.2.1),(16,vI s13.2.2.1)] ∧ M (Old w0) w0 w [raw b7 (enc j92.2),raw b3 (enc (Vector.replicate 4 (Vector.replicate 4 (0 : UInt8)))),raw b1 (enc j92.1)]) ?_ ?_
       ·skip
        refine wp_block ?_
        refine ZO (fun (s95 : (Vector (Vector UInt8 4) 4) × (Vector (Vector UInt8 4) 4) × Int) a w=>Env 153 a [(0,vI p0),(3,(ptr b1 0)),(5,(ptr b3 0)),(6,(ptr b7 0)),(7,vB r82),(8,vI s13.2.2.1),(10,vB r90),(16,vI s13.2.2.1),(70,vI s95.2.2)] ∧ M (Old w0) w0 w [raw b7 (enc s95.2.1),raw b3 (enc (Vector.replicate 4 (Vector.replicate 4 (0 : UInt8)))),raw b1 (enc s95.1)]) hl93 ⟨hE.sub ⟨rfl,rfl,rfl,rfl,rfl,rfl,rfl,rfl,rfl,trivial⟩,hM⟩ ?_
        rintro s95 a w ⟨hE,hM⟩ o98 hs96 hx97
        unfold Wn at hs96
        refine Zb (Zl hE rfl rfl rfl fun a hE=>Ze (wp_seq ?_))
        refine Zr hE rfl ?_ ?_
        ·intro hb99
         have hs96:=Zu hs96 hb99
         refine wp_skip (Zz (wp_seq (wp_block (Zb (Zd hE rfl fun a hE=>Zc hE rfl fun a hE=>Ze ?_)))))
         have hM:=hM.pull2
         obtain ⟨x102,hi101,hs96⟩:=bvx hs96
         obtain ⟨x105,hi104,hs96⟩:=bvx hs96
         obtain ⟨r107,e108,hs96⟩:=bind_some hs96
         obtain ⟨x110,hi109,hs96⟩:=bvx hs96
         obtain ⟨x113,hi112,hs96⟩:=bvx hs96
         obtain ⟨r115,e116,hs96⟩:=bind_some hs96
         obtain ⟨x118,hi117,hs96⟩:=bvx hs96
         obtain ⟨x121,hi120,hs96⟩:=bvx hs96
         obtain ⟨x124,hi123,hs96⟩:=bvx hs96
         refine Wk (its:=[raw b7 (enc s95.2.1),raw b3 (enc (Vector.replicate 4 (Vector.replicate 4 (0 : UInt8))))]) (mk:=([mkT 22 (raw b1 (enc s95.1)) (raw b1 (enc (s95.1.setIfInBounds (s13.2.2.1).toNat (x118.setIfInBounds (s95.2.2).toNat r107))))] : Mk)) [73,74,75,76,77,78,79,80,81,82,83,84,85,86,87,88,89,90,91,92,93,94,175,95] Xm rfl rfl (by decide) rfl hE (fun u=>M.qT (M.q0 hM.drew u)) (qsP (fun z=>Zj z.E Za ld rfl (kr0 rfl)) (qsP (fun z=>Zj z.E Za ld rfl (kr0 rfl)) (qsP (fun z=>Zj z.E Za ld rfl (kr0 rfl)) (qsP (fun z=>Zj z.E Za ld rfl (kr0 rfl)) (qsP (fun z=>Zj z.E Za ld rfl (kr0 rfl)) (qsP (fun z=>Zj z.E Za ld rfl (kr0 rfl)) (qsP (fun z=>Zj z.E Za ld rfl (kr0 rfl)) (qsP (fun z=>ZA z.E Za ld rfl rfl Tryz.underlying28 Yq hi101.1 (kr0 rfl)) (qsP (fun z=>ZA z.E Za ld rfl rfl Tryz.underlying26 ty5 hi104.1 (kr0 rfl)) (qsP (v:=(vB x105)) ?_ (qsP (fun z=>Zj z.E Za ld rfl (kr0 rfl)) (qsP (fun z=>YD z.E Za ld rfl yo (Y3 _ p0 x105 r90 r107 e108) (kc rfl)) (qsP (fun z=>Zj z.E Za ld rfl (kr0 rfl)) (qsP (fun z=>Zj z.E Za ld rfl (kr0 rfl)) (qsP (fun z=>Zj z.E Za ld rfl (kr0 rfl)) (qsP (fun z=>ZA z.E Za ld rfl rfl Tryz.underlying28 Yq hi109.1 (kr0 rfl)) (qsP (fun z=>ZA z.E Za ld rfl rfl Tryz.underlying26 ty5 hi112.1 (kr0 rfl)) (qsP (v:=(vB x113)) ?_ (qsP (fun z=>Zj z.E Za ld rfl (kr0 rfl)) (qsP (fun z=>YD z.E Za ld rfl yo (Y3 _ p0 x113 r90 r115 e116) (kc rfl)) (qsP (fun z=>ZA z.E Za ld rfl rfl Tryz.underlying28 Yq hi117.1 (kr0 rfl)) (qsP (fun z=>ZA z.E Za ld rfl rfl Tryz.underlying26 ty5 hi120.1 (kr0 rfl)) (qsM (pr:=fun v=>True) ?_ (qsP (fun z=>ZA z.E Za ld rfl rfl Tryz.underlying28 Yq hi123.1 (kr0 rfl)) qs0)))))))))))))))))))))))) ?_
         ·intro a w ux100 D z
          have hE:=z.E
          have hD : D 9 = false:=z.F
          have hM:=z.M.togA (pre:=[_,_]) (VH (j:=22) (k:=12) z.c rfl rfl rfl hD)
          exact ZR (v:=(vB x105)) hE rfl ty5 rfl (At.vec (At.vec hM.rawAt2 hi101.2) hi104.2) fun a hE=>⟨Kept.refl _ _,_,rfl,hE⟩
         ·intro a w ux100 D z
          have hE:=z.E
          have hM:=z.M
          exact ZR (v:=(vB x113)) hE rfl ty5 rfl (At.vec (At.vec hM.rawAt0 hi109.2) hi112.2) fun a hE=>⟨Kept.refl _ _,_,rfl,hE⟩
         ·intro a w ux100 D z
          have hE:=z.E
          have hD : D 22 = false:=z.F
          have hM:=(z.M.togA (pre:=[_,_]) hD).pull2
          exact Zg (seg:=[vB r107]) (cs':=enc (s95.1.setIfInBounds (s13.2.2.1).toNat (x118.setIfInBounds (s95.2.2).toNat r107))) hE hM Za rfl rfl rfl ty5 rfl (XJ (o':=0 + (s95.2.2).toNat * 1) hi117 (ZE (v:=x118) (x:=r107) hi120.1) (by first | omega | (simp only [Flat.n] <;> omega))) (Flat.cell (r107 : UInt8)) (Y4 (o':=0 + (s95.2.2).toNat * 1) hi117 (ZE (v:=x118) (x:=r107) hi120.1) (Zy (v:=x118) (x:=r107) hi120.1) (by first | omega | (simp only [Flat.n] <;> omega))) fun w a hM hE=>⟨undef,_,rfl,Env.dummy hE (by decide),M.qTog (mk1:=[]) (mk2:=[]) hM rfl,trivial⟩
         ·intro a w ux100 D hE hM hG hall
          have d22:=hall 22 (by decide)
          have hM:=hM.togB (pre:=[_,_]) d22
          obtain ⟨x127,hi126,hs96⟩:=bvx hs96
          refine Zw hE rfl rfl Tryz.underlying26 ty5 hi126.1 fun a hE=>Zg (seg:=[vB r115]) (cs':=enc (s95.2.1.setIfInBounds (s13.2.2.1).toNat (x124.setIfInBounds (s95.2.2).toNat r115))) hE hM Za rfl rfl rfl ty5 rfl (XJ (o':=0 + (s95.2.2).toNat * 1) hi123 (ZE (v:=x124) (x:=r115) hi126.1) (by first | omega | (simp only [Flat.n] <;> omega))) (Flat.cell (r115 : UInt8)) (Y4 (o':=0 + (s95.2.2).toNat * 1) hi123 (ZE (v:=x124) (x:=r115) hi126.1) (Zy (v:=x124) (x:=r115) hi126.1) (by first | omega | (simp only [Flat.n] <;> omega))) fun w a hM hE=>Zh (Z9 (Zz (wp_region_lit (Zl hE rfl rfl rfl fun a hE=>Zd hE rfl fun a hE=>Zh (Zi ?_)))))
          exact ⟨_,(ois hs96),hE.sub ⟨rfl,rfl,rfl,rfl,rfl,rfl,rfl,rfl,rfl,trivial⟩,hM⟩
        ·intro hb99
         have hs96:=Zt hs96 hb99
         refine wp_exit (Zq (Zq (Yi ?_)))
         obtain rfl:=hx97 _ (ois hs96)
         refine Zi ?_
         exact ⟨hE.sub ⟨rfl,rfl,rfl,rfl,rfl,rfl,rfl,trivial⟩,hM⟩
       ·skip
        rintro a w ⟨hE,hM⟩
        refine Zz (Zb (Zd hE rfl fun a hE=>Ze ?_))
        obtain ⟨j130,hl131,hF132⟩:=bind_some hF94
        refine ZS (fun a w=>Env 153 a [(0,vI p0),(3,(ptr b1 0)),(5,(ptr b3 0)),(6,(ptr b7 0)),(7,vB r82),(16,vI s13.2.2.1)] ∧ M (Old w0) w0 w [raw b7 (enc j130.2),raw b3 (enc (Vector.replicate 4 (Vector.replicate 4 (0 : UInt8)))),raw b1 (enc j130.1)]) ?_ ?_
        ·skip
         refine wp_block ?_
         refine ZO (fun (s133 : (Vector (Vector UInt8 4) 4) × (Vector (Vector UInt8 4) 4) × Int) a w=>Env 153 a [(0,vI p0),(3,(ptr b1 0)),(5,(ptr b3 0)),(6,(ptr b7 0)),(7,vB r82),(8,vI s13.2.2.1),(16,vI s13.2.2.1),(98,vI s133.2.2)] ∧ M (Old w0) w0 w [raw b7 (enc s133.2.1),raw b3 (enc (Vector.replicate 4 (Vector.replicate 4 (0 : UInt8)))),raw b1 (enc s133.1)]) hl131 ⟨hE.sub ⟨rfl,rfl,rfl,rfl,rfl,rfl,rfl,rfl,trivial⟩,hM⟩ ?_
         rintro s133 a w ⟨hE,hM⟩ o136 hs134 hx135
         unfold Wp at hs134
         refine Zb (Zl hE rfl rfl rfl fun a hE=>Ze (wp_seq ?_))
         refine Zr hE rfl ?_ ?_
         ·intro hb137
          have hs134:=Zu hs134 hb137
          refine wp_skip (Zz ?_)
          obtain ⟨j138,hl139,hF140⟩:=bind_some hs134
          refine ZQ (fun a w=>Env 153 a [(0,vI p0),(3,(ptr b1 0)),(5,(ptr b3 0)),(6,(ptr b7 0)),(7,vB r82),(8,vI s13.2.2.1),(16,vI s13.2.2.1),(98,vI s133.2.2)] ∧ M (Old w0) w0 w [raw b7 (enc j138.2),raw b3 (enc (Vector.replicate 4 (Vector.replicate 4 (0 : UInt8)))),raw b1 (enc j138.1)]) ?_ ?_
          ·skip
           refine wp_block (Zb (Zd hE rfl fun a hE=>Zc hE rfl fun a hE=>Ze (Zb (Zd hE rfl fun a hE=>Zd hE rfl ?_)))); intro a hE
           obtain ⟨x142,hi141,hl139⟩:=bvx hl139
           refine Zw hE rfl rfl Tryz.underlying28 Yq hi141.1 ?_; intro a hE
           obtain ⟨x145,hi144,hl139⟩:=bvx hl139
           refine Zw hE rfl rfl Tryz.underlying26 ty5 hi144.1 fun a hE=>ZR (v:=(vB x145)) hE rfl ty5 rfl (At.vec (At.vec hM.rawAt2 hi141.2) hi144.2) fun a hE=>Zc hE rfl fun a hE=>Ze ?_
           obtain ⟨j147,hl148,hF149⟩:=bind_some hl139
           refine ZQ (fun a w=>Env 153 a [(0,vI p0),(3,(ptr b1 0)),(5,(ptr b3 0)),(6,(ptr b7 0)),(7,vB r82),(8,vI s13.2.2.1),(12,vI s133.2.2),(13,vB x145),(16,vI s13.2.2.1),(98,vI s133.2.2),(112,vT j147)] ∧ M (Old w0) w0 w [raw b7 (enc s133.2.1),raw b3 (enc (Vector.replicate 4 (Vector.replicate 4 (0 : UInt8)))),raw b1 (enc s133.1)]) ?_ ?_
           ·skip
            refine wp_region_lit (Zd hE rfl fun a hE=>Zd hE rfl fun a hE=>Zl hE rfl rfl rfl fun a hE=>Zd hE rfl ?_); intro a hE
            refine YF (s133.2.2 != s13.2.2.1) (fun hb150=>?_) (fun hb150=>?_)
            ·have hl148:=Zu hl148 hb150
             refine Zj hE (Zm hE rfl (lkb rfl hb150)) (by decide) rfl fun a hE=>Yk hE (Zm hE rfl (lkb rfl hb150)) (by decide) rfl rfl (yR x145 0) fun a hE=>ZW hE (lkb rfl hb150) rfl fun a hE=>Zh ?_
             obtain rfl:=Option.some.inj hl148
             refine Zi ?_
             exact ⟨hE.sub ⟨rfl,rfl,rfl,rfl,rfl,rfl,rfl,rfl,rfl,rfl,rfl,trivial⟩,hM⟩
            ·have hl148:=Zt hl148 hb150
             refine Zp hE rfl (lkb rfl hb150) rfl (by decide) fun a hE=>Zp hE rfl (lkb rfl hb150) rfl (by decide) fun a hE=>Z7 hE (lkb rfl hb150) rfl fun a hE=>Zh ?_
             obtain rfl:=Option.some.inj hl148
             refine Zi ?_
             exact ⟨hE.sub ⟨rfl,rfl,rfl,rfl,rfl,rfl,rfl,rfl,rfl,rfl,rfl,trivial⟩,hM⟩
           ·skip
            rintro a w ⟨hE,hM⟩
            obtain ⟨j153,hl154,hF155⟩:=bind_some hF149
            refine ZS (fun a w=>Env 153 a [(0,vI p0),(3,(ptr b1 0)),(5,(ptr b3 0)),(6,(ptr b7 0)),(7,vB r82),(8,vI s13.2.2.1),(16,vI s13.2.2.1),(98,vI s133.2.2)] ∧ M (Old w0) w0 w [raw b7 (enc j153.2),raw b3 (enc (Vector.replicate 4 (Vector.replicate 4 (0 : UInt8)))),raw b1 (enc j153.1)]) ?_ ?_
            ·skip
             refine Zr hE rfl ?_ ?_
             ·intro hb156
              have hl154:=Zu hl154 hb156
              refine Zb (Zd hE rfl fun a hE=>Ze ?_)
              obtain ⟨j157,hl158,hF159⟩:=bind_some hl154
              refine ZS (fun a w=>Env 153 a [(0,vI p0),(3,(ptr b1 0)),(5,(ptr b3 0)),(6,(ptr b7 0)),(7,vB r82),(8,vI s13.2.2.1),(16,vI s13.2.2.1),(98,vI s133.2.2)] ∧ M (Old w0) w0 w [raw b7 (enc j157.2),raw b3 (enc (Vector.replicate 4 (Vector.replicate 4 (0 : UInt8)))),raw b1 (enc j157.1)]) ?_ ?_
              ·skip
               refine wp_block ?_
               refine ZO (fun (s160 : (Vector (Vector UInt8 4) 4) × (Vector (Vector UInt8 4) 4) × Int) a w=>Env 153 a [(0,vI p0),(3,(ptr b1 0)),(5,(ptr b3 0)),(6,(ptr b7 0)),(7,vB r82),(8,vI s13.2.2.1),(12,vI s133.2.2),(13,vB x145),(16,vI s13.2.2.1),(98,vI s133.2.2),(113,vI s160.2.2)] ∧ M (Old w0) w0 w [raw b7 (enc s160.2.1),raw b3 (enc (Vector.replicate 4 (Vector.replicate 4 (0 : UInt8)))),raw b1 (enc s160.1)]) hl158 ⟨hE.sub ⟨rfl,rfl,rfl,rfl,rfl,rfl,rfl,rfl,rfl,rfl,rfl,trivial⟩,hM⟩ ?_
               rintro s160 a w ⟨hE,hM⟩ o163 hs161 hx162
               unfold Ww at hs161
               refine Zb (Zl hE rfl rfl rfl fun a hE=>Ze (wp_seq ?_))
               refine Zr hE rfl ?_ ?_
               ·intro hb164
                have hs161:=Zu hs161 hb164
                refine wp_skip (Zz (wp_seq (wp_block (Zb (Zd hE rfl fun a hE=>Zc hE rfl fun a hE=>Ze ?_)))))
                obtain ⟨j165,hl166,hF167⟩:=bind_some hs161
                refine ZQ (fun a w=>Env 153 a [(0,vI p0),(3,(ptr b1 0)),(5,(ptr b3 0)),(6,(ptr b7 0)),(7,vB r82),(8,vI s13.2.2.1),(12,vI s133.2.2),(13,vB x145),(14,vI s160.2.2),(16,vI s13.2.2.1),(98,vI s133.2.2),(113,vI s160.2.2)] ∧ M (Old w0) w0 w [raw b7 (enc s160.2.1),raw b3 (enc (Vector.replicate 4 (Vector.replicate 4 (0 : UInt8)))),raw b1 (enc j165)]) ?_ ?_
                ·skip
                 obtain ⟨x170,hi169,hl166⟩:=bvx hl166
                 obtain ⟨x173,hi172,hl166⟩:=bvx hl166
                 obtain ⟨x176,hi175,hl166⟩:=bvx hl166
                 obtain ⟨x179,hi178,hl166⟩:=bvx hl166
                 obtain ⟨r181,e182,hl166⟩:=bind_some hl166
                 obtain ⟨x184,hi183,hl166⟩:=bvx hl166
                 obtain ⟨x187,hi186,hl166⟩:=bvx hl166
                 refine Yl [116,117,118,119,120,121,122,123,124,125,126,127,128,129,130,131] Xm rfl rfl (by decide) rfl hE hM (qsP (fun z=>Zj z.E Za ld rfl (kr0 rfl)) (qsP (fun z=>Zj z.E Za ld rfl (kr0 rfl)) (qsP (fun z=>ZA z.E Za ld rfl rfl Tryz.underlying28 Yq hi169.1 (kr0 rfl)) (qsP (fun z=>ZA z.E Za ld rfl rfl Tryz.underlying26 ty5 hi172.1 (kr0 rfl)) (qsP (fun z=>Z0 (v:=(vB x173)) z.E Za ld rfl ty5 rfl (At.vec (At.vec (z.M.rawAt2) hi169.2) hi172.2) (kr0 rfl)) (qsP (fun z=>Zj z.E Za ld rfl (kr0 rfl)) (qsP (fun z=>Zj z.E Za ld rfl (kr0 rfl)) (qsP (fun z=>Zj z.E Za ld rfl (kr0 rfl)) (qsP (fun z=>Zj z.E Za ld rfl (kr0 rfl)) (qsP (fun z=>ZA z.E Za ld rfl rfl Tryz.underlying28 Yq hi175.1 (kr0 rfl)) (qsP (fun z=>ZA z.E Za ld rfl rfl Tryz.underlying26 ty5 hi178.1 (kr0 rfl)) (qsP (fun z=>Z0 (v:=(vB x179)) z.E Za ld rfl ty5 rfl (At.vec (At.vec (z.M.rawAt2) hi175.2) hi178.2) (kr0 rfl)) (qsP (fun z=>YD z.E Za ld rfl yo (Y3 _ p0 x145 x179 r181 e182) (kc rfl)) (qsP (v:=(vB (x173 ^^^ r181))) (fun z=>Yk z.E Za ld rfl rfl (WI x173 r181) (kr0 rfl)) (qsP (fun z=>ZA z.E Za ld rfl rfl Tryz.underlying28 Yq hi183.1 (kr0 rfl)) (qsP (fun z=>ZA z.E Za ld rfl rfl Tryz.underlying26 ty5 hi186.1 (kr0 rfl)) qs0)))))))))))))))) ?_
                 ·intro a w u hE hM
                  have hM:=hM.pull2
                  refine Zg (seg:=[(vB (x173 ^^^ r181))]) (cs':=enc (s160.1.setIfInBounds (s133.2.2).toNat (x184.setIfInBounds (s160.2.2).toNat (x173 ^^^ r181)))) hE hM Za rfl rfl rfl ty5 rfl (XJ (o':=0 + (s160.2.2).toNat * 1) hi183 (ZE (v:=x184) (x:=x173 ^^^ r181) hi186.1) (by first | omega | (simp only [Flat.n] <;> omega))) (Flat.cell (x173 ^^^ r181 : UInt8)) (Y4 (o':=0 + (s160.2.2).toNat * 1) hi183 (ZE (v:=x184) (x:=x173 ^^^ r181) hi186.1) (Zy (v:=x184) (x:=x173 ^^^ r181) hi186.1) (by first | omega | (simp only [Flat.n] <;> omega))) fun w a hM hE=>Zh ?_
                  obtain rfl:=Option.some.inj hl166
                  refine Zi ?_
                  have hM:=hM.pull2.pull2
                  exact ⟨hE.sub ⟨rfl,rfl,rfl,rfl,rfl,rfl,rfl,rfl,rfl,rfl,rfl,rfl,trivial⟩,hM⟩
                ·skip
                 rintro a w ⟨hE,hM⟩
                 obtain ⟨x192,hi191,hF167⟩:=bvx hF167
                 obtain ⟨x195,hi194,hF167⟩:=bvx hF167
                 obtain ⟨x198,hi197,hF167⟩:=bvx hF167
                 obtain ⟨x201,hi200,hF167⟩:=bvx hF167
                 obtain ⟨r203,e204,hF167⟩:=bind_some hF167
                 obtain ⟨x206,hi205,hF167⟩:=bvx hF167
                 obtain ⟨x209,hi208,hF167⟩:=bvx hF167
                 refine Yl [132,133,134,135,136,137,138,139,140,141,142,143,144,145,146,147] Xm rfl rfl (by decide) rfl hE hM (qsP (fun z=>Zj z.E Za ld rfl (kr0 rfl)) (qsP (fun z=>Zj z.E Za ld rfl (kr0 rfl)) (qsP (fun z=>ZA z.E Za ld rfl rfl Tryz.underlying28 Yq hi191.1 (kr0 rfl)) (qsP (fun z=>ZA z.E Za ld rfl rfl Tryz.underlying26 ty5 hi194.1 (kr0 rfl)) (qsP (fun z=>Z0 (v:=(vB x195)) z.E Za ld rfl ty5 rfl (At.vec (At.vec (z.M.rawAt0) hi191.2) hi194.2) (kr0 rfl)) (qsP (fun z=>Zj z.E Za ld rfl (kr0 rfl)) (qsP (fun z=>Zj z.E Za ld rfl (kr0 rfl)) (qsP (fun z=>Zj z.E Za ld rfl (kr0 rfl)) (qsP (fun z=>Zj z.E Za ld rfl (kr0 rfl)) (qsP (fun z=>ZA z.E Za ld rfl rfl Tryz.underlying28 Yq hi197.1 (kr0 rfl)) (qsP (fun z=>ZA z.E Za ld rfl rfl Tryz.underlying26 ty5 hi200.1 (kr0 rfl)) (qsP (fun z=>Z0 (v:=(vB x201)) z.E Za ld rfl ty5 rfl (At.vec (At.vec (z.M.rawAt0) hi197.2) hi200.2) (kr0 rfl)) (qsP (fun z=>YD z.E Za ld rfl yo (Y3 _ p0 x145 x201 r203 e204) (kc rfl)) (qsP (v:=(vB (x195 ^^^ r203))) (fun z=>Yk z.E Za ld rfl rfl (WI x195 r203) (kr0 rfl)) (qsP (fun z=>ZA z.E Za ld rfl rfl Tryz.underlying28 Yq hi205.1 (kr0 rfl)) (qsP (fun z=>ZA z.E Za ld rfl rfl Tryz.underlying26 ty5 hi208.1 (kr0 rfl)) qs0)))))))))))))))) ?_
                 ·intro a w u hE hM
                  refine Zg (seg:=[(vB (x195 ^^^ r203))]) (cs':=enc (s160.2.1.setIfInBounds (s133.2.2).toNat (x206.setIfInBounds (s160.2.2).toNat (x195 ^^^ r203)))) hE hM Za rfl rfl rfl ty5 rfl (XJ (o':=0 + (s160.2.2).toNat * 1) hi205 (ZE (v:=x206) (x:=x195 ^^^ r203) hi208.1) (by first | omega | (simp only [Flat.n] <;> omega))) (Flat.cell (x195 ^^^ r203 : UInt8)) (Y4 (o':=0 + (s160.2.2).toNat * 1) hi205 (ZE (v:=x206) (x:=x195 ^^^ r203) hi208.1) (Zy (v:=x206) (x:=x195 ^^^ r203) hi208.1) (by first | omega | (simp only [Flat.n] <;> omega))) fun w a hM hE=>Zh (Z9 (Zz (wp_region_lit (Zl hE rfl rfl rfl fun a hE=>Zd hE rfl fun a hE=>Zh (Zi ?_)))))
                  exact ⟨_,(ois hF167),hE.sub ⟨rfl,rfl,rfl,rfl,rfl,rfl,rfl,rfl,rfl,rfl,rfl,trivial⟩,hM⟩
               ·intro hb164
                have hs161:=Zt hs161 hb164
                refine wp_exit (Zq (Zq (Yi ?_)))
                obtain rfl:=hx162 _ (ois hs161)
                refine Zi ?_
                exact ⟨hE.sub ⟨rfl,rfl,rfl,rfl,rfl,rfl,rfl,rfl,trivial⟩,hM⟩
              ·skip
               rintro a w ⟨hE,hM⟩
               obtain rfl:=Option.some.inj hF159
               refine Zi ?_
               exact ⟨hE.sub ⟨rfl,rfl,rfl,rfl,rfl,rfl,rfl,rfl,trivial⟩,hM⟩
             ·intro hb156
              have hl154:=Zt hl154 hb156
              refine wp_skip ?_
              obtain rfl:=Option.some.inj hl154
              refine Zi ?_
              exact ⟨hE.sub ⟨rfl,rfl,rfl,rfl,rfl,rfl,rfl,rfl,trivial⟩,hM⟩
            ·skip
             rintro a w ⟨hE,hM⟩
             refine Z9 ?_
             obtain rfl:=Option.some.inj hF155
             refine Zi ?_
             exact ⟨hE.sub ⟨rfl,rfl,rfl,rfl,rfl,rfl,rfl,rfl,trivial⟩,hM⟩
          ·skip
           rintro a w ⟨hE,hM⟩
           refine wp_region_lit (Zl hE rfl rfl rfl fun a hE=>Zd hE rfl fun a hE=>Zh (Zi ?_))
           exact ⟨_,(ois hF140),hE.sub ⟨rfl,rfl,rfl,rfl,rfl,rfl,rfl,rfl,trivial⟩,hM⟩
         ·intro hb137
          have hs134:=Zt hs134 hb137
          refine wp_exit (Zq (Zq (Yi ?_)))
          obtain rfl:=hx135 _ (ois hs134)
          refine Zi ?_
          exact ⟨hE.sub ⟨rfl,rfl,rfl,rfl,rfl,rfl,trivial⟩,hM⟩
        ·skip
         rintro a w ⟨hE,hM⟩
         refine Z9 (Zz (wp_region_lit (Zl hE rfl rfl rfl fun a hE=>Zd hE rfl fun a hE=>Zh (Zi ?_))))
         exact ⟨_,(ois hF132),hE.sub ⟨rfl,rfl,rfl,rfl,rfl,rfl,trivial⟩,hM⟩
  ·intro hb17
   have hs14:=Zt hs14 hb17
   refine wp_exit (Zq (Zq (Yi ?_)))
   obtain rfl:=hx15 _ (ois hs14)
   refine Zi ?_
   have hM:=M.fst (l:=[_,_]) hM.pull1.pull1
   exact ⟨(s13.2.1,s13.2.2.2),rfl,hE.sub ⟨rfl,rfl,rfl,trivial⟩,hM⟩
 ·skip
  rintro a w ⟨s12,ht,hE,hM⟩
  subst ht
  have hF11:=Qi hF11
  refine Zz ?_
  obtain ⟨j217,hl218,hF219⟩:=bind_some hF11
  refine ZQ (fun a w=>Env 153 a [(4,vB j217.2),(5,(ptr b3 0))] ∧ M (Old w0) w0 w [raw b3 (enc j217.1)]) ?_ ?_
  ·skip
   refine Yl [151,152,4] Xm rfl rfl (by decide) rfl hE hM (qsP (fun z=>Zj z.E Za ld rfl (kr0 rfl)) (qsP (fun z=>YE z.E Za ld rfl XV rfl (z.M.rawAt0) (Flat.len _) (kr0 rfl)) (qsP (fun z=>U6 z.E Za ld rfl (kr0 rfl)) qs0))) ?_
   ·intro a w u hE hM
    have hM:=hM.pull1
    refine Zg (seg:=enc s12.1) (cs':=enc s12.1) hE hM Za rfl rfl rfl XV (Flat.len _) (zle flq) (Flat.cell _) (Zf flq) fun w a hM hE=>Zh ?_
    obtain rfl:=Option.some.inj hl218
    refine Zi ?_
    have hM:=M.fst (l:=[_]) hM
    exact ⟨hE.sub ⟨rfl,rfl,trivial⟩,hM⟩
  ·skip
   rintro a w ⟨hE,hM⟩
   obtain rfl:=Option.some.inj hF219
   have hq222 : ZX Tryz.prog _ _ (.cell 5 28) _:=ZN hE rfl XV rfl hM.rawAt0 (Flat.len _) rfl
   exact wp_ret (Xk hE rfl (ZF hE rfl) hq222 ⟨_,rfl,rfl,hM.kept⟩)
def VL (p0 : Int) (p1 : (Vector (Vector UInt8 4) 4)) : Option (Bool) :=
 (Xe p0 p1).bind fun r3=>some (r3.1 != 0)
theorem Jq (w0 : World) (p0 : Int) (p1 : (Vector (Vector UInt8 4) 4)) (r : Bool) (hF : VL p0 p1 = some r) :
  Calls Tryz.prog 62 [vI p0,(Value.agg (enc p1).toArray)].toArray w0 (Rt w0 (vT r)):=by
 refine ce Tryz.func62 ?_
 intro a hE
 have hM:=M.start w0
 unfold VL at hF
 refine Zb (ZY (cs:=enc p1) hE hM Za ld rfl rfl fun b1 w a hM hE=>Zc hE rfl fun a hE=>Ze (Zb (Zd hE rfl fun a hE=>Zk hE rfl XV rfl hM.rawAt0 (Flat.len _) ?_))); intro a hE
 obtain ⟨r3,e4,hF⟩:=bind_some hF
 refine Zo hE rfl (cbm Tryz.func64) (Qh _ p0 p1 r3 e4) ?_
 rintro v w a ⟨rfl,hK⟩ hE
 have hM:=hM.keep hK
 refine Zd hE rfl fun a hE=>Zx hE Za ld rfl rfl fun a hE=>Zx hE Za ld rfl rfl fun a hE=>Zs hE hM XV fun b5 w a hM hE=>Zc hE rfl fun a hE=>Zg (seg:=enc r3.2) (cs':=enc r3.2) hE hM Za rfl rfl rfl XV (Flat.len _) (zle flq) (Flat.cell _) (Zf flq) fun w a hM hE=>Ze (Zb (Zd hE rfl fun a hE=>Zl hE rfl rfl (yR r3.1 0) fun a hE=>Zc hE rfl fun a hE=>Ze ?_))
 obtain rfl:=Option.some.inj hF
 exact wp_ret (kr1 hE rfl rfl hM.kept)
def Us (p0 : (List UInt8)) (p1 : UInt8) : Option (Int) :=
 some (indexByte p0 p1)
theorem J7 (w0 : World) (p0 : (List UInt8)) (v0_1 : Value) (hv0_1 : Ro w0 p0 [v0_1]) (p1 : UInt8) (r : Int) (hF : Us p0 p1 = some r) :
  Calls Tryz.prog 106 [v0_1,vB p1].toArray w0 (Rt w0 (vI r)):=by
 refine ce Tryz.func106 ?_
 intro a hE
 have hM:=M.start w0
 unfold Us at hF
 refine Zb (Zc hE rfl fun a hE=>Ze (Zb (Zd hE rfl fun a hE=>Zd hE rfl fun a hE=>yf hE Za ld rfl Tryz.func111 rfl (by decide) (by kernel_rfl) (by kernel_rfl) (hM.rd hv0_1) fun a hE=>Zc hE rfl fun a hE=>Ze ?_)))
 obtain rfl:=Option.some.inj hF
 exact wp_ret (kr1 hE rfl rfl hM.kept)
def Xv (p0 : (List UInt8)) (s5 : Int) : Option (Fl Int (Fl Unit Bool)) :=
 if (decide (s5 < (p0.length : Int))) = true then ((idx p0 s5).bind fun x10=>(slc p0 (0 : Int) s5).bind fun l13=>(Us l13 x10).bind fun r16=>if (decide (r16 ≥ 0)) = true then (some (Fl.ex (Fl.ex false))) else (some (Fl.nx (wr (s5 + 1))))) else (some (Fl.ex (Fl.nx ())))
def WL (p0 : (List UInt8)) : Option (Bool) :=
 (ZK (Xv p0) 0).bind fun j1=>j1.el (fun s4=>some true) (fun r=>some r)
theorem Jr (w0 : World) (p0 : (List UInt8)) (v0_1 : Value) (hv0_1 : Ro w0 p0 [v0_1]) (r : Bool) (hF : WL p0 = some r) :
  Calls Tryz.prog 91 [v0_1].toArray w0 (Rt w0 (vT r)):=by
 refine ce Tryz.func91 ?_
 intro a hE
 have hM:=M.start w0
 unfold WL at hF
 refine Zb (Zc hE rfl fun a hE=>Ze (wp_seq (Zb (Zd hE rfl fun a hE=>Wm hE rfl Tryz.underlying22 (hM.rd hv0_1) fun a hE=>Zd hE rfl fun a hE=>Ze ?_))))
 obtain ⟨j1,hl2,hF3⟩:=bind_some hF
 refine ZS (fun a w=>∃ s4 : Unit,j1 = Fl.nx s4 ∧ Env 19 a [] ∧ M (Old w0) w0 w []) ?_ ?_
 ·skip
  refine wp_block ?_
  refine ZO (fun (s5 : Int) a w=>Env 19 a [(0,v0_1),(5,v0_1),(6,(vI (p0.length : Int))),(7,vI s5)] ∧ M (Old w0) w0 w []) hl2 ⟨hE.sub ⟨rfl,rfl,rfl,rfl,trivial⟩,hM⟩ ?_
  rintro s5 a w ⟨hE,hM⟩ o8 hs6 hx7
  unfold Xv at hs6
  refine Zb (Zl hE rfl rfl rfl fun a hE=>Ze (wp_seq ?_))
  refine Zr hE rfl ?_ ?_
  ·intro hb9
   have hs6:=Zu hs6 hb9
   refine wp_skip (Zz (wp_seq (wp_block (Zb (Zd hE rfl ?_))))); intro a hE
   obtain ⟨x10,hi12,hs6⟩:=bix hs6
   refine XM hE rfl rfl Tryz.underlying22 ty5 (hM.rd hv0_1) hi12.1 fun a hE=>ZR (v:=(vB x10)) hE rfl ty5 rfl (Y1 (hM.rd hv0_1) hi12.2) fun a hE=>Zc hE rfl fun a hE=>Zc hE rfl fun a hE=>Ze (Zb (Zd hE rfl fun a hE=>Zd hE rfl ?_)); intro a hE
   obtain ⟨l13,e14,hs6⟩:=bind_some hs6
   refine By hE Za ld rfl rfl rfl rfl rfl Tryz.underlying22 ty5 (hM.rd hv0_1) e14 ?_; intro a hE
   have h15 : Rep.sat (Old w0) w0 l13 [(Vh v0_1 ((0 : Int)).toNat (s5).toNat 1)] []:=Hn hv0_1 e14 -- ^
   refine Zd hE rfl ?_; intro a hE
   obtain ⟨r16,e17,hs6⟩:=bind_some hs6
   refine Zo hE rfl (cbm Tryz.func106) (J7 _ l13 (Vh v0_1 ((0 : Int)).toNat (s5).toNat 1) (hM.rdo h15) x10 r16 e17) ?_
   rintro v w a ⟨rfl,hK⟩ hE
   have hM:=hM.keep hK
   refine Zl hE rfl rfl rfl fun a hE=>Ze ?_
   refine Zr hE rfl ?_ ?_
   ·intro hb18
    have hs6:=Zu hs6 hb18
    refine Zb (Zc hE rfl fun a hE=>Ze ?_)
    obtain rfl:=hx7 _ (ois hs6)
    obtain rfl:=Option.some.inj hF3
    exact wp_ret (Y8 (ZI (ZI (Y8 (ZI (ZI (kr1 hE rfl rfl hM.kept)))))))
   ·intro hb18
    have hs6:=Zt hs6 hb18
    refine wp_skip (Z9 (Zz (wp_region_lit (Zl hE rfl rfl rfl fun a hE=>Zd hE rfl fun a hE=>Zh (Zi ?_)))))
    exact ⟨_,(ois hs6),hE.sub ⟨rfl,rfl,rfl,rfl,trivial⟩,hM⟩
  ·intro hb9
   have hs6:=Zt hs6 hb9
   refine wp_exit (Zq (Zq (Yi ?_)))
   obtain rfl:=hx7 _ (ois hs6)
   refine Zi ?_
   exact ⟨(),rfl,hE.sub trivial,hM⟩
 ·skip
  rintro a w ⟨s4,ht,hE,hM⟩
  subst ht
  have hF3:=Qi hF3
  refine Zz (Zb (Zc hE rfl fun a hE=>Ze ?_))
  obtain rfl:=Option.some.inj hF3
  exact wp_ret (kr1 hE rfl rfl hM.kept)
def WB (p0 : (Vector UInt8 16)) (s7 : Int) : Option (Fl Int (Fl Unit Bool)) :=
 if (decide (s7 < 16)) = true then ((ZB p0 s7).bind fun x12=>if (decide (x12 > 15)) = true then (some (Fl.ex (Fl.ex false))) else (some (Fl.nx (wr (s7 + 1))))) else (some (Fl.ex (Fl.nx ())))
def VR (p0 : (Vector UInt8 16)) : Option (Bool) :=
 (ZK (WB p0) 0).bind fun j3=>j3.el (fun s6=>(slc p0.toList (0 : Int) (16 : Int)).bind fun l18=>(WL l18).bind fun r21=>some r21) (fun r=>some r)
theorem H2 (w0 : World) (p0 : (Vector UInt8 16)) (r : Bool) (hF : VR p0 = some r) :
  Calls Tryz.prog 63 [(Value.agg (enc p0).toArray)].toArray w0 (Rt w0 (vT r)):=by
 refine ce Tryz.func63 ?_
 intro a hE
 have hM:=M.start w0
 unfold VR at hF
 refine Zb (ZY (cs:=enc p0) hE hM Za ld rfl rfl fun b1 w a hM hE=>Zc hE rfl fun a hE=>Ze (wp_seq (Zb (Zk hE rfl KE rfl hM.rawAt0 (Flat.len _) fun a hE=>Zd hE rfl fun a hE=>Ze ?_))))
 obtain ⟨j3,hl4,hF5⟩:=bind_some hF
 refine ZS (fun a w=>∃ s6 : Unit,j3 = Fl.nx s6 ∧ Env 14 a [(1,(ptr b1 0))] ∧ M (Old w0) w0 w [raw b1 (enc p0)]) ?_ ?_
 ·skip
  refine wp_block ?_
  refine ZO (fun (s7 : Int) a w=>Env 14 a [(1,(ptr b1 0)),(5,(Value.agg (enc p0).toArray)),(6,vI s7)] ∧ M (Old w0) w0 w [raw b1 (enc p0)]) hl4 ⟨hE.sub ⟨rfl,rfl,rfl,trivial⟩,hM⟩ ?_
  rintro s7 a w ⟨hE,hM⟩ o10 hs8 hx9
  unfold WB at hs8
  refine Zb (Zl hE rfl rfl rfl fun a hE=>Ze (wp_seq ?_))
  refine Zr hE rfl ?_ ?_
  ·intro hb11
   have hs8:=Zu hs8 hb11
   refine wp_skip (Zz (wp_seq (wp_block (Zb ?_))))
   obtain ⟨x12,hi14,hs8⟩:=bvx hs8
   refine QD hE Za ld rfl rfl Tryz.underlying30 ty5 rfl rfl hi14 rfl fun a hE=>Zc hE rfl fun a hE=>Ze (Zb (Zd hE rfl fun a hE=>Zl hE rfl rfl (bB_gtr x12 15) fun a hE=>Ze ?_))
   refine Zr hE rfl ?_ ?_
   ·intro hb15
    have hs8:=Zu hs8 hb15
    refine Zb (Zc hE rfl fun a hE=>Ze ?_)
    obtain rfl:=hx9 _ (ois hs8)
    obtain rfl:=Option.some.inj hF5
    exact wp_ret (Y8 (ZI (ZI (Y8 (ZI (ZI (kr1 hE rfl rfl hM.kept)))))))
   ·intro hb15
    have hs8:=Zt hs8 hb15
    refine wp_skip (Z9 (Zz (wp_region_lit (Zl hE rfl rfl rfl fun a hE=>Zd hE rfl fun a hE=>Zh (Zi ?_)))))
    exact ⟨_,(ois hs8),hE.sub ⟨rfl,rfl,rfl,trivial⟩,hM⟩
  ·intro hb11
   have hs8:=Zt hs8 hb11
   refine wp_exit (Zq (Zq (Yi ?_)))
   obtain rfl:=hx9 _ (ois hs8)
   refine Zi ?_
   exact ⟨(),rfl,hE.sub ⟨rfl,trivial⟩,hM⟩
 ·skip
  rintro a w ⟨s6,ht,hE,hM⟩
  subst ht
  have hF5:=Qi hF5
  refine Zz (Zb ?_)
  obtain ⟨l18,e19,hF5⟩:=bind_some hF5
  have hb20:=BA e19 -- ^
  refine Kw (N:=16) hE Za ld rfl rfl rfl rfl rfl Tryz.underlying30 ty5 hb20 ?_; intro a hE
  obtain ⟨r21,e22,hF5⟩:=bind_some hF5
  refine Zo hE rfl (cbm Tryz.func91) (Jr _ l18 (Vh (.slice (some ⟨b1,0,none⟩) 16 16) ((0 : Int)).toNat ((16 : Int)).toNat 1) (Hn (At.sat hM.rawAt0 (by simp) (by decide)) e19) r21 e22) ?_
  rintro v w a ⟨rfl,hK⟩ hE
  have hM:=hM.keep hK
  refine Zc hE rfl fun a hE=>Ze ?_
  obtain rfl:=Option.some.inj hF5
  exact wp_ret (kr1 hE rfl rfl hM.kept)
def WH (p0 : GCipher) : Option (Bool) :=
 ((UJ p0.Field).bind fun r6=>if r6 = true then ((Wv p0.Box).bind fun r9=>if r9 = true then ((VL p0.Field p0.Mix).bind fun r12=>if r12 = true then ((VR p0.Places).bind fun r15=>if r15 = true then ((Y2 p0.Rounds 1 20).bind fun r18=>some r18) else (some false)) else (some false)) else (some false)) else (some false) : Option (Bool)).bind fun j3=>some j3
theorem Qe (w0 : World) (p0 : GCipher) (r : Bool) (hF : WH p0 = some r) :
  Calls Tryz.prog 37 [(Value.agg (enc p0).toArray)].toArray w0 (Rt w0 (vT r)):=by
 refine ce Tryz.func37 ?_
 intro a hE
 have hM:=M.start w0
 unfold WH at hF
 refine Zb (ZY (cs:=cat [[vI p0.Field],enc p0.Box,enc p0.Mix,enc p0.Places,[vI p0.Rounds]]) hE hM Za ld rfl rfl fun b1 w a hM hE=>Zc hE rfl fun a hE=>Ze ?_)
 obtain ⟨j3,hl4,hF5⟩:=bind_some hF
 refine ZQ (fun a w=>Env 28 a [(2,vT j3)] ∧ M (Old w0) w0 w []) ?_ ?_
 ·skip
  refine wp_region_lit (ZJ hE rfl (QF) fun a hE=>ZR (v:=(vI p0.Field)) hE rfl ty2 rfl (At.cat (pre:=[]) hM.rawAt0 cl0) ?_); intro a hE
  obtain ⟨r6,e7,hl4⟩:=bind_some hl4
  refine Zo hE rfl (cbm Tryz.func60) (Az _ p0.Field r6 e7) ?_
  rintro v w a ⟨rfl,hK⟩ hE
  have hM:=hM.keep hK
  refine Zd hE rfl ?_; intro a hE
  refine YF r6 (fun hb8=>?_) (fun hb8=>?_)
  ·have hl4:=Zu hl4 hb8
   refine ZP hE (Zm hE rfl (lkb rfl hb8)) (by decide) rfl (Qa) fun a hE=>YE hE (Zm hE rfl (lkb rfl hb8)) (by decide) rfl YN rfl (At.cat (pre:=[[vI p0.Field]]) hM.rawAt0 ck) (Flat.len _) ?_; intro a hE
   obtain ⟨r9,e10,hl4⟩:=bind_some hl4
   refine YD hE (Zm hE rfl (lkb rfl hb8)) (by decide) rfl (cbm Tryz.func61) (K8 _ p0.Box r9 e10) ?_
   rintro v w a ⟨rfl,hK⟩ hE
   have hM:=hM.keep hK
   refine ZW hE (lkb rfl hb8) rfl fun a hE=>Zd hE rfl ?_; intro a hE
   refine YF r9 (fun hb11=>?_) (fun hb11=>?_)
   ·have hl4:=Zu hl4 hb11
    refine ZP hE (Zm hE rfl (lkb rfl hb11)) (by decide) rfl (QF) fun a hE=>Z0 (v:=(vI p0.Field)) hE (Zm hE rfl (lkb rfl hb11)) (by decide) rfl ty2 rfl (At.cat (pre:=[]) hM.rawAt0 cl0) fun a hE=>ZP hE (Zm hE rfl (lkb rfl hb11)) (by decide) rfl (Qb) fun a hE=>YE hE (Zm hE rfl (lkb rfl hb11)) (by decide) rfl XV rfl (At.cat (pre:=[[vI p0.Field],enc p0.Box]) hM.rawAt0 ck) (Flat.len _) ?_; intro a hE
    obtain ⟨r12,e13,hl4⟩:=bind_some hl4
    refine YD hE (Zm hE rfl (lkb rfl hb11)) (by decide) rfl (cbm Tryz.func62) (Jq _ p0.Field p0.Mix r12 e13) ?_
    rintro v w a ⟨rfl,hK⟩ hE
    have hM:=hM.keep hK
    refine ZW hE (lkb rfl hb11) rfl fun a hE=>Zd hE rfl ?_; intro a hE
    refine YF r12 (fun hb14=>?_) (fun hb14=>?_)
    ·have hl4:=Zu hl4 hb14
     refine ZP hE (Zm hE rfl (lkb rfl hb14)) (by decide) rfl (Tt) fun a hE=>YE hE (Zm hE rfl (lkb rfl hb14)) (by decide) rfl KE rfl (At.cat (pre:=[[vI p0.Field],enc p0.Box,enc p0.Mix]) hM.rawAt0 ck) (Flat.len _) ?_; intro a hE
     obtain ⟨r15,e16,hl4⟩:=bind_some hl4
     refine YD hE (Zm hE rfl (lkb rfl hb14)) (by decide) rfl (cbm Tryz.func63) (H2 _ p0.Places r15 e16) ?_
     rintro v w a ⟨rfl,hK⟩ hE
     have hM:=hM.keep hK
     refine ZW hE (lkb rfl hb14) rfl fun a hE=>Zd hE rfl ?_; intro a hE
     refine YF r15 (fun hb17=>?_) (fun hb17=>?_)
     ·have hl4:=Zu hl4 hb17
      refine ZP hE (Zm hE rfl (lkb rfl hb17)) (by decide) rfl (Qx) fun a hE=>Z0 (v:=(vI p0.Rounds)) hE (Zm hE rfl (lkb rfl hb17)) (by decide) rfl ty2 rfl (At.cat (pre:=[[vI p0.Field],enc p0.Box,enc p0.Mix,enc p0.Places]) hM.rawAt0 ck) ?_; intro a hE
      obtain ⟨r18,e19,hl4⟩:=bind_some hl4
      refine YD hE (Zm hE rfl (lkb rfl hb17)) (by decide) rfl yL (W5 _ p0.Rounds 1 20 r18 e19) ?_
      rintro v w a ⟨rfl,hK⟩ hE
      have hM:=hM.keep hK
      refine ZW hE (lkb rfl hb17) rfl fun a hE=>Zc hE rfl fun a hE=>Zh ?_
      obtain rfl:=Option.some.inj hl4
      refine Zi ?_
      have hM:=M.fst (l:=[]) hM
      exact ⟨hE.sub ⟨rfl,trivial⟩,hM⟩
     ·have hl4:=Zt hl4 hb17
      refine Zp hE rfl (lkb rfl hb17) rfl (by decide) fun a hE=>Zp hE rfl (lkb rfl hb17) rfl (by decide) fun a hE=>Zp hE rfl (lkb rfl hb17) rfl (by decide) fun a hE=>Z7 hE (lkb rfl hb17) rfl fun a hE=>Zc hE rfl fun a hE=>Zh ?_
      obtain rfl:=Option.some.inj hl4
      refine Zi ?_
      have hM:=M.fst (l:=[]) hM
      exact ⟨hE.sub ⟨rfl,trivial⟩,hM⟩
    ·have hl4:=Zt hl4 hb14
     refine Zp hE rfl (lkb rfl hb14) rfl (by decide) fun a hE=>Zp hE rfl (lkb rfl hb14) rfl (by decide) fun a hE=>Zp hE rfl (lkb rfl hb14) rfl (by decide) fun a hE=>Z7 hE (lkb rfl hb14) rfl fun a hE=>Zd hE rfl fun a hE=>Zp hE rfl rfl rfl (by decide) fun a hE=>Zp hE rfl rfl rfl (by decide) fun a hE=>Zp hE rfl rfl rfl (by decide) fun a hE=>Z7 hE rfl rfl fun a hE=>Zc hE rfl fun a hE=>Zh ?_
     obtain rfl:=Option.some.inj hl4
     refine Zi ?_
     have hM:=M.fst (l:=[]) hM
     exact ⟨hE.sub ⟨rfl,trivial⟩,hM⟩
   ·have hl4:=Zt hl4 hb11
    refine Zp hE rfl (lkb rfl hb11) rfl (by decide) fun a hE=>Zp hE rfl (lkb rfl hb11) rfl (by decide) fun a hE=>Zp hE rfl (lkb rfl hb11) rfl (by decide) fun a hE=>Zp hE rfl (lkb rfl hb11) rfl (by decide) fun a hE=>Zp hE rfl (lkb rfl hb11) rfl (by decide) fun a hE=>Z7 hE (lkb rfl hb11) rfl fun a hE=>Zd hE rfl fun a hE=>Zp hE rfl rfl rfl (by decide) fun a hE=>Zp hE rfl rfl rfl (by decide) fun a hE=>Zp hE rfl rfl rfl (by decide) fun a hE=>Z7 hE rfl rfl fun a hE=>Zd hE rfl ?_; intro a hE
    refine Zp hE rfl rfl rfl (by decide) fun a hE=>Zp hE rfl rfl rfl (by decide) fun a hE=>Zp hE rfl rfl rfl (by decide) fun a hE=>Z7 hE rfl rfl fun a hE=>Zc hE rfl fun a hE=>Zh ?_
    obtain rfl:=Option.some.inj hl4
    refine Zi ?_
    have hM:=M.fst (l:=[]) hM
    exact ⟨hE.sub ⟨rfl,trivial⟩,hM⟩
  ·have hl4:=Zt hl4 hb8
   refine Zp hE rfl (lkb rfl hb8) rfl (by decide) fun a hE=>Zp hE rfl (lkb rfl hb8) rfl (by decide) fun a hE=>Zp hE rfl (lkb rfl hb8) rfl (by decide) fun a hE=>Z7 hE (lkb rfl hb8) rfl fun a hE=>Zd hE rfl fun a hE=>Zp hE rfl rfl rfl (by decide) fun a hE=>Zp hE rfl rfl rfl (by decide) fun a hE=>Zp hE rfl rfl rfl (by decide) fun a hE=>Zp hE rfl rfl rfl (by decide) fun a hE=>Zp hE rfl rfl rfl (by decide) fun a hE=>Z7 hE rfl rfl fun a hE=>Zd hE rfl ?_; intro a hE
   refine Zp hE rfl rfl rfl (by decide) fun a hE=>Zp hE rfl rfl rfl (by decide) fun a hE=>Zp hE rfl rfl rfl (by decide) fun a hE=>Z7 hE rfl rfl fun a hE=>Zd hE rfl fun a hE=>Zp hE rfl rfl rfl (by decide) fun a hE=>Zp hE rfl rfl rfl (by decide) fun a hE=>Zp hE rfl rfl rfl (by decide) fun a hE=>Z7 hE rfl rfl fun a hE=>Zc hE rfl fun a hE=>Zh ?_
   obtain rfl:=Option.some.inj hl4
   refine Zi ?_
   have hM:=M.fst (l:=[]) hM
   exact ⟨hE.sub ⟨rfl,trivial⟩,hM⟩
 ·skip
  rintro a w ⟨hE,hM⟩
  obtain rfl:=Option.some.inj hF5
  exact wp_ret (kr1 hE rfl rfl hM.kept)
def Uq (p0 : GCipher) (p1 : Int) : Option (Int) :=
 (WH p0).bind fun r3=>if (!r3) = true then (some 1) else ((Y2 p1 0 p0.Rounds).bind fun r6=>if (!r6) = true then (some 2) else (some 0))
theorem Hv (w0 : World) (p0 : GCipher) (p1 : Int) (r : Int) (hF : Uq p0 p1 = some r) :
  Calls Tryz.prog 57 [(Value.agg (enc p0).toArray),vI p1].toArray w0 (Rt w0 (vI r)):=by
 refine ce Tryz.func57 ?_
 intro a hE
 have hM:=M.start w0
 unfold Uq at hF
 refine Zb (ZY (cs:=cat [[vI p0.Field],enc p0.Box,enc p0.Mix,enc p0.Places,[vI p0.Rounds]]) hE hM Za ld rfl rfl fun b1 w a hM hE=>Zc hE rfl fun a hE=>Ze (wp_seq (wp_block (Zb (Zk hE rfl ZT rfl hM.rawAt0 cq ?_))))); intro a hE
 obtain ⟨r3,e4,hF⟩:=bind_some hF
 refine Zo hE rfl cb37 (Qe _ p0 r3 e4) ?_
 rintro v w a ⟨rfl,hK⟩ hE
 have hM:=hM.keep hK
 refine TH hE rfl fun a hE=>Zc hE rfl fun a hE=>Ze ?_
 refine Zr hE rfl ?_ ?_
 ·intro hb5
  have hF:=Zu hF hb5
  refine Zb (Zc hE rfl fun a hE=>Ze ?_)
  obtain rfl:=Option.some.inj hF
  exact wp_ret (Y8 (ZI (kr1 hE rfl rfl hM.kept)))
 ·intro hb5
  have hF:=Zt hF hb5
  refine Zb (Zd hE rfl fun a hE=>ZJ hE rfl (Qx) fun a hE=>ZR (v:=(vI p0.Rounds)) hE rfl ty2 rfl (At.cat (pre:=[[vI p0.Field],enc p0.Box,enc p0.Mix,enc p0.Places]) hM.rawAt0 ck) ?_); intro a hE
  obtain ⟨r6,e7,hF⟩:=bind_some hF
  refine Zo hE rfl yL (W5 _ p1 0 p0.Rounds r6 e7) ?_
  rintro v w a ⟨rfl,hK⟩ hE
  have hM:=hM.keep hK
  refine TH hE rfl fun a hE=>Zc hE rfl fun a hE=>Ze ?_
  refine Zr hE rfl ?_ ?_
  ·intro hb8
   have hF:=Zu hF hb8
   refine Zb (Zc hE rfl fun a hE=>Ze ?_)
   obtain rfl:=Option.some.inj hF
   exact wp_ret (Y8 (ZI (kr1 hE rfl rfl hM.kept)))
  ·intro hb8
   have hF:=Zt hF hb8
   refine wp_skip (Z9 (Zz (Zb (Zc hE rfl fun a hE=>Ze ?_))))
   obtain rfl:=Option.some.inj hF
   exact wp_ret (kr1 hE rfl rfl hM.kept)
def Wq (p0 : Int) : Option (Bool) :=
 (Y2 p0 0 15).bind fun r1=>some r1
theorem QH (w0 : World) (p0 : Int) (r : Bool) (hF : Wq p0 = some r) :
  Calls Tryz.prog 40 [vI p0].toArray w0 (Rt w0 (vT r)):=by
 refine ce Tryz.func40 ?_
 intro a hE
 have hM:=M.start w0
 unfold Wq at hF
 refine Zb (Zc hE rfl fun a hE=>Ze (Zb (Zd hE rfl ?_))); intro a hE
 obtain ⟨r1,e2,hF⟩:=bind_some hF
 refine Zo hE rfl yL (W5 _ p0 0 15 r1 e2) ?_
 rintro v w a ⟨rfl,hK⟩ hE
 have hM:=hM.keep hK
 refine Zc hE rfl fun a hE=>Ze ?_
 obtain rfl:=Option.some.inj hF
 exact wp_ret (kr1 hE rfl rfl hM.kept)
def XX (p0 : GCipher) (p1 : Int) (p2 : Int) : Option (Int) :=
 (Uq p0 p2).bind fun r3=>if (r3 != 0) = true then (some r3) else ((Wq p1).bind fun r6=>if (!r6) = true then (some 2) else (some 0))
theorem Tb (w0 : World) (p0 : GCipher) (p1 : Int) (p2 : Int) (r : Int) (hF : XX p0 p1 p2 = some r) :
  Calls Tryz.prog 29 [(Value.agg (enc p0).toArray),vI p1,vI p2].toArray w0 (Rt w0 (vI r)):=by
 refine ce Tryz.func29 ?_
 intro a hE
 have hM:=M.start w0
 unfold XX at hF
 refine Zb (ZY (cs:=cat [[vI p0.Field],enc p0.Box,enc p0.Mix,enc p0.Places,[vI p0.Rounds]]) hE hM Za ld rfl rfl fun b1 w a hM hE=>Zc hE rfl fun a hE=>Ze (wp_seq (Zb (Zk hE rfl ZT rfl hM.rawAt0 cq fun a hE=>Zd hE rfl ?_)))); intro a hE
 obtain ⟨r3,e4,hF⟩:=bind_some hF
 refine Zo hE rfl (cbm Tryz.func57) (Hv _ p0 p2 r3 e4) ?_
 rintro v w a ⟨rfl,hK⟩ hE
 have hM:=hM.keep hK
 refine Zc hE rfl fun a hE=>Ze (wp_block (Zb (Zd hE rfl fun a hE=>Zl hE rfl rfl rfl fun a hE=>Zc hE rfl fun a hE=>Ze ?_)))
 refine Zr hE rfl ?_ ?_
 ·intro hb5
  have hF:=Zu hF hb5
  refine Zb (Zd hE rfl fun a hE=>Zc hE rfl fun a hE=>Ze ?_)
  obtain rfl:=Option.some.inj hF
  exact wp_ret (Y8 (ZI (kr1 hE rfl rfl hM.kept)))
 ·intro hb5
  have hF:=Zt hF hb5
  refine Zb (Zd hE rfl ?_); intro a hE
  obtain ⟨r6,e7,hF⟩:=bind_some hF
  refine Zo hE rfl cb40 (QH _ p1 r6 e7) ?_
  rintro v w a ⟨rfl,hK⟩ hE
  have hM:=hM.keep hK
  refine TH hE rfl fun a hE=>Zc hE rfl fun a hE=>Ze ?_
  refine Zr hE rfl ?_ ?_
  ·intro hb8
   have hF:=Zu hF hb8
   refine Zb (Zc hE rfl fun a hE=>Ze ?_)
   obtain rfl:=Option.some.inj hF
   exact wp_ret (Y8 (ZI (kr1 hE rfl rfl hM.kept)))
  ·intro hb8
   have hF:=Zt hF hb8
   refine wp_skip (Z9 (Zz (Zb (Zc hE rfl fun a hE=>Ze ?_))))
   obtain rfl:=Option.some.inj hF
   exact wp_ret (kr1 hE rfl rfl hM.kept)
def XP (p0 : (Vector UInt8 256)) (s10 : (Vector UInt8 256) × Int) : Option (Fl ((Vector UInt8 256) × Int) (Vector UInt8 256)) :=
 if (decide (s10.2 < 256)) = true then ((ZB p0 s10.2).bind fun x15=>(ZB s10.1 (bI x15)).bind fun x19=>some (Fl.nx ((s10.1.setIfInBounds ((bI x15)).toNat (ZH s10.2)),wr (s10.2 + 1)))) else (some (Fl.ex s10.1))
def W8 (p0 : (Vector UInt8 256)) : Option ((Vector UInt8 256)) :=
 (ZK (XP p0) ((Vector.replicate 256 (0 : UInt8)),0)).bind fun j7=>some j7
theorem JL (w0 : World) (p0 : (Vector UInt8 256)) (r : (Vector UInt8 256)) (hF : W8 p0 = some r) :
  Calls Tryz.prog 65 [(Value.agg (enc p0).toArray)].toArray w0 (Rt w0 (Value.agg (enc r).toArray)):=by
 refine ce Tryz.func65 ?_
 intro a hE
 have hM:=M.start w0
 unfold W8 at hF
 refine Zb (ZY (cs:=enc p0) hE hM Za ld rfl rfl fun b1 w a hM hE=>Zs hE hM YN fun b3 w a hM hE=>Ze (Zb (Z8 (parts:=[]) (vs:=[]) (cs:=enc (Vector.replicate 256 (0 : UInt8))) hE Za ld rfl rfl YN rfl ty5 ZZ fun a hE=>Zs hE hM YN fun b5 w a hM hE=>Zg (seg:=enc (Vector.replicate 256 (0 : UInt8))) (cs':=enc (Vector.replicate 256 (0 : UInt8))) hE hM Za rfl rfl rfl YN (Flat.len _) (zle flq) (Flat.cell _) (Zf flq) fun w a hM hE=>Ze (wp_seq (Zb (Zk hE rfl YN rfl hM.rawAt2 (Flat.len _) fun a hE=>Zd hE rfl fun a hE=>Ze ?_))))))
 obtain ⟨j7,hl8,hF9⟩:=bind_some hF
 refine ZS (fun a w=>Env 18 a [(2,(ptr b3 0)),(3,(ptr b5 0))] ∧ M (Old w0) w0 w [raw b5 (enc j7),raw b3 (enc (Vector.replicate 256 (0 : UInt8)))]) ?_ ?_
 ·skip
  refine wp_block ?_
  have hM:=M.fst (l:=[_,_]) hM.pull1.pull1
  refine ZO (fun (s10 : (Vector UInt8 256) × Int) a w=>Env 18 a [(2,(ptr b3 0)),(3,(ptr b5 0)),(7,(Value.agg (enc p0).toArray)),(8,vI s10.2)] ∧ M (Old w0) w0 w [raw b5 (enc s10.1),raw b3 (enc (Vector.replicate 256 (0 : UInt8)))]) hl8 ⟨hE.sub ⟨rfl,rfl,rfl,rfl,trivial⟩,hM⟩ ?_
  rintro s10 a w ⟨hE,hM⟩ o13 hs11 hx12
  unfold XP at hs11
  refine Zb (Zl hE rfl rfl rfl fun a hE=>Ze (wp_seq ?_))
  refine Zr hE rfl ?_ ?_
  ·intro hb14
   have hs11:=Zu hs11 hb14
   refine wp_skip (Zz (wp_seq (wp_block (Zb (Zd hE rfl ?_))))); intro a hE
   obtain ⟨x15,hi17,hs11⟩:=bvx hs11
   refine QD hE Za ld rfl rfl Tryz.underlying25 ty5 rfl rfl hi17 rfl fun a hE=>Zc hE rfl fun a hE=>Zc hE rfl fun a hE=>Ze (wp_region_lit (Zd hE rfl fun a hE=>Zd hE rfl fun a hE=>YX hE Za ld rfl Tryz.underlying3 Tryz.underlying5 ?_)); intro a hE
   obtain ⟨x19,hi18,hs11⟩:=bvx hs11
   refine Zw hE rfl rfl Tryz.underlying25 ty5 hi18.1 fun a hE=>Zg (seg:=[(vB (ZH s10.2))]) (cs':=enc (s10.1.setIfInBounds ((bI x15)).toNat (ZH s10.2))) hE hM Za rfl rfl rfl ty5 rfl (ZE (v:=s10.1) (x:=ZH s10.2) hi18.1) (Flat.cell (ZH s10.2 : UInt8)) (Zy (v:=s10.1) (x:=ZH s10.2) hi18.1) fun w a hM hE=>Zh (Z9 (Zz (wp_region_lit (Zl hE rfl rfl rfl fun a hE=>Zd hE rfl fun a hE=>Zh (Zi ?_)))))
   exact ⟨_,(ois hs11),hE.sub ⟨rfl,rfl,rfl,rfl,trivial⟩,hM⟩
  ·intro hb14
   have hs11:=Zt hs11 hb14
   refine wp_exit (Zq (Zq (Yi ?_)))
   obtain rfl:=hx12 _ (ois hs11)
   refine Zi ?_
   exact ⟨hE.sub ⟨rfl,rfl,trivial⟩,hM⟩
 ·skip
  rintro a w ⟨hE,hM⟩
  refine Zz (Zb (Zk hE rfl YN rfl hM.rawAt0 (Flat.len _) ?_)); intro a hE
  have hM:=hM.pull1
  refine Zg (seg:=enc j7) (cs':=enc j7) hE hM Za rfl rfl rfl YN (Flat.len _) (zle flq) (Flat.cell _) (Zf flq) fun w a hM hE=>Ze ?_
  obtain rfl:=Option.some.inj hF9
  have hq22 : ZX Tryz.prog _ _ (.cell 2 25) _:=ZN hE rfl YN rfl hM.rawAt0 (Flat.len _) rfl
  exact wp_ret (Z2 hE rfl hq22 ⟨_,rfl,rfl,hM.kept⟩)
def Y9 (p0 : (Vector UInt8 16)) (s10 : (Vector UInt8 16) × Int) : Option (Fl ((Vector UInt8 16) × Int) (Vector UInt8 16)) :=
 if (decide (s10.2 < 16)) = true then ((ZB p0 s10.2).bind fun x15=>(ZB s10.1 (bI x15)).bind fun x19=>some (Fl.nx ((s10.1.setIfInBounds ((bI x15)).toNat (ZH s10.2)),wr (s10.2 + 1)))) else (some (Fl.ex s10.1))
def X5 (p0 : (Vector UInt8 16)) : Option ((Vector UInt8 16)) :=
 (ZK (Y9 p0) ((Vector.replicate 16 (0 : UInt8)),0)).bind fun j7=>some j7
theorem KT (w0 : World) (p0 : (Vector UInt8 16)) (r : (Vector UInt8 16)) (hF : X5 p0 = some r) :
  Calls Tryz.prog 66 [(Value.agg (enc p0).toArray)].toArray w0 (Rt w0 (Value.agg (enc r).toArray)):=by
 refine ce Tryz.func66 ?_
 intro a hE
 have hM:=M.start w0
 unfold X5 at hF
 refine Zb (ZY (cs:=enc p0) hE hM Za ld rfl rfl fun b1 w a hM hE=>Zs hE hM KE fun b3 w a hM hE=>Ze (Zb (Z8 (parts:=[]) (vs:=[]) (cs:=enc (Vector.replicate 16 (0 : UInt8))) hE Za ld rfl rfl KE rfl ty5 ZZ fun a hE=>Zs hE hM KE fun b5 w a hM hE=>Zg (seg:=enc (Vector.replicate 16 (0 : UInt8))) (cs':=enc (Vector.replicate 16 (0 : UInt8))) hE hM Za rfl rfl rfl KE (Flat.len _) (zle flq) (Flat.cell _) (Zf flq) fun w a hM hE=>Ze (wp_seq (Zb (Zk hE rfl KE rfl hM.rawAt2 (Flat.len _) fun a hE=>Zd hE rfl fun a hE=>Ze ?_))))))
 obtain ⟨j7,hl8,hF9⟩:=bind_some hF
 refine ZS (fun a w=>Env 18 a [(2,(ptr b3 0)),(3,(ptr b5 0))] ∧ M (Old w0) w0 w [raw b5 (enc j7),raw b3 (enc (Vector.replicate 16 (0 : UInt8)))]) ?_ ?_
 ·skip
  refine wp_block ?_
  have hM:=M.fst (l:=[_,_]) hM.pull1.pull1
  refine ZO (fun (s10 : (Vector UInt8 16) × Int) a w=>Env 18 a [(2,(ptr b3 0)),(3,(ptr b5 0)),(7,(Value.agg (enc p0).toArray)),(8,vI s10.2)] ∧ M (Old w0) w0 w [raw b5 (enc s10.1),raw b3 (enc (Vector.replicate 16 (0 : UInt8)))]) hl8 ⟨hE.sub ⟨rfl,rfl,rfl,rfl,trivial⟩,hM⟩ ?_
  rintro s10 a w ⟨hE,hM⟩ o13 hs11 hx12
  unfold Y9 at hs11
  refine Zb (Zl hE rfl rfl rfl fun a hE=>Ze (wp_seq ?_))
  refine Zr hE rfl ?_ ?_
  ·intro hb14
   have hs11:=Zu hs11 hb14
   refine wp_skip (Zz (wp_seq (wp_block (Zb (Zd hE rfl ?_))))); intro a hE
   obtain ⟨x15,hi17,hs11⟩:=bvx hs11
   refine QD hE Za ld rfl rfl Tryz.underlying30 ty5 rfl rfl hi17 rfl fun a hE=>Zc hE rfl fun a hE=>Zc hE rfl fun a hE=>Ze (wp_region_lit (Zd hE rfl fun a hE=>Zd hE rfl fun a hE=>YX hE Za ld rfl Tryz.underlying3 Tryz.underlying5 ?_)); intro a hE
   obtain ⟨x19,hi18,hs11⟩:=bvx hs11
   refine Zw hE rfl rfl Tryz.underlying30 ty5 hi18.1 fun a hE=>Zg (seg:=[(vB (ZH s10.2))]) (cs':=enc (s10.1.setIfInBounds ((bI x15)).toNat (ZH s10.2))) hE hM Za rfl rfl rfl ty5 rfl (ZE (v:=s10.1) (x:=ZH s10.2) hi18.1) (Flat.cell (ZH s10.2 : UInt8)) (Zy (v:=s10.1) (x:=ZH s10.2) hi18.1) fun w a hM hE=>Zh (Z9 (Zz (wp_region_lit (Zl hE rfl rfl rfl fun a hE=>Zd hE rfl fun a hE=>Zh (Zi ?_)))))
   exact ⟨_,(ois hs11),hE.sub ⟨rfl,rfl,rfl,rfl,trivial⟩,hM⟩
  ·intro hb14
   have hs11:=Zt hs11 hb14
   refine wp_exit (Zq (Zq (Yi ?_)))
   obtain rfl:=hx12 _ (ois hs11)
   refine Zi ?_
   exact ⟨hE.sub ⟨rfl,rfl,trivial⟩,hM⟩
 ·skip
  rintro a w ⟨hE,hM⟩
  refine Zz (Zb (Zk hE rfl KE rfl hM.rawAt0 (Flat.len _) ?_)); intro a hE
  have hM:=hM.pull1
  refine Zg (seg:=enc j7) (cs':=enc j7) hE hM Za rfl rfl rfl KE (Flat.len _) (zle flq) (Flat.cell _) (Zf flq) fun w a hM hE=>Ze ?_
  obtain rfl:=Option.some.inj hF9
  have hq22 : ZX Tryz.prog _ _ (.cell 2 30) _:=ZN hE rfl KE rfl hM.rawAt0 (Flat.len _) rfl
  exact wp_ret (Z2 hE rfl hq22 ⟨_,rfl,rfl,hM.kept⟩)
def W0 (s8 : (Vector (Vector (Vector UInt8 256) 4) 4) × Int) (s19 : (Vector (Vector (Vector UInt8 256) 4) 4) × Int) (s30 : (Vector (Vector (Vector UInt8 256) 4) 4) × Int) (r35 : UInt8) (s40 : (Vector (Vector (Vector UInt8 256) 4) 4) × Int) : Option (Fl ((Vector (Vector (Vector UInt8 256) 4) 4) × Int) (Vector (Vector (Vector UInt8 256) 4) 4)) :=
 if (decide (s40.2 < s30.2)) = true then ((ZB s40.1 s8.2).bind fun x47=>(ZB x47 s19.2).bind fun x50=>(ZB x50 s40.2).bind fun x53=>(ZB s40.1 s8.2).bind fun x56=>(ZB x56 s19.2).bind fun x59=>(ZB x59 (orI s30.2 s40.2)).bind fun x62=>some (Fl.nx ((s40.1.setIfInBounds (s8.2).toNat (x56.setIfInBounds (s19.2).toNat (x59.setIfInBounds ((orI s30.2 s40.2)).toNat (r35 ^^^ x53)))),wr (s40.2 + 1)))) else (some (Fl.ex s40.1))
def W3 (p0 : Int) (s8 : (Vector (Vector (Vector UInt8 256) 4) 4) × Int) (s19 : (Vector (Vector (Vector UInt8 256) 4) 4) × Int) (x24 : UInt8) (s30 : (Vector (Vector (Vector UInt8 256) 4) 4) × Int) : Option (Fl ((Vector (Vector (Vector UInt8 256) 4) 4) × Int) (Vector (Vector (Vector UInt8 256) 4) 4)) :=
 if (decide (s30.2 < 256)) = true then ((Yd p0 x24 (ZH s30.2)).bind fun r35=>(ZK (W0 s8 s19 s30 r35) (s30.1,0)).bind fun j37=>some (Fl.nx (j37,wr (s30.2 * 2)))) else (some (Fl.ex s30.1))
def WY (p0 : Int) (s8 : (Vector (Vector (Vector UInt8 256) 4) 4) × Int) (x14 : (Vector UInt8 4)) (s19 : (Vector (Vector (Vector UInt8 256) 4) 4) × Int) : Option (Fl ((Vector (Vector (Vector UInt8 256) 4) 4) × Int) (Vector (Vector (Vector UInt8 256) 4) 4)) :=
 if (decide (s19.2 < 4)) = true then ((ZB x14 s19.2).bind fun x24=>(ZK (W3 p0 s8 s19 x24) (s19.1,1)).bind fun j27=>some (Fl.nx (j27,wr (s19.2 + 1)))) else (some (Fl.ex s19.1))
def W1 (p0 : Int) (p1 : (Vector (Vector UInt8 4) 4)) (s8 : (Vector (Vector (Vector UInt8 256) 4) 4) × Int) : Option (Fl ((Vector (Vector (Vector UInt8 256) 4) 4) × Int) (Vector (Vector (Vector UInt8 256) 4) 4)) :=
 if (decide (s8.2 < 4)) = true then ((ZB p1 s8.2).bind fun x14=>(ZK (WY p0 s8 x14) (s8.1,0)).bind fun j16=>some (Fl.nx (j16,wr (s8.2 + 1)))) else (some (Fl.ex s8.1))
def Vj (p0 : Int) (p1 : (Vector (Vector UInt8 4) 4)) : Option ((Ref (Vector (Vector (Vector UInt8 256) 4) 4))) :=
 (ZK (W1 p0 p1) ((Vector.replicate 4 (Vector.replicate 4 (Vector.replicate 256 (0 : UInt8)))),0)).bind fun j5=>some (⟨j5⟩ : (Ref (Vector (Vector (Vector UInt8 256) 4) 4)))
theorem KN (w0 : World) (p0 : Int) (p1 : (Vector (Vector UInt8 4) 4)) (r : (Ref (Vector (Vector (Vector UInt8 256) 4) 4))) (hF : Vj p0 p1 = some r) :
  Calls Tryz.prog 67 [vI p0,(Value.agg (enc p1).toArray)].toArray w0 (fun en w'=>∃ v,en = .returned v ∧ (∃ (y1 : Value),v = y1 ∧ Fr w0 w' [own NoB (r : (Ref (Vector (Vector (Vector UInt8 256) 4) 4))) [y1]] ∧ Kept (Old w0) w0 w')):=by
 refine ce Tryz.func67 ?_
 intro a hE
 have hM:=M.start w0
 unfold Vj at hF
 refine Zb (ZY (cs:=enc p1) hE hM Za ld rfl rfl fun b1 w a hM hE=>Zc hE rfl fun a hE=>Ze (Zb (Z8 (parts:=[]) (vs:=[]) (cs:=enc (Vector.replicate 4 (Vector.replicate 4 (Vector.replicate 256 (0 : UInt8))))) hE Za ld rfl rfl ty130 rfl B4 ZZ fun a hE=>ZY (cs:=enc (Vector.replicate 4 (Vector.replicate 4 (Vector.replicate 256 (0 : UInt8))))) hE hM Za ld rfl rfl fun b3 w a hM hE=>Zc hE rfl fun a hE=>Ze (wp_seq (Zb (Zd hE rfl fun a hE=>Ze ?_))))))
 obtain ⟨j5,hl6,hF7⟩:=bind_some hF
 refine ZS (fun a w=>Env 62 a [(5,(ptr b3 0))] ∧ M (Old w0) w0 w [raw b3 (enc j5)]) ?_ ?_
 ·skip
  refine wp_block ?_
  refine ZO (fun (s8 : (Vector (Vector (Vector UInt8 256) 4) 4) × Int) a w=>Env 62 a [(0,vI p0),(3,(ptr b1 0)),(5,(ptr b3 0)),(14,vI s8.2)] ∧ M (Old w0) w0 w [raw b3 (enc s8.1),raw b1 (enc p1)]) hl6 ⟨hE.sub ⟨rfl,rfl,rfl,rfl,trivial⟩,hM⟩ ?_
  rintro s8 a w ⟨hE,hM⟩ o11 hs9 hx10
  unfold W1 at hs9
  refine Zb (Zl hE rfl rfl rfl fun a hE=>Ze (wp_seq ?_))
  refine Zr hE rfl ?_ ?_
  ·intro hb12
   have hs9:=Zu hs9 hb12
   refine wp_skip (Zz (wp_seq (wp_block (Zb (Zd hE rfl fun a hE=>Zc hE rfl fun a hE=>Ze (Zb (Zd hE rfl ?_))))))); intro a hE
   obtain ⟨x14,hi13,hs9⟩:=bvx hs9
   refine Zw hE rfl rfl Tryz.underlying28 Yq hi13.1 fun a hE=>Zk hE rfl Yq rfl (At.vec hM.rawAt1 hi13.2) (Flat.len _) fun a hE=>Zd hE rfl fun a hE=>Ze ?_
   obtain ⟨j16,hl17,hF18⟩:=bind_some hs9
   refine ZS (fun a w=>Env 62 a [(0,vI p0),(3,(ptr b1 0)),(5,(ptr b3 0)),(14,vI s8.2)] ∧ M (Old w0) w0 w [raw b3 (enc j16),raw b1 (enc p1)]) ?_ ?_
   ·skip
    refine wp_block ?_
    refine ZO (fun (s19 : (Vector (Vector (Vector UInt8 256) 4) 4) × Int) a w=>Env 62 a [(0,vI p0),(3,(ptr b1 0)),(5,(ptr b3 0)),(6,vI s8.2),(14,vI s8.2),(19,(Value.agg (enc x14).toArray)),(20,vI s19.2)] ∧ M (Old w0) w0 w [raw b3 (enc s19.1),raw b1 (enc p1)]) hl17 ⟨hE.sub ⟨rfl,rfl,rfl,rfl,rfl,rfl,rfl,trivial⟩,hM⟩ ?_
    rintro s19 a w ⟨hE,hM⟩ o22 hs20 hx21
    unfold WY at hs20
    refine Zb (Zl hE rfl rfl rfl fun a hE=>Ze (wp_seq ?_))
    refine Zr hE rfl ?_ ?_
    ·intro hb23
     have hs20:=Zu hs20 hb23
     refine wp_skip (Zz (wp_seq (wp_block (Zb (Zd hE rfl ?_))))); intro a hE
     obtain ⟨x24,hi26,hs20⟩:=bvx hs20
     refine QD hE Za ld rfl rfl Tryz.underlying26 ty5 rfl rfl hi26 rfl fun a hE=>Zc hE rfl fun a hE=>Zc hE rfl fun a hE=>Ze (Zb (Zc hE rfl fun a hE=>Ze ?_))
     obtain ⟨j27,hl28,hF29⟩:=bind_some hs20
     refine ZS (fun a w=>Env 62 a [(0,vI p0),(3,(ptr b1 0)),(5,(ptr b3 0)),(6,vI s8.2),(14,vI s8.2),(19,(Value.agg (enc x14).toArray)),(20,vI s19.2)] ∧ M (Old w0) w0 w [raw b3 (enc j27),raw b1 (enc p1)]) ?_ ?_
     ·skip
      refine wp_block ?_
      refine ZO (fun (s30 : (Vector (Vector (Vector UInt8 256) 4) 4) × Int) a w=>Env 62 a [(0,vI p0),(3,(ptr b1 0)),(5,(ptr b3 0)),(6,vI s8.2),(7,vI s19.2),(8,vB x24),(9,vI s30.2),(14,vI s8.2),(19,(Value.agg (enc x14).toArray)),(20,vI s19.2)] ∧ M (Old w0) w0 w [raw b3 (enc s30.1),raw b1 (enc p1)]) hl28 ⟨hE.sub ⟨rfl,rfl,rfl,rfl,rfl,rfl,rfl,rfl,rfl,rfl,trivial⟩,hM⟩ ?_
      rintro s30 a w ⟨hE,hM⟩ o33 hs31 hx32
      unfold W3 at hs31
      refine wp_seq (Zb (Zd hE rfl fun a hE=>Zl hE rfl rfl rfl fun a hE=>Ze ?_))
      refine Zr hE rfl ?_ ?_
      ·intro hb34
       have hs31:=Zu hs31 hb34
       refine wp_skip (Zz (wp_seq (wp_block (Zb (Zd hE rfl fun a hE=>Zd hE rfl fun a hE=>Zd hE rfl fun a hE=>YX hE Za ld rfl Tryz.underlying3 Tryz.underlying5 ?_))))); intro a hE
       obtain ⟨r35,e36,hs31⟩:=bind_some hs31
       refine Zo hE rfl yo (Y3 _ p0 x24 (ZH s30.2) r35 e36) ?_
       rintro v w a ⟨rfl,hK⟩ hE
       have hM:=hM.keep hK
       refine Zc hE rfl fun a hE=>Ze (Zb (Zd hE rfl fun a hE=>Zd hE rfl fun a hE=>Ze ?_))
       obtain ⟨j37,hl38,hF39⟩:=bind_some hs31
       refine ZS (fun a w=>Env 62 a [(0,vI p0),(3,(ptr b1 0)),(5,(ptr b3 0)),(6,vI s8.2),(7,vI s19.2),(8,vB x24),(9,vI s30.2),(14,vI s8.2),(19,(Value.agg (enc x14).toArray)),(20,vI s19.2)] ∧ M (Old w0) w0 w [raw b3 (enc j37),raw b1 (enc p1)]) ?_ ?_
       ·skip
        refine wp_block ?_
        refine ZO (fun (s40 : (Vector (Vector (Vector UInt8 256) 4) 4) × Int) a w=>Env 62 a [(0,vI p0),(3,(ptr b1 0)),(5,(ptr b3 0)),(6,vI s8.2),(7,vI s19.2),(8,vB x24),(9,vI s30.2),(10,vB r35),(14,vI s8.2),(19,(Value.agg (enc x14).toArray)),(20,vI s19.2),(33,vI s30.2),(34,vI s40.2)] ∧ M (Old w0) w0 w [raw b3 (enc s40.1),raw b1 (enc p1)]) hl38 ⟨hE.sub ⟨rfl,rfl,rfl,rfl,rfl,rfl,rfl,rfl,rfl,rfl,rfl,rfl,rfl,trivial⟩,hM⟩ ?_
        rintro s40 a w ⟨hE,hM⟩ o43 hs41 hx42
        unfold W0 at hs41
        refine Zb (Zl hE rfl rfl rfl fun a hE=>Ze (wp_seq ?_))
        refine Zr hE rfl ?_ ?_
        ·intro hb44
         have hs41:=Zu hs41 hb44
         refine wp_skip (Zz (wp_seq (wp_block (Zb (Zd hE rfl fun a hE=>Zc hE rfl fun a hE=>Ze ?_)))))
         obtain ⟨x47,hi46,hs41⟩:=bvx hs41
         obtain ⟨x50,hi49,hs41⟩:=bvx hs41
         obtain ⟨x53,hi52,hs41⟩:=bvx hs41
         obtain ⟨x56,hi55,hs41⟩:=bvx hs41
         obtain ⟨x59,hi58,hs41⟩:=bvx hs41
         obtain ⟨x62,hi61,hs41⟩:=bvx hs41
         refine Yl [37,38,39,40,41,42,43,44,45,46,47,48,49,50,51,52,53,54,55,56,57] Xm rfl rfl (by decide) rfl hE hM (qsP (fun z=>Zj z.E Za ld rfl (kr0 rfl)) (qsP (fun z=>Zj z.E Za ld rfl (kr0 rfl)) (qsP (fun z=>Zj z.E Za ld rfl (kr0 rfl)) (qsP (fun z=>Zj z.E Za ld rfl (kr0 rfl)) (qsP (fun z=>Zj z.E Za ld rfl (kr0 rfl)) (qsP (v:=(vI (orI s30.2 s40.2))) (fun z=>Yk z.E Za ld rfl rfl rfl (kr0 rfl)) (qsP (fun z=>Zj z.E Za ld rfl (kr0 rfl)) (qsP (fun z=>Zj z.E Za ld rfl (kr0 rfl)) (qsP (fun z=>Zj z.E Za ld rfl (kr0 rfl)) (qsP (fun z=>Zj z.E Za ld rfl (kr0 rfl)) (qsP (fun z=>Zj z.E Za ld rfl (kr0 rfl)) (qsP (fun z=>ZV z.E Za ld rfl (kr0 rfl)) (qsP (fun z=>ZA z.E Za ld rfl rfl Tryz.underlying130 B4 hi46.1 (kr0 rfl)) (qsP (fun z=>ZA z.E Za ld rfl rfl Tryz.underlying128 ty24 hi49.1 (kr0 rfl)) (qsP (fun z=>ZA z.E Za ld rfl rfl Tryz.underlying24 ty5 hi52.1 (kr0 rfl)) (qsP (fun z=>Z0 (v:=(vB x53)) z.E Za ld rfl ty5 rfl (At.vec (At.vec (At.vec (z.M.rawAt0) hi46.2) hi49.2) hi52.2) (kr0 rfl)) (qsP (v:=(vB (r35 ^^^ x53))) (fun z=>Yk z.E Za ld rfl rfl (WI r35 x53) (kr0 rfl)) (qsP (fun z=>ZV z.E Za ld rfl (kr0 rfl)) (qsP (fun z=>ZA z.E Za ld rfl rfl Tryz.underlying130 B4 hi55.1 (kr0 rfl)) (qsP (fun z=>ZA z.E Za ld rfl rfl Tryz.underlying128 ty24 hi58.1 (kr0 rfl)) (qsP (fun z=>ZA z.E Za ld rfl rfl Tryz.underlying24 ty5 hi61.1 (kr0 rfl)) qs0))))))))))))))))))))) ?_
         ·intro a w u hE hM
          refine Zg (seg:=[(vB (r35 ^^^ x53))]) (cs':=enc (s40.1.setIfInBounds (s8.2).toNat (x56.setIfInBounds (s19.2).toNat (x59.setIfInBounds ((orI s30.2 s40.2)).toNat (r35 ^^^ x53))))) hE hM Za rfl rfl rfl ty5 rfl (XJ (o':=(s19.2).toNat * 256 + (0 + ((orI s30.2 s40.2)).toNat * 1)) hi55 (XJ (o':=0 + ((orI s30.2 s40.2)).toNat * 1) hi58 (ZE (v:=x59) (x:=r35 ^^^ x53) hi61.1) (by first | omega | (simp only [Flat.n] <;> omega))) (by first | omega | (simp only [Flat.n] <;> omega))) (Flat.cell (r35 ^^^ x53 : UInt8)) (Y4 (o':=(s19.2).toNat * 256 + (0 + ((orI s30.2 s40.2)).toNat * 1)) hi55 (XJ (o':=0 + ((orI s30.2 s40.2)).toNat * 1) hi58 (ZE (v:=x59) (x:=r35 ^^^ x53) hi61.1) (by first | omega | (simp only [Flat.n] <;> omega))) (Y4 (o':=0 + ((orI s30.2 s40.2)).toNat * 1) hi58 (ZE (v:=x59) (x:=r35 ^^^ x53) hi61.1) (Zy (v:=x59) (x:=r35 ^^^ x53) hi61.1) (by first | omega | (simp only [Flat.n] <;> omega))) (by first | omega | (simp only [Flat.n] <;> omega))) fun w a hM hE=>Zh (Z9 (Zz (wp_region_lit (Zl hE rfl rfl rfl fun a hE=>Zd hE rfl fun a hE=>Zh (Zi ?_)))))
          exact ⟨_,(ois hs41),hE.sub ⟨rfl,rfl,rfl,rfl,rfl,rfl,rfl,rfl,rfl,rfl,rfl,rfl,rfl,trivial⟩,hM⟩
        ·intro hb44
         have hs41:=Zt hs41 hb44
         refine wp_exit (Zq (Zq (Yi ?_)))
         obtain rfl:=hx42 _ (ois hs41)
         refine Zi ?_
         exact ⟨hE.sub ⟨rfl,rfl,rfl,rfl,rfl,rfl,rfl,rfl,rfl,rfl,trivial⟩,hM⟩
       ·skip
        rintro a w ⟨hE,hM⟩
        refine Z9 (Zz (wp_region_lit (Zd hE rfl fun a hE=>Zl hE rfl rfl rfl fun a hE=>Zc hE rfl fun a hE=>Zh (Zi ?_))))
        exact ⟨_,(ois hF39),hE.sub ⟨rfl,rfl,rfl,rfl,rfl,rfl,rfl,rfl,rfl,rfl,trivial⟩,hM⟩
      ·intro hb34
       have hs31:=Zt hs31 hb34
       refine wp_exit (Zq (Zq (Yi ?_)))
       obtain rfl:=hx32 _ (ois hs31)
       refine Zi ?_
       exact ⟨hE.sub ⟨rfl,rfl,rfl,rfl,rfl,rfl,rfl,trivial⟩,hM⟩
     ·skip
      rintro a w ⟨hE,hM⟩
      refine Z9 (Zz (wp_region_lit (Zl hE rfl rfl rfl fun a hE=>Zd hE rfl fun a hE=>Zh (Zi ?_))))
      exact ⟨_,(ois hF29),hE.sub ⟨rfl,rfl,rfl,rfl,rfl,rfl,rfl,trivial⟩,hM⟩
    ·intro hb23
     have hs20:=Zt hs20 hb23
     refine wp_exit (Zq (Zq (Yi ?_)))
     obtain rfl:=hx21 _ (ois hs20)
     refine Zi ?_
     exact ⟨hE.sub ⟨rfl,rfl,rfl,rfl,trivial⟩,hM⟩
   ·skip
    rintro a w ⟨hE,hM⟩
    refine Z9 (Zz (wp_region_lit (Zl hE rfl rfl rfl fun a hE=>Zd hE rfl fun a hE=>Zh (Zi ?_))))
    exact ⟨_,(ois hF18),hE.sub ⟨rfl,rfl,rfl,rfl,trivial⟩,hM⟩
  ·intro hb12
   have hs9:=Zt hs9 hb12
   refine wp_exit (Zq (Zq (Yi ?_)))
   obtain rfl:=hx10 _ (ois hs9)
   refine Zi ?_
   have hM:=M.fst (l:=[_]) hM
   exact ⟨hE.sub ⟨rfl,trivial⟩,hM⟩
 ·skip
  rintro a w ⟨hE,hM⟩
  refine Zz (Zb (Zd hE rfl fun a hE=>Zc hE rfl fun a hE=>Ze ?_))
  have hM:=M.toRefF (x:=j5) hM
  obtain rfl:=Option.some.inj hF7
  exact wp_ret (Z2 hE rfl (ZF hE rfl) ⟨_,rfl,(ptr b3 0),rfl,hM.outF (locNO WD),hM.kept⟩)
def Xt (p0 : GCipher) : Option ((Ref Gengine)) :=
 (Xe p0.Field p0.Mix).bind fun r3=>(W8 p0.Box).bind fun r8=>(X5 p0.Places).bind fun r10=>(Vj p0.Field p0.Mix).bind fun r12=>(Vj p0.Field r3.2).bind fun r15=>some (⟨(⟨p0.Box,r8,p0.Places,r10,r12,r15,p0.Rounds⟩ : Gengine)⟩ : (Ref Gengine))
theorem UX (w0 : World) (p0 : GCipher) (r : (Ref Gengine)) (hF : Xt p0 = some r) :
  Calls Tryz.prog 41 [(Value.agg (enc p0).toArray)].toArray w0 (fun en w'=>∃ v,en = .returned v ∧ (∃ (y1 : Value),v = y1 ∧ Fr w0 w' [own NoB (r : (Ref Gengine)) [y1]] ∧ Kept (Old w0) w0 w')):=by
 refine ce Tryz.func41 ?_
 intro a hE
 have hM:=M.start w0
 unfold Xt at hF
 refine Zb (ZY (cs:=cat [[vI p0.Field],enc p0.Box,enc p0.Mix,enc p0.Places,[vI p0.Rounds]]) hE hM Za ld rfl rfl fun b1 w a hM hE=>Zc hE rfl fun a hE=>Ze (Zb (ZJ hE rfl (QF) fun a hE=>ZR (v:=(vI p0.Field)) hE rfl ty2 rfl (At.cat (pre:=[]) hM.rawAt0 cl0) fun a hE=>ZJ hE rfl (Qb) fun a hE=>Zk hE rfl XV rfl (At.cat (pre:=[[vI p0.Field],enc p0.Box]) hM.rawAt0 ck) (Flat.len _) ?_))); intro a hE
 obtain ⟨r3,e4,hF⟩:=bind_some hF
 refine Zo hE rfl (cbm Tryz.func64) (Qh _ p0.Field p0.Mix r3 e4) ?_
 rintro v w a ⟨rfl,hK⟩ hE
 have hM:=hM.keep hK
 refine Zd hE rfl fun a hE=>Zx hE Za ld rfl rfl fun a hE=>Zx hE Za ld rfl rfl fun a hE=>Zs hE hM XV fun b5 w a hM hE=>Zc hE rfl fun a hE=>Zg (seg:=enc r3.2) (cs':=enc r3.2) hE hM Za rfl rfl rfl XV (Flat.len _) (zle flq) (Flat.cell _) (Zf flq) fun w a hM hE=>Ze (wp_seq ?_)
 obtain ⟨r8,e9,hF⟩:=bind_some hF
 obtain ⟨r10,e11,hF⟩:=bind_some hF
 obtain ⟨r12,e13,hF⟩:=bind_some hF
 obtain ⟨r15,e16,hF⟩:=bind_some hF
 refine Wk (its:=[raw b5 (enc r3.2),raw b1 (cat [[vI p0.Field],enc p0.Box,enc p0.Mix,enc p0.Places,[vI p0.Rounds]])]) (mk:=([mkO 14 (fun v=>own NoB (r12 : (Ref (Vector (Vector (Vector UInt8 256) 4) 4))) [v]),mkO 18 (fun v=>own NoB (r15 : (Ref (Vector (Vector (Vector UInt8 256) 4) 4))) [v])] : Mk)) [13,14,15,16,17,18,19,20,21,22,23,24,25,26,27,28,29,30,31,32,33] Xm rfl rfl (by decide) rfl hE (fun u=>M.qE (M.qE (M.q0 hM.drew u) emO) emO) (qsP (fun z=>ZP z.E Za ld rfl (Qa) (kr0 rfl)) (qsP (v:=(Value.agg (enc p0.Box).toArray)) ?_ (qsP (fun z=>ZP z.E Za ld rfl (Qa) (kr0 rfl)) (qsP (v:=(Value.agg (enc p0.Box).toArray)) ?_ (qsP (fun z=>YD z.E Za ld rfl (cbm Tryz.func65) (JL _ p0.Box r8 e9) (kc rfl)) (qsP (fun z=>ZP z.E Za ld rfl (Tt) (kr0 rfl)) (qsP (v:=(Value.agg (enc p0.Places).toArray)) ?_ (qsP (fun z=>ZP z.E Za ld rfl (Tt) (kr0 rfl)) (qsP (v:=(Value.agg (enc p0.Places).toArray)) ?_ (qsP (fun z=>YD z.E Za ld rfl (cbm Tryz.func66) (KT _ p0.Places r10 e11) (kc rfl)) (qsP (fun z=>ZP z.E Za ld rfl (QF) (kr0 rfl)) (qsP (v:=(vI p0.Field)) ?_ (qsP (fun z=>ZP z.E Za ld rfl (Qb) (kr0 rfl)) (qsP (v:=(Value.agg (enc p0.Mix).toArray)) ?_ (qsM (pr:=fun v=>True) ?_ (qsP (fun z=>ZP z.E Za ld rfl (QF) (kr0 rfl)) (qsP (v:=(vI p0.Field)) ?_ (qsP (v:=(Value.agg (enc r3.2).toArray)) ?_ (qsM (pr:=fun v=>True) ?_ (qsP (fun z=>ZP z.E Za ld rfl (Qx) (kr0 rfl)) (qsP (v:=(vI p0.Rounds)) ?_ qs0))))))))))))))))))))) ?_
 ·intro a w ux7 D z
  have hE:=z.E
  have hM:=z.M
  exact Zk hE rfl YN rfl (At.cat (pre:=[[vI p0.Field]]) hM.rawAt1 ck) (Flat.len _) fun a hE=>⟨Kept.refl _ _,_,rfl,hE⟩
 ·intro a w ux7 D z
  have hE:=z.E
  have hM:=z.M
  exact Zk hE rfl YN rfl (At.cat (pre:=[[vI p0.Field]]) hM.rawAt1 ck) (Flat.len _) fun a hE=>⟨Kept.refl _ _,_,rfl,hE⟩
 ·intro a w ux7 D z
  have hE:=z.E
  have hM:=z.M
  exact Zk hE rfl KE rfl (At.cat (pre:=[[vI p0.Field],enc p0.Box,enc p0.Mix]) hM.rawAt1 ck) (Flat.len _) fun a hE=>⟨Kept.refl _ _,_,rfl,hE⟩
 ·intro a w ux7 D z
  have hE:=z.E
  have hM:=z.M
  exact Zk hE rfl KE rfl (At.cat (pre:=[[vI p0.Field],enc p0.Box,enc p0.Mix]) hM.rawAt1 ck) (Flat.len _) fun a hE=>⟨Kept.refl _ _,_,rfl,hE⟩
 ·intro a w ux7 D z
  have hE:=z.E
  have hM:=z.M
  exact ZR (v:=(vI p0.Field)) hE rfl ty2 rfl (At.cat (pre:=[]) hM.rawAt1 cl0) fun a hE=>⟨Kept.refl _ _,_,rfl,hE⟩
 ·intro a w ux7 D z
  have hE:=z.E
  have hM:=z.M
  exact Zk hE rfl XV rfl (At.cat (pre:=[[vI p0.Field],enc p0.Box]) hM.rawAt1 ck) (Flat.len _) fun a hE=>⟨Kept.refl _ _,_,rfl,hE⟩
 ·intro a w ux7 D z
  have hE:=z.E
  have hD : D 14 = false:=z.F
  have hM0:=z.M
  have hM:=z.M
  refine Zo hE rfl (cbm Tryz.func67) (KN _ p0.Field p0.Mix r12 e13) ?_
  rintro _ w a ⟨_,rfl,hFr,hK⟩ hE
  have hM:=hM0.add hK hFr
  exact ⟨_,_,rfl,hE,M.qFill (mk1:=[]) (mk2:=[_]) (f:=(fun v=>own NoB (r12 : (Ref (Vector (Vector (Vector UInt8 256) 4) 4))) [v])) hM rfl hD,trivial⟩
 ·intro a w ux7 D z
  have hE:=z.E
  have hM:=z.M
  exact ZR (v:=(vI p0.Field)) hE rfl ty2 rfl (At.cat (pre:=[]) hM.rawAt1 cl0) fun a hE=>⟨Kept.refl _ _,_,rfl,hE⟩
 ·intro a w ux7 D z
  have hE:=z.E
  have hM:=z.M
  exact Zk hE rfl XV rfl hM.rawAt0 (Flat.len _) fun a hE=>⟨Kept.refl _ _,_,rfl,hE⟩
 ·intro a w ux7 D z
  have hE:=z.E
  have hD : D 18 = false:=z.F
  have hM0:=z.M
  have hM:=z.M
  refine Zo hE rfl (cbm Tryz.func67) (KN _ p0.Field r3.2 r15 e16) ?_
  rintro _ w a ⟨_,rfl,hFr,hK⟩ hE
  have hM:=hM0.add hK hFr
  exact ⟨_,_,rfl,hE,M.qFill (mk1:=[_]) (mk2:=[]) (f:=(fun v=>own NoB (r15 : (Ref (Vector (Vector (Vector UInt8 256) 4) 4))) [v])) hM rfl hD,trivial⟩
 ·intro a w ux7 D z
  have hE:=z.E
  have hM:=z.M
  exact ZR (v:=(vI p0.Rounds)) hE rfl ty2 rfl (At.cat (pre:=[[vI p0.Field],enc p0.Box,enc p0.Mix,enc p0.Places]) hM.rawAt1 ck) fun a hE=>⟨Kept.refl _ _,_,rfl,hE⟩
 ·intro a w ux7 D hE hM hG hall
  have d14:=hall 14 (by decide)
  have d18:=hall 18 (by decide)
  have hM:=(hM.sure (pre:=[_,_]) d14).sure (pre:=[_,_,_]) d18
  refine TM (parts:=[(0,.tmp 14),(1,.tmp 17),(2,.tmp 19),(3,.tmp 22),(4,.tmp 27),(5,.tmp 31),(6,.tmp 33)]) (vs:=[(0,(Value.agg (enc p0.Box).toArray)),(1,(Value.agg (enc r8).toArray)),(2,(Value.agg (enc p0.Places).toArray)),(3,(Value.agg (enc r10).toArray)),(4,(ux7 14)),(5,(ux7 18)),(6,vI p0.Rounds)]) (cs:=cat [enc p0.Box,enc r8,enc p0.Places,enc r10,[(ux7 14)],[(ux7 18)],[vI p0.Rounds]]) hE Za ld rfl rfl H6 pl104 (Wa (pre:=[]) (seg:=enc (Vector.replicate 256 (0 : UInt8))) (seg':=enc p0.Box) (post:=[enc (Vector.replicate 256 (0 : UInt8)),enc (Vector.replicate 16 (0 : UInt8)),enc (Vector.replicate 16 (0 : UInt8)),[(Value.pointer none)],[(Value.pointer none)],[vI 0]]) rfl cl0 (Flat.len _) (Flat.len _) rfl (Wa (pre:=[enc p0.Box]) (seg:=enc (Vector.replicate 256 (0 : UInt8))) (seg':=enc r8) (post:=[enc (Vector.replicate 16 (0 : UInt8)),enc (Vector.replicate 16 (0 : UInt8)),[(Value.pointer none)],[(Value.pointer none)],[vI 0]]) rfl ck (Flat.len _) (Flat.len _) rfl (Wa (pre:=[enc p0.Box,enc r8]) (seg:=enc (Vector.replicate 16 (0 : UInt8))) (seg':=enc p0.Places) (post:=[enc (Vector.replicate 16 (0 : UInt8)),[(Value.pointer none)],[(Value.pointer none)],[vI 0]]) rfl ck (Flat.len _) (Flat.len _) rfl (Wa (pre:=[enc p0.Box,enc r8,enc p0.Places]) (seg:=enc (Vector.replicate 16 (0 : UInt8))) (seg':=enc r10) (post:=[[(Value.pointer none)],[(Value.pointer none)],[vI 0]]) rfl ck (Flat.len _) (Flat.len _) rfl (Wa (pre:=[enc p0.Box,enc r8,enc p0.Places,enc r10]) (seg:=[(Value.pointer none)]) (seg':=[(ux7 14)]) (post:=[[(Value.pointer none)],[vI 0]]) rfl ck rfl rfl (A2 (hM.ro (pre:=[_,_]) noB)) (Wa (pre:=[enc p0.Box,enc r8,enc p0.Places,enc r10,[(ux7 14)]]) (seg:=[(Value.pointer none)]) (seg':=[(ux7 18)]) (post:=[[vI 0]]) rfl ck rfl rfl (A2 (hM.ro (pre:=[_,_,_]) noB)) (Wa (pre:=[enc p0.Box,enc r8,enc p0.Places,enc r10,[(ux7 14)],[(ux7 18)]]) (seg:=[vI 0]) (seg':=[vI p0.Rounds]) (post:=[]) rfl ck rfl rfl rfl Ko))))))) fun a hE=>ZY (cs:=cat [enc p0.Box,enc r8,enc p0.Places,enc r10,[(ux7 14)],[(ux7 18)],[vI p0.Rounds]]) hE hM Za ld rfl rfl fun b18 w a hM hE=>Zc hE rfl fun a hE=>Zh (Zz ?_)
  have hM:=hM.pull4.pull4
  have hM:=(((hM.pack2 (it:=own NoB (⟨p0.Box,r8,p0.Places,r10,r12,r15,p0.Rounds⟩ : Gengine) (cat [enc p0.Box,enc r8,enc p0.Places,enc r10,[(ux7 14)],[(ux7 18)],[vI p0.Rounds]])) (QV noB) (fun f0 f1 q0 q1=>(je q0 q1 (by simp)))).pull1).pull1).pull1
  have hM:=M.toRef hM noB
  obtain rfl:=Option.some.inj hF
  have hM:=M.fst (l:=[_]) hM
  exact wp_ret (Z2 hE rfl (ZF hE rfl) ⟨_,rfl,(ptr b18 0),rfl,hM.outF (locNO WD),hM.kept⟩)
def Xa (p0 : (Ref Gengine)) (s35 : (Vector UInt8 16) × Int) : Option (Fl ((Vector UInt8 16) × Int) (Vector UInt8 16)) :=
 if (decide (s35.2 < 16)) = true then ((ZB s35.1 s35.2).bind fun x42=>(ZB s35.1 (wr (s35.2 - 1))).bind fun x45=>(ZB p0.v.box (bI x45)).bind fun x58=>(ZB s35.1 s35.2).bind fun x61=>some (Fl.nx ((s35.1.setIfInBounds (s35.2).toNat (x42 ^^^ x58)),wr (s35.2 + 1)))) else (some (Fl.ex s35.1))
def X3 (p0 : (Ref Gengine)) (p1 : (Vector UInt8 16)) (p2 : Int) : Option ((Vector UInt8 16)) :=
 ((ZB p1 (0 : Int)).bind fun x10=>(ZB p1 (15 : Int)).bind fun x13=>(ZB p0.v.box (bI (x13 ^^^ (ZH p2)))).bind fun x26=>(ZB p1 (0 : Int)).bind fun x29=>some (p1.setIfInBounds ((0 : Int)).toNat (x10 ^^^ x26)) : Option ((Vector UInt8 16))).bind fun j5=>(ZK (Xa p0) (j5,1)).bind fun j32=>some j32
theorem KU (w0 : World) (p0 : (Ref Gengine)) (v0_1 : Value) (hv0_1 : Ro w0 p0 [v0_1]) (p1 : (Vector UInt8 16)) (p2 : Int) (r : (Vector UInt8 16)) (hF : X3 p0 p1 p2 = some r) :
  Calls Tryz.prog 73 [v0_1,(Value.agg (enc p1).toArray),vI p2].toArray w0 (Rt w0 (Value.agg (enc r).toArray)):=by
 refine ce Tryz.func73 ?_
 intro a hE
 have hM:=M.start w0
 unfold X3 at hF
 refine Zb (ZY (cs:=enc p1) hE hM Za ld rfl rfl fun b1 w a hM hE=>Zs hE hM Zv fun b3 w a hM hE=>Ze ?_)
 obtain ⟨j5,hl6,hF7⟩:=bind_some hF
 refine ZQ (fun a w=>Env 41 a [(0,v0_1),(4,(ptr b1 0)),(6,(ptr b3 0))] ∧ M (Old w0) w0 w [raw b3 (enc (Vector.replicate 16 (0 : UInt8))),raw b1 (enc j5)]) ?_ ?_
 ·skip
  obtain ⟨x10,hi9,hl6⟩:=bvx hl6
  obtain ⟨x13,hi12,hl6⟩:=bvx hl6
  obtain ⟨pb15,ds16,hv17,hx18,hA19,hB20⟩:=U7 hv0_1 -- ^
  obtain ⟨u21,u23,rfl,h22,h24⟩:=TS hx18 -- ^
  obtain ⟨x26,hi25,hl6⟩:=bvx hl6
  obtain ⟨x29,hi28,hl6⟩:=bvx hl6
  refine Yl [8,9,10,11,12,13,14,15,16,17,18,19,20,21] Xm rfl rfl (by decide) rfl hE hM (qsP (fun z=>ZA z.E Za ld rfl rfl Tryz.underlying33 ty5 hi9.1 (kr0 rfl)) (qsP (fun z=>Z0 (v:=(vB x10)) z.E Za ld rfl ty5 rfl (At.vec (z.M.rawAt1) hi9.2) (kr0 rfl)) (qsP (fun z=>Zj z.E Za ld rfl (kr0 rfl)) (qsP (fun z=>ZA z.E Za ld rfl rfl Tryz.underlying33 ty5 hi12.1 (kr0 rfl)) (qsP (fun z=>Z0 (v:=(vB x13)) z.E Za ld rfl ty5 rfl (At.vec (z.M.rawAt1) hi12.2) (kr0 rfl)) (qsP (fun z=>Zj z.E Za ld rfl (kr0 rfl)) (qsP (fun z=>YX z.E Za ld rfl Tryz.underlying2 Tryz.underlying5 (kr0 rfl)) (qsP (v:=(vB (x13 ^^^ (ZH p2)))) (fun z=>Yk z.E Za ld rfl rfl (WI x13 (ZH p2)) (kr0 rfl)) (qsP (fun z=>ZV z.E Za ld (lk rfl hv17) (kr0 rfl)) (qsP (fun z=>ZP z.E Za ld rfl (zA) (kr0 rfl)) (qsP (fun z=>ZA z.E Za ld rfl rfl Tryz.underlying25 ty5 hi25.1 (kr0 rfl)) (qsP (fun z=>Z0 (v:=(vB x26)) z.E Za ld rfl ty5 rfl (At.vec (At.cat (pre:=[]) (z.M.atk hA19 hB20) cl0) hi25.2) (kr0 rfl)) (qsP (v:=(vB (x10 ^^^ x26))) (fun z=>Yk z.E Za ld rfl rfl (WI x10 x26) (kr0 rfl)) (qsP (fun z=>ZA z.E Za ld rfl rfl Tryz.underlying33 ty5 hi28.1 (kr0 rfl)) qs0)))))))))))))) ?_
  ·intro a w u hE hM
   have hM:=hM.pull1
   refine Zg (seg:=[(vB (x10 ^^^ x26))]) (cs':=enc (p1.setIfInBounds ((0 : Int)).toNat (x10 ^^^ x26))) hE hM Za rfl rfl rfl ty5 rfl (ZE (v:=p1) (x:=x10 ^^^ x26) hi28.1) (Flat.cell (x10 ^^^ x26 : UInt8)) (Zy (v:=p1) (x:=x10 ^^^ x26) hi28.1) fun w a hM hE=>Zh ?_
   obtain rfl:=Option.some.inj hl6
   refine Zi ?_
   have hM:=hM.pull1
   exact ⟨hE.sub ⟨rfl,rfl,rfl,trivial⟩,hM⟩
 ·skip
  rintro a w ⟨hE,hM⟩
  refine wp_seq (Zb (Zc hE rfl fun a hE=>Ze ?_))
  obtain ⟨j32,hl33,hF34⟩:=bind_some hF7
  refine ZS (fun a w=>Env 41 a [(4,(ptr b1 0)),(6,(ptr b3 0))] ∧ M (Old w0) w0 w [raw b3 (enc (Vector.replicate 16 (0 : UInt8))),raw b1 (enc j32)]) ?_ ?_
  ·skip
   refine wp_block ?_
   refine ZO (fun (s35 : (Vector UInt8 16) × Int) a w=>Env 41 a [(0,v0_1),(4,(ptr b1 0)),(6,(ptr b3 0)),(7,vI s35.2)] ∧ M (Old w0) w0 w [raw b3 (enc (Vector.replicate 16 (0 : UInt8))),raw b1 (enc s35.1)]) hl33 ⟨hE.sub ⟨rfl,rfl,rfl,rfl,trivial⟩,hM⟩ ?_
   rintro s35 a w ⟨hE,hM⟩ o38 hs36 hx37
   unfold Xa at hs36
   refine wp_seq (Zb (Zd hE rfl fun a hE=>Zl hE rfl rfl rfl fun a hE=>Ze ?_))
   refine Zr hE rfl ?_ ?_
   ·intro hb39
    have hs36:=Zu hs36 hb39
    refine wp_skip (Zz (wp_seq (wp_block ?_)))
    obtain ⟨x42,hi41,hs36⟩:=bvx hs36
    obtain ⟨x45,hi44,hs36⟩:=bvx hs36
    obtain ⟨pb47,ds48,hv49,hx50,hA51,hB52⟩:=U7 hv0_1 -- ^
    obtain ⟨u53,u55,rfl,h54,h56⟩:=TS hx50 -- ^
    obtain ⟨x58,hi57,hs36⟩:=bvx hs36
    obtain ⟨x61,hi60,hs36⟩:=bvx hs36
    refine Yl [26,27,28,29,30,31,32,33,34,35,36,37,38,39] Xm rfl rfl (by decide) rfl hE hM (qsP (fun z=>Zj z.E Za ld rfl (kr0 rfl)) (qsP (fun z=>ZA z.E Za ld rfl rfl Tryz.underlying33 ty5 hi41.1 (kr0 rfl)) (qsP (fun z=>Z0 (v:=(vB x42)) z.E Za ld rfl ty5 rfl (At.vec (z.M.rawAt1) hi41.2) (kr0 rfl)) (qsP (fun z=>Zj z.E Za ld rfl (kr0 rfl)) (qsP (fun z=>Zj z.E Za ld rfl (kr0 rfl)) (qsP (v:=(vI (wr (s35.2 - 1)))) (fun z=>Yk z.E Za ld rfl rfl rfl (kr0 rfl)) (qsP (fun z=>ZA z.E Za ld rfl rfl Tryz.underlying33 ty5 hi44.1 (kr0 rfl)) (qsP (fun z=>Z0 (v:=(vB x45)) z.E Za ld rfl ty5 rfl (At.vec (z.M.rawAt1) hi44.2) (kr0 rfl)) (qsP (fun z=>ZV z.E Za ld (lk rfl hv49) (kr0 rfl)) (qsP (fun z=>ZP z.E Za ld rfl (zA) (kr0 rfl)) (qsP (fun z=>ZA z.E Za ld rfl rfl Tryz.underlying25 ty5 hi57.1 (kr0 rfl)) (qsP (fun z=>Z0 (v:=(vB x58)) z.E Za ld rfl ty5 rfl (At.vec (At.cat (pre:=[]) (z.M.atk hA51 hB52) cl0) hi57.2) (kr0 rfl)) (qsP (v:=(vB (x42 ^^^ x58))) (fun z=>Yk z.E Za ld rfl rfl (WI x42 x58) (kr0 rfl)) (qsP (fun z=>ZA z.E Za ld rfl rfl Tryz.underlying33 ty5 hi60.1 (kr0 rfl)) qs0)))))))))))))) ?_
    ·intro a w u hE hM
     have hM:=hM.pull1
     refine Zg (seg:=[(vB (x42 ^^^ x58))]) (cs':=enc (s35.1.setIfInBounds (s35.2).toNat (x42 ^^^ x58))) hE hM Za rfl rfl rfl ty5 rfl (ZE (v:=s35.1) (x:=x42 ^^^ x58) hi60.1) (Flat.cell (x42 ^^^ x58 : UInt8)) (Zy (v:=s35.1) (x:=x42 ^^^ x58) hi60.1) fun w a hM hE=>Zh (Z9 (Zz (wp_region_lit (Zd hE rfl fun a hE=>Zl hE rfl rfl rfl fun a hE=>Zc hE rfl fun a hE=>Zh (Zi ?_)))))
     have hM:=hM.pull1
     exact ⟨_,(ois hs36),hE.sub ⟨rfl,rfl,rfl,rfl,trivial⟩,hM⟩
   ·intro hb39
    have hs36:=Zt hs36 hb39
    refine wp_exit (Zq (Zq (Yi ?_)))
    obtain rfl:=hx37 _ (ois hs36)
    refine Zi ?_
    exact ⟨hE.sub ⟨rfl,rfl,trivial⟩,hM⟩
  ·skip
   rintro a w ⟨hE,hM⟩
   refine Zz (Zb (Zk hE rfl Zv rfl hM.rawAt1 (Flat.len _) fun a hE=>Zg (seg:=enc j32) (cs':=enc j32) hE hM Za rfl rfl rfl Zv (Flat.len _) (zle flq) (Flat.cell _) (Zf flq) fun w a hM hE=>Ze ?_))
   obtain rfl:=Option.some.inj hF34
   have hq64 : ZX Tryz.prog _ _ (.cell 6 33) _:=ZN hE rfl Zv rfl hM.rawAt0 (Flat.len _) rfl
   exact wp_ret (Z2 hE rfl hq64 ⟨_,rfl,rfl,hM.kept⟩)
def XU (p0 : (Ref Gengine)) (p2 : Int) (s10 : (Vector UInt8 16) × (List (Vector UInt8 16)) × Int) : Option (Fl ((Vector UInt8 16) × (List (Vector UInt8 16)) × Int) (List (Vector UInt8 16))) :=
 if (decide (s10.2.2 ≤ p2)) = true then ((X3 p0 s10.1 s10.2.2).bind fun r17=>(app 16 s10.2.1 ([r17] : List (Vector UInt8 16))).bind fun l21=>some (Fl.nx (r17,(s10.2.1 ++ ([r17] : List (Vector UInt8 16))),wr (s10.2.2 + 1)))) else (some (Fl.ex s10.2.1))
def Y6 (p0 : (Ref Gengine)) (p1 : (Vector UInt8 16)) (p2 : Int) : Option ((List (Vector UInt8 16))) :=
 (ZK (XU p0 p2) (p1,([p1] : List (Vector UInt8 16)),1)).bind fun j5=>some j5
theorem Tg (w0 : World) (p0 : (Ref Gengine)) (v0_1 : Value) (hv0_1 : Ro w0 p0 [v0_1]) (p1 : (Vector UInt8 16)) (p2 : Int) (r : (List (Vector UInt8 16))) (hF : Y6 p0 p1 p2 = some r) :
  Calls Tryz.prog 48 [v0_1,(Value.agg (enc p1).toArray),vI p2].toArray w0 (fun en w'=>∃ v,en = .returned v ∧ (∃ (y1 : Value),v = y1 ∧ Fr w0 w' [osl NoB (r : List (Vector UInt8 16)) y1] ∧ Kept (Old w0) w0 w')):=by
 refine ce Tryz.func48 ?_
 intro a hE
 have hM:=M.start w0
 unfold Y6 at hF
 refine Zb (ZY (cs:=enc p1) hE hM Za ld rfl rfl fun b1 w a hM hE=>Zc hE rfl fun a hE=>Ze (Zb (Zk hE rfl Zv rfl hM.rawAt0 (Flat.len _) fun a hE=>Yc (xs:=[.tmp 9]) (l:=([p1] : List (Vector UInt8 16))) (vs:=[(Value.agg (enc p1).toArray)]) hE hM Za ld rfl rfl Tryz.underlying36 Zv rfl (by decide) rfl fun u3 w a hM hE=>Zc hE rfl fun a hE=>Ze (wp_seq (Zb (Zc hE rfl fun a hE=>Ze ?_))))))
 obtain ⟨j5,hl6,hF7⟩:=bind_some hF
 refine ZS (fun a w=>∃ (u8 : Value),Env 25 a [(7,u8)] ∧ M (Old w0) w0 w [osl NoB (j5 : List (Vector UInt8 16)) u8]) ?_ ?_
 ·skip
  refine wp_block ?_
  have hM:=hM.pull1
  refine ZO (fun (s10 : (Vector UInt8 16) × (List (Vector UInt8 16)) × Int) a w=>∃ (u11 : Value),Env 25 a [(0,v0_1),(2,vI p2),(4,(ptr b1 0)),(7,u11),(8,vI s10.2.2)] ∧ M (Old w0) w0 w [raw b1 (enc s10.1),osl NoB (s10.2.1 : List (Vector UInt8 16)) u11]) hl6 ⟨u3,hE.sub ⟨rfl,rfl,rfl,rfl,rfl,trivial⟩,hM⟩ ?_
  rintro s10 a w ⟨u11,hE,hM⟩ o15 hs13 hx14
  unfold XU at hs13
  refine wp_seq (Zb (Zd hE rfl fun a hE=>Zd hE rfl fun a hE=>Zl hE rfl rfl rfl fun a hE=>Ze ?_))
  refine Zr hE rfl ?_ ?_
  ·intro hb16
   have hs13:=Zu hs13 hb16
   refine wp_skip (Zz (wp_seq (wp_block (Zb (Zd hE rfl fun a hE=>Zk hE rfl Zv rfl hM.rawAt0 (Flat.len _) fun a hE=>Zd hE rfl ?_))))); intro a hE
   obtain ⟨r17,e18,hs13⟩:=bind_some hs13
   refine Zo hE rfl (cbm Tryz.func73) (KU _ p0 v0_1 (hM.rdo hv0_1) s10.1 s10.2.2 r17 e18) ?_
   rintro v w a ⟨rfl,hK⟩ hE
   have hM:=hM.keep hK
   refine Zg (seg:=enc r17) (cs':=enc r17) hE hM Za rfl rfl rfl Zv (Flat.len _) (zle flq) (Flat.cell _) (Zf flq) fun w a hM hE=>Ze (wp_region_lit (Zd hE rfl fun a hE=>Zk hE rfl Zv rfl hM.rawAt0 (Flat.len _) fun a hE=>Yc (xs:=[.tmp 21]) (l:=([r17] : List (Vector UInt8 16))) (vs:=[(Value.agg (enc r17).toArray)]) hE hM Za ld rfl rfl Tryz.underlying36 Zv rfl (by decide) rfl ?_)); intro u19 w a hM hE
   obtain ⟨l21,e22,hs13⟩:=bind_some hs13
   obtain ⟨e25,rfl⟩:=U3 e22
   have hM:=hM.pull2
   refine Uo hE hM Za ld rfl rfl (hM.sl (pre:=[_]) noB) Tryz.underlying36 Zv rfl (by decide) e25 fun u23 w a hM hE=>Zc hE rfl fun a hE=>Zh (Z9 (Zz (wp_region_lit (Zd hE rfl fun a hE=>Zl hE rfl rfl rfl fun a hE=>Zc hE rfl fun a hE=>Zh (Zi ?_)))))
   have hM:=M.fst (l:=[_,_]) hM.pull2
   exact ⟨_,(ois hs13),u23,hE.sub ⟨rfl,rfl,rfl,rfl,rfl,trivial⟩,hM⟩
  ·intro hb16
   have hs13:=Zt hs13 hb16
   refine wp_exit (Zq (Zq (Yi ?_)))
   obtain rfl:=hx14 _ (ois hs13)
   refine Zi ?_
   have hM:=M.fst (l:=[_]) hM.pull1
   exact ⟨u11,hE.sub ⟨rfl,trivial⟩,hM⟩
 ·skip
  rintro a w ⟨u8,hE,hM⟩
  refine Zz (Zb (Zd hE rfl fun a hE=>Zc hE rfl fun a hE=>Ze ?_))
  obtain rfl:=Option.some.inj hF7
  exact wp_ret (Z2 hE rfl (ZF hE rfl) ⟨_,rfl,u8,rfl,hM.outF (WU WD),hM.kept⟩)
def Wx (p1 : (Vector UInt8 16)) (s10 : (Vector UInt8 16) × Int) : Option (Fl ((Vector UInt8 16) × Int) (Vector UInt8 16)) :=
 if (decide (s10.2 < 16)) = true then ((ZB s10.1 s10.2).bind fun x17=>(ZB p1 s10.2).bind fun x20=>(ZB s10.1 s10.2).bind fun x23=>some (Fl.nx ((s10.1.setIfInBounds (s10.2).toNat (x17 ^^^ x20)),wr (s10.2 + 1)))) else (some (Fl.ex s10.1))
def Xr (p0 : (Vector UInt8 16)) (p1 : (Vector UInt8 16)) : Option ((Vector UInt8 16)) :=
 (ZK (Wx p1) (p0,0)).bind fun j7=>some j7
theorem TP (w0 : World) (p0 : (Vector UInt8 16)) (p1 : (Vector UInt8 16)) (r : (Vector UInt8 16)) (hF : Xr p0 p1 = some r) :
  Calls Tryz.prog 33 [(Value.agg (enc p0).toArray),(Value.agg (enc p1).toArray)].toArray w0 (Rt w0 (Value.agg (enc r).toArray)):=by
 refine ce Tryz.func33 ?_
 intro a hE
 have hM:=M.start w0
 unfold Xr at hF
 refine Zb (ZY (cs:=enc p0) hE hM Za ld rfl rfl fun b1 w a hM hE=>ZY (cs:=enc p1) hE hM Za ld rfl rfl fun b3 w a hM hE=>Zs hE hM Zv fun b5 w a hM hE=>Ze (wp_seq (Zb (Zd hE rfl fun a hE=>Ze ?_))))
 obtain ⟨j7,hl8,hF9⟩:=bind_some hF
 refine ZS (fun a w=>Env 19 a [(2,(ptr b1 0)),(4,(ptr b5 0))] ∧ M (Old w0) w0 w [raw b5 (enc (Vector.replicate 16 (0 : UInt8))),raw b1 (enc j7)]) ?_ ?_
 ·skip
  refine wp_block ?_
  refine ZO (fun (s10 : (Vector UInt8 16) × Int) a w=>Env 19 a [(2,(ptr b1 0)),(3,(ptr b3 0)),(4,(ptr b5 0)),(6,vI s10.2)] ∧ M (Old w0) w0 w [raw b5 (enc (Vector.replicate 16 (0 : UInt8))),raw b3 (enc p1),raw b1 (enc s10.1)]) hl8 ⟨hE.sub ⟨rfl,rfl,rfl,rfl,trivial⟩,hM⟩ ?_
  rintro s10 a w ⟨hE,hM⟩ o13 hs11 hx12
  unfold Wx at hs11
  refine Zb (Zl hE rfl rfl rfl fun a hE=>Ze (wp_seq ?_))
  refine Zr hE rfl ?_ ?_
  ·intro hb14
   have hs11:=Zu hs11 hb14
   refine wp_skip (Zz (wp_seq (wp_block (Zb (Zd hE rfl fun a hE=>Zc hE rfl fun a hE=>Ze ?_)))))
   obtain ⟨x17,hi16,hs11⟩:=bvx hs11
   obtain ⟨x20,hi19,hs11⟩:=bvx hs11
   obtain ⟨x23,hi22,hs11⟩:=bvx hs11
   refine Yl [9,10,11,12,13,14,15,16] Xm rfl rfl (by decide) rfl hE hM (qsP (fun z=>Zj z.E Za ld rfl (kr0 rfl)) (qsP (fun z=>ZA z.E Za ld rfl rfl Tryz.underlying33 ty5 hi16.1 (kr0 rfl)) (qsP (fun z=>Z0 (v:=(vB x17)) z.E Za ld rfl ty5 rfl (At.vec (z.M.rawAt2) hi16.2) (kr0 rfl)) (qsP (fun z=>Zj z.E Za ld rfl (kr0 rfl)) (qsP (fun z=>ZA z.E Za ld rfl rfl Tryz.underlying33 ty5 hi19.1 (kr0 rfl)) (qsP (fun z=>Z0 (v:=(vB x20)) z.E Za ld rfl ty5 rfl (At.vec (z.M.rawAt1) hi19.2) (kr0 rfl)) (qsP (v:=(vB (x17 ^^^ x20))) (fun z=>Yk z.E Za ld rfl rfl (WI x17 x20) (kr0 rfl)) (qsP (fun z=>ZA z.E Za ld rfl rfl Tryz.underlying33 ty5 hi22.1 (kr0 rfl)) qs0)))))))) ?_
   ·intro a w u hE hM
    have hM:=hM.pull2
    refine Zg (seg:=[(vB (x17 ^^^ x20))]) (cs':=enc (s10.1.setIfInBounds (s10.2).toNat (x17 ^^^ x20))) hE hM Za rfl rfl rfl ty5 rfl (ZE (v:=s10.1) (x:=x17 ^^^ x20) hi22.1) (Flat.cell (x17 ^^^ x20 : UInt8)) (Zy (v:=s10.1) (x:=x17 ^^^ x20) hi22.1) fun w a hM hE=>Zh (Z9 (Zz (wp_region_lit (Zl hE rfl rfl rfl fun a hE=>Zd hE rfl fun a hE=>Zh (Zi ?_)))))
    have hM:=hM.pull2.pull2
    exact ⟨_,(ois hs11),hE.sub ⟨rfl,rfl,rfl,rfl,trivial⟩,hM⟩
  ·intro hb14
   have hs11:=Zt hs11 hb14
   refine wp_exit (Zq (Zq (Yi ?_)))
   obtain rfl:=hx12 _ (ois hs11)
   refine Zi ?_
   have hM:=M.fst (l:=[_,_]) hM.pull2.pull1
   exact ⟨hE.sub ⟨rfl,rfl,trivial⟩,hM⟩
 ·skip
  rintro a w ⟨hE,hM⟩
  refine Zz (Zb (Zk hE rfl Zv rfl hM.rawAt1 (Flat.len _) fun a hE=>Zg (seg:=enc j7) (cs':=enc j7) hE hM Za rfl rfl rfl Zv (Flat.len _) (zle flq) (Flat.cell _) (Zf flq) fun w a hM hE=>Ze ?_))
  obtain rfl:=Option.some.inj hF9
  have hq26 : ZX Tryz.prog _ _ (.cell 4 33) _:=ZN hE rfl Zv rfl hM.rawAt0 (Flat.len _) rfl
  exact wp_ret (Z2 hE rfl hq26 ⟨_,rfl,rfl,hM.kept⟩)
def XT (p0 : (Vector UInt8 16)) (p1 : (Vector UInt8 16)) (s12 : (Vector UInt8 16) × Int) : Option (Fl ((Vector UInt8 16) × Int) (Vector UInt8 16)) :=
 if (decide (s12.2 < 16)) = true then ((ZB p0 s12.2).bind fun x17=>(ZB p1 (bI x17)).bind fun x21=>(ZB s12.1 s12.2).bind fun x24=>some (Fl.nx ((s12.1.setIfInBounds (s12.2).toNat x21),wr (s12.2 + 1)))) else (some (Fl.ex s12.1))
def W6 (p0 : (Vector UInt8 16)) (p1 : (Vector UInt8 16)) : Option ((Vector UInt8 16)) :=
 (ZK (XT p0 p1) ((Vector.replicate 16 (0 : UInt8)),0)).bind fun j9=>some j9
theorem JB (w0 : World) (p0 : (Vector UInt8 16)) (p1 : (Vector UInt8 16)) (r : (Vector UInt8 16)) (hF : W6 p0 p1 = some r) :
  Calls Tryz.prog 96 [(Value.agg (enc p0).toArray),(Value.agg (enc p1).toArray)].toArray w0 (Rt w0 (Value.agg (enc r).toArray)):=by
 refine ce Tryz.func96 ?_
 intro a hE
 have hM:=M.start w0
 unfold W6 at hF
 refine Zb (ZY (cs:=enc p0) hE hM Za ld rfl rfl fun b1 w a hM hE=>ZY (cs:=enc p1) hE hM Za ld rfl rfl fun b3 w a hM hE=>Zs hE hM Zv fun b5 w a hM hE=>Ze (Zb (Z8 (parts:=[]) (vs:=[]) (cs:=enc (Vector.replicate 16 (0 : UInt8))) hE Za ld rfl rfl Zv rfl ty5 ZZ fun a hE=>Zs hE hM Zv fun b7 w a hM hE=>Zg (seg:=enc (Vector.replicate 16 (0 : UInt8))) (cs':=enc (Vector.replicate 16 (0 : UInt8))) hE hM Za rfl rfl rfl Zv (Flat.len _) (zle flq) (Flat.cell _) (Zf flq) fun w a hM hE=>Ze (wp_seq (Zb (Zk hE rfl KE rfl hM.rawAt3 (Flat.len _) fun a hE=>Zd hE rfl fun a hE=>Ze ?_))))))
 obtain ⟨j9,hl10,hF11⟩:=bind_some hF
 refine ZS (fun a w=>Env 21 a [(4,(ptr b5 0)),(5,(ptr b7 0))] ∧ M (Old w0) w0 w [raw b7 (enc j9),raw b5 (enc (Vector.replicate 16 (0 : UInt8)))]) ?_ ?_
 ·skip
  refine wp_block ?_
  have hM:=M.fst (l:=[_,_,_]) hM.pull2.pull2.pull2
  refine ZO (fun (s12 : (Vector UInt8 16) × Int) a w=>Env 21 a [(3,(ptr b3 0)),(4,(ptr b5 0)),(5,(ptr b7 0)),(9,(Value.agg (enc p0).toArray)),(10,vI s12.2)] ∧ M (Old w0) w0 w [raw b7 (enc s12.1),raw b5 (enc (Vector.replicate 16 (0 : UInt8))),raw b3 (enc p1)]) hl10 ⟨hE.sub ⟨rfl,rfl,rfl,rfl,rfl,trivial⟩,hM⟩ ?_
  rintro s12 a w ⟨hE,hM⟩ o15 hs13 hx14
  unfold XT at hs13
  refine Zb (Zl hE rfl rfl rfl fun a hE=>Ze (wp_seq ?_))
  refine Zr hE rfl ?_ ?_
  ·intro hb16
   have hs13:=Zu hs13 hb16
   refine wp_skip (Zz (wp_seq (wp_block (Zb (Zd hE rfl ?_))))); intro a hE
   obtain ⟨x17,hi19,hs13⟩:=bvx hs13
   refine QD hE Za ld rfl rfl Tryz.underlying30 ty5 rfl rfl hi19 rfl fun a hE=>Zc hE rfl fun a hE=>Zc hE rfl fun a hE=>Ze (wp_region_lit (Zd hE rfl fun a hE=>Zd hE rfl ?_)); intro a hE
   obtain ⟨x21,hi20,hs13⟩:=bvx hs13
   refine Zw hE rfl rfl Tryz.underlying33 ty5 hi20.1 fun a hE=>ZR (v:=(vB x21)) hE rfl ty5 rfl (At.vec hM.rawAt2 hi20.2) ?_; intro a hE
   obtain ⟨x24,hi23,hs13⟩:=bvx hs13
   refine Zw hE rfl rfl Tryz.underlying33 ty5 hi23.1 fun a hE=>Zg (seg:=[vB x21]) (cs':=enc (s12.1.setIfInBounds (s12.2).toNat x21)) hE hM Za rfl rfl rfl ty5 rfl (ZE (v:=s12.1) (x:=x21) hi23.1) (Flat.cell (x21 : UInt8)) (Zy (v:=s12.1) (x:=x21) hi23.1) fun w a hM hE=>Zh (Z9 (Zz (wp_region_lit (Zl hE rfl rfl rfl fun a hE=>Zd hE rfl fun a hE=>Zh (Zi ?_)))))
   exact ⟨_,(ois hs13),hE.sub ⟨rfl,rfl,rfl,rfl,rfl,trivial⟩,hM⟩
  ·intro hb16
   have hs13:=Zt hs13 hb16
   refine wp_exit (Zq (Zq (Yi ?_)))
   obtain rfl:=hx14 _ (ois hs13)
   refine Zi ?_
   have hM:=M.fst (l:=[_,_]) hM.pull1.pull1
   exact ⟨hE.sub ⟨rfl,rfl,trivial⟩,hM⟩
 ·skip
  rintro a w ⟨hE,hM⟩
  refine Zz (Zb (Zk hE rfl Zv rfl hM.rawAt0 (Flat.len _) ?_)); intro a hE
  have hM:=hM.pull1
  refine Zg (seg:=enc j9) (cs':=enc j9) hE hM Za rfl rfl rfl Zv (Flat.len _) (zle flq) (Flat.cell _) (Zf flq) fun w a hM hE=>Ze ?_
  obtain rfl:=Option.some.inj hF11
  have hq27 : ZX Tryz.prog _ _ (.cell 4 33) _:=ZN hE rfl Zv rfl hM.rawAt0 (Flat.len _) rfl
  exact wp_ret (Z2 hE rfl hq27 ⟨_,rfl,rfl,hM.kept⟩)
def WC (p0 : (Ref (Vector (Vector (Vector UInt8 256) 4) 4))) (s4 : (Vector UInt8 16) × Int) (j9 : UInt8 × UInt8 × UInt8 × UInt8) (s29 : (Vector UInt8 16) × Int) : Option (Fl ((Vector UInt8 16) × Int) (Vector UInt8 16)) :=
 if (decide (s29.2 < 4)) = true then ((ZB p0.v s29.2).bind fun x42=>(ZB x42 (0 : Int)).bind fun x45=>(ZB x45 (bI j9.1)).bind fun x48=>(ZB p0.v s29.2).bind fun x57=>(ZB x57 (1 : Int)).bind fun x60=>(ZB x60 (bI j9.2.1)).bind fun x63=>(ZB p0.v s29.2).bind fun x72=>(ZB x72 (2 : Int)).bind fun x75=>(ZB x75 (bI j9.2.2.1)).bind fun x78=>(ZB p0.v s29.2).bind fun x87=>(ZB x87 (3 : Int)).bind fun x90=>(ZB x90 (bI j9.2.2.2)).bind fun x93=>(ZB s29.1 (wr (s4.2 + s29.2))).bind fun x95=>some (Fl.nx ((s29.1.setIfInBounds ((wr (s4.2 + s29.2))).toNat (((x48 ^^^ x63) ^^^ x78) ^^^ x93)),wr (s29.2 + 1)))) else (some (Fl.ex s29.1))
def WA (p0 : (Ref (Vector (Vector (Vector UInt8 256) 4) 4))) (s4 : (Vector UInt8 16) × Int) : Option (Fl ((Vector UInt8 16) × Int) (Vector UInt8 16)) :=
 if (decide (s4.2 < (s4.1.toList.length : Int))) = true then (((ZB s4.1 s4.2).bind fun x13=>(ZB s4.1 (wr (s4.2 + 1))).bind fun x16=>(ZB s4.1 (wr (s4.2 + 2))).bind fun x19=>(ZB s4.1 (wr (s4.2 + 3))).bind fun x22=>some (x13,x16,x19,x22) : Option (UInt8 × UInt8 × UInt8 × UInt8)).bind fun j9=>(ZK (WC p0 s4 j9) (s4.1,0)).bind fun j26=>some (Fl.nx (j26,wr (s4.2 + 4)))) else (some (Fl.ex s4.1))
def VU (p0 : (Ref (Vector (Vector (Vector UInt8 256) 4) 4))) (p1 : (Vector UInt8 16)) : Option ((Vector UInt8 16)) :=
 (ZK (WA p0) (p1,0)).bind fun j1=>some j1
theorem HM (St : Nat → Prop) (W w0 : World) (its : List Item) (p0 : (Ref (Vector (Vector (Vector UInt8 256) 4) 4))) (v0_1 : Value) (hv0_1 : Rep.sat St W p0 [v0_1] []) (pb1 : Nat) (p1 : (Vector UInt8 16)) (hM : M St W w0 (raw pb1 (enc p1) :: its)) (r : (Vector UInt8 16)) (hF : VU p0 p1 = some r) :
  Calls Tryz.prog 97 [v0_1,(Value.slice (some ⟨pb1,0,none⟩) 16 16)].toArray w0 (fun en w'=>∃ v,en = .returned v ∧ (v = (Value.tuple [].toArray) ∧ M St W w' (raw pb1 (enc r) :: its))):=by
 refine ce Tryz.func97 ?_
 intro a hE
 unfold VU at hF
 refine Zb (Zc hE rfl fun a hE=>Ze ?_)
 obtain ⟨j1,hl2,hF3⟩:=bind_some hF
 refine ZS (fun a w=>Env 79 a [(1,(Value.slice (some ⟨pb1,0,none⟩) 16 16))] ∧ M St W w (raw pb1 (enc j1) :: its)) ?_ ?_
 ·skip
  refine wp_block ?_
  refine ZO (fun (s4 : (Vector UInt8 16) × Int) a w=>Env 79 a [(0,v0_1),(1,(Value.slice (some ⟨pb1,0,none⟩) 16 16)),(4,vI s4.2)] ∧ M St W w (raw pb1 (enc s4.1) :: its)) hl2 ⟨hE.sub ⟨rfl,rfl,rfl,trivial⟩,hM⟩ ?_
  rintro s4 a w ⟨hE,hM⟩ o7 hs5 hx6
  unfold WA at hs5
  refine wp_seq (Zb (Zd hE rfl fun a hE=>Zd hE rfl fun a hE=>Wm hE rfl Tryz.underlying22 (qA hM.rawAt0) fun a hE=>Zl hE rfl rfl rfl fun a hE=>Ze ?_))
  refine Zr hE rfl ?_ ?_
  ·intro hb8
   have hs5:=Zu hs5 hb8
   refine wp_skip (Zz (wp_seq (wp_block ?_)))
   obtain ⟨j9,hl10,hF11⟩:=bind_some hs5
   refine ZQ (fun a w=>Env 79 a [(0,v0_1),(1,(Value.slice (some ⟨pb1,0,none⟩) 16 16)),(4,vI s4.2),(5,vB j9.1),(6,vB j9.2.1),(7,vB j9.2.2.1),(8,vB j9.2.2.2)] ∧ M St W w (raw pb1 (enc s4.1) :: its)) ?_ ?_
   ·skip
    obtain ⟨x13,hi15,hl10⟩:=bvx hl10
    obtain ⟨x16,hi18,hl10⟩:=bvx hl10
    obtain ⟨x19,hi21,hl10⟩:=bvx hl10
    obtain ⟨x22,hi24,hl10⟩:=bvx hl10
    refine kL (n:=79) (hd:=[_,_,_,_,_,_,_,_,_,_,_,_,_,_,_,_,_,_,_,_,_,_,_]) (tl:=[]) Xm rfl rfl [16,17,18,19,20,21,22,23,24,25,26,27,28,29,30,31,32,33,34,5,6,7,8] (by decide) (fun w=>M St W w (raw pb1 (enc s4.1) :: its)) (fun j=>([fun v _=>v = (Value.slice (some ⟨pb1,0,none⟩) 16 16),fun v _=>v = (vI s4.2),fun v _=>v = (ptr pb1 (0 + (s4.2).toNat * 1)),fun v _=>v = (vB x13),fun v _=>v = (Value.slice (some ⟨pb1,0,none⟩) 16 16),fun v _=>v = (vI s4.2),fun v _=>v = (vI (wr (s4.2 + 1))),fun v _=>v = (ptr pb1 (0 + ((wr (s4.2 + 1))).toNat * 1)),fun v _=>v = (vB x16),fun v _=>v = (Value.slice (some ⟨pb1,0,none⟩) 16 16),fun v _=>v = (vI s4.2),fun v _=>v = (vI (wr (s4.2 + 2))),fun v _=>v = (ptr pb1 (0 + ((wr (s4.2 + 2))).toNat * 1)),fun v _=>v = (vB x19),fun v _=>v = (Value.slice (some ⟨pb1,0,none⟩) 16 16),fun v _=>v = (vI s4.2),fun v _=>v = (vI (wr (s4.2 + 3))),fun v _=>v = (ptr pb1 (0 + ((wr (s4.2 + 3))).toNat * 1)),fun v _=>v = (vB x22),fun v _=>v = (vB x13),fun v _=>v = (vB x16),fun v _=>v = (vB x19),fun v _=>v = (vB x22)] : List (Value → World → Prop)).getD j (fun _ _=>True)) (fun _ _ h hk=>h.keep hk) (gup gu23) hE hM.drew (st23 ?_ ?_ ?_ ?_ ?_ ?_ ?_ ?_ ?_ ?_ ?_ ?_ ?_ ?_ ?_ ?_ ?_ ?_ ?_ ?_ ?_ ?_ ?_) ?_
    ·exact qm
    ·exact qm
    ·intro a w ux12 hE hM hp
     have f0 : ux12 0 = (Value.slice (some ⟨pb1,0,none⟩) 16 16):=hp 0 _ rfl rfl
     have f1 : ux12 1 = (vI s4.2):=hp 1 _ rfl rfl
     exact T4 hE Za ld (lk rfl f0) (lk rfl f1) Tryz.underlying22 ty5 hi15.1 fun a hE=>kq rfl hE rfl
    ·intro a w ux12 hE hM hp
     have f2 : ux12 2 = (ptr pb1 (0 + (s4.2).toNat * 1)):=hp 0 _ rfl rfl
     exact ZR (v:=(vB x13)) hE (lk rfl f2) ty5 rfl (At.vec hM.rawAt0 hi15.2) fun a hE=>kq rfl hE rfl
    ·exact qm
    ·exact qm
    ·intro a w ux12 hE hM hp
     have f5 : ux12 5 = (vI s4.2):=hp 0 _ rfl rfl
     exact Zl hE (lk rfl f5) rfl rfl fun a hE=>kq rfl hE rfl
    ·intro a w ux12 hE hM hp
     have f4 : ux12 4 = (Value.slice (some ⟨pb1,0,none⟩) 16 16):=hp 0 _ rfl rfl
     have f6 : ux12 6 = (vI (wr (s4.2 + 1))):=hp 1 _ rfl rfl
     exact T4 hE Za ld (lk rfl f4) (lk rfl f6) Tryz.underlying22 ty5 hi18.1 fun a hE=>kq rfl hE rfl
    ·intro a w ux12 hE hM hp
     have f7 : ux12 7 = (ptr pb1 (0 + ((wr (s4.2 + 1))).toNat * 1)):=hp 0 _ rfl rfl
     exact ZR (v:=(vB x16)) hE (lk rfl f7) ty5 rfl (At.vec hM.rawAt0 hi18.2) fun a hE=>kq rfl hE rfl
    ·exact qm
    ·exact qm
    ·intro a w ux12 hE hM hp
     have f10 : ux12 10 = (vI s4.2):=hp 0 _ rfl rfl
     exact Zl hE (lk rfl f10) rfl rfl fun a hE=>kq rfl hE rfl
    ·intro a w ux12 hE hM hp
     have f9 : ux12 9 = (Value.slice (some ⟨pb1,0,none⟩) 16 16):=hp 0 _ rfl rfl
     have f11 : ux12 11 = (vI (wr (s4.2 + 2))):=hp 1 _ rfl rfl
     exact T4 hE Za ld (lk rfl f9) (lk rfl f11) Tryz.underlying22 ty5 hi21.1 fun a hE=>kq rfl hE rfl
    ·intro a w ux12 hE hM hp
     have f12 : ux12 12 = (ptr pb1 (0 + ((wr (s4.2 + 2))).toNat * 1)):=hp 0 _ rfl rfl
     exact ZR (v:=(vB x19)) hE (lk rfl f12) ty5 rfl (At.vec hM.rawAt0 hi21.2) fun a hE=>kq rfl hE rfl
    ·exact qm
    ·exact qm
    ·intro a w ux12 hE hM hp
     have f15 : ux12 15 = (vI s4.2):=hp 0 _ rfl rfl
     exact Zl hE (lk rfl f15) rfl rfl fun a hE=>kq rfl hE rfl
    ·intro a w ux12 hE hM hp
     have f14 : ux12 14 = (Value.slice (some ⟨pb1,0,none⟩) 16 16):=hp 0 _ rfl rfl
     have f16 : ux12 16 = (vI (wr (s4.2 + 3))):=hp 1 _ rfl rfl
     exact T4 hE Za ld (lk rfl f14) (lk rfl f16) Tryz.underlying22 ty5 hi24.1 fun a hE=>kq rfl hE rfl
    ·intro a w ux12 hE hM hp
     have f17 : ux12 17 = (ptr pb1 (0 + ((wr (s4.2 + 3))).toNat * 1)):=hp 0 _ rfl rfl
     exact ZR (v:=(vB x22)) hE (lk rfl f17) ty5 rfl (At.vec hM.rawAt0 hi24.2) fun a hE=>kq rfl hE rfl
    ·intro a w ux12 hE hM hp
     have f3 : ux12 3 = (vB x13):=hp 0 _ rfl rfl
     exact Zc hE (lk rfl f3) fun a hE=>kq rfl hE rfl
    ·intro a w ux12 hE hM hp
     have f8 : ux12 8 = (vB x16):=hp 0 _ rfl rfl
     exact Zc hE (lk rfl f8) fun a hE=>kq rfl hE rfl
    ·intro a w ux12 hE hM hp
     have f13 : ux12 13 = (vB x19):=hp 0 _ rfl rfl
     exact Zc hE (lk rfl f13) fun a hE=>kq rfl hE rfl
    ·intro a w ux12 hE hM hp
     have f18 : ux12 18 = (vB x22):=hp 0 _ rfl rfl
     exact Zc hE (lk rfl f18) fun a hE=>kq rfl hE rfl
    ·intro a w ux12 hE hM hg
     have hE:=hE.sub (e':=[(5,vB x13),(6,vB x16),(7,vB x19),(8,vB x22),(0,v0_1),(1,(Value.slice (some ⟨pb1,0,none⟩) 16 16)),(4,vI s4.2),(10,vI s4.2),(11,(Value.slice (some ⟨pb1,0,none⟩) 16 16)),(12,(vI (s4.1.toList.length : Int))),(13,(vT (decide (s4.2 < (s4.1.toList.length : Int)))))]) ⟨lk rfl (hg 19 (by decide)),lk rfl (hg 20 (by decide)),lk rfl (hg 21 (by decide)),lk rfl (hg 22 (by decide)),rfl,rfl,rfl,rfl,rfl,rfl,rfl,trivial⟩
     refine Zh ?_
     obtain rfl:=Option.some.inj hl10
     refine Zi ?_
     exact ⟨hE.sub ⟨rfl,rfl,rfl,rfl,rfl,rfl,rfl,trivial⟩,hM⟩
   ·skip
    rintro a w ⟨hE,hM⟩
    refine Zb (Zd hE rfl fun a hE=>Ze ?_)
    obtain ⟨j26,hl27,hF28⟩:=bind_some hF11
    refine ZS (fun a w=>Env 79 a [(0,v0_1),(1,(Value.slice (some ⟨pb1,0,none⟩) 16 16)),(4,vI s4.2)] ∧ M St W w (raw pb1 (enc j26) :: its)) ?_ ?_
    ·skip
     refine wp_block ?_
     refine ZO (fun (s29 : (Vector UInt8 16) × Int) a w=>Env 79 a [(0,v0_1),(1,(Value.slice (some ⟨pb1,0,none⟩) 16 16)),(4,vI s4.2),(5,vB j9.1),(6,vB j9.2.1),(7,vB j9.2.2.1),(8,vB j9.2.2.2),(35,vI s29.2)] ∧ M St W w (raw pb1 (enc s29.1) :: its)) hl27 ⟨hE.sub ⟨rfl,rfl,rfl,rfl,rfl,rfl,rfl,rfl,trivial⟩,hM⟩ ?_
     rintro s29 a w ⟨hE,hM⟩ o32 hs30 hx31
     unfold WC at hs30
     refine Zb (Zl hE rfl rfl rfl fun a hE=>Ze (wp_seq ?_))
     refine Zr hE rfl ?_ ?_
     ·intro hb33
      have hs30:=Zu hs30 hb33
      refine wp_skip (Zz (wp_seq (wp_block (Zb (Zd hE rfl fun a hE=>Zc hE rfl fun a hE=>Ze ?_)))))
      obtain ⟨pb35,ds36,hv37,hx38,hA39,hB40⟩:=U7 hv0_1 -- ^
      obtain ⟨rfl,_⟩:=J2.1 hx38 -- ^
      obtain ⟨x42,hi41,hs30⟩:=bvx hs30
      obtain ⟨x45,hi44,hs30⟩:=bvx hs30
      obtain ⟨x48,hi47,hs30⟩:=bvx hs30
      obtain ⟨pb50,ds51,hv52,hx53,hA54,hB55⟩:=U7 hv0_1 -- ^
      obtain ⟨rfl,_⟩:=J2.1 hx53 -- ^
      obtain ⟨x57,hi56,hs30⟩:=bvx hs30
      obtain ⟨x60,hi59,hs30⟩:=bvx hs30
      obtain ⟨x63,hi62,hs30⟩:=bvx hs30
      obtain ⟨pb65,ds66,hv67,hx68,hA69,hB70⟩:=U7 hv0_1 -- ^
      obtain ⟨rfl,_⟩:=J2.1 hx68 -- ^
      obtain ⟨x72,hi71,hs30⟩:=bvx hs30
      obtain ⟨x75,hi74,hs30⟩:=bvx hs30
      obtain ⟨x78,hi77,hs30⟩:=bvx hs30
      obtain ⟨pb80,ds81,hv82,hx83,hA84,hB85⟩:=U7 hv0_1 -- ^
      obtain ⟨rfl,_⟩:=J2.1 hx83 -- ^
      obtain ⟨x87,hi86,hs30⟩:=bvx hs30
      obtain ⟨x90,hi89,hs30⟩:=bvx hs30
      obtain ⟨x93,hi92,hs30⟩:=bvx hs30
      obtain ⟨x95,hi97,hs30⟩:=bvx hs30
      refine kL (n:=79) (hd:=[_,_,_,_,_,_,_,_,_,_,_,_,_,_,_,_,_,_,_,_,_,_,_,_,_,_,_,_,_,_,_,_,_,_,_,_,_,_,_,_]) (tl:=[_]) Xm rfl rfl [38,39,40,41,42,43,44,45,46,47,48,49,50,51,52,53,54,55,56,57,58,59,60,61,62,63,64,65,66,67,68,69,70,71,72,73,74,75,76,77] (by decide) (fun w=>M St W w (raw pb1 (enc s29.1) :: its)) (fun j=>([fun v _=>v = (Value.slice (some ⟨pb1,0,none⟩) 16 16),fun v _=>v = (vI s4.2),fun v _=>v = (vI s29.2),fun v _=>v = (vI (wr (s4.2 + s29.2))),fun v _=>v = v0_1,fun v _=>v = (vI s29.2),fun v _=>v = (vB j9.1),fun v _=>v = (ptr pb35 0),fun v _=>v = (ptr pb35 (0 + (s29.2).toNat * 1024)),fun v _=>v = (ptr pb35 (0 + (s29.2).toNat * 1024 + ((0 : Int)).toNat * 256)),fun v _=>v = (ptr pb35 (0 + (s29.2).toNat * 1024 + ((0 : Int)).toNat * 256 + ((bI j9.1)).toNat * 1)),fun v _=>v = (vB x48),fun v _=>v = v0_1,fun v _=>v = (vI s29.2),fun v _=>v = (vB j9.2.1),fun v _=>v = (ptr pb50 0),fun v _=>v = (ptr pb50 (0 + (s29.2).toNat * 1024)),fun v _=>v = (ptr pb50 (0 + (s29.2).toNat * 1024 + ((1 : Int)).toNat * 256)),fun v _=>v = (ptr pb50 (0 + (s29.2).toNat * 1024 + ((1 : Int)).toNat * 256 + ((bI j9.2.1)).toNat * 1)),fun v _=>v = (vB x63),fun v _=>v = (vB (x48 ^^^ x63)),fun v _=>v = v0_1,fun v _=>v = (vI s29.2),fun v _=>v = (vB j9.2.2.1),fun v _=>v = (ptr pb65 0),fun v _=>v = (ptr pb65 (0 + (s29.2).toNat * 1024)),fun v _=>v = (ptr pb65 (0 + (s29.2).toNat * 1024 + ((2 : Int)).toNat * 256)),fun v _=>v = (ptr pb65 (0 + (s29.2).toNat * 1024 + ((2 : Int)).toNat * 256 + ((bI j9.2.2.1)).toNat * 1)),fun v _=>v = (vB x78),fun v _=>v = (vB ((x48 ^^^ x63) ^^^ x78)),fun v _=>v = v0_1,fun v _=>v = (vI s29.2),fun v _=>v = (vB j9.2.2.2),fun v _=>v = (ptr pb80 0),fun v _=>v = (ptr pb80 (0 + (s29.2).toNat * 1024)),fun v _=>v = (ptr pb80 (0 + (s29.2).toNat * 1024 + ((3 : Int)).toNat * 256)),fun v _=>v = (ptr pb80 (0 + (s29.2).toNat * 1024 + ((3 : Int)).toNat * 256 + ((bI j9.2.2.2)).toNat * 1)),fun v _=>v = (vB x93),fun v _=>v = (vB (((x48 ^^^ x63) ^^^ x78) ^^^ x93)),fun v _=>v = (ptr pb1 (0 + ((wr (s4.2 + s29.2))).toNat * 1))] : List (Value → World → Prop)).getD j (fun _ _=>True)) (fun _ _ h hk=>h.keep hk) (gup (Xp (Xp (Xp (Xp (Xp (Xp (Xp (Xp (Xp (Xp (Xp (Xp (Xp (Xp (Xp (Xp (Xp (Xp (Xp (Xp (Xp (Xp (Xp (Xp (Xp (Xp (Xp (Xp (Xp (Xp (Xp (Xp (Xp (Xp (Xp (Xp (Xp (Xp (Xp (Xp gupN))))))))))))))))))))))))))))))))))))))))) hE hM.drew (yj (ZC ?_ (ZC ?_ (ZC ?_ (ZC ?_ (ZC ?_ (ZC ?_ (ZC ?_ (ZC ?_ (ZC ?_ (ZC ?_ (ZC ?_ (ZC ?_ (ZC ?_ (ZC ?_ (ZC ?_ (ZC ?_ (ZC ?_ (ZC ?_ (ZC ?_ (ZC ?_ (ZC ?_ (ZC ?_ (ZC ?_ (ZC ?_ (ZC ?_ (ZC ?_ (ZC ?_ (ZC ?_ (ZC ?_ (ZC ?_ (ZC ?_ (ZC ?_ (ZC ?_ (ZC ?_ (ZC ?_ (ZC ?_ (ZC ?_ (ZC ?_ (ZC ?_ (ZC ?_ zc))))))))))))))))))))))))))))))))))))))))) ?_
      ·exact qm
      ·exact qm
      ·exact qm
      ·intro a w ux34 hE hM hp
       have f1 : ux34 1 = (vI s4.2):=hp 0 _ rfl rfl
       have f2 : ux34 2 = (vI s29.2):=hp 1 _ rfl rfl
       exact Zl hE (lk rfl f1) (lk rfl f2) rfl fun a hE=>kq rfl hE rfl
      ·exact qm
      ·exact qm
      ·exact qm
      ·intro a w ux34 hE hM hp
       have f4 : ux34 4 = v0_1:=hp 0 _ rfl rfl
       exact ZV hE Za ld (lk (lk rfl f4) hv37) fun a hE=>kq rfl hE rfl
      ·intro a w ux34 hE hM hp
       have f5 : ux34 5 = (vI s29.2):=hp 1 _ rfl rfl
       have f7 : ux34 7 = (ptr pb35 0):=hp 0 _ rfl rfl
       exact Zw hE (lk rfl f7) (lk rfl f5) Tryz.underlying130 B4 hi41.1 fun a hE=>kq rfl hE rfl
      ·intro a w ux34 hE hM hp
       have f8 : ux34 8 = (ptr pb35 (0 + (s29.2).toNat * 1024)):=hp 0 _ rfl rfl
       exact Zw hE (lk rfl f8) rfl Tryz.underlying128 ty24 hi44.1 fun a hE=>kq rfl hE rfl
      ·intro a w ux34 hE hM hp
       have f6 : ux34 6 = (vB j9.1):=hp 1 _ rfl rfl
       have f9 : ux34 9 = (ptr pb35 (0 + (s29.2).toNat * 1024 + ((0 : Int)).toNat * 256)):=hp 0 _ rfl rfl
       exact Zw hE (lk rfl f9) (lk rfl f6) Tryz.underlying24 ty5 hi47.1 fun a hE=>kq rfl hE rfl
      ·intro a w ux34 hE hM hp
       have f10 : ux34 10 = (ptr pb35 (0 + (s29.2).toNat * 1024 + ((0 : Int)).toNat * 256 + ((bI j9.1)).toNat * 1)):=hp 0 _ rfl rfl
       exact ZR (v:=(vB x48)) hE (lk rfl f10) ty5 rfl (At.vec (At.vec (At.vec (hM.atk hA39 hB40) hi41.2) hi44.2) hi47.2) fun a hE=>kq rfl hE rfl
      ·exact qm
      ·exact qm
      ·exact qm
      ·intro a w ux34 hE hM hp
       have f12 : ux34 12 = v0_1:=hp 0 _ rfl rfl
       exact ZV hE Za ld (lk (lk rfl f12) hv52) fun a hE=>kq rfl hE rfl
      ·intro a w ux34 hE hM hp
       have f13 : ux34 13 = (vI s29.2):=hp 1 _ rfl rfl
       have f15 : ux34 15 = (ptr pb50 0):=hp 0 _ rfl rfl
       exact Zw hE (lk rfl f15) (lk rfl f13) Tryz.underlying130 B4 hi56.1 fun a hE=>kq rfl hE rfl
      ·intro a w ux34 hE hM hp
       have f16 : ux34 16 = (ptr pb50 (0 + (s29.2).toNat * 1024)):=hp 0 _ rfl rfl
       exact Zw hE (lk rfl f16) rfl Tryz.underlying128 ty24 hi59.1 fun a hE=>kq rfl hE rfl
      ·intro a w ux34 hE hM hp
       have f14 : ux34 14 = (vB j9.2.1):=hp 1 _ rfl rfl
       have f17 : ux34 17 = (ptr pb50 (0 + (s29.2).toNat * 1024 + ((1 : Int)).toNat * 256)):=hp 0 _ rfl rfl
       exact Zw hE (lk rfl f17) (lk rfl f14) Tryz.underlying24 ty5 hi62.1 fun a hE=>kq rfl hE rfl
      ·intro a w ux34 hE hM hp
       have f18 : ux34 18 = (ptr pb50 (0 + (s29.2).toNat * 1024 + ((1 : Int)).toNat * 256 + ((bI j9.2.1)).toNat * 1)):=hp 0 _ rfl rfl
       exact ZR (v:=(vB x63)) hE (lk rfl f18) ty5 rfl (At.vec (At.vec (At.vec (hM.atk hA54 hB55) hi56.2) hi59.2) hi62.2) fun a hE=>kq rfl hE rfl
      ·intro a w ux34 hE hM hp
       have f11 : ux34 11 = (vB x48):=hp 0 _ rfl rfl
       have f19 : ux34 19 = (vB x63):=hp 1 _ rfl rfl
       exact Zl hE (lk rfl f11) (lk rfl f19) (WI x48 x63) fun a hE=>kq rfl hE rfl
      ·exact qm
      ·exact qm
      ·exact qm
      ·intro a w ux34 hE hM hp
       have f21 : ux34 21 = v0_1:=hp 0 _ rfl rfl
       exact ZV hE Za ld (lk (lk rfl f21) hv67) fun a hE=>kq rfl hE rfl
      ·intro a w ux34 hE hM hp
       have f22 : ux34 22 = (vI s29.2):=hp 1 _ rfl rfl
       have f24 : ux34 24 = (ptr pb65 0):=hp 0 _ rfl rfl
       exact Zw hE (lk rfl f24) (lk rfl f22) Tryz.underlying130 B4 hi71.1 fun a hE=>kq rfl hE rfl
      ·intro a w ux34 hE hM hp
       have f25 : ux34 25 = (ptr pb65 (0 + (s29.2).toNat * 1024)):=hp 0 _ rfl rfl
       exact Zw hE (lk rfl f25) rfl Tryz.underlying128 ty24 hi74.1 fun a hE=>kq rfl hE rfl
      ·intro a w ux34 hE hM hp
       have f23 : ux34 23 = (vB j9.2.2.1):=hp 1 _ rfl rfl
       have f26 : ux34 26 = (ptr pb65 (0 + (s29.2).toNat * 1024 + ((2 : Int)).toNat * 256)):=hp 0 _ rfl rfl
       exact Zw hE (lk rfl f26) (lk rfl f23) Tryz.underlying24 ty5 hi77.1 fun a hE=>kq rfl hE rfl
      ·intro a w ux34 hE hM hp
       have f27 : ux34 27 = (ptr pb65 (0 + (s29.2).toNat * 1024 + ((2 : Int)).toNat * 256 + ((bI j9.2.2.1)).toNat * 1)):=hp 0 _ rfl rfl
       exact ZR (v:=(vB x78)) hE (lk rfl f27) ty5 rfl (At.vec (At.vec (At.vec (hM.atk hA69 hB70) hi71.2) hi74.2) hi77.2) fun a hE=>kq rfl hE rfl
      ·intro a w ux34 hE hM hp
       have f20 : ux34 20 = (vB (x48 ^^^ x63)):=hp 0 _ rfl rfl
       have f28 : ux34 28 = (vB x78):=hp 1 _ rfl rfl
       exact Zl hE (lk rfl f20) (lk rfl f28) (WI (x48 ^^^ x63) x78) fun a hE=>kq rfl hE rfl
      ·exact qm
      ·exact qm
      ·exact qm
      ·intro a w ux34 hE hM hp
       have f30 : ux34 30 = v0_1:=hp 0 _ rfl rfl
       exact ZV hE Za ld (lk (lk rfl f30) hv82) fun a hE=>kq rfl hE rfl
      ·intro a w ux34 hE hM hp
       have f31 : ux34 31 = (vI s29.2):=hp 1 _ rfl rfl
       have f33 : ux34 33 = (ptr pb80 0):=hp 0 _ rfl rfl
       exact Zw hE (lk rfl f33) (lk rfl f31) Tryz.underlying130 B4 hi86.1 fun a hE=>kq rfl hE rfl
      ·intro a w ux34 hE hM hp
       have f34 : ux34 34 = (ptr pb80 (0 + (s29.2).toNat * 1024)):=hp 0 _ rfl rfl
       exact Zw hE (lk rfl f34) rfl Tryz.underlying128 ty24 hi89.1 fun a hE=>kq rfl hE rfl
      ·intro a w ux34 hE hM hp
       have f32 : ux34 32 = (vB j9.2.2.2):=hp 1 _ rfl rfl
       have f35 : ux34 35 = (ptr pb80 (0 + (s29.2).toNat * 1024 + ((3 : Int)).toNat * 256)):=hp 0 _ rfl rfl
       exact Zw hE (lk rfl f35) (lk rfl f32) Tryz.underlying24 ty5 hi92.1 fun a hE=>kq rfl hE rfl
      ·intro a w ux34 hE hM hp
       have f36 : ux34 36 = (ptr pb80 (0 + (s29.2).toNat * 1024 + ((3 : Int)).toNat * 256 + ((bI j9.2.2.2)).toNat * 1)):=hp 0 _ rfl rfl
       exact ZR (v:=(vB x93)) hE (lk rfl f36) ty5 rfl (At.vec (At.vec (At.vec (hM.atk hA84 hB85) hi86.2) hi89.2) hi92.2) fun a hE=>kq rfl hE rfl
      ·intro a w ux34 hE hM hp
       have f29 : ux34 29 = (vB ((x48 ^^^ x63) ^^^ x78)):=hp 0 _ rfl rfl
       have f37 : ux34 37 = (vB x93):=hp 1 _ rfl rfl
       exact Zl hE (lk rfl f29) (lk rfl f37) (WI ((x48 ^^^ x63) ^^^ x78) x93) fun a hE=>kq rfl hE rfl
      ·intro a w ux34 hE hM hp
       have f0 : ux34 0 = (Value.slice (some ⟨pb1,0,none⟩) 16 16):=hp 0 _ rfl rfl
       have f3 : ux34 3 = (vI (wr (s4.2 + s29.2))):=hp 1 _ rfl rfl
       exact T4 hE Za ld (lk rfl f0) (lk rfl f3) Tryz.underlying22 ty5 hi97.1 fun a hE=>kq rfl hE rfl
      ·intro a w ux34 hE hM hg
       have hE:=hE.sub (e':=[(76,(vB (((x48 ^^^ x63) ^^^ x78) ^^^ x93))),(77,(ptr pb1 (0 + ((wr (s4.2 + s29.2))).toNat * 1))),(0,v0_1),(1,(Value.slice (some ⟨pb1,0,none⟩) 16 16)),(4,vI s4.2),(5,vB j9.1),(6,vB j9.2.1),(7,vB j9.2.2.1),(8,vB j9.2.2.2),(9,vI s29.2),(35,vI s29.2),(36,(vT (decide (s29.2 < 4)))),(37,vI s29.2)]) ⟨lk rfl (hg 38 (by decide)),lk rfl (hg 39 (by decide)),rfl,rfl,rfl,rfl,rfl,rfl,rfl,rfl,rfl,rfl,rfl,trivial⟩
       refine Zg (seg:=[(vB (((x48 ^^^ x63) ^^^ x78) ^^^ x93))]) (cs':=enc (s29.1.setIfInBounds ((wr (s4.2 + s29.2))).toNat (((x48 ^^^ x63) ^^^ x78) ^^^ x93))) hE hM Za rfl rfl rfl ty5 rfl (ZE (v:=s29.1) (x:=((x48 ^^^ x63) ^^^ x78) ^^^ x93) hi97.1) (Flat.cell (((x48 ^^^ x63) ^^^ x78) ^^^ x93 : UInt8)) (Zy (v:=s29.1) (x:=((x48 ^^^ x63) ^^^ x78) ^^^ x93) hi97.1) fun w a hM hE=>Zh (Z9 (Zz (wp_region_lit (Zl hE rfl rfl rfl fun a hE=>Zd hE rfl fun a hE=>Zh (Zi ?_)))))
       exact ⟨_,(ois hs30),hE.sub ⟨rfl,rfl,rfl,rfl,rfl,rfl,rfl,rfl,trivial⟩,hM⟩
     ·intro hb33
      have hs30:=Zt hs30 hb33
      refine wp_exit (Zq (Zq (Yi ?_)))
      obtain rfl:=hx31 _ (ois hs30)
      refine Zi ?_
      exact ⟨hE.sub ⟨rfl,rfl,rfl,trivial⟩,hM⟩
    ·skip
     rintro a w ⟨hE,hM⟩
     refine Z9 (Zz (wp_region_lit (Zd hE rfl fun a hE=>Zl hE rfl rfl rfl fun a hE=>Zc hE rfl fun a hE=>Zh (Zi ?_))))
     exact ⟨_,(ois hF28),hE.sub ⟨rfl,rfl,rfl,trivial⟩,hM⟩
  ·intro hb8
   have hs5:=Zt hs5 hb8
   refine wp_exit (Zq (Zq (Yi ?_)))
   obtain rfl:=hx6 _ (ois hs5)
   refine Zi ?_
   exact ⟨hE.sub ⟨rfl,trivial⟩,hM⟩
 ·skip
  rintro a w ⟨hE,hM⟩
  obtain rfl:=Option.some.inj hF3
  exact Zaz hE (by rfl) ⟨_,rfl,rfl,hM⟩
def Ys (p0 : (Ref Gengine)) (s18 : (Vector UInt8 16) × Int) (s29 : (Vector UInt8 16) × Int) : Option (Fl ((Vector UInt8 16) × Int) (Vector UInt8 16)) :=
 if (decide (s29.2 < 16)) = true then ((ZB s18.1 s29.2).bind fun x34=>(ZB p0.v.box (bI x34)).bind fun x48=>(ZB s29.1 s29.2).bind fun x51=>some (Fl.nx ((s29.1.setIfInBounds (s29.2).toNat x48),wr (s29.2 + 1)))) else (some (Fl.ex s29.1))
def Yr (p0 : (Ref Gengine)) (p1 : (List (Vector UInt8 16))) (s18 : (Vector UInt8 16) × Int) : Option (Fl ((Vector UInt8 16) × Int) (Vector UInt8 16)) :=
 if (decide (s18.2 < (p1.length : Int))) = true then (((ZK (Ys p0 s18) (s18.1,0)).bind fun j26=>((W6 p0.v.places j26).bind fun r68=>some r68 : Option ((Vector UInt8 16))).bind fun j54=>(if (decide (s18.2 < (wr ((p1.length : Int) - 1)))) = true then ((slc j54.toList (0 : Int) (16 : Int)).bind fun l86=>(VU p0.v.mixer j54).bind fun r89=>some r89) else (some j54) : Option ((Vector UInt8 16))).bind fun j71=>(idx p1 s18.2).bind fun x94=>(Xr j71 x94).bind fun r97=>some r97 : Option ((Vector UInt8 16))).bind fun j23=>some (Fl.nx (j23,wr (s18.2 + 1)))) else (some (Fl.ex s18.1))
def YY (p0 : (Ref Gengine)) (p1 : (List (Vector UInt8 16))) (p2 : (Vector UInt8 16)) : Option ((Vector UInt8 16)) :=
 ((idx p1 (0 : Int)).bind fun x9=>(Xr p2 x9).bind fun r12=>some r12 : Option ((Vector UInt8 16))).bind fun j5=>(ZK (Yr p0 p1) (j5,1)).bind fun j15=>some j15
theorem Qz (w0 : World) (p0 : (Ref Gengine)) (v0_1 : Value) (hv0_1 : Ro w0 p0 [v0_1]) (p1 : (List (Vector UInt8 16))) (v1_1 : Value) (hv1_1 : Ro w0 p1 [v1_1]) (p2 : (Vector UInt8 16)) (r : (Vector UInt8 16)) (hF : YY p0 p1 p2 = some r) :
  Calls Tryz.prog 74 [v0_1,v1_1,(Value.agg (enc p2).toArray)].toArray w0 (Rt w0 (Value.agg (enc r).toArray)):=by
 refine ce Tryz.func74 ?_
 intro a hE
 have hM:=M.start w0
 unfold YY at hF
 refine Zb (ZY (cs:=enc p2) hE hM Za ld rfl rfl fun b1 w a hM hE=>Zs hE hM Zv fun b3 w a hM hE=>Ze ?_)
 obtain ⟨j5,hl6,hF7⟩:=bind_some hF
 refine ZQ (fun a w=>Env 59 a [(0,v0_1),(1,v1_1),(5,(ptr b1 0)),(6,(ptr b3 0))] ∧ M (Old w0) w0 w [raw b3 (enc (Vector.replicate 16 (0 : UInt8))),raw b1 (enc j5)]) ?_ ?_
 ·skip
  obtain ⟨x9,hi11,hl6⟩:=bix hl6
  obtain ⟨r12,e13,hl6⟩:=bind_some hl6
  refine Yl [10,11,12,13,14] Xm rfl rfl (by decide) rfl hE hM (qsP (fun z=>YE z.E Za ld rfl Zv rfl (z.M.rawAt1) (Flat.len _) (kr0 rfl)) (qsP (fun z=>Zj z.E Za ld rfl (kr0 rfl)) (qsP (fun z=>X7 z.E Za ld rfl rfl Tryz.underlying36 Zv (z.M.rd hv1_1) hi11.1 (kr0 rfl)) (qsP (fun z=>YE z.E Za ld rfl Zv rfl (Y1 (z.M.rd hv1_1) hi11.2) (Flat.len _) (kr0 rfl)) (qsP (fun z=>YD z.E Za ld rfl cb33 (TP _ p2 x9 r12 e13) (kc rfl)) qs0))))) ?_
  ·intro a w u hE hM
   have hM:=hM.pull1
   refine Zg (seg:=enc r12) (cs':=enc r12) hE hM Za rfl rfl rfl Zv (Flat.len _) (zle flq) (Flat.cell _) (Zf flq) fun w a hM hE=>Zh ?_
   obtain rfl:=Option.some.inj hl6
   refine Zi ?_
   have hM:=hM.pull1
   exact ⟨hE.sub ⟨rfl,rfl,rfl,rfl,trivial⟩,hM⟩
 ·skip
  rintro a w ⟨hE,hM⟩
  refine wp_seq (Zb (Zc hE rfl fun a hE=>Ze ?_))
  obtain ⟨j15,hl16,hF17⟩:=bind_some hF7
  refine ZS (fun a w=>Env 59 a [(5,(ptr b1 0)),(6,(ptr b3 0))] ∧ M (Old w0) w0 w [raw b3 (enc (Vector.replicate 16 (0 : UInt8))),raw b1 (enc j15)]) ?_ ?_
  ·skip
   refine wp_block ?_
   refine ZO (fun (s18 : (Vector UInt8 16) × Int) a w=>Env 59 a [(0,v0_1),(1,v1_1),(5,(ptr b1 0)),(6,(ptr b3 0)),(7,vI s18.2)] ∧ M (Old w0) w0 w [raw b3 (enc (Vector.replicate 16 (0 : UInt8))),raw b1 (enc s18.1)]) hl16 ⟨hE.sub ⟨rfl,rfl,rfl,rfl,rfl,trivial⟩,hM⟩ ?_
   rintro s18 a w ⟨hE,hM⟩ o21 hs19 hx20
   unfold Yr at hs19
   refine wp_seq (Zb (Zd hE rfl fun a hE=>Zd hE rfl fun a hE=>Wm hE rfl Tryz.underlying36 (hM.rd hv1_1) fun a hE=>Zl hE rfl rfl rfl fun a hE=>Ze ?_))
   refine Zr hE rfl ?_ ?_
   ·intro hb22
    have hs19:=Zu hs19 hb22
    refine wp_skip (Zz ?_)
    obtain ⟨j23,hl24,hF25⟩:=bind_some hs19
    refine ZQ (fun a w=>Env 59 a [(0,v0_1),(1,v1_1),(5,(ptr b1 0)),(6,(ptr b3 0)),(7,vI s18.2)] ∧ M (Old w0) w0 w [raw b3 (enc (Vector.replicate 16 (0 : UInt8))),raw b1 (enc j23)]) ?_ ?_
    ·skip
     refine wp_block (wp_seq (Zb (Zk hE rfl Zv rfl hM.rawAt1 (Flat.len _) fun a hE=>Zd hE rfl fun a hE=>Ze ?_)))
     obtain ⟨j26,hl27,hF28⟩:=bind_some hl24
     refine ZS (fun a w=>Env 59 a [(0,v0_1),(1,v1_1),(5,(ptr b1 0)),(6,(ptr b3 0)),(7,vI s18.2)] ∧ M (Old w0) w0 w [raw b3 (enc (Vector.replicate 16 (0 : UInt8))),raw b1 (enc j26)]) ?_ ?_
     ·skip
      refine wp_block ?_
      refine ZO (fun (s29 : (Vector UInt8 16) × Int) a w=>Env 59 a [(0,v0_1),(1,v1_1),(5,(ptr b1 0)),(6,(ptr b3 0)),(7,vI s18.2),(21,(Value.agg (enc s18.1).toArray)),(22,vI s29.2)] ∧ M (Old w0) w0 w [raw b3 (enc (Vector.replicate 16 (0 : UInt8))),raw b1 (enc s29.1)]) hl27 ⟨hE.sub ⟨rfl,rfl,rfl,rfl,rfl,rfl,rfl,trivial⟩,hM⟩ ?_
      rintro s29 a w ⟨hE,hM⟩ o32 hs30 hx31
      unfold Ys at hs30
      refine Zb (Zl hE rfl rfl rfl fun a hE=>Ze (wp_seq ?_))
      refine Zr hE rfl ?_ ?_
      ·intro hb33
       have hs30:=Zu hs30 hb33
       refine wp_skip (Zz (wp_seq (wp_block (Zb (Zd hE rfl ?_))))); intro a hE
       obtain ⟨x34,hi36,hs30⟩:=bvx hs30
       refine QD hE Za ld rfl rfl Tryz.underlying33 ty5 rfl rfl hi36 rfl fun a hE=>Zc hE rfl fun a hE=>Zc hE rfl fun a hE=>Ze (wp_region_lit (Zd hE rfl fun a hE=>Zd hE rfl fun a hE=>Zd hE rfl ?_)); intro a hE
       obtain ⟨pb37,ds38,hv39,hx40,hA41,hB42⟩:=U7 hv0_1 -- ^
       obtain ⟨u43,u45,rfl,h44,h46⟩:=TS hx40 -- ^
       refine ZV hE Za ld (lk rfl hv39) fun a hE=>ZJ hE rfl (zA) ?_; intro a hE
       obtain ⟨x48,hi47,hs30⟩:=bvx hs30
       refine Zw hE rfl rfl Tryz.underlying25 ty5 hi47.1 fun a hE=>ZR (v:=(vB x48)) hE rfl ty5 rfl (At.vec (At.cat (pre:=[]) (hM.atk hA41 hB42) cl0) hi47.2) ?_; intro a hE
       obtain ⟨x51,hi50,hs30⟩:=bvx hs30
       refine Zw hE rfl rfl Tryz.underlying33 ty5 hi50.1 ?_; intro a hE
       have hM:=hM.pull1
       refine Zg (seg:=[vB x48]) (cs':=enc (s29.1.setIfInBounds (s29.2).toNat x48)) hE hM Za rfl rfl rfl ty5 rfl (ZE (v:=s29.1) (x:=x48) hi50.1) (Flat.cell (x48 : UInt8)) (Zy (v:=s29.1) (x:=x48) hi50.1) fun w a hM hE=>Zh (Z9 (Zz (wp_region_lit (Zl hE rfl rfl rfl fun a hE=>Zd hE rfl fun a hE=>Zh (Zi ?_)))))
       have hM:=hM.pull1
       exact ⟨_,(ois hs30),hE.sub ⟨rfl,rfl,rfl,rfl,rfl,rfl,rfl,trivial⟩,hM⟩
      ·intro hb33
       have hs30:=Zt hs30 hb33
       refine wp_exit (Zq (Zq (Yi ?_)))
       obtain rfl:=hx31 _ (ois hs30)
       refine Zi ?_
       exact ⟨hE.sub ⟨rfl,rfl,rfl,rfl,rfl,trivial⟩,hM⟩
     ·skip
      rintro a w ⟨hE,hM⟩
      refine Zz ?_
      obtain ⟨j54,hl55,hF56⟩:=bind_some hF28
      refine ZQ (fun a w=>Env 59 a [(0,v0_1),(1,v1_1),(5,(ptr b1 0)),(6,(ptr b3 0)),(7,vI s18.2)] ∧ M (Old w0) w0 w [raw b3 (enc (Vector.replicate 16 (0 : UInt8))),raw b1 (enc j54)]) ?_ ?_
      ·skip
       obtain ⟨pb58,ds59,hv60,hx61,hA62,hB63⟩:=U7 hv0_1 -- ^
       obtain ⟨u64,u66,rfl,h65,h67⟩:=TS hx61 -- ^
       obtain ⟨r68,e69,hl55⟩:=bind_some hl55
       refine Yl [35,36,37,38,39,40] Xm rfl rfl (by decide) rfl hE hM (qsP (fun z=>Zj z.E Za ld rfl (kr0 rfl)) (qsP (fun z=>ZV z.E Za ld (lk rfl hv60) (kr0 rfl)) (qsP (fun z=>ZP z.E Za ld rfl (Zau) (kr0 rfl)) (qsP (fun z=>YE z.E Za ld rfl KE rfl (At.cat (pre:=[enc p0.v.box,enc p0.v.backBox]) (z.M.atk hA62 hB63) ck) (Flat.len _) (kr0 rfl)) (qsP (fun z=>YE z.E Za ld rfl Zv rfl (z.M.rawAt1) (Flat.len _) (kr0 rfl)) (qsP (fun z=>YD z.E Za ld rfl (cbm Tryz.func96) (JB _ p0.v.places j26 r68 e69) (kc rfl)) qs0)))))) ?_
       ·intro a w u hE hM
        have hM:=hM.pull1
        refine Zg (seg:=enc r68) (cs':=enc r68) hE hM Za rfl rfl rfl Zv (Flat.len _) (zle flq) (Flat.cell _) (Zf flq) fun w a hM hE=>Zh ?_
        obtain rfl:=Option.some.inj hl55
        refine Zi ?_
        have hM:=hM.pull1
        exact ⟨hE.sub ⟨rfl,rfl,rfl,rfl,rfl,trivial⟩,hM⟩
      ·skip
       rintro a w ⟨hE,hM⟩
       obtain ⟨j71,hl72,hF73⟩:=bind_some hF56
       refine ZQ (fun a w=>Env 59 a [(0,v0_1),(1,v1_1),(5,(ptr b1 0)),(6,(ptr b3 0)),(7,vI s18.2)] ∧ M (Old w0) w0 w [raw b3 (enc (Vector.replicate 16 (0 : UInt8))),raw b1 (enc j71)]) ?_ ?_
       ·skip
        refine Zb (Zd hE rfl fun a hE=>Zd hE rfl fun a hE=>Wm hE rfl Tryz.underlying36 (hM.rd hv1_1) fun a hE=>Zl hE rfl rfl rfl fun a hE=>Zl hE rfl rfl rfl fun a hE=>Ze ?_)
        refine Zr hE rfl ?_ ?_
        ·intro hb74
         have hl72:=Zu hl72 hb74
         obtain ⟨pb76,ds77,hv78,hx79,hA80,hB81⟩:=U7 hv0_1 -- ^
         obtain ⟨u82,u84,rfl,h83,h85⟩:=TS hx79 -- ^
         obtain ⟨l86,e87,hl72⟩:=bind_some hl72
         have hb88:=BA e87 -- ^
         refine Yl [46,47,48,49,50] Xm rfl rfl (by decide) rfl hE hM (qsP (fun z=>Zj z.E Za ld rfl (kr0 rfl)) (qsP (fun z=>ZV z.E Za ld (lk rfl hv78) (kr0 rfl)) (qsP (fun z=>ZP z.E Za ld rfl (Zaw) (kr0 rfl)) (qsP (fun z=>Z0 (v:=u82) z.E Za ld rfl kJ rfl (At.cat (pre:=[enc p0.v.box,enc p0.v.backBox,enc p0.v.places,enc p0.v.backPlaces]) (z.M.atk hA80 hB81) ck) (kr0 rfl)) (qsP (fun z=>Kw (N:=16) z.E Za ld rfl rfl rfl rfl rfl Tryz.underlying33 ty5 hb88 (kr0 rfl)) qs0))))) ?_
         ·intro a w u hE hM
          have hM:=hM.pull1
          obtain ⟨r89,e90,hl72⟩:=bind_some hl72
          refine Zo hE rfl (cbm Tryz.func97) (HM _ _ _ _ p0.v.mixer u82 h83 b1 j54 hM r89 e90) ?_
          rintro v w a ⟨rfl,hM⟩ hE
          refine Zh ?_
          obtain rfl:=Option.some.inj hl72
          refine Zi ?_
          have hM:=hM.pull1
          exact ⟨hE.sub ⟨rfl,rfl,rfl,rfl,rfl,trivial⟩,hM⟩
        ·intro hb74
         have hl72:=Zt hl72 hb74
         refine wp_skip ?_
         obtain rfl:=Option.some.inj hl72
         refine Zi ?_
         exact ⟨hE.sub ⟨rfl,rfl,rfl,rfl,rfl,trivial⟩,hM⟩
       ·skip
        rintro a w ⟨hE,hM⟩
        obtain ⟨x94,hi96,hF73⟩:=bix hF73
        obtain ⟨r97,e98,hF73⟩:=bind_some hF73
        refine Yl [52,53,54,55,56,57] Xm rfl rfl (by decide) rfl hE hM (qsP (fun z=>YE z.E Za ld rfl Zv rfl (z.M.rawAt1) (Flat.len _) (kr0 rfl)) (qsP (fun z=>Zj z.E Za ld rfl (kr0 rfl)) (qsP (fun z=>Zj z.E Za ld rfl (kr0 rfl)) (qsP (fun z=>X7 z.E Za ld rfl rfl Tryz.underlying36 Zv (z.M.rd hv1_1) hi96.1 (kr0 rfl)) (qsP (fun z=>YE z.E Za ld rfl Zv rfl (Y1 (z.M.rd hv1_1) hi96.2) (Flat.len _) (kr0 rfl)) (qsP (fun z=>YD z.E Za ld rfl cb33 (TP _ j71 x94 r97 e98) (kc rfl)) qs0)))))) ?_
        ·intro a w u hE hM
         have hM:=hM.pull1
         refine Zg (seg:=enc r97) (cs':=enc r97) hE hM Za rfl rfl rfl Zv (Flat.len _) (zle flq) (Flat.cell _) (Zf flq) fun w a hM hE=>Zh (Z9 ?_)
         obtain rfl:=Option.some.inj hF73
         refine Zi ?_
         have hM:=hM.pull1
         exact ⟨hE.sub ⟨rfl,rfl,rfl,rfl,rfl,trivial⟩,hM⟩
    ·skip
     rintro a w ⟨hE,hM⟩
     refine wp_region_lit (Zd hE rfl fun a hE=>Zl hE rfl rfl rfl fun a hE=>Zc hE rfl fun a hE=>Zh (Zi ?_))
     exact ⟨_,(ois hF25),hE.sub ⟨rfl,rfl,rfl,rfl,rfl,trivial⟩,hM⟩
   ·intro hb22
    have hs19:=Zt hs19 hb22
    refine wp_exit (Zq (Zq (Yi ?_)))
    obtain rfl:=hx20 _ (ois hs19)
    refine Zi ?_
    exact ⟨hE.sub ⟨rfl,rfl,trivial⟩,hM⟩
  ·skip
   rintro a w ⟨hE,hM⟩
   refine Zz (Zb (Zk hE rfl Zv rfl hM.rawAt1 (Flat.len _) fun a hE=>Zg (seg:=enc j15) (cs':=enc j15) hE hM Za rfl rfl rfl Zv (Flat.len _) (zle flq) (Flat.cell _) (Zf flq) fun w a hM hE=>Ze ?_))
   obtain rfl:=Option.some.inj hF17
   have hq101 : ZX Tryz.prog _ _ (.cell 6 33) _:=ZN hE rfl Zv rfl hM.rawAt0 (Flat.len _) rfl
   exact wp_ret (Z2 hE rfl hq101 ⟨_,rfl,rfl,hM.kept⟩)
def We (p0 : (Ref Gengine)) (p1 : (List (Vector UInt8 16))) (p3 : Int) (s10 : (Vector UInt8 16) × Int × (List (Vector UInt8 16))) : Option (Fl ((Vector UInt8 16) × Int × (List (Vector UInt8 16))) (List (Vector UInt8 16))) :=
 if (decide (s10.2.1 < 256)) = true then ((ZB s10.1 p3).bind fun x18=>(YY p0 p1 (s10.1.setIfInBounds (p3).toNat (ZH s10.2.1))).bind fun r20=>(app 16 s10.2.2 ([r20] : List (Vector UInt8 16))).bind fun l24=>some (Fl.nx ((s10.1.setIfInBounds (p3).toNat (ZH s10.2.1)),wr (s10.2.1 + 1),(s10.2.2 ++ ([r20] : List (Vector UInt8 16)))))) else (some (Fl.ex s10.2.2))
def XI (p0 : (Ref Gengine)) (p1 : (List (Vector UInt8 16))) (p2 : (Vector UInt8 16)) (p3 : Int) : Option ((List (Vector UInt8 16))) :=
 (ZK (We p0 p1 p3) (p2,0,([] : List (Vector UInt8 16)))).bind fun j5=>some j5
theorem QU (w0 : World) (p0 : (Ref Gengine)) (v0_1 : Value) (hv0_1 : Ro w0 p0 [v0_1]) (p1 : (List (Vector UInt8 16))) (v1_1 : Value) (hv1_1 : Ro w0 p1 [v1_1]) (p2 : (Vector UInt8 16)) (p3 : Int) (r : (List (Vector UInt8 16))) (hF : XI p0 p1 p2 p3 = some r) :
  Calls Tryz.prog 49 [v0_1,v1_1,(Value.agg (enc p2).toArray),vI p3].toArray w0 (fun en w'=>∃ v,en = .returned v ∧ (∃ (y1 : Value),v = y1 ∧ Fr w0 w' [osl NoB (r : List (Vector UInt8 16)) y1] ∧ Kept (Old w0) w0 w')):=by
 refine ce Tryz.func49 ?_
 intro a hE
 have hM:=M.start w0
 unfold XI at hF
 refine Zb (ZY (cs:=enc p2) hE hM Za ld rfl rfl fun b1 w a hM hE=>Zc hE rfl fun a hE=>Ze (Zb (Yc (xs:=[]) (l:=([] : List (Vector UInt8 16))) (vs:=[]) hE hM Za ld rfl rfl Tryz.underlying36 Zv rfl (by decide) rfl fun u3 w a hM hE=>Zc hE rfl fun a hE=>Ze (wp_seq (Zb (Zd hE rfl fun a hE=>Ze ?_))))))
 obtain ⟨j5,hl6,hF7⟩:=bind_some hF
 refine ZS (fun a w=>∃ (u8 : Value),Env 28 a [(9,u8)] ∧ M (Old w0) w0 w [osl NoB (j5 : List (Vector UInt8 16)) u8]) ?_ ?_
 ·skip
  refine wp_block ?_
  have hM:=hM.pull1
  refine ZO (fun (s10 : (Vector UInt8 16) × Int × (List (Vector UInt8 16))) a w=>∃ (u11 : Value),Env 28 a [(0,v0_1),(1,v1_1),(3,vI p3),(6,(ptr b1 0)),(9,u11),(12,vI s10.2.1)] ∧ M (Old w0) w0 w [raw b1 (enc s10.1),osl NoB (s10.2.2 : List (Vector UInt8 16)) u11]) hl6 ⟨u3,hE.sub ⟨rfl,rfl,rfl,rfl,rfl,rfl,trivial⟩,hM⟩ ?_
  rintro s10 a w ⟨u11,hE,hM⟩ o15 hs13 hx14
  unfold We at hs13
  refine Zb (Zl hE rfl rfl rfl fun a hE=>Ze (wp_seq ?_))
  refine Zr hE rfl ?_ ?_
  ·intro hb16
   have hs13:=Zu hs13 hb16
   refine wp_skip (Zz (wp_seq (wp_block (Zb (Zd hE rfl fun a hE=>Zc hE rfl fun a hE=>Ze (Zb (Zd hE rfl fun a hE=>Zd hE rfl fun a hE=>YX hE Za ld rfl Tryz.underlying3 Tryz.underlying5 ?_))))))); intro a hE
   obtain ⟨x18,hi17,hs13⟩:=bvx hs13
   refine Zw hE rfl rfl Tryz.underlying33 ty5 hi17.1 fun a hE=>Zg (seg:=[(vB (ZH s10.2.1))]) (cs':=enc (s10.1.setIfInBounds (p3).toNat (ZH s10.2.1))) hE hM Za rfl rfl rfl ty5 rfl (ZE (v:=s10.1) (x:=ZH s10.2.1) hi17.1) (Flat.cell (ZH s10.2.1 : UInt8)) (Zy (v:=s10.1) (x:=ZH s10.2.1) hi17.1) fun w a hM hE=>Ze (wp_region_lit (Zd hE rfl fun a hE=>Zd hE rfl fun a hE=>Zd hE rfl fun a hE=>Zk hE rfl Zv rfl hM.rawAt0 (Flat.len _) ?_)); intro a hE
   obtain ⟨r20,e21,hs13⟩:=bind_some hs13
   refine Zo hE rfl (cbm Tryz.func74) (Qz _ p0 v0_1 (hM.rdo hv0_1) p1 v1_1 (hM.rdo hv1_1) (s10.1.setIfInBounds (p3).toNat (ZH s10.2.1)) r20 e21) ?_
   rintro v w a ⟨rfl,hK⟩ hE
   have hM:=hM.keep hK
   refine Yc (xs:=[.tmp 23]) (l:=([r20] : List (Vector UInt8 16))) (vs:=[(Value.agg (enc r20).toArray)]) hE hM Za ld rfl rfl Tryz.underlying36 Zv rfl (by decide) rfl ?_; intro u22 w a hM hE
   obtain ⟨l24,e25,hs13⟩:=bind_some hs13
   obtain ⟨e28,rfl⟩:=U3 e25
   have hM:=hM.pull2
   refine Uo hE hM Za ld rfl rfl (hM.sl (pre:=[_]) noB) Tryz.underlying36 Zv rfl (by decide) e28 fun u26 w a hM hE=>Zc hE rfl fun a hE=>Zh (Z9 (Zz (wp_region_lit (Zl hE rfl rfl rfl fun a hE=>Zd hE rfl fun a hE=>Zh (Zi ?_)))))
   have hM:=M.fst (l:=[_,_]) hM.pull2
   exact ⟨_,(ois hs13),u26,hE.sub ⟨rfl,rfl,rfl,rfl,rfl,rfl,trivial⟩,hM⟩
  ·intro hb16
   have hs13:=Zt hs13 hb16
   refine wp_exit (Zq (Zq (Yi ?_)))
   obtain rfl:=hx14 _ (ois hs13)
   refine Zi ?_
   have hM:=M.fst (l:=[_]) hM.pull1
   exact ⟨u11,hE.sub ⟨rfl,trivial⟩,hM⟩
 ·skip
  rintro a w ⟨u8,hE,hM⟩
  refine Zz (Zb (Zd hE rfl fun a hE=>Zc hE rfl fun a hE=>Ze ?_))
  obtain rfl:=Option.some.inj hF7
  exact wp_ret (Z2 hE rfl (ZF hE rfl) ⟨_,rfl,u8,rfl,hM.outF (WU WD),hM.kept⟩)
def VD (p0 : GCipher) (p1 : (Vector UInt8 16)) (p2 : (Vector UInt8 16)) (p3 : Int) (p4 : Int) : Option ((List (Vector UInt8 16))) :=
 (Xt p0).bind fun r7=>((Y6 r7 p1 p4).bind fun r16=>(XI r7 r16 p2 p3).bind fun r19=>some r19 : Option ((List (Vector UInt8 16)))).bind fun j10=>some j10
theorem Kz (w0 : World) (p0 : GCipher) (p1 : (Vector UInt8 16)) (p2 : (Vector UInt8 16)) (p3 : Int) (p4 : Int) (r : (List (Vector UInt8 16))) (hF : VD p0 p1 p2 p3 p4 = some r) :
  Calls Tryz.prog 30 [(Value.agg (enc p0).toArray),(Value.agg (enc p1).toArray),(Value.agg (enc p2).toArray),vI p3,vI p4].toArray w0 (fun en w'=>∃ v,en = .returned v ∧ (∃ (y1 : Value),v = y1 ∧ Fr w0 w' [osl NoB (r : List (Vector UInt8 16)) y1] ∧ Kept (Old w0) w0 w')):=by
 refine ce Tryz.func30 ?_
 intro a hE
 have hM:=M.start w0
 unfold VD at hF
 refine Zb (ZY (cs:=cat [[vI p0.Field],enc p0.Box,enc p0.Mix,enc p0.Places,[vI p0.Rounds]]) hE hM Za ld rfl rfl fun b1 w a hM hE=>ZY (cs:=enc p1) hE hM Za ld rfl rfl fun b3 w a hM hE=>ZY (cs:=enc p2) hE hM Za ld rfl rfl fun b5 w a hM hE=>Zc hE rfl fun a hE=>Ze (Zb (Zk hE rfl ZT rfl hM.rawAt2 cq ?_))); intro a hE
 obtain ⟨r7,e8,hF⟩:=bind_some hF
 refine Zo hE rfl cb41 (UX _ p0 r7 e8) ?_
 rintro u9 w a ⟨_,rfl,hFr,hK⟩ hE
 have hM:=hM.add hK hFr
 refine Zc hE rfl fun a hE=>Ze ?_
 obtain ⟨j10,hl11,hF12⟩:=bind_some hF
 refine ZQ (fun a w=>∃ (u13 : Value),Env 22 a [(10,u13)] ∧ M (Old w0) w0 w [osl NoB (j10 : List (Vector UInt8 16)) u13]) ?_ ?_
 ·skip
  obtain ⟨r16,e17,hl11⟩:=bind_some hl11
  refine Wk (its:=[own NoB (r7 : (Ref Gengine)) [u9],raw b5 (enc p2),raw b3 (enc p1),raw b1 (cat [[vI p0.Field],enc p0.Box,enc p0.Mix,enc p0.Places,[vI p0.Rounds]])]) (mk:=([mkO 4 (fun v=>osl NoB (r16 : List (Vector UInt8 16)) v)] : Mk)) [14,15,16,17,18,19,20] Xm rfl rfl (by decide) rfl hE (fun u=>M.qE (M.q0 hM.drew u) emO) (qsP (fun z=>Zj z.E Za ld rfl (kr0 rfl)) (qsP (fun z=>Zj z.E Za ld rfl (kr0 rfl)) (qsP (v:=(Value.agg (enc p1).toArray)) ?_ (qsP (fun z=>Zj z.E Za ld rfl (kr0 rfl)) (qsM (pr:=fun v=>True) ?_ (qsP (v:=(Value.agg (enc p2).toArray)) ?_ (qsP (fun z=>Zj z.E Za ld rfl (kr0 rfl)) qs0))))))) ?_
  ·intro a w ux15 D z
   have hE:=z.E
   have hM:=z.M
   exact Zk hE rfl Zv rfl hM.rawAt2 (Flat.len _) fun a hE=>⟨Kept.refl _ _,_,rfl,hE⟩
  ·intro a w ux15 D z
   have hE:=z.E
   have hD : D 4 = false:=z.F
   have hM0:=z.M
   have hM:=z.M
   refine Zo hE rfl cb48 (Tg _ r7 u9 (hM.ro (pre:=[]) noB) p1 p4 r16 e17) ?_
   rintro _ w a ⟨_,rfl,hFr,hK⟩ hE
   have hM:=hM0.add hK hFr
   exact ⟨_,_,rfl,hE,M.qFill (mk1:=[]) (mk2:=[]) (f:=(fun v=>osl NoB (r16 : List (Vector UInt8 16)) v)) hM rfl hD,trivial⟩
  ·intro a w ux15 D z
   have hE:=z.E
   have hM:=z.M
   exact Zk hE rfl Zv rfl hM.rawAt1 (Flat.len _) fun a hE=>⟨Kept.refl _ _,_,rfl,hE⟩
  ·intro a w ux15 D hE hM hG hall
   have d4:=hall 4 (by decide)
   have hM:=hM.sure (pre:=[_,_,_,_]) d4
   obtain ⟨r19,e20,hl11⟩:=bind_some hl11
   refine Zo hE rfl (cbm Tryz.func49) (QU _ r7 u9 (hM.ro (pre:=[]) noB) r16 (ux15 4) (hM.sl (pre:=[_,_,_,_]) noB) p2 p3 r19 e20) ?_
   rintro u21 w a ⟨_,rfl,hFr,hK⟩ hE
   have hM:=hM.add hK hFr
   refine Zc hE rfl fun a hE=>Zh ?_
   obtain rfl:=Option.some.inj hl11
   refine Zi ?_
   have hM:=M.fst (l:=[_]) hM
   exact ⟨u21,hE.sub ⟨rfl,trivial⟩,hM⟩
 ·skip
  rintro a w ⟨u13,hE,hM⟩
  obtain rfl:=Option.some.inj hF12
  exact wp_ret (Z2 hE rfl (ZF hE rfl) ⟨_,rfl,u13,rfl,hM.outF (WU WD),hM.kept⟩)
def Tp (p0 : GCipher) (p1 : (Vector UInt8 16)) (p2 : (Vector UInt8 16)) (p3 : Int) (p4 : Int) : Option ((List (Vector UInt8 16)) × Int) :=
 (XX p0 p3 p4).bind fun r7=>if (r7 != 0) = true then (some ([],r7)) else ((VD p0 p1 p2 p3 p4).bind fun r11=>some (r11,0))
theorem zq (w0 : World) (p0 : GCipher) (p1 : (Vector UInt8 16)) (p2 : (Vector UInt8 16)) (p3 : Int) (p4 : Int) (r : (List (Vector UInt8 16)) × Int) (hF : Tp p0 p1 p2 p3 p4 = some r) :
  Calls Tryz.prog 6 [(Value.agg (enc p0).toArray),(Value.agg (enc p1).toArray),(Value.agg (enc p2).toArray),vI p3,vI p4].toArray w0 (fun en w'=>∃ v,en = .returned v ∧ (∃ (y1 : Value),v = (Value.tuple [y1,vI r.2].toArray) ∧ Fr w0 w' [osl NoB (r.1 : List (Vector UInt8 16)) y1] ∧ Kept (Old w0) w0 w')):=by
 refine ce Tryz.func6 ?_
 intro a hE
 have hM:=M.start w0
 unfold Tp at hF
 refine Zb (ZY (cs:=cat [[vI p0.Field],enc p0.Box,enc p0.Mix,enc p0.Places,[vI p0.Rounds]]) hE hM Za ld rfl rfl fun b1 w a hM hE=>ZY (cs:=enc p1) hE hM Za ld rfl rfl fun b3 w a hM hE=>ZY (cs:=enc p2) hE hM Za ld rfl rfl fun b5 w a hM hE=>Zc hE rfl fun a hE=>Zc hE rfl fun a hE=>Ze (wp_seq (Zb (Zk hE rfl ZT rfl hM.rawAt2 cq fun a hE=>Zd hE rfl fun a hE=>Zd hE rfl ?_)))); intro a hE
 obtain ⟨r7,e8,hF⟩:=bind_some hF
 refine Zo hE rfl cb29 (Tb _ p0 p3 p4 r7 e8) ?_
 rintro v w a ⟨rfl,hK⟩ hE
 have hM:=hM.keep hK
 refine Zc hE rfl fun a hE=>Ze (Zb (Zd hE rfl fun a hE=>Zl hE rfl rfl rfl fun a hE=>Ze ?_))
 refine Zr hE rfl ?_ ?_
 ·intro hb9
  have hF:=Zu hF hb9
  refine Zb (Zd hE rfl fun a hE=>Zc hE rfl fun a hE=>Zc hE rfl fun a hE=>Ze ?_)
  have hM:=M.nilS (α:=(Vector UInt8 16)) NoB noB hM
  obtain rfl:=Option.some.inj hF
  have hM:=M.fst (l:=[_]) hM
  exact wp_ret (ZI (Xk hE rfl (ZF hE rfl) (ZF hE rfl) ⟨_,rfl,(Value.slice none 0 0),rfl,hM.outF (WU WD),hM.kept⟩))
 ·intro hb9
  have hF:=Zt hF hb9
  refine wp_skip (Zz (Zb (Zk hE rfl ZT rfl hM.rawAt2 cq fun a hE=>Zk hE rfl Zv rfl hM.rawAt1 (Flat.len _) fun a hE=>Zk hE rfl Zv rfl hM.rawAt0 (Flat.len _) fun a hE=>Zd hE rfl fun a hE=>Zd hE rfl ?_))); intro a hE
  obtain ⟨r11,e12,hF⟩:=bind_some hF
  refine Zo hE rfl cb30 (Kz _ p0 p1 p2 p3 p4 r11 e12) ?_
  rintro u13 w a ⟨_,rfl,hFr,hK⟩ hE
  have hM:=hM.add hK hFr
  refine Zc hE rfl fun a hE=>Zc hE rfl fun a hE=>Ze ?_
  obtain rfl:=Option.some.inj hF
  have hM:=M.fst (l:=[_]) hM
  exact wp_ret (Xk hE rfl (ZF hE rfl) (ZF hE rfl) ⟨_,rfl,u13,rfl,hM.outF (WU WD),hM.kept⟩)
def Um (p0 : (Vector UInt8 256)) (s9 : (Vector Bool 256) × Int) : Option (Fl ((Vector Bool 256) × Int) (Fl Unit Bool)) :=
 if (decide (s9.2 < 256)) = true then ((ZB p0 s9.2).bind fun x15=>(ZB s9.1 (bI x15)).bind fun x18=>if x18 = true then (some (Fl.ex (Fl.ex false))) else ((ZB p0 s9.2).bind fun x23=>(ZB s9.1 (bI x23)).bind fun x26=>some (Fl.nx ((s9.1.setIfInBounds ((bI x23)).toNat true),wr (s9.2 + 1))))) else (some (Fl.ex (Fl.nx ())))
def TE (p0 : (Vector UInt8 256)) : Option (Bool) :=
 (ZK (Um p0) ((Vector.replicate 256 false),0)).bind fun j5=>j5.el (fun s8=>some true) (fun r=>some r)
theorem zD (w0 : World) (p0 : (Vector UInt8 256)) (r : Bool) (hF : TE p0 = some r) :
  Calls Tryz.prog 69 [(Value.agg (enc p0).toArray)].toArray w0 (Rt w0 (vT r)):=by
 refine ce Tryz.func69 ?_
 intro a hE
 have hM:=M.start w0
 unfold TE at hF
 refine Zb (ZY (cs:=enc p0) hE hM Za ld rfl rfl fun b1 w a hM hE=>Zc hE rfl fun a hE=>Ze (Zb (Z8 (parts:=[]) (vs:=[]) (cs:=enc (Vector.replicate 256 false)) hE Za ld rfl rfl Qm rfl ty4 ZZ fun a hE=>Zs hE hM Qm fun b3 w a hM hE=>Zg (seg:=enc (Vector.replicate 256 false)) (cs':=enc (Vector.replicate 256 false)) hE hM Za rfl rfl rfl Qm (Flat.len _) (zle flq) (Flat.cell _) (Zf flq) fun w a hM hE=>Ze (wp_seq (Zb (Zc hE rfl fun a hE=>Ze ?_))))))
 obtain ⟨j5,hl6,hF7⟩:=bind_some hF
 refine ZS (fun a w=>∃ s8 : Unit,j5 = Fl.nx s8 ∧ Env 19 a [] ∧ M (Old w0) w0 w []) ?_ ?_
 ·skip
  refine wp_block ?_
  refine ZO (fun (s9 : (Vector Bool 256) × Int) a w=>Env 19 a [(1,(ptr b1 0)),(3,(ptr b3 0)),(4,vI s9.2)] ∧ M (Old w0) w0 w [raw b3 (enc s9.1),raw b1 (enc p0)]) hl6 ⟨hE.sub ⟨rfl,rfl,rfl,trivial⟩,hM⟩ ?_
  rintro s9 a w ⟨hE,hM⟩ o12 hs10 hx11
  unfold Um at hs10
  refine wp_seq (Zb (Zd hE rfl fun a hE=>Zl hE rfl rfl rfl fun a hE=>Ze ?_))
  refine Zr hE rfl ?_ ?_
  ·intro hb13
   have hs10:=Zu hs10 hb13
   refine wp_skip (Zz (wp_seq (wp_block (wp_seq (Zb (Zd hE rfl ?_)))))); intro a hE
   obtain ⟨x15,hi14,hs10⟩:=bvx hs10
   refine Zw hE rfl rfl Tryz.underlying25 ty5 hi14.1 fun a hE=>ZR (v:=(vB x15)) hE rfl ty5 rfl (At.vec hM.rawAt1 hi14.2) ?_; intro a hE
   obtain ⟨x18,hi17,hs10⟩:=bvx hs10
   refine Zw hE rfl rfl Tryz.underlying74 ty4 hi17.1 fun a hE=>ZR (v:=(vT x18)) hE rfl ty4 rfl (At.vec hM.rawAt0 hi17.2) fun a hE=>Ze ?_
   refine Zr hE rfl ?_ ?_
   ·intro hb20
    have hs10:=Zu hs10 hb20
    refine Zb (Zc hE rfl fun a hE=>Ze ?_)
    obtain rfl:=hx11 _ (ois hs10)
    obtain rfl:=Option.some.inj hF7
    exact wp_ret (ZI (Y8 (ZI (ZI (Y8 (ZI (ZI (kr1 hE rfl rfl hM.kept))))))))
   ·intro hb20
    have hs10:=Zt hs10 hb20
    refine wp_skip (Zz (wp_region_lit (Zd hE rfl ?_))); intro a hE
    obtain ⟨x23,hi22,hs10⟩:=bvx hs10
    refine Zw hE rfl rfl Tryz.underlying25 ty5 hi22.1 fun a hE=>ZR (v:=(vB x23)) hE rfl ty5 rfl (At.vec hM.rawAt1 hi22.2) ?_; intro a hE
    obtain ⟨x26,hi25,hs10⟩:=bvx hs10
    refine Zw hE rfl rfl Tryz.underlying74 ty4 hi25.1 fun a hE=>Zg (seg:=[vT true]) (cs':=enc (s9.1.setIfInBounds ((bI x23)).toNat true)) hE hM Za rfl rfl rfl ty4 rfl (ZE (v:=s9.1) (x:=true) hi25.1) (Flat.cell (true : Bool)) (Zy (v:=s9.1) (x:=true) hi25.1) fun w a hM hE=>Zh (Z9 (Zz (wp_region_lit (Zd hE rfl fun a hE=>Zl hE rfl rfl rfl fun a hE=>Zc hE rfl fun a hE=>Zh (Zi ?_)))))
    exact ⟨_,(ois hs10),hE.sub ⟨rfl,rfl,rfl,trivial⟩,hM⟩
  ·intro hb13
   have hs10:=Zt hs10 hb13
   refine wp_exit (Zq (Zq (Yi ?_)))
   obtain rfl:=hx11 _ (ois hs10)
   refine Zi ?_
   have hM:=M.fst (l:=[]) hM
   exact ⟨(),rfl,hE.sub trivial,hM⟩
 ·skip
  rintro a w ⟨s8,ht,hE,hM⟩
  subst ht
  have hF7:=Qi hF7
  refine Zz (Zb (Zc hE rfl fun a hE=>Ze ?_))
  obtain rfl:=Option.some.inj hF7
  exact wp_ret (kr1 hE rfl rfl hM.kept)
def Vi (p0 : (Vector UInt8 16)) (s9 : (Vector Bool 16) × Int) : Option (Fl ((Vector Bool 16) × Int) (Fl Unit Bool)) :=
 if (decide (s9.2 < 16)) = true then (((ZB p0 s9.2).bind fun x18=>if (decide (x18 ≥ 16)) = true then (some true) else ((ZB p0 s9.2).bind fun x23=>(ZB s9.1 (bI x23)).bind fun x26=>some x26) : Option (Bool)).bind fun j14=>if j14 = true then (some (Fl.ex (Fl.ex false))) else ((ZB p0 s9.2).bind fun x32=>(ZB s9.1 (bI x32)).bind fun x35=>some (Fl.nx ((s9.1.setIfInBounds ((bI x32)).toNat true),wr (s9.2 + 1))))) else (some (Fl.ex (Fl.nx ())))
def UH (p0 : (Vector UInt8 16)) : Option (Bool) :=
 (ZK (Vi p0) ((Vector.replicate 16 false),0)).bind fun j5=>j5.el (fun s8=>some true) (fun r=>some r)
theorem AD (w0 : World) (p0 : (Vector UInt8 16)) (r : Bool) (hF : UH p0 = some r) :
  Calls Tryz.prog 70 [(Value.agg (enc p0).toArray)].toArray w0 (Rt w0 (vT r)):=by
 refine ce Tryz.func70 ?_
 intro a hE
 have hM:=M.start w0
 unfold UH at hF
 refine Zb (ZY (cs:=enc p0) hE hM Za ld rfl rfl fun b1 w a hM hE=>Zc hE rfl fun a hE=>Ze (Zb (Z8 (parts:=[]) (vs:=[]) (cs:=enc (Vector.replicate 16 false)) hE Za ld rfl rfl kN rfl ty4 ZZ fun a hE=>Zs hE hM kN fun b3 w a hM hE=>Zg (seg:=enc (Vector.replicate 16 false)) (cs':=enc (Vector.replicate 16 false)) hE hM Za rfl rfl rfl kN (Flat.len _) (zle flq) (Flat.cell _) (Zf flq) fun w a hM hE=>Ze (wp_seq (Zb (Zc hE rfl fun a hE=>Ze ?_))))))
 obtain ⟨j5,hl6,hF7⟩:=bind_some hF
 refine ZS (fun a w=>∃ s8 : Unit,j5 = Fl.nx s8 ∧ Env 25 a [] ∧ M (Old w0) w0 w []) ?_ ?_
 ·skip
  refine wp_block ?_
  refine ZO (fun (s9 : (Vector Bool 16) × Int) a w=>Env 25 a [(1,(ptr b1 0)),(3,(ptr b3 0)),(4,vI s9.2)] ∧ M (Old w0) w0 w [raw b3 (enc s9.1),raw b1 (enc p0)]) hl6 ⟨hE.sub ⟨rfl,rfl,rfl,trivial⟩,hM⟩ ?_
  rintro s9 a w ⟨hE,hM⟩ o12 hs10 hx11
  unfold Vi at hs10
  refine wp_seq (Zb (Zd hE rfl fun a hE=>Zl hE rfl rfl rfl fun a hE=>Ze ?_))
  refine Zr hE rfl ?_ ?_
  ·intro hb13
   have hs10:=Zu hs10 hb13
   refine wp_skip (Zz (wp_seq (wp_block (wp_seq ?_))))
   obtain ⟨j14,hl15,hF16⟩:=bind_some hs10
   refine ZQ (fun a w=>Env 25 a [(1,(ptr b1 0)),(3,(ptr b3 0)),(4,vI s9.2),(20,vT j14)] ∧ M (Old w0) w0 w [raw b3 (enc s9.1),raw b1 (enc p0)]) ?_ ?_
   ·skip
    refine wp_region_lit (Zd hE rfl ?_); intro a hE
    obtain ⟨x18,hi17,hl15⟩:=bvx hl15
    refine Zw hE rfl rfl Tryz.underlying30 ty5 hi17.1 fun a hE=>ZR (v:=(vB x18)) hE rfl ty5 rfl (At.vec hM.rawAt1 hi17.2) fun a hE=>Zl hE rfl rfl (bB_geq x18 16) fun a hE=>Zd hE rfl ?_; intro a hE
    refine YF (decide (x18 ≥ 16)) (fun hb20=>?_) (fun hb20=>?_)
    ·have hl15:=Zu hl15 hb20
     refine Zp hE rfl (lkb rfl hb20) rfl (by decide) fun a hE=>Zp hE rfl (lkb rfl hb20) rfl (by decide) fun a hE=>Zp hE rfl (lkb rfl hb20) rfl (by decide) fun a hE=>Zp hE rfl (lkb rfl hb20) rfl (by decide) fun a hE=>Zp hE rfl (lkb rfl hb20) rfl (by decide) fun a hE=>ZW hE (lkb rfl hb20) rfl fun a hE=>Zh ?_
     obtain rfl:=Option.some.inj hl15
     refine Zi ?_
     exact ⟨hE.sub ⟨rfl,rfl,rfl,rfl,trivial⟩,hM⟩
    ·have hl15:=Zt hl15 hb20
     refine Zj hE (Zm hE rfl (lkb rfl hb20)) (by decide) rfl ?_; intro a hE
     obtain ⟨x23,hi22,hl15⟩:=bvx hl15
     refine ZA hE (Zm hE rfl (lkb rfl hb20)) (by decide) rfl rfl Tryz.underlying30 ty5 hi22.1 fun a hE=>Z0 (v:=(vB x23)) hE (Zm hE rfl (lkb rfl hb20)) (by decide) rfl ty5 rfl (At.vec hM.rawAt1 hi22.2) ?_; intro a hE
     obtain ⟨x26,hi25,hl15⟩:=bvx hl15
     refine ZA hE (Zm hE rfl (lkb rfl hb20)) (by decide) rfl rfl Tryz.underlying132 ty4 hi25.1 fun a hE=>Z0 (v:=(vT x26)) hE (Zm hE rfl (lkb rfl hb20)) (by decide) rfl ty4 rfl (At.vec hM.rawAt0 hi25.2) fun a hE=>Z7 hE (lkb rfl hb20) rfl fun a hE=>Zh ?_
     obtain rfl:=Option.some.inj hl15
     refine Zi ?_
     exact ⟨hE.sub ⟨rfl,rfl,rfl,rfl,trivial⟩,hM⟩
   ·skip
    rintro a w ⟨hE,hM⟩
    refine Zr hE rfl ?_ ?_
    ·intro hb29
     have hF16:=Zu hF16 hb29
     refine Zb (Zc hE rfl fun a hE=>Ze ?_)
     obtain rfl:=hx11 _ (ois hF16)
     obtain rfl:=Option.some.inj hF7
     exact wp_ret (ZI (Y8 (ZI (ZI (Y8 (ZI (ZI (kr1 hE rfl rfl hM.kept))))))))
    ·intro hb29
     have hF16:=Zt hF16 hb29
     refine wp_skip (Zz (wp_region_lit (Zd hE rfl ?_))); intro a hE
     obtain ⟨x32,hi31,hF16⟩:=bvx hF16
     refine Zw hE rfl rfl Tryz.underlying30 ty5 hi31.1 fun a hE=>ZR (v:=(vB x32)) hE rfl ty5 rfl (At.vec hM.rawAt1 hi31.2) ?_; intro a hE
     obtain ⟨x35,hi34,hF16⟩:=bvx hF16
     refine Zw hE rfl rfl Tryz.underlying132 ty4 hi34.1 fun a hE=>Zg (seg:=[vT true]) (cs':=enc (s9.1.setIfInBounds ((bI x32)).toNat true)) hE hM Za rfl rfl rfl ty4 rfl (ZE (v:=s9.1) (x:=true) hi34.1) (Flat.cell (true : Bool)) (Zy (v:=s9.1) (x:=true) hi34.1) fun w a hM hE=>Zh (Z9 (Zz (wp_region_lit (Zd hE rfl fun a hE=>Zl hE rfl rfl rfl fun a hE=>Zc hE rfl fun a hE=>Zh (Zi ?_)))))
     exact ⟨_,(ois hF16),hE.sub ⟨rfl,rfl,rfl,trivial⟩,hM⟩
  ·intro hb13
   have hs10:=Zt hs10 hb13
   refine wp_exit (Zq (Zq (Yi ?_)))
   obtain rfl:=hx11 _ (ois hs10)
   refine Zi ?_
   have hM:=M.fst (l:=[]) hM
   exact ⟨(),rfl,hE.sub trivial,hM⟩
 ·skip
  rintro a w ⟨s8,ht,hE,hM⟩
  subst ht
  have hF7:=Qi hF7
  refine Zz (Zb (Zc hE rfl fun a hE=>Ze ?_))
  obtain rfl:=Option.some.inj hF7
  exact wp_ret (kr1 hE rfl rfl hM.kept)
def UM (p0 : GCipher) : Option (Bool) :=
 ((Vp p0.Field).bind fun r6=>if (!r6) = true then (some true) else ((TE p0.Box).bind fun r10=>if (!r10) = true then (some true) else ((UH p0.Places).bind fun r14=>if (!r14) = true then (some true) else ((XL p0.Rounds 1 20).bind fun r18=>some (!r18)))) : Option (Bool)).bind fun j3=>if j3 = true then (some false) else ((Wz p0.Field p0.Mix).bind fun r22=>some r22.2)
theorem He (w0 : World) (p0 : GCipher) (r : Bool) (hF : UM p0 = some r) :
  Calls Tryz.prog 43 [(Value.agg (enc p0).toArray)].toArray w0 (Rt w0 (vT r)):=by
 refine ce Tryz.func43 ?_
 intro a hE
 have hM:=M.start w0
 unfold UM at hF
 refine Zb (ZY (cs:=cat [[vI p0.Field],enc p0.Box,enc p0.Mix,enc p0.Places,[vI p0.Rounds]]) hE hM Za ld rfl rfl fun b1 w a hM hE=>Zc hE rfl fun a hE=>Ze (wp_seq ?_))
 obtain ⟨j3,hl4,hF5⟩:=bind_some hF
 refine ZQ (fun a w=>Env 36 a [(1,(ptr b1 0)),(26,vT j3)] ∧ M (Old w0) w0 w [raw b1 (cat [[vI p0.Field],enc p0.Box,enc p0.Mix,enc p0.Places,[vI p0.Rounds]])]) ?_ ?_
 ·skip
  refine wp_region_lit (ZJ hE rfl (QF) fun a hE=>ZR (v:=(vI p0.Field)) hE rfl ty2 rfl (At.cat (pre:=[]) hM.rawAt0 cl0) ?_); intro a hE
  obtain ⟨r6,e7,hl4⟩:=bind_some hl4
  refine Zo hE rfl (cbm Tryz.func68) (KL _ p0.Field r6 e7) ?_
  rintro v w a ⟨rfl,hK⟩ hE
  have hM:=hM.keep hK
  refine TH hE rfl fun a hE=>Zd hE rfl ?_; intro a hE
  refine YF (!r6) (fun hb8=>?_) (fun hb8=>?_)
  ·have hl4:=Zu hl4 hb8
   refine Zp hE rfl (lkb rfl hb8) rfl (by decide) fun a hE=>Zp hE rfl (lkb rfl hb8) rfl (by decide) fun a hE=>Zp hE rfl (lkb rfl hb8) rfl (by decide) fun a hE=>Zp hE rfl (lkb rfl hb8) rfl (by decide) fun a hE=>ZW hE (lkb rfl hb8) rfl fun a hE=>Zd hE rfl fun a hE=>Zp hE rfl rfl rfl (by decide) fun a hE=>Zp hE rfl rfl rfl (by decide) fun a hE=>Zp hE rfl rfl rfl (by decide) fun a hE=>Zp hE rfl rfl rfl (by decide) fun a hE=>ZW hE rfl rfl fun a hE=>Zd hE rfl ?_; intro a hE
   refine Zp hE rfl rfl rfl (by decide) fun a hE=>Zp hE rfl rfl rfl (by decide) fun a hE=>Zp hE rfl rfl rfl (by decide) fun a hE=>Zp hE rfl rfl rfl (by decide) fun a hE=>ZW hE rfl rfl fun a hE=>Zh ?_
   obtain rfl:=Option.some.inj hl4
   refine Zi ?_
   exact ⟨hE.sub ⟨rfl,rfl,trivial⟩,hM⟩
  ·have hl4:=Zt hl4 hb8
   refine ZP hE (Zm hE rfl (lkb rfl hb8)) (by decide) rfl (Qa) fun a hE=>YE hE (Zm hE rfl (lkb rfl hb8)) (by decide) rfl YN rfl (At.cat (pre:=[[vI p0.Field]]) hM.rawAt0 ck) (Flat.len _) ?_; intro a hE
   obtain ⟨r10,e11,hl4⟩:=bind_some hl4
   refine YD hE (Zm hE rfl (lkb rfl hb8)) (by decide) rfl (cbm Tryz.func69) (zD _ p0.Box r10 e11) ?_
   rintro v w a ⟨rfl,hK⟩ hE
   have hM:=hM.keep hK
   refine Q0 hE (Zm hE rfl (lkb rfl hb8)) (by decide) rfl fun a hE=>Z7 hE (lkb rfl hb8) rfl fun a hE=>Zd hE rfl ?_; intro a hE
   refine YF (!r10) (fun hb12=>?_) (fun hb12=>?_)
   ·have hl4:=Zu hl4 hb12
    refine Zp hE rfl (lkb rfl hb12) rfl (by decide) fun a hE=>Zp hE rfl (lkb rfl hb12) rfl (by decide) fun a hE=>Zp hE rfl (lkb rfl hb12) rfl (by decide) fun a hE=>Zp hE rfl (lkb rfl hb12) rfl (by decide) fun a hE=>ZW hE (lkb rfl hb12) rfl fun a hE=>Zd hE rfl fun a hE=>Zp hE rfl rfl rfl (by decide) fun a hE=>Zp hE rfl rfl rfl (by decide) fun a hE=>Zp hE rfl rfl rfl (by decide) fun a hE=>Zp hE rfl rfl rfl (by decide) fun a hE=>ZW hE rfl rfl fun a hE=>Zh ?_
    obtain rfl:=Option.some.inj hl4
    refine Zi ?_
    exact ⟨hE.sub ⟨rfl,rfl,trivial⟩,hM⟩
   ·have hl4:=Zt hl4 hb12
    refine ZP hE (Zm hE rfl (lkb rfl hb12)) (by decide) rfl (Tt) fun a hE=>YE hE (Zm hE rfl (lkb rfl hb12)) (by decide) rfl KE rfl (At.cat (pre:=[[vI p0.Field],enc p0.Box,enc p0.Mix]) hM.rawAt0 ck) (Flat.len _) ?_; intro a hE
    obtain ⟨r14,e15,hl4⟩:=bind_some hl4
    refine YD hE (Zm hE rfl (lkb rfl hb12)) (by decide) rfl (cbm Tryz.func70) (AD _ p0.Places r14 e15) ?_
    rintro v w a ⟨rfl,hK⟩ hE
    have hM:=hM.keep hK
    refine Q0 hE (Zm hE rfl (lkb rfl hb12)) (by decide) rfl fun a hE=>Z7 hE (lkb rfl hb12) rfl fun a hE=>Zd hE rfl ?_; intro a hE
    refine YF (!r14) (fun hb16=>?_) (fun hb16=>?_)
    ·have hl4:=Zu hl4 hb16
     refine Zp hE rfl (lkb rfl hb16) rfl (by decide) fun a hE=>Zp hE rfl (lkb rfl hb16) rfl (by decide) fun a hE=>Zp hE rfl (lkb rfl hb16) rfl (by decide) fun a hE=>Zp hE rfl (lkb rfl hb16) rfl (by decide) fun a hE=>ZW hE (lkb rfl hb16) rfl fun a hE=>Zh ?_
     obtain rfl:=Option.some.inj hl4
     refine Zi ?_
     exact ⟨hE.sub ⟨rfl,rfl,trivial⟩,hM⟩
    ·have hl4:=Zt hl4 hb16
     refine ZP hE (Zm hE rfl (lkb rfl hb16)) (by decide) rfl (Qx) fun a hE=>Z0 (v:=(vI p0.Rounds)) hE (Zm hE rfl (lkb rfl hb16)) (by decide) rfl ty2 rfl (At.cat (pre:=[[vI p0.Field],enc p0.Box,enc p0.Mix,enc p0.Places]) hM.rawAt0 ck) ?_; intro a hE
     obtain ⟨r18,e19,hl4⟩:=bind_some hl4
     refine YD hE (Zm hE rfl (lkb rfl hb16)) (by decide) rfl cb44 (UR _ p0.Rounds 1 20 r18 e19) ?_
     rintro v w a ⟨rfl,hK⟩ hE
     have hM:=hM.keep hK
     refine Q0 hE (Zm hE rfl (lkb rfl hb16)) (by decide) rfl fun a hE=>Z7 hE (lkb rfl hb16) rfl fun a hE=>Zh ?_
     obtain rfl:=Option.some.inj hl4
     refine Zi ?_
     exact ⟨hE.sub ⟨rfl,rfl,trivial⟩,hM⟩
 ·skip
  rintro a w ⟨hE,hM⟩
  refine Zr hE rfl ?_ ?_
  ·intro hb21
   have hF5:=Zu hF5 hb21
   refine Zb (Zc hE rfl fun a hE=>Ze ?_)
   obtain rfl:=Option.some.inj hF5
   exact wp_ret (ZI (kr1 hE rfl rfl hM.kept))
  ·intro hb21
   have hF5:=Zt hF5 hb21
   refine wp_skip (Zz (Zb (ZJ hE rfl (QF) fun a hE=>ZR (v:=(vI p0.Field)) hE rfl ty2 rfl (At.cat (pre:=[]) hM.rawAt0 cl0) fun a hE=>ZJ hE rfl (Qb) fun a hE=>Zk hE rfl XV rfl (At.cat (pre:=[[vI p0.Field],enc p0.Box]) hM.rawAt0 ck) (Flat.len _) ?_))); intro a hE
   obtain ⟨r22,e23,hF5⟩:=bind_some hF5
   refine Zo hE rfl (cbm Tryz.func71) (QT _ p0.Field p0.Mix r22 e23) ?_
   rintro v w a ⟨rfl,hK⟩ hE
   have hM:=hM.keep hK
   refine Zd hE rfl fun a hE=>Zx hE Za ld rfl rfl fun a hE=>Zx hE Za ld rfl rfl fun a hE=>Zs hE hM XV fun b24 w a hM hE=>Zg (seg:=enc r22.1) (cs':=enc r22.1) hE hM Za rfl rfl rfl XV (Flat.len _) (zle flq) (Flat.cell _) (Zf flq) fun w a hM hE=>Zc hE rfl fun a hE=>Ze (Zb (Zd hE rfl fun a hE=>Zc hE rfl fun a hE=>Ze ?_))
   obtain rfl:=Option.some.inj hF5
   exact wp_ret (kr1 hE rfl rfl hM.kept)
def To (p0 : GCipher) (p1 : Int) : Option (Int) :=
 (UM p0).bind fun r3=>if (!r3) = true then (some 1) else ((XL p1 0 p0.Rounds).bind fun r6=>if (!r6) = true then (some 2) else (some 0))
theorem BQ (w0 : World) (p0 : GCipher) (p1 : Int) (r : Int) (hF : To p0 p1 = some r) :
  Calls Tryz.prog 58 [(Value.agg (enc p0).toArray),vI p1].toArray w0 (Rt w0 (vI r)):=by
 refine ce Tryz.func58 ?_
 intro a hE
 have hM:=M.start w0
 unfold To at hF
 refine Zb (ZY (cs:=cat [[vI p0.Field],enc p0.Box,enc p0.Mix,enc p0.Places,[vI p0.Rounds]]) hE hM Za ld rfl rfl fun b1 w a hM hE=>Zc hE rfl fun a hE=>Ze (wp_seq (wp_block (Zb (Zk hE rfl ZT rfl hM.rawAt0 cq ?_))))); intro a hE
 obtain ⟨r3,e4,hF⟩:=bind_some hF
 refine Zo hE rfl (cbm Tryz.func43) (He _ p0 r3 e4) ?_
 rintro v w a ⟨rfl,hK⟩ hE
 have hM:=hM.keep hK
 refine TH hE rfl fun a hE=>Zc hE rfl fun a hE=>Ze ?_
 refine Zr hE rfl ?_ ?_
 ·intro hb5
  have hF:=Zu hF hb5
  refine Zb (Zc hE rfl fun a hE=>Ze ?_)
  obtain rfl:=Option.some.inj hF
  exact wp_ret (Y8 (ZI (kr1 hE rfl rfl hM.kept)))
 ·intro hb5
  have hF:=Zt hF hb5
  refine Zb (Zd hE rfl fun a hE=>ZJ hE rfl (Qx) fun a hE=>ZR (v:=(vI p0.Rounds)) hE rfl ty2 rfl (At.cat (pre:=[[vI p0.Field],enc p0.Box,enc p0.Mix,enc p0.Places]) hM.rawAt0 ck) ?_); intro a hE
  obtain ⟨r6,e7,hF⟩:=bind_some hF
  refine Zo hE rfl cb44 (UR _ p1 0 p0.Rounds r6 e7) ?_
  rintro v w a ⟨rfl,hK⟩ hE
  have hM:=hM.keep hK
  refine TH hE rfl fun a hE=>Zc hE rfl fun a hE=>Ze ?_
  refine Zr hE rfl ?_ ?_
  ·intro hb8
   have hF:=Zu hF hb8
   refine Zb (Zc hE rfl fun a hE=>Ze ?_)
   obtain rfl:=Option.some.inj hF
   exact wp_ret (Y8 (ZI (kr1 hE rfl rfl hM.kept)))
  ·intro hb8
   have hF:=Zt hF hb8
   refine wp_skip (Z9 (Zz (Zb (Zc hE rfl fun a hE=>Ze ?_))))
   obtain rfl:=Option.some.inj hF
   exact wp_ret (kr1 hE rfl rfl hM.kept)
def XK (p0 : GCipher) (p1 : Int) (p2 : Int) : Option (Int) :=
 (To p0 p2).bind fun r3=>((if (r3 != 1) = true then ((XL p1 0 15).bind fun r12=>some (!r12)) else (some false) : Option (Bool)).bind fun j8=>if j8 = true then (some 2) else (some r3) : Option (Int)).bind fun j5=>some j5
theorem Ux (w0 : World) (p0 : GCipher) (p1 : Int) (p2 : Int) (r : Int) (hF : XK p0 p1 p2 = some r) :
  Calls Tryz.prog 31 [(Value.agg (enc p0).toArray),vI p1,vI p2].toArray w0 (Rt w0 (vI r)):=by
 refine ce Tryz.func31 ?_
 intro a hE
 have hM:=M.start w0
 unfold XK at hF
 refine Zb (ZY (cs:=cat [[vI p0.Field],enc p0.Box,enc p0.Mix,enc p0.Places,[vI p0.Rounds]]) hE hM Za ld rfl rfl fun b1 w a hM hE=>Zc hE rfl fun a hE=>Ze (Zb (Zk hE rfl ZT rfl hM.rawAt0 cq fun a hE=>Zd hE rfl ?_))); intro a hE
 obtain ⟨r3,e4,hF⟩:=bind_some hF
 refine Zo hE rfl (cbm Tryz.func58) (BQ _ p0 p2 r3 e4) ?_
 rintro v w a ⟨rfl,hK⟩ hE
 have hM:=hM.keep hK
 refine Zc hE rfl fun a hE=>Ze ?_
 obtain ⟨j5,hl6,hF7⟩:=bind_some hF
 refine ZQ (fun a w=>Env 19 a [(7,vI j5)] ∧ M (Old w0) w0 w []) ?_ ?_
 ·skip
  obtain ⟨j8,hl9,hF10⟩:=bind_some hl6
  refine ZQ (fun a w=>Env 19 a [(7,vI r3),(17,vT j8)] ∧ M (Old w0) w0 w []) ?_ ?_
  ·skip
   refine wp_region_lit (Zd hE rfl fun a hE=>Zl hE rfl rfl rfl fun a hE=>Zd hE rfl ?_); intro a hE
   refine YF (r3 != 1) (fun hb11=>?_) (fun hb11=>?_)
   ·have hl9:=Zu hl9 hb11
    refine Zj hE (Zm hE rfl (lkb rfl hb11)) (by decide) rfl ?_; intro a hE
    obtain ⟨r12,e13,hl9⟩:=bind_some hl9
    refine YD hE (Zm hE rfl (lkb rfl hb11)) (by decide) rfl cb44 (UR _ p1 0 15 r12 e13) ?_
    rintro v w a ⟨rfl,hK⟩ hE
    have hM:=hM.keep hK
    refine Q0 hE (Zm hE rfl (lkb rfl hb11)) (by decide) rfl fun a hE=>ZW hE (lkb rfl hb11) rfl fun a hE=>Zh ?_
    obtain rfl:=Option.some.inj hl9
    refine Zi ?_
    have hM:=M.fst (l:=[]) hM
    exact ⟨hE.sub ⟨rfl,rfl,trivial⟩,hM⟩
   ·have hl9:=Zt hl9 hb11
    refine Zp hE rfl (lkb rfl hb11) rfl (by decide) fun a hE=>Zp hE rfl (lkb rfl hb11) rfl (by decide) fun a hE=>Zp hE rfl (lkb rfl hb11) rfl (by decide) fun a hE=>Z7 hE (lkb rfl hb11) rfl fun a hE=>Zh ?_
    obtain rfl:=Option.some.inj hl9
    refine Zi ?_
    have hM:=M.fst (l:=[]) hM
    exact ⟨hE.sub ⟨rfl,rfl,trivial⟩,hM⟩
  ·skip
   rintro a w ⟨hE,hM⟩
   refine Zr hE rfl ?_ ?_
   ·intro hb16
    have hF10:=Zu hF10 hb16
    refine wp_region_lit (Zc hE rfl fun a hE=>Zh ?_)
    obtain rfl:=Option.some.inj hF10
    refine Zi ?_
    exact ⟨hE.sub ⟨rfl,trivial⟩,hM⟩
   ·intro hb16
    have hF10:=Zt hF10 hb16
    refine wp_skip ?_
    obtain rfl:=Option.some.inj hF10
    refine Zi ?_
    exact ⟨hE.sub ⟨rfl,trivial⟩,hM⟩
 ·skip
  rintro a w ⟨hE,hM⟩
  refine Zb (Zd hE rfl fun a hE=>Zc hE rfl fun a hE=>Ze ?_)
  obtain rfl:=Option.some.inj hF7
  exact wp_ret (kr1 hE rfl rfl hM.kept)
def Vq (p0 : (Vector UInt8 256)) (p2 : Int) (s10 : (Vector UInt8 16) × Int) : Option (Fl ((Vector UInt8 16) × Int) (Vector UInt8 16)) :=
 if (decide (s10.2 < 16)) = true then (((ZB s10.1 (Int.tmod (wr (s10.2 + 15)) 16)).bind fun x19=>(if (s10.2 == 0) = true then (some (x19 ^^^ (ZH p2))) else (some x19) : Option (UInt8)).bind fun j21=>(ZB s10.1 s10.2).bind fun x29=>(ZB p0 (bI j21)).bind fun x32=>(ZB s10.1 s10.2).bind fun x35=>some (s10.1.setIfInBounds (s10.2).toNat (x29 ^^^ x32)) : Option ((Vector UInt8 16))).bind fun j15=>some (Fl.nx (j15,wr (s10.2 + 1)))) else (some (Fl.ex s10.1))
def UL (p0 : (Vector UInt8 256)) (p1 : (Vector UInt8 16)) (p2 : Int) : Option ((Vector UInt8 16)) :=
 (ZK (Vq p0 p2) (p1,0)).bind fun j7=>some j7
theorem B0 (w0 : World) (p0 : (Vector UInt8 256)) (p1 : (Vector UInt8 16)) (p2 : Int) (r : (Vector UInt8 16)) (hF : UL p0 p1 p2 = some r) :
  Calls Tryz.prog 105 [(Value.agg (enc p0).toArray),(Value.agg (enc p1).toArray),vI p2].toArray w0 (Rt w0 (Value.agg (enc r).toArray)):=by
 refine ce Tryz.func105 ?_
 intro a hE
 have hM:=M.start w0
 unfold UL at hF
 refine Zb (ZY (cs:=enc p0) hE hM Za ld rfl rfl fun b1 w a hM hE=>ZY (cs:=enc p1) hE hM Za ld rfl rfl fun b3 w a hM hE=>Zs hE hM Zv fun b5 w a hM hE=>Ze (wp_seq (Zb (Zc hE rfl fun a hE=>Ze ?_))))
 obtain ⟨j7,hl8,hF9⟩:=bind_some hF
 refine ZS (fun a w=>Env 34 a [(4,(ptr b3 0)),(6,(ptr b5 0))] ∧ M (Old w0) w0 w [raw b5 (enc (Vector.replicate 16 (0 : UInt8))),raw b3 (enc j7)]) ?_ ?_
 ·skip
  refine wp_block ?_
  refine ZO (fun (s10 : (Vector UInt8 16) × Int) a w=>Env 34 a [(2,vI p2),(3,(ptr b1 0)),(4,(ptr b3 0)),(6,(ptr b5 0)),(7,vI s10.2)] ∧ M (Old w0) w0 w [raw b5 (enc (Vector.replicate 16 (0 : UInt8))),raw b3 (enc s10.1),raw b1 (enc p0)]) hl8 ⟨hE.sub ⟨rfl,rfl,rfl,rfl,rfl,trivial⟩,hM⟩ ?_
  rintro s10 a w ⟨hE,hM⟩ o13 hs11 hx12
  unfold Vq at hs11
  refine wp_seq (Zb (Zd hE rfl fun a hE=>Zl hE rfl rfl rfl fun a hE=>Ze ?_))
  refine Zr hE rfl ?_ ?_
  ·intro hb14
   have hs11:=Zu hs11 hb14
   refine wp_skip (Zz ?_)
   obtain ⟨j15,hl16,hF17⟩:=bind_some hs11
   refine ZQ (fun a w=>Env 34 a [(2,vI p2),(3,(ptr b1 0)),(4,(ptr b3 0)),(6,(ptr b5 0)),(7,vI s10.2)] ∧ M (Old w0) w0 w [raw b5 (enc (Vector.replicate 16 (0 : UInt8))),raw b3 (enc j15),raw b1 (enc p0)]) ?_ ?_
   ·skip
    refine wp_block (Zb (Zd hE rfl fun a hE=>Zl hE rfl rfl rfl fun a hE=>Zl hE rfl rfl (KA _ _ (by decide)) ?_)); intro a hE
    obtain ⟨x19,hi18,hl16⟩:=bvx hl16
    refine Zw hE rfl rfl Tryz.underlying33 ty5 hi18.1 fun a hE=>ZR (v:=(vB x19)) hE rfl ty5 rfl (At.vec hM.rawAt1 hi18.2) fun a hE=>Zc hE rfl fun a hE=>Ze ?_
    obtain ⟨j21,hl22,hF23⟩:=bind_some hl16
    refine ZQ (fun a w=>Env 34 a [(2,vI p2),(3,(ptr b1 0)),(4,(ptr b3 0)),(6,(ptr b5 0)),(7,vI s10.2),(8,vB j21)] ∧ M (Old w0) w0 w [raw b5 (enc (Vector.replicate 16 (0 : UInt8))),raw b3 (enc s10.1),raw b1 (enc p0)]) ?_ ?_
    ·skip
     refine Zb (Zd hE rfl fun a hE=>Zl hE rfl rfl rfl fun a hE=>Ze ?_)
     refine Zr hE rfl ?_ ?_
     ·intro hb24
      have hl22:=Zu hl22 hb24
      refine wp_region_lit (Zd hE rfl fun a hE=>Zd hE rfl fun a hE=>YX hE Za ld rfl Tryz.underlying2 Tryz.underlying5 fun a hE=>Zl hE rfl rfl (WI x19 (ZH p2)) fun a hE=>Zc hE rfl fun a hE=>Zh ?_)
      obtain rfl:=Option.some.inj hl22
      refine Zi ?_
      exact ⟨hE.sub ⟨rfl,rfl,rfl,rfl,rfl,rfl,trivial⟩,hM⟩
     ·intro hb24
      have hl22:=Zt hl22 hb24
      refine wp_skip ?_
      obtain rfl:=Option.some.inj hl22
      refine Zi ?_
      exact ⟨hE.sub ⟨rfl,rfl,rfl,rfl,rfl,rfl,trivial⟩,hM⟩
    ·skip
     rintro a w ⟨hE,hM⟩
     obtain ⟨x29,hi28,hF23⟩:=bvx hF23
     obtain ⟨x32,hi31,hF23⟩:=bvx hF23
     obtain ⟨x35,hi34,hF23⟩:=bvx hF23
     refine Yl [24,25,26,27,28,29,30,31,32] Xm rfl rfl (by decide) rfl hE hM (qsP (fun z=>Zj z.E Za ld rfl (kr0 rfl)) (qsP (fun z=>Zj z.E Za ld rfl (kr0 rfl)) (qsP (fun z=>ZA z.E Za ld rfl rfl Tryz.underlying33 ty5 hi28.1 (kr0 rfl)) (qsP (fun z=>Z0 (v:=(vB x29)) z.E Za ld rfl ty5 rfl (At.vec (z.M.rawAt1) hi28.2) (kr0 rfl)) (qsP (fun z=>Zj z.E Za ld rfl (kr0 rfl)) (qsP (fun z=>ZA z.E Za ld rfl rfl Tryz.underlying25 ty5 hi31.1 (kr0 rfl)) (qsP (fun z=>Z0 (v:=(vB x32)) z.E Za ld rfl ty5 rfl (At.vec (z.M.rawAt2) hi31.2) (kr0 rfl)) (qsP (v:=(vB (x29 ^^^ x32))) (fun z=>Yk z.E Za ld rfl rfl (WI x29 x32) (kr0 rfl)) (qsP (fun z=>ZA z.E Za ld rfl rfl Tryz.underlying33 ty5 hi34.1 (kr0 rfl)) qs0))))))))) ?_
     ·intro a w u hE hM
      have hM:=hM.pull1
      refine Zg (seg:=[(vB (x29 ^^^ x32))]) (cs':=enc (s10.1.setIfInBounds (s10.2).toNat (x29 ^^^ x32))) hE hM Za rfl rfl rfl ty5 rfl (ZE (v:=s10.1) (x:=x29 ^^^ x32) hi34.1) (Flat.cell (x29 ^^^ x32 : UInt8)) (Zy (v:=s10.1) (x:=x29 ^^^ x32) hi34.1) fun w a hM hE=>Zh (Z9 ?_)
      obtain rfl:=Option.some.inj hF23
      refine Zi ?_
      have hM:=hM.pull2.pull1.pull2
      exact ⟨hE.sub ⟨rfl,rfl,rfl,rfl,rfl,trivial⟩,hM⟩
   ·skip
    rintro a w ⟨hE,hM⟩
    refine wp_region_lit (Zd hE rfl fun a hE=>Zl hE rfl rfl rfl fun a hE=>Zc hE rfl fun a hE=>Zh (Zi ?_))
    exact ⟨_,(ois hF17),hE.sub ⟨rfl,rfl,rfl,rfl,rfl,trivial⟩,hM⟩
  ·intro hb14
   have hs11:=Zt hs11 hb14
   refine wp_exit (Zq (Zq (Yi ?_)))
   obtain rfl:=hx12 _ (ois hs11)
   refine Zi ?_
   have hM:=M.fst (l:=[_,_]) hM.pull1.pull1
   exact ⟨hE.sub ⟨rfl,rfl,trivial⟩,hM⟩
 ·skip
  rintro a w ⟨hE,hM⟩
  refine Zz (Zb (Zk hE rfl Zv rfl hM.rawAt1 (Flat.len _) fun a hE=>Zg (seg:=enc j7) (cs':=enc j7) hE hM Za rfl rfl rfl Zv (Flat.len _) (zle flq) (Flat.cell _) (Zf flq) fun w a hM hE=>Ze ?_))
  obtain rfl:=Option.some.inj hF9
  have hq39 : ZX Tryz.prog _ _ (.cell 6 33) _:=ZN hE rfl Zv rfl hM.rawAt0 (Flat.len _) rfl
  exact wp_ret (Z2 hE rfl hq39 ⟨_,rfl,rfl,hM.kept⟩)
def Vm (p0 : GCipher) (p2 : Int) (s12 : (Vector UInt8 16) × (List (Vector UInt8 16)) × Int) : Option (Fl ((Vector UInt8 16) × (List (Vector UInt8 16)) × Int) (List (Vector UInt8 16))) :=
 if (decide (s12.2.2 ≤ p2)) = true then ((UL p0.Box s12.1 s12.2.2).bind fun r19=>(app 16 s12.2.1 ([r19] : List (Vector UInt8 16))).bind fun l23=>some (Fl.nx (r19,(s12.2.1 ++ ([r19] : List (Vector UInt8 16))),wr (s12.2.2 + 1)))) else (some (Fl.ex s12.2.1))
def Uv (p0 : GCipher) (p1 : (Vector UInt8 16)) (p2 : Int) : Option ((List (Vector UInt8 16))) :=
 (ZK (Vm p0 p2) (p1,([p1] : List (Vector UInt8 16)),1)).bind fun j7=>some j7
theorem BW (w0 : World) (p0 : GCipher) (p1 : (Vector UInt8 16)) (p2 : Int) (r : (List (Vector UInt8 16))) (hF : Uv p0 p1 p2 = some r) :
  Calls Tryz.prog 86 [(Value.agg (enc p0).toArray),(Value.agg (enc p1).toArray),vI p2].toArray w0 (fun en w'=>∃ v,en = .returned v ∧ (∃ (y1 : Value),v = y1 ∧ Fr w0 w' [osl NoB (r : List (Vector UInt8 16)) y1] ∧ Kept (Old w0) w0 w')):=by
 refine ce Tryz.func86 ?_
 intro a hE
 have hM:=M.start w0
 unfold Uv at hF
 refine Zb (ZY (cs:=cat [[vI p0.Field],enc p0.Box,enc p0.Mix,enc p0.Places,[vI p0.Rounds]]) hE hM Za ld rfl rfl fun b1 w a hM hE=>ZY (cs:=enc p1) hE hM Za ld rfl rfl fun b3 w a hM hE=>Zc hE rfl fun a hE=>Ze (Zb (Zk hE rfl Zv rfl hM.rawAt0 (Flat.len _) fun a hE=>Yc (xs:=[.tmp 9]) (l:=([p1] : List (Vector UInt8 16))) (vs:=[(Value.agg (enc p1).toArray)]) hE hM Za ld rfl rfl Tryz.underlying36 Zv rfl (by decide) rfl fun u5 w a hM hE=>Zc hE rfl fun a hE=>Ze (wp_seq (Zb (Zc hE rfl fun a hE=>Ze ?_))))))
 obtain ⟨j7,hl8,hF9⟩:=bind_some hF
 refine ZS (fun a w=>∃ (u10 : Value),Env 26 a [(7,u10)] ∧ M (Old w0) w0 w [osl NoB (j7 : List (Vector UInt8 16)) u10]) ?_ ?_
 ·skip
  refine wp_block ?_
  have hM:=hM.pull2.pull2
  refine ZO (fun (s12 : (Vector UInt8 16) × (List (Vector UInt8 16)) × Int) a w=>∃ (u13 : Value),Env 26 a [(2,vI p2),(3,(ptr b1 0)),(4,(ptr b3 0)),(7,u13),(8,vI s12.2.2)] ∧ M (Old w0) w0 w [raw b3 (enc s12.1),raw b1 (cat [[vI p0.Field],enc p0.Box,enc p0.Mix,enc p0.Places,[vI p0.Rounds]]),osl NoB (s12.2.1 : List (Vector UInt8 16)) u13]) hl8 ⟨u5,hE.sub ⟨rfl,rfl,rfl,rfl,rfl,trivial⟩,hM⟩ ?_
  rintro s12 a w ⟨u13,hE,hM⟩ o17 hs15 hx16
  unfold Vm at hs15
  refine wp_seq (Zb (Zd hE rfl fun a hE=>Zd hE rfl fun a hE=>Zl hE rfl rfl rfl fun a hE=>Ze ?_))
  refine Zr hE rfl ?_ ?_
  ·intro hb18
   have hs15:=Zu hs15 hb18
   refine wp_skip (Zz (wp_seq (wp_block (Zb (ZJ hE rfl (Qa) fun a hE=>Zk hE rfl YN rfl (At.cat (pre:=[[vI p0.Field]]) hM.rawAt1 ck) (Flat.len _) fun a hE=>Zk hE rfl Zv rfl hM.rawAt0 (Flat.len _) fun a hE=>Zd hE rfl ?_))))); intro a hE
   obtain ⟨r19,e20,hs15⟩:=bind_some hs15
   refine Zo hE rfl (cbm Tryz.func105) (B0 _ p0.Box s12.1 s12.2.2 r19 e20) ?_
   rintro v w a ⟨rfl,hK⟩ hE
   have hM:=hM.keep hK
   refine Zg (seg:=enc r19) (cs':=enc r19) hE hM Za rfl rfl rfl Zv (Flat.len _) (zle flq) (Flat.cell _) (Zf flq) fun w a hM hE=>Ze (wp_region_lit (Zd hE rfl fun a hE=>Zk hE rfl Zv rfl hM.rawAt0 (Flat.len _) fun a hE=>Yc (xs:=[.tmp 22]) (l:=([r19] : List (Vector UInt8 16))) (vs:=[(Value.agg (enc r19).toArray)]) hE hM Za ld rfl rfl Tryz.underlying36 Zv rfl (by decide) rfl ?_)); intro u21 w a hM hE
   obtain ⟨l23,e24,hs15⟩:=bind_some hs15
   obtain ⟨e27,rfl⟩:=U3 e24
   have hM:=hM.pull3
   refine Uo hE hM Za ld rfl rfl (hM.sl (pre:=[_]) noB) Tryz.underlying36 Zv rfl (by decide) e27 fun u25 w a hM hE=>Zc hE rfl fun a hE=>Zh (Z9 (Zz (wp_region_lit (Zd hE rfl fun a hE=>Zl hE rfl rfl rfl fun a hE=>Zc hE rfl fun a hE=>Zh (Zi ?_)))))
   have hM:=M.fst (l:=[_,_,_]) hM.pull3.pull3
   exact ⟨_,(ois hs15),u25,hE.sub ⟨rfl,rfl,rfl,rfl,rfl,trivial⟩,hM⟩
  ·intro hb18
   have hs15:=Zt hs15 hb18
   refine wp_exit (Zq (Zq (Yi ?_)))
   obtain rfl:=hx16 _ (ois hs15)
   refine Zi ?_
   have hM:=M.fst (l:=[_]) hM.pull2
   exact ⟨u13,hE.sub ⟨rfl,trivial⟩,hM⟩
 ·skip
  rintro a w ⟨u10,hE,hM⟩
  refine Zz (Zb (Zd hE rfl fun a hE=>Zc hE rfl fun a hE=>Ze ?_))
  obtain rfl:=Option.some.inj hF9
  exact wp_ret (Z2 hE rfl (ZF hE rfl) ⟨_,rfl,u10,rfl,hM.outF (WU WD),hM.kept⟩)
def VO (p1 : (Vector UInt8 16)) (s10 : (Vector UInt8 16) × Int) : Option (Fl ((Vector UInt8 16) × Int) (Vector UInt8 16)) :=
 if (decide (s10.2 < 16)) = true then ((ZB s10.1 s10.2).bind fun x17=>(ZB p1 s10.2).bind fun x20=>(ZB s10.1 s10.2).bind fun x23=>some (Fl.nx ((s10.1.setIfInBounds (s10.2).toNat (x17 ^^^ x20)),wr (s10.2 + 1)))) else (some (Fl.ex s10.1))
def WW (p0 : (Vector UInt8 16)) (p1 : (Vector UInt8 16)) : Option ((Vector UInt8 16)) :=
 (ZK (VO p1) (p0,0)).bind fun j7=>some j7
theorem Q2 (w0 : World) (p0 : (Vector UInt8 16)) (p1 : (Vector UInt8 16)) (r : (Vector UInt8 16)) (hF : WW p0 p1 = some r) :
  Calls Tryz.prog 34 [(Value.agg (enc p0).toArray),(Value.agg (enc p1).toArray)].toArray w0 (Rt w0 (Value.agg (enc r).toArray)):=by
 refine ce Tryz.func34 ?_
 intro a hE
 have hM:=M.start w0
 unfold WW at hF
 refine Zb (ZY (cs:=enc p0) hE hM Za ld rfl rfl fun b1 w a hM hE=>ZY (cs:=enc p1) hE hM Za ld rfl rfl fun b3 w a hM hE=>Zs hE hM Zv fun b5 w a hM hE=>Ze (wp_seq (Zb (Zc hE rfl fun a hE=>Ze ?_))))
 obtain ⟨j7,hl8,hF9⟩:=bind_some hF
 refine ZS (fun a w=>Env 20 a [(2,(ptr b1 0)),(4,(ptr b5 0))] ∧ M (Old w0) w0 w [raw b5 (enc (Vector.replicate 16 (0 : UInt8))),raw b1 (enc j7)]) ?_ ?_
 ·skip
  refine wp_block ?_
  refine ZO (fun (s10 : (Vector UInt8 16) × Int) a w=>Env 20 a [(2,(ptr b1 0)),(3,(ptr b3 0)),(4,(ptr b5 0)),(5,vI s10.2)] ∧ M (Old w0) w0 w [raw b5 (enc (Vector.replicate 16 (0 : UInt8))),raw b3 (enc p1),raw b1 (enc s10.1)]) hl8 ⟨hE.sub ⟨rfl,rfl,rfl,rfl,trivial⟩,hM⟩ ?_
  rintro s10 a w ⟨hE,hM⟩ o13 hs11 hx12
  unfold VO at hs11
  refine wp_seq (Zb (Zd hE rfl fun a hE=>Zl hE rfl rfl rfl fun a hE=>Ze ?_))
  refine Zr hE rfl ?_ ?_
  ·intro hb14
   have hs11:=Zu hs11 hb14
   refine wp_skip (Zz (wp_seq (wp_block ?_)))
   obtain ⟨x17,hi16,hs11⟩:=bvx hs11
   obtain ⟨x20,hi19,hs11⟩:=bvx hs11
   obtain ⟨x23,hi22,hs11⟩:=bvx hs11
   refine Yl [10,11,12,13,14,15,16,17,18] Xm rfl rfl (by decide) rfl hE hM (qsP (fun z=>Zj z.E Za ld rfl (kr0 rfl)) (qsP (fun z=>Zj z.E Za ld rfl (kr0 rfl)) (qsP (fun z=>ZA z.E Za ld rfl rfl Tryz.underlying33 ty5 hi16.1 (kr0 rfl)) (qsP (fun z=>Z0 (v:=(vB x17)) z.E Za ld rfl ty5 rfl (At.vec (z.M.rawAt2) hi16.2) (kr0 rfl)) (qsP (fun z=>Zj z.E Za ld rfl (kr0 rfl)) (qsP (fun z=>ZA z.E Za ld rfl rfl Tryz.underlying33 ty5 hi19.1 (kr0 rfl)) (qsP (fun z=>Z0 (v:=(vB x20)) z.E Za ld rfl ty5 rfl (At.vec (z.M.rawAt1) hi19.2) (kr0 rfl)) (qsP (v:=(vB (x17 ^^^ x20))) (fun z=>Yk z.E Za ld rfl rfl (WI x17 x20) (kr0 rfl)) (qsP (fun z=>ZA z.E Za ld rfl rfl Tryz.underlying33 ty5 hi22.1 (kr0 rfl)) qs0))))))))) ?_
   ·intro a w u hE hM
    have hM:=hM.pull2
    refine Zg (seg:=[(vB (x17 ^^^ x20))]) (cs':=enc (s10.1.setIfInBounds (s10.2).toNat (x17 ^^^ x20))) hE hM Za rfl rfl rfl ty5 rfl (ZE (v:=s10.1) (x:=x17 ^^^ x20) hi22.1) (Flat.cell (x17 ^^^ x20 : UInt8)) (Zy (v:=s10.1) (x:=x17 ^^^ x20) hi22.1) fun w a hM hE=>Zh (Z9 (Zz (wp_region_lit (Zd hE rfl fun a hE=>Zl hE rfl rfl rfl fun a hE=>Zc hE rfl fun a hE=>Zh (Zi ?_)))))
    have hM:=hM.pull2.pull2
    exact ⟨_,(ois hs11),hE.sub ⟨rfl,rfl,rfl,rfl,trivial⟩,hM⟩
  ·intro hb14
   have hs11:=Zt hs11 hb14
   refine wp_exit (Zq (Zq (Yi ?_)))
   obtain rfl:=hx12 _ (ois hs11)
   refine Zi ?_
   have hM:=M.fst (l:=[_,_]) hM.pull2.pull1
   exact ⟨hE.sub ⟨rfl,rfl,trivial⟩,hM⟩
 ·skip
  rintro a w ⟨hE,hM⟩
  refine Zz (Zb (Zk hE rfl Zv rfl hM.rawAt1 (Flat.len _) fun a hE=>Zg (seg:=enc j7) (cs':=enc j7) hE hM Za rfl rfl rfl Zv (Flat.len _) (zle flq) (Flat.cell _) (Zf flq) fun w a hM hE=>Ze ?_))
  obtain rfl:=Option.some.inj hF9
  have hq26 : ZX Tryz.prog _ _ (.cell 4 33) _:=ZN hE rfl Zv rfl hM.rawAt0 (Flat.len _) rfl
  exact wp_ret (Z2 hE rfl hq26 ⟨_,rfl,rfl,hM.kept⟩)
def W2 (p0 : (Vector UInt8 256)) (s10 : (Vector UInt8 16) × Int) : Option (Fl ((Vector UInt8 16) × Int) (Vector UInt8 16)) :=
 if (decide (s10.2 < 16)) = true then ((ZB s10.1 s10.2).bind fun x16=>(ZB p0 (bI x16)).bind fun x19=>(ZB s10.1 s10.2).bind fun x22=>some (Fl.nx ((s10.1.setIfInBounds (s10.2).toNat x19),wr (s10.2 + 1)))) else (some (Fl.ex s10.1))
def Uc (p0 : (Vector UInt8 256)) (p1 : (Vector UInt8 16)) : Option ((Vector UInt8 16)) :=
 (ZK (W2 p0) (p1,0)).bind fun j7=>some j7
theorem Bt (w0 : World) (p0 : (Vector UInt8 256)) (p1 : (Vector UInt8 16)) (r : (Vector UInt8 16)) (hF : Uc p0 p1 = some r) :
  Calls Tryz.prog 88 [(Value.agg (enc p0).toArray),(Value.agg (enc p1).toArray)].toArray w0 (Rt w0 (Value.agg (enc r).toArray)):=by
 refine ce Tryz.func88 ?_
 intro a hE
 have hM:=M.start w0
 unfold Uc at hF
 refine Zb (ZY (cs:=enc p0) hE hM Za ld rfl rfl fun b1 w a hM hE=>ZY (cs:=enc p1) hE hM Za ld rfl rfl fun b3 w a hM hE=>Zs hE hM Zv fun b5 w a hM hE=>Ze (wp_seq (Zb (Zc hE rfl fun a hE=>Ze ?_))))
 obtain ⟨j7,hl8,hF9⟩:=bind_some hF
 refine ZS (fun a w=>Env 18 a [(3,(ptr b3 0)),(4,(ptr b5 0))] ∧ M (Old w0) w0 w [raw b5 (enc (Vector.replicate 16 (0 : UInt8))),raw b3 (enc j7)]) ?_ ?_
 ·skip
  refine wp_block ?_
  refine ZO (fun (s10 : (Vector UInt8 16) × Int) a w=>Env 18 a [(2,(ptr b1 0)),(3,(ptr b3 0)),(4,(ptr b5 0)),(5,vI s10.2)] ∧ M (Old w0) w0 w [raw b5 (enc (Vector.replicate 16 (0 : UInt8))),raw b3 (enc s10.1),raw b1 (enc p0)]) hl8 ⟨hE.sub ⟨rfl,rfl,rfl,rfl,trivial⟩,hM⟩ ?_
  rintro s10 a w ⟨hE,hM⟩ o13 hs11 hx12
  unfold W2 at hs11
  refine wp_seq (Zb (Zd hE rfl fun a hE=>Zl hE rfl rfl rfl fun a hE=>Ze ?_))
  refine Zr hE rfl ?_ ?_
  ·intro hb14
   have hs11:=Zu hs11 hb14
   refine wp_skip (Zz (wp_seq (wp_block (wp_region_lit (Zd hE rfl fun a hE=>Zd hE rfl ?_))))); intro a hE
   obtain ⟨x16,hi15,hs11⟩:=bvx hs11
   refine Zw hE rfl rfl Tryz.underlying33 ty5 hi15.1 fun a hE=>ZR (v:=(vB x16)) hE rfl ty5 rfl (At.vec hM.rawAt1 hi15.2) ?_; intro a hE
   obtain ⟨x19,hi18,hs11⟩:=bvx hs11
   refine Zw hE rfl rfl Tryz.underlying25 ty5 hi18.1 fun a hE=>ZR (v:=(vB x19)) hE rfl ty5 rfl (At.vec hM.rawAt2 hi18.2) ?_; intro a hE
   obtain ⟨x22,hi21,hs11⟩:=bvx hs11
   refine Zw hE rfl rfl Tryz.underlying33 ty5 hi21.1 ?_; intro a hE
   have hM:=hM.pull1
   refine Zg (seg:=[vB x19]) (cs':=enc (s10.1.setIfInBounds (s10.2).toNat x19)) hE hM Za rfl rfl rfl ty5 rfl (ZE (v:=s10.1) (x:=x19) hi21.1) (Flat.cell (x19 : UInt8)) (Zy (v:=s10.1) (x:=x19) hi21.1) fun w a hM hE=>Zh (Z9 (Zz (wp_region_lit (Zd hE rfl fun a hE=>Zl hE rfl rfl rfl fun a hE=>Zc hE rfl fun a hE=>Zh (Zi ?_)))))
   have hM:=hM.pull2.pull1.pull2
   exact ⟨_,(ois hs11),hE.sub ⟨rfl,rfl,rfl,rfl,trivial⟩,hM⟩
  ·intro hb14
   have hs11:=Zt hs11 hb14
   refine wp_exit (Zq (Zq (Yi ?_)))
   obtain rfl:=hx12 _ (ois hs11)
   refine Zi ?_
   have hM:=M.fst (l:=[_,_]) hM.pull1.pull1
   exact ⟨hE.sub ⟨rfl,rfl,trivial⟩,hM⟩
 ·skip
  rintro a w ⟨hE,hM⟩
  refine Zz (Zb (Zk hE rfl Zv rfl hM.rawAt1 (Flat.len _) fun a hE=>Zg (seg:=enc j7) (cs':=enc j7) hE hM Za rfl rfl rfl Zv (Flat.len _) (zle flq) (Flat.cell _) (Zf flq) fun w a hM hE=>Ze ?_))
  obtain rfl:=Option.some.inj hF9
  have hq25 : ZX Tryz.prog _ _ (.cell 4 33) _:=ZN hE rfl Zv rfl hM.rawAt0 (Flat.len _) rfl
  exact wp_ret (Z2 hE rfl hq25 ⟨_,rfl,rfl,hM.kept⟩)
def Vr (p0 : (Vector UInt8 16)) (p1 : (Vector UInt8 16)) (s12 : (Vector UInt8 16) × Int) : Option (Fl ((Vector UInt8 16) × Int) (Vector UInt8 16)) :=
 if (decide (s12.2 < 16)) = true then ((ZB p0 s12.2).bind fun x18=>(ZB p1 (bI x18)).bind fun x21=>(ZB s12.1 s12.2).bind fun x24=>some (Fl.nx ((s12.1.setIfInBounds (s12.2).toNat x21),wr (s12.2 + 1)))) else (some (Fl.ex s12.1))
def UG (p0 : (Vector UInt8 16)) (p1 : (Vector UInt8 16)) : Option ((Vector UInt8 16)) :=
 (ZK (Vr p0 p1) ((Vector.replicate 16 (0 : UInt8)),0)).bind fun j9=>some j9
theorem Av (w0 : World) (p0 : (Vector UInt8 16)) (p1 : (Vector UInt8 16)) (r : (Vector UInt8 16)) (hF : UG p0 p1 = some r) :
  Calls Tryz.prog 87 [(Value.agg (enc p0).toArray),(Value.agg (enc p1).toArray)].toArray w0 (Rt w0 (Value.agg (enc r).toArray)):=by
 refine ce Tryz.func87 ?_
 intro a hE
 have hM:=M.start w0
 unfold UG at hF
 refine Zb (ZY (cs:=enc p0) hE hM Za ld rfl rfl fun b1 w a hM hE=>ZY (cs:=enc p1) hE hM Za ld rfl rfl fun b3 w a hM hE=>Zs hE hM Zv fun b5 w a hM hE=>Ze (Zb (Z8 (parts:=[]) (vs:=[]) (cs:=enc (Vector.replicate 16 (0 : UInt8))) hE Za ld rfl rfl Zv rfl ty5 ZZ fun a hE=>Zs hE hM Zv fun b7 w a hM hE=>Zg (seg:=enc (Vector.replicate 16 (0 : UInt8))) (cs':=enc (Vector.replicate 16 (0 : UInt8))) hE hM Za rfl rfl rfl Zv (Flat.len _) (zle flq) (Flat.cell _) (Zf flq) fun w a hM hE=>Ze (wp_seq (Zb (Zc hE rfl fun a hE=>Ze ?_))))))
 obtain ⟨j9,hl10,hF11⟩:=bind_some hF
 refine ZS (fun a w=>Env 20 a [(4,(ptr b5 0)),(5,(ptr b7 0))] ∧ M (Old w0) w0 w [raw b7 (enc j9),raw b5 (enc (Vector.replicate 16 (0 : UInt8)))]) ?_ ?_
 ·skip
  refine wp_block ?_
  refine ZO (fun (s12 : (Vector UInt8 16) × Int) a w=>Env 20 a [(2,(ptr b1 0)),(3,(ptr b3 0)),(4,(ptr b5 0)),(5,(ptr b7 0)),(6,vI s12.2)] ∧ M (Old w0) w0 w [raw b7 (enc s12.1),raw b5 (enc (Vector.replicate 16 (0 : UInt8))),raw b3 (enc p1),raw b1 (enc p0)]) hl10 ⟨hE.sub ⟨rfl,rfl,rfl,rfl,rfl,trivial⟩,hM⟩ ?_
  rintro s12 a w ⟨hE,hM⟩ o15 hs13 hx14
  unfold Vr at hs13
  refine wp_seq (Zb (Zd hE rfl fun a hE=>Zl hE rfl rfl rfl fun a hE=>Ze ?_))
  refine Zr hE rfl ?_ ?_
  ·intro hb16
   have hs13:=Zu hs13 hb16
   refine wp_skip (Zz (wp_seq (wp_block (wp_region_lit (Zd hE rfl fun a hE=>Zd hE rfl ?_))))); intro a hE
   obtain ⟨x18,hi17,hs13⟩:=bvx hs13
   refine Zw hE rfl rfl Tryz.underlying30 ty5 hi17.1 fun a hE=>ZR (v:=(vB x18)) hE rfl ty5 rfl (At.vec hM.rawAt3 hi17.2) ?_; intro a hE
   obtain ⟨x21,hi20,hs13⟩:=bvx hs13
   refine Zw hE rfl rfl Tryz.underlying33 ty5 hi20.1 fun a hE=>ZR (v:=(vB x21)) hE rfl ty5 rfl (At.vec hM.rawAt2 hi20.2) ?_; intro a hE
   obtain ⟨x24,hi23,hs13⟩:=bvx hs13
   refine Zw hE rfl rfl Tryz.underlying33 ty5 hi23.1 fun a hE=>Zg (seg:=[vB x21]) (cs':=enc (s12.1.setIfInBounds (s12.2).toNat x21)) hE hM Za rfl rfl rfl ty5 rfl (ZE (v:=s12.1) (x:=x21) hi23.1) (Flat.cell (x21 : UInt8)) (Zy (v:=s12.1) (x:=x21) hi23.1) fun w a hM hE=>Zh (Z9 (Zz (wp_region_lit (Zd hE rfl fun a hE=>Zl hE rfl rfl rfl fun a hE=>Zc hE rfl fun a hE=>Zh (Zi ?_)))))
   exact ⟨_,(ois hs13),hE.sub ⟨rfl,rfl,rfl,rfl,rfl,trivial⟩,hM⟩
  ·intro hb16
   have hs13:=Zt hs13 hb16
   refine wp_exit (Zq (Zq (Yi ?_)))
   obtain rfl:=hx14 _ (ois hs13)
   refine Zi ?_
   have hM:=M.fst (l:=[_,_]) hM.pull1.pull1
   exact ⟨hE.sub ⟨rfl,rfl,trivial⟩,hM⟩
 ·skip
  rintro a w ⟨hE,hM⟩
  refine Zz (Zb (Zk hE rfl Zv rfl hM.rawAt0 (Flat.len _) ?_)); intro a hE
  have hM:=hM.pull1
  refine Zg (seg:=enc j9) (cs':=enc j9) hE hM Za rfl rfl rfl Zv (Flat.len _) (zle flq) (Flat.cell _) (Zf flq) fun w a hM hE=>Ze ?_
  obtain rfl:=Option.some.inj hF11
  have hq27 : ZX Tryz.prog _ _ (.cell 4 33) _:=ZN hE rfl Zv rfl hM.rawAt0 (Flat.len _) rfl
  exact wp_ret (Z2 hE rfl hq27 ⟨_,rfl,rfl,hM.kept⟩)
def Ws (p0 : Int) (p1 : (Vector (Vector UInt8 4) 4)) (p2 : (Vector UInt8 16)) (s12 : (Vector UInt8 16) × Int) (s20 : (Vector UInt8 16) × Int) (s28 : (Vector UInt8 16) × Int) : Option (Fl ((Vector UInt8 16) × Int) (Vector UInt8 16)) :=
 if (decide (s28.2 < 4)) = true then ((ZB s28.1 (wr ((wr (4 * s12.2)) + s20.2))).bind fun x35=>(ZB p1 s20.2).bind fun x38=>(ZB x38 s28.2).bind fun x41=>(ZB p2 (wr ((wr (4 * s12.2)) + s28.2))).bind fun x44=>(Ye p0 x41 x44).bind fun r46=>(ZB s28.1 (wr ((wr (4 * s12.2)) + s20.2))).bind fun x49=>some (Fl.nx ((s28.1.setIfInBounds ((wr ((wr (4 * s12.2)) + s20.2))).toNat (x35 ^^^ r46)),wr (s28.2 + 1)))) else (some (Fl.ex s28.1))
def V4 (p0 : Int) (p1 : (Vector (Vector UInt8 4) 4)) (p2 : (Vector UInt8 16)) (s12 : (Vector UInt8 16) × Int) (s20 : (Vector UInt8 16) × Int) : Option (Fl ((Vector UInt8 16) × Int) (Vector UInt8 16)) :=
 if (decide (s20.2 < 4)) = true then ((ZK (Ws p0 p1 p2 s12 s20) (s20.1,0)).bind fun j25=>some (Fl.nx (j25,wr (s20.2 + 1)))) else (some (Fl.ex s20.1))
def V1 (p0 : Int) (p1 : (Vector (Vector UInt8 4) 4)) (p2 : (Vector UInt8 16)) (s12 : (Vector UInt8 16) × Int) : Option (Fl ((Vector UInt8 16) × Int) (Vector UInt8 16)) :=
 if (decide (s12.2 < 4)) = true then ((ZK (V4 p0 p1 p2 s12) (s12.1,0)).bind fun j17=>some (Fl.nx (j17,wr (s12.2 + 1)))) else (some (Fl.ex s12.1))
def U5 (p0 : Int) (p1 : (Vector (Vector UInt8 4) 4)) (p2 : (Vector UInt8 16)) : Option ((Vector UInt8 16)) :=
 (ZK (V1 p0 p1 p2) ((Vector.replicate 16 (0 : UInt8)),0)).bind fun j9=>some j9
theorem AS (w0 : World) (p0 : Int) (p1 : (Vector (Vector UInt8 4) 4)) (p2 : (Vector UInt8 16)) (r : (Vector UInt8 16)) (hF : U5 p0 p1 p2 = some r) :
  Calls Tryz.prog 89 [vI p0,(Value.agg (enc p1).toArray),(Value.agg (enc p2).toArray)].toArray w0 (Rt w0 (Value.agg (enc r).toArray)):=by
 refine ce Tryz.func89 ?_
 intro a hE
 have hM:=M.start w0
 unfold U5 at hF
 refine Zb (ZY (cs:=enc p1) hE hM Za ld rfl rfl fun b1 w a hM hE=>ZY (cs:=enc p2) hE hM Za ld rfl rfl fun b3 w a hM hE=>Zs hE hM Zv fun b5 w a hM hE=>Ze (Zb (Z8 (parts:=[]) (vs:=[]) (cs:=enc (Vector.replicate 16 (0 : UInt8))) hE Za ld rfl rfl Zv rfl ty5 ZZ fun a hE=>Zs hE hM Zv fun b7 w a hM hE=>Zg (seg:=enc (Vector.replicate 16 (0 : UInt8))) (cs':=enc (Vector.replicate 16 (0 : UInt8))) hE hM Za rfl rfl rfl Zv (Flat.len _) (zle flq) (Flat.cell _) (Zf flq) fun w a hM hE=>Ze (wp_seq (Zb (Zc hE rfl fun a hE=>Ze ?_))))))
 obtain ⟨j9,hl10,hF11⟩:=bind_some hF
 refine ZS (fun a w=>Env 50 a [(6,(ptr b5 0)),(7,(ptr b7 0))] ∧ M (Old w0) w0 w [raw b7 (enc j9),raw b5 (enc (Vector.replicate 16 (0 : UInt8)))]) ?_ ?_
 ·skip
  refine wp_block ?_
  refine ZO (fun (s12 : (Vector UInt8 16) × Int) a w=>Env 50 a [(0,vI p0),(4,(ptr b1 0)),(5,(ptr b3 0)),(6,(ptr b5 0)),(7,(ptr b7 0)),(8,vI s12.2)] ∧ M (Old w0) w0 w [raw b7 (enc s12.1),raw b5 (enc (Vector.replicate 16 (0 : UInt8))),raw b3 (enc p2),raw b1 (enc p1)]) hl10 ⟨hE.sub ⟨rfl,rfl,rfl,rfl,rfl,rfl,trivial⟩,hM⟩ ?_
  rintro s12 a w ⟨hE,hM⟩ o15 hs13 hx14
  unfold V1 at hs13
  refine wp_seq (Zb (Zd hE rfl fun a hE=>Zl hE rfl rfl rfl fun a hE=>Ze ?_))
  refine Zr hE rfl ?_ ?_
  ·intro hb16
   have hs13:=Zu hs13 hb16
   refine wp_skip (Zz (wp_seq (wp_block (Zb (Zc hE rfl fun a hE=>Ze ?_)))))
   obtain ⟨j17,hl18,hF19⟩:=bind_some hs13
   refine ZS (fun a w=>Env 50 a [(0,vI p0),(4,(ptr b1 0)),(5,(ptr b3 0)),(6,(ptr b5 0)),(7,(ptr b7 0)),(8,vI s12.2)] ∧ M (Old w0) w0 w [raw b7 (enc j17),raw b5 (enc (Vector.replicate 16 (0 : UInt8))),raw b3 (enc p2),raw b1 (enc p1)]) ?_ ?_
   ·skip
    refine wp_block ?_
    refine ZO (fun (s20 : (Vector UInt8 16) × Int) a w=>Env 50 a [(0,vI p0),(4,(ptr b1 0)),(5,(ptr b3 0)),(6,(ptr b5 0)),(7,(ptr b7 0)),(8,vI s12.2),(9,vI s20.2)] ∧ M (Old w0) w0 w [raw b7 (enc s20.1),raw b5 (enc (Vector.replicate 16 (0 : UInt8))),raw b3 (enc p2),raw b1 (enc p1)]) hl18 ⟨hE.sub ⟨rfl,rfl,rfl,rfl,rfl,rfl,rfl,trivial⟩,hM⟩ ?_
    rintro s20 a w ⟨hE,hM⟩ o23 hs21 hx22
    unfold V4 at hs21
    refine wp_seq (Zb (Zd hE rfl fun a hE=>Zl hE rfl rfl rfl fun a hE=>Ze ?_))
    refine Zr hE rfl ?_ ?_
    ·intro hb24
     have hs21:=Zu hs21 hb24
     refine wp_skip (Zz (wp_seq (wp_block (Zb (Zc hE rfl fun a hE=>Ze ?_)))))
     obtain ⟨j25,hl26,hF27⟩:=bind_some hs21
     refine ZS (fun a w=>Env 50 a [(0,vI p0),(4,(ptr b1 0)),(5,(ptr b3 0)),(6,(ptr b5 0)),(7,(ptr b7 0)),(8,vI s12.2),(9,vI s20.2)] ∧ M (Old w0) w0 w [raw b7 (enc j25),raw b5 (enc (Vector.replicate 16 (0 : UInt8))),raw b3 (enc p2),raw b1 (enc p1)]) ?_ ?_
     ·skip
      refine wp_block ?_
      refine ZO (fun (s28 : (Vector UInt8 16) × Int) a w=>Env 50 a [(0,vI p0),(4,(ptr b1 0)),(5,(ptr b3 0)),(6,(ptr b5 0)),(7,(ptr b7 0)),(8,vI s12.2),(9,vI s20.2),(10,vI s28.2)] ∧ M (Old w0) w0 w [raw b7 (enc s28.1),raw b5 (enc (Vector.replicate 16 (0 : UInt8))),raw b3 (enc p2),raw b1 (enc p1)]) hl26 ⟨hE.sub ⟨rfl,rfl,rfl,rfl,rfl,rfl,rfl,rfl,trivial⟩,hM⟩ ?_
      rintro s28 a w ⟨hE,hM⟩ o31 hs29 hx30
      unfold Ws at hs29
      refine wp_seq (Zb (Zd hE rfl fun a hE=>Zl hE rfl rfl rfl fun a hE=>Ze ?_))
      refine Zr hE rfl ?_ ?_
      ·intro hb32
       have hs29:=Zu hs29 hb32
       refine wp_skip (Zz (wp_seq (wp_block ?_)))
       obtain ⟨x35,hi34,hs29⟩:=bvx hs29
       obtain ⟨x38,hi37,hs29⟩:=bvx hs29
       obtain ⟨x41,hi40,hs29⟩:=bvx hs29
       obtain ⟨x44,hi43,hs29⟩:=bvx hs29
       obtain ⟨r46,e47,hs29⟩:=bind_some hs29
       obtain ⟨x49,hi48,hs29⟩:=bvx hs29
       refine Yl [24,25,26,27,28,29,30,31,32,33,34,35,36,37,38,39,40,41,42,43,44,45,46,47,48] Xm rfl rfl (by decide) rfl hE hM (qsP (fun z=>Zj z.E Za ld rfl (kr0 rfl)) (qsP (v:=(vI (wr (4 * s12.2)))) (fun z=>Yk z.E Za ld rfl rfl rfl (kr0 rfl)) (qsP (fun z=>Zj z.E Za ld rfl (kr0 rfl)) (qsP (v:=(vI (wr ((wr (4 * s12.2)) + s20.2)))) (fun z=>Yk z.E Za ld rfl rfl rfl (kr0 rfl)) (qsP (fun z=>Zj z.E Za ld rfl (kr0 rfl)) (qsP (v:=(vI (wr (4 * s12.2)))) (fun z=>Yk z.E Za ld rfl rfl rfl (kr0 rfl)) (qsP (fun z=>Zj z.E Za ld rfl (kr0 rfl)) (qsP (v:=(vI (wr ((wr (4 * s12.2)) + s20.2)))) (fun z=>Yk z.E Za ld rfl rfl rfl (kr0 rfl)) (qsP (fun z=>ZA z.E Za ld rfl rfl Tryz.underlying33 ty5 hi34.1 (kr0 rfl)) (qsP (fun z=>Z0 (v:=(vB x35)) z.E Za ld rfl ty5 rfl (At.vec (z.M.rawAt0) hi34.2) (kr0 rfl)) (qsP (fun z=>Zj z.E Za ld rfl (kr0 rfl)) (qsP (fun z=>Zj z.E Za ld rfl (kr0 rfl)) (qsP (fun z=>Zj z.E Za ld rfl (kr0 rfl)) (qsP (fun z=>ZA z.E Za ld rfl rfl Tryz.underlying28 Yq hi37.1 (kr0 rfl)) (qsP (fun z=>ZA z.E Za ld rfl rfl Tryz.underlying26 ty5 hi40.1 (kr0 rfl)) (qsP (fun z=>Z0 (v:=(vB x41)) z.E Za ld rfl ty5 rfl (At.vec (At.vec (z.M.rawAt3) hi37.2) hi40.2) (kr0 rfl)) (qsP (fun z=>Zj z.E Za ld rfl (kr0 rfl)) (qsP (v:=(vI (wr (4 * s12.2)))) (fun z=>Yk z.E Za ld rfl rfl rfl (kr0 rfl)) (qsP (fun z=>Zj z.E Za ld rfl (kr0 rfl)) (qsP (v:=(vI (wr ((wr (4 * s12.2)) + s28.2)))) (fun z=>Yk z.E Za ld rfl rfl rfl (kr0 rfl)) (qsP (fun z=>ZA z.E Za ld rfl rfl Tryz.underlying33 ty5 hi43.1 (kr0 rfl)) (qsP (fun z=>Z0 (v:=(vB x44)) z.E Za ld rfl ty5 rfl (At.vec (z.M.rawAt2) hi43.2) (kr0 rfl)) (qsP (fun z=>YD z.E Za ld rfl Jy (Y7 _ p0 x41 x44 r46 e47) (kc rfl)) (qsP (v:=(vB (x35 ^^^ r46))) (fun z=>Yk z.E Za ld rfl rfl (WI x35 r46) (kr0 rfl)) (qsP (fun z=>ZA z.E Za ld rfl rfl Tryz.underlying33 ty5 hi48.1 (kr0 rfl)) qs0))))))))))))))))))))))))) ?_
       ·intro a w u hE hM
        refine Zg (seg:=[(vB (x35 ^^^ r46))]) (cs':=enc (s28.1.setIfInBounds ((wr ((wr (4 * s12.2)) + s20.2))).toNat (x35 ^^^ r46))) hE hM Za rfl rfl rfl ty5 rfl (ZE (v:=s28.1) (x:=x35 ^^^ r46) hi48.1) (Flat.cell (x35 ^^^ r46 : UInt8)) (Zy (v:=s28.1) (x:=x35 ^^^ r46) hi48.1) fun w a hM hE=>Zh (Z9 (Zz (wp_region_lit (Zd hE rfl fun a hE=>Zl hE rfl rfl rfl fun a hE=>Zc hE rfl fun a hE=>Zh (Zi ?_)))))
        exact ⟨_,(ois hs29),hE.sub ⟨rfl,rfl,rfl,rfl,rfl,rfl,rfl,rfl,trivial⟩,hM⟩
      ·intro hb32
       have hs29:=Zt hs29 hb32
       refine wp_exit (Zq (Zq (Yi ?_)))
       obtain rfl:=hx30 _ (ois hs29)
       refine Zi ?_
       exact ⟨hE.sub ⟨rfl,rfl,rfl,rfl,rfl,rfl,rfl,trivial⟩,hM⟩
     ·skip
      rintro a w ⟨hE,hM⟩
      refine Z9 (Zz (wp_region_lit (Zd hE rfl fun a hE=>Zl hE rfl rfl rfl fun a hE=>Zc hE rfl fun a hE=>Zh (Zi ?_))))
      exact ⟨_,(ois hF27),hE.sub ⟨rfl,rfl,rfl,rfl,rfl,rfl,rfl,trivial⟩,hM⟩
    ·intro hb24
     have hs21:=Zt hs21 hb24
     refine wp_exit (Zq (Zq (Yi ?_)))
     obtain rfl:=hx22 _ (ois hs21)
     refine Zi ?_
     exact ⟨hE.sub ⟨rfl,rfl,rfl,rfl,rfl,rfl,trivial⟩,hM⟩
   ·skip
    rintro a w ⟨hE,hM⟩
    refine Z9 (Zz (wp_region_lit (Zd hE rfl fun a hE=>Zl hE rfl rfl rfl fun a hE=>Zc hE rfl fun a hE=>Zh (Zi ?_))))
    exact ⟨_,(ois hF19),hE.sub ⟨rfl,rfl,rfl,rfl,rfl,rfl,trivial⟩,hM⟩
  ·intro hb16
   have hs13:=Zt hs13 hb16
   refine wp_exit (Zq (Zq (Yi ?_)))
   obtain rfl:=hx14 _ (ois hs13)
   refine Zi ?_
   have hM:=M.fst (l:=[_,_]) hM.pull1.pull1
   exact ⟨hE.sub ⟨rfl,rfl,trivial⟩,hM⟩
 ·skip
  rintro a w ⟨hE,hM⟩
  refine Zz (Zb (Zk hE rfl Zv rfl hM.rawAt0 (Flat.len _) ?_)); intro a hE
  have hM:=hM.pull1
  refine Zg (seg:=enc j9) (cs':=enc j9) hE hM Za rfl rfl rfl Zv (Flat.len _) (zle flq) (Flat.cell _) (Zf flq) fun w a hM hE=>Ze ?_
  obtain rfl:=Option.some.inj hF11
  have hq54 : ZX Tryz.prog _ _ (.cell 6 33) _:=ZN hE rfl Zv rfl hM.rawAt0 (Flat.len _) rfl
  exact wp_ret (Z2 hE rfl hq54 ⟨_,rfl,rfl,hM.kept⟩)
def XQ (p0 : GCipher) (p3 : Int) (r9 : (List (Vector UInt8 16))) (s25 : (Vector UInt8 16) × Int) : Option (Fl ((Vector UInt8 16) × Int) (Vector UInt8 16)) :=
 if (decide (s25.2 ≤ p3)) = true then ((((Uc p0.Box s25.1).bind fun r37=>(UG p0.Places r37).bind fun r39=>some r39 : Option ((Vector UInt8 16))).bind fun j33=>(if (decide (s25.2 < p3)) = true then ((U5 p0.Field p0.Mix j33).bind fun r46=>some r46) else (some j33) : Option ((Vector UInt8 16))).bind fun j42=>(idx r9 s25.2).bind fun x51=>(WW j42 x51).bind fun r54=>some r54 : Option ((Vector UInt8 16))).bind fun j30=>some (Fl.nx (j30,wr (s25.2 + 1)))) else (some (Fl.ex s25.1))
def Vc (p0 : GCipher) (p1 : (Vector UInt8 16)) (p2 : (Vector UInt8 16)) (p3 : Int) : Option ((Vector UInt8 16)) :=
 (Uv p0 p1 p3).bind fun r9=>((idx r9 (0 : Int)).bind fun x16=>(WW p2 x16).bind fun r19=>some r19 : Option ((Vector UInt8 16))).bind fun j12=>(ZK (XQ p0 p3 r9) (j12,1)).bind fun j22=>some j22
theorem JN (w0 : World) (p0 : GCipher) (p1 : (Vector UInt8 16)) (p2 : (Vector UInt8 16)) (p3 : Int) (r : (Vector UInt8 16)) (hF : Vc p0 p1 p2 p3 = some r) :
  Calls Tryz.prog 59 [(Value.agg (enc p0).toArray),(Value.agg (enc p1).toArray),(Value.agg (enc p2).toArray),vI p3].toArray w0 (Rt w0 (Value.agg (enc r).toArray)):=by
 refine ce Tryz.func59 ?_
 intro a hE
 have hM:=M.start w0
 unfold Vc at hF
 refine Zb (ZY (cs:=cat [[vI p0.Field],enc p0.Box,enc p0.Mix,enc p0.Places,[vI p0.Rounds]]) hE hM Za ld rfl rfl fun b1 w a hM hE=>ZY (cs:=enc p1) hE hM Za ld rfl rfl fun b3 w a hM hE=>ZY (cs:=enc p2) hE hM Za ld rfl rfl fun b5 w a hM hE=>Zs hE hM Zv fun b7 w a hM hE=>Ze (Zb (Zk hE rfl ZT rfl hM.rawAt3 cq fun a hE=>Zk hE rfl Zv rfl hM.rawAt2 (Flat.len _) fun a hE=>Zd hE rfl ?_))); intro a hE
 obtain ⟨r9,e10,hF⟩:=bind_some hF
 refine Zo hE rfl (cbm Tryz.func86) (BW _ p0 p1 p3 r9 e10) ?_
 rintro u11 w a ⟨_,rfl,hFr,hK⟩ hE
 have hM:=hM.add hK hFr
 refine Zc hE rfl fun a hE=>Ze ?_
 obtain ⟨j12,hl13,hF14⟩:=bind_some hF
 refine ZQ (fun a w=>Env 48 a [(3,vI p3),(4,(ptr b1 0)),(6,(ptr b5 0)),(8,(ptr b7 0)),(9,u11)] ∧ M (Old w0) w0 w [osl NoB (r9 : List (Vector UInt8 16)) u11,raw b7 (enc (Vector.replicate 16 (0 : UInt8))),raw b5 (enc j12),raw b1 (cat [[vI p0.Field],enc p0.Box,enc p0.Mix,enc p0.Places,[vI p0.Rounds]])]) ?_ ?_
 ·skip
  obtain ⟨x16,hi18,hl13⟩:=bix hl13
  obtain ⟨r19,e20,hl13⟩:=bind_some hl13
  refine Yl [15,16,17,18,19] Xm rfl rfl (by decide) rfl hE hM (qsP (fun z=>YE z.E Za ld rfl Zv rfl (z.M.rawAt2) (Flat.len _) (kr0 rfl)) (qsP (fun z=>Zj z.E Za ld rfl (kr0 rfl)) (qsP (fun z=>X7 z.E Za ld rfl rfl Tryz.underlying36 Zv (z.M.sl (pre:=[]) noB) hi18.1 (kr0 rfl)) (qsP (fun z=>YE z.E Za ld rfl Zv rfl (Y1 (z.M.sl (pre:=[]) noB) hi18.2) (Flat.len _) (kr0 rfl)) (qsP (fun z=>YD z.E Za ld rfl cb34 (Q2 _ p2 x16 r19 e20) (kc rfl)) qs0))))) ?_
  ·intro a w u hE hM
   have hM:=hM.pull2
   refine Zg (seg:=enc r19) (cs':=enc r19) hE hM Za rfl rfl rfl Zv (Flat.len _) (zle flq) (Flat.cell _) (Zf flq) fun w a hM hE=>Zh ?_
   obtain rfl:=Option.some.inj hl13
   refine Zi ?_
   have hM:=M.fst (l:=[_,_,_,_]) hM.pull4.pull1.pull3.pull3
   exact ⟨hE.sub ⟨rfl,rfl,rfl,rfl,rfl,trivial⟩,hM⟩
 ·skip
  rintro a w ⟨hE,hM⟩
  refine wp_seq (Zb (Zc hE rfl fun a hE=>Ze ?_))
  obtain ⟨j22,hl23,hF24⟩:=bind_some hF14
  refine ZS (fun a w=>Env 48 a [(6,(ptr b5 0)),(8,(ptr b7 0))] ∧ M (Old w0) w0 w [raw b7 (enc (Vector.replicate 16 (0 : UInt8))),raw b5 (enc j22)]) ?_ ?_
  ·skip
   refine wp_block ?_
   refine ZO (fun (s25 : (Vector UInt8 16) × Int) a w=>Env 48 a [(3,vI p3),(4,(ptr b1 0)),(6,(ptr b5 0)),(8,(ptr b7 0)),(9,u11),(10,vI s25.2)] ∧ M (Old w0) w0 w [osl NoB (r9 : List (Vector UInt8 16)) u11,raw b7 (enc (Vector.replicate 16 (0 : UInt8))),raw b5 (enc s25.1),raw b1 (cat [[vI p0.Field],enc p0.Box,enc p0.Mix,enc p0.Places,[vI p0.Rounds]])]) hl23 ⟨hE.sub ⟨rfl,rfl,rfl,rfl,rfl,rfl,trivial⟩,hM⟩ ?_
   rintro s25 a w ⟨hE,hM⟩ o28 hs26 hx27
   unfold XQ at hs26
   refine wp_seq (Zb (Zd hE rfl fun a hE=>Zd hE rfl fun a hE=>Zl hE rfl rfl rfl fun a hE=>Ze ?_))
   refine Zr hE rfl ?_ ?_
   ·intro hb29
    have hs26:=Zu hs26 hb29
    refine wp_skip (Zz ?_)
    obtain ⟨j30,hl31,hF32⟩:=bind_some hs26
    refine ZQ (fun a w=>Env 48 a [(3,vI p3),(4,(ptr b1 0)),(6,(ptr b5 0)),(8,(ptr b7 0)),(9,u11),(10,vI s25.2)] ∧ M (Old w0) w0 w [osl NoB (r9 : List (Vector UInt8 16)) u11,raw b7 (enc (Vector.replicate 16 (0 : UInt8))),raw b5 (enc j30),raw b1 (cat [[vI p0.Field],enc p0.Box,enc p0.Mix,enc p0.Places,[vI p0.Rounds]])]) ?_ ?_
    ·skip
     refine wp_block ?_
     obtain ⟨j33,hl34,hF35⟩:=bind_some hl31
     refine ZQ (fun a w=>Env 48 a [(3,vI p3),(4,(ptr b1 0)),(6,(ptr b5 0)),(8,(ptr b7 0)),(9,u11),(10,vI s25.2)] ∧ M (Old w0) w0 w [osl NoB (r9 : List (Vector UInt8 16)) u11,raw b7 (enc (Vector.replicate 16 (0 : UInt8))),raw b5 (enc j33),raw b1 (cat [[vI p0.Field],enc p0.Box,enc p0.Mix,enc p0.Places,[vI p0.Rounds]])]) ?_ ?_
     ·skip
      obtain ⟨r37,e38,hl34⟩:=bind_some hl34
      obtain ⟨r39,e40,hl34⟩:=bind_some hl34
      refine Yl [25,26,27,28,29,30,31] Xm rfl rfl (by decide) rfl hE hM (qsP (fun z=>ZP z.E Za ld rfl (Tt) (kr0 rfl)) (qsP (fun z=>YE z.E Za ld rfl KE rfl (At.cat (pre:=[[vI p0.Field],enc p0.Box,enc p0.Mix]) (z.M.rawAt3) ck) (Flat.len _) (kr0 rfl)) (qsP (fun z=>ZP z.E Za ld rfl (Qa) (kr0 rfl)) (qsP (fun z=>YE z.E Za ld rfl YN rfl (At.cat (pre:=[[vI p0.Field]]) (z.M.rawAt3) ck) (Flat.len _) (kr0 rfl)) (qsP (fun z=>YE z.E Za ld rfl Zv rfl (z.M.rawAt2) (Flat.len _) (kr0 rfl)) (qsP (fun z=>YD z.E Za ld rfl (cbm Tryz.func88) (Bt _ p0.Box s25.1 r37 e38) (kc rfl)) (qsP (fun z=>YD z.E Za ld rfl (cbm Tryz.func87) (Av _ p0.Places r37 r39 e40) (kc rfl)) qs0))))))) ?_
      ·intro a w u hE hM
       have hM:=hM.pull2
       refine Zg (seg:=enc r39) (cs':=enc r39) hE hM Za rfl rfl rfl Zv (Flat.len _) (zle flq) (Flat.cell _) (Zf flq) fun w a hM hE=>Zh ?_
       obtain rfl:=Option.some.inj hl34
       refine Zi ?_
       have hM:=hM.pull3.pull1.pull3.pull3
       exact ⟨hE.sub ⟨rfl,rfl,rfl,rfl,rfl,rfl,trivial⟩,hM⟩
     ·skip
      rintro a w ⟨hE,hM⟩
      obtain ⟨j42,hl43,hF44⟩:=bind_some hF35
      refine ZQ (fun a w=>Env 48 a [(3,vI p3),(4,(ptr b1 0)),(6,(ptr b5 0)),(8,(ptr b7 0)),(9,u11),(10,vI s25.2)] ∧ M (Old w0) w0 w [osl NoB (r9 : List (Vector UInt8 16)) u11,raw b7 (enc (Vector.replicate 16 (0 : UInt8))),raw b5 (enc j42),raw b1 (cat [[vI p0.Field],enc p0.Box,enc p0.Mix,enc p0.Places,[vI p0.Rounds]])]) ?_ ?_
      ·skip
       refine Zb (Zd hE rfl fun a hE=>Zd hE rfl fun a hE=>Zl hE rfl rfl rfl fun a hE=>Ze ?_)
       refine Zr hE rfl ?_ ?_
       ·intro hb45
        have hl43:=Zu hl43 hb45
        refine wp_region_lit (ZJ hE rfl (QF) fun a hE=>ZR (v:=(vI p0.Field)) hE rfl ty2 rfl (At.cat (pre:=[]) hM.rawAt3 cl0) fun a hE=>ZJ hE rfl (Qb) fun a hE=>Zk hE rfl XV rfl (At.cat (pre:=[[vI p0.Field],enc p0.Box]) hM.rawAt3 ck) (Flat.len _) fun a hE=>Zk hE rfl Zv rfl hM.rawAt2 (Flat.len _) ?_); intro a hE
        obtain ⟨r46,e47,hl43⟩:=bind_some hl43
        refine Zo hE rfl (cbm Tryz.func89) (AS _ p0.Field p0.Mix j33 r46 e47) ?_
        rintro v w a ⟨rfl,hK⟩ hE
        have hM:=(hM.keep hK).pull2
        refine Zg (seg:=enc r46) (cs':=enc r46) hE hM Za rfl rfl rfl Zv (Flat.len _) (zle flq) (Flat.cell _) (Zf flq) fun w a hM hE=>Zh ?_
        obtain rfl:=Option.some.inj hl43
        refine Zi ?_
        have hM:=hM.pull3.pull1.pull3.pull3
        exact ⟨hE.sub ⟨rfl,rfl,rfl,rfl,rfl,rfl,trivial⟩,hM⟩
       ·intro hb45
        have hl43:=Zt hl43 hb45
        refine wp_skip ?_
        obtain rfl:=Option.some.inj hl43
        refine Zi ?_
        exact ⟨hE.sub ⟨rfl,rfl,rfl,rfl,rfl,rfl,trivial⟩,hM⟩
      ·skip
       rintro a w ⟨hE,hM⟩
       obtain ⟨x51,hi53,hF44⟩:=bix hF44
       obtain ⟨r54,e55,hF44⟩:=bind_some hF44
       refine Yl [41,42,43,44,45,46] Xm rfl rfl (by decide) rfl hE hM (qsP (fun z=>YE z.E Za ld rfl Zv rfl (z.M.rawAt2) (Flat.len _) (kr0 rfl)) (qsP (fun z=>Zj z.E Za ld rfl (kr0 rfl)) (qsP (fun z=>Zj z.E Za ld rfl (kr0 rfl)) (qsP (fun z=>X7 z.E Za ld rfl rfl Tryz.underlying36 Zv (z.M.sl (pre:=[]) noB) hi53.1 (kr0 rfl)) (qsP (fun z=>YE z.E Za ld rfl Zv rfl (Y1 (z.M.sl (pre:=[]) noB) hi53.2) (Flat.len _) (kr0 rfl)) (qsP (fun z=>YD z.E Za ld rfl cb34 (Q2 _ j42 x51 r54 e55) (kc rfl)) qs0)))))) ?_
       ·intro a w u hE hM
        have hM:=hM.pull2
        refine Zg (seg:=enc r54) (cs':=enc r54) hE hM Za rfl rfl rfl Zv (Flat.len _) (zle flq) (Flat.cell _) (Zf flq) fun w a hM hE=>Zh (Z9 ?_)
        obtain rfl:=Option.some.inj hF44
        refine Zi ?_
        have hM:=hM.pull3.pull1.pull3.pull3
        exact ⟨hE.sub ⟨rfl,rfl,rfl,rfl,rfl,rfl,trivial⟩,hM⟩
    ·skip
     rintro a w ⟨hE,hM⟩
     refine wp_region_lit (Zd hE rfl fun a hE=>Zl hE rfl rfl rfl fun a hE=>Zc hE rfl fun a hE=>Zh (Zi ?_))
     exact ⟨_,(ois hF32),hE.sub ⟨rfl,rfl,rfl,rfl,rfl,rfl,trivial⟩,hM⟩
   ·intro hb29
    have hs26:=Zt hs26 hb29
    refine wp_exit (Zq (Zq (Yi ?_)))
    obtain rfl:=hx27 _ (ois hs26)
    refine Zi ?_
    have hM:=M.fst (l:=[_,_]) hM.pull2.pull2
    exact ⟨hE.sub ⟨rfl,rfl,trivial⟩,hM⟩
  ·skip
   rintro a w ⟨hE,hM⟩
   refine Zz (Zb (Zk hE rfl Zv rfl hM.rawAt1 (Flat.len _) fun a hE=>Zg (seg:=enc j22) (cs':=enc j22) hE hM Za rfl rfl rfl Zv (Flat.len _) (zle flq) (Flat.cell _) (Zf flq) fun w a hM hE=>Ze ?_))
   obtain rfl:=Option.some.inj hF24
   have hq58 : ZX Tryz.prog _ _ (.cell 8 33) _:=ZN hE rfl Zv rfl hM.rawAt0 (Flat.len _) rfl
   exact wp_ret (Z2 hE rfl hq58 ⟨_,rfl,rfl,hM.kept⟩)
def VP (p0 : GCipher) (p1 : (Vector UInt8 16)) (p3 : Int) (p4 : Int) (s14 : (Vector UInt8 16) × (List (Vector UInt8 16)) × Int) : Option (Fl ((Vector UInt8 16) × (List (Vector UInt8 16)) × Int) (List (Vector UInt8 16))) :=
 if (decide (s14.2.2 < 256)) = true then ((ZB s14.1 p3).bind fun x22=>(Vc p0 p1 (s14.1.setIfInBounds (p3).toNat (ZH s14.2.2)) p4).bind fun r24=>(app 16 s14.2.1 ([r24] : List (Vector UInt8 16))).bind fun l28=>some (Fl.nx ((s14.1.setIfInBounds (p3).toNat (ZH s14.2.2)),(s14.2.1 ++ ([r24] : List (Vector UInt8 16))),wr (s14.2.2 + 1)))) else (some (Fl.ex s14.2.1))
def Xi (p0 : GCipher) (p1 : (Vector UInt8 16)) (p2 : (Vector UInt8 16)) (p3 : Int) (p4 : Int) : Option ((List (Vector UInt8 16))) :=
 (ZK (VP p0 p1 p3 p4) (p2,([] : List (Vector UInt8 16)),0)).bind fun j9=>some j9
theorem Un (w0 : World) (p0 : GCipher) (p1 : (Vector UInt8 16)) (p2 : (Vector UInt8 16)) (p3 : Int) (p4 : Int) (r : (List (Vector UInt8 16))) (hF : Xi p0 p1 p2 p3 p4 = some r) :
  Calls Tryz.prog 32 [(Value.agg (enc p0).toArray),(Value.agg (enc p1).toArray),(Value.agg (enc p2).toArray),vI p3,vI p4].toArray w0 (fun en w'=>∃ v,en = .returned v ∧ (∃ (y1 : Value),v = y1 ∧ Fr w0 w' [osl NoB (r : List (Vector UInt8 16)) y1] ∧ Kept (Old w0) w0 w')):=by
 refine ce Tryz.func32 ?_
 intro a hE
 have hM:=M.start w0
 unfold Xi at hF
 refine Zb (ZY (cs:=cat [[vI p0.Field],enc p0.Box,enc p0.Mix,enc p0.Places,[vI p0.Rounds]]) hE hM Za ld rfl rfl fun b1 w a hM hE=>ZY (cs:=enc p1) hE hM Za ld rfl rfl fun b3 w a hM hE=>ZY (cs:=enc p2) hE hM Za ld rfl rfl fun b5 w a hM hE=>Zc hE rfl fun a hE=>Ze (Zb (Yc (xs:=[]) (l:=([] : List (Vector UInt8 16))) (vs:=[]) hE hM Za ld rfl rfl Tryz.underlying36 Zv rfl (by decide) rfl fun u7 w a hM hE=>Zc hE rfl fun a hE=>Ze (wp_seq (Zb (Zc hE rfl fun a hE=>Ze ?_))))))
 obtain ⟨j9,hl10,hF11⟩:=bind_some hF
 refine ZS (fun a w=>∃ (u12 : Value),Env 31 a [(11,u12)] ∧ M (Old w0) w0 w [osl NoB (j9 : List (Vector UInt8 16)) u12]) ?_ ?_
 ·skip
  refine wp_block ?_
  have hM:=hM.pull3.pull3.pull3
  refine ZO (fun (s14 : (Vector UInt8 16) × (List (Vector UInt8 16)) × Int) a w=>∃ (u15 : Value),Env 31 a [(3,vI p3),(4,vI p4),(5,(ptr b1 0)),(6,(ptr b3 0)),(7,(ptr b5 0)),(11,u15),(12,vI s14.2.2)] ∧ M (Old w0) w0 w [raw b5 (enc s14.1),raw b3 (enc p1),raw b1 (cat [[vI p0.Field],enc p0.Box,enc p0.Mix,enc p0.Places,[vI p0.Rounds]]),osl NoB (s14.2.1 : List (Vector UInt8 16)) u15]) hl10 ⟨u7,hE.sub ⟨rfl,rfl,rfl,rfl,rfl,rfl,rfl,trivial⟩,hM⟩ ?_
  rintro s14 a w ⟨u15,hE,hM⟩ o19 hs17 hx18
  unfold VP at hs17
  refine wp_seq (Zb (Zd hE rfl fun a hE=>Zl hE rfl rfl rfl fun a hE=>Ze ?_))
  refine Zr hE rfl ?_ ?_
  ·intro hb20
   have hs17:=Zu hs17 hb20
   refine wp_skip (Zz (wp_seq (wp_block (Zb (Zd hE rfl fun a hE=>Zd hE rfl fun a hE=>YX hE Za ld rfl Tryz.underlying3 Tryz.underlying5 ?_))))); intro a hE
   obtain ⟨x22,hi21,hs17⟩:=bvx hs17
   refine Zw hE rfl rfl Tryz.underlying33 ty5 hi21.1 fun a hE=>Zg (seg:=[(vB (ZH s14.2.2))]) (cs':=enc (s14.1.setIfInBounds (p3).toNat (ZH s14.2.2))) hE hM Za rfl rfl rfl ty5 rfl (ZE (v:=s14.1) (x:=ZH s14.2.2) hi21.1) (Flat.cell (ZH s14.2.2 : UInt8)) (Zy (v:=s14.1) (x:=ZH s14.2.2) hi21.1) fun w a hM hE=>Ze (wp_region_lit (Zd hE rfl fun a hE=>Zk hE rfl ZT rfl hM.rawAt2 cq fun a hE=>Zk hE rfl Zv rfl hM.rawAt1 (Flat.len _) fun a hE=>Zk hE rfl Zv rfl hM.rawAt0 (Flat.len _) fun a hE=>Zd hE rfl ?_)); intro a hE
   obtain ⟨r24,e25,hs17⟩:=bind_some hs17
   refine Zo hE rfl (cbm Tryz.func59) (JN _ p0 p1 (s14.1.setIfInBounds (p3).toNat (ZH s14.2.2)) p4 r24 e25) ?_
   rintro v w a ⟨rfl,hK⟩ hE
   have hM:=hM.keep hK
   refine Yc (xs:=[.tmp 27]) (l:=([r24] : List (Vector UInt8 16))) (vs:=[(Value.agg (enc r24).toArray)]) hE hM Za ld rfl rfl Tryz.underlying36 Zv rfl (by decide) rfl ?_; intro u26 w a hM hE
   obtain ⟨l28,e29,hs17⟩:=bind_some hs17
   obtain ⟨e32,rfl⟩:=U3 e29
   have hM:=hM.pull4
   refine Uo hE hM Za ld rfl rfl (hM.sl (pre:=[_]) noB) Tryz.underlying36 Zv rfl (by decide) e32 fun u30 w a hM hE=>Zc hE rfl fun a hE=>Zh (Z9 (Zz (wp_region_lit (Zd hE rfl fun a hE=>Zl hE rfl rfl rfl fun a hE=>Zc hE rfl fun a hE=>Zh (Zi ?_)))))
   have hM:=M.fst (l:=[_,_,_,_]) hM.pull4.pull4.pull4
   exact ⟨_,(ois hs17),u30,hE.sub ⟨rfl,rfl,rfl,rfl,rfl,rfl,rfl,trivial⟩,hM⟩
  ·intro hb20
   have hs17:=Zt hs17 hb20
   refine wp_exit (Zq (Zq (Yi ?_)))
   obtain rfl:=hx18 _ (ois hs17)
   refine Zi ?_
   have hM:=M.fst (l:=[_]) hM.pull3
   exact ⟨u15,hE.sub ⟨rfl,trivial⟩,hM⟩
 ·skip
  rintro a w ⟨u12,hE,hM⟩
  refine Zz (Zb (Zd hE rfl fun a hE=>Zc hE rfl fun a hE=>Ze ?_))
  obtain rfl:=Option.some.inj hF11
  exact wp_ret (Z2 hE rfl (ZF hE rfl) ⟨_,rfl,u12,rfl,hM.outF (WU WD),hM.kept⟩)
def TA (p0 : GCipher) (p1 : (Vector UInt8 16)) (p2 : (Vector UInt8 16)) (p3 : Int) (p4 : Int) : Option ((List (Vector UInt8 16)) × Int) :=
 (XK p0 p3 p4).bind fun r7=>if (r7 != 0) = true then (some ([],r7)) else ((Xi p0 p1 p2 p3 p4).bind fun r11=>some (r11,0))
theorem zE (w0 : World) (p0 : GCipher) (p1 : (Vector UInt8 16)) (p2 : (Vector UInt8 16)) (p3 : Int) (p4 : Int) (r : (List (Vector UInt8 16)) × Int) (hF : TA p0 p1 p2 p3 p4 = some r) :
  Calls Tryz.prog 7 [(Value.agg (enc p0).toArray),(Value.agg (enc p1).toArray),(Value.agg (enc p2).toArray),vI p3,vI p4].toArray w0 (fun en w'=>∃ v,en = .returned v ∧ (∃ (y1 : Value),v = (Value.tuple [y1,vI r.2].toArray) ∧ Fr w0 w' [osl NoB (r.1 : List (Vector UInt8 16)) y1] ∧ Kept (Old w0) w0 w')):=by
 refine ce Tryz.func7 ?_
 intro a hE
 have hM:=M.start w0
 unfold TA at hF
 refine Zb (ZY (cs:=cat [[vI p0.Field],enc p0.Box,enc p0.Mix,enc p0.Places,[vI p0.Rounds]]) hE hM Za ld rfl rfl fun b1 w a hM hE=>ZY (cs:=enc p1) hE hM Za ld rfl rfl fun b3 w a hM hE=>ZY (cs:=enc p2) hE hM Za ld rfl rfl fun b5 w a hM hE=>Zc hE rfl fun a hE=>Zc hE rfl fun a hE=>Ze (wp_seq (Zb (Zk hE rfl ZT rfl hM.rawAt2 cq fun a hE=>Zd hE rfl fun a hE=>Zd hE rfl ?_)))); intro a hE
 obtain ⟨r7,e8,hF⟩:=bind_some hF
 refine Zo hE rfl cb31 (Ux _ p0 p3 p4 r7 e8) ?_
 rintro v w a ⟨rfl,hK⟩ hE
 have hM:=hM.keep hK
 refine Zc hE rfl fun a hE=>Ze (Zb (Zd hE rfl fun a hE=>Zl hE rfl rfl rfl fun a hE=>Ze ?_))
 refine Zr hE rfl ?_ ?_
 ·intro hb9
  have hF:=Zu hF hb9
  refine Zb (Zd hE rfl fun a hE=>Zc hE rfl fun a hE=>Zc hE rfl fun a hE=>Ze ?_)
  have hM:=M.nilS (α:=(Vector UInt8 16)) NoB noB hM
  obtain rfl:=Option.some.inj hF
  have hM:=M.fst (l:=[_]) hM
  exact wp_ret (ZI (Xk hE rfl (ZF hE rfl) (ZF hE rfl) ⟨_,rfl,(Value.slice none 0 0),rfl,hM.outF (WU WD),hM.kept⟩))
 ·intro hb9
  have hF:=Zt hF hb9
  refine wp_skip (Zz (Zb (Zk hE rfl ZT rfl hM.rawAt2 cq fun a hE=>Zk hE rfl Zv rfl hM.rawAt1 (Flat.len _) fun a hE=>Zk hE rfl Zv rfl hM.rawAt0 (Flat.len _) fun a hE=>Zd hE rfl fun a hE=>Zd hE rfl ?_))); intro a hE
  obtain ⟨r11,e12,hF⟩:=bind_some hF
  refine Zo hE rfl cb32 (Un _ p0 p1 p2 p3 p4 r11 e12) ?_
  rintro u13 w a ⟨_,rfl,hFr,hK⟩ hE
  have hM:=hM.add hK hFr
  refine Zc hE rfl fun a hE=>Zc hE rfl fun a hE=>Ze ?_
  obtain rfl:=Option.some.inj hF
  have hM:=M.fst (l:=[_]) hM
  exact wp_ret (Xk hE rfl (ZF hE rfl) (ZF hE rfl) ⟨_,rfl,u13,rfl,hM.outF (WU WD),hM.kept⟩)
def Ue (p0 : (List (Vector UInt8 16))) (p1 : (List (Vector UInt8 16))) (s6 : Int) : Option (Fl Int (Fl Unit Bool)) :=
 if (decide (s6 < (p0.length : Int))) = true then (((idx p0 s6).bind fun x15=>(idx p1 s6).bind fun x18=>some (!decide (x15 = x18)) : Option (Bool)).bind fun j11=>if j11 = true then (some (Fl.ex (Fl.ex false))) else (some (Fl.nx (wr (s6 + 1))))) else (some (Fl.ex (Fl.nx ())))
def UE (p0 : (List (Vector UInt8 16))) (p1 : (List (Vector UInt8 16))) : Option (Bool) :=
 if ((p0.length : Int) != (p1.length : Int)) = true then (some false) else ((ZK (Ue p0 p1) 0).bind fun j2=>j2.el (fun s5=>some true) (fun r=>some r))
theorem BU (w0 : World) (p0 : (List (Vector UInt8 16))) (v0_1 : Value) (hv0_1 : Ro w0 p0 [v0_1]) (p1 : (List (Vector UInt8 16))) (v1_1 : Value) (hv1_1 : Ro w0 p1 [v1_1]) (r : Bool) (hF : UE p0 p1 = some r) :
  Calls Tryz.prog 8 [v0_1,v1_1].toArray w0 (Rt w0 (vT r)):=by
 refine ce Tryz.func8 ?_
 intro a hE
 have hM:=M.start w0
 unfold UE at hF
 refine Zb (Zc hE rfl fun a hE=>Ze (wp_seq (Zb (Zd hE rfl fun a hE=>Wm hE rfl Tryz.underlying36 (hM.rd hv0_1) fun a hE=>Zd hE rfl fun a hE=>Wm hE rfl Tryz.underlying36 (hM.rd hv1_1) fun a hE=>Zl hE rfl rfl rfl fun a hE=>Ze ?_))))
 refine Zr hE rfl ?_ ?_
 ·intro hb1
  have hF:=Zu hF hb1
  refine Zb (Zc hE rfl fun a hE=>Ze ?_)
  obtain rfl:=Option.some.inj hF
  exact wp_ret (ZI (kr1 hE rfl rfl hM.kept))
 ·intro hb1
  have hF:=Zt hF hb1
  refine wp_skip (Zz (wp_seq (Zb (Zc hE rfl fun a hE=>Ze ?_))))
  obtain ⟨j2,hl3,hF4⟩:=bind_some hF
  refine ZS (fun a w=>∃ s5 : Unit,j2 = Fl.nx s5 ∧ Env 26 a [] ∧ M (Old w0) w0 w []) ?_ ?_
  ·skip
   refine wp_block ?_
   refine ZO (fun (s6 : Int) a w=>Env 26 a [(0,v0_1),(1,v1_1),(5,vI s6)] ∧ M (Old w0) w0 w []) hl3 ⟨hE.sub ⟨rfl,rfl,rfl,trivial⟩,hM⟩ ?_
   rintro s6 a w ⟨hE,hM⟩ o9 hs7 hx8
   unfold Ue at hs7
   refine wp_seq (Zb (Zd hE rfl fun a hE=>Zd hE rfl fun a hE=>Wm hE rfl Tryz.underlying36 (hM.rd hv0_1) fun a hE=>Zl hE rfl rfl rfl fun a hE=>Ze ?_))
   refine Zr hE rfl ?_ ?_
   ·intro hb10
    have hs7:=Zu hs7 hb10
    refine wp_skip (Zz (wp_seq (wp_block ?_)))
    obtain ⟨j11,hl12,hF13⟩:=bind_some hs7
    refine ZQ (fun a w=>Env 26 a [(0,v0_1),(1,v1_1),(5,vI s6),(25,vT j11)] ∧ M (Old w0) w0 w []) ?_ ?_
    ·skip
     obtain ⟨x15,hi17,hl12⟩:=bix hl12
     obtain ⟨x18,hi20,hl12⟩:=bix hl12
     refine Yl [17,18,19,20,21,22,23,24,25] Xm rfl rfl (by decide) rfl hE hM (qsP (fun z=>Zj z.E Za ld rfl (kr0 rfl)) (qsP (fun z=>Zj z.E Za ld rfl (kr0 rfl)) (qsP (fun z=>X7 z.E Za ld rfl rfl Tryz.underlying36 Zv (z.M.rd hv0_1) hi17.1 (kr0 rfl)) (qsP (fun z=>YE z.E Za ld rfl Zv rfl (Y1 (z.M.rd hv0_1) hi17.2) (Flat.len _) (kr0 rfl)) (qsP (fun z=>Zj z.E Za ld rfl (kr0 rfl)) (qsP (fun z=>Zj z.E Za ld rfl (kr0 rfl)) (qsP (fun z=>X7 z.E Za ld rfl rfl Tryz.underlying36 Zv (z.M.rd hv1_1) hi20.1 (kr0 rfl)) (qsP (fun z=>YE z.E Za ld rfl Zv rfl (Y1 (z.M.rd hv1_1) hi20.2) (Flat.len _) (kr0 rfl)) (qsP (fun z=>ju z.E Za ld rfl rfl (Hf Tryz.underlying33 ty5 rfl false rfl (by decide) (Jf Tryz.underlying5)) (by decide) (by kernel_rfl) (kr0 rfl)) qs0))))))))) ?_
     ·intro a w u hE hM
      refine Zh ?_
      obtain rfl:=Option.some.inj hl12
      refine Zi ?_
      exact ⟨hE.sub ⟨rfl,rfl,rfl,rfl,trivial⟩,hM⟩
    ·skip
     rintro a w ⟨hE,hM⟩
     refine Zr hE rfl ?_ ?_
     ·intro hb22
      have hF13:=Zu hF13 hb22
      refine Zb (Zc hE rfl fun a hE=>Ze ?_)
      obtain rfl:=hx8 _ (ois hF13)
      obtain rfl:=Option.some.inj hF4
      exact wp_ret (Y8 (ZI (ZI (Y8 (ZI (ZI (kr1 hE rfl rfl hM.kept)))))))
     ·intro hb22
      have hF13:=Zt hF13 hb22
      refine wp_skip (Z9 (Zz (wp_region_lit (Zd hE rfl fun a hE=>Zl hE rfl rfl rfl fun a hE=>Zc hE rfl fun a hE=>Zh (Zi ?_)))))
      exact ⟨_,(ois hF13),hE.sub ⟨rfl,rfl,rfl,trivial⟩,hM⟩
   ·intro hb10
    have hs7:=Zt hs7 hb10
    refine wp_exit (Zq (Zq (Yi ?_)))
    obtain rfl:=hx8 _ (ois hs7)
    refine Zi ?_
    exact ⟨(),rfl,hE.sub trivial,hM⟩
  ·skip
   rintro a w ⟨s5,ht,hE,hM⟩
   subst ht
   have hF4:=Qi hF4
   refine Zz (Zb (Zc hE rfl fun a hE=>Ze ?_))
   obtain rfl:=Option.some.inj hF4
   exact wp_ret (kr1 hE rfl rfl hM.kept)
def WO (p0 : (List UInt8)) : Option (GCipher × (Vector UInt8 16) × (Vector UInt8 16) × Int × Int) :=
 (XN p0).bind fun r7=>(some (r7.1.Field,r7.1.Box,r7.1.Mix,r7.1.Places,r7.1.Rounds,r7.2.1,r7.2.2.1,r7.2.2.2.1,r7.2.2.2.2) : Option (Int × (Vector UInt8 256) × (Vector (Vector UInt8 4) 4) × (Vector UInt8 16) × Int × (Vector UInt8 16) × (Vector UInt8 16) × Int × Int)).bind fun j15=>some ((⟨j15.1,j15.2.1,j15.2.2.1,j15.2.2.2.1,j15.2.2.2.2.1⟩ : GCipher),j15.2.2.2.2.2.1,j15.2.2.2.2.2.2.1,j15.2.2.2.2.2.2.2.1,j15.2.2.2.2.2.2.2.2)
theorem Jm (w0 : World) (p0 : (List UInt8)) (v0_1 : Value) (hv0_1 : Ro w0 p0 [v0_1]) (r : GCipher × (Vector UInt8 16) × (Vector UInt8 16) × Int × Int) (hF : WO p0 = some r) :
  Calls Tryz.prog 9 [v0_1].toArray w0 (Rt w0 (Value.tuple [(Value.agg (enc r.1).toArray),(Value.agg (enc r.2.1).toArray),(Value.agg (enc r.2.2.1).toArray),vI r.2.2.2.1,vI r.2.2.2.2].toArray)):=by
 refine ce Tryz.func9 ?_
 intro a hE
 have hM:=M.start w0
 unfold WO at hF
 refine Zb (Zs hE hM ZT fun b1 w a hM hE=>Zs hE hM Zv fun b3 w a hM hE=>Zs hE hM Zv fun b5 w a hM hE=>Zc hE rfl fun a hE=>Zc hE rfl fun a hE=>Ze (Zb (Zd hE rfl ?_))); intro a hE
 obtain ⟨r7,e8,hF⟩:=bind_some hF
 refine Zo hE rfl cb28 (UI _ p0 v0_1 (hM.rdo hv0_1) r7 e8) ?_
 rintro v w a ⟨rfl,hK⟩ hE
 have hM:=hM.keep hK
 refine Zd hE rfl fun a hE=>Zx hE Za ld rfl rfl fun a hE=>Zx hE Za ld rfl rfl fun a hE=>Zx hE Za ld rfl rfl fun a hE=>Zx hE Za ld rfl rfl fun a hE=>Zx hE Za ld rfl rfl fun a hE=>Zs hE hM ZT fun b9 w a hM hE=>Zs hE hM Zv fun b11 w a hM hE=>Zs hE hM Zv ?_; intro b13 w a hM hE
 have hM:=hM.pull2
 refine Zg (seg:=cat [[vI r7.1.Field],enc r7.1.Box,enc r7.1.Mix,enc r7.1.Places,[vI r7.1.Rounds]]) (cs':=cat [[vI r7.1.Field],enc r7.1.Box,enc r7.1.Mix,enc r7.1.Places,[vI r7.1.Rounds]]) hE hM Za rfl rfl rfl ZT cq (Nat.le_of_eq ((Nat.zero_add _).trans (Eq.trans cq (Eq.symm cq)))) (Yf (cc1 (Flat.cell (r7.1.Field : Int)) (cc1 (Flat.cell _) (cc1 (Flat.cell _) (cc1 (Flat.cell _) (cc1 (Flat.cell (r7.1.Rounds : Int)) cc0)))))) (Zf (Eq.trans cq (Eq.symm cq))) ?_; intro w a hM hE
 have hM:=hM.pull2
 refine Zg (seg:=enc r7.2.1) (cs':=enc r7.2.1) hE hM Za rfl rfl rfl Zv (Flat.len _) (zle flq) (Flat.cell _) (Zf flq) ?_; intro w a hM hE
 have hM:=hM.pull2
 refine Zg (seg:=enc r7.2.2.1) (cs':=enc r7.2.2.1) hE hM Za rfl rfl rfl Zv (Flat.len _) (zle flq) (Flat.cell _) (Zf flq) fun w a hM hE=>Zc hE rfl fun a hE=>Zc hE rfl fun a hE=>Ze ?_
 obtain ⟨j15,hl16,hF17⟩:=bind_some hF
 refine ZQ (fun a w=>Env 25 a [(2,(ptr b1 0)),(3,(ptr b3 0)),(4,(ptr b5 0)),(5,vI j15.2.2.2.2.2.2.2.1),(6,vI j15.2.2.2.2.2.2.2.2)] ∧ M (Old w0) w0 w [raw b5 (enc j15.2.2.2.2.2.2.1),raw b3 (enc j15.2.2.2.2.2.1),raw b1 (cat [[vI j15.1],enc j15.2.1,enc j15.2.2.1,enc j15.2.2.2.1,[vI j15.2.2.2.2.1]])]) ?_ ?_
 ·skip
  have hM:=hM.pull5.pull5.pull5
  refine Wk (its:=[raw b13 (enc r7.2.2.1),raw b11 (enc r7.2.1),raw b9 (cat [[vI r7.1.Field],enc r7.1.Box,enc r7.1.Mix,enc r7.1.Places,[vI r7.1.Rounds]])]) (mk:=([mkT 5 (raw b1 (cat [[vI 0],enc (Vector.replicate 256 (0 : UInt8)),enc (Vector.replicate 4 (Vector.replicate 4 (0 : UInt8))),enc (Vector.replicate 16 (0 : UInt8)),[vI 0]])) (raw b1 (cat [[vI r7.1.Field],enc r7.1.Box,enc r7.1.Mix,enc r7.1.Places,[vI r7.1.Rounds]])),mkT 6 (raw b3 (enc (Vector.replicate 16 (0 : UInt8)))) (raw b3 (enc r7.2.1)),mkT 7 (raw b5 (enc (Vector.replicate 16 (0 : UInt8)))) (raw b5 (enc r7.2.2.1))] : Mk)) [20,21,22,23,24,30,31,32,5] Xm rfl rfl (by decide) rfl hE (fun u=>M.qT (M.qT (M.qT (M.q0 hM.drew u)))) (qsP (v:=(Value.agg (enc r7.1).toArray)) ?_ (qsP (v:=(Value.agg (enc r7.2.1).toArray)) ?_ (qsP (v:=(Value.agg (enc r7.2.2.1).toArray)) ?_ (qsP (fun z=>Zj z.E Za ld rfl (kr0 rfl)) (qsP (fun z=>Zj z.E Za ld rfl (kr0 rfl)) (qsM (pr:=fun v=>True) ?_ (qsM (pr:=fun v=>True) ?_ (qsM (pr:=fun v=>True) ?_ (qsP (fun z=>U6 z.E Za ld rfl (kr0 rfl)) qs0))))))))) ?_
  ·intro a w ux18 D z
   have hE:=z.E
   have hD : D 0 = false:=z.F
   have hM:=((z.M.togA (pre:=[_,_,_]) (VH (j:=5) (k:=0) z.c rfl rfl rfl hD)).togA (pre:=[_,_,_,_]) (VH (j:=6) (k:=2) z.c rfl rfl rfl hD)).togA (pre:=[_,_,_,_,_]) (VH (j:=7) (k:=2) z.c rfl rfl rfl hD)
   exact Zk hE rfl ZT rfl hM.rawAt2 cq fun a hE=>⟨Kept.refl _ _,_,rfl,hE⟩
  ·intro a w ux18 D z
   have hE:=z.E
   have hD : D 1 = false:=z.F
   have hM:=(z.M.togA (pre:=[_,_,_,_]) (VH (j:=6) (k:=0) z.c rfl rfl rfl hD)).togA (pre:=[_,_,_,_,_]) (VH (j:=7) (k:=3) z.c rfl rfl rfl hD)
   exact Zk hE rfl Zv rfl hM.rawAt1 (Flat.len _) fun a hE=>⟨Kept.refl _ _,_,rfl,hE⟩
  ·intro a w ux18 D z
   have hE:=z.E
   have hD : D 2 = false:=z.F
   have hM:=z.M.togA (pre:=[_,_,_,_,_]) (VH (j:=7) (k:=0) z.c rfl rfl rfl hD)
   exact Zk hE rfl Zv rfl hM.rawAt0 (Flat.len _) fun a hE=>⟨Kept.refl _ _,_,rfl,hE⟩
  ·intro a w ux18 D z
   have hE:=z.E
   have hD : D 5 = false:=z.F
   have hM:=(z.M.togA (pre:=[_,_,_]) hD).pull3
   exact Zg (seg:=cat [[vI r7.1.Field],enc r7.1.Box,enc r7.1.Mix,enc r7.1.Places,[vI r7.1.Rounds]]) (cs':=cat [[vI r7.1.Field],enc r7.1.Box,enc r7.1.Mix,enc r7.1.Places,[vI r7.1.Rounds]]) hE hM Za rfl rfl rfl ZT cq (Nat.le_of_eq ((Nat.zero_add _).trans (Eq.trans cq (Eq.symm cq)))) (Yf (cc1 (Flat.cell (r7.1.Field : Int)) (cc1 (Flat.cell _) (cc1 (Flat.cell _) (cc1 (Flat.cell _) (cc1 (Flat.cell (r7.1.Rounds : Int)) cc0)))))) (Zf (Eq.trans cq (Eq.symm cq))) fun w a hM hE=>⟨undef,_,rfl,Env.dummy hE (by decide),M.qTog (mk1:=[]) (mk2:=[_,_]) hM rfl,trivial⟩
  ·intro a w ux18 D z
   have hE:=z.E
   have hD : D 6 = false:=z.F
   have hM:=(z.M.togA (pre:=[_,_,_,_]) hD).pull4
   exact Zg (seg:=enc r7.2.1) (cs':=enc r7.2.1) hE hM Za rfl rfl rfl Zv (Flat.len _) (zle flq) (Flat.cell _) (Zf flq) fun w a hM hE=>⟨undef,_,rfl,Env.dummy hE (by decide),M.qTog (mk1:=[_]) (mk2:=[_]) hM rfl,trivial⟩
  ·intro a w ux18 D z
   have hE:=z.E
   have hD : D 7 = false:=z.F
   have hM:=(z.M.togA (pre:=[_,_,_,_,_]) hD).pull5
   exact Zg (seg:=enc r7.2.2.1) (cs':=enc r7.2.2.1) hE hM Za rfl rfl rfl Zv (Flat.len _) (zle flq) (Flat.cell _) (Zf flq) fun w a hM hE=>⟨undef,_,rfl,Env.dummy hE (by decide),M.qTog (mk1:=[_,_]) (mk2:=[]) hM rfl,trivial⟩
  ·intro a w ux18 D hE hM hG hall
   have d5:=hall 5 (by decide)
   have d6:=hall 6 (by decide)
   have d7:=hall 7 (by decide)
   have hM:=((hM.togB (pre:=[_,_,_]) d5).togB (pre:=[_,_,_,_]) d6).togB (pre:=[_,_,_,_,_]) d7
   refine Zc hE rfl fun a hE=>Zh ?_
   obtain rfl:=Option.some.inj hl16
   refine Zi ?_
   have hM:=M.fst (l:=[_,_,_]) hM.pull3.pull4.pull5
   exact ⟨hE.sub ⟨rfl,rfl,rfl,rfl,rfl,trivial⟩,hM⟩
 ·skip
  rintro a w ⟨hE,hM⟩
  obtain rfl:=Option.some.inj hF17
  have hq20 : ZX Tryz.prog _ _ (.cell 2 32) _:=ZN hE rfl ZT rfl hM.rawAt2 cq rfl
  have hq21 : ZX Tryz.prog _ _ (.cell 3 33) _:=ZN hE rfl Zv rfl hM.rawAt1 (Flat.len _) rfl
  have hq22 : ZX Tryz.prog _ _ (.cell 4 33) _:=ZN hE rfl Zv rfl hM.rawAt0 (Flat.len _) rfl
  exact wp_ret (zS hE rfl hq20 hq21 hq22 (ZF hE rfl) (ZF hE rfl) ⟨_,rfl,rfl,hM.kept⟩)
def VQ (r15 : (List (Vector UInt8 16))) (s21 : (Vector UInt8 16) × Int) : Option (Fl ((Vector UInt8 16) × Int) (Vector UInt8 16)) :=
 if (decide (s21.2 < (r15.length : Int))) = true then ((idx r15 s21.2).bind fun x26=>(Xr s21.1 x26).bind fun r31=>some (Fl.nx (r31,wr (s21.2 + 1)))) else (some (Fl.ex s21.1))
def WG (p0 : GCipher) (p1 : (Vector UInt8 16)) (p2 : (Vector UInt8 16)) (p3 : Int) (p4 : Int) : Option ((Vector UInt8 16) × Int) :=
 (XX p0 p3 p4).bind fun r9=>if (r9 != 0) = true then (some ((Vector.replicate 16 (0 : UInt8)),r9)) else ((VD p0 p1 p2 p3 p4).bind fun r15=>(ZK (VQ r15) ((Vector.replicate 16 (0 : UInt8)),0)).bind fun j18=>some (j18,0))
theorem Qg (w0 : World) (p0 : GCipher) (p1 : (Vector UInt8 16)) (p2 : (Vector UInt8 16)) (p3 : Int) (p4 : Int) (r : (Vector UInt8 16) × Int) (hF : WG p0 p1 p2 p3 p4 = some r) :
  Calls Tryz.prog 10 [(Value.agg (enc p0).toArray),(Value.agg (enc p1).toArray),(Value.agg (enc p2).toArray),vI p3,vI p4].toArray w0 (Rt w0 (Value.tuple [(Value.agg (enc r.1).toArray),vI r.2].toArray)):=by
 refine ce Tryz.func10 ?_
 intro a hE
 have hM:=M.start w0
 unfold WG at hF
 refine Zb (ZY (cs:=cat [[vI p0.Field],enc p0.Box,enc p0.Mix,enc p0.Places,[vI p0.Rounds]]) hE hM Za ld rfl rfl fun b1 w a hM hE=>ZY (cs:=enc p1) hE hM Za ld rfl rfl fun b3 w a hM hE=>ZY (cs:=enc p2) hE hM Za ld rfl rfl fun b5 w a hM hE=>Zs hE hM Zv fun b7 w a hM hE=>Zc hE rfl fun a hE=>Ze (wp_seq (Zb (Zk hE rfl ZT rfl hM.rawAt3 cq fun a hE=>Zd hE rfl fun a hE=>Zd hE rfl ?_)))); intro a hE
 obtain ⟨r9,e10,hF⟩:=bind_some hF
 refine Zo hE rfl cb29 (Tb _ p0 p3 p4 r9 e10) ?_
 rintro v w a ⟨rfl,hK⟩ hE
 have hM:=hM.keep hK
 refine Zc hE rfl fun a hE=>Ze (Zb (Zd hE rfl fun a hE=>Zl hE rfl rfl rfl fun a hE=>Ze ?_))
 refine Zr hE rfl ?_ ?_
 ·intro hb11
  have hF:=Zu hF hb11
  refine Zb (Z8 (parts:=[]) (vs:=[]) (cs:=enc (Vector.replicate 16 (0 : UInt8))) hE Za ld rfl rfl Zv rfl ty5 ZZ fun a hE=>Zd hE rfl fun a hE=>Zg (seg:=enc (Vector.replicate 16 (0 : UInt8))) (cs':=enc (Vector.replicate 16 (0 : UInt8))) hE hM Za rfl rfl rfl Zv (Flat.len _) (zle flq) (Flat.cell _) (Zf flq) fun w a hM hE=>Zc hE rfl fun a hE=>Ze ?_)
  obtain rfl:=Option.some.inj hF
  have hq12 : ZX Tryz.prog _ _ (.cell 10 33) _:=ZN hE rfl Zv rfl hM.rawAt0 (Flat.len _) rfl
  exact wp_ret (ZI (Xk hE rfl hq12 (ZF hE rfl) ⟨_,rfl,rfl,hM.kept⟩))
 ·intro hb11
  have hF:=Zt hF hb11
  refine wp_skip (Zz (Zb (Z8 (parts:=[]) (vs:=[]) (cs:=enc (Vector.replicate 16 (0 : UInt8))) hE Za ld rfl rfl Zv rfl ty5 ZZ fun a hE=>Zs hE hM Zv fun b13 w a hM hE=>Zg (seg:=enc (Vector.replicate 16 (0 : UInt8))) (cs':=enc (Vector.replicate 16 (0 : UInt8))) hE hM Za rfl rfl rfl Zv (Flat.len _) (zle flq) (Flat.cell _) (Zf flq) fun w a hM hE=>Ze (wp_seq (Zb (Zk hE rfl ZT rfl hM.rawAt4 cq fun a hE=>Zk hE rfl Zv rfl hM.rawAt3 (Flat.len _) fun a hE=>Zk hE rfl Zv rfl hM.rawAt2 (Flat.len _) fun a hE=>Zd hE rfl fun a hE=>Zd hE rfl ?_)))))); intro a hE
  obtain ⟨r15,e16,hF⟩:=bind_some hF
  refine Zo hE rfl cb30 (Kz _ p0 p1 p2 p3 p4 r15 e16) ?_
  rintro u17 w a ⟨_,rfl,hFr,hK⟩ hE
  have hM:=hM.add hK hFr
  refine Wm hE rfl Tryz.underlying36 (hM.sl (pre:=[]) noB) fun a hE=>Zd hE rfl fun a hE=>Ze ?_
  obtain ⟨j18,hl19,hF20⟩:=bind_some hF
  refine ZS (fun a w=>Env 41 a [(10,(ptr b7 0)),(13,(ptr b13 0))] ∧ M (Old w0) w0 w [raw b13 (enc j18),raw b7 (enc (Vector.replicate 16 (0 : UInt8)))]) ?_ ?_
  ·skip
   refine wp_block ?_
   have hM:=M.fst (l:=[_,_,_]) hM.pull2.pull2.pull2
   refine ZO (fun (s21 : (Vector UInt8 16) × Int) a w=>Env 41 a [(10,(ptr b7 0)),(13,(ptr b13 0)),(30,u17),(31,(vI (r15.length : Int))),(32,vI s21.2)] ∧ M (Old w0) w0 w [osl NoB (r15 : List (Vector UInt8 16)) u17,raw b13 (enc s21.1),raw b7 (enc (Vector.replicate 16 (0 : UInt8)))]) hl19 ⟨hE.sub ⟨rfl,rfl,rfl,rfl,rfl,trivial⟩,hM⟩ ?_
   rintro s21 a w ⟨hE,hM⟩ o24 hs22 hx23
   unfold VQ at hs22
   refine Zb (Zl hE rfl rfl rfl fun a hE=>Ze (wp_seq ?_))
   refine Zr hE rfl ?_ ?_
   ·intro hb25
    have hs22:=Zu hs22 hb25
    refine wp_skip (Zz (wp_seq (wp_block (Zb ?_))))
    obtain ⟨x26,hi28,hs22⟩:=bix hs22
    refine XM hE rfl rfl Tryz.underlying36 Zv (hM.sl (pre:=[]) noB) hi28.1 fun a hE=>Zk hE rfl Zv rfl (Y1 (hM.sl (pre:=[]) noB) hi28.2) (Flat.len _) fun a hE=>Zs hE hM Zv fun b29 w a hM hE=>Zg (seg:=enc x26) (cs':=enc x26) hE hM Za rfl rfl rfl Zv (Flat.len _) (zle flq) (Flat.cell _) (Zf flq) fun w a hM hE=>Ze (wp_region_lit (Zk hE rfl Zv rfl hM.rawAt2 (Flat.len _) fun a hE=>Zk hE rfl Zv rfl hM.rawAt0 (Flat.len _) ?_)); intro a hE
    obtain ⟨r31,e32,hs22⟩:=bind_some hs22
    refine Zo hE rfl cb33 (TP _ s21.1 x26 r31 e32) ?_
    rintro v w a ⟨rfl,hK⟩ hE
    have hM:=(hM.keep hK).pull2
    refine Zg (seg:=enc r31) (cs':=enc r31) hE hM Za rfl rfl rfl Zv (Flat.len _) (zle flq) (Flat.cell _) (Zf flq) fun w a hM hE=>Zh (Z9 (Zz (wp_region_lit (Zl hE rfl rfl rfl fun a hE=>Zd hE rfl fun a hE=>Zh (Zi ?_)))))
    have hM:=M.fst (l:=[_,_,_]) hM.pull3.pull1.pull3
    exact ⟨_,(ois hs22),hE.sub ⟨rfl,rfl,rfl,rfl,rfl,trivial⟩,hM⟩
   ·intro hb25
    have hs22:=Zt hs22 hb25
    refine wp_exit (Zq (Zq (Yi ?_)))
    obtain rfl:=hx23 _ (ois hs22)
    refine Zi ?_
    have hM:=M.fst (l:=[_,_]) hM.pull2.pull2
    exact ⟨hE.sub ⟨rfl,rfl,trivial⟩,hM⟩
  ·skip
   rintro a w ⟨hE,hM⟩
   refine Zz (Zb (Zk hE rfl Zv rfl hM.rawAt0 (Flat.len _) ?_)); intro a hE
   have hM:=hM.pull1
   refine Zg (seg:=enc j18) (cs':=enc j18) hE hM Za rfl rfl rfl Zv (Flat.len _) (zle flq) (Flat.cell _) (Zf flq) fun w a hM hE=>Zc hE rfl fun a hE=>Ze ?_
   obtain rfl:=Option.some.inj hF20
   have hq34 : ZX Tryz.prog _ _ (.cell 10 33) _:=ZN hE rfl Zv rfl hM.rawAt0 (Flat.len _) rfl
   exact wp_ret (Xk hE rfl hq34 (ZF hE rfl) ⟨_,rfl,rfl,hM.kept⟩)
def VW (r13 : (List (Vector UInt8 16))) (s21 : (Vector UInt8 16) × Int) : Option (Fl ((Vector UInt8 16) × Int) (Vector UInt8 16)) :=
 if (decide (s21.2 < (r13.length : Int))) = true then ((idx r13 s21.2).bind fun x27=>(WW s21.1 x27).bind fun r30=>some (Fl.nx (r30,wr (s21.2 + 1)))) else (some (Fl.ex s21.1))
def Uj (p0 : GCipher) (p1 : (Vector UInt8 16)) (p2 : (Vector UInt8 16)) (p3 : Int) (p4 : Int) : Option ((Vector UInt8 16) × Int) :=
 (XK p0 p3 p4).bind fun r9=>if (r9 != 0) = true then (some ((Vector.replicate 16 (0 : UInt8)),r9)) else ((Xi p0 p1 p2 p3 p4).bind fun r13=>(ZK (VW r13) ((Vector.replicate 16 (0 : UInt8)),0)).bind fun j18=>some (j18,0))
theorem Bo (w0 : World) (p0 : GCipher) (p1 : (Vector UInt8 16)) (p2 : (Vector UInt8 16)) (p3 : Int) (p4 : Int) (r : (Vector UInt8 16) × Int) (hF : Uj p0 p1 p2 p3 p4 = some r) :
  Calls Tryz.prog 11 [(Value.agg (enc p0).toArray),(Value.agg (enc p1).toArray),(Value.agg (enc p2).toArray),vI p3,vI p4].toArray w0 (Rt w0 (Value.tuple [(Value.agg (enc r.1).toArray),vI r.2].toArray)):=by
 refine ce Tryz.func11 ?_
 intro a hE
 have hM:=M.start w0
 unfold Uj at hF
 refine Zb (ZY (cs:=cat [[vI p0.Field],enc p0.Box,enc p0.Mix,enc p0.Places,[vI p0.Rounds]]) hE hM Za ld rfl rfl fun b1 w a hM hE=>ZY (cs:=enc p1) hE hM Za ld rfl rfl fun b3 w a hM hE=>ZY (cs:=enc p2) hE hM Za ld rfl rfl fun b5 w a hM hE=>Zs hE hM Zv fun b7 w a hM hE=>Zc hE rfl fun a hE=>Ze (wp_seq (Zb (Zk hE rfl ZT rfl hM.rawAt3 cq fun a hE=>Zd hE rfl fun a hE=>Zd hE rfl ?_)))); intro a hE
 obtain ⟨r9,e10,hF⟩:=bind_some hF
 refine Zo hE rfl cb31 (Ux _ p0 p3 p4 r9 e10) ?_
 rintro v w a ⟨rfl,hK⟩ hE
 have hM:=hM.keep hK
 refine Zc hE rfl fun a hE=>Ze (Zb (Zd hE rfl fun a hE=>Zl hE rfl rfl rfl fun a hE=>Ze ?_))
 refine Zr hE rfl ?_ ?_
 ·intro hb11
  have hF:=Zu hF hb11
  refine Zb (Z8 (parts:=[]) (vs:=[]) (cs:=enc (Vector.replicate 16 (0 : UInt8))) hE Za ld rfl rfl Zv rfl ty5 ZZ fun a hE=>Zd hE rfl fun a hE=>Zg (seg:=enc (Vector.replicate 16 (0 : UInt8))) (cs':=enc (Vector.replicate 16 (0 : UInt8))) hE hM Za rfl rfl rfl Zv (Flat.len _) (zle flq) (Flat.cell _) (Zf flq) fun w a hM hE=>Zc hE rfl fun a hE=>Ze ?_)
  obtain rfl:=Option.some.inj hF
  have hq12 : ZX Tryz.prog _ _ (.cell 10 33) _:=ZN hE rfl Zv rfl hM.rawAt0 (Flat.len _) rfl
  exact wp_ret (ZI (Xk hE rfl hq12 (ZF hE rfl) ⟨_,rfl,rfl,hM.kept⟩))
 ·intro hb11
  have hF:=Zt hF hb11
  refine wp_skip (Zz (Zb (Zk hE rfl ZT rfl hM.rawAt3 cq fun a hE=>Zk hE rfl Zv rfl hM.rawAt2 (Flat.len _) fun a hE=>Zk hE rfl Zv rfl hM.rawAt1 (Flat.len _) fun a hE=>Zd hE rfl fun a hE=>Zd hE rfl ?_))); intro a hE
  obtain ⟨r13,e14,hF⟩:=bind_some hF
  refine Zo hE rfl cb32 (Un _ p0 p1 p2 p3 p4 r13 e14) ?_
  rintro u15 w a ⟨_,rfl,hFr,hK⟩ hE
  have hM:=hM.add hK hFr
  refine Z8 (parts:=[]) (vs:=[]) (cs:=enc (Vector.replicate 16 (0 : UInt8))) hE Za ld rfl rfl Zv rfl ty5 ZZ fun a hE=>Zs hE hM Zv fun b16 w a hM hE=>Zc hE rfl fun a hE=>Zg (seg:=enc (Vector.replicate 16 (0 : UInt8))) (cs':=enc (Vector.replicate 16 (0 : UInt8))) hE hM Za rfl rfl rfl Zv (Flat.len _) (zle flq) (Flat.cell _) (Zf flq) fun w a hM hE=>Ze (wp_seq (Zb (Zc hE rfl fun a hE=>Ze ?_)))
  obtain ⟨j18,hl19,hF20⟩:=bind_some hF
  refine ZS (fun a w=>Env 44 a [(10,(ptr b7 0)),(14,(ptr b16 0))] ∧ M (Old w0) w0 w [raw b16 (enc j18),raw b7 (enc (Vector.replicate 16 (0 : UInt8)))]) ?_ ?_
  ·skip
   refine wp_block ?_
   have hM:=M.fst (l:=[_,_,_]) hM.pull2.pull2.pull2
   refine ZO (fun (s21 : (Vector UInt8 16) × Int) a w=>Env 44 a [(10,(ptr b7 0)),(13,u15),(14,(ptr b16 0)),(15,vI s21.2)] ∧ M (Old w0) w0 w [raw b16 (enc s21.1),osl NoB (r13 : List (Vector UInt8 16)) u15,raw b7 (enc (Vector.replicate 16 (0 : UInt8)))]) hl19 ⟨hE.sub ⟨rfl,rfl,rfl,rfl,trivial⟩,hM⟩ ?_
   rintro s21 a w ⟨hE,hM⟩ o24 hs22 hx23
   unfold VW at hs22
   refine wp_seq (Zb (Zd hE rfl fun a hE=>Zd hE rfl fun a hE=>Wm hE rfl Tryz.underlying36 (hM.sl (pre:=[_]) noB) fun a hE=>Zl hE rfl rfl rfl fun a hE=>Ze ?_))
   refine Zr hE rfl ?_ ?_
   ·intro hb25
    have hs22:=Zu hs22 hb25
    refine wp_skip (Zz (wp_seq (wp_block ?_)))
    obtain ⟨x27,hi29,hs22⟩:=bix hs22
    obtain ⟨r30,e31,hs22⟩:=bind_some hs22
    refine Yl [37,38,39,40,41,42] Xm rfl rfl (by decide) rfl hE hM (qsP (fun z=>YE z.E Za ld rfl Zv rfl (z.M.rawAt0) (Flat.len _) (kr0 rfl)) (qsP (fun z=>Zj z.E Za ld rfl (kr0 rfl)) (qsP (fun z=>Zj z.E Za ld rfl (kr0 rfl)) (qsP (fun z=>X7 z.E Za ld rfl rfl Tryz.underlying36 Zv (z.M.sl (pre:=[_]) noB) hi29.1 (kr0 rfl)) (qsP (fun z=>YE z.E Za ld rfl Zv rfl (Y1 (z.M.sl (pre:=[_]) noB) hi29.2) (Flat.len _) (kr0 rfl)) (qsP (fun z=>YD z.E Za ld rfl cb34 (Q2 _ s21.1 x27 r30 e31) (kc rfl)) qs0)))))) ?_
    ·intro a w u hE hM
     refine Zg (seg:=enc r30) (cs':=enc r30) hE hM Za rfl rfl rfl Zv (Flat.len _) (zle flq) (Flat.cell _) (Zf flq) fun w a hM hE=>Zh (Z9 (Zz (wp_region_lit (Zd hE rfl fun a hE=>Zl hE rfl rfl rfl fun a hE=>Zc hE rfl fun a hE=>Zh (Zi ?_)))))
     exact ⟨_,(ois hs22),hE.sub ⟨rfl,rfl,rfl,rfl,trivial⟩,hM⟩
   ·intro hb25
    have hs22:=Zt hs22 hb25
    refine wp_exit (Zq (Zq (Yi ?_)))
    obtain rfl:=hx23 _ (ois hs22)
    refine Zi ?_
    have hM:=M.fst (l:=[_,_]) hM.pull2.pull1
    exact ⟨hE.sub ⟨rfl,rfl,trivial⟩,hM⟩
  ·skip
   rintro a w ⟨hE,hM⟩
   refine Zz (Zb (Zk hE rfl Zv rfl hM.rawAt0 (Flat.len _) ?_)); intro a hE
   have hM:=hM.pull1
   refine Zg (seg:=enc j18) (cs':=enc j18) hE hM Za rfl rfl rfl Zv (Flat.len _) (zle flq) (Flat.cell _) (Zf flq) fun w a hM hE=>Zc hE rfl fun a hE=>Ze ?_
   obtain rfl:=Option.some.inj hF20
   have hq33 : ZX Tryz.prog _ _ (.cell 10 33) _:=ZN hE rfl Zv rfl hM.rawAt0 (Flat.len _) rfl
   exact wp_ret (Xk hE rfl hq33 (ZF hE rfl) ⟨_,rfl,rfl,hM.kept⟩)
def Xb (p0 : (List UInt8)) : Option (GCipher × (List (Vector UInt8 16)) × Int) :=
 (Wu p0).bind fun r3=>(XN p0).bind fun r7=>((XK r7.1 r7.2.2.2.1 r7.2.2.2.2).bind fun r18=>if (r18 != 0) = true then (some (r3.1,r3.2,true)) else ((ZD p0 (r3.1,r3.2) 8).bind fun r22=>some (r22.1.1,r22.1.2,r22.2 == 0)) : Option (Int × Int × Bool)).bind fun j15=>if j15.2.2 = true then (((ZD p0 (j15.1,j15.2.1) 4).bind fun r34=>(slc ([r7.2.1,r7.2.2.1,r7.2.1] : List (Vector UInt8 16)) (0 : Int) r34.2).bind fun l36=>some (r7.1.Field,r7.1.Box,r7.1.Mix,r7.1.Places,r7.1.Rounds,l36,r7.2.2.2.1) : Option (Int × (Vector UInt8 256) × (Vector (Vector UInt8 4) 4) × (Vector UInt8 16) × Int × (List (Vector UInt8 16)) × Int)).bind fun j26=>some ((⟨j26.1,j26.2.1,j26.2.2.1,j26.2.2.2.1,j26.2.2.2.2.1⟩ : GCipher),j26.2.2.2.2.2.1,j26.2.2.2.2.2.2)) else (((Xi r7.1 r7.2.1 r7.2.2.1 r7.2.2.2.1 r7.2.2.2.2).bind fun r47=>(ZD p0 (j15.1,j15.2.1) 17).bind fun r50=>some (r7.1.Field,r7.1.Box,r7.1.Mix,r7.1.Places,r7.1.Rounds,r47,r50.2) : Option (Int × (Vector UInt8 256) × (Vector (Vector UInt8 4) 4) × (Vector UInt8 16) × Int × (List (Vector UInt8 16)) × Int)).bind fun j41=>some ((⟨j41.1,j41.2.1,j41.2.2.1,j41.2.2.2.1,j41.2.2.2.2.1⟩ : GCipher),j41.2.2.2.2.2.1,j41.2.2.2.2.2.2))
theorem QL (w0 : World) (p0 : (List UInt8)) (v0_1 : Value) (hv0_1 : Ro w0 p0 [v0_1]) (r : GCipher × (List (Vector UInt8 16)) × Int) (hF : Xb p0 = some r) :
  Calls Tryz.prog 12 [v0_1].toArray w0 (fun en w'=>∃ v,en = .returned v ∧ (∃ (y1 : Value),v = (Value.tuple [(Value.agg (enc r.1).toArray),y1,vI r.2.2].toArray) ∧ Fr w0 w' [osl NoB (r.2.1 : List (Vector UInt8 16)) y1] ∧ Kept (Old w0) w0 w')):=by
 refine ce Tryz.func12 ?_
 intro a hE
 have hM:=M.start w0
 unfold Xb at hF
 refine Zb (Zs hE hM ZT fun b1 w a hM hE=>Zc hE rfl fun a hE=>Zc hE rfl fun a hE=>Ze (Zb (Zd hE rfl ?_))); intro a hE
 have hM:=M.tailP (m:=[]) hM
 obtain ⟨r3,e4,hF⟩:=bind_some hF
 refine Zo hE rfl cb35 (Ts _ _ _ _ p0 v0_1 hv0_1 hM r3 e4) ?_
 rintro v w a ⟨b5,rfl,hM⟩ hE
 have hM:=M.tailU (m:=[_]) hM
 simp only [List.cons_append,List.nil_append] at hM
 refine Zc hE rfl fun a hE=>Ze (Zb (Zd hE rfl ?_)); intro a hE
 obtain ⟨r7,e8,hF⟩:=bind_some hF
 refine Zo hE rfl cb28 (UI _ p0 v0_1 (hM.rdo hv0_1) r7 e8) ?_
 rintro v w a ⟨rfl,hK⟩ hE
 have hM:=hM.keep hK
 refine Zd hE rfl fun a hE=>Zx hE Za ld rfl rfl fun a hE=>Zx hE Za ld rfl rfl fun a hE=>Zx hE Za ld rfl rfl fun a hE=>Zx hE Za ld rfl rfl fun a hE=>Zx hE Za ld rfl rfl fun a hE=>Zs hE hM ZT fun b9 w a hM hE=>Zs hE hM Zv fun b11 w a hM hE=>Zs hE hM Zv ?_; intro b13 w a hM hE
 have hM:=hM.pull2
 refine Zg (seg:=cat [[vI r7.1.Field],enc r7.1.Box,enc r7.1.Mix,enc r7.1.Places,[vI r7.1.Rounds]]) (cs':=cat [[vI r7.1.Field],enc r7.1.Box,enc r7.1.Mix,enc r7.1.Places,[vI r7.1.Rounds]]) hE hM Za rfl rfl rfl ZT cq (Nat.le_of_eq ((Nat.zero_add _).trans (Eq.trans cq (Eq.symm cq)))) (Yf (cc1 (Flat.cell (r7.1.Field : Int)) (cc1 (Flat.cell _) (cc1 (Flat.cell _) (cc1 (Flat.cell _) (cc1 (Flat.cell (r7.1.Rounds : Int)) cc0)))))) (Zf (Eq.trans cq (Eq.symm cq))) ?_; intro w a hM hE
 have hM:=hM.pull2
 refine Zg (seg:=enc r7.2.1) (cs':=enc r7.2.1) hE hM Za rfl rfl rfl Zv (Flat.len _) (zle flq) (Flat.cell _) (Zf flq) ?_; intro w a hM hE
 have hM:=hM.pull2
 refine Zg (seg:=enc r7.2.2.1) (cs':=enc r7.2.2.1) hE hM Za rfl rfl rfl Zv (Flat.len _) (zle flq) (Flat.cell _) (Zf flq) fun w a hM hE=>Zc hE rfl fun a hE=>Zc hE rfl fun a hE=>Ze (wp_seq ?_)
 obtain ⟨j15,hl16,hF17⟩:=bind_some hF
 refine ZQ (fun a w=>Env 49 a [(2,(ptr b1 0)),(5,(ptr b5 0)),(6,(ptr b9 0)),(7,(ptr b11 0)),(8,(ptr b13 0)),(9,vI r7.2.2.2.1),(10,vI r7.2.2.2.2),(30,vT j15.2.2)] ∧ M (Old w0) w0 w [raw b13 (enc r7.2.2.1),raw b11 (enc r7.2.1),raw b9 (cat [[vI r7.1.Field],enc r7.1.Box,enc r7.1.Mix,enc r7.1.Places,[vI r7.1.Rounds]]),raw b5 (cat [[v0_1],[vI j15.1],[(Value.int .u64 j15.2.1)]]),raw b1 (cat [[vI 0],enc (Vector.replicate 256 (0 : UInt8)),enc (Vector.replicate 4 (Vector.replicate 4 (0 : UInt8))),enc (Vector.replicate 16 (0 : UInt8)),[vI 0]])]) ?_ ?_
 ·skip
  refine wp_region_lit (Zk hE rfl ZT rfl hM.rawAt2 cq fun a hE=>Zd hE rfl fun a hE=>Zd hE rfl ?_); intro a hE
  obtain ⟨r18,e19,hl16⟩:=bind_some hl16
  refine Zo hE rfl cb31 (Ux _ r7.1 r7.2.2.2.1 r7.2.2.2.2 r18 e19) ?_
  rintro v w a ⟨rfl,hK⟩ hE
  have hM:=hM.keep hK
  refine Zl hE rfl rfl rfl fun a hE=>Zd hE rfl ?_; intro a hE
  refine YF (r18 != 0) (fun hb20=>?_) (fun hb20=>?_)
  ·have hl16:=Zu hl16 hb20
   refine Zp hE rfl (lkb rfl hb20) rfl (by decide) fun a hE=>Zp hE rfl (lkb rfl hb20) rfl (by decide) fun a hE=>Zp hE rfl (lkb rfl hb20) rfl (by decide) fun a hE=>ZW hE (lkb rfl hb20) rfl fun a hE=>Zh ?_
   obtain rfl:=Option.some.inj hl16
   refine Zi ?_
   exact ⟨hE.sub ⟨rfl,rfl,rfl,rfl,rfl,rfl,rfl,rfl,trivial⟩,hM⟩
  ·have hl16:=Zt hl16 hb20
   refine Zj hE (Zm hE rfl (lkb rfl hb20)) (by decide) rfl ?_; intro a hE
   have hM:=M.tailP (m:=[_]) hM.pull3
   obtain ⟨r22,e23,hl16⟩:=bind_some hl16
   refine YD hE (Zm hE rfl (lkb rfl hb20)) (by decide) rfl Uu (ZG _ _ _ _ b5 p0 v0_1 hv0_1 (r3.1,r3.2) 8 hM r22 e23) ?_
   rintro v w a ⟨rfl,hM⟩ hE
   have hM:=M.tailU (m:=[_]) hM
   simp only [List.cons_append,List.nil_append] at hM
   refine Yk hE (Zm hE rfl (lkb rfl hb20)) (by decide) rfl rfl rfl fun a hE=>Z7 hE (lkb rfl hb20) rfl fun a hE=>Zh ?_
   obtain rfl:=Option.some.inj hl16
   refine Zi ?_
   have hM:=hM.pull4.pull1.pull4.pull4.pull4
   exact ⟨hE.sub ⟨rfl,rfl,rfl,rfl,rfl,rfl,rfl,rfl,trivial⟩,hM⟩
 ·skip
  rintro a w ⟨hE,hM⟩
  refine Zr hE rfl ?_ ?_
  ·intro hb25
   have hF17:=Zu hF17 hb25
   obtain ⟨j26,hl27,hF28⟩:=bind_some hF17
   refine ZQ (fun a w=>∃ (u29 : Value),Env 49 a [(2,(ptr b1 0)),(3,u29),(4,vI j26.2.2.2.2.2.2)] ∧ M (Old w0) w0 w [raw b1 (cat [[vI j26.1],enc j26.2.1,enc j26.2.2.1,enc j26.2.2.2.1,[vI j26.2.2.2.2.1]]),osl NoB (j26.2.2.2.2.2.1 : List (Vector UInt8 16)) u29]) ?_ ?_
   ·skip
    have hM:=hM.pull4.pull4
    obtain ⟨r34,e35,hl27⟩:=bind_some hl27
    obtain ⟨l36,e37,hl27⟩:=bind_some hl27
    refine Wk (its:=[raw b13 (enc r7.2.2.1),raw b11 (enc r7.2.1),raw b9 (cat [[vI r7.1.Field],enc r7.1.Box,enc r7.1.Mix,enc r7.1.Places,[vI r7.1.Rounds]])]) (mk:=([mkT 9 (raw b1 (cat [[vI 0],enc (Vector.replicate 256 (0 : UInt8)),enc (Vector.replicate 4 (Vector.replicate 4 (0 : UInt8))),enc (Vector.replicate 16 (0 : UInt8)),[vI 0]])) (raw b1 (cat [[vI r7.1.Field],enc r7.1.Box,enc r7.1.Mix,enc r7.1.Places,[vI r7.1.Rounds]])),([6],fun bs _=>(tog (bs.getD 0 false) (raw b5 (cat [[v0_1],[vI j15.1],[(Value.int .u64 j15.2.1)]])) (raw b5 (cat [[v0_1],[vI r34.1.1],[(Value.int .u64 r34.1.2)]])))),mkO 4 (fun v=>osl NoB (([r7.2.1,r7.2.2.1,r7.2.1] : List (Vector UInt8 16)) : List (Vector UInt8 16)) v)] : Mk)) [31,32,33,34,35,36,37,38,39,58,3] Xm rfl rfl (by decide) rfl hE (fun u=>M.qT (M.qS (M.qE (M.q0 hM.drew u) emO) fun _=>rfl)) (qsP (v:=(Value.agg (enc r7.1).toArray)) ?_ (qsP (v:=(Value.agg (enc r7.2.1).toArray)) ?_ (qsP (v:=(Value.agg (enc r7.2.2.1).toArray)) ?_ (qsP (v:=(Value.agg (enc r7.2.1).toArray)) ?_ (qsM (pr:=fun v=>True) ?_ (qsP (fun z=>Zj z.E Za ld rfl (kr0 rfl)) (qsV (v:=(vI r34.2)) ?_ (qsD (ds:=[4]) (f:=fun us=>(Vh (us.getD 0 undef) ((0 : Int)).toNat (r34.2).toNat 16)) ?_ (qsP (fun z=>Zj z.E Za ld rfl (kr0 rfl)) (qsM (pr:=fun v=>True) ?_ (qsD (ds:=[4]) (f:=fun us=>(Vh (us.getD 0 undef) ((0 : Int)).toNat (r34.2).toNat 16)) ?_ qs0))))))))))) ?_
    ·intro a w ux31 D z
     have hE:=z.E
     have hD : D 0 = false:=z.F
     have hM:=z.M.togA (pre:=[_,_,_]) (VH (j:=9) (k:=0) z.c rfl rfl rfl hD)
     exact Zk hE rfl ZT rfl hM.rawAt2 cq fun a hE=>⟨Kept.refl _ _,_,rfl,hE⟩
    ·intro a w ux31 D z
     have hE:=z.E
     have hM:=z.M
     exact Zk hE rfl Zv rfl hM.rawAt1 (Flat.len _) fun a hE=>⟨Kept.refl _ _,_,rfl,hE⟩
    ·intro a w ux31 D z
     have hE:=z.E
     have hM:=z.M
     exact Zk hE rfl Zv rfl hM.rawAt0 (Flat.len _) fun a hE=>⟨Kept.refl _ _,_,rfl,hE⟩
    ·intro a w ux31 D z
     have hE:=z.E
     have hM:=z.M
     exact Zk hE rfl Zv rfl hM.rawAt1 (Flat.len _) fun a hE=>⟨Kept.refl _ _,_,rfl,hE⟩
    ·intro a w ux31 D z
     have hE:=z.E
     have hD : D 4 = false:=z.F
     have hM:=z.M
     exact Yc (xs:=[.tmp 32,.tmp 33,.tmp 34]) (l:=([r7.2.1,r7.2.2.1,r7.2.1] : List (Vector UInt8 16))) (vs:=[(Value.agg (enc r7.2.1).toArray),(Value.agg (enc r7.2.2.1).toArray),(Value.agg (enc r7.2.1).toArray)]) hE hM Za ld rfl rfl Tryz.underlying36 Zv rfl (by decide) rfl fun u32 w a hM hE=>⟨_,_,rfl,hE,M.qFill (mk1:=[_,_]) (mk2:=[]) (f:=(fun v=>osl NoB (([r7.2.1,r7.2.2.1,r7.2.1] : List (Vector UInt8 16)) : List (Vector UInt8 16)) v)) hM rfl hD,trivial⟩
    ·intro a w ux31 D z
     have hE:=z.E
     have hD : D 6 = false:=z.F
     have hM:=M.tailP (m:=[_]) ((z.M.togA (pre:=[_,_,_,_]) hD).pull4)
     refine Zo hE rfl Uu (ZG _ _ _ _ b5 p0 v0_1 hv0_1 (j15.1,j15.2.1) 4 hM r34 e35) ?_
     rintro v w a ⟨rfl,hM⟩ hE
     have hM:=M.tailU (m:=[_]) hM
     simp only [List.cons_append,List.nil_append] at hM
     exact ⟨_,rfl,hE,M.qTogS (p:=([6],fun bs _=>(tog (bs.getD 0 false) (raw b5 (cat [[v0_1],[vI j15.1],[(Value.int .u64 j15.2.1)]])) (raw b5 (cat [[v0_1],[vI r34.1.1],[(Value.int .u64 r34.1.2)]]))))) (mk1:=[_]) (mk2:=[_]) hM rfl (by show tog (YW D 6 6) (raw b5 (cat [[v0_1],[vI j15.1],[(Value.int .u64 j15.2.1)]])) (raw b5 (cat [[v0_1],[vI r34.1.1],[(Value.int .u64 r34.1.2)]])) = _; rw [tg1 JH])⟩
    ·intro a w ux31 D z
     have hE:=z.E
     have d4 : D 4 = true:=z.p 0 _ rfl rfl
     have hM:=z.M.sure (pre:=[_,_,_,_,_]) d4
     exact By hE Za ld rfl rfl (jD rfl) rfl rfl Tryz.underlying36 Zv (hM.sl (pre:=[_,_,_,_,_]) noB) e37 fun a hE=>⟨Kept.refl _ _,(allC d4 allN),_,rfl,hE⟩
    ·intro a w ux31 D z
     have hE:=z.E
     have hD : D 9 = false:=z.F
     have hM:=(z.M.togA (pre:=[_,_,_]) hD).pull3
     exact Zg (seg:=cat [[vI r7.1.Field],enc r7.1.Box,enc r7.1.Mix,enc r7.1.Places,[vI r7.1.Rounds]]) (cs':=cat [[vI r7.1.Field],enc r7.1.Box,enc r7.1.Mix,enc r7.1.Places,[vI r7.1.Rounds]]) hE hM Za rfl rfl rfl ZT cq (Nat.le_of_eq ((Nat.zero_add _).trans (Eq.trans cq (Eq.symm cq)))) (Yf (cc1 (Flat.cell (r7.1.Field : Int)) (cc1 (Flat.cell _) (cc1 (Flat.cell _) (cc1 (Flat.cell _) (cc1 (Flat.cell (r7.1.Rounds : Int)) cc0)))))) (Zf (Eq.trans cq (Eq.symm cq))) fun w a hM hE=>⟨undef,_,rfl,Env.dummy hE (by decide),M.qTog (mk1:=[]) (mk2:=[_,_]) hM rfl,trivial⟩
    ·intro a w ux31 D z
     have hE:=z.E
     have d7 : D 7 = true:=z.p 0 _ rfl rfl
     have d4 : D 4 = true:=z.c 7 _ _ rfl (List.mem_of_getElem? (i:=0) rfl) rfl d7
     exact Zc hE rfl fun a hE=>⟨Kept.refl _ _,(allC d4 allN),_,rfl,hE⟩
    ·intro a w ux31 D hE hM hG hall
     have d4:=hall 4 (by decide)
     have d6:=hall 6 (by decide)
     have d9:=hall 9 (by decide)
     have hM:=((hM.togB (pre:=[_,_,_]) d9).togB (pre:=[_,_,_,_]) d6).sure (pre:=[_,_,_,_,_]) d4
     refine Zc hE rfl fun a hE=>Zh ?_
     have hM:=hM.pull5.cut noB e37
     obtain rfl:=Option.some.inj hl27
     refine Zi ?_
     have hM:=M.fst (l:=[_,_]) hM.pull4
     exact ⟨(Vh (ux31 4) ((0 : Int)).toNat (r34.2).toNat 16),hE.sub ⟨rfl,rfl,rfl,trivial⟩,hM⟩
   ·skip
    rintro a w ⟨u29,hE,hM⟩
    obtain rfl:=Option.some.inj hF28
    have hq40 : ZX Tryz.prog _ _ (.cell 2 32) _:=ZN hE rfl ZT rfl hM.rawAt0 cq rfl
    have hM:=M.fst (l:=[_]) hM.pull1
    exact wp_ret (ZI (y5 hE rfl hq40 (ZF hE rfl) (ZF hE rfl) ⟨_,rfl,u29,rfl,hM.outF (WU WD),hM.kept⟩))
  ·intro hb25
   have hF17:=Zt hF17 hb25
   refine wp_skip (Zz ?_)
   obtain ⟨j41,hl42,hF43⟩:=bind_some hF17
   refine ZQ (fun a w=>∃ (u44 : Value),Env 49 a [(2,(ptr b1 0)),(3,u44),(4,vI j41.2.2.2.2.2.2)] ∧ M (Old w0) w0 w [raw b1 (cat [[vI j41.1],enc j41.2.1,enc j41.2.2.1,enc j41.2.2.2.1,[vI j41.2.2.2.2.1]]),osl NoB (j41.2.2.2.2.2.1 : List (Vector UInt8 16)) u44]) ?_ ?_
   ·skip
    have hM:=hM.pull3
    obtain ⟨r47,e48,hl42⟩:=bind_some hl42
    obtain ⟨r50,e51,hl42⟩:=bind_some hl42
    refine Wk (its:=[raw b13 (enc r7.2.2.1),raw b11 (enc r7.2.1),raw b9 (cat [[vI r7.1.Field],enc r7.1.Box,enc r7.1.Mix,enc r7.1.Places,[vI r7.1.Rounds]]),raw b1 (cat [[vI 0],enc (Vector.replicate 256 (0 : UInt8)),enc (Vector.replicate 4 (Vector.replicate 4 (0 : UInt8))),enc (Vector.replicate 16 (0 : UInt8)),[vI 0]])]) (mk:=([([8],fun bs _=>(tog (bs.getD 0 false) (raw b5 (cat [[v0_1],[vI j15.1],[(Value.int .u64 j15.2.1)]])) (raw b5 (cat [[v0_1],[vI r50.1.1],[(Value.int .u64 r50.1.2)]])))),mkO 6 (fun v=>osl NoB (r47 : List (Vector UInt8 16)) v)] : Mk)) [40,41,42,43,44,45,46,47,48] Xm rfl rfl (by decide) rfl hE (fun u=>M.qS (M.qE (M.q0 hM.drew u) emO) fun _=>rfl) (qsP (v:=(Value.agg (enc r7.1).toArray)) ?_ (qsP (v:=(Value.agg (enc r7.1).toArray)) ?_ (qsP (v:=(Value.agg (enc r7.2.1).toArray)) ?_ (qsP (v:=(Value.agg (enc r7.2.2.1).toArray)) ?_ (qsP (fun z=>Zj z.E Za ld rfl (kr0 rfl)) (qsP (fun z=>Zj z.E Za ld rfl (kr0 rfl)) (qsM (pr:=fun v=>True) ?_ (qsP (fun z=>Zj z.E Za ld rfl (kr0 rfl)) (qsV (v:=(vI r50.2)) ?_ qs0))))))))) ?_
    ·intro a w ux46 D z
     have hE:=z.E
     have hM:=z.M
     exact Zk hE rfl ZT rfl hM.rawAt2 cq fun a hE=>⟨Kept.refl _ _,_,rfl,hE⟩
    ·intro a w ux46 D z
     have hE:=z.E
     have hM:=z.M
     exact Zk hE rfl ZT rfl hM.rawAt2 cq fun a hE=>⟨Kept.refl _ _,_,rfl,hE⟩
    ·intro a w ux46 D z
     have hE:=z.E
     have hM:=z.M
     exact Zk hE rfl Zv rfl hM.rawAt1 (Flat.len _) fun a hE=>⟨Kept.refl _ _,_,rfl,hE⟩
    ·intro a w ux46 D z
     have hE:=z.E
     have hM:=z.M
     exact Zk hE rfl Zv rfl hM.rawAt0 (Flat.len _) fun a hE=>⟨Kept.refl _ _,_,rfl,hE⟩
    ·intro a w ux46 D z
     have hE:=z.E
     have hD : D 6 = false:=z.F
     have hM0:=z.M
     have hM:=z.M
     refine Zo hE rfl cb32 (Un _ r7.1 r7.2.1 r7.2.2.1 r7.2.2.2.1 r7.2.2.2.2 r47 e48) ?_
     rintro _ w a ⟨_,rfl,hFr,hK⟩ hE
     have hM:=hM0.add hK hFr
     exact ⟨_,_,rfl,hE,M.qFill (mk1:=[_]) (mk2:=[]) (f:=(fun v=>osl NoB (r47 : List (Vector UInt8 16)) v)) hM rfl hD,trivial⟩
    ·intro a w ux46 D z
     have hE:=z.E
     have hD : D 8 = false:=z.F
     have hM:=M.tailP (m:=[_]) ((z.M.togA (pre:=[_,_,_,_]) hD).pull4)
     refine Zo hE rfl Uu (ZG _ _ _ _ b5 p0 v0_1 hv0_1 (j15.1,j15.2.1) 17 hM r50 e51) ?_
     rintro v w a ⟨rfl,hM⟩ hE
     have hM:=M.tailU (m:=[_]) hM
     simp only [List.cons_append,List.nil_append] at hM
     exact ⟨_,rfl,hE,M.qTogS (p:=([8],fun bs _=>(tog (bs.getD 0 false) (raw b5 (cat [[v0_1],[vI j15.1],[(Value.int .u64 j15.2.1)]])) (raw b5 (cat [[v0_1],[vI r50.1.1],[(Value.int .u64 r50.1.2)]]))))) (mk1:=[]) (mk2:=[_]) hM rfl (by show tog (YW D 8 8) (raw b5 (cat [[v0_1],[vI j15.1],[(Value.int .u64 j15.2.1)]])) (raw b5 (cat [[v0_1],[vI r50.1.1],[(Value.int .u64 r50.1.2)]])) = _; rw [tg1 JH])⟩
    ·intro a w ux46 D hE hM hG hall
     have d6:=hall 6 (by decide)
     have d8:=hall 8 (by decide)
     have hM:=((hM.togB (pre:=[_,_,_,_]) d8).sure (pre:=[_,_,_,_,_]) d6).pull3
     refine Zg (seg:=cat [[vI r7.1.Field],enc r7.1.Box,enc r7.1.Mix,enc r7.1.Places,[vI r7.1.Rounds]]) (cs':=cat [[vI r7.1.Field],enc r7.1.Box,enc r7.1.Mix,enc r7.1.Places,[vI r7.1.Rounds]]) hE hM Za rfl rfl rfl ZT cq (Nat.le_of_eq ((Nat.zero_add _).trans (Eq.trans cq (Eq.symm cq)))) (Yf (cc1 (Flat.cell (r7.1.Field : Int)) (cc1 (Flat.cell _) (cc1 (Flat.cell _) (cc1 (Flat.cell _) (cc1 (Flat.cell (r7.1.Rounds : Int)) cc0)))))) (Zf (Eq.trans cq (Eq.symm cq))) fun w a hM hE=>Zc hE rfl fun a hE=>Zc hE rfl fun a hE=>Zh ?_
     obtain rfl:=Option.some.inj hl42
     refine Zi ?_
     have hM:=M.fst (l:=[_,_]) hM.pull5.pull1
     exact ⟨(ux46 6),hE.sub ⟨rfl,rfl,rfl,trivial⟩,hM⟩
   ·skip
    rintro a w ⟨u44,hE,hM⟩
    obtain rfl:=Option.some.inj hF43
    have hq53 : ZX Tryz.prog _ _ (.cell 2 32) _:=ZN hE rfl ZT rfl hM.rawAt0 cq rfl
    have hM:=M.fst (l:=[_]) hM.pull1
    exact wp_ret (y5 hE rfl hq53 (ZF hE rfl) (ZF hE rfl) ⟨_,rfl,u44,rfl,hM.outF (WU WD),hM.kept⟩)
def Xl (p0 : (List (Vector UInt8 16))) : Option (Int) :=
 some (p0.length : Int)
theorem U2 (w0 : World) (p0 : (List (Vector UInt8 16))) (v0_1 : Value) (hv0_1 : Ro w0 p0 [v0_1]) (r : Int) (hF : Xl p0 = some r) :
  Calls Tryz.prog 39 [v0_1].toArray w0 (Rt w0 (vI r)):=by
 refine ce Tryz.func39 ?_
 intro a hE
 have hM:=M.start w0
 unfold Xl at hF
 refine Zb (Zc hE rfl fun a hE=>Ze (Zb (Zd hE rfl fun a hE=>Wm hE rfl Tryz.underlying36 (hM.rd hv0_1) fun a hE=>Zc hE rfl fun a hE=>Ze ?_)))
 obtain rfl:=Option.some.inj hF
 exact wp_ret (kr1 hE rfl rfl hM.kept)
def Xj (p0 : (Ref Gengine)) (p1 : (List (Vector UInt8 16))) (p2 : Int) (s8 : Int × (List Int)) (s23 : Int × UInt8) : Option (Fl (Int × UInt8) UInt8) :=
 if (decide (s23.1 < (p1.length : Int))) = true then ((idx p1 s23.1).bind fun x28=>(ZB x28 p2).bind fun x35=>(ZB p0.v.backBox (bI (x35 ^^^ (ZH s8.1)))).bind fun x48=>some (Fl.nx (wr (s23.1 + 1),s23.2 ^^^ x48))) else (some (Fl.ex s23.2))
def YP (p0 : (Ref Gengine)) (p1 : (List (Vector UInt8 16))) (p2 : Int) (s8 : Int × (List Int)) : Option (Fl (Int × (List Int)) (List Int)) :=
 if (decide (s8.1 < 256)) = true then (((ZK (Xj p0 p1 p2 s8) (0,0)).bind fun j20=>(if (j20 == 0) = true then ((app 8 s8.2 ([s8.1] : List Int)).bind fun l59=>some (s8.2 ++ ([s8.1] : List Int))) else (some s8.2) : Option ((List Int))).bind fun j51=>some j51 : Option ((List Int))).bind fun j15=>some (Fl.nx (wr (s8.1 + 1),j15))) else (some (Fl.ex s8.2))
def Yx (p0 : (Ref Gengine)) (p1 : (List (Vector UInt8 16))) (p2 : Int) : Option ((List Int)) :=
 (ZK (YP p0 p1 p2) (0,([] : List Int))).bind fun j3=>some j3
theorem Tm (w0 : World) (p0 : (Ref Gengine)) (v0_1 : Value) (hv0_1 : Ro w0 p0 [v0_1]) (p1 : (List (Vector UInt8 16))) (v1_1 : Value) (hv1_1 : Ro w0 p1 [v1_1]) (p2 : Int) (r : (List Int)) (hF : Yx p0 p1 p2 = some r) :
  Calls Tryz.prog 42 [v0_1,v1_1,vI p2].toArray w0 (fun en w'=>∃ v,en = .returned v ∧ (∃ (y1 : Value),v = y1 ∧ Fr w0 w' [osl NoB (r : List Int) y1] ∧ Kept (Old w0) w0 w')):=by
 refine ce Tryz.func42 ?_
 intro a hE
 have hM:=M.start w0
 unfold Yx at hF
 refine Zb (Zc hE rfl fun a hE=>Ze (Zb (Yc (xs:=[]) (l:=([] : List Int)) (vs:=[]) hE hM Za ld rfl rfl Tryz.underlying44 ty2 rfl (by decide) rfl fun u1 w a hM hE=>Zc hE rfl fun a hE=>Ze (wp_seq (Zb (Zd hE rfl fun a hE=>Ze ?_))))))
 obtain ⟨j3,hl4,hF5⟩:=bind_some hF
 refine ZS (fun a w=>∃ (u6 : Value),Env 44 a [(7,u6)] ∧ M (Old w0) w0 w [osl NoB (j3 : List Int) u6]) ?_ ?_
 ·skip
  refine wp_block ?_
  refine ZO (fun (s8 : Int × (List Int)) a w=>∃ (u9 : Value),Env 44 a [(0,v0_1),(1,v1_1),(2,vI p2),(7,u9),(13,vI s8.1)] ∧ M (Old w0) w0 w [osl NoB (s8.2 : List Int) u9]) hl4 ⟨u1,hE.sub ⟨rfl,rfl,rfl,rfl,rfl,trivial⟩,hM⟩ ?_
  rintro s8 a w ⟨u9,hE,hM⟩ o13 hs11 hx12
  unfold YP at hs11
  refine Zb (Zl hE rfl rfl rfl fun a hE=>Ze (wp_seq ?_))
  refine Zr hE rfl ?_ ?_
  ·intro hb14
   have hs11:=Zu hs11 hb14
   refine wp_skip (Zz ?_)
   obtain ⟨j15,hl16,hF17⟩:=bind_some hs11
   refine ZQ (fun a w=>∃ (u18 : Value),Env 44 a [(0,v0_1),(1,v1_1),(2,vI p2),(7,u18),(13,vI s8.1)] ∧ M (Old w0) w0 w [osl NoB (j15 : List Int) u18]) ?_ ?_
   ·skip
    refine wp_block (Zb (Zd hE rfl fun a hE=>Zc hE rfl fun a hE=>Ze (Zb (Zc hE rfl fun a hE=>Ze (wp_seq (Zb (Zd hE rfl fun a hE=>Wm hE rfl Tryz.underlying36 (hM.rd hv1_1) fun a hE=>Zd hE rfl fun a hE=>Ze ?_)))))))
    obtain ⟨j20,hl21,hF22⟩:=bind_some hl16
    refine ZS (fun a w=>Env 44 a [(0,v0_1),(1,v1_1),(2,vI p2),(7,u9),(8,vI s8.1),(9,vB j20),(13,vI s8.1)] ∧ M (Old w0) w0 w [osl NoB (s8.2 : List Int) u9]) ?_ ?_
    ·skip
     refine wp_block ?_
     refine ZO (fun (s23 : Int × UInt8) a w=>Env 44 a [(0,v0_1),(1,v1_1),(2,vI p2),(7,u9),(8,vI s8.1),(9,vB s23.2),(13,vI s8.1),(16,v1_1),(17,(vI (p1.length : Int))),(18,vI s23.1)] ∧ M (Old w0) w0 w [osl NoB (s8.2 : List Int) u9]) hl21 ⟨hE.sub ⟨rfl,rfl,rfl,rfl,rfl,rfl,rfl,rfl,rfl,rfl,trivial⟩,hM⟩ ?_
     rintro s23 a w ⟨hE,hM⟩ o26 hs24 hx25
     unfold Xj at hs24
     refine Zb (Zl hE rfl rfl rfl fun a hE=>Ze (wp_seq ?_))
     refine Zr hE rfl ?_ ?_
     ·intro hb27
      have hs24:=Zu hs24 hb27
      refine wp_skip (Zz (wp_seq (wp_block (Zb ?_))))
      obtain ⟨x28,hi30,hs24⟩:=bix hs24
      refine XM hE rfl rfl Tryz.underlying36 Zv (hM.rd hv1_1) hi30.1 fun a hE=>Zk hE rfl Zv rfl (Y1 (hM.rd hv1_1) hi30.2) (Flat.len _) fun a hE=>Zs hE hM Zv fun b31 w a hM hE=>Zg (seg:=enc x28) (cs':=enc x28) hE hM Za rfl rfl rfl Zv (Flat.len _) (zle flq) (Flat.cell _) (Zf flq) fun w a hM hE=>Ze ?_
      obtain ⟨x35,hi34,hs24⟩:=bvx hs24
      obtain ⟨pb37,ds38,hv39,hx40,hA41,hB42⟩:=U7 hv0_1 -- ^
      obtain ⟨u43,u45,rfl,h44,h46⟩:=TS hx40 -- ^
      obtain ⟨x48,hi47,hs24⟩:=bvx hs24
      refine Yl [22,23,24,25,26,27,28,29,30,31,32,33,34] Xm rfl rfl (by decide) rfl hE hM (qsP (fun z=>Zj z.E Za ld rfl (kr0 rfl)) (qsP (fun z=>Zj z.E Za ld rfl (kr0 rfl)) (qsP (fun z=>Zj z.E Za ld rfl (kr0 rfl)) (qsP (fun z=>ZA z.E Za ld rfl rfl Tryz.underlying33 ty5 hi34.1 (kr0 rfl)) (qsP (fun z=>Z0 (v:=(vB x35)) z.E Za ld rfl ty5 rfl (At.vec (z.M.rawAt0) hi34.2) (kr0 rfl)) (qsP (fun z=>Zj z.E Za ld rfl (kr0 rfl)) (qsP (fun z=>YX z.E Za ld rfl Tryz.underlying3 Tryz.underlying5 (kr0 rfl)) (qsP (v:=(vB (x35 ^^^ (ZH s8.1)))) (fun z=>Yk z.E Za ld rfl rfl (WI x35 (ZH s8.1)) (kr0 rfl)) (qsP (fun z=>ZV z.E Za ld (lk rfl hv39) (kr0 rfl)) (qsP (fun z=>ZP z.E Za ld rfl (Zar) (kr0 rfl)) (qsP (fun z=>ZA z.E Za ld rfl rfl Tryz.underlying25 ty5 hi47.1 (kr0 rfl)) (qsP (fun z=>Z0 (v:=(vB x48)) z.E Za ld rfl ty5 rfl (At.vec (At.cat (pre:=[enc p0.v.box]) (z.M.atk hA41 hB42) ck) hi47.2) (kr0 rfl)) (qsP (v:=(vB (s23.2 ^^^ x48))) (fun z=>Yk z.E Za ld rfl rfl (WI s23.2 x48) (kr0 rfl)) qs0))))))))))))) ?_
      ·intro a w u hE hM
       refine Zc hE rfl fun a hE=>Zh (Z9 (Zz (wp_region_lit (Zl hE rfl rfl rfl fun a hE=>Zd hE rfl fun a hE=>Zh (Zi ?_)))))
       have hM:=M.fst (l:=[_]) hM.pull1
       exact ⟨_,(ois hs24),hE.sub ⟨rfl,rfl,rfl,rfl,rfl,rfl,rfl,rfl,rfl,rfl,trivial⟩,hM⟩
     ·intro hb27
      have hs24:=Zt hs24 hb27
      refine wp_exit (Zq (Zq (Yi ?_)))
      obtain rfl:=hx25 _ (ois hs24)
      refine Zi ?_
      exact ⟨hE.sub ⟨rfl,rfl,rfl,rfl,rfl,rfl,rfl,trivial⟩,hM⟩
    ·skip
     rintro a w ⟨hE,hM⟩
     refine Zz (Zb (Zd hE rfl fun a hE=>Zl hE rfl rfl (Al j20 0) fun a hE=>Ze ?_))
     obtain ⟨j51,hl52,hF53⟩:=bind_some hF22
     refine ZS (fun a w=>∃ (u54 : Value),Env 44 a [(0,v0_1),(1,v1_1),(2,vI p2),(7,u54),(13,vI s8.1)] ∧ M (Old w0) w0 w [osl NoB (j51 : List Int) u54]) ?_ ?_
     ·skip
      refine Zr hE rfl ?_ ?_
      ·intro hb56
       have hl52:=Zu hl52 hb56
       refine wp_region_lit (Zd hE rfl fun a hE=>Zd hE rfl fun a hE=>Yc (xs:=[.tmp 39]) (l:=([s8.1] : List Int)) (vs:=[vI s8.1]) hE hM Za ld rfl rfl Tryz.underlying44 ty2 rfl (by decide) rfl ?_); intro u57 w a hM hE
       obtain ⟨l59,e60,hl52⟩:=bind_some hl52
       obtain ⟨e63,rfl⟩:=U3 e60
       have hM:=hM.pull1
       refine Uo hE hM Za ld rfl rfl (hM.sl (pre:=[_]) noB) Tryz.underlying44 ty2 rfl (by decide) e63 fun u61 w a hM hE=>Zc hE rfl fun a hE=>Zh ?_
       obtain rfl:=Option.some.inj hl52
       refine Zi ?_
       have hM:=M.fst (l:=[_]) hM
       exact ⟨u61,hE.sub ⟨rfl,rfl,rfl,rfl,rfl,trivial⟩,hM⟩
      ·intro hb56
       have hl52:=Zt hl52 hb56
       refine wp_skip ?_
       obtain rfl:=Option.some.inj hl52
       refine Zi ?_
       exact ⟨u9,hE.sub ⟨rfl,rfl,rfl,rfl,rfl,trivial⟩,hM⟩
     ·skip
      rintro a w ⟨u54,hE,hM⟩
      refine Z9 ?_
      obtain rfl:=Option.some.inj hF53
      refine Zi ?_
      exact ⟨u54,hE.sub ⟨rfl,rfl,rfl,rfl,rfl,trivial⟩,hM⟩
   ·skip
    rintro a w ⟨u18,hE,hM⟩
    refine wp_region_lit (Zl hE rfl rfl rfl fun a hE=>Zd hE rfl fun a hE=>Zh (Zi ?_))
    exact ⟨_,(ois hF17),u18,hE.sub ⟨rfl,rfl,rfl,rfl,rfl,trivial⟩,hM⟩
  ·intro hb14
   have hs11:=Zt hs11 hb14
   refine wp_exit (Zq (Zq (Yi ?_)))
   obtain rfl:=hx12 _ (ois hs11)
   refine Zi ?_
   exact ⟨u9,hE.sub ⟨rfl,trivial⟩,hM⟩
 ·skip
  rintro a w ⟨u6,hE,hM⟩
  refine Zz (Zb (Zd hE rfl fun a hE=>Zc hE rfl fun a hE=>Ze ?_))
  obtain rfl:=Option.some.inj hF5
  exact wp_ret (Z2 hE rfl (ZF hE rfl) ⟨_,rfl,u6,rfl,hM.outF (WU WD),hM.kept⟩)
def X4 (p0 : GCipher) (p1 : (List (Vector UInt8 16))) (p2 : Int) : Option ((List Int) × Int) :=
 (WH p0).bind fun r3=>if (!r3) = true then (some ([],1)) else (((Xl p1).bind fun r10=>(Y2 r10 1 256).bind fun r12=>if (!r12) = true then (some true) else ((Wq p2).bind fun r16=>some (!r16)) : Option (Bool)).bind fun j7=>if j7 = true then (some ([],2)) else ((Xt p0).bind fun r21=>(Yx r21 p1 p2).bind fun r24=>some (r24,0)))
theorem KO (w0 : World) (p0 : GCipher) (p1 : (List (Vector UInt8 16))) (v1_1 : Value) (hv1_1 : Ro w0 p1 [v1_1]) (p2 : Int) (r : (List Int) × Int) (hF : X4 p0 p1 p2 = some r) :
  Calls Tryz.prog 13 [(Value.agg (enc p0).toArray),v1_1,vI p2].toArray w0 (fun en w'=>∃ v,en = .returned v ∧ (∃ (y1 : Value),v = (Value.tuple [y1,vI r.2].toArray) ∧ Fr w0 w' [osl NoB (r.1 : List Int) y1] ∧ Kept (Old w0) w0 w')):=by
 refine ce Tryz.func13 ?_
 intro a hE
 have hM:=M.start w0
 unfold X4 at hF
 refine Zb (ZY (cs:=cat [[vI p0.Field],enc p0.Box,enc p0.Mix,enc p0.Places,[vI p0.Rounds]]) hE hM Za ld rfl rfl fun b1 w a hM hE=>Zc hE rfl fun a hE=>Zc hE rfl fun a hE=>Ze (wp_seq (wp_block (Zb (Zk hE rfl ZT rfl hM.rawAt0 cq ?_))))); intro a hE
 obtain ⟨r3,e4,hF⟩:=bind_some hF
 refine Zo hE rfl cb37 (Qe _ p0 r3 e4) ?_
 rintro v w a ⟨rfl,hK⟩ hE
 have hM:=hM.keep hK
 refine TH hE rfl fun a hE=>Zc hE rfl fun a hE=>Ze ?_
 refine Zr hE rfl ?_ ?_
 ·intro hb5
  have hF:=Zu hF hb5
  refine Zb (Zc hE rfl fun a hE=>Zc hE rfl fun a hE=>Ze ?_)
  have hM:=M.nilS (α:=Int) NoB noB hM
  obtain rfl:=Option.some.inj hF
  have hM:=M.fst (l:=[_]) hM
  exact wp_ret (Y8 (ZI (Xk hE rfl (ZF hE rfl) (ZF hE rfl) ⟨_,rfl,(Value.slice none 0 0),rfl,hM.outF (WU WD),hM.kept⟩)))
 ·intro hb5
  have hF:=Zt hF hb5
  obtain ⟨j7,hl8,hF9⟩:=bind_some hF
  refine ZQ (fun a w=>Env 27 a [(1,v1_1),(2,vI p2),(3,(ptr b1 0)),(12,vT j7)] ∧ M (Old w0) w0 w [raw b1 (cat [[vI p0.Field],enc p0.Box,enc p0.Mix,enc p0.Places,[vI p0.Rounds]])]) ?_ ?_
  ·skip
   refine wp_region_lit (Zd hE rfl ?_); intro a hE
   obtain ⟨r10,e11,hl8⟩:=bind_some hl8
   refine Zo hE rfl (cbm Tryz.func39) (U2 _ p1 v1_1 (hM.rdo hv1_1) r10 e11) ?_
   rintro v w a ⟨rfl,hK⟩ hE
   have hM:=hM.keep hK
   obtain ⟨r12,e13,hl8⟩:=bind_some hl8
   refine Zo hE rfl yL (W5 _ r10 1 256 r12 e13) ?_
   rintro v w a ⟨rfl,hK⟩ hE
   have hM:=hM.keep hK
   refine TH hE rfl fun a hE=>Zd hE rfl ?_; intro a hE
   refine YF (!r12) (fun hb14=>?_) (fun hb14=>?_)
   ·have hl8:=Zu hl8 hb14
    refine Zp hE rfl (lkb rfl hb14) rfl (by decide) fun a hE=>Zp hE rfl (lkb rfl hb14) rfl (by decide) fun a hE=>Zp hE rfl (lkb rfl hb14) rfl (by decide) fun a hE=>ZW hE (lkb rfl hb14) rfl fun a hE=>Zc hE rfl fun a hE=>Zh ?_
    obtain rfl:=Option.some.inj hl8
    refine Zi ?_
    exact ⟨hE.sub ⟨rfl,rfl,rfl,rfl,trivial⟩,hM⟩
   ·have hl8:=Zt hl8 hb14
    refine Zj hE (Zm hE rfl (lkb rfl hb14)) (by decide) rfl ?_; intro a hE
    obtain ⟨r16,e17,hl8⟩:=bind_some hl8
    refine YD hE (Zm hE rfl (lkb rfl hb14)) (by decide) rfl cb40 (QH _ p2 r16 e17) ?_
    rintro v w a ⟨rfl,hK⟩ hE
    have hM:=hM.keep hK
    refine Q0 hE (Zm hE rfl (lkb rfl hb14)) (by decide) rfl fun a hE=>Z7 hE (lkb rfl hb14) rfl fun a hE=>Zc hE rfl fun a hE=>Zh ?_
    obtain rfl:=Option.some.inj hl8
    refine Zi ?_
    exact ⟨hE.sub ⟨rfl,rfl,rfl,rfl,trivial⟩,hM⟩
  ·skip
   rintro a w ⟨hE,hM⟩
   refine Zr hE rfl ?_ ?_
   ·intro hb19
    have hF9:=Zu hF9 hb19
    refine Zb (Zc hE rfl fun a hE=>Zc hE rfl fun a hE=>Ze ?_)
    have hM:=M.nilS (α:=Int) NoB noB hM
    obtain rfl:=Option.some.inj hF9
    have hM:=M.fst (l:=[_]) hM
    exact wp_ret (Y8 (ZI (Xk hE rfl (ZF hE rfl) (ZF hE rfl) ⟨_,rfl,(Value.slice none 0 0),rfl,hM.outF (WU WD),hM.kept⟩)))
   ·intro hb19
    have hF9:=Zt hF9 hb19
    refine wp_skip (Z9 (Zz (Zb (Zk hE rfl ZT rfl hM.rawAt0 cq ?_)))); intro a hE
    obtain ⟨r21,e22,hF9⟩:=bind_some hF9
    refine Zo hE rfl cb41 (UX _ p0 r21 e22) ?_
    rintro u23 w a ⟨_,rfl,hFr,hK⟩ hE
    have hM:=hM.add hK hFr
    refine Zd hE rfl fun a hE=>Zd hE rfl ?_; intro a hE
    obtain ⟨r24,e25,hF9⟩:=bind_some hF9
    refine Zo hE rfl (cbm Tryz.func42) (Tm _ r21 u23 (hM.ro (pre:=[]) noB) p1 v1_1 (hM.rdo hv1_1) p2 r24 e25) ?_
    rintro u26 w a ⟨_,rfl,hFr,hK⟩ hE
    have hM:=hM.add hK hFr
    refine Zc hE rfl fun a hE=>Zc hE rfl fun a hE=>Ze ?_
    obtain rfl:=Option.some.inj hF9
    have hM:=M.fst (l:=[_]) hM
    exact wp_ret (Xk hE rfl (ZF hE rfl) (ZF hE rfl) ⟨_,rfl,u26,rfl,hM.outF (WU WD),hM.kept⟩)
def Wd (p0 : (Vector UInt8 256)) (s10 : (Vector UInt8 256) × Int) : Option (Fl ((Vector UInt8 256) × Int) (Vector UInt8 256)) :=
 if (decide (s10.2 < 256)) = true then ((ZB p0 s10.2).bind fun x16=>(ZB s10.1 (bI x16)).bind fun x19=>some (Fl.nx ((s10.1.setIfInBounds ((bI x16)).toNat (ZH s10.2)),wr (s10.2 + 1)))) else (some (Fl.ex s10.1))
def Vy (p0 : (Vector UInt8 256)) : Option ((Vector UInt8 256)) :=
 (ZK (Wd p0) ((Vector.replicate 256 (0 : UInt8)),0)).bind fun j7=>some j7
theorem Hb (w0 : World) (p0 : (Vector UInt8 256)) (r : (Vector UInt8 256)) (hF : Vy p0 = some r) :
  Calls Tryz.prog 72 [(Value.agg (enc p0).toArray)].toArray w0 (Rt w0 (Value.agg (enc r).toArray)):=by
 refine ce Tryz.func72 ?_
 intro a hE
 have hM:=M.start w0
 unfold Vy at hF
 refine Zb (ZY (cs:=enc p0) hE hM Za ld rfl rfl fun b1 w a hM hE=>Zs hE hM YN fun b3 w a hM hE=>Ze (Zb (Z8 (parts:=[]) (vs:=[]) (cs:=enc (Vector.replicate 256 (0 : UInt8))) hE Za ld rfl rfl YN rfl ty5 ZZ fun a hE=>Zs hE hM YN fun b5 w a hM hE=>Zg (seg:=enc (Vector.replicate 256 (0 : UInt8))) (cs':=enc (Vector.replicate 256 (0 : UInt8))) hE hM Za rfl rfl rfl YN (Flat.len _) (zle flq) (Flat.cell _) (Zf flq) fun w a hM hE=>Ze (wp_seq (Zb (Zc hE rfl fun a hE=>Ze ?_))))))
 obtain ⟨j7,hl8,hF9⟩:=bind_some hF
 refine ZS (fun a w=>Env 17 a [(2,(ptr b3 0)),(3,(ptr b5 0))] ∧ M (Old w0) w0 w [raw b5 (enc j7),raw b3 (enc (Vector.replicate 256 (0 : UInt8)))]) ?_ ?_
 ·skip
  refine wp_block ?_
  refine ZO (fun (s10 : (Vector UInt8 256) × Int) a w=>Env 17 a [(1,(ptr b1 0)),(2,(ptr b3 0)),(3,(ptr b5 0)),(4,vI s10.2)] ∧ M (Old w0) w0 w [raw b5 (enc s10.1),raw b3 (enc (Vector.replicate 256 (0 : UInt8))),raw b1 (enc p0)]) hl8 ⟨hE.sub ⟨rfl,rfl,rfl,rfl,trivial⟩,hM⟩ ?_
  rintro s10 a w ⟨hE,hM⟩ o13 hs11 hx12
  unfold Wd at hs11
  refine wp_seq (Zb (Zd hE rfl fun a hE=>Zl hE rfl rfl rfl fun a hE=>Ze ?_))
  refine Zr hE rfl ?_ ?_
  ·intro hb14
   have hs11:=Zu hs11 hb14
   refine wp_skip (Zz (wp_seq (wp_block (wp_region_lit (Zd hE rfl ?_))))); intro a hE
   obtain ⟨x16,hi15,hs11⟩:=bvx hs11
   refine Zw hE rfl rfl Tryz.underlying25 ty5 hi15.1 fun a hE=>ZR (v:=(vB x16)) hE rfl ty5 rfl (At.vec hM.rawAt2 hi15.2) fun a hE=>Zd hE rfl fun a hE=>YX hE Za ld rfl Tryz.underlying3 Tryz.underlying5 ?_; intro a hE
   obtain ⟨x19,hi18,hs11⟩:=bvx hs11
   refine Zw hE rfl rfl Tryz.underlying25 ty5 hi18.1 fun a hE=>Zg (seg:=[(vB (ZH s10.2))]) (cs':=enc (s10.1.setIfInBounds ((bI x16)).toNat (ZH s10.2))) hE hM Za rfl rfl rfl ty5 rfl (ZE (v:=s10.1) (x:=ZH s10.2) hi18.1) (Flat.cell (ZH s10.2 : UInt8)) (Zy (v:=s10.1) (x:=ZH s10.2) hi18.1) fun w a hM hE=>Zh (Z9 (Zz (wp_region_lit (Zd hE rfl fun a hE=>Zl hE rfl rfl rfl fun a hE=>Zc hE rfl fun a hE=>Zh (Zi ?_)))))
   exact ⟨_,(ois hs11),hE.sub ⟨rfl,rfl,rfl,rfl,trivial⟩,hM⟩
  ·intro hb14
   have hs11:=Zt hs11 hb14
   refine wp_exit (Zq (Zq (Yi ?_)))
   obtain rfl:=hx12 _ (ois hs11)
   refine Zi ?_
   have hM:=M.fst (l:=[_,_]) hM.pull1.pull1
   exact ⟨hE.sub ⟨rfl,rfl,trivial⟩,hM⟩
 ·skip
  rintro a w ⟨hE,hM⟩
  refine Zz (Zb (Zk hE rfl YN rfl hM.rawAt0 (Flat.len _) ?_)); intro a hE
  have hM:=hM.pull1
  refine Zg (seg:=enc j7) (cs':=enc j7) hE hM Za rfl rfl rfl YN (Flat.len _) (zle flq) (Flat.cell _) (Zf flq) fun w a hM hE=>Ze ?_
  obtain rfl:=Option.some.inj hF9
  have hq22 : ZX Tryz.prog _ _ (.cell 2 25) _:=ZN hE rfl YN rfl hM.rawAt0 (Flat.len _) rfl
  exact wp_ret (Z2 hE rfl hq22 ⟨_,rfl,rfl,hM.kept⟩)
def Vz (p1 : (List (Vector UInt8 16))) (p2 : Int) (r5 : (Vector UInt8 256)) (s14 : (Vector Bool 256) × Int) (s22 : UInt8 × Int) : Option (Fl (UInt8 × Int) UInt8) :=
 if (decide (s22.2 < (p1.length : Int))) = true then ((idx p1 s22.2).bind fun x27=>(ZB x27 p2).bind fun x31=>(ZB r5 (bI (x31 ^^^ (ZH s14.2)))).bind fun x34=>some (Fl.nx (s22.1 ^^^ x34,wr (s22.2 + 1)))) else (some (Fl.ex s22.1))
def WF (p1 : (List (Vector UInt8 16))) (p2 : Int) (r5 : (Vector UInt8 256)) (s14 : (Vector Bool 256) × Int) : Option (Fl ((Vector Bool 256) × Int) (Vector Bool 256)) :=
 if (decide (s14.2 < 256)) = true then ((ZK (Vz p1 p2 r5 s14) (0,0)).bind fun j19=>(ZB s14.1 s14.2).bind fun x38=>some (Fl.nx ((s14.1.setIfInBounds (s14.2).toNat (j19 == 0)),wr (s14.2 + 1)))) else (some (Fl.ex s14.1))
def Xs (p0 : GCipher) (p1 : (List (Vector UInt8 16))) (p2 : Int) : Option ((Vector Bool 256)) :=
 (Vy p0.Box).bind fun r5=>(ZK (WF p1 p2 r5) ((Vector.replicate 256 false),0)).bind fun j11=>some j11
end

end Go.Proofs.YtkajmkegelcfjaaGreat
