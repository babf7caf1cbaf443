/- The walk of what the law reaches: contracts of functions. -/
import Derived.Test.YtkajmkegelcfjaaC2
set_option linter.unusedVariables false
set_option linter.unusedSimpArgs false
set_option maxRecDepth 20000
set_option maxHeartbeats 400000
namespace Go.Proofs.Ytkajmkegelcfjaa
open Go
open Flat (enc)
noncomputable section
theorem UP (w0 : World) (p0 : (Vector UInt8 32)) (p1 : Int) (p2 : (Vector UInt8 32)) (p3 : GAbsence) (v3_1 : Value) (hv3_1 : Ro w0 p3.Neighbours [v3_1]) (v3_2 : Value) (hv3_2 : Ro w0 p3.Proofs [v3_2]) (r : Bool) (hF : Xy p0 p1 p2 p3 = some r) :
  Calls Try.prog 44 [(Value.agg (enc p0).toArray),vI p1,(Value.agg (enc p2).toArray),(Value.agg (cat [[vI p3.Place],[v3_1],[v3_2]]).toArray)].toArray w0 (Rt w0 (vT r)):=by
 refine ce Try.func44 ?_
 intro a hE
 have hM:=M.start w0
 unfold Xy at hF
 refine Zb (Z7 (cs:=enc p0) hE hM Za ld rfl rfl fun b1 w a hM hE=>Z7 (cs:=enc p2) hE hM Za ld rfl rfl fun b3 w a hM hE=>Z7 (cs:=cat [[vI p3.Place],[v3_1],[v3_2]]) hE hM Za ld rfl rfl fun b5 w a hM hE=>Zc hE rfl fun a hE=>Ze (wp_seq ?_))
 obtain ⟨j7,hl8,hF9⟩:=bind_some hF
 refine ZB (fun a w=>Env 127 a [(1,vI p1),(4,(ptr b1 0)),(6,(ptr b3 0)),(7,(ptr b5 0)),(27,vT j7)] ∧ M (Old w0) w0 w [raw b5 (cat [[vI p3.Place],[v3_1],[v3_2]]),raw b3 (enc p2),raw b1 (enc p0)]) ?_ ?_
 ·skip
  refine wp_region_lit (Zd hE rfl ?_); intro a hE
  obtain ⟨r10,e11,hl8⟩:=bind_some hl8
  refine Zy hE rfl cb56 (UE _ p1 0 64 r10 e11) ?_
  rintro v w a ⟨rfl,hK⟩ hE
  have hM:=hM.keep hK
  refine zx hE rfl fun a hE=>Zd hE rfl ?_; intro a hE
  refine YP (!r10) (fun hb12=>?_) (fun hb12=>?_)
  ·have hl8:=Zt hl8 hb12
   refine Zm hE rfl (lkb rfl hb12) rfl (by decide) fun a hE=>Zm hE rfl (lkb rfl hb12) rfl (by decide) fun a hE=>Zm hE rfl (lkb rfl hb12) rfl (by decide) fun a hE=>Zm hE rfl (lkb rfl hb12) rfl (by decide) fun a hE=>Zm hE rfl (lkb rfl hb12) rfl (by decide) fun a hE=>YY hE (lkb rfl hb12) rfl fun a hE=>Zi ?_
   obtain rfl:=Option.some.inj hl8
   refine Zj ?_
   exact ⟨hE.sub ⟨rfl,rfl,rfl,rfl,rfl,trivial⟩,hM⟩
  ·have hl8:=Zs hl8 hb12
   refine Zo hE (Zf hE rfl (lkb rfl hb12)) (by decide) rfl (Xv) fun a hE=>ZN (v:=(vI p3.Place)) hE (Zf hE rfl (lkb rfl hb12)) (by decide) rfl ty2 rfl (At.cat (pre:=[]) hM.rawAt0 cl0) fun a hE=>Zg hE (Zf hE rfl (lkb rfl hb12)) (by decide) rfl ?_; intro a hE
   obtain ⟨r14,e15,hl8⟩:=bind_some hl8
   refine ZX hE (Zf hE rfl (lkb rfl hb12)) (by decide) rfl cb56 (UE _ p3.Place 0 p1 r14 e15) ?_
   rintro v w a ⟨rfl,hK⟩ hE
   have hM:=hM.keep hK
   refine UY hE (Zf hE rfl (lkb rfl hb12)) (by decide) rfl fun a hE=>YW hE (lkb rfl hb12) rfl fun a hE=>Zi ?_
   obtain rfl:=Option.some.inj hl8
   refine Zj ?_
   exact ⟨hE.sub ⟨rfl,rfl,rfl,rfl,rfl,trivial⟩,hM⟩
 ·skip
  rintro a w ⟨hE,hM⟩
  refine Zq hE rfl ?_ ?_
  ·intro hb17
   have hF9:=Zt hF9 hb17
   refine Zb (Zc hE rfl fun a hE=>Ze ?_)
   obtain rfl:=Option.some.inj hF9
   exact wp_ret (ZL (kr1 hE rfl rfl hM.kept))
  ·intro hb17
   have hF9:=Zs hF9 hb17
   refine wp_skip (Zw (Zb (Z3 (xs:=[]) (l:=([] : List Int)) (vs:=[]) hE hM Za ld rfl rfl Try.underlying138 ty2 rfl (by decide) rfl fun u18 w a hM hE=>Zc hE rfl fun a hE=>Ze (wp_seq (Zb (ZJ hE rfl (Xv) fun a hE=>ZQ (v:=(vI p3.Place)) hE rfl ty2 rfl (At.cat (pre:=[]) hM.rawAt1 cl0) fun a hE=>Zl hE rfl rfl rfl fun a hE=>ZJ hE rfl (Xv) fun a hE=>ZQ (v:=(vI p3.Place)) hE rfl ty2 rfl (At.cat (pre:=[]) hM.rawAt1 cl0) fun a hE=>Yx (parts:=[(0,.tmp 31),(1,.tmp 33)]) (vs:=[(0,(vI (wr (p3.Place - 1)))),(1,vI p3.Place)]) (cs:=enc (((Vector.replicate 2 (0 : Int)).setIfInBounds 0 (wr (p3.Place - 1))).setIfInBounds 1 p3.Place)) hE Za ld rfl rfl ty162 rfl ty2 (Wl (v:=(Vector.replicate 2 (0 : Int))) (x:=wr (p3.Place - 1)) rfl (by decide) rfl (Wl (v:=((Vector.replicate 2 (0 : Int)).setIfInBounds 0 (wr (p3.Place - 1)))) (x:=p3.Place) rfl (by decide) rfl Yk)) fun a hE=>Zd hE rfl fun a hE=>Ze ?_))))))
   obtain ⟨j20,hl21,hF22⟩:=bind_some hF9
   refine ZW (fun a w=>∃ (u23 : Value),Env 127 a [(1,vI p1),(4,(ptr b1 0)),(6,(ptr b3 0)),(7,(ptr b5 0)),(9,u23)] ∧ M (Old w0) w0 w [raw b5 (cat [[vI p3.Place],[v3_1],[v3_2]]),raw b3 (enc p2),raw b1 (enc p0),osl NoB (j20 : List Int) u23]) ?_ ?_
   ·skip
    refine wp_block ?_
    have hM:=hM.pull3.pull3.pull3
    refine ZM (fun (s25 : Int × (List Int)) a w=>∃ (u26 : Value),Env 127 a [(1,vI p1),(4,(ptr b1 0)),(6,(ptr b3 0)),(7,(ptr b5 0)),(9,u26),(34,(Value.agg (enc (((Vector.replicate 2 (0 : Int)).setIfInBounds 0 (wr (p3.Place - 1))).setIfInBounds 1 p3.Place)).toArray)),(35,vI s25.1)] ∧ M (Old w0) w0 w [raw b5 (cat [[vI p3.Place],[v3_1],[v3_2]]),raw b3 (enc p2),raw b1 (enc p0),osl NoB (s25.2 : List Int) u26]) hl21 ⟨u18,hE.sub ⟨rfl,rfl,rfl,rfl,rfl,rfl,rfl,trivial⟩,hM⟩ ?_
    rintro s25 a w ⟨u26,hE,hM⟩ o30 hs28 hx29
    unfold YG at hs28
    refine Zb (Zl hE rfl rfl rfl fun a hE=>Ze (wp_seq ?_))
    refine Zq hE rfl ?_ ?_
    ·intro hb31
     have hs28:=Zt hs28 hb31
     refine wp_skip (Zw ?_)
     obtain ⟨j32,hl33,hF34⟩:=bind_some hs28
     refine ZB (fun a w=>∃ (u35 : Value),Env 127 a [(1,vI p1),(4,(ptr b1 0)),(6,(ptr b3 0)),(7,(ptr b5 0)),(9,u35),(34,(Value.agg (enc (((Vector.replicate 2 (0 : Int)).setIfInBounds 0 (wr (p3.Place - 1))).setIfInBounds 1 p3.Place)).toArray)),(35,vI s25.1)] ∧ M (Old w0) w0 w [raw b5 (cat [[vI p3.Place],[v3_1],[v3_2]]),raw b3 (enc p2),raw b1 (enc p0),osl NoB (j32 : List Int) u35]) ?_ ?_
     ·skip
      refine wp_block (Zb ?_)
      obtain ⟨x37,hi39,hl33⟩:=bvx hl33
      refine To hE Za ld rfl rfl Try.underlying162 ty2 rfl rfl hi39 rfl fun a hE=>Zc hE rfl fun a hE=>Ze (Zb (Zd hE rfl fun a hE=>Zd hE rfl fun a hE=>Zl hE rfl rfl rfl ?_)); intro a hE
      obtain ⟨r40,e41,hl33⟩:=bind_some hl33
      refine Zy hE rfl cb56 (UE _ x37 0 (wr (p1 - 1)) r40 e41) ?_
      rintro v w a ⟨rfl,hK⟩ hE
      have hM:=hM.keep hK
      refine Ze ?_
      obtain ⟨j42,hl43,hF44⟩:=bind_some hl33
      refine ZW (fun a w=>∃ (u45 : Value),Env 127 a [(1,vI p1),(4,(ptr b1 0)),(6,(ptr b3 0)),(7,(ptr b5 0)),(9,u45),(34,(Value.agg (enc (((Vector.replicate 2 (0 : Int)).setIfInBounds 0 (wr (p3.Place - 1))).setIfInBounds 1 p3.Place)).toArray)),(35,vI s25.1)] ∧ M (Old w0) w0 w [raw b5 (cat [[vI p3.Place],[v3_1],[v3_2]]),raw b3 (enc p2),raw b1 (enc p0),osl NoB (j42 : List Int) u45]) ?_ ?_
      ·skip
       refine Zq hE rfl ?_ ?_
       ·intro hb47
        have hl43:=Zt hl43 hb47
        refine wp_region_lit (Zd hE rfl fun a hE=>Zd hE rfl fun a hE=>Z3 (xs:=[.tmp 43]) (l:=([x37] : List Int)) (vs:=[vI x37]) hE hM Za ld rfl rfl Try.underlying138 ty2 rfl (by decide) rfl ?_); intro u48 w a hM hE
        obtain ⟨l50,e51,hl43⟩:=bind_some hl43
        obtain ⟨e54,rfl⟩:=Yn e51
        have hM:=hM.pull4
        refine Yf hE hM Za ld rfl rfl (hM.sl (pre:=[_]) noB) Try.underlying138 ty2 rfl (by decide) e54 fun u52 w a hM hE=>Zc hE rfl fun a hE=>Zi ?_
        obtain rfl:=Option.some.inj hl43
        refine Zj ?_
        have hM:=M.fst (l:=[_,_,_,_]) hM.pull4.pull4.pull4
        exact ⟨u52,hE.sub ⟨rfl,rfl,rfl,rfl,rfl,rfl,rfl,trivial⟩,hM⟩
       ·intro hb47
        have hl43:=Zs hl43 hb47
        refine wp_skip ?_
        obtain rfl:=Option.some.inj hl43
        refine Zj ?_
        exact ⟨u26,hE.sub ⟨rfl,rfl,rfl,rfl,rfl,rfl,rfl,trivial⟩,hM⟩
      ·skip
       rintro a w ⟨u45,hE,hM⟩
       refine Yv ?_
       obtain rfl:=Option.some.inj hF44
       refine Zj ?_
       exact ⟨u45,hE.sub ⟨rfl,rfl,rfl,rfl,rfl,rfl,rfl,trivial⟩,hM⟩
     ·skip
      rintro a w ⟨u35,hE,hM⟩
      refine wp_region_lit (Zl hE rfl rfl rfl fun a hE=>Zd hE rfl fun a hE=>Zi (Zj ?_))
      exact ⟨_,(ois hF34),u35,hE.sub ⟨rfl,rfl,rfl,rfl,rfl,rfl,rfl,trivial⟩,hM⟩
    ·intro hb31
     have hs28:=Zs hs28 hb31
     refine wp_exit (Zn (Zn (Yy ?_)))
     obtain rfl:=hx29 _ (ois hs28)
     refine Zj ?_
     exact ⟨u26,hE.sub ⟨rfl,rfl,rfl,rfl,rfl,trivial⟩,hM⟩
   ·skip
    rintro a w ⟨u23,hE,hM⟩
    refine Zw (Zb ?_)
    obtain ⟨r59,e60,hF22⟩:=bind_some hF22
    refine Zy hE rfl jk (UN _  r59 e60) ?_
    rintro v w a ⟨u61,rfl,hFr,hK⟩ hE
    have hM:=hM.add hK hFr
    refine Zv hE hM V2 fun b62 w a hM hE=>Zk (seg:=cat [[u61]]) (cs':=cat [[u61]]) hE hM Za rfl rfl rfl V2 cq (Nat.le_of_eq ((Nat.zero_add _).trans (Eq.trans cq (Eq.symm cq)))) (Y2 (cc1 (Rep.cell (hM.ro (pre:=[_]) noB)) cc0)) (Zh (Eq.trans cq (Eq.symm cq))) fun w a hM hE=>Ze (wp_seq ?_)
    obtain ⟨j64,hl65,hF66⟩:=bind_some hF22
    refine ZB (fun a w=>Env 127 a [(1,vI p1),(4,(ptr b1 0)),(6,(ptr b3 0)),(7,(ptr b5 0)),(9,u23),(12,(ptr b62 0)),(61,vT j64)] ∧ M (Old w0) w0 w [raw b62 (cat [[u61]]),own NoB (r59.engine : (Ref Gengine)) [u61],raw b5 (cat [[vI p3.Place],[v3_1],[v3_2]]),raw b3 (enc p2),raw b1 (enc p0),osl NoB (j20 : List Int) u23]) ?_ ?_
    ·skip
     refine wp_region_lit (ZJ hE rfl (WA) fun a hE=>ZQ (v:=v3_1) hE rfl VT rfl (At.cat (pre:=[[vI p3.Place]]) hM.rawAt2 ck) fun a hE=>Yq hE rfl Try.underlying80 (hM.rd hv3_1) fun a hE=>Zd hE rfl fun a hE=>Yq hE rfl Try.underlying138 (hM.sl (pre:=[_,_,_,_,_]) noB) fun a hE=>Zl hE rfl rfl rfl fun a hE=>Zd hE rfl ?_); intro a hE
     refine YP ((p3.Neighbours.length : Int) != (j20.length : Int)) (fun hb67=>?_) (fun hb67=>?_)
     ·have hl65:=Zt hl65 hb67
      refine Zm hE rfl (lkb rfl hb67) rfl (by decide) fun a hE=>Zm hE rfl (lkb rfl hb67) rfl (by decide) fun a hE=>Zm hE rfl (lkb rfl hb67) rfl (by decide) fun a hE=>Zm hE rfl (lkb rfl hb67) rfl (by decide) fun a hE=>Zm hE rfl (lkb rfl hb67) rfl (by decide) fun a hE=>Zm hE rfl (lkb rfl hb67) rfl (by decide) fun a hE=>YY hE (lkb rfl hb67) rfl fun a hE=>Zi ?_
      obtain rfl:=Option.some.inj hl65
      refine Zj ?_
      exact ⟨hE.sub ⟨rfl,rfl,rfl,rfl,rfl,rfl,rfl,trivial⟩,hM⟩
     ·have hl65:=Zs hl65 hb67
      refine Zo hE (Zf hE rfl (lkb rfl hb67)) (by decide) rfl (UV) fun a hE=>ZN (v:=v3_2) hE (Zf hE rfl (lkb rfl hb67)) (by decide) rfl Kt rfl (At.cat (pre:=[[vI p3.Place],[v3_1]]) hM.rawAt2 ck) fun a hE=>T4 hE (Zf hE rfl (lkb rfl hb67)) (by decide) rfl Try.underlying85 (hM.rd hv3_2) fun a hE=>Zg hE (Zf hE rfl (lkb rfl hb67)) (by decide) rfl fun a hE=>T4 hE (Zf hE rfl (lkb rfl hb67)) (by decide) rfl Try.underlying138 (hM.sl (pre:=[_,_,_,_,_]) noB) fun a hE=>Z1 hE (Zf hE rfl (lkb rfl hb67)) (by decide) rfl rfl rfl fun a hE=>YW hE (lkb rfl hb67) rfl fun a hE=>Zi ?_
      obtain rfl:=Option.some.inj hl65
      refine Zj ?_
      exact ⟨hE.sub ⟨rfl,rfl,rfl,rfl,rfl,rfl,rfl,trivial⟩,hM⟩
    ·skip
     rintro a w ⟨hE,hM⟩
     refine Zq hE rfl ?_ ?_
     ·intro hb70
      have hF66:=Zt hF66 hb70
      refine Zb (Zc hE rfl fun a hE=>Ze ?_)
      obtain rfl:=Option.some.inj hF66
      exact wp_ret (ZL (kr1 hE rfl rfl hM.kept))
     ·intro hb70
      have hF66:=Zs hF66 hb70
      refine wp_skip (Zw (wp_seq (Zb (Zd hE rfl fun a hE=>Yq hE rfl Try.underlying138 (hM.sl (pre:=[_,_,_,_,_]) noB) fun a hE=>Zd hE rfl fun a hE=>Ze ?_))))
      obtain ⟨j71,hl72,hF73⟩:=bind_some hF66
      refine ZW (fun a w=>∃ s74 : Unit,j71 = Fl.nx s74 ∧ Env 127 a [(1,vI p1),(4,(ptr b1 0)),(12,(ptr b62 0))] ∧ M (Old w0) w0 w [raw b62 (cat [[u61]]),own NoB (r59.engine : (Ref Gengine)) [u61],raw b1 (enc p0)]) ?_ ?_
      ·skip
       refine wp_block ?_
       refine ZM (fun (s75 : Int) a w=>Env 127 a [(1,vI p1),(4,(ptr b1 0)),(6,(ptr b3 0)),(7,(ptr b5 0)),(12,(ptr b62 0)),(62,u23),(63,(vI (j20.length : Int))),(64,vI s75)] ∧ M (Old w0) w0 w [raw b62 (cat [[u61]]),own NoB (r59.engine : (Ref Gengine)) [u61],raw b5 (cat [[vI p3.Place],[v3_1],[v3_2]]),raw b3 (enc p2),raw b1 (enc p0),osl NoB (j20 : List Int) u23]) hl72 ⟨hE.sub ⟨rfl,rfl,rfl,rfl,rfl,rfl,rfl,rfl,trivial⟩,hM⟩ ?_
       rintro s75 a w ⟨hE,hM⟩ o78 hs76 hx77
       unfold XS at hs76
       refine Zb (Zl hE rfl rfl rfl fun a hE=>Ze (wp_seq ?_))
       refine Zq hE rfl ?_ ?_
       ·intro hb79
        have hs76:=Zt hs76 hb79
        refine wp_skip (Zw (wp_seq (wp_block (Zb (Zd hE rfl ?_))))); intro a hE
        obtain ⟨x80,hi82,hs76⟩:=bix hs76
        refine Wx hE rfl rfl Try.underlying138 ty2 (hM.sl (pre:=[_,_,_,_,_]) noB) hi82.1 fun a hE=>ZQ (v:=(vI x80)) hE rfl ty2 rfl (YA (hM.sl (pre:=[_,_,_,_,_]) noB) hi82.2) fun a hE=>Zc hE rfl fun a hE=>Zc hE rfl fun a hE=>Ze ?_
        obtain ⟨j83,hl84,hF85⟩:=bind_some hs76
        refine ZB (fun a w=>Env 127 a [(1,vI p1),(4,(ptr b1 0)),(6,(ptr b3 0)),(7,(ptr b5 0)),(12,(ptr b62 0)),(13,vI s75),(14,vI x80),(15,vI j83),(62,u23),(63,(vI (j20.length : Int))),(64,vI s75)] ∧ M (Old w0) w0 w [raw b62 (cat [[u61]]),own NoB (r59.engine : (Ref Gengine)) [u61],raw b5 (cat [[vI p3.Place],[v3_1],[v3_2]]),raw b3 (enc p2),raw b1 (enc p0),osl NoB (j20 : List Int) u23]) ?_ ?_
        ·skip
         obtain ⟨x87,hi89,hl84⟩:=bix hl84
         obtain ⟨r90,e91,hl84⟩:=bind_some hl84
         refine ZP [69,70,71,72,73,74,75,15] Yr rfl rfl (by decide) rfl hE hM (qsP (fun z=>Zo z.E Za ld rfl (WA) (kr0 rfl)) (qsP (fun z=>ZN (v:=v3_1) z.E Za ld rfl VT rfl (At.cat (pre:=[[vI p3.Place]]) (z.M.rawAt2) ck) (kr0 rfl)) (qsP (fun z=>Zg z.E Za ld rfl (kr0 rfl)) (qsP (fun z=>Yi z.E Za ld rfl rfl Try.underlying80 Zr (z.M.rd hv3_1) hi89.1 (kr0 rfl)) (qsP (fun z=>ZA z.E Za ld rfl Zr rfl (YA (z.M.rd hv3_1) hi89.2) (Flat.len _) (kr0 rfl)) (qsP (fun z=>ZA z.E Za ld rfl Zr rfl (z.M.rawAt3) (Flat.len _) (kr0 rfl)) (qsP (fun z=>ZX z.E Za ld rfl jr (VJ _ x87 p2 r90 e91) (kc rfl)) (qsP (fun z=>VD z.E Za ld rfl (kr0 rfl)) qs0)))))))) ?_
         ·intro a w u hE hM
          refine Zi ?_
          obtain rfl:=Option.some.inj hl84
          refine Zj ?_
          exact ⟨hE.sub ⟨rfl,rfl,rfl,rfl,rfl,rfl,rfl,rfl,rfl,rfl,rfl,trivial⟩,hM⟩
        ·skip
         rintro a w ⟨hE,hM⟩
         refine wp_seq ?_
         obtain ⟨j93,hl94,hF95⟩:=bind_some hF85
         refine ZB (fun a w=>Env 127 a [(1,vI p1),(4,(ptr b1 0)),(6,(ptr b3 0)),(7,(ptr b5 0)),(12,(ptr b62 0)),(13,vI s75),(14,vI x80),(62,u23),(63,(vI (j20.length : Int))),(64,vI s75),(93,vT j93)] ∧ M (Old w0) w0 w [raw b62 (cat [[u61]]),own NoB (r59.engine : (Ref Gengine)) [u61],raw b5 (cat [[vI p3.Place],[v3_1],[v3_2]]),raw b3 (enc p2),raw b1 (enc p0),osl NoB (j20 : List Int) u23]) ?_ ?_
         ·skip
          refine wp_region_lit (Zd hE rfl fun a hE=>ZJ hE rfl (Xv) fun a hE=>ZQ (v:=(vI p3.Place)) hE rfl ty2 rfl (At.cat (pre:=[]) hM.rawAt2 cl0) fun a hE=>Zl hE rfl rfl rfl fun a hE=>Zd hE rfl ?_); intro a hE
          refine YP (decide (x80 < p3.Place)) (fun hb96=>?_) (fun hb96=>?_)
          ·have hl94:=Zt hl94 hb96
           refine Zg hE (Zf hE rfl (lkb rfl hb96)) (by decide) rfl fun a hE=>Z1 hE (Zf hE rfl (lkb rfl hb96)) (by decide) rfl rfl rfl fun a hE=>YY hE (lkb rfl hb96) rfl fun a hE=>Zd hE rfl ?_; intro a hE
           refine YP (decide (j83 ≥ 0)) (fun hb97=>?_) (fun hb97=>?_)
           ·have hl94:=Zt hl94 hb97
            refine Zm hE rfl (lkb rfl hb97) rfl (by decide) fun a hE=>Zm hE rfl (lkb rfl hb97) rfl (by decide) fun a hE=>Zm hE rfl (lkb rfl hb97) rfl (by decide) fun a hE=>Zm hE rfl (lkb rfl hb97) rfl (by decide) fun a hE=>Zm hE rfl (lkb rfl hb97) rfl (by decide) fun a hE=>UX hE rfl rfl (by decide) fun a hE=>UX hE rfl rfl (by decide) fun a hE=>Zm hE rfl (lkb rfl hb97) rfl (by decide) fun a hE=>YY hE (lkb rfl hb97) rfl fun a hE=>Zi ?_
            obtain rfl:=Option.some.inj hl94
            refine Zj ?_
            exact ⟨hE.sub ⟨rfl,rfl,rfl,rfl,rfl,rfl,rfl,rfl,rfl,rfl,rfl,trivial⟩,hM⟩
           ·have hl94:=Zs hl94 hb97
            refine Zg hE (Zf hE rfl (lkb rfl hb97)) (by decide) rfl fun a hE=>Zo hE (Zf hE rfl (lkb rfl hb97)) (by decide) rfl (Xv) fun a hE=>ZN (v:=(vI p3.Place)) hE (Zf hE rfl (lkb rfl hb97)) (by decide) rfl ty2 rfl (At.cat (pre:=[]) hM.rawAt2 cl0) fun a hE=>Z1 hE (Zf hE rfl (lkb rfl hb97)) (by decide) rfl rfl rfl fun a hE=>Zg hE (Zf hE rfl (lkb rfl hb97)) (by decide) rfl ?_; intro a hE
            refine YP (x80 == p3.Place) (fun hb99=>?_) (fun hb99=>?_)
            ·have hl94:=Zt hl94 hb99
             refine Zg hE (Zf hE rfl (lkb rfl hb99)) (by decide) rfl fun a hE=>Z1 hE (Zf hE rfl (lkb rfl hb99)) (by decide) rfl rfl rfl fun a hE=>Vo hE (Zf hE rfl (lkb rfl hb97)) (by decide) (lkb rfl hb99) rfl fun a hE=>YW hE (lkb rfl hb97) rfl fun a hE=>Zi ?_
             obtain rfl:=Option.some.inj hl94
             refine Zj ?_
             exact ⟨hE.sub ⟨rfl,rfl,rfl,rfl,rfl,rfl,rfl,rfl,rfl,rfl,rfl,trivial⟩,hM⟩
            ·have hl94:=Zs hl94 hb99
             refine Zm hE rfl (lkb rfl hb99) rfl (by decide) fun a hE=>Zm hE rfl (lkb rfl hb99) rfl (by decide) fun a hE=>WN hE (Zf hE rfl (lkb rfl hb97)) (by decide) (lkb rfl hb99) rfl fun a hE=>YW hE (lkb rfl hb97) rfl fun a hE=>Zi ?_
             obtain rfl:=Option.some.inj hl94
             refine Zj ?_
             exact ⟨hE.sub ⟨rfl,rfl,rfl,rfl,rfl,rfl,rfl,rfl,rfl,rfl,rfl,trivial⟩,hM⟩
          ·have hl94:=Zs hl94 hb96
           refine Zm hE rfl (lkb rfl hb96) rfl (by decide) fun a hE=>Zm hE rfl (lkb rfl hb96) rfl (by decide) fun a hE=>YW hE (lkb rfl hb96) rfl fun a hE=>Zd hE rfl fun a hE=>Zg hE (Zf hE rfl rfl) (by decide) rfl fun a hE=>Zo hE (Zf hE rfl rfl) (by decide) rfl (Xv) fun a hE=>ZN (v:=(vI p3.Place)) hE (Zf hE rfl rfl) (by decide) rfl ty2 rfl (At.cat (pre:=[]) hM.rawAt2 cl0) fun a hE=>Z1 hE (Zf hE rfl rfl) (by decide) rfl rfl rfl fun a hE=>Zg hE (Zf hE rfl rfl) (by decide) rfl ?_; intro a hE
           refine YP (x80 == p3.Place) (fun hb102=>?_) (fun hb102=>?_)
           ·have hl94:=Zt hl94 hb102
            refine Zg hE (Zf hE rfl (lkb rfl hb102)) (by decide) rfl fun a hE=>Z1 hE (Zf hE rfl (lkb rfl hb102)) (by decide) rfl rfl rfl fun a hE=>Vo hE (Zf hE rfl rfl) (by decide) (lkb rfl hb102) rfl fun a hE=>YW hE rfl rfl fun a hE=>Zi ?_
            obtain rfl:=Option.some.inj hl94
            refine Zj ?_
            exact ⟨hE.sub ⟨rfl,rfl,rfl,rfl,rfl,rfl,rfl,rfl,rfl,rfl,rfl,trivial⟩,hM⟩
           ·have hl94:=Zs hl94 hb102
            refine Zm hE rfl (lkb rfl hb102) rfl (by decide) fun a hE=>Zm hE rfl (lkb rfl hb102) rfl (by decide) fun a hE=>WN hE (Zf hE rfl rfl) (by decide) (lkb rfl hb102) rfl fun a hE=>YW hE rfl rfl fun a hE=>Zi ?_
            obtain rfl:=Option.some.inj hl94
            refine Zj ?_
            exact ⟨hE.sub ⟨rfl,rfl,rfl,rfl,rfl,rfl,rfl,rfl,rfl,rfl,rfl,trivial⟩,hM⟩
         ·skip
          rintro a w ⟨hE,hM⟩
          refine Zq hE rfl ?_ ?_
          ·intro hb105
           have hF95:=Zt hF95 hb105
           refine Zb (Zc hE rfl fun a hE=>Ze ?_)
           obtain rfl:=hx77 _ (ois hF95)
           obtain rfl:=Option.some.inj hF73
           exact wp_ret (ZL (Vj (ZL (ZL (Vj (ZL (ZL (kr1 hE rfl rfl hM.kept))))))))
          ·intro hb105
           have hF95:=Zs hF95 hb105
           refine wp_skip (Zw (wp_seq ?_))
           obtain ⟨x108,hi110,hF95⟩:=bix hF95
           obtain ⟨x111,hi113,hF95⟩:=bix hF95
           obtain ⟨cs114,hs115,hA116⟩:=Qt hv3_2 hi113.2 -- ^
           obtain ⟨u117,rfl⟩:=U5 hs115 -- ^
           have h118:=hs115 -- ^
           obtain ⟨r119,e120,hF95⟩:=bind_some hF95
           refine YV (its:=[raw b62 (cat [[u61]]),own NoB (r59.engine : (Ref Gengine)) [u61],raw b5 (cat [[vI p3.Place],[v3_1],[v3_2]]),raw b3 (enc p2),raw b1 (enc p0),osl NoB (j20 : List Int) u23]) (mk:=([mkC 17 18 (enc (Vector.replicate 32 (0 : UInt8))) (enc r119.1)] : Mk)) [95,96,97,98,99,100,101,102,103,104,105,106,107,108,94,109,110,16,145] Yr rfl rfl (by decide) rfl hE (fun u=>M.qE (M.q0 hM.drew u) emC) (qsP (v:=(Value.agg (cat [[u61]]).toArray)) ?_ (qsP (fun z=>Zo z.E Za ld rfl (WA) (kr0 rfl)) (qsP (v:=v3_1) ?_ (qsP (fun z=>Zg z.E Za ld rfl (kr0 rfl)) (qsP (v:=(ptr (sb v3_1) (so v3_1 + (s75).toNat * 32))) ?_ (qsP (v:=(Value.agg (enc x108).toArray)) ?_ (qsP (fun z=>Zg z.E Za ld rfl (kr0 rfl)) (qsP (fun z=>Zg z.E Za ld rfl (kr0 rfl)) (qsP (fun z=>Zo z.E Za ld rfl (UV) (kr0 rfl)) (qsP (v:=v3_2) ?_ (qsP (fun z=>Zg z.E Za ld rfl (kr0 rfl)) (qsP (v:=(ptr (sb v3_2) (so v3_2 + (s75).toNat * 1))) ?_ (qsP (v:=u117) ?_ (qsP (v:=(Value.tuple [(Value.agg (enc r119.1).toArray),vT r119.2].toArray)) ?_ (qsP (fun z=>Zg z.E Za ld rfl (kr0 rfl)) (qsP (fun z=>ZZ z.E Za ld rfl rfl (kr0 rfl)) (qsP (fun z=>ZZ z.E Za ld rfl rfl (kr0 rfl)) (qsM (pr:=fun v=>True) ?_ (qsM (pr:=fun v=>True) ?_ qs0))))))))))))))))))) ?_
           ·intro a w ux107 D z
            have hE:=z.E
            have hM:=z.M
            exact Zp hE rfl V2 rfl hM.rawAt0 cq fun a hE=>⟨Kept.refl _ _,_,rfl,hE⟩
           ·intro a w ux107 D z
            have hE:=z.E
            have hM:=z.M
            exact ZQ (v:=v3_1) hE rfl VT rfl (At.cat (pre:=[[vI p3.Place]]) hM.rawAt2 ck) fun a hE=>⟨Kept.refl _ _,_,rfl,hE⟩
           ·intro a w ux107 D z
            have hE:=z.E
            have hM:=z.M
            exact Wx hE rfl rfl Try.underlying80 Zr (hM.rd hv3_1) hi110.1 fun a hE=>⟨Kept.refl _ _,_,rfl,hE⟩
           ·intro a w ux107 D z
            have hE:=z.E
            have hM:=z.M
            exact Zp hE rfl Zr rfl (YA (hM.rd hv3_1) hi110.2) (Flat.len _) fun a hE=>⟨Kept.refl _ _,_,rfl,hE⟩
           ·intro a w ux107 D z
            have hE:=z.E
            have hM:=z.M
            exact ZQ (v:=v3_2) hE rfl Kt rfl (At.cat (pre:=[[vI p3.Place],[v3_1]]) hM.rawAt2 ck) fun a hE=>⟨Kept.refl _ _,_,rfl,hE⟩
           ·intro a w ux107 D z
            have hE:=z.E
            have hM:=z.M
            exact Wx hE rfl rfl Try.underlying85 VT (hM.rd hv3_2) hi113.1 fun a hE=>⟨Kept.refl _ _,_,rfl,hE⟩
           ·intro a w ux107 D z
            have hE:=z.E
            have hM:=z.M
            exact ZQ (v:=u117) hE rfl VT rfl (hM.atk hA116 (KJ hv3_2 hi113.2)) fun a hE=>⟨Kept.refl _ _,_,rfl,hE⟩
           ·intro a w ux107 D z
            have hE:=z.E
            have hM:=z.M
            refine Zy hE rfl yo (WU 64 _ r59 u61 (hM.ro (pre:=[_]) noB) x108 x80 p1 x111 u117 (hM.rdo h118) r119 e120) ?_
            rintro v w a ⟨rfl,hK⟩ hE
            exact ⟨hK,_,rfl,hE⟩
           ·intro a w ux107 D z
            have hE:=z.E
            have hD : D 17 = false:=z.F
            have hM:=z.M
            refine Zv hE hM Zr ?_; intro b121 w a hM hE
            have hs : D 18 = false:=Kv (j:=18) (k:=0) z.c rfl rfl rfl hD
            exact ⟨_,_,rfl,hE,M.qAlloc (mk1:=[]) (mk2:=[]) hM rfl hD hs (by decide),trivial⟩
           ·intro a w ux107 D z
            have hE:=z.E
            have hD : D 18 = false:=z.F
            have d17 : D 17 = true:=z.p 0 _ rfl rfl
            have hM:=z.M
            obtain ⟨b123,hb124,hM⟩:=M.openCellF (pre:=[_,_,_,_,_,_]) hM d17 hD
            exact Zk (seg:=enc r119.1) (cs':=enc r119.1) hE hM Za (lk rfl hb124) rfl rfl Zr (Flat.len _) (zle flq) (Flat.cell _) (Zh flq) fun w a hM hE=>⟨undef,_,rfl,Env.dummy hE (by decide),M.qStore (i:=17) (mk1:=[]) (mk2:=[]) hM rfl d17 hb124 (by decide),trivial⟩
           ·intro a w ux107 D hE hM hG hall
            have d17:=hall 17 (by decide)
            have d18:=hall 18 (by decide)
            obtain ⟨b125,f126,hM⟩:=M.openCellT (pre:=[_,_,_,_,_,_]) hM d17 d18
            have hE:=hE.setq (t:=16) rfl f126
            refine Zc hE rfl fun a hE=>Zi (Zw ?_)
            obtain ⟨j127,hl128,hF129⟩:=bind_some hF95
            refine ZB (fun a w=>Env 127 a [(1,vI p1),(4,(ptr b1 0)),(6,(ptr b3 0)),(7,(ptr b5 0)),(12,(ptr b62 0)),(62,u23),(63,(vI (j20.length : Int))),(64,vI s75),(117,vT j127)] ∧ M (Old w0) w0 w [raw b62 (cat [[u61]]),own NoB (r59.engine : (Ref Gengine)) [u61],raw b5 (cat [[vI p3.Place],[v3_1],[v3_2]]),raw b3 (enc p2),raw b1 (enc p0),osl NoB (j20 : List Int) u23]) ?_ ?_
            ·skip
             refine wp_region_lit (Zd hE rfl fun a hE=>zx hE rfl fun a hE=>Zd hE rfl ?_); intro a hE
             refine YP (!r119.2) (fun hb130=>?_) (fun hb130=>?_)
             ·have hl128:=Zt hl128 hb130
              refine Zm hE rfl (lkb rfl hb130) rfl (by decide) fun a hE=>Zm hE rfl (lkb rfl hb130) rfl (by decide) fun a hE=>Zm hE rfl (lkb rfl hb130) rfl (by decide) fun a hE=>YY hE (lkb rfl hb130) rfl fun a hE=>Zi ?_
              obtain rfl:=Option.some.inj hl128
              refine Zj ?_
              have hM:=M.fst (l:=[_,_,_,_,_,_]) hM.pull6.pull6.pull6.pull6.pull6.pull6
              exact ⟨hE.sub ⟨rfl,rfl,rfl,rfl,rfl,rfl,rfl,rfl,rfl,trivial⟩,hM⟩
             ·have hl128:=Zs hl128 hb130
              refine ZA hE (Zf hE rfl (lkb rfl hb130)) (by decide) rfl Zr rfl hM.rawAt0 (Flat.len _) fun a hE=>ZA hE (Zf hE rfl (lkb rfl hb130)) (by decide) rfl Zr rfl hM.rawAt5 (Flat.len _) fun a hE=>jo hE (Zf hE rfl (lkb rfl hb130)) (by decide) rfl rfl (U4 Try.underlying82 ty5 rfl false rfl (by decide) (Uw Try.underlying5)) (by decide) (by kernel_rfl) fun a hE=>YW hE (lkb rfl hb130) rfl fun a hE=>Zi ?_
              obtain rfl:=Option.some.inj hl128
              refine Zj ?_
              have hM:=M.fst (l:=[_,_,_,_,_,_]) hM.pull6.pull6.pull6.pull6.pull6.pull6
              exact ⟨hE.sub ⟨rfl,rfl,rfl,rfl,rfl,rfl,rfl,rfl,rfl,trivial⟩,hM⟩
            ·skip
             rintro a w ⟨hE,hM⟩
             refine Zq hE rfl ?_ ?_
             ·intro hb133
              have hF129:=Zt hF129 hb133
              refine Zb (Zc hE rfl fun a hE=>Ze ?_)
              obtain rfl:=hx77 _ (ois hF129)
              obtain rfl:=Option.some.inj hF73
              exact wp_ret (Vj (ZL (ZL (Vj (ZL (ZL (kr1 hE rfl rfl hM.kept)))))))
             ·intro hb133
              have hF129:=Zs hF129 hb133
              refine wp_skip (Yv (Zw (wp_region_lit (Zl hE rfl rfl rfl fun a hE=>Zd hE rfl fun a hE=>Zi (Zj ?_)))))
              exact ⟨_,(ois hF129),hE.sub ⟨rfl,rfl,rfl,rfl,rfl,rfl,rfl,rfl,trivial⟩,hM⟩
       ·intro hb79
        have hs76:=Zs hs76 hb79
        refine wp_exit (Zn (Zn (Yy ?_)))
        obtain rfl:=hx77 _ (ois hs76)
        refine Zj ?_
        have hM:=M.fst (l:=[_,_,_]) hM.pull4.pull2.pull2
        exact ⟨(),rfl,hE.sub ⟨rfl,rfl,rfl,trivial⟩,hM⟩
      ·skip
       rintro a w ⟨s74,ht,hE,hM⟩
       subst ht
       have hF73:=Ki hF73
       refine Zw ?_
       obtain ⟨j136,hl137,hF138⟩:=bind_some hF73
       refine ZB (fun a w=>Env 127 a [(8,vT j136)] ∧ M (Old w0) w0 w []) ?_ ?_
       ·skip
        refine YP (decide (p1 > 0)) (fun hb140=>?_) (fun hb140=>?_)
        ·have hl137:=Zt hl137 hb140
         refine ZP [119,120,121,122,123,124,125,126,8] Yr rfl rfl (by decide) rfl hE hM (qsP (fun z=>Zg z.E Za ld rfl (kr0 rfl)) (qsP (fun z=>Z1 z.E Za ld rfl rfl rfl (kr0 rfl)) (qsP (fun z=>Zg z.E Za ld rfl (kr0 rfl)) (qsP (fun z=>Zm z.E rfl (lkb rfl hb140) rfl (by decide) (kr0 rfl)) (qsP (fun z=>Zm z.E rfl (lkb rfl hb140) rfl (by decide) (kr0 rfl)) (qsP (fun z=>Zm z.E rfl (lkb rfl hb140) rfl (by decide) (kr0 rfl)) (qsP (fun z=>Zm z.E rfl (lkb rfl hb140) rfl (by decide) (kr0 rfl)) (qsP (fun z=>Vo z.E Za ld (lkb rfl hb140) rfl (kr0 rfl)) (qsP (fun z=>VD z.E Za ld rfl (kr0 rfl)) qs0))))))))) ?_
         ·intro a w u hE hM
          refine Zi ?_
          obtain rfl:=Option.some.inj hl137
          refine Zj ?_
          have hM:=M.fst (l:=[]) hM
          exact ⟨hE.sub ⟨rfl,trivial⟩,hM⟩
        ·have hl137:=Zs hl137 hb140
         obtain ⟨r142,e143,hl137⟩:=bind_some hl137
         refine ZP [119,120,121,122,123,124,125,126,8] Yr rfl rfl (by decide) rfl hE hM (qsP (fun z=>Zg z.E Za ld rfl (kr0 rfl)) (qsP (fun z=>Z1 z.E Za ld rfl rfl rfl (kr0 rfl)) (qsP (fun z=>Zg z.E Za ld rfl (kr0 rfl)) (qsP (fun z=>ZA z.E (Zf z.E rfl (lkb rfl hb140)) (by decide) rfl Zr rfl (z.M.rawAt2) (Flat.len _) (kr0 rfl)) (qsP (fun z=>ZA z.E (Zf z.E rfl (lkb rfl hb140)) (by decide) rfl V2 rfl (z.M.rawAt0) cq (kr0 rfl)) (qsP (fun z=>ZX z.E (Zf z.E rfl (lkb rfl hb140)) (by decide) rfl Bi (Y5 64 _ r59 u61 (z.M.ro (pre:=[_]) noB) ([] : (List (Vector UInt8 32))) (Value.slice none 0 0) J3 r142 e143) (kc rfl)) (qsP (fun z=>Aw z.E (Zf z.E rfl (lkb rfl hb140)) (by decide) rfl rfl (U4 Try.underlying82 ty5 rfl false rfl (by decide) (Uw Try.underlying5)) (by decide) (by kernel_rfl) (kr0 rfl)) (qsP (fun z=>WN z.E Za ld (lkb rfl hb140) rfl (kr0 rfl)) (qsP (fun z=>VD z.E Za ld rfl (kr0 rfl)) qs0))))))))) ?_
         ·intro a w u hE hM
          refine Zi ?_
          obtain rfl:=Option.some.inj hl137
          refine Zj ?_
          have hM:=M.fst (l:=[]) hM
          exact ⟨hE.sub ⟨rfl,trivial⟩,hM⟩
       ·skip
        rintro a w ⟨hE,hM⟩
        obtain rfl:=Option.some.inj hF138
        exact wp_ret (kr1 hE rfl rfl hM.kept)
def WO (p0 : Int) (p1 : Int) (p2 : Int) : Option (Bool) :=
 (if (decide (p0 ≥ p1)) = true then (some (decide (p0 ≤ p2))) else (some false) : Option (Bool)).bind fun j1=>some j1
theorem Tc (w0 : World) (p0 : Int) (p1 : Int) (p2 : Int) (r : Bool) (hF : WO p0 p1 p2 = some r) :
  Calls Try.prog 91 [vI p0,vI p1,vI p2].toArray w0 (Rt w0 (vT r)):=by
 refine ce Try.func91 ?_
 intro a hE
 have hM:=M.start w0
 unfold WO at hF
 refine Zb (Zc hE rfl fun a hE=>Ze ?_)
 obtain ⟨j1,hl2,hF3⟩:=bind_some hF
 refine ZB (fun a w=>Env 15 a [(6,vT j1)] ∧ M (Old w0) w0 w []) ?_ ?_
 ·skip
  refine wp_region_lit (Zd hE rfl fun a hE=>Zd hE rfl fun a hE=>Zl hE rfl rfl rfl fun a hE=>Zd hE rfl ?_); intro a hE
  refine YP (decide (p0 ≥ p1)) (fun hb4=>?_) (fun hb4=>?_)
  ·have hl2:=Zt hl2 hb4
   refine Zg hE (Zf hE rfl (lkb rfl hb4)) (by decide) rfl fun a hE=>Zg hE (Zf hE rfl (lkb rfl hb4)) (by decide) rfl fun a hE=>Z1 hE (Zf hE rfl (lkb rfl hb4)) (by decide) rfl rfl rfl fun a hE=>YY hE (lkb rfl hb4) rfl fun a hE=>Zc hE rfl fun a hE=>Zi ?_
   obtain rfl:=Option.some.inj hl2
   refine Zj ?_
   exact ⟨hE.sub ⟨rfl,trivial⟩,hM⟩
  ·have hl2:=Zs hl2 hb4
   refine Zm hE rfl (lkb rfl hb4) rfl (by decide) fun a hE=>Zm hE rfl (lkb rfl hb4) rfl (by decide) fun a hE=>Zm hE rfl (lkb rfl hb4) rfl (by decide) fun a hE=>YW hE (lkb rfl hb4) rfl fun a hE=>Zc hE rfl fun a hE=>Zi ?_
   obtain rfl:=Option.some.inj hl2
   refine Zj ?_
   exact ⟨hE.sub ⟨rfl,trivial⟩,hM⟩
 ·skip
  rintro a w ⟨hE,hM⟩
  obtain rfl:=Option.some.inj hF3
  exact wp_ret (kr1 hE rfl rfl hM.kept)
def ZY : Nat → (Vector UInt8 32) → Int → Int → (List (Vector UInt8 32)) → Option ((Vector UInt8 32) × Bool)
 | 0,_,_,_,_=>none
 | fu + 1,p0,p1,p2,p3=>if (p2 == 1) = true then (some (p0,(p3.length : Int) == 0)) else (if ((p3.length : Int) == 0) = true then (some ((Vector.replicate 32 (0 : UInt8)),false)) else ((idx p3 (wr ((p3.length : Int) - 1))).bind fun x10=>(slc p3 (0 : Int) (wr ((p3.length : Int) - 1))).bind fun l13=>(YI p2).bind fun r16=>if (decide (p1 < r16)) = true then ((ZY fu p0 p1 r16 l13).bind fun r25=>(Wo r25.1 x10).bind fun r29=>some (r29,r25.2)) else ((ZY fu p0 (wr (p1 - r16)) (wr (p2 - r16)) l13).bind fun r32=>(Wo x10 r32.1).bind fun r36=>some (r36,r32.2))))
theorem Um : ∀ (fu : Nat) (w0 : World) (p0 : (Vector UInt8 32)) (p1 : Int) (p2 : Int) (p3 : (List (Vector UInt8 32))) (v3_1 : Value) (hv3_1 : Ro w0 p3 [v3_1]) (r : (Vector UInt8 32) × Bool) (hF : ZY fu p0 p1 p2 p3 = some r),
  Calls Try.prog 173 [(Value.agg (enc p0).toArray),vI p1,vI p2,v3_1].toArray w0 (Rt w0 (Value.tuple [(Value.agg (enc r.1).toArray),vT r.2].toArray)):=by
 intro fu
 induction fu with
 | zero=>intros; rename_i hF; unfold ZY at hF; cases hF
 | succ fu ih =>
 have Um:=fun (_ : Nat)=>ih
 intro w0 p0 p1 p2 p3 v3_1 hv3_1 r hF
 refine ce Try.func173 ?_
 intro a hE
 have hM:=M.start w0
 unfold ZY at hF
 refine Zb (Z7 (cs:=enc p0) hE hM Za ld rfl rfl fun b1 w a hM hE=>Zv hE hM Zr fun b3 w a hM hE=>Zc hE rfl fun a hE=>Ze (wp_seq (Zb (Zd hE rfl fun a hE=>Zl hE rfl rfl rfl fun a hE=>Ze ?_))))
 refine Zq hE rfl ?_ ?_
 ·intro hb5
  have hF:=Zt hF hb5
  refine Zb (Zp hE rfl Zr rfl hM.rawAt1 (Flat.len _) fun a hE=>Zd hE rfl fun a hE=>Yq hE rfl Try.underlying80 (hM.rd hv3_1) fun a hE=>Zl hE rfl rfl rfl fun a hE=>Zk (seg:=enc p0) (cs':=enc p0) hE hM Za rfl rfl rfl Zr (Flat.len _) (zle flq) (Flat.cell _) (Zh flq) fun w a hM hE=>Zc hE rfl fun a hE=>Ze ?_)
  obtain rfl:=Option.some.inj hF
  have hq6 : Z6 Try.prog _ _ (.cell 8 82) _:=ZD hE rfl Zr rfl hM.rawAt0 (Flat.len _) rfl
  exact wp_ret (ZL (WR hE rfl hq6 (ZV hE rfl) ⟨_,rfl,rfl,hM.kept⟩))
 ·intro hb5
  have hF:=Zs hF hb5
  refine wp_skip (Zw (wp_seq (Zb (Zd hE rfl fun a hE=>Yq hE rfl Try.underlying80 (hM.rd hv3_1) fun a hE=>Zl hE rfl rfl rfl fun a hE=>Ze ?_))))
  refine Zq hE rfl ?_ ?_
  ·intro hb7
   have hF:=Zt hF hb7
   refine Zb (Yx (parts:=[]) (vs:=[]) (cs:=enc (Vector.replicate 32 (0 : UInt8))) hE Za ld rfl rfl Zr rfl ty5 Yk fun a hE=>Zk (seg:=enc (Vector.replicate 32 (0 : UInt8))) (cs':=enc (Vector.replicate 32 (0 : UInt8))) hE hM Za rfl rfl rfl Zr (Flat.len _) (zle flq) (Flat.cell _) (Zh flq) fun w a hM hE=>Zc hE rfl fun a hE=>Ze ?_)
   obtain rfl:=Option.some.inj hF
   have hq8 : Z6 Try.prog _ _ (.cell 8 82) _:=ZD hE rfl Zr rfl hM.rawAt0 (Flat.len _) rfl
   exact wp_ret (ZL (WR hE rfl hq8 (ZV hE rfl) ⟨_,rfl,rfl,hM.kept⟩))
  ·intro hb7
   have hF:=Zs hF hb7
   refine wp_skip (Zw (wp_seq ?_))
   obtain ⟨x10,hi12,hF⟩:=bix hF
   obtain ⟨l13,e14,hF⟩:=bind_some hF
   have h15 : Rep.sat (Old w0) w0 l13 [(ZO v3_1 ((0 : Int)).toNat ((wr ((p3.length : Int) - 1))).toNat 32)] []:=Yg hv3_1 e14 -- ^
   obtain ⟨r16,e17,hF⟩:=bind_some hF
   refine YV (its:=[raw b3 (enc (Vector.replicate 32 (0 : UInt8))),raw b1 (enc p0)]) (mk:=([mkC 13 14 (enc (Vector.replicate 32 (0 : UInt8))) (enc x10)] : Mk)) [27,28,29,30,31,32,33,34,35,36,37,38,39,10,85] Yr rfl rfl (by decide) rfl hE (fun u=>M.qE (M.q0 hM.drew u) emC) (qsP (fun z=>Zg z.E Za ld rfl (kr0 rfl)) (qsP (fun z=>Zg z.E Za ld rfl (kr0 rfl)) (qsP (v:=(vI (p3.length : Int))) ?_ (qsP (v:=(vI (wr ((p3.length : Int) - 1)))) (fun z=>Z1 z.E Za ld rfl rfl rfl (kr0 rfl)) (qsP (v:=(ptr (sb v3_1) (so v3_1 + ((wr ((p3.length : Int) - 1))).toNat * 32))) ?_ (qsP (v:=(Value.agg (enc x10).toArray)) ?_ (qsP (fun z=>Zg z.E Za ld rfl (kr0 rfl)) (qsP (fun z=>Zg z.E Za ld rfl (kr0 rfl)) (qsP (v:=(vI (p3.length : Int))) ?_ (qsP (v:=(vI (wr ((p3.length : Int) - 1)))) (fun z=>Z1 z.E Za ld rfl rfl rfl (kr0 rfl)) (qsP (v:=(ZO v3_1 ((0 : Int)).toNat ((wr ((p3.length : Int) - 1))).toNat 32)) ?_ (qsP (fun z=>Zg z.E Za ld rfl (kr0 rfl)) (qsP (fun z=>ZX z.E Za ld rfl yO (Tm _ p2 r16 e17) (kc rfl)) (qsM (pr:=fun v=>True) ?_ (qsM (pr:=fun v=>True) ?_ qs0))))))))))))))) ?_
   ·intro a w ux9 D z
    have hE:=z.E
    have hM:=z.M
    exact Yq hE rfl Try.underlying80 (hM.rd hv3_1) fun a hE=>⟨Kept.refl _ _,_,rfl,hE⟩
   ·intro a w ux9 D z
    have hE:=z.E
    have hM:=z.M
    exact Wx hE rfl rfl Try.underlying80 Zr (hM.rd hv3_1) hi12.1 fun a hE=>⟨Kept.refl _ _,_,rfl,hE⟩
   ·intro a w ux9 D z
    have hE:=z.E
    have hM:=z.M
    exact Zp hE rfl Zr rfl (YA (hM.rd hv3_1) hi12.2) (Flat.len _) fun a hE=>⟨Kept.refl _ _,_,rfl,hE⟩
   ·intro a w ux9 D z
    have hE:=z.E
    have hM:=z.M
    exact Yq hE rfl Try.underlying80 (hM.rd hv3_1) fun a hE=>⟨Kept.refl _ _,_,rfl,hE⟩
   ·intro a w ux9 D z
    have hE:=z.E
    have hM:=z.M
    exact WK hE Za ld rfl rfl (XR rfl) rfl rfl Try.underlying80 Zr (hM.rd hv3_1) e14 fun a hE=>⟨Kept.refl _ _,_,rfl,hE⟩
   ·intro a w ux9 D z
    have hE:=z.E
    have hD : D 13 = false:=z.F
    have hM:=z.M
    refine Zv hE hM Zr ?_; intro b18 w a hM hE
    have hs : D 14 = false:=Kv (j:=14) (k:=0) z.c rfl rfl rfl hD
    exact ⟨_,_,rfl,hE,M.qAlloc (mk1:=[]) (mk2:=[]) hM rfl hD hs (by decide),trivial⟩
   ·intro a w ux9 D z
    have hE:=z.E
    have hD : D 14 = false:=z.F
    have d13 : D 13 = true:=z.p 0 _ rfl rfl
    have hM:=z.M
    obtain ⟨b20,hb21,hM⟩:=M.openCellF (pre:=[_,_]) hM d13 hD
    exact Zk (seg:=enc x10) (cs':=enc x10) hE hM Za (lk rfl hb21) rfl rfl Zr (Flat.len _) (zle flq) (Flat.cell _) (Zh flq) fun w a hM hE=>⟨undef,_,rfl,Env.dummy hE (by decide),M.qStore (i:=13) (mk1:=[]) (mk2:=[]) hM rfl d13 hb21 (by decide),trivial⟩
   ·intro a w ux9 D hE hM hG hall
    have d13:=hall 13 (by decide)
    have d14:=hall 14 (by decide)
    obtain ⟨b22,f23,hM⟩:=M.openCellT (pre:=[_,_]) hM d13 d14
    have hE:=hE.setq (t:=10) rfl f23
    refine Zc hE rfl fun a hE=>Zc hE rfl fun a hE=>Zi (Zw (wp_seq (Zb (Zd hE rfl fun a hE=>Zd hE rfl fun a hE=>Zl hE rfl rfl rfl fun a hE=>Ze ?_))))
    refine Zq hE rfl ?_ ?_
    ·intro hb24
     have hF:=Zt hF hb24
     refine Zb (Zp hE rfl Zr rfl hM.rawAt2 (Flat.len _) fun a hE=>Zd hE rfl fun a hE=>Zd hE rfl fun a hE=>Zd hE rfl ?_); intro a hE
     obtain ⟨r25,e26,hF⟩:=bind_some hF
     refine Zy hE rfl yy (Um fu _ p0 p1 r16 l13 (ZO v3_1 ((0 : Int)).toNat ((wr ((p3.length : Int) - 1))).toNat 32) (hM.rdo h15) r25 e26) ?_
     rintro v w a ⟨rfl,hK⟩ hE
     have hM:=hM.keep hK
     refine Zd hE rfl fun a hE=>ZZ hE Za ld rfl rfl fun a hE=>ZZ hE Za ld rfl rfl fun a hE=>Zv hE hM Zr fun b27 w a hM hE=>Zk (seg:=enc r25.1) (cs':=enc r25.1) hE hM Za rfl rfl rfl Zr (Flat.len _) (zle flq) (Flat.cell _) (Zh flq) fun w a hM hE=>Zc hE rfl fun a hE=>Ze (Zb (Zp hE rfl Zr rfl hM.rawAt0 (Flat.len _) fun a hE=>Zp hE rfl Zr rfl hM.rawAt1 (Flat.len _) ?_)); intro a hE
     obtain ⟨r29,e30,hF⟩:=bind_some hF
     refine Zy hE rfl jl (Tv _ r25.1 x10 r29 e30) ?_
     rintro v w a ⟨rfl,hK⟩ hE
     have hM:=hM.keep hK
     refine Zd hE rfl ?_; intro a hE
     have hM:=hM.pull2
     refine Zk (seg:=enc r29) (cs':=enc r29) hE hM Za rfl rfl rfl Zr (Flat.len _) (zle flq) (Flat.cell _) (Zh flq) fun w a hM hE=>Zc hE rfl fun a hE=>Ze ?_
     obtain rfl:=Option.some.inj hF
     have hq31 : Z6 Try.prog _ _ (.cell 8 82) _:=ZD hE rfl Zr rfl hM.rawAt0 (Flat.len _) rfl
     exact wp_ret (ZL (WR hE rfl hq31 (ZV hE rfl) ⟨_,rfl,rfl,hM.kept⟩))
    ·intro hb24
     have hF:=Zs hF hb24
     refine wp_skip (Zw (Zb (Zp hE rfl Zr rfl hM.rawAt2 (Flat.len _) fun a hE=>Zd hE rfl fun a hE=>Zd hE rfl fun a hE=>Zl hE rfl rfl rfl fun a hE=>Zd hE rfl fun a hE=>Zd hE rfl fun a hE=>Zl hE rfl rfl rfl fun a hE=>Zd hE rfl ?_))); intro a hE
     obtain ⟨r32,e33,hF⟩:=bind_some hF
     refine Zy hE rfl yy (Um fu _ p0 (wr (p1 - r16)) (wr (p2 - r16)) l13 (ZO v3_1 ((0 : Int)).toNat ((wr ((p3.length : Int) - 1))).toNat 32) (hM.rdo h15) r32 e33) ?_
     rintro v w a ⟨rfl,hK⟩ hE
     have hM:=hM.keep hK
     refine Zd hE rfl fun a hE=>ZZ hE Za ld rfl rfl fun a hE=>ZZ hE Za ld rfl rfl fun a hE=>Zv hE hM Zr fun b34 w a hM hE=>Zk (seg:=enc r32.1) (cs':=enc r32.1) hE hM Za rfl rfl rfl Zr (Flat.len _) (zle flq) (Flat.cell _) (Zh flq) fun w a hM hE=>Zc hE rfl fun a hE=>Ze (Zb (Zp hE rfl Zr rfl hM.rawAt1 (Flat.len _) fun a hE=>Zp hE rfl Zr rfl hM.rawAt0 (Flat.len _) ?_)); intro a hE
     obtain ⟨r36,e37,hF⟩:=bind_some hF
     refine Zy hE rfl jl (Tv _ x10 r32.1 r36 e37) ?_
     rintro v w a ⟨rfl,hK⟩ hE
     have hM:=hM.keep hK
     refine Zd hE rfl ?_; intro a hE
     have hM:=hM.pull2
     refine Zk (seg:=enc r36) (cs':=enc r36) hE hM Za rfl rfl rfl Zr (Flat.len _) (zle flq) (Flat.cell _) (Zh flq) fun w a hM hE=>Zc hE rfl fun a hE=>Ze ?_
     obtain rfl:=Option.some.inj hF
     have hq38 : Z6 Try.prog _ _ (.cell 8 82) _:=ZD hE rfl Zr rfl hM.rawAt0 (Flat.len _) rfl
     exact wp_ret (WR hE rfl hq38 (ZV hE rfl) ⟨_,rfl,rfl,hM.kept⟩)
def Vr (p0 : (Vector UInt8 32)) (p1 : (Vector UInt8 32)) (p2 : Int) (p3 : Int) (p4 : (List (Vector UInt8 32))) : Option (Bool) :=
 ((WO p3 1 64).bind fun r8=>if (!r8) = true then (some true) else ((WO p2 0 (wr (p3 - 1))).bind fun r12=>if (!r12) = true then (some true) else (some (decide ((p4.length : Int) > 10)))) : Option (Bool)).bind fun j5=>if j5 = true then (some false) else ((ZY 64 p1 p2 p3 p4).bind fun r18=>(if r18.2 = true then (some (decide (r18.1 = p0))) else (some false) : Option (Bool)).bind fun j22=>some j22)
theorem Jp (w0 : World) (p0 : (Vector UInt8 32)) (p1 : (Vector UInt8 32)) (p2 : Int) (p3 : Int) (p4 : (List (Vector UInt8 32))) (v4_1 : Value) (hv4_1 : Ro w0 p4 [v4_1]) (r : Bool) (hF : Vr p0 p1 p2 p3 p4 = some r) :
  Calls Try.prog 117 [(Value.agg (enc p0).toArray),(Value.agg (enc p1).toArray),vI p2,vI p3,v4_1].toArray w0 (Rt w0 (vT r)):=by
 refine ce Try.func117 ?_
 intro a hE
 have hM:=M.start w0
 unfold Vr at hF
 refine Zb (Z7 (cs:=enc p0) hE hM Za ld rfl rfl fun b1 w a hM hE=>Z7 (cs:=enc p1) hE hM Za ld rfl rfl fun b3 w a hM hE=>Zc hE rfl fun a hE=>Ze (wp_seq ?_))
 obtain ⟨j5,hl6,hF7⟩:=bind_some hF
 refine ZB (fun a w=>Env 42 a [(2,vI p2),(3,vI p3),(4,v4_1),(5,(ptr b1 0)),(6,(ptr b3 0)),(27,vT j5)] ∧ M (Old w0) w0 w [raw b3 (enc p1),raw b1 (enc p0)]) ?_ ?_
 ·skip
  refine wp_region_lit (Zd hE rfl ?_); intro a hE
  obtain ⟨r8,e9,hl6⟩:=bind_some hl6
  refine Zy hE rfl cb91 (Tc _ p3 1 64 r8 e9) ?_
  rintro v w a ⟨rfl,hK⟩ hE
  have hM:=hM.keep hK
  refine zx hE rfl fun a hE=>Zd hE rfl ?_; intro a hE
  refine YP (!r8) (fun hb10=>?_) (fun hb10=>?_)
  ·have hl6:=Zt hl6 hb10
   refine Zm hE rfl (lkb rfl hb10) rfl (by decide) fun a hE=>Zm hE rfl (lkb rfl hb10) rfl (by decide) fun a hE=>Zm hE rfl (lkb rfl hb10) rfl (by decide) fun a hE=>Zm hE rfl (lkb rfl hb10) rfl (by decide) fun a hE=>Zm hE rfl (lkb rfl hb10) rfl (by decide) fun a hE=>YY hE (lkb rfl hb10) rfl fun a hE=>Zd hE rfl fun a hE=>Zm hE rfl rfl rfl (by decide) fun a hE=>Zm hE rfl rfl rfl (by decide) fun a hE=>Zm hE rfl rfl rfl (by decide) fun a hE=>YY hE rfl rfl fun a hE=>Zi ?_
   obtain rfl:=Option.some.inj hl6
   refine Zj ?_
   exact ⟨hE.sub ⟨rfl,rfl,rfl,rfl,rfl,rfl,trivial⟩,hM⟩
  ·have hl6:=Zs hl6 hb10
   refine Zg hE (Zf hE rfl (lkb rfl hb10)) (by decide) rfl fun a hE=>Zg hE (Zf hE rfl (lkb rfl hb10)) (by decide) rfl fun a hE=>Z1 hE (Zf hE rfl (lkb rfl hb10)) (by decide) rfl rfl rfl ?_; intro a hE
   obtain ⟨r12,e13,hl6⟩:=bind_some hl6
   refine ZX hE (Zf hE rfl (lkb rfl hb10)) (by decide) rfl cb91 (Tc _ p2 0 (wr (p3 - 1)) r12 e13) ?_
   rintro v w a ⟨rfl,hK⟩ hE
   have hM:=hM.keep hK
   refine UY hE (Zf hE rfl (lkb rfl hb10)) (by decide) rfl fun a hE=>YW hE (lkb rfl hb10) rfl fun a hE=>Zd hE rfl ?_; intro a hE
   refine YP (!r12) (fun hb14=>?_) (fun hb14=>?_)
   ·have hl6:=Zt hl6 hb14
    refine Zm hE rfl (lkb rfl hb14) rfl (by decide) fun a hE=>Zm hE rfl (lkb rfl hb14) rfl (by decide) fun a hE=>Zm hE rfl (lkb rfl hb14) rfl (by decide) fun a hE=>YY hE (lkb rfl hb14) rfl fun a hE=>Zi ?_
    obtain rfl:=Option.some.inj hl6
    refine Zj ?_
    exact ⟨hE.sub ⟨rfl,rfl,rfl,rfl,rfl,rfl,trivial⟩,hM⟩
   ·have hl6:=Zs hl6 hb14
    refine Zg hE (Zf hE rfl (lkb rfl hb14)) (by decide) rfl fun a hE=>T4 hE (Zf hE rfl (lkb rfl hb14)) (by decide) rfl Try.underlying80 (hM.rd hv4_1) fun a hE=>Z1 hE (Zf hE rfl (lkb rfl hb14)) (by decide) rfl rfl rfl fun a hE=>YW hE (lkb rfl hb14) rfl fun a hE=>Zi ?_
    obtain rfl:=Option.some.inj hl6
    refine Zj ?_
    exact ⟨hE.sub ⟨rfl,rfl,rfl,rfl,rfl,rfl,trivial⟩,hM⟩
 ·skip
  rintro a w ⟨hE,hM⟩
  refine Zq hE rfl ?_ ?_
  ·intro hb17
   have hF7:=Zt hF7 hb17
   refine Zb (Zc hE rfl fun a hE=>Ze ?_)
   obtain rfl:=Option.some.inj hF7
   exact wp_ret (ZL (kr1 hE rfl rfl hM.kept))
  ·intro hb17
   have hF7:=Zs hF7 hb17
   refine wp_skip (Zw (Zb (Zp hE rfl Zr rfl hM.rawAt0 (Flat.len _) fun a hE=>Zd hE rfl fun a hE=>Zd hE rfl fun a hE=>Zd hE rfl ?_))); intro a hE
   obtain ⟨r18,e19,hF7⟩:=bind_some hF7
   refine Zy hE rfl yy (Um 64 _ p1 p2 p3 p4 v4_1 (hM.rdo hv4_1) r18 e19) ?_
   rintro v w a ⟨rfl,hK⟩ hE
   have hM:=hM.keep hK
   refine Zd hE rfl fun a hE=>ZZ hE Za ld rfl rfl fun a hE=>ZZ hE Za ld rfl rfl fun a hE=>Zv hE hM Zr fun b20 w a hM hE=>Zk (seg:=enc r18.1) (cs':=enc r18.1) hE hM Za rfl rfl rfl Zr (Flat.len _) (zle flq) (Flat.cell _) (Zh flq) fun w a hM hE=>Zc hE rfl fun a hE=>Ze ?_
   obtain ⟨j22,hl23,hF24⟩:=bind_some hF7
   refine ZB (fun a w=>Env 42 a [(10,vT j22)] ∧ M (Old w0) w0 w []) ?_ ?_
   ·skip
    refine wp_region_lit (Zd hE rfl fun a hE=>Zd hE rfl ?_); intro a hE
    refine YP r18.2 (fun hb25=>?_) (fun hb25=>?_)
    ·have hl23:=Zt hl23 hb25
     refine ZA hE (Zf hE rfl (lkb rfl hb25)) (by decide) rfl Zr rfl hM.rawAt0 (Flat.len _) fun a hE=>ZA hE (Zf hE rfl (lkb rfl hb25)) (by decide) rfl Zr rfl hM.rawAt2 (Flat.len _) fun a hE=>Aw hE (Zf hE rfl (lkb rfl hb25)) (by decide) rfl rfl (U4 Try.underlying82 ty5 rfl false rfl (by decide) (Uw Try.underlying5)) (by decide) (by kernel_rfl) fun a hE=>YY hE (lkb rfl hb25) rfl fun a hE=>Zc hE rfl fun a hE=>Zi ?_
     obtain rfl:=Option.some.inj hl23
     refine Zj ?_
     have hM:=M.fst (l:=[]) hM
     exact ⟨hE.sub ⟨rfl,trivial⟩,hM⟩
    ·have hl23:=Zs hl23 hb25
     refine Zm hE rfl (lkb rfl hb25) rfl (by decide) fun a hE=>Zm hE rfl (lkb rfl hb25) rfl (by decide) fun a hE=>Zm hE rfl (lkb rfl hb25) rfl (by decide) fun a hE=>YW hE (lkb rfl hb25) rfl fun a hE=>Zc hE rfl fun a hE=>Zi ?_
     obtain rfl:=Option.some.inj hl23
     refine Zj ?_
     have hM:=M.fst (l:=[]) hM
     exact ⟨hE.sub ⟨rfl,trivial⟩,hM⟩
   ·skip
    rintro a w ⟨hE,hM⟩
    obtain rfl:=Option.some.inj hF24
    exact wp_ret (kr1 hE rfl rfl hM.kept)
def YX (p0 : (Vector UInt8 32)) (p1 : Int) (p2 : (Vector UInt8 32)) (p3 : GAbsence) (s34 : Int × Int) : Option (Fl (Int × Int) (Fl Int Bool)) :=
 (if (decide (s34.1 ≤ p3.Place)) = true then (some (decide (s34.1 < p1))) else (some false) : Option (Bool)).bind fun j38=>if j38 = true then ((if (decide (s34.2 ≥ (p3.Neighbours.length : Int))) = true then (some true) else ((idx p3.Neighbours s34.2).bind fun x51=>(idx p3.Proofs s34.2).bind fun x54=>(Vr p0 x51 s34.1 p1 x54).bind fun r62=>some (!r62)) : Option (Bool)).bind fun j45=>if j45 = true then (some (Fl.ex (Fl.ex false))) else ((if (decide (s34.1 < p3.Place)) = true then ((idx p3.Neighbours s34.2).bind fun x72=>(Y3 x72 p2).bind fun r75=>if (!r75) = true then (some true) else (if (s34.1 == p3.Place) = true then ((idx p3.Neighbours s34.2).bind fun x80=>(Y3 p2 x80).bind fun r83=>some (!r83)) else (some false))) else (if (s34.1 == p3.Place) = true then ((idx p3.Neighbours s34.2).bind fun x88=>(Y3 p2 x88).bind fun r91=>some (!r91)) else (some false)) : Option (Bool)).bind fun j67=>if j67 = true then (some (Fl.ex (Fl.ex false))) else (some (Fl.nx (wr (s34.1 + 1),wr (s34.2 + 1)))))) else (some (Fl.ex (Fl.nx s34.2)))
def Va (p0 : (Vector UInt8 32)) (p1 : Int) (p2 : (Vector UInt8 32)) (p3 : GAbsence) : Option (Bool) :=
 ((WO p1 0 64).bind fun r10=>if (!r10) = true then (some true) else ((WO p3.Place 0 p1).bind fun r14=>if (!r14) = true then (some true) else (some ((p3.Neighbours.length : Int) != (p3.Proofs.length : Int)))) : Option (Bool)).bind fun j7=>if j7 = true then (some false) else ((if (p1 == 0) = true then ((Xx ([] : (List UInt8))).bind fun r25=>some (!decide (p0 = r25))) else (some false) : Option (Bool)).bind fun j20=>if j20 = true then (some false) else ((ZF (YX p0 p1 p2 p3) ((if (wr (p3.Place - 1)) > 0 then (wr (p3.Place - 1)) else 0),0)).bind fun j30=>j30.el (fun s33=>some (s33 == (p3.Neighbours.length : Int))) (fun r=>some r)))
theorem K0 (w0 : World) (p0 : (Vector UInt8 32)) (p1 : Int) (p2 : (Vector UInt8 32)) (p3 : GAbsence) (v3_1 : Value) (hv3_1 : Ro w0 p3.Neighbours [v3_1]) (v3_2 : Value) (hv3_2 : Ro w0 p3.Proofs [v3_2]) (r : Bool) (hF : Va p0 p1 p2 p3 = some r) :
  Calls Try.prog 45 [(Value.agg (enc p0).toArray),vI p1,(Value.agg (enc p2).toArray),(Value.agg (cat [[vI p3.Place],[v3_1],[v3_2]]).toArray)].toArray w0 (Rt w0 (vT r)):=by
 refine ce Try.func45 ?_
 intro a hE
 have hM:=M.start w0
 unfold Va at hF
 refine Zb (Z7 (cs:=enc p0) hE hM Za ld rfl rfl fun b1 w a hM hE=>Z7 (cs:=enc p2) hE hM Za ld rfl rfl fun b3 w a hM hE=>Z7 (cs:=cat [[vI p3.Place],[v3_1],[v3_2]]) hE hM Za ld rfl rfl fun b5 w a hM hE=>Zc hE rfl fun a hE=>Ze (wp_seq ?_))
 obtain ⟨j7,hl8,hF9⟩:=bind_some hF
 refine ZB (fun a w=>Env 111 a [(1,vI p1),(4,(ptr b1 0)),(6,(ptr b3 0)),(7,(ptr b5 0)),(29,vT j7)] ∧ M (Old w0) w0 w [raw b5 (cat [[vI p3.Place],[v3_1],[v3_2]]),raw b3 (enc p2),raw b1 (enc p0)]) ?_ ?_
 ·skip
  refine wp_region_lit (Zd hE rfl ?_); intro a hE
  obtain ⟨r10,e11,hl8⟩:=bind_some hl8
  refine Zy hE rfl cb91 (Tc _ p1 0 64 r10 e11) ?_
  rintro v w a ⟨rfl,hK⟩ hE
  have hM:=hM.keep hK
  refine zx hE rfl fun a hE=>Zd hE rfl ?_; intro a hE
  refine YP (!r10) (fun hb12=>?_) (fun hb12=>?_)
  ·have hl8:=Zt hl8 hb12
   refine Zm hE rfl (lkb rfl hb12) rfl (by decide) fun a hE=>Zm hE rfl (lkb rfl hb12) rfl (by decide) fun a hE=>Zm hE rfl (lkb rfl hb12) rfl (by decide) fun a hE=>Zm hE rfl (lkb rfl hb12) rfl (by decide) fun a hE=>Zm hE rfl (lkb rfl hb12) rfl (by decide) fun a hE=>YY hE (lkb rfl hb12) rfl fun a hE=>Zd hE rfl fun a hE=>Zm hE rfl rfl rfl (by decide) fun a hE=>Zm hE rfl rfl rfl (by decide) fun a hE=>Zm hE rfl rfl rfl (by decide) fun a hE=>Zm hE rfl rfl rfl (by decide) fun a hE=>Zm hE rfl rfl rfl (by decide) ?_; intro a hE
   refine Zm hE rfl rfl rfl (by decide) fun a hE=>Zm hE rfl rfl rfl (by decide) fun a hE=>YY hE rfl rfl fun a hE=>Zi ?_
   obtain rfl:=Option.some.inj hl8
   refine Zj ?_
   exact ⟨hE.sub ⟨rfl,rfl,rfl,rfl,rfl,trivial⟩,hM⟩
  ·have hl8:=Zs hl8 hb12
   refine Zo hE (Zf hE rfl (lkb rfl hb12)) (by decide) rfl (Xv) fun a hE=>ZN (v:=(vI p3.Place)) hE (Zf hE rfl (lkb rfl hb12)) (by decide) rfl ty2 rfl (At.cat (pre:=[]) hM.rawAt0 cl0) fun a hE=>Zg hE (Zf hE rfl (lkb rfl hb12)) (by decide) rfl ?_; intro a hE
   obtain ⟨r14,e15,hl8⟩:=bind_some hl8
   refine ZX hE (Zf hE rfl (lkb rfl hb12)) (by decide) rfl cb91 (Tc _ p3.Place 0 p1 r14 e15) ?_
   rintro v w a ⟨rfl,hK⟩ hE
   have hM:=hM.keep hK
   refine UY hE (Zf hE rfl (lkb rfl hb12)) (by decide) rfl fun a hE=>YW hE (lkb rfl hb12) rfl fun a hE=>Zd hE rfl ?_; intro a hE
   refine YP (!r14) (fun hb16=>?_) (fun hb16=>?_)
   ·have hl8:=Zt hl8 hb16
    refine Zm hE rfl (lkb rfl hb16) rfl (by decide) fun a hE=>Zm hE rfl (lkb rfl hb16) rfl (by decide) fun a hE=>Zm hE rfl (lkb rfl hb16) rfl (by decide) fun a hE=>Zm hE rfl (lkb rfl hb16) rfl (by decide) fun a hE=>Zm hE rfl (lkb rfl hb16) rfl (by decide) fun a hE=>Zm hE rfl (lkb rfl hb16) rfl (by decide) fun a hE=>Zm hE rfl (lkb rfl hb16) rfl (by decide) fun a hE=>YY hE (lkb rfl hb16) rfl fun a hE=>Zi ?_
    obtain rfl:=Option.some.inj hl8
    refine Zj ?_
    exact ⟨hE.sub ⟨rfl,rfl,rfl,rfl,rfl,trivial⟩,hM⟩
   ·have hl8:=Zs hl8 hb16
    refine Zo hE (Zf hE rfl (lkb rfl hb16)) (by decide) rfl (WA) fun a hE=>ZN (v:=v3_1) hE (Zf hE rfl (lkb rfl hb16)) (by decide) rfl VT rfl (At.cat (pre:=[[vI p3.Place]]) hM.rawAt0 ck) fun a hE=>T4 hE (Zf hE rfl (lkb rfl hb16)) (by decide) rfl Try.underlying80 (hM.rd hv3_1) fun a hE=>Zo hE (Zf hE rfl (lkb rfl hb16)) (by decide) rfl (UV) fun a hE=>ZN (v:=v3_2) hE (Zf hE rfl (lkb rfl hb16)) (by decide) rfl Kt rfl (At.cat (pre:=[[vI p3.Place],[v3_1]]) hM.rawAt0 ck) fun a hE=>T4 hE (Zf hE rfl (lkb rfl hb16)) (by decide) rfl Try.underlying85 (hM.rd hv3_2) fun a hE=>Z1 hE (Zf hE rfl (lkb rfl hb16)) (by decide) rfl rfl rfl fun a hE=>YW hE (lkb rfl hb16) rfl fun a hE=>Zi ?_
    obtain rfl:=Option.some.inj hl8
    refine Zj ?_
    exact ⟨hE.sub ⟨rfl,rfl,rfl,rfl,rfl,trivial⟩,hM⟩
 ·skip
  rintro a w ⟨hE,hM⟩
  refine Zq hE rfl ?_ ?_
  ·intro hb19
   have hF9:=Zt hF9 hb19
   refine Zb (Zc hE rfl fun a hE=>Ze ?_)
   obtain rfl:=Option.some.inj hF9
   exact wp_ret (ZL (kr1 hE rfl rfl hM.kept))
  ·intro hb19
   have hF9:=Zs hF9 hb19
   refine wp_skip (Zw (wp_seq ?_))
   obtain ⟨j20,hl21,hF22⟩:=bind_some hF9
   refine ZB (fun a w=>Env 111 a [(1,vI p1),(4,(ptr b1 0)),(6,(ptr b3 0)),(7,(ptr b5 0)),(36,vT j20)] ∧ M (Old w0) w0 w [raw b5 (cat [[vI p3.Place],[v3_1],[v3_2]]),raw b3 (enc p2),raw b1 (enc p0)]) ?_ ?_
   ·skip
    refine YP (p1 == 0) (fun hb24=>?_) (fun hb24=>?_)
    ·have hl21:=Zt hl21 hb24
     obtain ⟨r25,e26,hl21⟩:=bind_some hl21
     refine ZP [30,31,32,33,34,35,36] Yr rfl rfl (by decide) rfl hE hM (qsP (fun z=>Zg z.E Za ld rfl (kr0 rfl)) (qsP (fun z=>Z1 z.E Za ld rfl rfl rfl (kr0 rfl)) (qsP (fun z=>Zg z.E Za ld rfl (kr0 rfl)) (qsP (fun z=>ZA z.E (Zf z.E rfl (lkb rfl hb24)) (by decide) rfl Zr rfl (z.M.rawAt2) (Flat.len _) (kr0 rfl)) (qsP (fun z=>ZX z.E (Zf z.E rfl (lkb rfl hb24)) (by decide) rfl jj (UR _ ([] : (List UInt8)) (Value.slice none 0 0) J3 r25 e26) (kc rfl)) (qsP (fun z=>jo z.E (Zf z.E rfl (lkb rfl hb24)) (by decide) rfl rfl (U4 Try.underlying82 ty5 rfl false rfl (by decide) (Uw Try.underlying5)) (by decide) (by kernel_rfl) (kr0 rfl)) (qsP (fun z=>Vo z.E Za ld (lkb rfl hb24) rfl (kr0 rfl)) qs0))))))) ?_
     ·intro a w u hE hM
      refine Zi ?_
      obtain rfl:=Option.some.inj hl21
      refine Zj ?_
      exact ⟨hE.sub ⟨rfl,rfl,rfl,rfl,rfl,trivial⟩,hM⟩
    ·have hl21:=Zs hl21 hb24
     refine ZP [30,31,32,33,34,35,36] Yr rfl rfl (by decide) rfl hE hM (qsP (fun z=>Zg z.E Za ld rfl (kr0 rfl)) (qsP (fun z=>Z1 z.E Za ld rfl rfl rfl (kr0 rfl)) (qsP (fun z=>Zg z.E Za ld rfl (kr0 rfl)) (qsP (fun z=>Zm z.E rfl (lkb rfl hb24) rfl (by decide) (kr0 rfl)) (qsP (fun z=>Zm z.E rfl (lkb rfl hb24) rfl (by decide) (kr0 rfl)) (qsP (fun z=>Zm z.E rfl (lkb rfl hb24) rfl (by decide) (kr0 rfl)) (qsP (fun z=>WN z.E Za ld (lkb rfl hb24) rfl (kr0 rfl)) qs0))))))) ?_
     ·intro a w u hE hM
      refine Zi ?_
      obtain rfl:=Option.some.inj hl21
      refine Zj ?_
      exact ⟨hE.sub ⟨rfl,rfl,rfl,rfl,rfl,trivial⟩,hM⟩
   ·skip
    rintro a w ⟨hE,hM⟩
    refine Zq hE rfl ?_ ?_
    ·intro hb29
     have hF22:=Zt hF22 hb29
     refine Zb (Zc hE rfl fun a hE=>Ze ?_)
     obtain rfl:=Option.some.inj hF22
     exact wp_ret (ZL (kr1 hE rfl rfl hM.kept))
    ·intro hb29
     have hF22:=Zs hF22 hb29
     refine wp_skip (Zw (Zb (Zc hE rfl fun a hE=>Ze (wp_seq (Zb (ZJ hE rfl (Xv) fun a hE=>ZQ (v:=(vI p3.Place)) hE rfl ty2 rfl (At.cat (pre:=[]) hM.rawAt0 cl0) fun a hE=>Zl hE rfl rfl rfl fun a hE=>s_max hE Za ld rfl rfl fun a hE=>Zc hE rfl fun a hE=>Ze ?_))))))
     obtain ⟨j30,hl31,hF32⟩:=bind_some hF22
     refine ZW (fun a w=>∃ s33 : Int,j30 = Fl.nx s33 ∧ Env 111 a [(7,(ptr b5 0)),(9,vI s33)] ∧ M (Old w0) w0 w [raw b5 (cat [[vI p3.Place],[v3_1],[v3_2]])]) ?_ ?_
     ·skip
      refine wp_block ?_
      refine ZM (fun (s34 : Int × Int) a w=>Env 111 a [(1,vI p1),(4,(ptr b1 0)),(6,(ptr b3 0)),(7,(ptr b5 0)),(9,vI s34.2),(10,vI s34.1)] ∧ M (Old w0) w0 w [raw b5 (cat [[vI p3.Place],[v3_1],[v3_2]]),raw b3 (enc p2),raw b1 (enc p0)]) hl31 ⟨hE.sub ⟨rfl,rfl,rfl,rfl,rfl,rfl,trivial⟩,hM⟩ ?_
      rintro s34 a w ⟨hE,hM⟩ o37 hs35 hx36
      unfold YX at hs35
      refine wp_seq ?_
      obtain ⟨j38,hl39,hF40⟩:=bind_some hs35
      refine ZB (fun a w=>Env 111 a [(1,vI p1),(4,(ptr b1 0)),(6,(ptr b3 0)),(7,(ptr b5 0)),(9,vI s34.2),(10,vI s34.1),(49,vT j38)] ∧ M (Old w0) w0 w [raw b5 (cat [[vI p3.Place],[v3_1],[v3_2]]),raw b3 (enc p2),raw b1 (enc p0)]) ?_ ?_
      ·skip
       refine wp_region_lit (Zd hE rfl fun a hE=>ZJ hE rfl (Xv) fun a hE=>ZQ (v:=(vI p3.Place)) hE rfl ty2 rfl (At.cat (pre:=[]) hM.rawAt0 cl0) fun a hE=>Zl hE rfl rfl rfl fun a hE=>Zd hE rfl ?_); intro a hE
       refine YP (decide (s34.1 ≤ p3.Place)) (fun hb41=>?_) (fun hb41=>?_)
       ·have hl39:=Zt hl39 hb41
        refine Zg hE (Zf hE rfl (lkb rfl hb41)) (by decide) rfl fun a hE=>Zg hE (Zf hE rfl (lkb rfl hb41)) (by decide) rfl fun a hE=>Z1 hE (Zf hE rfl (lkb rfl hb41)) (by decide) rfl rfl rfl fun a hE=>YY hE (lkb rfl hb41) rfl fun a hE=>Zi ?_
        obtain rfl:=Option.some.inj hl39
        refine Zj ?_
        exact ⟨hE.sub ⟨rfl,rfl,rfl,rfl,rfl,rfl,rfl,trivial⟩,hM⟩
       ·have hl39:=Zs hl39 hb41
        refine Zm hE rfl (lkb rfl hb41) rfl (by decide) fun a hE=>Zm hE rfl (lkb rfl hb41) rfl (by decide) fun a hE=>Zm hE rfl (lkb rfl hb41) rfl (by decide) fun a hE=>YW hE (lkb rfl hb41) rfl fun a hE=>Zi ?_
        obtain rfl:=Option.some.inj hl39
        refine Zj ?_
        exact ⟨hE.sub ⟨rfl,rfl,rfl,rfl,rfl,rfl,rfl,trivial⟩,hM⟩
      ·skip
       rintro a w ⟨hE,hM⟩
       refine Zq hE rfl ?_ ?_
       ·intro hb44
        have hF40:=Zt hF40 hb44
        refine wp_skip (Zw (wp_seq (wp_block (wp_seq ?_))))
        obtain ⟨j45,hl46,hF47⟩:=bind_some hF40
        refine ZB (fun a w=>Env 111 a [(1,vI p1),(4,(ptr b1 0)),(6,(ptr b3 0)),(7,(ptr b5 0)),(9,vI s34.2),(10,vI s34.1),(73,vT j45)] ∧ M (Old w0) w0 w [raw b5 (cat [[vI p3.Place],[v3_1],[v3_2]]),raw b3 (enc p2),raw b1 (enc p0)]) ?_ ?_
        ·skip
         refine YP (decide (s34.2 ≥ (p3.Neighbours.length : Int))) (fun hb49=>?_) (fun hb49=>?_)
         ·have hl46:=Zt hl46 hb49
          refine ZP [52,53,54,55,56,57,58,59,60,61,62,63,64,65,66,67,68,69,70,71,72,73] Yr rfl rfl (by decide) rfl hE hM (qsP (fun z=>Zg z.E Za ld rfl (kr0 rfl)) (qsP (fun z=>Zo z.E Za ld rfl (WA) (kr0 rfl)) (qsP (fun z=>ZN (v:=v3_1) z.E Za ld rfl VT rfl (At.cat (pre:=[[vI p3.Place]]) (z.M.rawAt0) ck) (kr0 rfl)) (qsP (fun z=>T4 z.E Za ld rfl Try.underlying80 (z.M.rd hv3_1) (kr0 rfl)) (qsP (fun z=>Z1 z.E Za ld rfl rfl rfl (kr0 rfl)) (qsP (fun z=>Zg z.E Za ld rfl (kr0 rfl)) (qsP (fun z=>Zm z.E rfl (lkb rfl hb49) rfl (by decide) (kr0 rfl)) (qsP (fun z=>Zm z.E rfl (lkb rfl hb49) rfl (by decide) (kr0 rfl)) (qsP (fun z=>Zm z.E rfl (lkb rfl hb49) rfl (by decide) (kr0 rfl)) (qsP (fun z=>Zm z.E rfl (lkb rfl hb49) rfl (by decide) (kr0 rfl)) (qsP (fun z=>Zm z.E rfl (lkb rfl hb49) rfl (by decide) (kr0 rfl)) (qsP (fun z=>Zm z.E rfl (lkb rfl hb49) rfl (by decide) (kr0 rfl)) (qsP (fun z=>Zm z.E rfl (lkb rfl hb49) rfl (by decide) (kr0 rfl)) (qsP (fun z=>Zm z.E rfl (lkb rfl hb49) rfl (by decide) (kr0 rfl)) (qsP (fun z=>Zm z.E rfl (lkb rfl hb49) rfl (by decide) (kr0 rfl)) (qsP (fun z=>Zm z.E rfl (lkb rfl hb49) rfl (by decide) (kr0 rfl)) (qsP (fun z=>Zm z.E rfl (lkb rfl hb49) rfl (by decide) (kr0 rfl)) (qsP (fun z=>Zm z.E rfl (lkb rfl hb49) rfl (by decide) (kr0 rfl)) (qsP (fun z=>Zm z.E rfl (lkb rfl hb49) rfl (by decide) (kr0 rfl)) (qsP (fun z=>Zm z.E rfl (lkb rfl hb49) rfl (by decide) (kr0 rfl)) (qsP (fun z=>Zm z.E rfl (lkb rfl hb49) rfl (by decide) (kr0 rfl)) (qsP (fun z=>Vo z.E Za ld (lkb rfl hb49) rfl (kr0 rfl)) qs0)))))))))))))))))))))) ?_
          ·intro a w u hE hM
           refine Zi ?_
           obtain rfl:=Option.some.inj hl46
           refine Zj ?_
           exact ⟨hE.sub ⟨rfl,rfl,rfl,rfl,rfl,rfl,rfl,trivial⟩,hM⟩
         ·have hl46:=Zs hl46 hb49
          obtain ⟨x51,hi53,hl46⟩:=bix hl46
          obtain ⟨x54,hi56,hl46⟩:=bix hl46
          obtain ⟨cs57,hs58,hA59⟩:=Qt hv3_2 hi56.2 -- ^
          obtain ⟨u60,rfl⟩:=U5 hs58 -- ^
          have h61:=hs58 -- ^
          obtain ⟨r62,e63,hl46⟩:=bind_some hl46
          refine ZP [52,53,54,55,56,57,58,59,60,61,62,63,64,65,66,67,68,69,70,71,72,73] Yr rfl rfl (by decide) rfl hE hM (qsP (fun z=>Zg z.E Za ld rfl (kr0 rfl)) (qsP (fun z=>Zo z.E Za ld rfl (WA) (kr0 rfl)) (qsP (fun z=>ZN (v:=v3_1) z.E Za ld rfl VT rfl (At.cat (pre:=[[vI p3.Place]]) (z.M.rawAt0) ck) (kr0 rfl)) (qsP (fun z=>T4 z.E Za ld rfl Try.underlying80 (z.M.rd hv3_1) (kr0 rfl)) (qsP (fun z=>Z1 z.E Za ld rfl rfl rfl (kr0 rfl)) (qsP (fun z=>Zg z.E Za ld rfl (kr0 rfl)) (qsP (fun z=>ZA z.E (Zf z.E rfl (lkb rfl hb49)) (by decide) rfl Zr rfl (z.M.rawAt2) (Flat.len _) (kr0 rfl)) (qsP (fun z=>Zo z.E (Zf z.E rfl (lkb rfl hb49)) (by decide) rfl (WA) (kr0 rfl)) (qsP (fun z=>ZN (v:=v3_1) z.E (Zf z.E rfl (lkb rfl hb49)) (by decide) rfl VT rfl (At.cat (pre:=[[vI p3.Place]]) (z.M.rawAt0) ck) (kr0 rfl)) (qsP (fun z=>Zg z.E (Zf z.E rfl (lkb rfl hb49)) (by decide) rfl (kr0 rfl)) (qsP (fun z=>Yi z.E (Zf z.E rfl (lkb rfl hb49)) (by decide) rfl rfl Try.underlying80 Zr (z.M.rd hv3_1) hi53.1 (kr0 rfl)) (qsP (fun z=>ZA z.E (Zf z.E rfl (lkb rfl hb49)) (by decide) rfl Zr rfl (YA (z.M.rd hv3_1) hi53.2) (Flat.len _) (kr0 rfl)) (qsP (fun z=>Zg z.E (Zf z.E rfl (lkb rfl hb49)) (by decide) rfl (kr0 rfl)) (qsP (fun z=>Zg z.E (Zf z.E rfl (lkb rfl hb49)) (by decide) rfl (kr0 rfl)) (qsP (fun z=>Zo z.E (Zf z.E rfl (lkb rfl hb49)) (by decide) rfl (UV) (kr0 rfl)) (qsP (fun z=>ZN (v:=v3_2) z.E (Zf z.E rfl (lkb rfl hb49)) (by decide) rfl Kt rfl (At.cat (pre:=[[vI p3.Place],[v3_1]]) (z.M.rawAt0) ck) (kr0 rfl)) (qsP (fun z=>Zg z.E (Zf z.E rfl (lkb rfl hb49)) (by decide) rfl (kr0 rfl)) (qsP (fun z=>Yi z.E (Zf z.E rfl (lkb rfl hb49)) (by decide) rfl rfl Try.underlying85 VT (z.M.rd hv3_2) hi56.1 (kr0 rfl)) (qsP (fun z=>ZN (v:=u60) z.E (Zf z.E rfl (lkb rfl hb49)) (by decide) rfl VT rfl (z.M.atk hA59 (KJ hv3_2 hi56.2)) (kr0 rfl)) (qsP (fun z=>ZX z.E (Zf z.E rfl (lkb rfl hb49)) (by decide) rfl (cbm Try.func117) (Jp _ p0 x51 s34.1 p1 x54 u60 (z.M.rdo h61) r62 e63) (kc rfl)) (qsP (fun z=>UY z.E (Zf z.E rfl (lkb rfl hb49)) (by decide) rfl (kr0 rfl)) (qsP (fun z=>WN z.E Za ld (lkb rfl hb49) rfl (kr0 rfl)) qs0)))))))))))))))))))))) ?_
          ·intro a w u hE hM
           refine Zi ?_
           obtain rfl:=Option.some.inj hl46
           refine Zj ?_
           exact ⟨hE.sub ⟨rfl,rfl,rfl,rfl,rfl,rfl,rfl,trivial⟩,hM⟩
        ·skip
         rintro a w ⟨hE,hM⟩
         refine Zq hE rfl ?_ ?_
         ·intro hb65
          have hF47:=Zt hF47 hb65
          refine Zb (Zc hE rfl fun a hE=>Ze ?_)
          obtain rfl:=hx36 _ (ois hF47)
          obtain rfl:=Option.some.inj hF32
          exact wp_ret (ZL (Vj (ZL (ZL (Vj (ZL (ZL (kr1 hE rfl rfl hM.kept))))))))
         ·intro hb65
          have hF47:=Zs hF47 hb65
          refine wp_skip (Zw (wp_seq ?_))
          obtain ⟨j67,hl68,hF69⟩:=bind_some hF47
          refine ZB (fun a w=>Env 111 a [(1,vI p1),(4,(ptr b1 0)),(6,(ptr b3 0)),(7,(ptr b5 0)),(9,vI s34.2),(10,vI s34.1),(103,vT j67)] ∧ M (Old w0) w0 w [raw b5 (cat [[vI p3.Place],[v3_1],[v3_2]]),raw b3 (enc p2),raw b1 (enc p0)]) ?_ ?_
          ·skip
           refine YP (decide (s34.1 < p3.Place)) (fun hb71=>?_) (fun hb71=>?_)
           ·have hl68:=Zt hl68 hb71
            obtain ⟨x72,hi74,hl68⟩:=bix hl68
            obtain ⟨r75,e76,hl68⟩:=bind_some hl68
            refine YP (!r75) (fun hb77=>?_) (fun hb77=>?_)
            ·have hl68:=Zt hl68 hb77
             refine ZP [74,75,76,77,78,79,80,81,82,83,84,85,86,87,88,89,90,91,92,93,94,95,96,97,98,99,100,101,102,103] Yr rfl rfl (by decide) rfl hE hM (qsP (fun z=>Zg z.E Za ld rfl (kr0 rfl)) (qsP (fun z=>Zo z.E Za ld rfl (Xv) (kr0 rfl)) (qsP (fun z=>ZN (v:=(vI p3.Place)) z.E Za ld rfl ty2 rfl (At.cat (pre:=[]) (z.M.rawAt0) cl0) (kr0 rfl)) (qsP (fun z=>Z1 z.E Za ld rfl rfl rfl (kr0 rfl)) (qsP (fun z=>Zg z.E Za ld rfl (kr0 rfl)) (qsP (fun z=>Zo z.E (Zf z.E rfl (lkb rfl hb71)) (by decide) rfl (WA) (kr0 rfl)) (qsP (fun z=>ZN (v:=v3_1) z.E (Zf z.E rfl (lkb rfl hb71)) (by decide) rfl VT rfl (At.cat (pre:=[[vI p3.Place]]) (z.M.rawAt0) ck) (kr0 rfl)) (qsP (fun z=>Zg z.E (Zf z.E rfl (lkb rfl hb71)) (by decide) rfl (kr0 rfl)) (qsP (fun z=>Yi z.E (Zf z.E rfl (lkb rfl hb71)) (by decide) rfl rfl Try.underlying80 Zr (z.M.rd hv3_1) hi74.1 (kr0 rfl)) (qsP (fun z=>ZA z.E (Zf z.E rfl (lkb rfl hb71)) (by decide) rfl Zr rfl (YA (z.M.rd hv3_1) hi74.2) (Flat.len _) (kr0 rfl)) (qsP (fun z=>ZA z.E (Zf z.E rfl (lkb rfl hb71)) (by decide) rfl Zr rfl (z.M.rawAt1) (Flat.len _) (kr0 rfl)) (qsP (fun z=>ZX z.E (Zf z.E rfl (lkb rfl hb71)) (by decide) rfl JR (Wi _ x72 p2 r75 e76) (kc rfl)) (qsP (fun z=>UY z.E (Zf z.E rfl (lkb rfl hb71)) (by decide) rfl (kr0 rfl)) (qsP (fun z=>Vo z.E Za ld (lkb rfl hb71) rfl (kr0 rfl)) (qsP (fun z=>Zg z.E Za ld rfl (kr0 rfl)) (qsP (fun z=>Zm z.E rfl (lkb rfl hb77) rfl (by decide) (kr0 rfl)) (qsP (fun z=>Zm z.E rfl (lkb rfl hb77) rfl (by decide) (kr0 rfl)) (qsP (fun z=>Zm z.E rfl (lkb rfl hb77) rfl (by decide) (kr0 rfl)) (qsP (fun z=>Zm z.E rfl (lkb rfl hb77) rfl (by decide) (kr0 rfl)) (qsP (fun z=>Zm z.E rfl (lkb rfl hb77) rfl (by decide) (kr0 rfl)) (qsP (fun z=>UX z.E rfl rfl (by decide) (kr0 rfl)) (qsP (fun z=>UX z.E rfl rfl (by decide) (kr0 rfl)) (qsP (fun z=>UX z.E rfl rfl (by decide) (kr0 rfl)) (qsP (fun z=>UX z.E rfl rfl (by decide) (kr0 rfl)) (qsP (fun z=>UX z.E rfl rfl (by decide) (kr0 rfl)) (qsP (fun z=>UX z.E rfl rfl (by decide) (kr0 rfl)) (qsP (fun z=>UX z.E rfl rfl (by decide) (kr0 rfl)) (qsP (fun z=>UX z.E rfl rfl (by decide) (kr0 rfl)) (qsP (fun z=>Zm z.E rfl (lkb rfl hb77) rfl (by decide) (kr0 rfl)) (qsP (fun z=>Vo z.E Za ld (lkb rfl hb77) rfl (kr0 rfl)) qs0)))))))))))))))))))))))))))))) ?_
             ·intro a w u hE hM
              refine Zi ?_
              obtain rfl:=Option.some.inj hl68
              refine Zj ?_
              exact ⟨hE.sub ⟨rfl,rfl,rfl,rfl,rfl,rfl,rfl,trivial⟩,hM⟩
            ·have hl68:=Zs hl68 hb77
             refine YP (s34.1 == p3.Place) (fun hb79=>?_) (fun hb79=>?_)
             ·have hl68:=Zt hl68 hb79
              obtain ⟨x80,hi82,hl68⟩:=bix hl68
              obtain ⟨r83,e84,hl68⟩:=bind_some hl68
              refine ZP [74,75,76,77,78,79,80,81,82,83,84,85,86,87,88,89,90,91,92,93,94,95,96,97,98,99,100,101,102,103] Yr rfl rfl (by decide) rfl hE hM (qsP (fun z=>Zg z.E Za ld rfl (kr0 rfl)) (qsP (fun z=>Zo z.E Za ld rfl (Xv) (kr0 rfl)) (qsP (fun z=>ZN (v:=(vI p3.Place)) z.E Za ld rfl ty2 rfl (At.cat (pre:=[]) (z.M.rawAt0) cl0) (kr0 rfl)) (qsP (fun z=>Z1 z.E Za ld rfl rfl rfl (kr0 rfl)) (qsP (fun z=>Zg z.E Za ld rfl (kr0 rfl)) (qsP (fun z=>Zo z.E (Zf z.E rfl (lkb rfl hb71)) (by decide) rfl (WA) (kr0 rfl)) (qsP (fun z=>ZN (v:=v3_1) z.E (Zf z.E rfl (lkb rfl hb71)) (by decide) rfl VT rfl (At.cat (pre:=[[vI p3.Place]]) (z.M.rawAt0) ck) (kr0 rfl)) (qsP (fun z=>Zg z.E (Zf z.E rfl (lkb rfl hb71)) (by decide) rfl (kr0 rfl)) (qsP (fun z=>Yi z.E (Zf z.E rfl (lkb rfl hb71)) (by decide) rfl rfl Try.underlying80 Zr (z.M.rd hv3_1) hi74.1 (kr0 rfl)) (qsP (fun z=>ZA z.E (Zf z.E rfl (lkb rfl hb71)) (by decide) rfl Zr rfl (YA (z.M.rd hv3_1) hi74.2) (Flat.len _) (kr0 rfl)) (qsP (fun z=>ZA z.E (Zf z.E rfl (lkb rfl hb71)) (by decide) rfl Zr rfl (z.M.rawAt1) (Flat.len _) (kr0 rfl)) (qsP (fun z=>ZX z.E (Zf z.E rfl (lkb rfl hb71)) (by decide) rfl JR (Wi _ x72 p2 r75 e76) (kc rfl)) (qsP (fun z=>UY z.E (Zf z.E rfl (lkb rfl hb71)) (by decide) rfl (kr0 rfl)) (qsP (fun z=>Vo z.E Za ld (lkb rfl hb71) rfl (kr0 rfl)) (qsP (fun z=>Zg z.E Za ld rfl (kr0 rfl)) (qsP (fun z=>Zg z.E (Zf z.E rfl (lkb rfl hb77)) (by decide) rfl (kr0 rfl)) (qsP (fun z=>Zo z.E (Zf z.E rfl (lkb rfl hb77)) (by decide) rfl (Xv) (kr0 rfl)) (qsP (fun z=>ZN (v:=(vI p3.Place)) z.E (Zf z.E rfl (lkb rfl hb77)) (by decide) rfl ty2 rfl (At.cat (pre:=[]) (z.M.rawAt0) cl0) (kr0 rfl)) (qsP (fun z=>Z1 z.E (Zf z.E rfl (lkb rfl hb77)) (by decide) rfl rfl rfl (kr0 rfl)) (qsP (fun z=>Zg z.E (Zf z.E rfl (lkb rfl hb77)) (by decide) rfl (kr0 rfl)) (qsP (fun z=>ZA z.E (Zf z.E rfl (lkb rfl hb79)) (by decide) rfl Zr rfl (z.M.rawAt1) (Flat.len _) (kr0 rfl)) (qsP (fun z=>Zo z.E (Zf z.E rfl (lkb rfl hb79)) (by decide) rfl (WA) (kr0 rfl)) (qsP (fun z=>ZN (v:=v3_1) z.E (Zf z.E rfl (lkb rfl hb79)) (by decide) rfl VT rfl (At.cat (pre:=[[vI p3.Place]]) (z.M.rawAt0) ck) (kr0 rfl)) (qsP (fun z=>Zg z.E (Zf z.E rfl (lkb rfl hb79)) (by decide) rfl (kr0 rfl)) (qsP (fun z=>Yi z.E (Zf z.E rfl (lkb rfl hb79)) (by decide) rfl rfl Try.underlying80 Zr (z.M.rd hv3_1) hi82.1 (kr0 rfl)) (qsP (fun z=>ZA z.E (Zf z.E rfl (lkb rfl hb79)) (by decide) rfl Zr rfl (YA (z.M.rd hv3_1) hi82.2) (Flat.len _) (kr0 rfl)) (qsP (fun z=>ZX z.E (Zf z.E rfl (lkb rfl hb79)) (by decide) rfl JR (Wi _ p2 x80 r83 e84) (kc rfl)) (qsP (fun z=>UY z.E (Zf z.E rfl (lkb rfl hb79)) (by decide) rfl (kr0 rfl)) (qsP (fun z=>Vo z.E (Zf z.E rfl (lkb rfl hb77)) (by decide) (lkb rfl hb79) rfl (kr0 rfl)) (qsP (fun z=>WN z.E Za ld (lkb rfl hb77) rfl (kr0 rfl)) qs0)))))))))))))))))))))))))))))) ?_
              ·intro a w u hE hM
               refine Zi ?_
               obtain rfl:=Option.some.inj hl68
               refine Zj ?_
               exact ⟨hE.sub ⟨rfl,rfl,rfl,rfl,rfl,rfl,rfl,trivial⟩,hM⟩
             ·have hl68:=Zs hl68 hb79
              refine ZP [74,75,76,77,78,79,80,81,82,83,84,85,86,87,88,89,90,91,92,93,94,95,96,97,98,99,100,101,102,103] Yr rfl rfl (by decide) rfl hE hM (qsP (fun z=>Zg z.E Za ld rfl (kr0 rfl)) (qsP (fun z=>Zo z.E Za ld rfl (Xv) (kr0 rfl)) (qsP (fun z=>ZN (v:=(vI p3.Place)) z.E Za ld rfl ty2 rfl (At.cat (pre:=[]) (z.M.rawAt0) cl0) (kr0 rfl)) (qsP (fun z=>Z1 z.E Za ld rfl rfl rfl (kr0 rfl)) (qsP (fun z=>Zg z.E Za ld rfl (kr0 rfl)) (qsP (fun z=>Zo z.E (Zf z.E rfl (lkb rfl hb71)) (by decide) rfl (WA) (kr0 rfl)) (qsP (fun z=>ZN (v:=v3_1) z.E (Zf z.E rfl (lkb rfl hb71)) (by decide) rfl VT rfl (At.cat (pre:=[[vI p3.Place]]) (z.M.rawAt0) ck) (kr0 rfl)) (qsP (fun z=>Zg z.E (Zf z.E rfl (lkb rfl hb71)) (by decide) rfl (kr0 rfl)) (qsP (fun z=>Yi z.E (Zf z.E rfl (lkb rfl hb71)) (by decide) rfl rfl Try.underlying80 Zr (z.M.rd hv3_1) hi74.1 (kr0 rfl)) (qsP (fun z=>ZA z.E (Zf z.E rfl (lkb rfl hb71)) (by decide) rfl Zr rfl (YA (z.M.rd hv3_1) hi74.2) (Flat.len _) (kr0 rfl)) (qsP (fun z=>ZA z.E (Zf z.E rfl (lkb rfl hb71)) (by decide) rfl Zr rfl (z.M.rawAt1) (Flat.len _) (kr0 rfl)) (qsP (fun z=>ZX z.E (Zf z.E rfl (lkb rfl hb71)) (by decide) rfl JR (Wi _ x72 p2 r75 e76) (kc rfl)) (qsP (fun z=>UY z.E (Zf z.E rfl (lkb rfl hb71)) (by decide) rfl (kr0 rfl)) (qsP (fun z=>Vo z.E Za ld (lkb rfl hb71) rfl (kr0 rfl)) (qsP (fun z=>Zg z.E Za ld rfl (kr0 rfl)) (qsP (fun z=>Zg z.E (Zf z.E rfl (lkb rfl hb77)) (by decide) rfl (kr0 rfl)) (qsP (fun z=>Zo z.E (Zf z.E rfl (lkb rfl hb77)) (by decide) rfl (Xv) (kr0 rfl)) (qsP (fun z=>ZN (v:=(vI p3.Place)) z.E (Zf z.E rfl (lkb rfl hb77)) (by decide) rfl ty2 rfl (At.cat (pre:=[]) (z.M.rawAt0) cl0) (kr0 rfl)) (qsP (fun z=>Z1 z.E (Zf z.E rfl (lkb rfl hb77)) (by decide) rfl rfl rfl (kr0 rfl)) (qsP (fun z=>Zg z.E (Zf z.E rfl (lkb rfl hb77)) (by decide) rfl (kr0 rfl)) (qsP (fun z=>Zm z.E rfl (lkb rfl hb79) rfl (by decide) (kr0 rfl)) (qsP (fun z=>Zm z.E rfl (lkb rfl hb79) rfl (by decide) (kr0 rfl)) (qsP (fun z=>Zm z.E rfl (lkb rfl hb79) rfl (by decide) (kr0 rfl)) (qsP (fun z=>Zm z.E rfl (lkb rfl hb79) rfl (by decide) (kr0 rfl)) (qsP (fun z=>Zm z.E rfl (lkb rfl hb79) rfl (by decide) (kr0 rfl)) (qsP (fun z=>Zm z.E rfl (lkb rfl hb79) rfl (by decide) (kr0 rfl)) (qsP (fun z=>Zm z.E rfl (lkb rfl hb79) rfl (by decide) (kr0 rfl)) (qsP (fun z=>Zm z.E rfl (lkb rfl hb79) rfl (by decide) (kr0 rfl)) (qsP (fun z=>WN z.E (Zf z.E rfl (lkb rfl hb77)) (by decide) (lkb rfl hb79) rfl (kr0 rfl)) (qsP (fun z=>WN z.E Za ld (lkb rfl hb77) rfl (kr0 rfl)) qs0)))))))))))))))))))))))))))))) ?_
              ·intro a w u hE hM
               refine Zi ?_
               obtain rfl:=Option.some.inj hl68
               refine Zj ?_
               exact ⟨hE.sub ⟨rfl,rfl,rfl,rfl,rfl,rfl,rfl,trivial⟩,hM⟩
           ·have hl68:=Zs hl68 hb71
            refine YP (s34.1 == p3.Place) (fun hb87=>?_) (fun hb87=>?_)
            ·have hl68:=Zt hl68 hb87
             obtain ⟨x88,hi90,hl68⟩:=bix hl68
             obtain ⟨r91,e92,hl68⟩:=bind_some hl68
             refine ZP [74,75,76,77,78,79,80,81,82,83,84,85,86,87,88,89,90,91,92,93,94,95,96,97,98,99,100,101,102,103] Yr rfl rfl (by decide) rfl hE hM (qsP (fun z=>Zg z.E Za ld rfl (kr0 rfl)) (qsP (fun z=>Zo z.E Za ld rfl (Xv) (kr0 rfl)) (qsP (fun z=>ZN (v:=(vI p3.Place)) z.E Za ld rfl ty2 rfl (At.cat (pre:=[]) (z.M.rawAt0) cl0) (kr0 rfl)) (qsP (fun z=>Z1 z.E Za ld rfl rfl rfl (kr0 rfl)) (qsP (fun z=>Zg z.E Za ld rfl (kr0 rfl)) (qsP (fun z=>Zm z.E rfl (lkb rfl hb71) rfl (by decide) (kr0 rfl)) (qsP (fun z=>Zm z.E rfl (lkb rfl hb71) rfl (by decide) (kr0 rfl)) (qsP (fun z=>Zm z.E rfl (lkb rfl hb71) rfl (by decide) (kr0 rfl)) (qsP (fun z=>Zm z.E rfl (lkb rfl hb71) rfl (by decide) (kr0 rfl)) (qsP (fun z=>Zm z.E rfl (lkb rfl hb71) rfl (by decide) (kr0 rfl)) (qsP (fun z=>Zm z.E rfl (lkb rfl hb71) rfl (by decide) (kr0 rfl)) (qsP (fun z=>Zm z.E rfl (lkb rfl hb71) rfl (by decide) (kr0 rfl)) (qsP (fun z=>Zm z.E rfl (lkb rfl hb71) rfl (by decide) (kr0 rfl)) (qsP (fun z=>WN z.E Za ld (lkb rfl hb71) rfl (kr0 rfl)) (qsP (fun z=>Zg z.E Za ld rfl (kr0 rfl)) (qsP (fun z=>Zg z.E (Zf z.E rfl rfl) (by decide) rfl (kr0 rfl)) (qsP (fun z=>Zo z.E (Zf z.E rfl rfl) (by decide) rfl (Xv) (kr0 rfl)) (qsP (fun z=>ZN (v:=(vI p3.Place)) z.E (Zf z.E rfl rfl) (by decide) rfl ty2 rfl (At.cat (pre:=[]) (z.M.rawAt0) cl0) (kr0 rfl)) (qsP (fun z=>Z1 z.E (Zf z.E rfl rfl) (by decide) rfl rfl rfl (kr0 rfl)) (qsP (fun z=>Zg z.E (Zf z.E rfl rfl) (by decide) rfl (kr0 rfl)) (qsP (fun z=>ZA z.E (Zf z.E rfl (lkb rfl hb87)) (by decide) rfl Zr rfl (z.M.rawAt1) (Flat.len _) (kr0 rfl)) (qsP (fun z=>Zo z.E (Zf z.E rfl (lkb rfl hb87)) (by decide) rfl (WA) (kr0 rfl)) (qsP (fun z=>ZN (v:=v3_1) z.E (Zf z.E rfl (lkb rfl hb87)) (by decide) rfl VT rfl (At.cat (pre:=[[vI p3.Place]]) (z.M.rawAt0) ck) (kr0 rfl)) (qsP (fun z=>Zg z.E (Zf z.E rfl (lkb rfl hb87)) (by decide) rfl (kr0 rfl)) (qsP (fun z=>Yi z.E (Zf z.E rfl (lkb rfl hb87)) (by decide) rfl rfl Try.underlying80 Zr (z.M.rd hv3_1) hi90.1 (kr0 rfl)) (qsP (fun z=>ZA z.E (Zf z.E rfl (lkb rfl hb87)) (by decide) rfl Zr rfl (YA (z.M.rd hv3_1) hi90.2) (Flat.len _) (kr0 rfl)) (qsP (fun z=>ZX z.E (Zf z.E rfl (lkb rfl hb87)) (by decide) rfl JR (Wi _ p2 x88 r91 e92) (kc rfl)) (qsP (fun z=>UY z.E (Zf z.E rfl (lkb rfl hb87)) (by decide) rfl (kr0 rfl)) (qsP (fun z=>Vo z.E (Zf z.E rfl rfl) (by decide) (lkb rfl hb87) rfl (kr0 rfl)) (qsP (fun z=>WN z.E Za ld rfl rfl (kr0 rfl)) qs0)))))))))))))))))))))))))))))) ?_
             ·intro a w u hE hM
              refine Zi ?_
              obtain rfl:=Option.some.inj hl68
              refine Zj ?_
              exact ⟨hE.sub ⟨rfl,rfl,rfl,rfl,rfl,rfl,rfl,trivial⟩,hM⟩
            ·have hl68:=Zs hl68 hb87
             refine ZP [74,75,76,77,78,79,80,81,82,83,84,85,86,87,88,89,90,91,92,93,94,95,96,97,98,99,100,101,102,103] Yr rfl rfl (by decide) rfl hE hM (qsP (fun z=>Zg z.E Za ld rfl (kr0 rfl)) (qsP (fun z=>Zo z.E Za ld rfl (Xv) (kr0 rfl)) (qsP (fun z=>ZN (v:=(vI p3.Place)) z.E Za ld rfl ty2 rfl (At.cat (pre:=[]) (z.M.rawAt0) cl0) (kr0 rfl)) (qsP (fun z=>Z1 z.E Za ld rfl rfl rfl (kr0 rfl)) (qsP (fun z=>Zg z.E Za ld rfl (kr0 rfl)) (qsP (fun z=>Zm z.E rfl (lkb rfl hb71) rfl (by decide) (kr0 rfl)) (qsP (fun z=>Zm z.E rfl (lkb rfl hb71) rfl (by decide) (kr0 rfl)) (qsP (fun z=>Zm z.E rfl (lkb rfl hb71) rfl (by decide) (kr0 rfl)) (qsP (fun z=>Zm z.E rfl (lkb rfl hb71) rfl (by decide) (kr0 rfl)) (qsP (fun z=>Zm z.E rfl (lkb rfl hb71) rfl (by decide) (kr0 rfl)) (qsP (fun z=>Zm z.E rfl (lkb rfl hb71) rfl (by decide) (kr0 rfl)) (qsP (fun z=>Zm z.E rfl (lkb rfl hb71) rfl (by decide) (kr0 rfl)) (qsP (fun z=>Zm z.E rfl (lkb rfl hb71) rfl (by decide) (kr0 rfl)) (qsP (fun z=>WN z.E Za ld (lkb rfl hb71) rfl (kr0 rfl)) (qsP (fun z=>Zg z.E Za ld rfl (kr0 rfl)) (qsP (fun z=>Zg z.E (Zf z.E rfl rfl) (by decide) rfl (kr0 rfl)) (qsP (fun z=>Zo z.E (Zf z.E rfl rfl) (by decide) rfl (Xv) (kr0 rfl)) (qsP (fun z=>ZN (v:=(vI p3.Place)) z.E (Zf z.E rfl rfl) (by decide) rfl ty2 rfl (At.cat (pre:=[]) (z.M.rawAt0) cl0) (kr0 rfl)) (qsP (fun z=>Z1 z.E (Zf z.E rfl rfl) (by decide) rfl rfl rfl (kr0 rfl)) (qsP (fun z=>Zg z.E (Zf z.E rfl rfl) (by decide) rfl (kr0 rfl)) (qsP (fun z=>Zm z.E rfl (lkb rfl hb87) rfl (by decide) (kr0 rfl)) (qsP (fun z=>Zm z.E rfl (lkb rfl hb87) rfl (by decide) (kr0 rfl)) (qsP (fun z=>Zm z.E rfl (lkb rfl hb87) rfl (by decide) (kr0 rfl)) (qsP (fun z=>Zm z.E rfl (lkb rfl hb87) rfl (by decide) (kr0 rfl)) (qsP (fun z=>Zm z.E rfl (lkb rfl hb87) rfl (by decide) (kr0 rfl)) (qsP (fun z=>Zm z.E rfl (lkb rfl hb87) rfl (by decide) (kr0 rfl)) (qsP (fun z=>Zm z.E rfl (lkb rfl hb87) rfl (by decide) (kr0 rfl)) (qsP (fun z=>Zm z.E rfl (lkb rfl hb87) rfl (by decide) (kr0 rfl)) (qsP (fun z=>WN z.E (Zf z.E rfl rfl) (by decide) (lkb rfl hb87) rfl (kr0 rfl)) (qsP (fun z=>WN z.E Za ld rfl rfl (kr0 rfl)) qs0)))))))))))))))))))))))))))))) ?_
             ·intro a w u hE hM
              refine Zi ?_
              obtain rfl:=Option.some.inj hl68
              refine Zj ?_
              exact ⟨hE.sub ⟨rfl,rfl,rfl,rfl,rfl,rfl,rfl,trivial⟩,hM⟩
          ·skip
           rintro a w ⟨hE,hM⟩
           refine Zq hE rfl ?_ ?_
           ·intro hb95
            have hF69:=Zt hF69 hb95
            refine Zb (Zc hE rfl fun a hE=>Ze ?_)
            obtain rfl:=hx36 _ (ois hF69)
            obtain rfl:=Option.some.inj hF32
            exact wp_ret (ZL (Vj (ZL (ZL (Vj (ZL (ZL (kr1 hE rfl rfl hM.kept))))))))
           ·intro hb95
            have hF69:=Zs hF69 hb95
            refine wp_skip (Zw (wp_region_lit (Zd hE rfl fun a hE=>Zl hE rfl rfl rfl fun a hE=>Zc hE rfl fun a hE=>Zi (Yv (Zw (wp_region_lit (Zd hE rfl fun a hE=>Zl hE rfl rfl rfl fun a hE=>Zc hE rfl fun a hE=>Zi (Zj ?_))))))))
            exact ⟨_,(ois hF69),hE.sub ⟨rfl,rfl,rfl,rfl,rfl,rfl,trivial⟩,hM⟩
       ·intro hb44
        have hF40:=Zs hF40 hb44
        refine wp_exit (Zn (Zn (Yy ?_)))
        obtain rfl:=hx36 _ (ois hF40)
        refine Zj ?_
        have hM:=M.fst (l:=[_]) hM
        exact ⟨s34.2,rfl,hE.sub ⟨rfl,rfl,trivial⟩,hM⟩
     ·skip
      rintro a w ⟨s33,ht,hE,hM⟩
      subst ht
      have hF32:=Ki hF32
      refine Zw (Zb (Zd hE rfl fun a hE=>ZJ hE rfl (WA) fun a hE=>ZQ (v:=v3_1) hE rfl VT rfl (At.cat (pre:=[[vI p3.Place]]) hM.rawAt0 ck) fun a hE=>Yq hE rfl Try.underlying80 (hM.rd hv3_1) fun a hE=>Zl hE rfl rfl rfl fun a hE=>Zc hE rfl fun a hE=>Ze ?_))
      obtain rfl:=Option.some.inj hF32
      exact wp_ret (kr1 hE rfl rfl hM.kept)
def Uf (p0 : (List (Vector UInt8 32))) : Option ((Vector UInt8 32) × Int) :=
 if (decide ((p0.length : Int) > 64)) = true then (some ((Vector.replicate 32 (0 : UInt8)),2)) else ((XB).bind fun r5=>(Z9 64 r5 p0).bind fun r8=>some (r8,0))
theorem HR (w0 : World) (p0 : (List (Vector UInt8 32))) (v0_1 : Value) (hv0_1 : Ro w0 p0 [v0_1]) (r : (Vector UInt8 32) × Int) (hF : Uf p0 = some r) :
  Calls Try.prog 46 [v0_1].toArray w0 (Rt w0 (Value.tuple [(Value.agg (enc r.1).toArray),vI r.2].toArray)):=by
 refine ce Try.func46 ?_
 intro a hE
 have hM:=M.start w0
 unfold Uf at hF
 refine Zb (Zv hE hM Zr fun b1 w a hM hE=>Zc hE rfl fun a hE=>Ze (wp_seq (Zb (Zd hE rfl fun a hE=>Yq hE rfl Try.underlying80 (hM.rd hv0_1) fun a hE=>Zl hE rfl rfl rfl fun a hE=>Ze ?_))))
 refine Zq hE rfl ?_ ?_
 ·intro hb3
  have hF:=Zt hF hb3
  refine Zb (Yx (parts:=[]) (vs:=[]) (cs:=enc (Vector.replicate 32 (0 : UInt8))) hE Za ld rfl rfl Zr rfl ty5 Yk fun a hE=>Zk (seg:=enc (Vector.replicate 32 (0 : UInt8))) (cs':=enc (Vector.replicate 32 (0 : UInt8))) hE hM Za rfl rfl rfl Zr (Flat.len _) (zle flq) (Flat.cell _) (Zh flq) fun w a hM hE=>Zc hE rfl fun a hE=>Ze ?_)
  obtain rfl:=Option.some.inj hF
  have hq4 : Z6 Try.prog _ _ (.cell 2 82) _:=ZD hE rfl Zr rfl hM.rawAt0 (Flat.len _) rfl
  exact wp_ret (ZL (WR hE rfl hq4 (ZV hE rfl) ⟨_,rfl,rfl,hM.kept⟩))
 ·intro hb3
  have hF:=Zs hF hb3
  refine wp_skip (Zw (Zb ?_))
  obtain ⟨r5,e6,hF⟩:=bind_some hF
  refine Zy hE rfl jk (UN _  r5 e6) ?_
  rintro v w a ⟨u7,rfl,hFr,hK⟩ hE
  have hM:=hM.add hK hFr
  refine Zd hE rfl ?_; intro a hE
  obtain ⟨r8,e9,hF⟩:=bind_some hF
  refine Zy hE rfl Bi (Y5 64 _ r5 u7 (hM.ro (pre:=[]) noB) p0 v0_1 (hM.rdo hv0_1) r8 e9) ?_
  rintro v w a ⟨rfl,hK⟩ hE
  have hM:=(hM.keep hK).pull1
  refine Zk (seg:=enc r8) (cs':=enc r8) hE hM Za rfl rfl rfl Zr (Flat.len _) (zle flq) (Flat.cell _) (Zh flq) fun w a hM hE=>Zc hE rfl fun a hE=>Ze ?_
  obtain rfl:=Option.some.inj hF
  have hq10 : Z6 Try.prog _ _ (.cell 2 82) _:=ZD hE rfl Zr rfl hM.rawAt0 (Flat.len _) rfl
  exact wp_ret (WR hE rfl hq10 (ZV hE rfl) ⟨_,rfl,rfl,hM.kept⟩)
def Wm (r4 : (List (Vector UInt8 32)) × (Vector UInt8 32)) (r9 : GAbsence × Int) (r51 : (Vector UInt8 32) × Int) (s68 : Int) : Option (Fl Int (Fl Unit Bool)) :=
 if (decide (s68 < (r4.1.length : Int))) = true then (((idx r4.1 s68).bind fun x77=>if (decide (x77 = r4.2)) = true then (some true) else ((idx r4.1 s68).bind fun x82=>(Xy r51.1 (r4.1.length : Int) x82 r9.1).bind fun r85=>some r85) : Option (Bool)).bind fun j73=>if j73 = true then (some (Fl.ex (Fl.ex false))) else (some (Fl.nx (wr (s68 + 1))))) else (some (Fl.ex (Fl.nx ())))
def VP (p0 : (List UInt8)) : Option (Bool) :=
 (QP p0).bind fun r1=>if r1 = true then (some true) else ((Xa p0).bind fun r4=>(Vb r4.1 r4.2).bind fun r9=>(Wa r4.1 r4.2).bind fun r15=>(if (r9.2 != r15.2) = true then (some true) else ((Vv r9.1 r15.1).bind fun r26=>some (!r26)) : Option (Bool)).bind fun j21=>if j21 = true then (some false) else ((XM p0).bind fun r30=>((Xy r30.1 r30.2.1 r30.2.2.1 r30.2.2.2).bind fun r44=>(Va r30.1 r30.2.1 r30.2.2.1 r30.2.2.2).bind fun r46=>some (r44 != r46) : Option (Bool)).bind fun j40=>if j40 = true then (some false) else (if (r9.2 != 0) = true then (some ((r9.1.Neighbours.length : Int) == 0)) else ((Uf r4.1).bind fun r51=>(if (r51.2 != 0) = true then (some true) else ((Xy r51.1 (r4.1.length : Int) r4.2 r9.1).bind fun r60=>some (!r60)) : Option (Bool)).bind fun j55=>if j55 = true then (some false) else ((ZF (Wm r4 r9 r51) 0).bind fun j64=>j64.el (fun s67=>some true) (fun r=>some r))))))
theorem Ku (w0 : World) (p0 : (List UInt8)) (v0_1 : Value) (hv0_1 : Ro w0 p0 [v0_1]) (r : Bool) (hF : VP p0 = some r) :
  Calls Try.prog 5 [v0_1].toArray w0 (Rt w0 (vT r)):=by
 refine ce Try.func5 ?_
 intro a hE
 have hM:=M.start w0
 unfold VP at hF
 refine Zb (Zc hE rfl fun a hE=>Ze (wp_seq (Zb (Zd hE rfl ?_)))); intro a hE
 obtain ⟨r1,e2,hF⟩:=bind_some hF
 refine Zy hE rfl (cbm Try.func6) (A5 _ p0 v0_1 (hM.rdo hv0_1) r1 e2) ?_
 rintro v w a ⟨rfl,hK⟩ hE
 have hM:=hM.keep hK
 refine Ze ?_
 refine Zq hE rfl ?_ ?_
 ·intro hb3
  have hF:=Zt hF hb3
  refine Zb (Zc hE rfl fun a hE=>Ze ?_)
  obtain rfl:=Option.some.inj hF
  exact wp_ret (ZL (kr1 hE rfl rfl hM.kept))
 ·intro hb3
  have hF:=Zs hF hb3
  refine wp_skip (Zw (Zb (Zd hE rfl ?_))); intro a hE
  obtain ⟨r4,e5,hF⟩:=bind_some hF
  refine Zy hE rfl (cbm Try.func39) (UZ _ p0 v0_1 (hM.rdo hv0_1) r4 e5) ?_
  rintro v w a ⟨u6,rfl,hFr,hK⟩ hE
  have hM:=hM.add hK hFr
  refine Zd hE rfl fun a hE=>ZZ hE Za ld rfl rfl fun a hE=>ZZ hE Za ld rfl rfl fun a hE=>Zv hE hM Zr fun b7 w a hM hE=>Zc hE rfl fun a hE=>Zk (seg:=enc r4.2) (cs':=enc r4.2) hE hM Za rfl rfl rfl Zr (Flat.len _) (zle flq) (Flat.cell _) (Zh flq) fun w a hM hE=>Ze (Zb (Zd hE rfl fun a hE=>Zp hE rfl Zr rfl hM.rawAt0 (Flat.len _) ?_)); intro a hE
  obtain ⟨r9,e10,hF⟩:=bind_some hF
  refine Zy hE rfl (cbm Try.func40) (KL _ r4.1 u6 (hM.sl (pre:=[_]) noB) r4.2 r9 e10) ?_
  rintro v w a ⟨u11,u12,rfl,hFr,hK⟩ hE
  have hM:=hM.add hK hFr
  refine Zd hE rfl fun a hE=>ZZ hE Za ld rfl rfl fun a hE=>ZZ hE Za ld rfl rfl fun a hE=>Zv hE hM Wk fun b13 w a hM hE=>Zk (seg:=cat [[vI r9.1.Place],[u11],[u12]]) (cs':=cat [[vI r9.1.Place],[u11],[u12]]) hE hM Za rfl rfl rfl Wk cq (Nat.le_of_eq ((Nat.zero_add _).trans (Eq.trans cq (Eq.symm cq)))) (Y2 (cc1 (Flat.cell (r9.1.Place : Int)) (cc1 (Rep.cell (hM.sl (pre:=[_]) noB)) (cc1 (Rep.cell (hM.sl (pre:=[_,_]) noB)) cc0)))) (Zh (Eq.trans cq (Eq.symm cq))) fun w a hM hE=>Zc hE rfl fun a hE=>Ze (wp_seq (Zb (Zd hE rfl fun a hE=>Zp hE rfl Zr rfl hM.rawAt3 (Flat.len _) ?_))); intro a hE
  obtain ⟨r15,e16,hF⟩:=bind_some hF
  refine Zy hE rfl (cbm Try.func41) (TO _ r4.1 u6 (hM.sl (pre:=[_,_,_,_]) noB) r4.2 r15 e16) ?_
  rintro v w a ⟨u17,u18,rfl,hFr,hK⟩ hE
  have hM:=hM.add hK hFr
  refine Zd hE rfl fun a hE=>ZZ hE Za ld rfl rfl fun a hE=>ZZ hE Za ld rfl rfl fun a hE=>Zv hE hM Wk fun b19 w a hM hE=>Zk (seg:=cat [[vI r15.1.Place],[u17],[u18]]) (cs':=cat [[vI r15.1.Place],[u17],[u18]]) hE hM Za rfl rfl rfl Wk cq (Nat.le_of_eq ((Nat.zero_add _).trans (Eq.trans cq (Eq.symm cq)))) (Y2 (cc1 (Flat.cell (r15.1.Place : Int)) (cc1 (Rep.cell (hM.sl (pre:=[_]) noB)) (cc1 (Rep.cell (hM.sl (pre:=[_,_]) noB)) cc0)))) (Zh (Eq.trans cq (Eq.symm cq))) fun w a hM hE=>Zc hE rfl fun a hE=>Ze ?_
  obtain ⟨j21,hl22,hF23⟩:=bind_some hF
  refine ZB (fun a w=>Env 108 a [(0,v0_1),(3,u6),(4,(ptr b7 0)),(5,(ptr b13 0)),(6,vI r9.2),(44,vT j21)] ∧ M (Old w0) w0 w [raw b13 (cat [[vI r9.1.Place],[u11],[u12]]),osl NoB (r9.1.Neighbours : List (Vector UInt8 32)) u11,osl NoB (r9.1.Proofs : List (List (Vector UInt8 32))) u12,raw b7 (enc r4.2),osl NoB (r4.1 : List (Vector UInt8 32)) u6]) ?_ ?_
  ·skip
   refine wp_region_lit (Zd hE rfl fun a hE=>Zd hE rfl fun a hE=>Zl hE rfl rfl rfl fun a hE=>Zd hE rfl ?_); intro a hE
   refine YP (r9.2 != r15.2) (fun hb24=>?_) (fun hb24=>?_)
   ·have hl22:=Zt hl22 hb24
    refine Zm hE rfl (lkb rfl hb24) rfl (by decide) fun a hE=>Zm hE rfl (lkb rfl hb24) rfl (by decide) fun a hE=>Zm hE rfl (lkb rfl hb24) rfl (by decide) fun a hE=>Zm hE rfl (lkb rfl hb24) rfl (by decide) fun a hE=>YY hE (lkb rfl hb24) rfl fun a hE=>Zi ?_
    obtain rfl:=Option.some.inj hl22
    refine Zj ?_
    have hM:=M.fst (l:=[_,_,_,_,_]) hM.pull7.pull7.pull7.pull7.pull7
    exact ⟨hE.sub ⟨rfl,rfl,rfl,rfl,rfl,rfl,trivial⟩,hM⟩
   ·have hl22:=Zs hl22 hb24
    refine ZA hE (Zf hE rfl (lkb rfl hb24)) (by decide) rfl Wk rfl hM.rawAt3 cq fun a hE=>ZA hE (Zf hE rfl (lkb rfl hb24)) (by decide) rfl Wk rfl hM.rawAt0 cq ?_; intro a hE
    obtain ⟨r26,e27,hl22⟩:=bind_some hl22
    refine ZX hE (Zf hE rfl (lkb rfl hb24)) (by decide) rfl (cbm Try.func42) (Jx _ r9.1 u11 (hM.sl (pre:=[_,_,_,_]) noB) u12 (hM.sl (pre:=[_,_,_,_,_]) noB) r15.1 u17 (hM.sl (pre:=[_]) noB) u18 (hM.sl (pre:=[_,_]) noB) r26 e27) ?_
    rintro v w a ⟨rfl,hK⟩ hE
    have hM:=hM.keep hK
    refine UY hE (Zf hE rfl (lkb rfl hb24)) (by decide) rfl fun a hE=>YW hE (lkb rfl hb24) rfl fun a hE=>Zi ?_
    obtain rfl:=Option.some.inj hl22
    refine Zj ?_
    have hM:=M.fst (l:=[_,_,_,_,_]) hM.pull7.pull7.pull7.pull7.pull7
    exact ⟨hE.sub ⟨rfl,rfl,rfl,rfl,rfl,rfl,trivial⟩,hM⟩
  ·skip
   rintro a w ⟨hE,hM⟩
   refine Zq hE rfl ?_ ?_
   ·intro hb29
    have hF23:=Zt hF23 hb29
    refine Zb (Zc hE rfl fun a hE=>Ze ?_)
    obtain rfl:=Option.some.inj hF23
    exact wp_ret (ZL (kr1 hE rfl rfl hM.kept))
   ·intro hb29
    have hF23:=Zs hF23 hb29
    refine wp_skip (Zw (Zb (Zd hE rfl ?_))); intro a hE
    obtain ⟨r30,e31,hF23⟩:=bind_some hF23
    refine Zy hE rfl (cbm Try.func43) (Qm _ p0 v0_1 (hM.rdo hv0_1) r30 e31) ?_
    rintro v w a ⟨u32,u33,rfl,hFr,hK⟩ hE
    have hM:=hM.add hK hFr
    refine Zd hE rfl fun a hE=>ZZ hE Za ld rfl rfl fun a hE=>ZZ hE Za ld rfl rfl fun a hE=>ZZ hE Za ld rfl rfl fun a hE=>ZZ hE Za ld rfl rfl fun a hE=>Zv hE hM Zr fun b34 w a hM hE=>Zv hE hM Zr fun b36 w a hM hE=>Zv hE hM Wk ?_; intro b38 w a hM hE
    have hM:=hM.pull2
    refine Zk (seg:=enc r30.1) (cs':=enc r30.1) hE hM Za rfl rfl rfl Zr (Flat.len _) (zle flq) (Flat.cell _) (Zh flq) fun w a hM hE=>Zc hE rfl ?_; intro a hE
    have hM:=hM.pull2
    refine Zk (seg:=enc r30.2.2.1) (cs':=enc r30.2.2.1) hE hM Za rfl rfl rfl Zr (Flat.len _) (zle flq) (Flat.cell _) (Zh flq) ?_; intro w a hM hE
    have hM:=hM.pull2
    refine Zk (seg:=cat [[vI r30.2.2.2.Place],[u32],[u33]]) (cs':=cat [[vI r30.2.2.2.Place],[u32],[u33]]) hE hM Za rfl rfl rfl Wk cq (Nat.le_of_eq ((Nat.zero_add _).trans (Eq.trans cq (Eq.symm cq)))) (Y2 (cc1 (Flat.cell (r30.2.2.2.Place : Int)) (cc1 (Rep.cell (hM.sl (pre:=[_,_,_]) noB)) (cc1 (Rep.cell (hM.sl (pre:=[_,_,_,_]) noB)) cc0)))) (Zh (Eq.trans cq (Eq.symm cq))) fun w a hM hE=>Ze (wp_seq ?_)
    obtain ⟨j40,hl41,hF42⟩:=bind_some hF23
    refine ZB (fun a w=>Env 108 a [(3,u6),(4,(ptr b7 0)),(5,(ptr b13 0)),(6,vI r9.2),(62,vT j40)] ∧ M (Old w0) w0 w [raw b13 (cat [[vI r9.1.Place],[u11],[u12]]),osl NoB (r9.1.Neighbours : List (Vector UInt8 32)) u11,osl NoB (r9.1.Proofs : List (List (Vector UInt8 32))) u12,raw b7 (enc r4.2),osl NoB (r4.1 : List (Vector UInt8 32)) u6]) ?_ ?_
    ·skip
     obtain ⟨r44,e45,hl41⟩:=bind_some hl41
     obtain ⟨r46,e47,hl41⟩:=bind_some hl41
     refine ZP [52,53,54,55,56,57,58,59,60,61,62] Yr rfl rfl (by decide) rfl hE hM (qsP (fun z=>ZA z.E Za ld rfl Zr rfl (z.M.rawAt2) (Flat.len _) (kr0 rfl)) (qsP (fun z=>Zg z.E Za ld rfl (kr0 rfl)) (qsP (fun z=>ZA z.E Za ld rfl Zr rfl (z.M.rawAt1) (Flat.len _) (kr0 rfl)) (qsP (fun z=>ZA z.E Za ld rfl Wk rfl (z.M.rawAt0) cq (kr0 rfl)) (qsP (fun z=>ZX z.E Za ld rfl cb44 (UP _ r30.1 r30.2.1 r30.2.2.1 r30.2.2.2 u32 (z.M.sl (pre:=[_,_,_]) noB) u33 (z.M.sl (pre:=[_,_,_,_]) noB) r44 e45) (kc rfl)) (qsP (fun z=>ZA z.E Za ld rfl Zr rfl (z.M.rawAt2) (Flat.len _) (kr0 rfl)) (qsP (fun z=>Zg z.E Za ld rfl (kr0 rfl)) (qsP (fun z=>ZA z.E Za ld rfl Zr rfl (z.M.rawAt1) (Flat.len _) (kr0 rfl)) (qsP (fun z=>ZA z.E Za ld rfl Wk rfl (z.M.rawAt0) cq (kr0 rfl)) (qsP (fun z=>ZX z.E Za ld rfl (cbm Try.func45) (K0 _ r30.1 r30.2.1 r30.2.2.1 r30.2.2.2 u32 (z.M.sl (pre:=[_,_,_]) noB) u33 (z.M.sl (pre:=[_,_,_,_]) noB) r46 e47) (kc rfl)) (qsP (fun z=>s_neT z.E Za ld rfl rfl Try.underlying4 (kr0 rfl)) qs0))))))))))) ?_
     ·intro a w u hE hM
      refine Zi ?_
      obtain rfl:=Option.some.inj hl41
      refine Zj ?_
      have hM:=M.fst (l:=[_,_,_,_,_]) hM.pull9.pull9.pull9.pull9.pull9
      exact ⟨hE.sub ⟨rfl,rfl,rfl,rfl,rfl,trivial⟩,hM⟩
    ·skip
     rintro a w ⟨hE,hM⟩
     refine Zq hE rfl ?_ ?_
     ·intro hb49
      have hF42:=Zt hF42 hb49
      refine Zb (Zc hE rfl fun a hE=>Ze ?_)
      obtain rfl:=Option.some.inj hF42
      exact wp_ret (ZL (kr1 hE rfl rfl hM.kept))
     ·intro hb49
      have hF42:=Zs hF42 hb49
      refine wp_skip (Zw (wp_seq (Zb (Zd hE rfl fun a hE=>Zl hE rfl rfl rfl fun a hE=>Ze ?_))))
      refine Zq hE rfl ?_ ?_
      ·intro hb50
       have hF42:=Zt hF42 hb50
       refine Zb (ZJ hE rfl (WA) fun a hE=>ZQ (v:=u11) hE rfl VT rfl (At.cat (pre:=[[vI r9.1.Place]]) hM.rawAt0 ck) fun a hE=>Yq hE rfl Try.underlying80 (hM.sl (pre:=[_]) noB) fun a hE=>Zl hE rfl rfl rfl fun a hE=>Zc hE rfl fun a hE=>Ze ?_)
       obtain rfl:=Option.some.inj hF42
       exact wp_ret (ZL (kr1 hE rfl rfl hM.kept))
      ·intro hb50
       have hF42:=Zs hF42 hb50
       refine wp_skip (Zw (Zb (Zd hE rfl ?_))); intro a hE
       obtain ⟨r51,e52,hF42⟩:=bind_some hF42
       refine Zy hE rfl (cbm Try.func46) (HR _ r4.1 u6 (hM.sl (pre:=[_,_,_,_]) noB) r51 e52) ?_
       rintro v w a ⟨rfl,hK⟩ hE
       have hM:=hM.keep hK
       refine Zd hE rfl fun a hE=>ZZ hE Za ld rfl rfl fun a hE=>ZZ hE Za ld rfl rfl fun a hE=>Zv hE hM Zr fun b53 w a hM hE=>Zk (seg:=enc r51.1) (cs':=enc r51.1) hE hM Za rfl rfl rfl Zr (Flat.len _) (zle flq) (Flat.cell _) (Zh flq) fun w a hM hE=>Zc hE rfl fun a hE=>Ze (Zb (Zd hE rfl fun a hE=>Yq hE rfl Try.underlying80 (hM.sl (pre:=[_,_,_,_,_]) noB) fun a hE=>Zc hE rfl fun a hE=>Ze (wp_seq ?_)))
       obtain ⟨j55,hl56,hF57⟩:=bind_some hF42
       refine ZB (fun a w=>Env 108 a [(3,u6),(4,(ptr b7 0)),(5,(ptr b13 0)),(13,(ptr b53 0)),(15,(vI (r4.1.length : Int))),(85,vT j55)] ∧ M (Old w0) w0 w [raw b53 (enc r51.1),raw b13 (cat [[vI r9.1.Place],[u11],[u12]]),osl NoB (r9.1.Neighbours : List (Vector UInt8 32)) u11,osl NoB (r9.1.Proofs : List (List (Vector UInt8 32))) u12,raw b7 (enc r4.2),osl NoB (r4.1 : List (Vector UInt8 32)) u6]) ?_ ?_
       ·skip
        refine wp_region_lit (Zd hE rfl fun a hE=>Zl hE rfl rfl rfl fun a hE=>Zd hE rfl ?_); intro a hE
        refine YP (r51.2 != 0) (fun hb58=>?_) (fun hb58=>?_)
        ·have hl56:=Zt hl56 hb58
         refine Zm hE rfl (lkb rfl hb58) rfl (by decide) fun a hE=>Zm hE rfl (lkb rfl hb58) rfl (by decide) fun a hE=>Zm hE rfl (lkb rfl hb58) rfl (by decide) fun a hE=>Zm hE rfl (lkb rfl hb58) rfl (by decide) fun a hE=>Zm hE rfl (lkb rfl hb58) rfl (by decide) fun a hE=>Zm hE rfl (lkb rfl hb58) rfl (by decide) fun a hE=>YY hE (lkb rfl hb58) rfl fun a hE=>Zi ?_
         obtain rfl:=Option.some.inj hl56
         refine Zj ?_
         exact ⟨hE.sub ⟨rfl,rfl,rfl,rfl,rfl,rfl,trivial⟩,hM⟩
        ·have hl56:=Zs hl56 hb58
         refine ZA hE (Zf hE rfl (lkb rfl hb58)) (by decide) rfl Zr rfl hM.rawAt0 (Flat.len _) fun a hE=>Zg hE (Zf hE rfl (lkb rfl hb58)) (by decide) rfl fun a hE=>ZA hE (Zf hE rfl (lkb rfl hb58)) (by decide) rfl Zr rfl hM.rawAt4 (Flat.len _) fun a hE=>ZA hE (Zf hE rfl (lkb rfl hb58)) (by decide) rfl Wk rfl hM.rawAt1 cq ?_; intro a hE
         obtain ⟨r60,e61,hl56⟩:=bind_some hl56
         refine ZX hE (Zf hE rfl (lkb rfl hb58)) (by decide) rfl cb44 (UP _ r51.1 (r4.1.length : Int) r4.2 r9.1 u11 (hM.sl (pre:=[_,_]) noB) u12 (hM.sl (pre:=[_,_,_]) noB) r60 e61) ?_
         rintro v w a ⟨rfl,hK⟩ hE
         have hM:=hM.keep hK
         refine UY hE (Zf hE rfl (lkb rfl hb58)) (by decide) rfl fun a hE=>YW hE (lkb rfl hb58) rfl fun a hE=>Zi ?_
         obtain rfl:=Option.some.inj hl56
         refine Zj ?_
         exact ⟨hE.sub ⟨rfl,rfl,rfl,rfl,rfl,rfl,trivial⟩,hM⟩
       ·skip
        rintro a w ⟨hE,hM⟩
        refine Zq hE rfl ?_ ?_
        ·intro hb63
         have hF57:=Zt hF57 hb63
         refine Zb (Zc hE rfl fun a hE=>Ze ?_)
         obtain rfl:=Option.some.inj hF57
         exact wp_ret (ZL (kr1 hE rfl rfl hM.kept))
        ·intro hb63
         have hF57:=Zs hF57 hb63
         refine wp_skip (Zw (wp_seq (Zb (Zc hE rfl fun a hE=>Ze ?_))))
         obtain ⟨j64,hl65,hF66⟩:=bind_some hF57
         refine ZW (fun a w=>∃ s67 : Unit,j64 = Fl.nx s67 ∧ Env 108 a [] ∧ M (Old w0) w0 w []) ?_ ?_
         ·skip
          refine wp_block ?_
          refine ZM (fun (s68 : Int) a w=>Env 108 a [(3,u6),(4,(ptr b7 0)),(5,(ptr b13 0)),(13,(ptr b53 0)),(15,(vI (r4.1.length : Int))),(16,vI s68)] ∧ M (Old w0) w0 w [raw b53 (enc r51.1),raw b13 (cat [[vI r9.1.Place],[u11],[u12]]),osl NoB (r9.1.Neighbours : List (Vector UInt8 32)) u11,osl NoB (r9.1.Proofs : List (List (Vector UInt8 32))) u12,raw b7 (enc r4.2),osl NoB (r4.1 : List (Vector UInt8 32)) u6]) hl65 ⟨hE.sub ⟨rfl,rfl,rfl,rfl,rfl,rfl,trivial⟩,hM⟩ ?_
          rintro s68 a w ⟨hE,hM⟩ o71 hs69 hx70
          unfold Wm at hs69
          refine wp_seq (Zb (Zd hE rfl fun a hE=>Zd hE rfl fun a hE=>Yq hE rfl Try.underlying80 (hM.sl (pre:=[_,_,_,_,_]) noB) fun a hE=>Zl hE rfl rfl rfl fun a hE=>Ze ?_))
          refine Zq hE rfl ?_ ?_
          ·intro hb72
           have hs69:=Zt hs69 hb72
           refine wp_skip (Zw (wp_seq (wp_block ?_)))
           obtain ⟨j73,hl74,hF75⟩:=bind_some hs69
           refine ZB (fun a w=>Env 108 a [(3,u6),(4,(ptr b7 0)),(5,(ptr b13 0)),(13,(ptr b53 0)),(15,(vI (r4.1.length : Int))),(16,vI s68),(107,vT j73)] ∧ M (Old w0) w0 w [raw b53 (enc r51.1),raw b13 (cat [[vI r9.1.Place],[u11],[u12]]),osl NoB (r9.1.Neighbours : List (Vector UInt8 32)) u11,osl NoB (r9.1.Proofs : List (List (Vector UInt8 32))) u12,raw b7 (enc r4.2),osl NoB (r4.1 : List (Vector UInt8 32)) u6]) ?_ ?_
           ·skip
            obtain ⟨x77,hi79,hl74⟩:=bix hl74
            refine YP (decide (x77 = r4.2)) (fun hb80=>?_) (fun hb80=>?_)
            ·have hl74:=Zt hl74 hb80
             refine ZP [92,93,94,95,96,97,98,99,100,101,102,103,104,105,106,107] Yr rfl rfl (by decide) rfl hE hM (qsP (fun z=>Zg z.E Za ld rfl (kr0 rfl)) (qsP (fun z=>Zg z.E Za ld rfl (kr0 rfl)) (qsP (fun z=>Yi z.E Za ld rfl rfl Try.underlying80 Zr (z.M.sl (pre:=[_,_,_,_,_]) noB) hi79.1 (kr0 rfl)) (qsP (fun z=>ZA z.E Za ld rfl Zr rfl (YA (z.M.sl (pre:=[_,_,_,_,_]) noB) hi79.2) (Flat.len _) (kr0 rfl)) (qsP (fun z=>ZA z.E Za ld rfl Zr rfl (z.M.rawAt4) (Flat.len _) (kr0 rfl)) (qsP (fun z=>Aw z.E Za ld rfl rfl (U4 Try.underlying82 ty5 rfl false rfl (by decide) (Uw Try.underlying5)) (by decide) (by kernel_rfl) (kr0 rfl)) (qsP (fun z=>Zg z.E Za ld rfl (kr0 rfl)) (qsP (fun z=>Zm z.E rfl (lkb rfl hb80) rfl (by decide) (kr0 rfl)) (qsP (fun z=>Zm z.E rfl (lkb rfl hb80) rfl (by decide) (kr0 rfl)) (qsP (fun z=>Zm z.E rfl (lkb rfl hb80) rfl (by decide) (kr0 rfl)) (qsP (fun z=>Zm z.E rfl (lkb rfl hb80) rfl (by decide) (kr0 rfl)) (qsP (fun z=>Zm z.E rfl (lkb rfl hb80) rfl (by decide) (kr0 rfl)) (qsP (fun z=>Zm z.E rfl (lkb rfl hb80) rfl (by decide) (kr0 rfl)) (qsP (fun z=>Zm z.E rfl (lkb rfl hb80) rfl (by decide) (kr0 rfl)) (qsP (fun z=>Zm z.E rfl (lkb rfl hb80) rfl (by decide) (kr0 rfl)) (qsP (fun z=>Vo z.E Za ld (lkb rfl hb80) rfl (kr0 rfl)) qs0)))))))))))))))) ?_
             ·intro a w u hE hM
              refine Zi ?_
              obtain rfl:=Option.some.inj hl74
              refine Zj ?_
              exact ⟨hE.sub ⟨rfl,rfl,rfl,rfl,rfl,rfl,rfl,trivial⟩,hM⟩
            ·have hl74:=Zs hl74 hb80
             obtain ⟨x82,hi84,hl74⟩:=bix hl74
             obtain ⟨r85,e86,hl74⟩:=bind_some hl74
             refine ZP [92,93,94,95,96,97,98,99,100,101,102,103,104,105,106,107] Yr rfl rfl (by decide) rfl hE hM (qsP (fun z=>Zg z.E Za ld rfl (kr0 rfl)) (qsP (fun z=>Zg z.E Za ld rfl (kr0 rfl)) (qsP (fun z=>Yi z.E Za ld rfl rfl Try.underlying80 Zr (z.M.sl (pre:=[_,_,_,_,_]) noB) hi79.1 (kr0 rfl)) (qsP (fun z=>ZA z.E Za ld rfl Zr rfl (YA (z.M.sl (pre:=[_,_,_,_,_]) noB) hi79.2) (Flat.len _) (kr0 rfl)) (qsP (fun z=>ZA z.E Za ld rfl Zr rfl (z.M.rawAt4) (Flat.len _) (kr0 rfl)) (qsP (fun z=>Aw z.E Za ld rfl rfl (U4 Try.underlying82 ty5 rfl false rfl (by decide) (Uw Try.underlying5)) (by decide) (by kernel_rfl) (kr0 rfl)) (qsP (fun z=>Zg z.E Za ld rfl (kr0 rfl)) (qsP (fun z=>ZA z.E (Zf z.E rfl (lkb rfl hb80)) (by decide) rfl Zr rfl (z.M.rawAt0) (Flat.len _) (kr0 rfl)) (qsP (fun z=>Zg z.E (Zf z.E rfl (lkb rfl hb80)) (by decide) rfl (kr0 rfl)) (qsP (fun z=>Zg z.E (Zf z.E rfl (lkb rfl hb80)) (by decide) rfl (kr0 rfl)) (qsP (fun z=>Zg z.E (Zf z.E rfl (lkb rfl hb80)) (by decide) rfl (kr0 rfl)) (qsP (fun z=>Yi z.E (Zf z.E rfl (lkb rfl hb80)) (by decide) rfl rfl Try.underlying80 Zr (z.M.sl (pre:=[_,_,_,_,_]) noB) hi84.1 (kr0 rfl)) (qsP (fun z=>ZA z.E (Zf z.E rfl (lkb rfl hb80)) (by decide) rfl Zr rfl (YA (z.M.sl (pre:=[_,_,_,_,_]) noB) hi84.2) (Flat.len _) (kr0 rfl)) (qsP (fun z=>ZA z.E (Zf z.E rfl (lkb rfl hb80)) (by decide) rfl Wk rfl (z.M.rawAt1) cq (kr0 rfl)) (qsP (fun z=>ZX z.E (Zf z.E rfl (lkb rfl hb80)) (by decide) rfl cb44 (UP _ r51.1 (r4.1.length : Int) x82 r9.1 u11 (z.M.sl (pre:=[_,_]) noB) u12 (z.M.sl (pre:=[_,_,_]) noB) r85 e86) (kc rfl)) (qsP (fun z=>WN z.E Za ld (lkb rfl hb80) rfl (kr0 rfl)) qs0)))))))))))))))) ?_
             ·intro a w u hE hM
              refine Zi ?_
              obtain rfl:=Option.some.inj hl74
              refine Zj ?_
              exact ⟨hE.sub ⟨rfl,rfl,rfl,rfl,rfl,rfl,rfl,trivial⟩,hM⟩
           ·skip
            rintro a w ⟨hE,hM⟩
            refine Zq hE rfl ?_ ?_
            ·intro hb88
             have hF75:=Zt hF75 hb88
             refine Zb (Zc hE rfl fun a hE=>Ze ?_)
             obtain rfl:=hx70 _ (ois hF75)
             obtain rfl:=Option.some.inj hF66
             exact wp_ret (Vj (ZL (ZL (Vj (ZL (ZL (kr1 hE rfl rfl hM.kept)))))))
            ·intro hb88
             have hF75:=Zs hF75 hb88
             refine wp_skip (Yv (Zw (wp_region_lit (Zd hE rfl fun a hE=>Zl hE rfl rfl rfl fun a hE=>Zc hE rfl fun a hE=>Zi (Zj ?_)))))
             exact ⟨_,(ois hF75),hE.sub ⟨rfl,rfl,rfl,rfl,rfl,rfl,trivial⟩,hM⟩
          ·intro hb72
           have hs69:=Zs hs69 hb72
           refine wp_exit (Zn (Zn (Yy ?_)))
           obtain rfl:=hx70 _ (ois hs69)
           refine Zj ?_
           have hM:=M.fst (l:=[]) hM
           exact ⟨(),rfl,hE.sub trivial,hM⟩
         ·skip
          rintro a w ⟨s67,ht,hE,hM⟩
          subst ht
          have hF66:=Ki hF66
          refine Zw (Zb (Zc hE rfl fun a hE=>Ze ?_))
          obtain rfl:=Option.some.inj hF66
          exact wp_ret (kr1 hE rfl rfl hM.kept)
end

end Go.Proofs.Ytkajmkegelcfjaa
