/- The walk of what the law reaches: contracts of functions. -/
import Derived.Test.YtifdeoikcebbjaaGreatC3
set_option linter.unusedVariables false
set_option linter.unusedSimpArgs false
set_option maxRecDepth 20000
set_option maxHeartbeats 400000
namespace Go.Proofs.YtifdeoikcebbjaaGreat
open Go
open Flat (enc)
noncomputable section
theorem QN (w0 : World) (p0 : GVault) (v0_1 : Value) (hv0_1 : Ro w0 p0.Keys [v0_1]) (v0_2 : Value) (hv0_2 : Ro w0 p0.Records [v0_2]) (v0_3 : Value) (hv0_3 : Ro w0 p0.Events [v0_3]) (p1 : (Vector UInt8 16)) (r : GVault × Int) (hF : Wx p0 p1 = some r) :
  Calls Tryz.prog 37 [(Value.agg (cat [[v0_1],[vI p0.Next],[v0_2],[v0_3],enc p0.Head]).toArray),(Value.agg (enc p1).toArray)].toArray w0 (fun en w'=>∃ v,en = .returned v ∧ (∃ (y1 : Value) (y2 : Value) (y3 : Value),v = (Value.tuple [(Value.agg (cat [[y1],[vI r.1.Next],[y2],[y3],enc r.1.Head]).toArray),vI r.2].toArray) ∧ Fr w0 w' [osl NoB (r.1.Keys : List (Vector UInt8 16)) y1,osl NoB (r.1.Records : List GRecord) y2,osl NoB (r.1.Events : List GEvent) y3] ∧ Kept (Old w0) w0 w')):=by
 refine ZD (n:=45) Tryz.func37 rfl rfl (nbl rfl) rfl ?_
 intro a hE
 have hM:=M.start w0
 unfold Wx at hF
 refine Zc (ZY (cs:=cat [[v0_1],[vI p0.Next],[v0_2],[v0_3],enc p0.Head]) hE hM Za ld rfl rfl fun b1 w a hM hE=>ZY (cs:=enc p1) hE hM Za ld rfl rfl fun b3 w a hM hE=>ZE hE hM Za ld Yx fun b5 w a hM hE=>Ze hE Za ld rfl fun a hE=>Zf (wp_seq (wp_block (Zc (Zm (cs:=cat [[v0_1],[vI p0.Next],[v0_2],[v0_3],enc p0.Head]) hE Za ld rfl Yx rfl (hM.rawAt (pre:=[_,_])) (Zh (cl1 (n:=1) (m:=35) rfl (cl1 (n:=1) (m:=34) rfl (cl1 (n:=1) (m:=33) rfl (cl1 (n:=1) (m:=32) rfl (cl1 (n:=32) (m:=0) (Flat.len _) cl0)))))) ?_))))); intro a hE
 obtain ⟨r7,e8,hF⟩:=bind_some hF
 refine Zt hE Za ld rfl cb108 (Bu _ p0 v0_1 (hM.rdo hv0_1) v0_2 (hM.rdo hv0_2) v0_3 (hM.rdo hv0_3) r7 e8) ?_
 rintro v w a ⟨rfl,hK⟩ hE
 have hM:=hM.keep hK
 refine WJ hE Za ld rfl fun a hE=>Ze hE Za ld rfl fun a hE=>Zf ?_
 refine Zs hE rfl ?_ ?_
 ·intro hb9
  have hF:=ZA hF hb9
  refine Zc (XO (parts:=[]) (vs:=[]) (cs:=cat [[(Value.slice none 0 0)],[vI 0],[(Value.slice none 0 0)],[(Value.slice none 0 0)],enc (Vector.replicate 32 (0 : UInt8))]) hE Za ld rfl rfl Yx yl VU fun a hE=>Zo (seg:=cat [[(Value.slice none 0 0)],[vI 0],[(Value.slice none 0 0)],[(Value.slice none 0 0)],enc (Vector.replicate 32 (0 : UInt8))]) (cs':=cat [[(Value.slice none 0 0)],[vI 0],[(Value.slice none 0 0)],[(Value.slice none 0 0)],enc (Vector.replicate 32 (0 : UInt8))]) hE hM Za rfl rfl rfl Yx (Zh (cl1 (n:=1) (m:=35) rfl (cl1 (n:=1) (m:=34) rfl (cl1 (n:=1) (m:=33) rfl (cl1 (n:=1) (m:=32) rfl (cl1 (n:=32) (m:=0) (Flat.len _) cl0)))))) (Nat.le_of_eq ((Nat.zero_add _).trans (Eq.trans (Zh (cl1 (n:=1) (m:=35) rfl (cl1 (n:=1) (m:=34) rfl (cl1 (n:=1) (m:=33) rfl (cl1 (n:=1) (m:=32) rfl (cl1 (n:=32) (m:=0) (Flat.len _) cl0)))))) (Eq.symm (Zh (cl1 (n:=1) (m:=35) rfl (cl1 (n:=1) (m:=34) rfl (cl1 (n:=1) (m:=33) rfl (cl1 (n:=1) (m:=32) rfl (cl1 (n:=32) (m:=0) (Flat.len _) cl0)))))))))) (Z5 (cc1 X9 (cc1 (Flat.cell (0 : Int)) (cc1 X9 (cc1 X9 (cc1 (Flat.cell _) cc0)))))) (Zl (Eq.trans (Zh (cl1 (n:=1) (m:=35) rfl (cl1 (n:=1) (m:=34) rfl (cl1 (n:=1) (m:=33) rfl (cl1 (n:=1) (m:=32) rfl (cl1 (n:=32) (m:=0) (Flat.len _) cl0)))))) (Eq.symm (Zh (cl1 (n:=1) (m:=35) rfl (cl1 (n:=1) (m:=34) rfl (cl1 (n:=1) (m:=33) rfl (cl1 (n:=1) (m:=32) rfl (cl1 (n:=32) (m:=0) (Flat.len _) cl0))))))))) fun w a hM hE=>Ze hE Za ld rfl fun a hE=>Zf ?_)
  have hM:=M.nilS (α:=GEvent) NoB noB (M.nilS (α:=GRecord) NoB noB (M.nilS (α:=(Vector UInt8 16)) NoB noB hM))
  have hr:=Option.some.inj hF
  subst hr
  have hq13 : Yw Tryz.prog _ _ (.cell 4 36) _:=ZO hE rfl Yx rfl (hM.rawAt (pre:=[_,_,_])) (Zh (cl1 (n:=1) (m:=35) rfl (cl1 (n:=1) (m:=34) rfl (cl1 (n:=1) (m:=33) rfl (cl1 (n:=1) (m:=32) rfl (cl1 (n:=32) (m:=0) (Flat.len _) cl0)))))) rfl
  have hM:=M.fst (l:=[_,_,_]) ((hM.pull (pre:=[_])).pull (pre:=[_,_]))
  exact wp_ret (Yj (Zx (Qv hE rfl hq13 (Zu hE rfl) ⟨_,rfl,(Value.slice none 0 0),(Value.slice none 0 0),(Value.slice none 0 0),rfl,hM.outF (Yo (Yo (Yo Xs))),hM.kept⟩)))
 ·intro hb9
  have hF:=ZB hF hb9
  refine Zc (Zg hE Za ld rfl (Wl) fun a hE=>Zp (v:=v0_1) hE Za ld rfl T1 rfl (At.cat (pre:=[]) (hM.rawAt (pre:=[_,_])) cl0) fun a hE=>Zm (cs:=enc p1) hE Za ld rfl ZH rfl (hM.rawAt (pre:=[_])) (Flat.len _) ?_); intro a hE
  obtain ⟨r14,e15,hF⟩:=bind_some hF
  refine Zt hE Za ld rfl cb109 (UI _ p0.Keys v0_1 (hM.rdo hv0_1) p1 r14 e15) ?_
  rintro v w a ⟨rfl,hK⟩ hE
  have hM:=hM.keep hK
  refine Ze hE Za ld rfl fun a hE=>Zf ?_
  refine Zs hE rfl ?_ ?_
  ·intro hb16
   have hF:=ZA hF hb16
   refine Zc (XO (parts:=[]) (vs:=[]) (cs:=cat [[(Value.slice none 0 0)],[vI 0],[(Value.slice none 0 0)],[(Value.slice none 0 0)],enc (Vector.replicate 32 (0 : UInt8))]) hE Za ld rfl rfl Yx yl VU fun a hE=>Zo (seg:=cat [[(Value.slice none 0 0)],[vI 0],[(Value.slice none 0 0)],[(Value.slice none 0 0)],enc (Vector.replicate 32 (0 : UInt8))]) (cs':=cat [[(Value.slice none 0 0)],[vI 0],[(Value.slice none 0 0)],[(Value.slice none 0 0)],enc (Vector.replicate 32 (0 : UInt8))]) hE hM Za rfl rfl rfl Yx (Zh (cl1 (n:=1) (m:=35) rfl (cl1 (n:=1) (m:=34) rfl (cl1 (n:=1) (m:=33) rfl (cl1 (n:=1) (m:=32) rfl (cl1 (n:=32) (m:=0) (Flat.len _) cl0)))))) (Nat.le_of_eq ((Nat.zero_add _).trans (Eq.trans (Zh (cl1 (n:=1) (m:=35) rfl (cl1 (n:=1) (m:=34) rfl (cl1 (n:=1) (m:=33) rfl (cl1 (n:=1) (m:=32) rfl (cl1 (n:=32) (m:=0) (Flat.len _) cl0)))))) (Eq.symm (Zh (cl1 (n:=1) (m:=35) rfl (cl1 (n:=1) (m:=34) rfl (cl1 (n:=1) (m:=33) rfl (cl1 (n:=1) (m:=32) rfl (cl1 (n:=32) (m:=0) (Flat.len _) cl0)))))))))) (Z5 (cc1 X9 (cc1 (Flat.cell (0 : Int)) (cc1 X9 (cc1 X9 (cc1 (Flat.cell _) cc0)))))) (Zl (Eq.trans (Zh (cl1 (n:=1) (m:=35) rfl (cl1 (n:=1) (m:=34) rfl (cl1 (n:=1) (m:=33) rfl (cl1 (n:=1) (m:=32) rfl (cl1 (n:=32) (m:=0) (Flat.len _) cl0)))))) (Eq.symm (Zh (cl1 (n:=1) (m:=35) rfl (cl1 (n:=1) (m:=34) rfl (cl1 (n:=1) (m:=33) rfl (cl1 (n:=1) (m:=32) rfl (cl1 (n:=32) (m:=0) (Flat.len _) cl0))))))))) fun w a hM hE=>Ze hE Za ld rfl fun a hE=>Zf ?_)
   have hM:=M.nilS (α:=GEvent) NoB noB (M.nilS (α:=GRecord) NoB noB (M.nilS (α:=(Vector UInt8 16)) NoB noB hM))
   have hr:=Option.some.inj hF
   subst hr
   have hq20 : Yw Tryz.prog _ _ (.cell 4 36) _:=ZO hE rfl Yx rfl (hM.rawAt (pre:=[_,_,_])) (Zh (cl1 (n:=1) (m:=35) rfl (cl1 (n:=1) (m:=34) rfl (cl1 (n:=1) (m:=33) rfl (cl1 (n:=1) (m:=32) rfl (cl1 (n:=32) (m:=0) (Flat.len _) cl0)))))) rfl
   have hM:=M.fst (l:=[_,_,_]) ((hM.pull (pre:=[_])).pull (pre:=[_,_]))
   exact wp_ret (Yj (Zx (Qv hE rfl hq20 (Zu hE rfl) ⟨_,rfl,(Value.slice none 0 0),(Value.slice none 0 0),(Value.slice none 0 0),rfl,hM.outF (Yo (Yo (Yo Xs))),hM.kept⟩)))
  ·intro hb16
   have hF:=ZB hF hb16
   obtain ⟨j21,hl22,hF23⟩:=bind_some hF
   refine ZS (fun a w=>Env 45 a [(2,(ptr b1 0)),(3,(ptr b3 0)),(4,(ptr b5 0)),(18,vT j21)] ∧ M (Old w0) w0 w [raw b5 (cat [[(Value.slice none 0 0)],[vI 0],[(Value.slice none 0 0)],[(Value.slice none 0 0)],enc (Vector.replicate 32 (0 : UInt8))]),raw b3 (enc p1),raw b1 (cat [[v0_1],[vI p0.Next],[v0_2],[v0_3],enc p0.Head])]) ?_ ?_
   ·skip
    refine wp_region_lit (Zg hE Za ld rfl (Wl) fun a hE=>Zp (v:=v0_1) hE Za ld rfl T1 rfl (At.cat (pre:=[]) (hM.rawAt (pre:=[_,_])) cl0) fun a hE=>Z3 hE Za ld rfl Tryz.underlying32 (hM.rd hv0_1) fun a hE=>Zi hE Za ld rfl rfl rfl fun a hE=>Zd hE Za ld rfl ?_); intro a hE
    refine XL ((p0.Keys.length : Int) == 8) (fun hb24=>?_) (fun hb24=>?_)
    ·have hl22:=ZA hl22 hb24
     refine Zv hE rfl (lkb rfl hb24) rfl (by decide) fun a hE=>Zv hE rfl (lkb rfl hb24) rfl (by decide) fun a hE=>Zv hE rfl (lkb rfl hb24) rfl (by decide) fun a hE=>Zv hE rfl (lkb rfl hb24) rfl (by decide) fun a hE=>Z4 hE Za ld (lkb rfl hb24) rfl fun a hE=>Ze hE Za ld rfl fun a hE=>Zj ?_
     have ht25:=Option.some.inj hl22
     subst ht25
     refine Zn ?_
     exact ⟨hE.sub ⟨rfl,rfl,rfl,rfl,trivial⟩,hM⟩
    ·have hl22:=ZB hl22 hb24
     refine Zg hE (Zw hE rfl (lkb rfl hb24)) (by decide) rfl (VH) fun a hE=>Zp (v:=v0_3) hE (Zw hE rfl (lkb rfl hb24)) (by decide) rfl QI rfl (At.cat (pre:=[[v0_1],[vI p0.Next],[v0_2]]) (hM.rawAt (pre:=[_,_])) (cl1 (n:=1) (m:=2) rfl (cl1 (n:=1) (m:=1) rfl (cl1 (n:=1) (m:=0) rfl cl0)))) fun a hE=>Z3 hE (Zw hE rfl (lkb rfl hb24)) (by decide) rfl Tryz.underlying34 (hM.rd hv0_3) fun a hE=>Zi hE (Zw hE rfl (lkb rfl hb24)) (by decide) rfl rfl rfl fun a hE=>YM hE Za ld (lkb rfl hb24) rfl fun a hE=>Ze hE Za ld rfl fun a hE=>Zj ?_
     have ht26:=Option.some.inj hl22
     subst ht26
     refine Zn ?_
     exact ⟨hE.sub ⟨rfl,rfl,rfl,rfl,trivial⟩,hM⟩
   ·skip
    rintro a w ⟨hE,hM⟩
    refine Zs hE rfl ?_ ?_
    ·intro hb27
     have hF23:=ZA hF23 hb27
     refine Zc (XO (parts:=[]) (vs:=[]) (cs:=cat [[(Value.slice none 0 0)],[vI 0],[(Value.slice none 0 0)],[(Value.slice none 0 0)],enc (Vector.replicate 32 (0 : UInt8))]) hE Za ld rfl rfl Yx yl VU fun a hE=>Zo (seg:=cat [[(Value.slice none 0 0)],[vI 0],[(Value.slice none 0 0)],[(Value.slice none 0 0)],enc (Vector.replicate 32 (0 : UInt8))]) (cs':=cat [[(Value.slice none 0 0)],[vI 0],[(Value.slice none 0 0)],[(Value.slice none 0 0)],enc (Vector.replicate 32 (0 : UInt8))]) hE hM Za rfl rfl rfl Yx (Zh (cl1 (n:=1) (m:=35) rfl (cl1 (n:=1) (m:=34) rfl (cl1 (n:=1) (m:=33) rfl (cl1 (n:=1) (m:=32) rfl (cl1 (n:=32) (m:=0) (Flat.len _) cl0)))))) (Nat.le_of_eq ((Nat.zero_add _).trans (Eq.trans (Zh (cl1 (n:=1) (m:=35) rfl (cl1 (n:=1) (m:=34) rfl (cl1 (n:=1) (m:=33) rfl (cl1 (n:=1) (m:=32) rfl (cl1 (n:=32) (m:=0) (Flat.len _) cl0)))))) (Eq.symm (Zh (cl1 (n:=1) (m:=35) rfl (cl1 (n:=1) (m:=34) rfl (cl1 (n:=1) (m:=33) rfl (cl1 (n:=1) (m:=32) rfl (cl1 (n:=32) (m:=0) (Flat.len _) cl0)))))))))) (Z5 (cc1 X9 (cc1 (Flat.cell (0 : Int)) (cc1 X9 (cc1 X9 (cc1 (Flat.cell _) cc0)))))) (Zl (Eq.trans (Zh (cl1 (n:=1) (m:=35) rfl (cl1 (n:=1) (m:=34) rfl (cl1 (n:=1) (m:=33) rfl (cl1 (n:=1) (m:=32) rfl (cl1 (n:=32) (m:=0) (Flat.len _) cl0)))))) (Eq.symm (Zh (cl1 (n:=1) (m:=35) rfl (cl1 (n:=1) (m:=34) rfl (cl1 (n:=1) (m:=33) rfl (cl1 (n:=1) (m:=32) rfl (cl1 (n:=32) (m:=0) (Flat.len _) cl0))))))))) fun w a hM hE=>Ze hE Za ld rfl fun a hE=>Zf ?_)
     have hM:=M.nilS (α:=GEvent) NoB noB (M.nilS (α:=GRecord) NoB noB (M.nilS (α:=(Vector UInt8 16)) NoB noB hM))
     have hr:=Option.some.inj hF23
     subst hr
     have hq31 : Yw Tryz.prog _ _ (.cell 4 36) _:=ZO hE rfl Yx rfl (hM.rawAt (pre:=[_,_,_])) (Zh (cl1 (n:=1) (m:=35) rfl (cl1 (n:=1) (m:=34) rfl (cl1 (n:=1) (m:=33) rfl (cl1 (n:=1) (m:=32) rfl (cl1 (n:=32) (m:=0) (Flat.len _) cl0)))))) rfl
     have hM:=M.fst (l:=[_,_,_]) ((hM.pull (pre:=[_])).pull (pre:=[_,_]))
     exact wp_ret (Yj (Zx (Qv hE rfl hq31 (Zu hE rfl) ⟨_,rfl,(Value.slice none 0 0),(Value.slice none 0 0),(Value.slice none 0 0),rfl,hM.outF (Yo (Yo (Yo Xs))),hM.kept⟩)))
    ·intro hb27
     have hF23:=ZB hF23 hb27
     refine wp_skip (Yb (Zz (Zc (Zm (cs:=cat [[v0_1],[vI p0.Next],[v0_2],[v0_3],enc p0.Head]) hE Za ld rfl Yx rfl (hM.rawAt (pre:=[_,_])) (Zh (cl1 (n:=1) (m:=35) rfl (cl1 (n:=1) (m:=34) rfl (cl1 (n:=1) (m:=33) rfl (cl1 (n:=1) (m:=32) rfl (cl1 (n:=32) (m:=0) (Flat.len _) cl0)))))) ?_)))); intro a hE
     obtain ⟨r32,e33,hF23⟩:=bind_some hF23
     refine Zt hE Za ld rfl cb110 (Jf _ p0 v0_1 (hM.rdo hv0_1) v0_2 (hM.rdo hv0_2) v0_3 (hM.rdo hv0_3) r32 e33) ?_
     rintro v w a ⟨u34,u35,u36,rfl,hFr,hK⟩ hE
     have hM:=hM.add hK hFr
     refine ZE hE hM Za ld Yx fun b37 w a hM hE=>Zo (seg:=cat [[u34],[vI r32.Next],[u35],[u36],enc r32.Head]) (cs':=cat [[u34],[vI r32.Next],[u35],[u36],enc r32.Head]) hE hM Za rfl rfl rfl Yx (Zh (cl1 (n:=1) (m:=35) rfl (cl1 (n:=1) (m:=34) rfl (cl1 (n:=1) (m:=33) rfl (cl1 (n:=1) (m:=32) rfl (cl1 (n:=32) (m:=0) (Flat.len _) cl0)))))) (Nat.le_of_eq ((Nat.zero_add _).trans (Eq.trans (Zh (cl1 (n:=1) (m:=35) rfl (cl1 (n:=1) (m:=34) rfl (cl1 (n:=1) (m:=33) rfl (cl1 (n:=1) (m:=32) rfl (cl1 (n:=32) (m:=0) (Flat.len _) cl0)))))) (Eq.symm (Zh (cl1 (n:=1) (m:=35) rfl (cl1 (n:=1) (m:=34) rfl (cl1 (n:=1) (m:=33) rfl (cl1 (n:=1) (m:=32) rfl (cl1 (n:=32) (m:=0) (Flat.len _) cl0)))))))))) (Z5 (cc1 (Rep.cell (hM.sl (pre:=[_]) noB)) (cc1 (Flat.cell (r32.Next : Int)) (cc1 (Rep.cell (hM.sl (pre:=[_,_]) noB)) (cc1 (Rep.cell (hM.sl (pre:=[_,_,_]) noB)) (cc1 (Flat.cell _) cc0)))))) (Zl (Eq.trans (Zh (cl1 (n:=1) (m:=35) rfl (cl1 (n:=1) (m:=34) rfl (cl1 (n:=1) (m:=33) rfl (cl1 (n:=1) (m:=32) rfl (cl1 (n:=32) (m:=0) (Flat.len _) cl0)))))) (Eq.symm (Zh (cl1 (n:=1) (m:=35) rfl (cl1 (n:=1) (m:=34) rfl (cl1 (n:=1) (m:=33) rfl (cl1 (n:=1) (m:=32) rfl (cl1 (n:=32) (m:=0) (Flat.len _) cl0))))))))) fun w a hM hE=>Zf (Zc (Zg hE Za ld rfl (Wl) fun a hE=>Zp (v:=u34) hE Za ld rfl T1 rfl (At.cat (pre:=[]) (hM.rawAt (pre:=[])) cl0) fun a hE=>Zm (cs:=enc p1) hE Za ld rfl ZH rfl (hM.rawAt (pre:=[_,_,_,_,_])) (Flat.len _) fun a hE=>Yk (xs:=[.tmp 34]) (l:=([p1] : List (Vector UInt8 16))) (vs:=[(Value.agg (enc p1).toArray)]) hE hM Za ld rfl rfl Tryz.underlying32 ZH rfl (by decide) rfl ?_)); intro u39 w a hM hE
     obtain ⟨l41,e42,hF23⟩:=bind_some hF23
     obtain ⟨e45,rfl⟩:=Yv e42
     have hM:=hM.pull (pre:=[_,_])
     refine Yn hE hM Za ld rfl rfl (hM.sl (pre:=[_]) noB) Tryz.underlying32 ZH rfl (by decide) e45 fun u43 w a hM hE=>Zg hE Za ld rfl (Wl) ?_; intro a hE
     have hM:=hM.pull (pre:=[_,_])
     refine Zo (seg:=[u43]) hE hM Za rfl rfl (YD (hM.sl (pre:=[_]) noB)) T1 rfl (YO (pre:=[]) cl0 rfl) (Rep.cell (hM.sl (pre:=[_]) noB)) (ZX (pre:=[]) cl0 rfl) fun w a hM hE=>Zf ?_
     obtain ⟨j46,hl47,hF48⟩:=bind_some hF23
     refine ZS (fun a w=>∃ (u49 : Value) (u51 : Value) (u53 : Value),Env 45 a [(4,(ptr b5 0)),(5,vI j46.2.2.2.2.2)] ∧ M (Old w0) w0 w [raw b5 (cat [[u49],[vI j46.2.1],[u51],[u53],enc j46.2.2.2.2.1]),osl NoB (j46.1 : List (Vector UInt8 16)) u49,osl NoB (j46.2.2.1 : List GRecord) u51,osl NoB (j46.2.2.2.1 : List GEvent) u53]) ?_ ?_
     ·skip
      obtain ⟨r56,e57,hl47⟩:=bind_some hl47
      obtain ⟨r59,e60,hl47⟩:=bind_some hl47
      refine QY (n:=45) (hd:=[_,_,_,_,_,_]) (tl:=[_,_,_]) (its:=[raw b37 (cat [[u43],[vI r32.Next],[u35],[u36],enc r32.Head]),osl NoB ((r32.Keys ++ ([p1] : List (Vector UInt8 16))) : List (Vector UInt8 16)) u43,osl NoB (([p1] : List (Vector UInt8 16)) : List (Vector UInt8 16)) u39,osl NoB (r32.Records : List GRecord) u35,osl NoB (r32.Events : List GEvent) u36,raw b5 (cat [[(Value.slice none 0 0)],[vI 0],[(Value.slice none 0 0)],[(Value.slice none 0 0)],enc (Vector.replicate 32 (0 : UInt8))]),raw b3 (enc p1),raw b1 (cat [[v0_1],[vI p0.Next],[v0_2],[v0_3],enc p0.Head])]) Y0 rfl rfl [38,39,40,41,42,43] (by decide) [(0,fun v=>own NoB (r56 : (Ref Gengine)) [v])] rfl (fun j=>([fun v=>True,fun v=>v = (Value.agg (cat [[u43],[vI r32.Next],[u35],[u36],enc r32.Head]).toArray),fun v=>v = (ptr b1 (0 + 0)),fun v=>v = v0_1,fun v=>v = (vI r59),fun v=>v = (Value.agg (cat [[vI 3],[vI r59],enc (Vector.replicate 32 (0 : UInt8))]).toArray)] : List (Value → Prop)).getD j (fun _=>True)) hE hM.drew (ZK (Zb ?_ (Zb ?_ (Zb ?_ (Zb ?_ (Zb ?_ (Zb ?_ ZF))))))) ?_
      ·intro a w ux55 D hE hM hD hp
       have hM0:=hM
       have hM : M (Old w0) w0 w [raw b37 (cat [[u43],[vI r32.Next],[u35],[u36],enc r32.Head]),osl NoB ((r32.Keys ++ ([p1] : List (Vector UInt8 16))) : List (Vector UInt8 16)) u43,osl NoB (([p1] : List (Vector UInt8 16)) : List (Vector UInt8 16)) u39,osl NoB (r32.Records : List GRecord) u35,osl NoB (r32.Events : List GEvent) u36,raw b5 (cat [[(Value.slice none 0 0)],[vI 0],[(Value.slice none 0 0)],[(Value.slice none 0 0)],enc (Vector.replicate 32 (0 : UInt8))]),raw b3 (enc p1),raw b1 (cat [[v0_1],[vI p0.Next],[v0_2],[v0_3],enc p0.Head]),opt (D 0) (own NoB (r56 : (Ref Gengine)) [(ux55 0)])]:=hM
       refine Zt hE Za ld rfl cb60 (K9 _  r56 e57) ?_
       rintro _ w a ⟨_,rfl,hFr,hK⟩ hE
       have hM:=hM0.add hK hFr
       exact ⟨_,_,rfl,hE,trivial,M.optFill (mk1:=[]) (mk2:=[]) (f:=(fun v=>own NoB (r56 : (Ref Gengine)) [v])) hM rfl hD⟩
      ·intro a w ux55 D hE hM hD hp
       have hM0:=hM
       have hM : M (Old w0) w0 w [raw b37 (cat [[u43],[vI r32.Next],[u35],[u36],enc r32.Head]),osl NoB ((r32.Keys ++ ([p1] : List (Vector UInt8 16))) : List (Vector UInt8 16)) u43,osl NoB (([p1] : List (Vector UInt8 16)) : List (Vector UInt8 16)) u39,osl NoB (r32.Records : List GRecord) u35,osl NoB (r32.Events : List GEvent) u36,raw b5 (cat [[(Value.slice none 0 0)],[vI 0],[(Value.slice none 0 0)],[(Value.slice none 0 0)],enc (Vector.replicate 32 (0 : UInt8))]),raw b3 (enc p1),raw b1 (cat [[v0_1],[vI p0.Next],[v0_2],[v0_3],enc p0.Head]),opt (D 0) (own NoB (r56 : (Ref Gengine)) [(ux55 0)])]:=hM
       exact Zm (cs:=cat [[u43],[vI r32.Next],[u35],[u36],enc r32.Head]) hE Za ld rfl Yx rfl (hM.rawAt (pre:=[])) (Zh (cl1 (n:=1) (m:=35) rfl (cl1 (n:=1) (m:=34) rfl (cl1 (n:=1) (m:=33) rfl (cl1 (n:=1) (m:=32) rfl (cl1 (n:=32) (m:=0) (Flat.len _) cl0)))))) fun a hE=>⟨_,_,rfl,hE,rfl,hM0.optKeep rfl⟩
      ·intro a w ux55 D hE hM hD hp
       have hM0:=hM
       exact Zg hE Za ld rfl (Wl) fun a hE=>⟨_,_,rfl,hE,rfl,hM0.optKeep rfl⟩
      ·intro a w ux55 D hE hM hD hp
       have f2 : ux55 2 = (ptr b1 (0 + 0)):=(hp 0 _ rfl rfl).2
       have hM0:=hM
       have hM : M (Old w0) w0 w [raw b37 (cat [[u43],[vI r32.Next],[u35],[u36],enc r32.Head]),osl NoB ((r32.Keys ++ ([p1] : List (Vector UInt8 16))) : List (Vector UInt8 16)) u43,osl NoB (([p1] : List (Vector UInt8 16)) : List (Vector UInt8 16)) u39,osl NoB (r32.Records : List GRecord) u35,osl NoB (r32.Events : List GEvent) u36,raw b5 (cat [[(Value.slice none 0 0)],[vI 0],[(Value.slice none 0 0)],[(Value.slice none 0 0)],enc (Vector.replicate 32 (0 : UInt8))]),raw b3 (enc p1),raw b1 (cat [[v0_1],[vI p0.Next],[v0_2],[v0_3],enc p0.Head]),opt (D 0) (own NoB (r56 : (Ref Gengine)) [(ux55 0)])]:=hM
       exact Zp (v:=v0_1) hE Za ld (lk rfl f2) T1 rfl (At.cat (pre:=[]) (hM.rawAt (pre:=[_,_,_,_,_,_,_])) cl0) fun a hE=>⟨_,_,rfl,hE,rfl,hM0.optKeep rfl⟩
      ·intro a w ux55 D hE hM hD hp
       have f3 : ux55 3 = v0_1:=(hp 0 _ rfl rfl).2
       have hM0:=hM
       have hM : M (Old w0) w0 w [raw b37 (cat [[u43],[vI r32.Next],[u35],[u36],enc r32.Head]),osl NoB ((r32.Keys ++ ([p1] : List (Vector UInt8 16))) : List (Vector UInt8 16)) u43,osl NoB (([p1] : List (Vector UInt8 16)) : List (Vector UInt8 16)) u39,osl NoB (r32.Records : List GRecord) u35,osl NoB (r32.Events : List GEvent) u36,raw b5 (cat [[(Value.slice none 0 0)],[vI 0],[(Value.slice none 0 0)],[(Value.slice none 0 0)],enc (Vector.replicate 32 (0 : UInt8))]),raw b3 (enc p1),raw b1 (cat [[v0_1],[vI p0.Next],[v0_2],[v0_3],enc p0.Head]),opt (D 0) (own NoB (r56 : (Ref Gengine)) [(ux55 0)])]:=hM
       refine Zt hE Za ld (ZV (ZT (lk rfl f3) YZ)) zY (Y7 _ p0.Keys v0_1 (hM.rdo hv0_1) r59 e60) ?_
       rintro v w a ⟨rfl,hK⟩ hE
       exact ⟨_,_,rfl,hE,rfl,(hM0.keep hK).optKeep rfl⟩
      ·intro a w ux55 D hE hM hD hp
       have f4 : ux55 4 = (vI r59):=(hp 0 _ rfl rfl).2
       have hM0:=hM
       exact XO (parts:=[(0,.const (vI 3)),(1,.tmp 42)]) (vs:=[(0,vI 3),(1,vI r59)]) (cs:=cat [[vI 3],[vI r59],enc (Vector.replicate 32 (0 : UInt8))]) hE Za ld (ZV (ZT rfl (ZT (lk rfl f4) YZ))) rfl Y9 pl146 (Yt (pre:=[]) (seg:=[vI 0]) (seg':=[vI 3]) (post:=[[vI 0],enc (Vector.replicate 32 (0 : UInt8))]) rfl cl0 rfl rfl rfl (Yt (pre:=[[vI 3]]) (seg:=[vI 0]) (seg':=[vI r59]) (post:=[enc (Vector.replicate 32 (0 : UInt8))]) rfl (cl1 (n:=1) (m:=0) rfl cl0) rfl rfl rfl VU)) fun a hE=>⟨_,_,rfl,hE,rfl,hM0.optKeep rfl⟩
      ·intro a w ux55 hE hM hg
       have hM : M (Old w0) w0 w [raw b37 (cat [[u43],[vI r32.Next],[u35],[u36],enc r32.Head]),osl NoB ((r32.Keys ++ ([p1] : List (Vector UInt8 16))) : List (Vector UInt8 16)) u43,osl NoB (([p1] : List (Vector UInt8 16)) : List (Vector UInt8 16)) u39,osl NoB (r32.Records : List GRecord) u35,osl NoB (r32.Events : List GEvent) u36,raw b5 (cat [[(Value.slice none 0 0)],[vI 0],[(Value.slice none 0 0)],[(Value.slice none 0 0)],enc (Vector.replicate 32 (0 : UInt8))]),raw b3 (enc p1),raw b1 (cat [[v0_1],[vI p0.Next],[v0_2],[v0_3],enc p0.Head]),own NoB (r56 : (Ref Gengine)) [(ux55 0)]]:=hM
       have hE:=hE.sub (e':=[(38,(ux55 0)),(39,(Value.agg (cat [[u43],[vI r32.Next],[u35],[u36],enc r32.Head]).toArray)),(43,(Value.agg (cat [[vI 3],[vI r59],enc (Vector.replicate 32 (0 : UInt8))]).toArray)),(4,(ptr b5 0))]) ⟨rfl,lk rfl (hg 1 (by decide)),lk rfl (hg 5 (by decide)),rfl,trivial⟩
       have hM:=(((hM.pull (pre:=[_,_,_,_])).pull (pre:=[_,_,_,_])).pull (pre:=[_,_,_])).pull (pre:=[_,_,_,_,_,_,_,_])
       have hM0:=hM
       obtain ⟨S63,hs64,hx65,hM,hbk66⟩:=M.freeze [_,_,_] hM noB
       obtain ⟨r61,e62,hl47⟩:=bind_some hl47
       refine Zt hE Za ld rfl cb111 (KP _ _ _ _ r56 (ux55 0) hx65 (⟨(r32.Keys ++ ([p1] : List (Vector UInt8 16))),r32.Next,r32.Records,r32.Events,r32.Head⟩ : GVault) u43 u35 u36 (⟨3,r59,(Vector.replicate 32 (0 : UInt8))⟩ : GEvent) hM r61 e62) ?_
       rintro v w a ⟨u67,u68,u69,rfl,hM⟩ hE
       have hM:=hbk66 _ [_,_,_] (Yo (Yo (Yo Xs))) hM
       simp only [List.cons_append,List.nil_append] at hM
       have hM:=hM.pull (pre:=[_,_,_,_,_,_])
       refine Zo (seg:=cat [[u67],[vI r61.Next],[u68],[u69],enc r61.Head]) (cs':=cat [[u67],[vI r61.Next],[u68],[u69],enc r61.Head]) hE hM Za rfl rfl rfl Yx (Zh (cl1 (n:=1) (m:=35) rfl (cl1 (n:=1) (m:=34) rfl (cl1 (n:=1) (m:=33) rfl (cl1 (n:=1) (m:=32) rfl (cl1 (n:=32) (m:=0) (Flat.len _) cl0)))))) (Nat.le_of_eq ((Nat.zero_add _).trans (Eq.trans (Zh (cl1 (n:=1) (m:=35) rfl (cl1 (n:=1) (m:=34) rfl (cl1 (n:=1) (m:=33) rfl (cl1 (n:=1) (m:=32) rfl (cl1 (n:=32) (m:=0) (Flat.len _) cl0)))))) (Eq.symm (Zh (cl1 (n:=1) (m:=35) rfl (cl1 (n:=1) (m:=34) rfl (cl1 (n:=1) (m:=33) rfl (cl1 (n:=1) (m:=32) rfl (cl1 (n:=32) (m:=0) (Flat.len _) cl0)))))))))) (Z5 (cc1 (Rep.cell (hM.sl (pre:=[_,_]) noB)) (cc1 (Flat.cell (r61.Next : Int)) (cc1 (Rep.cell (hM.sl (pre:=[_,_,_]) noB)) (cc1 (Rep.cell (hM.sl (pre:=[_,_,_,_]) noB)) (cc1 (Flat.cell _) cc0)))))) (Zl (Eq.trans (Zh (cl1 (n:=1) (m:=35) rfl (cl1 (n:=1) (m:=34) rfl (cl1 (n:=1) (m:=33) rfl (cl1 (n:=1) (m:=32) rfl (cl1 (n:=32) (m:=0) (Flat.len _) cl0)))))) (Eq.symm (Zh (cl1 (n:=1) (m:=35) rfl (cl1 (n:=1) (m:=34) rfl (cl1 (n:=1) (m:=33) rfl (cl1 (n:=1) (m:=32) rfl (cl1 (n:=32) (m:=0) (Flat.len _) cl0))))))))) fun w a hM hE=>Ze hE Za ld rfl fun a hE=>Zj ?_
       have ht70:=Option.some.inj hl47
       subst ht70
       refine Zn ?_
       have hM:=M.fst (l:=[_,_,_,_]) ((((hM.pull (pre:=[_,_,_,_])).pull (pre:=[_,_,_,_])).pull (pre:=[_,_,_,_])).pull (pre:=[_,_,_]))
       exact ⟨u67,u68,u69,hE.sub ⟨rfl,rfl,trivial⟩,hM⟩
     ·skip
      rintro a w ⟨u49,u51,u53,hE,hM⟩
      have hr:=Option.some.inj hF48
      subst hr
      have hq71 : Yw Tryz.prog _ _ (.cell 4 36) _:=ZO hE rfl Yx rfl (hM.rawAt (pre:=[])) (Zh (cl1 (n:=1) (m:=35) rfl (cl1 (n:=1) (m:=34) rfl (cl1 (n:=1) (m:=33) rfl (cl1 (n:=1) (m:=32) rfl (cl1 (n:=32) (m:=0) (Flat.len _) cl0)))))) rfl
      have hM:=M.fst (l:=[_,_,_]) (((hM.pull (pre:=[_,_,_])).pull (pre:=[_,_,_])).pull (pre:=[_,_,_]))
      exact wp_ret (Qv hE rfl hq71 (Zu hE rfl) ⟨_,rfl,u49,u51,u53,rfl,hM.outF (Yo (Yo (Yo Xs))),hM.kept⟩)
def Tx (p0 : (Vector UInt8 16)) (p1 : (Vector UInt8 16)) (s9 : Int) : Option (Fl Int (Fl Unit Bool)) :=
 if (decide (s9 < 16)) = true then (((ZM p0 s9).bind fun x19=>(ZM p1 s9).bind fun x22=>some (x19 != x22) : Option (Bool)).bind fun j14=>if j14 = true then (some (Fl.ex (Fl.ex false))) else (some (Fl.nx (wr (s9 + 1))))) else (some (Fl.ex (Fl.nx ())))
def WX (p0 : (Vector UInt8 16)) (p1 : (Vector UInt8 16)) : Option (Bool) :=
 (ZG (Tx p0 p1) 0).bind fun j5=>j5.el (fun s8=>some true) (fun r=>some r)
theorem Km (w0 : World) (p0 : (Vector UInt8 16)) (p1 : (Vector UInt8 16)) (r : Bool) (hF : WX p0 p1 = some r) :
  Calls Tryz.prog 142 [(Value.agg (enc p0).toArray),(Value.agg (enc p1).toArray)].toArray w0 (fun en w'=>∃ v,en = .returned v ∧ (v = (vT r) ∧ Kept (Old w0) w0 w')):=by
 refine ZD (n:=17) Tryz.func142 rfl rfl (nbl rfl) rfl ?_
 intro a hE
 have hM:=M.start w0
 unfold WX at hF
 refine Zc (ZY (cs:=enc p0) hE hM Za ld rfl rfl fun b1 w a hM hE=>ZY (cs:=enc p1) hE hM Za ld rfl rfl fun b3 w a hM hE=>Ze hE Za ld rfl fun a hE=>Zf (wp_seq (Zc (Ze hE Za ld rfl fun a hE=>Zf ?_))))
 obtain ⟨j5,hl6,hF7⟩:=bind_some hF
 refine ZP (fun a w=>∃ s8 : Unit,j5 = Fl.nx s8 ∧ Env 17 a [] ∧ M (Old w0) w0 w []) ?_ ?_
 ·skip
  refine wp_block ?_
  refine ZI (fun (s9 : Int) a w=>Env 17 a [(2,(ptr b1 0)),(3,(ptr b3 0)),(5,vI s9)] ∧ M (Old w0) w0 w [raw b3 (enc p1),raw b1 (enc p0)]) hl6 ⟨hE.sub ⟨rfl,rfl,rfl,trivial⟩,hM⟩ ?_
  rintro s9 a w ⟨hE,hM⟩ o12 hs10 hx11
  unfold Tx at hs10
  refine wp_seq (Zc (Zd hE Za ld rfl fun a hE=>Zi hE Za ld rfl rfl rfl fun a hE=>Zf ?_))
  refine Zs hE rfl ?_ ?_
  ·intro hb13
   have hs10:=ZA hs10 hb13
   refine wp_skip (Zz (wp_seq (wp_block ?_)))
   obtain ⟨j14,hl15,hF16⟩:=bind_some hs10
   refine ZS (fun a w=>Env 17 a [(2,(ptr b1 0)),(3,(ptr b3 0)),(5,vI s9),(16,vT j14)] ∧ M (Old w0) w0 w [raw b3 (enc p1),raw b1 (enc p0)]) ?_ ?_
   ·skip
    obtain ⟨x19,hi18,hl15⟩:=bvx hl15
    obtain ⟨x22,hi21,hl15⟩:=bvx hl15
    refine YC (n:=17) (hd:=[_,_,_,_,_,_,_]) (tl:=[]) Y0 rfl rfl [10,11,12,13,14,15,16] (by decide) (fun w=>M (Old w0) w0 w [raw b3 (enc p1),raw b1 (enc p0)]) (fun j=>([fun v _=>v = (vI s9),fun v _=>v = (ptr b1 (0 + (s9).toNat * 1)),fun v _=>v = (vB x19),fun v _=>v = (vI s9),fun v _=>v = (ptr b3 (0 + (s9).toNat * 1)),fun v _=>v = (vB x22),fun v _=>v = (vT (x19 != x22))] : List (Value → World → Prop)).getD j (fun _ _=>True)) (fun _ _ h hk=>h.keep hk) (gup (Zk (Zk (Zk (Zk (Zk (Zk (Zk V1)))))))) hE hM.drew (ZK (Zb ?_ (Zb ?_ (Zb ?_ (Zb ?_ (Zb ?_ (Zb ?_ (Zb ?_ ZF)))))))) ?_
    ·exact fun a w ux17 hE hM hp=>Zd hE Za ld rfl fun a hE=>⟨Kept.refl _ _,_,_,rfl,hE,rfl⟩
    ·intro a w ux17 hE hM hp
     have f0 : ux17 0 = (vI s9):=hp 0 _ rfl rfl
     exact Zr hE Za ld rfl (lk rfl f0) Tryz.underlying70 ty5 hi18.1 fun a hE=>⟨Kept.refl _ _,_,_,rfl,hE,rfl⟩
    ·intro a w ux17 hE hM hp
     have f1 : ux17 1 = (ptr b1 (0 + (s9).toNat * 1)):=hp 0 _ rfl rfl
     exact Zp (v:=(vB x19)) hE Za ld (lk rfl f1) ty5 rfl (At.vec (hM.rawAt (pre:=[_])) hi18.2) fun a hE=>⟨Kept.refl _ _,_,_,rfl,hE,rfl⟩
    ·exact fun a w ux17 hE hM hp=>Zd hE Za ld rfl fun a hE=>⟨Kept.refl _ _,_,_,rfl,hE,rfl⟩
    ·intro a w ux17 hE hM hp
     have f3 : ux17 3 = (vI s9):=hp 0 _ rfl rfl
     exact Zr hE Za ld rfl (lk rfl f3) Tryz.underlying70 ty5 hi21.1 fun a hE=>⟨Kept.refl _ _,_,_,rfl,hE,rfl⟩
    ·intro a w ux17 hE hM hp
     have f4 : ux17 4 = (ptr b3 (0 + (s9).toNat * 1)):=hp 0 _ rfl rfl
     exact Zp (v:=(vB x22)) hE Za ld (lk rfl f4) ty5 rfl (At.vec (hM.rawAt (pre:=[])) hi21.2) fun a hE=>⟨Kept.refl _ _,_,_,rfl,hE,rfl⟩
    ·intro a w ux17 hE hM hp
     have f2 : ux17 2 = (vB x19):=hp 0 _ rfl rfl
     have f5 : ux17 5 = (vB x22):=hp 1 _ rfl rfl
     exact Zi hE Za ld (lk rfl f2) (lk rfl f5) (Q2 x19 x22) fun a hE=>⟨Kept.refl _ _,_,_,rfl,hE,rfl⟩
    ·intro a w ux17 hE hM hg
     have hE:=hE.sub (e':=[(16,(vT (x19 != x22))),(2,(ptr b1 0)),(3,(ptr b3 0)),(5,vI s9),(6,vI s9),(7,(vT (decide (s9 < 16))))]) ⟨lk rfl (hg 6 (by decide)),rfl,rfl,rfl,rfl,rfl,trivial⟩
     refine Zj ?_
     have ht24:=Option.some.inj hl15
     subst ht24
     refine Zn ?_
     exact ⟨hE.sub ⟨rfl,rfl,rfl,rfl,trivial⟩,hM⟩
   ·skip
    rintro a w ⟨hE,hM⟩
    refine Zs hE rfl ?_ ?_
    ·intro hb25
     have hF16:=ZA hF16 hb25
     refine Zc (Ze hE Za ld rfl fun a hE=>Zf ?_)
     have ht26:=hx11 _ (ois hF16)
     subst ht26
     have hr:=Option.some.inj hF7
     subst hr
     have hM:=M.fst (l:=[]) hM
     exact wp_ret (Yj (Zx (Zx (Yj (Zx (Zx (Zy hE rfl (Zu hE rfl) ⟨_,rfl,rfl,hM.kept⟩)))))))
    ·intro hb25
     have hF16:=ZB hF16 hb25
     refine wp_skip (Yb (Zz (wp_region_lit (Zd hE Za ld rfl fun a hE=>Zi hE Za ld rfl rfl rfl fun a hE=>Ze hE Za ld rfl fun a hE=>Zj (Zn ?_)))))
     exact ⟨_,(ois hF16),hE.sub ⟨rfl,rfl,rfl,trivial⟩,hM⟩
  ·intro hb13
   have hs10:=ZB hs10 hb13
   refine wp_exit (Zq (Zq (Yf ?_)))
   have ht27:=hx11 _ (ois hs10)
   subst ht27
   refine Zn ?_
   have hM:=M.fst (l:=[]) hM
   exact ⟨(),rfl,hE.sub trivial,hM⟩
 ·skip
  rintro a w ⟨s8,ht,hE,hM⟩
  subst ht
  have hF7:=Tg hF7
  refine Zz (Zc (Ze hE Za ld rfl fun a hE=>Zf ?_))
  have hr:=Option.some.inj hF7
  subst hr
  exact wp_ret (Zy hE rfl (Zu hE rfl) ⟨_,rfl,rfl,hM.kept⟩)
def Te (p0 : (List (Vector UInt8 16))) (p1 : (List (Vector UInt8 16))) (s6 : Int) : Option (Fl Int (Fl Unit Bool)) :=
 if (decide (s6 < (p0.length : Int))) = true then (((idx p0 s6).bind fun x15=>(idx p1 s6).bind fun x18=>(WX x15 x18).bind fun r21=>some (!r21) : Option (Bool)).bind fun j11=>if j11 = true then (some (Fl.ex (Fl.ex false))) else (some (Fl.nx (wr (s6 + 1))))) else (some (Fl.ex (Fl.nx ())))
def Uq (p0 : (List (Vector UInt8 16))) (p1 : (List (Vector UInt8 16))) : Option (Bool) :=
 if ((p0.length : Int) != (p1.length : Int)) = true then (some false) else ((ZG (Te p0 p1) 0).bind fun j2=>j2.el (fun s5=>some true) (fun r=>some r))
theorem HJ (w0 : World) (p0 : (List (Vector UInt8 16))) (v0_1 : Value) (hv0_1 : Ro w0 p0 [v0_1]) (p1 : (List (Vector UInt8 16))) (v1_1 : Value) (hv1_1 : Ro w0 p1 [v1_1]) (r : Bool) (hF : Uq p0 p1 = some r) :
  Calls Tryz.prog 62 [v0_1,v1_1].toArray w0 (fun en w'=>∃ v,en = .returned v ∧ (v = (vT r) ∧ Kept (Old w0) w0 w')):=by
 refine ZD (n:=27) Tryz.func62 rfl rfl (nbl rfl) rfl ?_
 intro a hE
 have hM:=M.start w0
 unfold Uq at hF
 refine Zc (Ze hE Za ld rfl fun a hE=>Zf (wp_seq (Zc (Zd hE Za ld rfl fun a hE=>Z3 hE Za ld rfl Tryz.underlying32 (hM.rd hv0_1) fun a hE=>Zd hE Za ld rfl fun a hE=>Z3 hE Za ld rfl Tryz.underlying32 (hM.rd hv1_1) fun a hE=>Zi hE Za ld rfl rfl rfl fun a hE=>Zf ?_))))
 refine Zs hE rfl ?_ ?_
 ·intro hb1
  have hF:=ZA hF hb1
  refine Zc (Ze hE Za ld rfl fun a hE=>Zf ?_)
  have hr:=Option.some.inj hF
  subst hr
  exact wp_ret (Zx (Zy hE rfl (Zu hE rfl) ⟨_,rfl,rfl,hM.kept⟩))
 ·intro hb1
  have hF:=ZB hF hb1
  refine wp_skip (Zz (wp_seq (Zc (Ze hE Za ld rfl fun a hE=>Zf ?_))))
  obtain ⟨j2,hl3,hF4⟩:=bind_some hF
  refine ZP (fun a w=>∃ s5 : Unit,j2 = Fl.nx s5 ∧ Env 27 a [] ∧ M (Old w0) w0 w []) ?_ ?_
  ·skip
   refine wp_block ?_
   refine ZI (fun (s6 : Int) a w=>Env 27 a [(0,v0_1),(1,v1_1),(5,vI s6)] ∧ M (Old w0) w0 w []) hl3 ⟨hE.sub ⟨rfl,rfl,rfl,trivial⟩,hM⟩ ?_
   rintro s6 a w ⟨hE,hM⟩ o9 hs7 hx8
   unfold Te at hs7
   refine wp_seq (Zc (Zd hE Za ld rfl fun a hE=>Zd hE Za ld rfl fun a hE=>Z3 hE Za ld rfl Tryz.underlying32 (hM.rd hv0_1) fun a hE=>Zi hE Za ld rfl rfl rfl fun a hE=>Zf ?_))
   refine Zs hE rfl ?_ ?_
   ·intro hb10
    have hs7:=ZA hs7 hb10
    refine wp_skip (Zz (wp_seq (wp_block ?_)))
    obtain ⟨j11,hl12,hF13⟩:=bind_some hs7
    refine ZS (fun a w=>Env 27 a [(0,v0_1),(1,v1_1),(5,vI s6),(26,vT j11)] ∧ M (Old w0) w0 w []) ?_ ?_
    ·skip
     obtain ⟨x15,hi17,hl12⟩:=bix hl12
     obtain ⟨x18,hi20,hl12⟩:=bix hl12
     obtain ⟨r21,e22,hl12⟩:=bind_some hl12
     refine YC (n:=27) (hd:=[_,_,_,_,_,_,_,_,_,_]) (tl:=[]) Y0 rfl rfl [17,18,19,20,21,22,23,24,25,26] (by decide) (fun w=>M (Old w0) w0 w []) (fun j=>([fun v _=>v = v0_1,fun v _=>v = (vI s6),fun v _=>v = (ptr (sb v0_1) (so v0_1 + (s6).toNat * 16)),fun v _=>v = (Value.agg (enc x15).toArray),fun v _=>v = v1_1,fun v _=>v = (vI s6),fun v _=>v = (ptr (sb v1_1) (so v1_1 + (s6).toNat * 16)),fun v _=>v = (Value.agg (enc x18).toArray),fun v _=>v = (vT r21),fun v _=>v = (vT (!r21))] : List (Value → World → Prop)).getD j (fun _ _=>True)) (fun _ _ h hk=>h.keep hk) (gup (Zk (Zk (Zk (Zk (Zk (Zk (Zk (Zk (Zk (Zk V1))))))))))) hE hM.drew (ZK (Zb ?_ (Zb ?_ (Zb ?_ (Zb ?_ (Zb ?_ (Zb ?_ (Zb ?_ (Zb ?_ (Zb ?_ (Zb ?_ ZF))))))))))) ?_
     ·exact fun a w ux14 hE hM hp=>Zd hE Za ld rfl fun a hE=>⟨Kept.refl _ _,_,_,rfl,hE,rfl⟩
     ·exact fun a w ux14 hE hM hp=>Zd hE Za ld rfl fun a hE=>⟨Kept.refl _ _,_,_,rfl,hE,rfl⟩
     ·intro a w ux14 hE hM hp
      have f0 : ux14 0 = v0_1:=hp 0 _ rfl rfl
      have f1 : ux14 1 = (vI s6):=hp 1 _ rfl rfl
      exact ZL hE Za ld (lk rfl f0) (lk rfl f1) Tryz.underlying32 ZH (hM.rd hv0_1) hi17.1 fun a hE=>⟨Kept.refl _ _,_,_,rfl,hE,rfl⟩
     ·intro a w ux14 hE hM hp
      have f2 : ux14 2 = (ptr (sb v0_1) (so v0_1 + (s6).toNat * 16)):=hp 0 _ rfl rfl
      exact Zm (cs:=enc x15) hE Za ld (lk rfl f2) ZH rfl (XE (hM.rd hv0_1) hi17.2) (Flat.len _) fun a hE=>⟨Kept.refl _ _,_,_,rfl,hE,rfl⟩
     ·exact fun a w ux14 hE hM hp=>Zd hE Za ld rfl fun a hE=>⟨Kept.refl _ _,_,_,rfl,hE,rfl⟩
     ·exact fun a w ux14 hE hM hp=>Zd hE Za ld rfl fun a hE=>⟨Kept.refl _ _,_,_,rfl,hE,rfl⟩
     ·intro a w ux14 hE hM hp
      have f4 : ux14 4 = v1_1:=hp 0 _ rfl rfl
      have f5 : ux14 5 = (vI s6):=hp 1 _ rfl rfl
      exact ZL hE Za ld (lk rfl f4) (lk rfl f5) Tryz.underlying32 ZH (hM.rd hv1_1) hi20.1 fun a hE=>⟨Kept.refl _ _,_,_,rfl,hE,rfl⟩
     ·intro a w ux14 hE hM hp
      have f6 : ux14 6 = (ptr (sb v1_1) (so v1_1 + (s6).toNat * 16)):=hp 0 _ rfl rfl
      exact Zm (cs:=enc x18) hE Za ld (lk rfl f6) ZH rfl (XE (hM.rd hv1_1) hi20.2) (Flat.len _) fun a hE=>⟨Kept.refl _ _,_,_,rfl,hE,rfl⟩
     ·intro a w ux14 hE hM hp
      have f3 : ux14 3 = (Value.agg (enc x15).toArray):=hp 0 _ rfl rfl
      have f7 : ux14 7 = (Value.agg (enc x18).toArray):=hp 1 _ rfl rfl
      refine Zt hE Za ld (ZV (ZT (lk rfl f3) (ZT (lk rfl f7) YZ))) cb142 (Km _ x15 x18 r21 e22) ?_
      rintro v w a ⟨rfl,hK⟩ hE
      exact ⟨hK,_,_,rfl,hE,rfl⟩
     ·intro a w ux14 hE hM hp
      have f8 : ux14 8 = (vT r21):=hp 0 _ rfl rfl
      exact WJ hE Za ld (lk rfl f8) fun a hE=>⟨Kept.refl _ _,_,_,rfl,hE,rfl⟩
     ·intro a w ux14 hE hM hg
      have hE:=hE.sub (e':=[(26,(vT (!r21))),(0,v0_1),(1,v1_1),(5,vI s6),(11,vI s6),(12,v0_1),(13,(vI (p0.length : Int))),(14,(vT (decide (s6 < (p0.length : Int)))))]) ⟨lk rfl (hg 9 (by decide)),rfl,rfl,rfl,rfl,rfl,rfl,rfl,trivial⟩
      refine Zj ?_
      have ht23:=Option.some.inj hl12
      subst ht23
      refine Zn ?_
      exact ⟨hE.sub ⟨rfl,rfl,rfl,rfl,trivial⟩,hM⟩
    ·skip
     rintro a w ⟨hE,hM⟩
     refine Zs hE rfl ?_ ?_
     ·intro hb24
      have hF13:=ZA hF13 hb24
      refine Zc (Ze hE Za ld rfl fun a hE=>Zf ?_)
      have ht25:=hx8 _ (ois hF13)
      subst ht25
      have hr:=Option.some.inj hF4
      subst hr
      exact wp_ret (Yj (Zx (Zx (Yj (Zx (Zx (Zy hE rfl (Zu hE rfl) ⟨_,rfl,rfl,hM.kept⟩)))))))
     ·intro hb24
      have hF13:=ZB hF13 hb24
      refine wp_skip (Yb (Zz (wp_region_lit (Zd hE Za ld rfl fun a hE=>Zi hE Za ld rfl rfl rfl fun a hE=>Ze hE Za ld rfl fun a hE=>Zj (Zn ?_)))))
      exact ⟨_,(ois hF13),hE.sub ⟨rfl,rfl,rfl,trivial⟩,hM⟩
   ·intro hb10
    have hs7:=ZB hs7 hb10
    refine wp_exit (Zq (Zq (Yf ?_)))
    have ht26:=hx8 _ (ois hs7)
    subst ht26
    refine Zn ?_
    exact ⟨(),rfl,hE.sub trivial,hM⟩
  ·skip
   rintro a w ⟨s5,ht,hE,hM⟩
   subst ht
   have hF4:=Tg hF4
   refine Zz (Zc (Ze hE Za ld rfl fun a hE=>Zf ?_))
   have hr:=Option.some.inj hF4
   subst hr
   exact wp_ret (Zy hE rfl (Zu hE rfl) ⟨_,rfl,rfl,hM.kept⟩)
def Tv (p0 : (List UInt8)) (p1 : (List UInt8)) (s6 : Int) : Option (Fl Int (Fl Unit Bool)) :=
 if (decide (s6 < (p0.length : Int))) = true then (((idx p0 s6).bind fun x15=>(idx p1 s6).bind fun x18=>some (x15 != x18) : Option (Bool)).bind fun j11=>if j11 = true then (some (Fl.ex (Fl.ex false))) else (some (Fl.nx (wr (s6 + 1))))) else (some (Fl.ex (Fl.nx ())))
def VC (p0 : (List UInt8)) (p1 : (List UInt8)) : Option (Bool) :=
 if ((p0.length : Int) != (p1.length : Int)) = true then (some false) else ((ZG (Tv p0 p1) 0).bind fun j2=>j2.el (fun s5=>some true) (fun r=>some r))
theorem KA (w0 : World) (p0 : (List UInt8)) (v0_1 : Value) (hv0_1 : Ro w0 p0 [v0_1]) (p1 : (List UInt8)) (v1_1 : Value) (hv1_1 : Ro w0 p1 [v1_1]) (r : Bool) (hF : VC p0 p1 = some r) :
  Calls Tryz.prog 28 [v0_1,v1_1].toArray w0 (fun en w'=>∃ v,en = .returned v ∧ (v = (vT r) ∧ Kept (Old w0) w0 w')):=by
 refine ZD (n:=26) Tryz.func28 rfl rfl (nbl rfl) rfl ?_
 intro a hE
 have hM:=M.start w0
 unfold VC at hF
 refine Zc (Ze hE Za ld rfl fun a hE=>Zf (wp_seq (Zc (Zd hE Za ld rfl fun a hE=>Z3 hE Za ld rfl Tryz.underlying57 (hM.rd hv0_1) fun a hE=>Zd hE Za ld rfl fun a hE=>Z3 hE Za ld rfl Tryz.underlying57 (hM.rd hv1_1) fun a hE=>Zi hE Za ld rfl rfl rfl fun a hE=>Zf ?_))))
 refine Zs hE rfl ?_ ?_
 ·intro hb1
  have hF:=ZA hF hb1
  refine Zc (Ze hE Za ld rfl fun a hE=>Zf ?_)
  have hr:=Option.some.inj hF
  subst hr
  exact wp_ret (Zx (Zy hE rfl (Zu hE rfl) ⟨_,rfl,rfl,hM.kept⟩))
 ·intro hb1
  have hF:=ZB hF hb1
  refine wp_skip (Zz (wp_seq (Zc (Ze hE Za ld rfl fun a hE=>Zf ?_))))
  obtain ⟨j2,hl3,hF4⟩:=bind_some hF
  refine ZP (fun a w=>∃ s5 : Unit,j2 = Fl.nx s5 ∧ Env 26 a [] ∧ M (Old w0) w0 w []) ?_ ?_
  ·skip
   refine wp_block ?_
   refine ZI (fun (s6 : Int) a w=>Env 26 a [(0,v0_1),(1,v1_1),(5,vI s6)] ∧ M (Old w0) w0 w []) hl3 ⟨hE.sub ⟨rfl,rfl,rfl,trivial⟩,hM⟩ ?_
   rintro s6 a w ⟨hE,hM⟩ o9 hs7 hx8
   unfold Tv at hs7
   refine wp_seq (Zc (Zd hE Za ld rfl fun a hE=>Zd hE Za ld rfl fun a hE=>Z3 hE Za ld rfl Tryz.underlying57 (hM.rd hv0_1) fun a hE=>Zi hE Za ld rfl rfl rfl fun a hE=>Zf ?_))
   refine Zs hE rfl ?_ ?_
   ·intro hb10
    have hs7:=ZA hs7 hb10
    refine wp_skip (Zz (wp_seq (wp_block ?_)))
    obtain ⟨j11,hl12,hF13⟩:=bind_some hs7
    refine ZS (fun a w=>Env 26 a [(0,v0_1),(1,v1_1),(5,vI s6),(25,vT j11)] ∧ M (Old w0) w0 w []) ?_ ?_
    ·skip
     obtain ⟨x15,hi17,hl12⟩:=bix hl12
     obtain ⟨x18,hi20,hl12⟩:=bix hl12
     refine YC (n:=26) (hd:=[_,_,_,_,_,_,_,_,_]) (tl:=[]) Y0 rfl rfl [17,18,19,20,21,22,23,24,25] (by decide) (fun w=>M (Old w0) w0 w []) (fun j=>([fun v _=>v = v0_1,fun v _=>v = (vI s6),fun v _=>v = (ptr (sb v0_1) (so v0_1 + (s6).toNat * 1)),fun v _=>v = (vB x15),fun v _=>v = v1_1,fun v _=>v = (vI s6),fun v _=>v = (ptr (sb v1_1) (so v1_1 + (s6).toNat * 1)),fun v _=>v = (vB x18),fun v _=>v = (vT (x15 != x18))] : List (Value → World → Prop)).getD j (fun _ _=>True)) (fun _ _ h hk=>h.keep hk) (gup (Zk (Zk (Zk (Zk (Zk (Zk (Zk (Zk (Zk V1)))))))))) hE hM.drew (ZK (Zb ?_ (Zb ?_ (Zb ?_ (Zb ?_ (Zb ?_ (Zb ?_ (Zb ?_ (Zb ?_ (Zb ?_ ZF)))))))))) ?_
     ·exact fun a w ux14 hE hM hp=>Zd hE Za ld rfl fun a hE=>⟨Kept.refl _ _,_,_,rfl,hE,rfl⟩
     ·exact fun a w ux14 hE hM hp=>Zd hE Za ld rfl fun a hE=>⟨Kept.refl _ _,_,_,rfl,hE,rfl⟩
     ·intro a w ux14 hE hM hp
      have f0 : ux14 0 = v0_1:=hp 0 _ rfl rfl
      have f1 : ux14 1 = (vI s6):=hp 1 _ rfl rfl
      exact ZL hE Za ld (lk rfl f0) (lk rfl f1) Tryz.underlying57 ty5 (hM.rd hv0_1) hi17.1 fun a hE=>⟨Kept.refl _ _,_,_,rfl,hE,rfl⟩
     ·intro a w ux14 hE hM hp
      have f2 : ux14 2 = (ptr (sb v0_1) (so v0_1 + (s6).toNat * 1)):=hp 0 _ rfl rfl
      exact Zp (v:=(vB x15)) hE Za ld (lk rfl f2) ty5 rfl (XE (hM.rd hv0_1) hi17.2) fun a hE=>⟨Kept.refl _ _,_,_,rfl,hE,rfl⟩
     ·exact fun a w ux14 hE hM hp=>Zd hE Za ld rfl fun a hE=>⟨Kept.refl _ _,_,_,rfl,hE,rfl⟩
     ·exact fun a w ux14 hE hM hp=>Zd hE Za ld rfl fun a hE=>⟨Kept.refl _ _,_,_,rfl,hE,rfl⟩
     ·intro a w ux14 hE hM hp
      have f4 : ux14 4 = v1_1:=hp 0 _ rfl rfl
      have f5 : ux14 5 = (vI s6):=hp 1 _ rfl rfl
      exact ZL hE Za ld (lk rfl f4) (lk rfl f5) Tryz.underlying57 ty5 (hM.rd hv1_1) hi20.1 fun a hE=>⟨Kept.refl _ _,_,_,rfl,hE,rfl⟩
     ·intro a w ux14 hE hM hp
      have f6 : ux14 6 = (ptr (sb v1_1) (so v1_1 + (s6).toNat * 1)):=hp 0 _ rfl rfl
      exact Zp (v:=(vB x18)) hE Za ld (lk rfl f6) ty5 rfl (XE (hM.rd hv1_1) hi20.2) fun a hE=>⟨Kept.refl _ _,_,_,rfl,hE,rfl⟩
     ·intro a w ux14 hE hM hp
      have f3 : ux14 3 = (vB x15):=hp 0 _ rfl rfl
      have f7 : ux14 7 = (vB x18):=hp 1 _ rfl rfl
      exact Zi hE Za ld (lk rfl f3) (lk rfl f7) (Q2 x15 x18) fun a hE=>⟨Kept.refl _ _,_,_,rfl,hE,rfl⟩
     ·intro a w ux14 hE hM hg
      have hE:=hE.sub (e':=[(25,(vT (x15 != x18))),(0,v0_1),(1,v1_1),(5,vI s6),(11,vI s6),(12,v0_1),(13,(vI (p0.length : Int))),(14,(vT (decide (s6 < (p0.length : Int)))))]) ⟨lk rfl (hg 8 (by decide)),rfl,rfl,rfl,rfl,rfl,rfl,rfl,trivial⟩
      refine Zj ?_
      have ht21:=Option.some.inj hl12
      subst ht21
      refine Zn ?_
      exact ⟨hE.sub ⟨rfl,rfl,rfl,rfl,trivial⟩,hM⟩
    ·skip
     rintro a w ⟨hE,hM⟩
     refine Zs hE rfl ?_ ?_
     ·intro hb22
      have hF13:=ZA hF13 hb22
      refine Zc (Ze hE Za ld rfl fun a hE=>Zf ?_)
      have ht23:=hx8 _ (ois hF13)
      subst ht23
      have hr:=Option.some.inj hF4
      subst hr
      exact wp_ret (Yj (Zx (Zx (Yj (Zx (Zx (Zy hE rfl (Zu hE rfl) ⟨_,rfl,rfl,hM.kept⟩)))))))
     ·intro hb22
      have hF13:=ZB hF13 hb22
      refine wp_skip (Yb (Zz (wp_region_lit (Zd hE Za ld rfl fun a hE=>Zi hE Za ld rfl rfl rfl fun a hE=>Ze hE Za ld rfl fun a hE=>Zj (Zn ?_)))))
      exact ⟨_,(ois hF13),hE.sub ⟨rfl,rfl,rfl,trivial⟩,hM⟩
   ·intro hb10
    have hs7:=ZB hs7 hb10
    refine wp_exit (Zq (Zq (Yf ?_)))
    have ht24:=hx8 _ (ois hs7)
    subst ht24
    refine Zn ?_
    exact ⟨(),rfl,hE.sub trivial,hM⟩
  ·skip
   rintro a w ⟨s5,ht,hE,hM⟩
   subst ht
   have hF4:=Tg hF4
   refine Zz (Zc (Ze hE Za ld rfl fun a hE=>Zf ?_))
   have hr:=Option.some.inj hF4
   subst hr
   exact wp_ret (Zy hE rfl (Zu hE rfl) ⟨_,rfl,rfl,hM.kept⟩)
def Ta (p0 : (Vector UInt8 32)) (p1 : (Vector UInt8 32)) (s9 : Int) : Option (Fl Int (Fl Unit Bool)) :=
 if (decide (s9 < 32)) = true then (((ZM p0 s9).bind fun x19=>(ZM p1 s9).bind fun x22=>some (x19 != x22) : Option (Bool)).bind fun j14=>if j14 = true then (some (Fl.ex (Fl.ex false))) else (some (Fl.nx (wr (s9 + 1))))) else (some (Fl.ex (Fl.nx ())))
def Wk (p0 : (Vector UInt8 32)) (p1 : (Vector UInt8 32)) : Option (Bool) :=
 (ZG (Ta p0 p1) 0).bind fun j5=>j5.el (fun s8=>some true) (fun r=>some r)
theorem T8 (w0 : World) (p0 : (Vector UInt8 32)) (p1 : (Vector UInt8 32)) (r : Bool) (hF : Wk p0 p1 = some r) :
  Calls Tryz.prog 16 [(Value.agg (enc p0).toArray),(Value.agg (enc p1).toArray)].toArray w0 (fun en w'=>∃ v,en = .returned v ∧ (v = (vT r) ∧ Kept (Old w0) w0 w')):=by
 refine ZD (n:=17) Tryz.func16 rfl rfl (nbl rfl) rfl ?_
 intro a hE
 have hM:=M.start w0
 unfold Wk at hF
 refine Zc (ZY (cs:=enc p0) hE hM Za ld rfl rfl fun b1 w a hM hE=>ZY (cs:=enc p1) hE hM Za ld rfl rfl fun b3 w a hM hE=>Ze hE Za ld rfl fun a hE=>Zf (wp_seq (Zc (Ze hE Za ld rfl fun a hE=>Zf ?_))))
 obtain ⟨j5,hl6,hF7⟩:=bind_some hF
 refine ZP (fun a w=>∃ s8 : Unit,j5 = Fl.nx s8 ∧ Env 17 a [] ∧ M (Old w0) w0 w []) ?_ ?_
 ·skip
  refine wp_block ?_
  refine ZI (fun (s9 : Int) a w=>Env 17 a [(2,(ptr b1 0)),(3,(ptr b3 0)),(5,vI s9)] ∧ M (Old w0) w0 w [raw b3 (enc p1),raw b1 (enc p0)]) hl6 ⟨hE.sub ⟨rfl,rfl,rfl,trivial⟩,hM⟩ ?_
  rintro s9 a w ⟨hE,hM⟩ o12 hs10 hx11
  unfold Ta at hs10
  refine wp_seq (Zc (Zd hE Za ld rfl fun a hE=>Zi hE Za ld rfl rfl rfl fun a hE=>Zf ?_))
  refine Zs hE rfl ?_ ?_
  ·intro hb13
   have hs10:=ZA hs10 hb13
   refine wp_skip (Zz (wp_seq (wp_block ?_)))
   obtain ⟨j14,hl15,hF16⟩:=bind_some hs10
   refine ZS (fun a w=>Env 17 a [(2,(ptr b1 0)),(3,(ptr b3 0)),(5,vI s9),(16,vT j14)] ∧ M (Old w0) w0 w [raw b3 (enc p1),raw b1 (enc p0)]) ?_ ?_
   ·skip
    obtain ⟨x19,hi18,hl15⟩:=bvx hl15
    obtain ⟨x22,hi21,hl15⟩:=bvx hl15
    refine YC (n:=17) (hd:=[_,_,_,_,_,_,_]) (tl:=[]) Y0 rfl rfl [10,11,12,13,14,15,16] (by decide) (fun w=>M (Old w0) w0 w [raw b3 (enc p1),raw b1 (enc p0)]) (fun j=>([fun v _=>v = (vI s9),fun v _=>v = (ptr b1 (0 + (s9).toNat * 1)),fun v _=>v = (vB x19),fun v _=>v = (vI s9),fun v _=>v = (ptr b3 (0 + (s9).toNat * 1)),fun v _=>v = (vB x22),fun v _=>v = (vT (x19 != x22))] : List (Value → World → Prop)).getD j (fun _ _=>True)) (fun _ _ h hk=>h.keep hk) (gup (Zk (Zk (Zk (Zk (Zk (Zk (Zk V1)))))))) hE hM.drew (ZK (Zb ?_ (Zb ?_ (Zb ?_ (Zb ?_ (Zb ?_ (Zb ?_ (Zb ?_ ZF)))))))) ?_
    ·exact fun a w ux17 hE hM hp=>Zd hE Za ld rfl fun a hE=>⟨Kept.refl _ _,_,_,rfl,hE,rfl⟩
    ·intro a w ux17 hE hM hp
     have f0 : ux17 0 = (vI s9):=hp 0 _ rfl rfl
     exact Zr hE Za ld rfl (lk rfl f0) Tryz.underlying29 ty5 hi18.1 fun a hE=>⟨Kept.refl _ _,_,_,rfl,hE,rfl⟩
    ·intro a w ux17 hE hM hp
     have f1 : ux17 1 = (ptr b1 (0 + (s9).toNat * 1)):=hp 0 _ rfl rfl
     exact Zp (v:=(vB x19)) hE Za ld (lk rfl f1) ty5 rfl (At.vec (hM.rawAt (pre:=[_])) hi18.2) fun a hE=>⟨Kept.refl _ _,_,_,rfl,hE,rfl⟩
    ·exact fun a w ux17 hE hM hp=>Zd hE Za ld rfl fun a hE=>⟨Kept.refl _ _,_,_,rfl,hE,rfl⟩
    ·intro a w ux17 hE hM hp
     have f3 : ux17 3 = (vI s9):=hp 0 _ rfl rfl
     exact Zr hE Za ld rfl (lk rfl f3) Tryz.underlying29 ty5 hi21.1 fun a hE=>⟨Kept.refl _ _,_,_,rfl,hE,rfl⟩
    ·intro a w ux17 hE hM hp
     have f4 : ux17 4 = (ptr b3 (0 + (s9).toNat * 1)):=hp 0 _ rfl rfl
     exact Zp (v:=(vB x22)) hE Za ld (lk rfl f4) ty5 rfl (At.vec (hM.rawAt (pre:=[])) hi21.2) fun a hE=>⟨Kept.refl _ _,_,_,rfl,hE,rfl⟩
    ·intro a w ux17 hE hM hp
     have f2 : ux17 2 = (vB x19):=hp 0 _ rfl rfl
     have f5 : ux17 5 = (vB x22):=hp 1 _ rfl rfl
     exact Zi hE Za ld (lk rfl f2) (lk rfl f5) (Q2 x19 x22) fun a hE=>⟨Kept.refl _ _,_,_,rfl,hE,rfl⟩
    ·intro a w ux17 hE hM hg
     have hE:=hE.sub (e':=[(16,(vT (x19 != x22))),(2,(ptr b1 0)),(3,(ptr b3 0)),(5,vI s9),(6,vI s9),(7,(vT (decide (s9 < 32))))]) ⟨lk rfl (hg 6 (by decide)),rfl,rfl,rfl,rfl,rfl,trivial⟩
     refine Zj ?_
     have ht24:=Option.some.inj hl15
     subst ht24
     refine Zn ?_
     exact ⟨hE.sub ⟨rfl,rfl,rfl,rfl,trivial⟩,hM⟩
   ·skip
    rintro a w ⟨hE,hM⟩
    refine Zs hE rfl ?_ ?_
    ·intro hb25
     have hF16:=ZA hF16 hb25
     refine Zc (Ze hE Za ld rfl fun a hE=>Zf ?_)
     have ht26:=hx11 _ (ois hF16)
     subst ht26
     have hr:=Option.some.inj hF7
     subst hr
     have hM:=M.fst (l:=[]) hM
     exact wp_ret (Yj (Zx (Zx (Yj (Zx (Zx (Zy hE rfl (Zu hE rfl) ⟨_,rfl,rfl,hM.kept⟩)))))))
    ·intro hb25
     have hF16:=ZB hF16 hb25
     refine wp_skip (Yb (Zz (wp_region_lit (Zd hE Za ld rfl fun a hE=>Zi hE Za ld rfl rfl rfl fun a hE=>Ze hE Za ld rfl fun a hE=>Zj (Zn ?_)))))
     exact ⟨_,(ois hF16),hE.sub ⟨rfl,rfl,rfl,trivial⟩,hM⟩
  ·intro hb13
   have hs10:=ZB hs10 hb13
   refine wp_exit (Zq (Zq (Yf ?_)))
   have ht27:=hx11 _ (ois hs10)
   subst ht27
   refine Zn ?_
   have hM:=M.fst (l:=[]) hM
   exact ⟨(),rfl,hE.sub trivial,hM⟩
 ·skip
  rintro a w ⟨s8,ht,hE,hM⟩
  subst ht
  have hF7:=Tg hF7
  refine Zz (Zc (Ze hE Za ld rfl fun a hE=>Zf ?_))
  have hr:=Option.some.inj hF7
  subst hr
  exact wp_ret (Zy hE rfl (Zu hE rfl) ⟨_,rfl,rfl,hM.kept⟩)
def W3 (p0 : GRecord) (p1 : GRecord) : Option (Bool) :=
 if (p0.Number != p1.Number) = true then (some false) else (if (p0.Version != p1.Version) = true then (some false) else ((WX p0.Nonce p1.Nonce).bind fun r7=>if (!r7) = true then (some false) else ((VC p0.Label p1.Label).bind fun r10=>if (!r10) = true then (some false) else ((VC p0.Body p1.Body).bind fun r13=>if (!r13) = true then (some false) else ((Wk p0.Tag p1.Tag).bind fun r16=>if (!r16) = true then (some false) else (some true))))))
theorem HX (w0 : World) (p0 : GRecord) (v0_1 : Value) (hv0_1 : Ro w0 p0.Label [v0_1]) (v0_2 : Value) (hv0_2 : Ro w0 p0.Body [v0_2]) (p1 : GRecord) (v1_1 : Value) (hv1_1 : Ro w0 p1.Label [v1_1]) (v1_2 : Value) (hv1_2 : Ro w0 p1.Body [v1_2]) (r : Bool) (hF : W3 p0 p1 = some r) :
  Calls Tryz.prog 143 [(Value.agg (cat [[vI p0.Number],[vI p0.Version],enc p0.Nonce,[v0_1],[v0_2],enc p0.Tag]).toArray),(Value.agg (cat [[vI p1.Number],[vI p1.Version],enc p1.Nonce,[v1_1],[v1_2],enc p1.Tag]).toArray)].toArray w0 (fun en w'=>∃ v,en = .returned v ∧ (v = (vT r) ∧ Kept (Old w0) w0 w')):=by
 refine ZD (n:=39) Tryz.func143 rfl rfl (nbl rfl) rfl ?_
 intro a hE
 have hM:=M.start w0
 unfold W3 at hF
 refine Zc (ZY (cs:=cat [[vI p0.Number],[vI p0.Version],enc p0.Nonce,[v0_1],[v0_2],enc p0.Tag]) hE hM Za ld rfl rfl fun b1 w a hM hE=>ZY (cs:=cat [[vI p1.Number],[vI p1.Version],enc p1.Nonce,[v1_1],[v1_2],enc p1.Tag]) hE hM Za ld rfl rfl fun b3 w a hM hE=>Ze hE Za ld rfl fun a hE=>Zf (wp_seq (Zc (Zg hE Za ld rfl (TU) fun a hE=>Zp (v:=(vI p0.Number)) hE Za ld rfl ty2 rfl (At.cat (pre:=[]) (hM.rawAt (pre:=[_])) cl0) fun a hE=>Zg hE Za ld rfl (TU) fun a hE=>Zp (v:=(vI p1.Number)) hE Za ld rfl ty2 rfl (At.cat (pre:=[]) (hM.rawAt (pre:=[])) cl0) fun a hE=>Zi hE Za ld rfl rfl rfl fun a hE=>Zf ?_))))
 refine Zs hE rfl ?_ ?_
 ·intro hb5
  have hF:=ZA hF hb5
  refine Zc (Ze hE Za ld rfl fun a hE=>Zf ?_)
  have hr:=Option.some.inj hF
  subst hr
  have hM:=M.fst (l:=[]) hM
  exact wp_ret (Zx (Zy hE rfl (Zu hE rfl) ⟨_,rfl,rfl,hM.kept⟩))
 ·intro hb5
  have hF:=ZB hF hb5
  refine wp_skip (Zz (wp_seq (Zc (Zg hE Za ld rfl (Q5) fun a hE=>Zp (v:=(vI p0.Version)) hE Za ld rfl ty2 rfl (At.cat (pre:=[[vI p0.Number]]) (hM.rawAt (pre:=[_])) (cl1 (n:=1) (m:=0) rfl cl0)) fun a hE=>Zg hE Za ld rfl (Q5) fun a hE=>Zp (v:=(vI p1.Version)) hE Za ld rfl ty2 rfl (At.cat (pre:=[[vI p1.Number]]) (hM.rawAt (pre:=[])) (cl1 (n:=1) (m:=0) rfl cl0)) fun a hE=>Zi hE Za ld rfl rfl rfl fun a hE=>Zf ?_))))
  refine Zs hE rfl ?_ ?_
  ·intro hb6
   have hF:=ZA hF hb6
   refine Zc (Ze hE Za ld rfl fun a hE=>Zf ?_)
   have hr:=Option.some.inj hF
   subst hr
   have hM:=M.fst (l:=[]) hM
   exact wp_ret (Zx (Zy hE rfl (Zu hE rfl) ⟨_,rfl,rfl,hM.kept⟩))
  ·intro hb6
   have hF:=ZB hF hb6
   refine wp_skip (Zz (wp_seq (Zc (Zg hE Za ld rfl (BD) fun a hE=>Zm (cs:=enc p0.Nonce) hE Za ld rfl ZH rfl (At.cat (pre:=[[vI p0.Number],[vI p0.Version]]) (hM.rawAt (pre:=[_])) (cl1 (n:=1) (m:=1) rfl (cl1 (n:=1) (m:=0) rfl cl0))) (Flat.len _) fun a hE=>Zg hE Za ld rfl (BD) fun a hE=>Zm (cs:=enc p1.Nonce) hE Za ld rfl ZH rfl (At.cat (pre:=[[vI p1.Number],[vI p1.Version]]) (hM.rawAt (pre:=[])) (cl1 (n:=1) (m:=1) rfl (cl1 (n:=1) (m:=0) rfl cl0))) (Flat.len _) ?_)))); intro a hE
   obtain ⟨r7,e8,hF⟩:=bind_some hF
   refine Zt hE Za ld rfl cb142 (Km _ p0.Nonce p1.Nonce r7 e8) ?_
   rintro v w a ⟨rfl,hK⟩ hE
   have hM:=hM.keep hK
   refine WJ hE Za ld rfl fun a hE=>Zf ?_
   refine Zs hE rfl ?_ ?_
   ·intro hb9
    have hF:=ZA hF hb9
    refine Zc (Ze hE Za ld rfl fun a hE=>Zf ?_)
    have hr:=Option.some.inj hF
    subst hr
    have hM:=M.fst (l:=[]) hM
    exact wp_ret (Zx (Zy hE rfl (Zu hE rfl) ⟨_,rfl,rfl,hM.kept⟩))
   ·intro hb9
    have hF:=ZB hF hb9
    refine wp_skip (Zz (wp_seq (Zc (Zg hE Za ld rfl (T9) fun a hE=>Zp (v:=v0_1) hE Za ld rfl Uu rfl (At.cat (pre:=[[vI p0.Number],[vI p0.Version],enc p0.Nonce]) (hM.rawAt (pre:=[_])) (cl1 (n:=1) (m:=17) rfl (cl1 (n:=1) (m:=16) rfl (cl1 (n:=16) (m:=0) (Flat.len _) cl0)))) fun a hE=>Zg hE Za ld rfl (T9) fun a hE=>Zp (v:=v1_1) hE Za ld rfl Uu rfl (At.cat (pre:=[[vI p1.Number],[vI p1.Version],enc p1.Nonce]) (hM.rawAt (pre:=[])) (cl1 (n:=1) (m:=17) rfl (cl1 (n:=1) (m:=16) rfl (cl1 (n:=16) (m:=0) (Flat.len _) cl0)))) ?_)))); intro a hE
    obtain ⟨r10,e11,hF⟩:=bind_some hF
    refine Zt hE Za ld rfl cb28 (KA _ p0.Label v0_1 (hM.rdo hv0_1) p1.Label v1_1 (hM.rdo hv1_1) r10 e11) ?_
    rintro v w a ⟨rfl,hK⟩ hE
    have hM:=hM.keep hK
    refine WJ hE Za ld rfl fun a hE=>Zf ?_
    refine Zs hE rfl ?_ ?_
    ·intro hb12
     have hF:=ZA hF hb12
     refine Zc (Ze hE Za ld rfl fun a hE=>Zf ?_)
     have hr:=Option.some.inj hF
     subst hr
     have hM:=M.fst (l:=[]) hM
     exact wp_ret (Zx (Zy hE rfl (Zu hE rfl) ⟨_,rfl,rfl,hM.kept⟩))
    ·intro hb12
     have hF:=ZB hF hb12
     refine wp_skip (Zz (wp_seq (Zc (Zg hE Za ld rfl (Qr) fun a hE=>Zp (v:=v0_2) hE Za ld rfl Uu rfl (At.cat (pre:=[[vI p0.Number],[vI p0.Version],enc p0.Nonce,[v0_1]]) (hM.rawAt (pre:=[_])) (cl1 (n:=1) (m:=18) rfl (cl1 (n:=1) (m:=17) rfl (cl1 (n:=16) (m:=1) (Flat.len _) (cl1 (n:=1) (m:=0) rfl cl0))))) fun a hE=>Zg hE Za ld rfl (Qr) fun a hE=>Zp (v:=v1_2) hE Za ld rfl Uu rfl (At.cat (pre:=[[vI p1.Number],[vI p1.Version],enc p1.Nonce,[v1_1]]) (hM.rawAt (pre:=[])) (cl1 (n:=1) (m:=18) rfl (cl1 (n:=1) (m:=17) rfl (cl1 (n:=16) (m:=1) (Flat.len _) (cl1 (n:=1) (m:=0) rfl cl0))))) ?_)))); intro a hE
     obtain ⟨r13,e14,hF⟩:=bind_some hF
     refine Zt hE Za ld rfl cb28 (KA _ p0.Body v0_2 (hM.rdo hv0_2) p1.Body v1_2 (hM.rdo hv1_2) r13 e14) ?_
     rintro v w a ⟨rfl,hK⟩ hE
     have hM:=hM.keep hK
     refine WJ hE Za ld rfl fun a hE=>Zf ?_
     refine Zs hE rfl ?_ ?_
     ·intro hb15
      have hF:=ZA hF hb15
      refine Zc (Ze hE Za ld rfl fun a hE=>Zf ?_)
      have hr:=Option.some.inj hF
      subst hr
      have hM:=M.fst (l:=[]) hM
      exact wp_ret (Zx (Zy hE rfl (Zu hE rfl) ⟨_,rfl,rfl,hM.kept⟩))
     ·intro hb15
      have hF:=ZB hF hb15
      refine wp_skip (Zz (wp_seq (Zc (Zg hE Za ld rfl (BP) fun a hE=>Zm (cs:=enc p0.Tag) hE Za ld rfl Yy rfl (At.cat (pre:=[[vI p0.Number],[vI p0.Version],enc p0.Nonce,[v0_1],[v0_2]]) (hM.rawAt (pre:=[_])) (cl1 (n:=1) (m:=19) rfl (cl1 (n:=1) (m:=18) rfl (cl1 (n:=16) (m:=2) (Flat.len _) (cl1 (n:=1) (m:=1) rfl (cl1 (n:=1) (m:=0) rfl cl0)))))) (Flat.len _) fun a hE=>Zg hE Za ld rfl (BP) fun a hE=>Zm (cs:=enc p1.Tag) hE Za ld rfl Yy rfl (At.cat (pre:=[[vI p1.Number],[vI p1.Version],enc p1.Nonce,[v1_1],[v1_2]]) (hM.rawAt (pre:=[])) (cl1 (n:=1) (m:=19) rfl (cl1 (n:=1) (m:=18) rfl (cl1 (n:=16) (m:=2) (Flat.len _) (cl1 (n:=1) (m:=1) rfl (cl1 (n:=1) (m:=0) rfl cl0)))))) (Flat.len _) ?_)))); intro a hE
      obtain ⟨r16,e17,hF⟩:=bind_some hF
      refine Zt hE Za ld rfl cb16 (T8 _ p0.Tag p1.Tag r16 e17) ?_
      rintro v w a ⟨rfl,hK⟩ hE
      have hM:=hM.keep hK
      refine WJ hE Za ld rfl fun a hE=>Zf ?_
      refine Zs hE rfl ?_ ?_
      ·intro hb18
       have hF:=ZA hF hb18
       refine Zc (Ze hE Za ld rfl fun a hE=>Zf ?_)
       have hr:=Option.some.inj hF
       subst hr
       have hM:=M.fst (l:=[]) hM
       exact wp_ret (Zx (Zy hE rfl (Zu hE rfl) ⟨_,rfl,rfl,hM.kept⟩))
      ·intro hb18
       have hF:=ZB hF hb18
       refine wp_skip (Zz (Zc (Ze hE Za ld rfl fun a hE=>Zf ?_)))
       have hr:=Option.some.inj hF
       subst hr
       have hM:=M.fst (l:=[]) hM
       exact wp_ret (Zy hE rfl (Zu hE rfl) ⟨_,rfl,rfl,hM.kept⟩)
def UE (p0 : (List GRecord)) (p1 : (List GRecord)) (s6 : Int) : Option (Fl Int (Fl Unit Bool)) :=
 if (decide (s6 < (p0.length : Int))) = true then (((idx p0 s6).bind fun x15=>(idx p1 s6).bind fun x25=>(W3 x15 x25).bind fun r35=>some (!r35) : Option (Bool)).bind fun j11=>if j11 = true then (some (Fl.ex (Fl.ex false))) else (some (Fl.nx (wr (s6 + 1))))) else (some (Fl.ex (Fl.nx ())))
def VZ (p0 : (List GRecord)) (p1 : (List GRecord)) : Option (Bool) :=
 if ((p0.length : Int) != (p1.length : Int)) = true then (some false) else ((ZG (UE p0 p1) 0).bind fun j2=>j2.el (fun s5=>some true) (fun r=>some r))
theorem Hj (w0 : World) (p0 : (List GRecord)) (v0_1 : Value) (hv0_1 : Ro w0 p0 [v0_1]) (p1 : (List GRecord)) (v1_1 : Value) (hv1_1 : Ro w0 p1 [v1_1]) (r : Bool) (hF : VZ p0 p1 = some r) :
  Calls Tryz.prog 63 [v0_1,v1_1].toArray w0 (fun en w'=>∃ v,en = .returned v ∧ (v = (vT r) ∧ Kept (Old w0) w0 w')):=by
 refine ZD (n:=27) Tryz.func63 rfl rfl (nbl rfl) rfl ?_
 intro a hE
 have hM:=M.start w0
 unfold VZ at hF
 refine Zc (Ze hE Za ld rfl fun a hE=>Zf (wp_seq (Zc (Zd hE Za ld rfl fun a hE=>Z3 hE Za ld rfl Tryz.underlying33 (hM.rd hv0_1) fun a hE=>Zd hE Za ld rfl fun a hE=>Z3 hE Za ld rfl Tryz.underlying33 (hM.rd hv1_1) fun a hE=>Zi hE Za ld rfl rfl rfl fun a hE=>Zf ?_))))
 refine Zs hE rfl ?_ ?_
 ·intro hb1
  have hF:=ZA hF hb1
  refine Zc (Ze hE Za ld rfl fun a hE=>Zf ?_)
  have hr:=Option.some.inj hF
  subst hr
  exact wp_ret (Zx (Zy hE rfl (Zu hE rfl) ⟨_,rfl,rfl,hM.kept⟩))
 ·intro hb1
  have hF:=ZB hF hb1
  refine wp_skip (Zz (wp_seq (Zc (Ze hE Za ld rfl fun a hE=>Zf ?_))))
  obtain ⟨j2,hl3,hF4⟩:=bind_some hF
  refine ZP (fun a w=>∃ s5 : Unit,j2 = Fl.nx s5 ∧ Env 27 a [] ∧ M (Old w0) w0 w []) ?_ ?_
  ·skip
   refine wp_block ?_
   refine ZI (fun (s6 : Int) a w=>Env 27 a [(0,v0_1),(1,v1_1),(5,vI s6)] ∧ M (Old w0) w0 w []) hl3 ⟨hE.sub ⟨rfl,rfl,rfl,trivial⟩,hM⟩ ?_
   rintro s6 a w ⟨hE,hM⟩ o9 hs7 hx8
   unfold UE at hs7
   refine wp_seq (Zc (Zd hE Za ld rfl fun a hE=>Zd hE Za ld rfl fun a hE=>Z3 hE Za ld rfl Tryz.underlying33 (hM.rd hv0_1) fun a hE=>Zi hE Za ld rfl rfl rfl fun a hE=>Zf ?_))
   refine Zs hE rfl ?_ ?_
   ·intro hb10
    have hs7:=ZA hs7 hb10
    refine wp_skip (Zz (wp_seq (wp_block ?_)))
    obtain ⟨j11,hl12,hF13⟩:=bind_some hs7
    refine ZS (fun a w=>Env 27 a [(0,v0_1),(1,v1_1),(5,vI s6),(26,vT j11)] ∧ M (Old w0) w0 w []) ?_ ?_
    ·skip
     obtain ⟨x15,hi17,hl12⟩:=bix hl12
     obtain ⟨cs18,hs19,hA20⟩:=Vj hv0_1 hi17.2 -- ^
     obtain ⟨u21,u23,rfl,h22,h24⟩:=Xe hs19 -- ^
     obtain ⟨x25,hi27,hl12⟩:=bix hl12
     obtain ⟨cs28,hs29,hA30⟩:=Vj hv1_1 hi27.2 -- ^
     obtain ⟨u31,u33,rfl,h32,h34⟩:=Xe hs29 -- ^
     obtain ⟨r35,e36,hl12⟩:=bind_some hl12
     refine YC (n:=27) (hd:=[_,_,_,_,_,_,_,_,_,_]) (tl:=[]) Y0 rfl rfl [17,18,19,20,21,22,23,24,25,26] (by decide) (fun w=>M (Old w0) w0 w []) (fun j=>([fun v _=>v = v0_1,fun v _=>v = (vI s6),fun v _=>v = (ptr (sb v0_1) (so v0_1 + (s6).toNat * 52)),fun v _=>v = (Value.agg (cat [[vI x15.Number],[vI x15.Version],enc x15.Nonce,[u21],[u23],enc x15.Tag]).toArray),fun v _=>v = v1_1,fun v _=>v = (vI s6),fun v _=>v = (ptr (sb v1_1) (so v1_1 + (s6).toNat * 52)),fun v _=>v = (Value.agg (cat [[vI x25.Number],[vI x25.Version],enc x25.Nonce,[u31],[u33],enc x25.Tag]).toArray),fun v _=>v = (vT r35),fun v _=>v = (vT (!r35))] : List (Value → World → Prop)).getD j (fun _ _=>True)) (fun _ _ h hk=>h.keep hk) (gup (Zk (Zk (Zk (Zk (Zk (Zk (Zk (Zk (Zk (Zk V1))))))))))) hE hM.drew (ZK (Zb ?_ (Zb ?_ (Zb ?_ (Zb ?_ (Zb ?_ (Zb ?_ (Zb ?_ (Zb ?_ (Zb ?_ (Zb ?_ ZF))))))))))) ?_
     ·exact fun a w ux14 hE hM hp=>Zd hE Za ld rfl fun a hE=>⟨Kept.refl _ _,_,_,rfl,hE,rfl⟩
     ·exact fun a w ux14 hE hM hp=>Zd hE Za ld rfl fun a hE=>⟨Kept.refl _ _,_,_,rfl,hE,rfl⟩
     ·intro a w ux14 hE hM hp
      have f0 : ux14 0 = v0_1:=hp 0 _ rfl rfl
      have f1 : ux14 1 = (vI s6):=hp 1 _ rfl rfl
      exact ZL hE Za ld (lk rfl f0) (lk rfl f1) Tryz.underlying33 XZ (hM.rd hv0_1) hi17.1 fun a hE=>⟨Kept.refl _ _,_,_,rfl,hE,rfl⟩
     ·intro a w ux14 hE hM hp
      have f2 : ux14 2 = (ptr (sb v0_1) (so v0_1 + (s6).toNat * 52)):=hp 0 _ rfl rfl
      exact Zm (cs:=cat [[vI x15.Number],[vI x15.Version],enc x15.Nonce,[u21],[u23],enc x15.Tag]) hE Za ld (lk rfl f2) XZ rfl (hM.atk hA20 (UZ hv0_1 hi17.2)) (Zh (cl1 (n:=1) (m:=51) rfl (cl1 (n:=1) (m:=50) rfl (cl1 (n:=16) (m:=34) (Flat.len _) (cl1 (n:=1) (m:=33) rfl (cl1 (n:=1) (m:=32) rfl (cl1 (n:=32) (m:=0) (Flat.len _) cl0))))))) fun a hE=>⟨Kept.refl _ _,_,_,rfl,hE,rfl⟩
     ·exact fun a w ux14 hE hM hp=>Zd hE Za ld rfl fun a hE=>⟨Kept.refl _ _,_,_,rfl,hE,rfl⟩
     ·exact fun a w ux14 hE hM hp=>Zd hE Za ld rfl fun a hE=>⟨Kept.refl _ _,_,_,rfl,hE,rfl⟩
     ·intro a w ux14 hE hM hp
      have f4 : ux14 4 = v1_1:=hp 0 _ rfl rfl
      have f5 : ux14 5 = (vI s6):=hp 1 _ rfl rfl
      exact ZL hE Za ld (lk rfl f4) (lk rfl f5) Tryz.underlying33 XZ (hM.rd hv1_1) hi27.1 fun a hE=>⟨Kept.refl _ _,_,_,rfl,hE,rfl⟩
     ·intro a w ux14 hE hM hp
      have f6 : ux14 6 = (ptr (sb v1_1) (so v1_1 + (s6).toNat * 52)):=hp 0 _ rfl rfl
      exact Zm (cs:=cat [[vI x25.Number],[vI x25.Version],enc x25.Nonce,[u31],[u33],enc x25.Tag]) hE Za ld (lk rfl f6) XZ rfl (hM.atk hA30 (UZ hv1_1 hi27.2)) (Zh (cl1 (n:=1) (m:=51) rfl (cl1 (n:=1) (m:=50) rfl (cl1 (n:=16) (m:=34) (Flat.len _) (cl1 (n:=1) (m:=33) rfl (cl1 (n:=1) (m:=32) rfl (cl1 (n:=32) (m:=0) (Flat.len _) cl0))))))) fun a hE=>⟨Kept.refl _ _,_,_,rfl,hE,rfl⟩
     ·intro a w ux14 hE hM hp
      have f3 : ux14 3 = (Value.agg (cat [[vI x15.Number],[vI x15.Version],enc x15.Nonce,[u21],[u23],enc x15.Tag]).toArray):=hp 0 _ rfl rfl
      have f7 : ux14 7 = (Value.agg (cat [[vI x25.Number],[vI x25.Version],enc x25.Nonce,[u31],[u33],enc x25.Tag]).toArray):=hp 1 _ rfl rfl
      refine Zt hE Za ld (ZV (ZT (lk rfl f3) (ZT (lk rfl f7) YZ))) cb143 (HX _ x15 u21 (hM.rdo h22) u23 (hM.rdo h24) x25 u31 (hM.rdo h32) u33 (hM.rdo h34) r35 e36) ?_
      rintro v w a ⟨rfl,hK⟩ hE
      exact ⟨hK,_,_,rfl,hE,rfl⟩
     ·intro a w ux14 hE hM hp
      have f8 : ux14 8 = (vT r35):=hp 0 _ rfl rfl
      exact WJ hE Za ld (lk rfl f8) fun a hE=>⟨Kept.refl _ _,_,_,rfl,hE,rfl⟩
     ·intro a w ux14 hE hM hg
      have hE:=hE.sub (e':=[(26,(vT (!r35))),(0,v0_1),(1,v1_1),(5,vI s6),(11,vI s6),(12,v0_1),(13,(vI (p0.length : Int))),(14,(vT (decide (s6 < (p0.length : Int)))))]) ⟨lk rfl (hg 9 (by decide)),rfl,rfl,rfl,rfl,rfl,rfl,rfl,trivial⟩
      refine Zj ?_
      have ht37:=Option.some.inj hl12
      subst ht37
      refine Zn ?_
      exact ⟨hE.sub ⟨rfl,rfl,rfl,rfl,trivial⟩,hM⟩
    ·skip
     rintro a w ⟨hE,hM⟩
     refine Zs hE rfl ?_ ?_
     ·intro hb38
      have hF13:=ZA hF13 hb38
      refine Zc (Ze hE Za ld rfl fun a hE=>Zf ?_)
      have ht39:=hx8 _ (ois hF13)
      subst ht39
      have hr:=Option.some.inj hF4
      subst hr
      exact wp_ret (Yj (Zx (Zx (Yj (Zx (Zx (Zy hE rfl (Zu hE rfl) ⟨_,rfl,rfl,hM.kept⟩)))))))
     ·intro hb38
      have hF13:=ZB hF13 hb38
      refine wp_skip (Yb (Zz (wp_region_lit (Zd hE Za ld rfl fun a hE=>Zi hE Za ld rfl rfl rfl fun a hE=>Ze hE Za ld rfl fun a hE=>Zj (Zn ?_)))))
      exact ⟨_,(ois hF13),hE.sub ⟨rfl,rfl,rfl,trivial⟩,hM⟩
   ·intro hb10
    have hs7:=ZB hs7 hb10
    refine wp_exit (Zq (Zq (Yf ?_)))
    have ht40:=hx8 _ (ois hs7)
    subst ht40
    refine Zn ?_
    exact ⟨(),rfl,hE.sub trivial,hM⟩
  ·skip
   rintro a w ⟨s5,ht,hE,hM⟩
   subst ht
   have hF4:=Tg hF4
   refine Zz (Zc (Ze hE Za ld rfl fun a hE=>Zf ?_))
   have hr:=Option.some.inj hF4
   subst hr
   exact wp_ret (Zy hE rfl (Zu hE rfl) ⟨_,rfl,rfl,hM.kept⟩)
def VP (p0 : GEvent) (p1 : GEvent) : Option (Bool) :=
 if (p0.Kind != p1.Kind) = true then (some false) else (if (p0.Number != p1.Number) = true then (some false) else ((Wk p0.Tag p1.Tag).bind fun r7=>if (!r7) = true then (some false) else (some true)))
theorem B5 (w0 : World) (p0 : GEvent) (p1 : GEvent) (r : Bool) (hF : VP p0 p1 = some r) :
  Calls Tryz.prog 144 [(Value.agg (enc p0).toArray),(Value.agg (enc p1).toArray)].toArray w0 (fun en w'=>∃ v,en = .returned v ∧ (v = (vT r) ∧ Kept (Old w0) w0 w')):=by
 refine ZD (n:=21) Tryz.func144 rfl rfl (nbl rfl) rfl ?_
 intro a hE
 have hM:=M.start w0
 unfold VP at hF
 refine Zc (ZY (cs:=cat [[vI p0.Kind],[vI p0.Number],enc p0.Tag]) hE hM Za ld rfl rfl fun b1 w a hM hE=>ZY (cs:=cat [[vI p1.Kind],[vI p1.Number],enc p1.Tag]) hE hM Za ld rfl rfl fun b3 w a hM hE=>Ze hE Za ld rfl fun a hE=>Zf (wp_seq (Zc (Zg hE Za ld rfl (Qf) fun a hE=>Zp (v:=(vI p0.Kind)) hE Za ld rfl ty2 rfl (At.cat (pre:=[]) (hM.rawAt (pre:=[_])) cl0) fun a hE=>Zg hE Za ld rfl (Qf) fun a hE=>Zp (v:=(vI p1.Kind)) hE Za ld rfl ty2 rfl (At.cat (pre:=[]) (hM.rawAt (pre:=[])) cl0) fun a hE=>Zi hE Za ld rfl rfl rfl fun a hE=>Zf ?_))))
 refine Zs hE rfl ?_ ?_
 ·intro hb5
  have hF:=ZA hF hb5
  refine Zc (Ze hE Za ld rfl fun a hE=>Zf ?_)
  have hr:=Option.some.inj hF
  subst hr
  have hM:=M.fst (l:=[]) hM
  exact wp_ret (Zx (Zy hE rfl (Zu hE rfl) ⟨_,rfl,rfl,hM.kept⟩))
 ·intro hb5
  have hF:=ZB hF hb5
  refine wp_skip (Zz (wp_seq (Zc (Zg hE Za ld rfl (Qe) fun a hE=>Zp (v:=(vI p0.Number)) hE Za ld rfl ty2 rfl (At.cat (pre:=[[vI p0.Kind]]) (hM.rawAt (pre:=[_])) (cl1 (n:=1) (m:=0) rfl cl0)) fun a hE=>Zg hE Za ld rfl (Qe) fun a hE=>Zp (v:=(vI p1.Number)) hE Za ld rfl ty2 rfl (At.cat (pre:=[[vI p1.Kind]]) (hM.rawAt (pre:=[])) (cl1 (n:=1) (m:=0) rfl cl0)) fun a hE=>Zi hE Za ld rfl rfl rfl fun a hE=>Zf ?_))))
  refine Zs hE rfl ?_ ?_
  ·intro hb6
   have hF:=ZA hF hb6
   refine Zc (Ze hE Za ld rfl fun a hE=>Zf ?_)
   have hr:=Option.some.inj hF
   subst hr
   have hM:=M.fst (l:=[]) hM
   exact wp_ret (Zx (Zy hE rfl (Zu hE rfl) ⟨_,rfl,rfl,hM.kept⟩))
  ·intro hb6
   have hF:=ZB hF hb6
   refine wp_skip (Zz (wp_seq (Zc (Zg hE Za ld rfl (Q8) fun a hE=>Zm (cs:=enc p0.Tag) hE Za ld rfl Yy rfl (At.cat (pre:=[[vI p0.Kind],[vI p0.Number]]) (hM.rawAt (pre:=[_])) (cl1 (n:=1) (m:=1) rfl (cl1 (n:=1) (m:=0) rfl cl0))) (Flat.len _) fun a hE=>Zg hE Za ld rfl (Q8) fun a hE=>Zm (cs:=enc p1.Tag) hE Za ld rfl Yy rfl (At.cat (pre:=[[vI p1.Kind],[vI p1.Number]]) (hM.rawAt (pre:=[])) (cl1 (n:=1) (m:=1) rfl (cl1 (n:=1) (m:=0) rfl cl0))) (Flat.len _) ?_)))); intro a hE
   obtain ⟨r7,e8,hF⟩:=bind_some hF
   refine Zt hE Za ld rfl cb16 (T8 _ p0.Tag p1.Tag r7 e8) ?_
   rintro v w a ⟨rfl,hK⟩ hE
   have hM:=hM.keep hK
   refine WJ hE Za ld rfl fun a hE=>Zf ?_
   refine Zs hE rfl ?_ ?_
   ·intro hb9
    have hF:=ZA hF hb9
    refine Zc (Ze hE Za ld rfl fun a hE=>Zf ?_)
    have hr:=Option.some.inj hF
    subst hr
    have hM:=M.fst (l:=[]) hM
    exact wp_ret (Zx (Zy hE rfl (Zu hE rfl) ⟨_,rfl,rfl,hM.kept⟩))
   ·intro hb9
    have hF:=ZB hF hb9
    refine wp_skip (Zz (Zc (Ze hE Za ld rfl fun a hE=>Zf ?_)))
    have hr:=Option.some.inj hF
    subst hr
    have hM:=M.fst (l:=[]) hM
    exact wp_ret (Zy hE rfl (Zu hE rfl) ⟨_,rfl,rfl,hM.kept⟩)
def U6 (p0 : (List GEvent)) (p1 : (List GEvent)) (s6 : Int) : Option (Fl Int (Fl Unit Bool)) :=
 if (decide (s6 < (p0.length : Int))) = true then (((idx p0 s6).bind fun x15=>(idx p1 s6).bind fun x18=>(VP x15 x18).bind fun r21=>some (!r21) : Option (Bool)).bind fun j11=>if j11 = true then (some (Fl.ex (Fl.ex false))) else (some (Fl.nx (wr (s6 + 1))))) else (some (Fl.ex (Fl.nx ())))
def Uo (p0 : (List GEvent)) (p1 : (List GEvent)) : Option (Bool) :=
 if ((p0.length : Int) != (p1.length : Int)) = true then (some false) else ((ZG (U6 p0 p1) 0).bind fun j2=>j2.el (fun s5=>some true) (fun r=>some r))
theorem HS (w0 : World) (p0 : (List GEvent)) (v0_1 : Value) (hv0_1 : Ro w0 p0 [v0_1]) (p1 : (List GEvent)) (v1_1 : Value) (hv1_1 : Ro w0 p1 [v1_1]) (r : Bool) (hF : Uo p0 p1 = some r) :
  Calls Tryz.prog 64 [v0_1,v1_1].toArray w0 (fun en w'=>∃ v,en = .returned v ∧ (v = (vT r) ∧ Kept (Old w0) w0 w')):=by
 refine ZD (n:=27) Tryz.func64 rfl rfl (nbl rfl) rfl ?_
 intro a hE
 have hM:=M.start w0
 unfold Uo at hF
 refine Zc (Ze hE Za ld rfl fun a hE=>Zf (wp_seq (Zc (Zd hE Za ld rfl fun a hE=>Z3 hE Za ld rfl Tryz.underlying34 (hM.rd hv0_1) fun a hE=>Zd hE Za ld rfl fun a hE=>Z3 hE Za ld rfl Tryz.underlying34 (hM.rd hv1_1) fun a hE=>Zi hE Za ld rfl rfl rfl fun a hE=>Zf ?_))))
 refine Zs hE rfl ?_ ?_
 ·intro hb1
  have hF:=ZA hF hb1
  refine Zc (Ze hE Za ld rfl fun a hE=>Zf ?_)
  have hr:=Option.some.inj hF
  subst hr
  exact wp_ret (Zx (Zy hE rfl (Zu hE rfl) ⟨_,rfl,rfl,hM.kept⟩))
 ·intro hb1
  have hF:=ZB hF hb1
  refine wp_skip (Zz (wp_seq (Zc (Ze hE Za ld rfl fun a hE=>Zf ?_))))
  obtain ⟨j2,hl3,hF4⟩:=bind_some hF
  refine ZP (fun a w=>∃ s5 : Unit,j2 = Fl.nx s5 ∧ Env 27 a [] ∧ M (Old w0) w0 w []) ?_ ?_
  ·skip
   refine wp_block ?_
   refine ZI (fun (s6 : Int) a w=>Env 27 a [(0,v0_1),(1,v1_1),(5,vI s6)] ∧ M (Old w0) w0 w []) hl3 ⟨hE.sub ⟨rfl,rfl,rfl,trivial⟩,hM⟩ ?_
   rintro s6 a w ⟨hE,hM⟩ o9 hs7 hx8
   unfold U6 at hs7
   refine wp_seq (Zc (Zd hE Za ld rfl fun a hE=>Zd hE Za ld rfl fun a hE=>Z3 hE Za ld rfl Tryz.underlying34 (hM.rd hv0_1) fun a hE=>Zi hE Za ld rfl rfl rfl fun a hE=>Zf ?_))
   refine Zs hE rfl ?_ ?_
   ·intro hb10
    have hs7:=ZA hs7 hb10
    refine wp_skip (Zz (wp_seq (wp_block ?_)))
    obtain ⟨j11,hl12,hF13⟩:=bind_some hs7
    refine ZS (fun a w=>Env 27 a [(0,v0_1),(1,v1_1),(5,vI s6),(26,vT j11)] ∧ M (Old w0) w0 w []) ?_ ?_
    ·skip
     obtain ⟨x15,hi17,hl12⟩:=bix hl12
     obtain ⟨x18,hi20,hl12⟩:=bix hl12
     obtain ⟨r21,e22,hl12⟩:=bind_some hl12
     refine YC (n:=27) (hd:=[_,_,_,_,_,_,_,_,_,_]) (tl:=[]) Y0 rfl rfl [17,18,19,20,21,22,23,24,25,26] (by decide) (fun w=>M (Old w0) w0 w []) (fun j=>([fun v _=>v = v0_1,fun v _=>v = (vI s6),fun v _=>v = (ptr (sb v0_1) (so v0_1 + (s6).toNat * 34)),fun v _=>v = (Value.agg (enc x15).toArray),fun v _=>v = v1_1,fun v _=>v = (vI s6),fun v _=>v = (ptr (sb v1_1) (so v1_1 + (s6).toNat * 34)),fun v _=>v = (Value.agg (enc x18).toArray),fun v _=>v = (vT r21),fun v _=>v = (vT (!r21))] : List (Value → World → Prop)).getD j (fun _ _=>True)) (fun _ _ h hk=>h.keep hk) (gup (Zk (Zk (Zk (Zk (Zk (Zk (Zk (Zk (Zk (Zk V1))))))))))) hE hM.drew (ZK (Zb ?_ (Zb ?_ (Zb ?_ (Zb ?_ (Zb ?_ (Zb ?_ (Zb ?_ (Zb ?_ (Zb ?_ (Zb ?_ ZF))))))))))) ?_
     ·exact fun a w ux14 hE hM hp=>Zd hE Za ld rfl fun a hE=>⟨Kept.refl _ _,_,_,rfl,hE,rfl⟩
     ·exact fun a w ux14 hE hM hp=>Zd hE Za ld rfl fun a hE=>⟨Kept.refl _ _,_,_,rfl,hE,rfl⟩
     ·intro a w ux14 hE hM hp
      have f0 : ux14 0 = v0_1:=hp 0 _ rfl rfl
      have f1 : ux14 1 = (vI s6):=hp 1 _ rfl rfl
      exact ZL hE Za ld (lk rfl f0) (lk rfl f1) Tryz.underlying34 Y9 (hM.rd hv0_1) hi17.1 fun a hE=>⟨Kept.refl _ _,_,_,rfl,hE,rfl⟩
     ·intro a w ux14 hE hM hp
      have f2 : ux14 2 = (ptr (sb v0_1) (so v0_1 + (s6).toNat * 34)):=hp 0 _ rfl rfl
      exact Zm (cs:=enc x15) hE Za ld (lk rfl f2) Y9 rfl (XE (hM.rd hv0_1) hi17.2) (Zh (cl1 (n:=1) (m:=33) rfl (cl1 (n:=1) (m:=32) rfl (cl1 (n:=32) (m:=0) (Flat.len _) cl0)))) fun a hE=>⟨Kept.refl _ _,_,_,rfl,hE,rfl⟩
     ·exact fun a w ux14 hE hM hp=>Zd hE Za ld rfl fun a hE=>⟨Kept.refl _ _,_,_,rfl,hE,rfl⟩
     ·exact fun a w ux14 hE hM hp=>Zd hE Za ld rfl fun a hE=>⟨Kept.refl _ _,_,_,rfl,hE,rfl⟩
     ·intro a w ux14 hE hM hp
      have f4 : ux14 4 = v1_1:=hp 0 _ rfl rfl
      have f5 : ux14 5 = (vI s6):=hp 1 _ rfl rfl
      exact ZL hE Za ld (lk rfl f4) (lk rfl f5) Tryz.underlying34 Y9 (hM.rd hv1_1) hi20.1 fun a hE=>⟨Kept.refl _ _,_,_,rfl,hE,rfl⟩
     ·intro a w ux14 hE hM hp
      have f6 : ux14 6 = (ptr (sb v1_1) (so v1_1 + (s6).toNat * 34)):=hp 0 _ rfl rfl
      exact Zm (cs:=enc x18) hE Za ld (lk rfl f6) Y9 rfl (XE (hM.rd hv1_1) hi20.2) (Zh (cl1 (n:=1) (m:=33) rfl (cl1 (n:=1) (m:=32) rfl (cl1 (n:=32) (m:=0) (Flat.len _) cl0)))) fun a hE=>⟨Kept.refl _ _,_,_,rfl,hE,rfl⟩
     ·intro a w ux14 hE hM hp
      have f3 : ux14 3 = (Value.agg (enc x15).toArray):=hp 0 _ rfl rfl
      have f7 : ux14 7 = (Value.agg (enc x18).toArray):=hp 1 _ rfl rfl
      refine Zt hE Za ld (ZV (ZT (lk rfl f3) (ZT (lk rfl f7) YZ))) cb144 (B5 _ x15 x18 r21 e22) ?_
      rintro v w a ⟨rfl,hK⟩ hE
      exact ⟨hK,_,_,rfl,hE,rfl⟩
     ·intro a w ux14 hE hM hp
      have f8 : ux14 8 = (vT r21):=hp 0 _ rfl rfl
      exact WJ hE Za ld (lk rfl f8) fun a hE=>⟨Kept.refl _ _,_,_,rfl,hE,rfl⟩
     ·intro a w ux14 hE hM hg
      have hE:=hE.sub (e':=[(26,(vT (!r21))),(0,v0_1),(1,v1_1),(5,vI s6),(11,vI s6),(12,v0_1),(13,(vI (p0.length : Int))),(14,(vT (decide (s6 < (p0.length : Int)))))]) ⟨lk rfl (hg 9 (by decide)),rfl,rfl,rfl,rfl,rfl,rfl,rfl,trivial⟩
      refine Zj ?_
      have ht23:=Option.some.inj hl12
      subst ht23
      refine Zn ?_
      exact ⟨hE.sub ⟨rfl,rfl,rfl,rfl,trivial⟩,hM⟩
    ·skip
     rintro a w ⟨hE,hM⟩
     refine Zs hE rfl ?_ ?_
     ·intro hb24
      have hF13:=ZA hF13 hb24
      refine Zc (Ze hE Za ld rfl fun a hE=>Zf ?_)
      have ht25:=hx8 _ (ois hF13)
      subst ht25
      have hr:=Option.some.inj hF4
      subst hr
      exact wp_ret (Yj (Zx (Zx (Yj (Zx (Zx (Zy hE rfl (Zu hE rfl) ⟨_,rfl,rfl,hM.kept⟩)))))))
     ·intro hb24
      have hF13:=ZB hF13 hb24
      refine wp_skip (Yb (Zz (wp_region_lit (Zd hE Za ld rfl fun a hE=>Zi hE Za ld rfl rfl rfl fun a hE=>Ze hE Za ld rfl fun a hE=>Zj (Zn ?_)))))
      exact ⟨_,(ois hF13),hE.sub ⟨rfl,rfl,rfl,trivial⟩,hM⟩
   ·intro hb10
    have hs7:=ZB hs7 hb10
    refine wp_exit (Zq (Zq (Yf ?_)))
    have ht26:=hx8 _ (ois hs7)
    subst ht26
    refine Zn ?_
    exact ⟨(),rfl,hE.sub trivial,hM⟩
  ·skip
   rintro a w ⟨s5,ht,hE,hM⟩
   subst ht
   have hF4:=Tg hF4
   refine Zz (Zc (Ze hE Za ld rfl fun a hE=>Zf ?_))
   have hr:=Option.some.inj hF4
   subst hr
   exact wp_ret (Zy hE rfl (Zu hE rfl) ⟨_,rfl,rfl,hM.kept⟩)
def XX (p0 : GVault) (p1 : GVault) : Option (Bool) :=
 (Uq p0.Keys p1.Keys).bind fun r5=>if (!r5) = true then (some false) else (if (p0.Next != p1.Next) = true then (some false) else ((VZ p0.Records p1.Records).bind fun r9=>if (!r9) = true then (some false) else ((Uo p0.Events p1.Events).bind fun r12=>if (!r12) = true then (some false) else ((Wk p0.Head p1.Head).bind fun r15=>if (!r15) = true then (some false) else (some true)))))
theorem TR (w0 : World) (p0 : GVault) (v0_1 : Value) (hv0_1 : Ro w0 p0.Keys [v0_1]) (v0_2 : Value) (hv0_2 : Ro w0 p0.Records [v0_2]) (v0_3 : Value) (hv0_3 : Ro w0 p0.Events [v0_3]) (p1 : GVault) (v1_1 : Value) (hv1_1 : Ro w0 p1.Keys [v1_1]) (v1_2 : Value) (hv1_2 : Ro w0 p1.Records [v1_2]) (v1_3 : Value) (hv1_3 : Ro w0 p1.Events [v1_3]) (r : Bool) (hF : XX p0 p1 = some r) :
  Calls Tryz.prog 17 [(Value.agg (cat [[v0_1],[vI p0.Next],[v0_2],[v0_3],enc p0.Head]).toArray),(Value.agg (cat [[v1_1],[vI p1.Next],[v1_2],[v1_3],enc p1.Head]).toArray)].toArray w0 (fun en w'=>∃ v,en = .returned v ∧ (v = (vT r) ∧ Kept (Old w0) w0 w')):=by
 refine ZD (n:=34) Tryz.func17 rfl rfl (nbl rfl) rfl ?_
 intro a hE
 have hM:=M.start w0
 unfold XX at hF
 refine Zc (ZY (cs:=cat [[v0_1],[vI p0.Next],[v0_2],[v0_3],enc p0.Head]) hE hM Za ld rfl rfl fun b1 w a hM hE=>ZY (cs:=cat [[v1_1],[vI p1.Next],[v1_2],[v1_3],enc p1.Head]) hE hM Za ld rfl rfl fun b3 w a hM hE=>Ze hE Za ld rfl fun a hE=>Zf (wp_seq (Zc (Zg hE Za ld rfl (Wl) fun a hE=>Zp (v:=v0_1) hE Za ld rfl T1 rfl (At.cat (pre:=[]) (hM.rawAt (pre:=[_])) cl0) fun a hE=>Zg hE Za ld rfl (Wl) fun a hE=>Zp (v:=v1_1) hE Za ld rfl T1 rfl (At.cat (pre:=[]) (hM.rawAt (pre:=[])) cl0) ?_)))); intro a hE
 obtain ⟨r5,e6,hF⟩:=bind_some hF
 refine Zt hE Za ld rfl cb62 (HJ _ p0.Keys v0_1 (hM.rdo hv0_1) p1.Keys v1_1 (hM.rdo hv1_1) r5 e6) ?_
 rintro v w a ⟨rfl,hK⟩ hE
 have hM:=hM.keep hK
 refine WJ hE Za ld rfl fun a hE=>Zf ?_
 refine Zs hE rfl ?_ ?_
 ·intro hb7
  have hF:=ZA hF hb7
  refine Zc (Ze hE Za ld rfl fun a hE=>Zf ?_)
  have hr:=Option.some.inj hF
  subst hr
  have hM:=M.fst (l:=[]) hM
  exact wp_ret (Zx (Zy hE rfl (Zu hE rfl) ⟨_,rfl,rfl,hM.kept⟩))
 ·intro hb7
  have hF:=ZB hF hb7
  refine wp_skip (Zz (wp_seq (Zc (Zg hE Za ld rfl (Qo) fun a hE=>Zp (v:=(vI p0.Next)) hE Za ld rfl ty2 rfl (At.cat (pre:=[[v0_1]]) (hM.rawAt (pre:=[_])) (cl1 (n:=1) (m:=0) rfl cl0)) fun a hE=>Zg hE Za ld rfl (Qo) fun a hE=>Zp (v:=(vI p1.Next)) hE Za ld rfl ty2 rfl (At.cat (pre:=[[v1_1]]) (hM.rawAt (pre:=[])) (cl1 (n:=1) (m:=0) rfl cl0)) fun a hE=>Zi hE Za ld rfl rfl rfl fun a hE=>Zf ?_))))
  refine Zs hE rfl ?_ ?_
  ·intro hb8
   have hF:=ZA hF hb8
   refine Zc (Ze hE Za ld rfl fun a hE=>Zf ?_)
   have hr:=Option.some.inj hF
   subst hr
   have hM:=M.fst (l:=[]) hM
   exact wp_ret (Zx (Zy hE rfl (Zu hE rfl) ⟨_,rfl,rfl,hM.kept⟩))
  ·intro hb8
   have hF:=ZB hF hb8
   refine wp_skip (Zz (wp_seq (Zc (Zg hE Za ld rfl (UC) fun a hE=>Zp (v:=v0_2) hE Za ld rfl QX rfl (At.cat (pre:=[[v0_1],[vI p0.Next]]) (hM.rawAt (pre:=[_])) (cl1 (n:=1) (m:=1) rfl (cl1 (n:=1) (m:=0) rfl cl0))) fun a hE=>Zg hE Za ld rfl (UC) fun a hE=>Zp (v:=v1_2) hE Za ld rfl QX rfl (At.cat (pre:=[[v1_1],[vI p1.Next]]) (hM.rawAt (pre:=[])) (cl1 (n:=1) (m:=1) rfl (cl1 (n:=1) (m:=0) rfl cl0))) ?_)))); intro a hE
   obtain ⟨r9,e10,hF⟩:=bind_some hF
   refine Zt hE Za ld rfl cb63 (Hj _ p0.Records v0_2 (hM.rdo hv0_2) p1.Records v1_2 (hM.rdo hv1_2) r9 e10) ?_
   rintro v w a ⟨rfl,hK⟩ hE
   have hM:=hM.keep hK
   refine WJ hE Za ld rfl fun a hE=>Zf ?_
   refine Zs hE rfl ?_ ?_
   ·intro hb11
    have hF:=ZA hF hb11
    refine Zc (Ze hE Za ld rfl fun a hE=>Zf ?_)
    have hr:=Option.some.inj hF
    subst hr
    have hM:=M.fst (l:=[]) hM
    exact wp_ret (Zx (Zy hE rfl (Zu hE rfl) ⟨_,rfl,rfl,hM.kept⟩))
   ·intro hb11
    have hF:=ZB hF hb11
    refine wp_skip (Zz (wp_seq (Zc (Zg hE Za ld rfl (VH) fun a hE=>Zp (v:=v0_3) hE Za ld rfl QI rfl (At.cat (pre:=[[v0_1],[vI p0.Next],[v0_2]]) (hM.rawAt (pre:=[_])) (cl1 (n:=1) (m:=2) rfl (cl1 (n:=1) (m:=1) rfl (cl1 (n:=1) (m:=0) rfl cl0)))) fun a hE=>Zg hE Za ld rfl (VH) fun a hE=>Zp (v:=v1_3) hE Za ld rfl QI rfl (At.cat (pre:=[[v1_1],[vI p1.Next],[v1_2]]) (hM.rawAt (pre:=[])) (cl1 (n:=1) (m:=2) rfl (cl1 (n:=1) (m:=1) rfl (cl1 (n:=1) (m:=0) rfl cl0)))) ?_)))); intro a hE
    obtain ⟨r12,e13,hF⟩:=bind_some hF
    refine Zt hE Za ld rfl cb64 (HS _ p0.Events v0_3 (hM.rdo hv0_3) p1.Events v1_3 (hM.rdo hv1_3) r12 e13) ?_
    rintro v w a ⟨rfl,hK⟩ hE
    have hM:=hM.keep hK
    refine WJ hE Za ld rfl fun a hE=>Zf ?_
    refine Zs hE rfl ?_ ?_
    ·intro hb14
     have hF:=ZA hF hb14
     refine Zc (Ze hE Za ld rfl fun a hE=>Zf ?_)
     have hr:=Option.some.inj hF
     subst hr
     have hM:=M.fst (l:=[]) hM
     exact wp_ret (Zx (Zy hE rfl (Zu hE rfl) ⟨_,rfl,rfl,hM.kept⟩))
    ·intro hb14
     have hF:=ZB hF hb14
     refine wp_skip (Zz (wp_seq (Zc (Zg hE Za ld rfl (Jm) fun a hE=>Zm (cs:=enc p0.Head) hE Za ld rfl Yy rfl (At.cat (pre:=[[v0_1],[vI p0.Next],[v0_2],[v0_3]]) (hM.rawAt (pre:=[_])) (cl1 (n:=1) (m:=3) rfl (cl1 (n:=1) (m:=2) rfl (cl1 (n:=1) (m:=1) rfl (cl1 (n:=1) (m:=0) rfl cl0))))) (Flat.len _) fun a hE=>Zg hE Za ld rfl (Jm) fun a hE=>Zm (cs:=enc p1.Head) hE Za ld rfl Yy rfl (At.cat (pre:=[[v1_1],[vI p1.Next],[v1_2],[v1_3]]) (hM.rawAt (pre:=[])) (cl1 (n:=1) (m:=3) rfl (cl1 (n:=1) (m:=2) rfl (cl1 (n:=1) (m:=1) rfl (cl1 (n:=1) (m:=0) rfl cl0))))) (Flat.len _) ?_)))); intro a hE
     obtain ⟨r15,e16,hF⟩:=bind_some hF
     refine Zt hE Za ld rfl cb16 (T8 _ p0.Head p1.Head r15 e16) ?_
     rintro v w a ⟨rfl,hK⟩ hE
     have hM:=hM.keep hK
     refine WJ hE Za ld rfl fun a hE=>Zf ?_
     refine Zs hE rfl ?_ ?_
     ·intro hb17
      have hF:=ZA hF hb17
      refine Zc (Ze hE Za ld rfl fun a hE=>Zf ?_)
      have hr:=Option.some.inj hF
      subst hr
      have hM:=M.fst (l:=[]) hM
      exact wp_ret (Zx (Zy hE rfl (Zu hE rfl) ⟨_,rfl,rfl,hM.kept⟩))
     ·intro hb17
      have hF:=ZB hF hb17
      refine wp_skip (Zz (Zc (Ze hE Za ld rfl fun a hE=>Zf ?_)))
      have hr:=Option.some.inj hF
      subst hr
      have hM:=M.fst (l:=[]) hM
      exact wp_ret (Zy hE rfl (Zu hE rfl) ⟨_,rfl,rfl,hM.kept⟩)
def V7 (s4 : (List (Vector UInt8 16)) × Int × Int) (s12 : (List (Vector UInt8 16)) × Int × Int) : Option (Fl ((List (Vector UInt8 16)) × Int × Int) ((List (Vector UInt8 16)) × Int)) :=
 if (decide (s12.2.2 < 16)) = true then ((idx s12.1 s4.2.2).bind fun x17=>(ZM x17 s12.2.2).bind fun x21=>some (Fl.nx ((s12.1.set (s4.2.2).toNat (x17.setIfInBounds (s12.2.2).toNat (ZC s12.2.1))),wr (s12.2.1 + 1),wr (s12.2.2 + 1)))) else (some (Fl.ex (s12.1,s12.2.1)))
def YV (s4 : (List (Vector UInt8 16)) × Int × Int) : Option (Fl ((List (Vector UInt8 16)) × Int × Int) ((List (Vector UInt8 16)) × Int)) :=
 if (decide (s4.2.2 < (s4.1.length : Int))) = true then ((ZG (V7 s4) (s4.1,s4.2.1,0)).bind fun j9=>some (Fl.nx (j9.1,j9.2,wr (s4.2.2 + 1)))) else (some (Fl.ex (s4.1,s4.2.1)))
def Xq (p0 : (List (Vector UInt8 16))) (p1 : Int) : Option ((List (Vector UInt8 16)) × Int) :=
 (ZG (YV) (p0,p1,0)).bind fun j1=>some (j1.1,j1.2)
theorem Jw (St : Nat → Prop) (W w0 : World) (its : List Item) (p0 : (List (Vector UInt8 16))) (v0_1 : Value) (p1 : Int) (hM : M St W w0 (own NoB (p0 : (List (Vector UInt8 16))) [v0_1] :: its)) (r : (List (Vector UInt8 16)) × Int) (hF : Xq p0 p1 = some r) :
  Calls Tryz.prog 90 [v0_1,vI p1].toArray w0 (fun en w'=>∃ v,en = .returned v ∧ (v = (vI r.2) ∧ M St W w' (own NoB (r.1 : (List (Vector UInt8 16))) [v0_1] :: its))):=by
 refine ZD (n:=27) Tryz.func90 rfl rfl (nbl rfl) rfl ?_
 intro a hE
 unfold Xq at hF
 refine Zc (Ze hE Za ld rfl fun a hE=>Zf (wp_seq (Zc (Ze hE Za ld rfl fun a hE=>Zf ?_))))
 obtain ⟨j1,hl2,hF3⟩:=bind_some hF
 refine ZP (fun a w=>Env 27 a [(0,v0_1),(1,vI j1.2)] ∧ M St W w (own NoB (j1.1 : (List (Vector UInt8 16))) [v0_1] :: its)) ?_ ?_
 ·skip
  refine wp_block ?_
  refine ZI (fun (s4 : (List (Vector UInt8 16)) × Int × Int) a w=>Env 27 a [(0,v0_1),(1,vI s4.2.1),(5,vI s4.2.2)] ∧ M St W w (own NoB (s4.1 : (List (Vector UInt8 16))) [v0_1] :: its)) hl2 ⟨hE.sub ⟨rfl,rfl,rfl,trivial⟩,hM⟩ ?_
  rintro s4 a w ⟨hE,hM⟩ o7 hs5 hx6
  unfold YV at hs5
  refine wp_seq (Zc (Zd hE Za ld rfl fun a hE=>Zd hE Za ld rfl fun a hE=>Z3 hE Za ld rfl Tryz.underlying32 (hM.ro (pre:=[]) noB) fun a hE=>Zi hE Za ld rfl rfl rfl fun a hE=>Zf ?_))
  refine Zs hE rfl ?_ ?_
  ·intro hb8
   have hs5:=ZA hs5 hb8
   refine wp_skip (Zz (wp_seq (wp_block (Zc (Ze hE Za ld rfl fun a hE=>Zf ?_)))))
   obtain ⟨j9,hl10,hF11⟩:=bind_some hs5
   refine ZP (fun a w=>Env 27 a [(0,v0_1),(1,vI j9.2),(5,vI s4.2.2)] ∧ M St W w (own NoB (j9.1 : (List (Vector UInt8 16))) [v0_1] :: its)) ?_ ?_
   ·skip
    refine wp_block ?_
    refine ZI (fun (s12 : (List (Vector UInt8 16)) × Int × Int) a w=>Env 27 a [(0,v0_1),(1,vI s12.2.1),(5,vI s4.2.2),(6,vI s12.2.2)] ∧ M St W w (own NoB (s12.1 : (List (Vector UInt8 16))) [v0_1] :: its)) hl10 ⟨hE.sub ⟨rfl,rfl,rfl,rfl,trivial⟩,hM⟩ ?_
    rintro s12 a w ⟨hE,hM⟩ o15 hs13 hx14
    unfold V7 at hs13
    refine wp_seq (Zc (Zd hE Za ld rfl fun a hE=>Zi hE Za ld rfl rfl rfl fun a hE=>Zf ?_))
    refine Zs hE rfl ?_ ?_
    ·intro hb16
     have hs13:=ZA hs13 hb16
     refine wp_skip (Zz (wp_seq (wp_block (Zc (Zd hE Za ld rfl fun a hE=>Zd hE Za ld rfl fun a hE=>Zd hE Za ld rfl fun a hE=>Zd hE Za ld rfl fun a hE=>Yz hE Za ld rfl Tryz.underlying3 Tryz.underlying5 ?_))))); intro a hE
     rw [ZW] at hE
     obtain ⟨x17,hi19,hs13⟩:=bix hs13
     refine ZL hE Za ld rfl rfl Tryz.underlying32 ZH (hM.ro (pre:=[]) noB) hi19.1 ?_; intro a hE
     obtain ⟨x21,hi20,hs13⟩:=bvx hs13
     refine Zr hE Za ld rfl rfl Tryz.underlying70 ty5 hi20.1 ?_; intro a hE
     have hM:=hM.toOsl (List.getElem?_eq_some_iff.1 hi19.2).1
     refine T4 (i:=(s4.2.2).toNat) (k0:=0 + (s12.2.2).toNat * 1) (seg:=[(vB (ZC s12.2.1))]) (xo:=x17) (xn:=(x17.setIfInBounds (s12.2.2).toNat (ZC s12.2.1))) hE hM Za (Bf rfl (by show _ = _ + _ * 16 + _; omega)) rfl rfl ty5 rfl (Flat.cell (ZC s12.2.1 : UInt8)) hi19.2 (kd (x:=ZC s12.2.1) hi20.1) (ZJ (v:=x17) (x:=ZC s12.2.1) hi20.1) ?_; intro w a hM hE
     have hM:=hM.toOwn noB
     refine Zf (wp_region_lit (Zd hE Za ld rfl fun a hE=>Zi hE Za ld rfl rfl rfl fun a hE=>Ze hE Za ld rfl fun a hE=>Zj (Yb (Zz (wp_region_lit (Zd hE Za ld rfl fun a hE=>Zi hE Za ld rfl rfl rfl fun a hE=>Ze hE Za ld rfl fun a hE=>Zj (Zn ?_)))))))
     exact ⟨_,(ois hs13),hE.sub ⟨rfl,rfl,rfl,rfl,trivial⟩,hM⟩
    ·intro hb16
     have hs13:=ZB hs13 hb16
     refine wp_exit (Zq (Zq (Yf ?_)))
     have ht23:=hx14 _ (ois hs13)
     subst ht23
     refine Zn ?_
     exact ⟨hE.sub ⟨rfl,rfl,rfl,trivial⟩,hM⟩
   ·skip
    rintro a w ⟨hE,hM⟩
    refine Yb (Zz (wp_region_lit (Zd hE Za ld rfl fun a hE=>Zi hE Za ld rfl rfl rfl fun a hE=>Ze hE Za ld rfl fun a hE=>Zj (Zn ?_))))
    exact ⟨_,(ois hF11),hE.sub ⟨rfl,rfl,rfl,trivial⟩,hM⟩
  ·intro hb8
   have hs5:=ZB hs5 hb8
   refine wp_exit (Zq (Zq (Yf ?_)))
   have ht24:=hx6 _ (ois hs5)
   subst ht24
   refine Zn ?_
   exact ⟨hE.sub ⟨rfl,rfl,trivial⟩,hM⟩
 ·skip
  rintro a w ⟨hE,hM⟩
  refine Zz (Zc (Zd hE Za ld rfl fun a hE=>Ze hE Za ld rfl fun a hE=>Zf ?_))
  have hr:=Option.some.inj hF3
  subst hr
  exact wp_ret (Zy hE (by rfl) (Zu hE rfl) ⟨_,rfl,rfl,hM⟩)
def Y3 (s4 : (List UInt8) × Int × Int) : Option (Fl ((List UInt8) × Int × Int) ((List UInt8) × Int)) :=
 if (decide (s4.2.2 < (s4.1.length : Int))) = true then ((idx s4.1 s4.2.2).bind fun x9=>some (Fl.nx ((s4.1.set (s4.2.2).toNat (ZC s4.2.1)),wr (s4.2.1 + 1),wr (s4.2.2 + 1)))) else (some (Fl.ex (s4.1,s4.2.1)))
def YI (p0 : (List UInt8)) (p1 : Int) : Option ((List UInt8) × Int) :=
 (ZG (Y3) (p0,p1,0)).bind fun j1=>some (j1.1,j1.2)
theorem QL (St : Nat → Prop) (W w0 : World) (its : List Item) (p0 : (List UInt8)) (v0_1 : Value) (p1 : Int) (hM : M St W w0 (own NoB (p0 : (List UInt8)) [v0_1] :: its)) (r : (List UInt8) × Int) (hF : YI p0 p1 = some r) :
  Calls Tryz.prog 30 [v0_1,vI p1].toArray w0 (fun en w'=>∃ v,en = .returned v ∧ (v = (vI r.2) ∧ M St W w' (own NoB (r.1 : (List UInt8)) [v0_1] :: its))):=by
 refine ZD (n:=20) Tryz.func30 rfl rfl (nbl rfl) rfl ?_
 intro a hE
 unfold YI at hF
 refine Zc (Ze hE Za ld rfl fun a hE=>Zf (wp_seq (Zc (Ze hE Za ld rfl fun a hE=>Zf ?_))))
 obtain ⟨j1,hl2,hF3⟩:=bind_some hF
 refine ZP (fun a w=>Env 20 a [(0,v0_1),(1,vI j1.2)] ∧ M St W w (own NoB (j1.1 : (List UInt8)) [v0_1] :: its)) ?_ ?_
 ·skip
  refine wp_block ?_
  refine ZI (fun (s4 : (List UInt8) × Int × Int) a w=>Env 20 a [(0,v0_1),(1,vI s4.2.1),(5,vI s4.2.2)] ∧ M St W w (own NoB (s4.1 : (List UInt8)) [v0_1] :: its)) hl2 ⟨hE.sub ⟨rfl,rfl,rfl,trivial⟩,hM⟩ ?_
  rintro s4 a w ⟨hE,hM⟩ o7 hs5 hx6
  unfold Y3 at hs5
  refine wp_seq (Zc (Zd hE Za ld rfl fun a hE=>Zd hE Za ld rfl fun a hE=>Z3 hE Za ld rfl Tryz.underlying57 (hM.ro (pre:=[]) noB) fun a hE=>Zi hE Za ld rfl rfl rfl fun a hE=>Zf ?_))
  refine Zs hE rfl ?_ ?_
  ·intro hb8
   have hs5:=ZA hs5 hb8
   refine wp_skip (Zz (wp_seq (wp_block (Zc (Zd hE Za ld rfl fun a hE=>Zd hE Za ld rfl fun a hE=>Zd hE Za ld rfl fun a hE=>Yz hE Za ld rfl Tryz.underlying3 Tryz.underlying5 ?_))))); intro a hE
   rw [ZW] at hE
   obtain ⟨x9,hi11,hs5⟩:=bix hs5
   refine ZL hE Za ld rfl rfl Tryz.underlying57 ty5 (hM.ro (pre:=[]) noB) hi11.1 ?_; intro a hE
   have hM:=hM.toOsl (List.getElem?_eq_some_iff.1 hi11.2).1
   refine T4 (i:=(s4.2.2).toNat) (k0:=0) (seg:=[(vB (ZC s4.2.1))]) (xo:=x9) (xn:=ZC s4.2.1) hE hM Za rfl rfl rfl ty5 rfl (Flat.cell (ZC s4.2.1 : UInt8)) hi11.2 (QB (m:=1) rfl (by decide)) (Zl rfl) ?_; intro w a hM hE
   have hM:=hM.toOwn noB
   refine Zf (wp_region_lit (Zd hE Za ld rfl fun a hE=>Zi hE Za ld rfl rfl rfl fun a hE=>Ze hE Za ld rfl fun a hE=>Zj (Yb (Zz (wp_region_lit (Zd hE Za ld rfl fun a hE=>Zi hE Za ld rfl rfl rfl fun a hE=>Ze hE Za ld rfl fun a hE=>Zj (Zn ?_)))))))
   exact ⟨_,(ois hs5),hE.sub ⟨rfl,rfl,rfl,trivial⟩,hM⟩
  ·intro hb8
   have hs5:=ZB hs5 hb8
   refine wp_exit (Zq (Zq (Yf ?_)))
   have ht12:=hx6 _ (ois hs5)
   subst ht12
   refine Zn ?_
   exact ⟨hE.sub ⟨rfl,rfl,trivial⟩,hM⟩
 ·skip
  rintro a w ⟨hE,hM⟩
  refine Zz (Zc (Zd hE Za ld rfl fun a hE=>Ze hE Za ld rfl fun a hE=>Zf ?_))
  have hr:=Option.some.inj hF3
  subst hr
  exact wp_ret (Zy hE (by rfl) (Zu hE rfl) ⟨_,rfl,rfl,hM⟩)
def Vw (s4 : (List GRecord) × Int × Int) (s18 : (List GRecord) × Int × Int) : Option (Fl ((List GRecord) × Int × Int) ((List GRecord) × Int)) :=
 if (decide (s18.2.2 < 16)) = true then ((idx s18.1 s4.2.2).bind fun x23=>(ZM x23.Nonce s18.2.2).bind fun x27=>some (Fl.nx ((s18.1.set (s4.2.2).toNat (⟨x23.Number,x23.Version,(x23.Nonce.setIfInBounds (s18.2.2).toNat (ZC s18.2.1)),x23.Label,x23.Body,x23.Tag⟩ : GRecord)),wr (s18.2.1 + 1),wr (s18.2.2 + 1)))) else (some (Fl.ex (s18.1,s18.2.1)))
def Vv (s4 : (List GRecord) × Int × Int) (s55 : (List GRecord) × Int × Int) : Option (Fl ((List GRecord) × Int × Int) ((List GRecord) × Int)) :=
 if (decide (s55.2.2 < 32)) = true then ((idx s55.1 s4.2.2).bind fun x60=>(ZM x60.Tag s55.2.2).bind fun x64=>some (Fl.nx ((s55.1.set (s4.2.2).toNat (⟨x60.Number,x60.Version,x60.Nonce,x60.Label,x60.Body,(x60.Tag.setIfInBounds (s55.2.2).toNat (ZC s55.2.1))⟩ : GRecord)),wr (s55.2.1 + 1),wr (s55.2.2 + 1)))) else (some (Fl.ex (s55.1,s55.2.1)))
def YJ (s4 : (List GRecord) × Int × Int) : Option (Fl ((List GRecord) × Int × Int) ((List GRecord) × Int)) :=
 if (decide (s4.2.2 < (s4.1.length : Int))) = true then ((idx s4.1 s4.2.2).bind fun x9=>(idx (s4.1.set (s4.2.2).toNat (⟨s4.2.1,x9.Version,x9.Nonce,x9.Label,x9.Body,x9.Tag⟩ : GRecord)) s4.2.2).bind fun x12=>(ZG (Vw s4) (((s4.1.set (s4.2.2).toNat (⟨s4.2.1,x9.Version,x9.Nonce,x9.Label,x9.Body,x9.Tag⟩ : GRecord)).set (s4.2.2).toNat (⟨x12.Number,wr (s4.2.1 + 1),x12.Nonce,x12.Label,x12.Body,x12.Tag⟩ : GRecord)),wr ((wr (s4.2.1 + 1)) + 1),0)).bind fun j15=>(idx j15.1 s4.2.2).bind fun x30=>(YI x30.Label j15.2).bind fun r39=>(idx (j15.1.set (s4.2.2).toNat (⟨x30.Number,x30.Version,x30.Nonce,r39.1,x30.Body,x30.Tag⟩ : GRecord)) s4.2.2).bind fun x41=>(YI x41.Body r39.2).bind fun r50=>(ZG (Vv s4) (((j15.1.set (s4.2.2).toNat (⟨x30.Number,x30.Version,x30.Nonce,r39.1,x30.Body,x30.Tag⟩ : GRecord)).set (s4.2.2).toNat (⟨x41.Number,x41.Version,x41.Nonce,x41.Label,r50.1,x41.Tag⟩ : GRecord)),r50.2,0)).bind fun j52=>some (Fl.nx (j52.1,j52.2,wr (s4.2.2 + 1)))) else (some (Fl.ex (s4.1,s4.2.1)))
def Xg (p0 : (List GRecord)) (p1 : Int) : Option ((List GRecord) × Int) :=
 (ZG (YJ) (p0,p1,0)).bind fun j1=>some (j1.1,j1.2)
theorem Jc (St : Nat → Prop) (W w0 : World) (its : List Item) (p0 : (List GRecord)) (v0_1 : Value) (p1 : Int) (hM : M St W w0 (own NoB (p0 : (List GRecord)) [v0_1] :: its)) (r : (List GRecord) × Int) (hF : Xg p0 p1 = some r) :
  Calls Tryz.prog 91 [v0_1,vI p1].toArray w0 (fun en w'=>∃ v,en = .returned v ∧ (v = (vI r.2) ∧ M St W w' (own NoB (r.1 : (List GRecord)) [v0_1] :: its))):=by
 refine ZD (n:=71) Tryz.func91 rfl rfl (nbl rfl) rfl ?_
 intro a hE
 unfold Xg at hF
 refine Zc (Ze hE Za ld rfl fun a hE=>Zf (wp_seq (Zc (Ze hE Za ld rfl fun a hE=>Zf ?_))))
 obtain ⟨j1,hl2,hF3⟩:=bind_some hF
 refine ZP (fun a w=>Env 71 a [(0,v0_1),(1,vI j1.2)] ∧ M St W w (own NoB (j1.1 : (List GRecord)) [v0_1] :: its)) ?_ ?_
 ·skip
  refine wp_block ?_
  refine ZI (fun (s4 : (List GRecord) × Int × Int) a w=>Env 71 a [(0,v0_1),(1,vI s4.2.1),(5,vI s4.2.2)] ∧ M St W w (own NoB (s4.1 : (List GRecord)) [v0_1] :: its)) hl2 ⟨hE.sub ⟨rfl,rfl,rfl,trivial⟩,hM⟩ ?_
  rintro s4 a w ⟨hE,hM⟩ o7 hs5 hx6
  unfold YJ at hs5
  refine wp_seq (Zc (Zd hE Za ld rfl fun a hE=>Zd hE Za ld rfl fun a hE=>Z3 hE Za ld rfl Tryz.underlying33 (hM.ro (pre:=[]) noB) fun a hE=>Zi hE Za ld rfl rfl rfl fun a hE=>Zf ?_))
  refine Zs hE rfl ?_ ?_
  ·intro hb8
   have hs5:=ZA hs5 hb8
   refine wp_skip (Zz (wp_seq (wp_block (Zc (Zd hE Za ld rfl fun a hE=>Zd hE Za ld rfl fun a hE=>Zd hE Za ld rfl ?_))))); intro a hE
   obtain ⟨x9,hi11,hs5⟩:=bix hs5
   refine ZL hE Za ld rfl rfl Tryz.underlying33 XZ (hM.ro (pre:=[]) noB) hi11.1 fun a hE=>Zg hE Za ld rfl (TU) ?_; intro a hE
   have hM:=hM.toOsl (List.getElem?_eq_some_iff.1 hi11.2).1
   refine KI (i:=(s4.2.2).toNat) (k0:=0 + 0) (seg:=[vI s4.2.1]) (xo:=x9) (xn:=(⟨s4.2.1,x9.Version,x9.Nonce,x9.Label,x9.Body,x9.Tag⟩ : GRecord)) hE hM noB Za rfl rfl rfl ty2 rfl (Flat.cell (s4.2.1 : Int)) hi11.2 (QB (m:=1) rfl (by decide)) (fun S w cs f h=>by obtain ⟨y1,y2,_,_,rfl,rfl,s1,s2⟩:=U0 h; exact JX (ZX (pre:=[]) cl0 rfl) (Vp s1 s2 (by simp))) ?_; intro w a hM hE
   have hM:=hM.toOwn noB
   refine Zf (Zc (Zd hE Za ld rfl fun a hE=>Zi hE Za ld rfl rfl rfl fun a hE=>Ze hE Za ld rfl fun a hE=>Zf (Zc (Zd hE Za ld rfl fun a hE=>Zd hE Za ld rfl fun a hE=>Zd hE Za ld rfl ?_)))); intro a hE
   obtain ⟨x12,hi14,hs5⟩:=bix hs5
   refine ZL hE Za ld rfl rfl Tryz.underlying33 XZ (hM.ro (pre:=[]) noB) hi14.1 fun a hE=>Zg hE Za ld rfl (Q5) ?_; intro a hE
   have hM:=hM.toOsl (List.getElem?_eq_some_iff.1 hi14.2).1
   refine KI (i:=(s4.2.2).toNat) (k0:=0 + 1) (seg:=[(vI (wr (s4.2.1 + 1)))]) (xo:=x12) (xn:=(⟨x12.Number,wr (s4.2.1 + 1),x12.Nonce,x12.Label,x12.Body,x12.Tag⟩ : GRecord)) hE hM noB Za rfl rfl rfl ty2 rfl (Flat.cell (wr (s4.2.1 + 1) : Int)) hi14.2 (QB (m:=1) rfl (by decide)) (fun S w cs f h=>by obtain ⟨y1,y2,_,_,rfl,rfl,s1,s2⟩:=U0 h; exact JX (ZX (pre:=[[vI x12.Number]]) (cl1 (n:=1) (m:=0) rfl cl0) rfl) (Vp s1 s2 (by simp))) ?_; intro w a hM hE
   have hM:=hM.toOwn noB
   refine Zf (Zc (Zd hE Za ld rfl fun a hE=>Zi hE Za ld rfl rfl rfl fun a hE=>Ze hE Za ld rfl fun a hE=>Zf (wp_seq (Zc (Ze hE Za ld rfl fun a hE=>Zf ?_)))))
   obtain ⟨j15,hl16,hF17⟩:=bind_some hs5
   refine ZP (fun a w=>Env 71 a [(0,v0_1),(1,vI j15.2),(5,vI s4.2.2)] ∧ M St W w (own NoB (j15.1 : (List GRecord)) [v0_1] :: its)) ?_ ?_
   ·skip
    refine wp_block ?_
    refine ZI (fun (s18 : (List GRecord) × Int × Int) a w=>Env 71 a [(0,v0_1),(1,vI s18.2.1),(5,vI s4.2.2),(6,vI s18.2.2)] ∧ M St W w (own NoB (s18.1 : (List GRecord)) [v0_1] :: its)) hl16 ⟨hE.sub ⟨rfl,rfl,rfl,rfl,trivial⟩,hM⟩ ?_
    rintro s18 a w ⟨hE,hM⟩ o21 hs19 hx20
    unfold Vw at hs19
    refine wp_seq (Zc (Zd hE Za ld rfl fun a hE=>Zi hE Za ld rfl rfl rfl fun a hE=>Zf ?_))
    refine Zs hE rfl ?_ ?_
    ·intro hb22
     have hs19:=ZA hs19 hb22
     refine wp_skip (Zz (wp_seq (wp_block (Zc (Zd hE Za ld rfl fun a hE=>Zd hE Za ld rfl fun a hE=>Zd hE Za ld rfl fun a hE=>Zd hE Za ld rfl fun a hE=>Yz hE Za ld rfl Tryz.underlying3 Tryz.underlying5 ?_))))); intro a hE
     rw [ZW] at hE
     obtain ⟨x23,hi25,hs19⟩:=bix hs19
     refine ZL hE Za ld rfl rfl Tryz.underlying33 XZ (hM.ro (pre:=[]) noB) hi25.1 fun a hE=>Zg hE Za ld rfl (BD) ?_; intro a hE
     obtain ⟨x27,hi26,hs19⟩:=bvx hs19
     refine Zr hE Za ld rfl rfl Tryz.underlying70 ty5 hi26.1 ?_; intro a hE
     have hM:=hM.toOsl (List.getElem?_eq_some_iff.1 hi25.2).1
     refine KI (i:=(s4.2.2).toNat) (k0:=0 + 2 + (s18.2.2).toNat * 1) (seg:=[(vB (ZC s18.2.1))]) (xo:=x23) (xn:=(⟨x23.Number,x23.Version,(x23.Nonce.setIfInBounds (s18.2.2).toNat (ZC s18.2.1)),x23.Label,x23.Body,x23.Tag⟩ : GRecord)) hE hM noB Za (Bf rfl (by show _ = _ + _ * 52 + _; omega)) rfl rfl ty5 rfl (Flat.cell (ZC s18.2.1 : UInt8)) hi25.2 (BW (m:=1) hi26.1 rfl (by decide)) (fun S w cs f h=>by obtain ⟨y1,y2,_,_,rfl,rfl,s1,s2⟩:=U0 h; exact JX (V3 (o':=0 + (s18.2.2).toNat * 1) (pre:=[[vI x23.Number],[vI x23.Version]]) (seg:=enc x23.Nonce) (post:=[[y1],[y2],enc x23.Tag]) (cl1 (n:=1) (m:=1) rfl (cl1 (n:=1) (m:=0) rfl cl0)) (ZR (v:=x23.Nonce) (x:=ZC s18.2.1) hi26.1) (ZJ (v:=x23.Nonce) (x:=ZC s18.2.1) hi26.1) (by first | omega | (simp only [Flat.n] <;> omega))) (Vp s1 s2 (by simp))) ?_; intro w a hM hE
     have hM:=hM.toOwn noB
     refine Zf (wp_region_lit (Zd hE Za ld rfl fun a hE=>Zi hE Za ld rfl rfl rfl fun a hE=>Ze hE Za ld rfl fun a hE=>Zj (Yb (Zz (wp_region_lit (Zd hE Za ld rfl fun a hE=>Zi hE Za ld rfl rfl rfl fun a hE=>Ze hE Za ld rfl fun a hE=>Zj (Zn ?_)))))))
     exact ⟨_,(ois hs19),hE.sub ⟨rfl,rfl,rfl,rfl,trivial⟩,hM⟩
    ·intro hb22
     have hs19:=ZB hs19 hb22
     refine wp_exit (Zq (Zq (Yf ?_)))
     have ht29:=hx20 _ (ois hs19)
     subst ht29
     refine Zn ?_
     exact ⟨hE.sub ⟨rfl,rfl,rfl,trivial⟩,hM⟩
   ·skip
    rintro a w ⟨hE,hM⟩
    refine Zz (Zc (Zd hE Za ld rfl fun a hE=>Zd hE Za ld rfl ?_)); intro a hE
    obtain ⟨x30,hi32,hF17⟩:=bix hF17
    refine ZL hE Za ld rfl rfl Tryz.underlying33 XZ (hM.ro (pre:=[]) noB) hi32.1 fun a hE=>Zg hE Za ld rfl (T9) ?_; intro a hE
    have hM:=(hM.toOsl (List.getElem?_eq_some_iff.1 hi32.2).1).open1 noB hi32.2
    obtain ⟨cs33,hM,hA34⟩:=hM
    obtain ⟨_,hx,_⟩:=hM.head
    obtain ⟨u35,u36,_,_,rfl,_,_,_⟩:=U0 hx
    have hM:=hM.unpackL (m:=[own NoB (x30.Label : (List UInt8)) [u35],own NoB (x30.Body : (List UInt8)) [u36]]) (fun fp h=>by obtain ⟨_,_,rfl,s1,s2⟩:=Hx h; exact (YK.cons (Yc noB) s1 (YK.one (Yc noB) s2)))
    simp only [List.cons_append,List.nil_append] at hM
    refine Zp (v:=u35) hE Za ld rfl Uu rfl (At.cat (pre:=[[vI x30.Number],[vI x30.Version],enc x30.Nonce]) hA34 (cl1 (n:=1) (m:=17) rfl (cl1 (n:=1) (m:=16) rfl (cl1 (n:=16) (m:=0) (Flat.len _) cl0)))) fun a hE=>Zd hE Za ld rfl ?_; intro a hE
    obtain ⟨r39,e40,hF17⟩:=bind_some hF17
    refine Zt hE Za ld rfl cb30 (QL _ _ _ _ x30.Label u35 j15.2 hM r39 e40) ?_
    rintro v w a ⟨rfl,hM⟩ hE
    have hM:=((hM.pull (pre:=[_,_])).pull (pre:=[_,_])).pull (pre:=[_,_])
    have hM:=hM.packL (m:=[own NoB (r39.1 : (List UInt8)) [u35],own NoB (x30.Body : (List UInt8)) [u36]]) (it:=own NoB (⟨x30.Number,x30.Version,x30.Nonce,r39.1,x30.Body,x30.Tag⟩ : GRecord) (cat [[vI x30.Number],[vI x30.Version],enc x30.Nonce,[u35],[u36],enc x30.Tag])) (Yc noB) (fun fp h=>by obtain ⟨_,_,rfl,_,s1,_,_,rfl,_,s2,rfl⟩:=h; exact Vp s1 s2 (by simp))
    have hM:=(hM.close1 noB).toOwn noB
    refine Ze hE Za ld rfl fun a hE=>Zf (Zc (Zd hE Za ld rfl fun a hE=>Zd hE Za ld rfl ?_)); intro a hE
    obtain ⟨x41,hi43,hF17⟩:=bix hF17
    refine ZL hE Za ld rfl rfl Tryz.underlying33 XZ (hM.ro (pre:=[]) noB) hi43.1 fun a hE=>Zg hE Za ld rfl (Qr) ?_; intro a hE
    have hM:=(hM.toOsl (List.getElem?_eq_some_iff.1 hi43.2).1).open1 noB hi43.2
    obtain ⟨cs44,hM,hA45⟩:=hM
    obtain ⟨_,hx,_⟩:=hM.head
    obtain ⟨u46,u47,_,_,rfl,_,_,_⟩:=U0 hx
    have hM:=hM.unpackL (m:=[own NoB (x41.Label : (List UInt8)) [u46],own NoB (x41.Body : (List UInt8)) [u47]]) (fun fp h=>by obtain ⟨_,_,rfl,s1,s2⟩:=Hx h; exact (YK.cons (Yc noB) s1 (YK.one (Yc noB) s2)))
    simp only [List.cons_append,List.nil_append] at hM
    refine Zp (v:=u47) hE Za ld rfl Uu rfl (At.cat (pre:=[[vI x41.Number],[vI x41.Version],enc x41.Nonce,[u46]]) hA45 (cl1 (n:=1) (m:=18) rfl (cl1 (n:=1) (m:=17) rfl (cl1 (n:=16) (m:=1) (Flat.len _) (cl1 (n:=1) (m:=0) rfl cl0))))) fun a hE=>Zd hE Za ld rfl ?_; intro a hE
    have hM:=hM.pull (pre:=[_])
    obtain ⟨r50,e51,hF17⟩:=bind_some hF17
    refine Zt hE Za ld rfl cb30 (QL _ _ _ _ x41.Body u47 r39.2 hM r50 e51) ?_
    rintro v w a ⟨rfl,hM⟩ hE
    have hM:=((hM.pull (pre:=[_,_])).pull (pre:=[_])).pull (pre:=[_,_])
    have hM:=hM.packL (m:=[own NoB (x41.Label : (List UInt8)) [u46],own NoB (r50.1 : (List UInt8)) [u47]]) (it:=own NoB (⟨x41.Number,x41.Version,x41.Nonce,x41.Label,r50.1,x41.Tag⟩ : GRecord) (cat [[vI x41.Number],[vI x41.Version],enc x41.Nonce,[u46],[u47],enc x41.Tag])) (Yc noB) (fun fp h=>by obtain ⟨_,_,rfl,_,s1,_,_,rfl,_,s2,rfl⟩:=h; exact Vp s1 s2 (by simp))
    have hM:=(hM.close1 noB).toOwn noB
    refine Ze hE Za ld rfl fun a hE=>Zf (Zc (Ze hE Za ld rfl fun a hE=>Zf ?_))
    obtain ⟨j52,hl53,hF54⟩:=bind_some hF17
    refine ZP (fun a w=>Env 71 a [(0,v0_1),(1,vI j52.2),(5,vI s4.2.2)] ∧ M St W w (own NoB (j52.1 : (List GRecord)) [v0_1] :: its)) ?_ ?_
    ·skip
     refine wp_block ?_
     refine ZI (fun (s55 : (List GRecord) × Int × Int) a w=>Env 71 a [(0,v0_1),(1,vI s55.2.1),(5,vI s4.2.2),(7,vI s55.2.2)] ∧ M St W w (own NoB (s55.1 : (List GRecord)) [v0_1] :: its)) hl53 ⟨hE.sub ⟨rfl,rfl,rfl,rfl,trivial⟩,hM⟩ ?_
     rintro s55 a w ⟨hE,hM⟩ o58 hs56 hx57
     unfold Vv at hs56
     refine wp_seq (Zc (Zd hE Za ld rfl fun a hE=>Zi hE Za ld rfl rfl rfl fun a hE=>Zf ?_))
     refine Zs hE rfl ?_ ?_
     ·intro hb59
      have hs56:=ZA hs56 hb59
      refine wp_skip (Zz (wp_seq (wp_block (Zc (Zd hE Za ld rfl fun a hE=>Zd hE Za ld rfl fun a hE=>Zd hE Za ld rfl fun a hE=>Zd hE Za ld rfl fun a hE=>Yz hE Za ld rfl Tryz.underlying3 Tryz.underlying5 ?_))))); intro a hE
      rw [ZW] at hE
      obtain ⟨x60,hi62,hs56⟩:=bix hs56
      refine ZL hE Za ld rfl rfl Tryz.underlying33 XZ (hM.ro (pre:=[]) noB) hi62.1 fun a hE=>Zg hE Za ld rfl (BP) ?_; intro a hE
      obtain ⟨x64,hi63,hs56⟩:=bvx hs56
      refine Zr hE Za ld rfl rfl Tryz.underlying29 ty5 hi63.1 ?_; intro a hE
      have hM:=hM.toOsl (List.getElem?_eq_some_iff.1 hi62.2).1
      refine KI (i:=(s4.2.2).toNat) (k0:=0 + 20 + (s55.2.2).toNat * 1) (seg:=[(vB (ZC s55.2.1))]) (xo:=x60) (xn:=(⟨x60.Number,x60.Version,x60.Nonce,x60.Label,x60.Body,(x60.Tag.setIfInBounds (s55.2.2).toNat (ZC s55.2.1))⟩ : GRecord)) hE hM noB Za (Bf rfl (by show _ = _ + _ * 52 + _; omega)) rfl rfl ty5 rfl (Flat.cell (ZC s55.2.1 : UInt8)) hi62.2 (BW (m:=1) hi63.1 rfl (by decide)) (fun S w cs f h=>by obtain ⟨y1,y2,_,_,rfl,rfl,s1,s2⟩:=U0 h; exact JX (V3 (o':=0 + (s55.2.2).toNat * 1) (pre:=[[vI x60.Number],[vI x60.Version],enc x60.Nonce,[y1],[y2]]) (seg:=enc x60.Tag) (post:=[]) (cl1 (n:=1) (m:=19) rfl (cl1 (n:=1) (m:=18) rfl (cl1 (n:=16) (m:=2) (Flat.len _) (cl1 (n:=1) (m:=1) rfl (cl1 (n:=1) (m:=0) rfl cl0))))) (ZR (v:=x60.Tag) (x:=ZC s55.2.1) hi63.1) (ZJ (v:=x60.Tag) (x:=ZC s55.2.1) hi63.1) (by first | omega | (simp only [Flat.n] <;> omega))) (Vp s1 s2 (by simp))) ?_; intro w a hM hE
      have hM:=hM.toOwn noB
      refine Zf (wp_region_lit (Zd hE Za ld rfl fun a hE=>Zi hE Za ld rfl rfl rfl fun a hE=>Ze hE Za ld rfl fun a hE=>Zj (Yb (Zz (wp_region_lit (Zd hE Za ld rfl fun a hE=>Zi hE Za ld rfl rfl rfl fun a hE=>Ze hE Za ld rfl fun a hE=>Zj (Zn ?_)))))))
      exact ⟨_,(ois hs56),hE.sub ⟨rfl,rfl,rfl,rfl,trivial⟩,hM⟩
     ·intro hb59
      have hs56:=ZB hs56 hb59
      refine wp_exit (Zq (Zq (Yf ?_)))
      have ht66:=hx57 _ (ois hs56)
      subst ht66
      refine Zn ?_
      exact ⟨hE.sub ⟨rfl,rfl,rfl,trivial⟩,hM⟩
    ·skip
     rintro a w ⟨hE,hM⟩
     refine Yb (Zz (wp_region_lit (Zd hE Za ld rfl fun a hE=>Zi hE Za ld rfl rfl rfl fun a hE=>Ze hE Za ld rfl fun a hE=>Zj (Zn ?_))))
     exact ⟨_,(ois hF54),hE.sub ⟨rfl,rfl,rfl,trivial⟩,hM⟩
  ·intro hb8
   have hs5:=ZB hs5 hb8
   refine wp_exit (Zq (Zq (Yf ?_)))
   have ht67:=hx6 _ (ois hs5)
   subst ht67
   refine Zn ?_
   exact ⟨hE.sub ⟨rfl,rfl,trivial⟩,hM⟩
 ·skip
  rintro a w ⟨hE,hM⟩
  refine Zz (Zc (Zd hE Za ld rfl fun a hE=>Ze hE Za ld rfl fun a hE=>Zf ?_))
  have hr:=Option.some.inj hF3
  subst hr
  exact wp_ret (Zy hE (by rfl) (Zu hE rfl) ⟨_,rfl,rfl,hM⟩)
def V6 (s4 : (List GEvent) × Int × Int) (s18 : (List GEvent) × Int × Int) : Option (Fl ((List GEvent) × Int × Int) ((List GEvent) × Int)) :=
 if (decide (s18.2.2 < 32)) = true then ((idx s18.1 s4.2.2).bind fun x23=>(ZM x23.Tag s18.2.2).bind fun x27=>some (Fl.nx ((s18.1.set (s4.2.2).toNat (⟨x23.Kind,x23.Number,(x23.Tag.setIfInBounds (s18.2.2).toNat (ZC s18.2.1))⟩ : GEvent)),wr (s18.2.1 + 1),wr (s18.2.2 + 1)))) else (some (Fl.ex (s18.1,s18.2.1)))
def YS (s4 : (List GEvent) × Int × Int) : Option (Fl ((List GEvent) × Int × Int) ((List GEvent) × Int)) :=
 if (decide (s4.2.2 < (s4.1.length : Int))) = true then ((idx s4.1 s4.2.2).bind fun x9=>(idx (s4.1.set (s4.2.2).toNat (⟨s4.2.1,x9.Number,x9.Tag⟩ : GEvent)) s4.2.2).bind fun x12=>(ZG (V6 s4) (((s4.1.set (s4.2.2).toNat (⟨s4.2.1,x9.Number,x9.Tag⟩ : GEvent)).set (s4.2.2).toNat (⟨x12.Kind,wr (s4.2.1 + 1),x12.Tag⟩ : GEvent)),wr ((wr (s4.2.1 + 1)) + 1),0)).bind fun j15=>some (Fl.nx (j15.1,j15.2,wr (s4.2.2 + 1)))) else (some (Fl.ex (s4.1,s4.2.1)))
def Xp (p0 : (List GEvent)) (p1 : Int) : Option ((List GEvent) × Int) :=
 (ZG (YS) (p0,p1,0)).bind fun j1=>some (j1.1,j1.2)
theorem JO (St : Nat → Prop) (W w0 : World) (its : List Item) (p0 : (List GEvent)) (v0_1 : Value) (p1 : Int) (hM : M St W w0 (own NoB (p0 : (List GEvent)) [v0_1] :: its)) (r : (List GEvent) × Int) (hF : Xp p0 p1 = some r) :
  Calls Tryz.prog 92 [v0_1,vI p1].toArray w0 (fun en w'=>∃ v,en = .returned v ∧ (v = (vI r.2) ∧ M St W w' (own NoB (r.1 : (List GEvent)) [v0_1] :: its))):=by
 refine ZD (n:=42) Tryz.func92 rfl rfl (nbl rfl) rfl ?_
 intro a hE
 unfold Xp at hF
 refine Zc (Ze hE Za ld rfl fun a hE=>Zf (wp_seq (Zc (Ze hE Za ld rfl fun a hE=>Zf ?_))))
 obtain ⟨j1,hl2,hF3⟩:=bind_some hF
 refine ZP (fun a w=>Env 42 a [(0,v0_1),(1,vI j1.2)] ∧ M St W w (own NoB (j1.1 : (List GEvent)) [v0_1] :: its)) ?_ ?_
 ·skip
  refine wp_block ?_
  refine ZI (fun (s4 : (List GEvent) × Int × Int) a w=>Env 42 a [(0,v0_1),(1,vI s4.2.1),(5,vI s4.2.2)] ∧ M St W w (own NoB (s4.1 : (List GEvent)) [v0_1] :: its)) hl2 ⟨hE.sub ⟨rfl,rfl,rfl,trivial⟩,hM⟩ ?_
  rintro s4 a w ⟨hE,hM⟩ o7 hs5 hx6
  unfold YS at hs5
  refine wp_seq (Zc (Zd hE Za ld rfl fun a hE=>Zd hE Za ld rfl fun a hE=>Z3 hE Za ld rfl Tryz.underlying34 (hM.ro (pre:=[]) noB) fun a hE=>Zi hE Za ld rfl rfl rfl fun a hE=>Zf ?_))
  refine Zs hE rfl ?_ ?_
  ·intro hb8
   have hs5:=ZA hs5 hb8
   refine wp_skip (Zz (wp_seq (wp_block (Zc (Zd hE Za ld rfl fun a hE=>Zd hE Za ld rfl fun a hE=>Zd hE Za ld rfl ?_))))); intro a hE
   obtain ⟨x9,hi11,hs5⟩:=bix hs5
   refine ZL hE Za ld rfl rfl Tryz.underlying34 Y9 (hM.ro (pre:=[]) noB) hi11.1 fun a hE=>Zg hE Za ld rfl (Qf) ?_; intro a hE
   have hM:=hM.toOsl (List.getElem?_eq_some_iff.1 hi11.2).1
   refine T4 (i:=(s4.2.2).toNat) (k0:=0 + 0) (seg:=[vI s4.2.1]) (xo:=x9) (xn:=(⟨s4.2.1,x9.Number,x9.Tag⟩ : GEvent)) hE hM Za rfl rfl rfl ty2 rfl (Flat.cell (s4.2.1 : Int)) hi11.2 (QB (m:=1) rfl (by decide)) (ZX (pre:=[]) cl0 rfl) ?_; intro w a hM hE
   have hM:=hM.toOwn noB
   refine Zf (Zc (Zd hE Za ld rfl fun a hE=>Zi hE Za ld rfl rfl rfl fun a hE=>Ze hE Za ld rfl fun a hE=>Zf (Zc (Zd hE Za ld rfl fun a hE=>Zd hE Za ld rfl fun a hE=>Zd hE Za ld rfl ?_)))); intro a hE
   obtain ⟨x12,hi14,hs5⟩:=bix hs5
   refine ZL hE Za ld rfl rfl Tryz.underlying34 Y9 (hM.ro (pre:=[]) noB) hi14.1 fun a hE=>Zg hE Za ld rfl (Qe) ?_; intro a hE
   have hM:=hM.toOsl (List.getElem?_eq_some_iff.1 hi14.2).1
   refine T4 (i:=(s4.2.2).toNat) (k0:=0 + 1) (seg:=[(vI (wr (s4.2.1 + 1)))]) (xo:=x12) (xn:=(⟨x12.Kind,wr (s4.2.1 + 1),x12.Tag⟩ : GEvent)) hE hM Za rfl rfl rfl ty2 rfl (Flat.cell (wr (s4.2.1 + 1) : Int)) hi14.2 (QB (m:=1) rfl (by decide)) (ZX (pre:=[[vI x12.Kind]]) (cl1 (n:=1) (m:=0) rfl cl0) rfl) ?_; intro w a hM hE
   have hM:=hM.toOwn noB
   refine Zf (Zc (Zd hE Za ld rfl fun a hE=>Zi hE Za ld rfl rfl rfl fun a hE=>Ze hE Za ld rfl fun a hE=>Zf (Zc (Ze hE Za ld rfl fun a hE=>Zf ?_))))
   obtain ⟨j15,hl16,hF17⟩:=bind_some hs5
   refine ZP (fun a w=>Env 42 a [(0,v0_1),(1,vI j15.2),(5,vI s4.2.2)] ∧ M St W w (own NoB (j15.1 : (List GEvent)) [v0_1] :: its)) ?_ ?_
   ·skip
    refine wp_block ?_
    refine ZI (fun (s18 : (List GEvent) × Int × Int) a w=>Env 42 a [(0,v0_1),(1,vI s18.2.1),(5,vI s4.2.2),(6,vI s18.2.2)] ∧ M St W w (own NoB (s18.1 : (List GEvent)) [v0_1] :: its)) hl16 ⟨hE.sub ⟨rfl,rfl,rfl,rfl,trivial⟩,hM⟩ ?_
    rintro s18 a w ⟨hE,hM⟩ o21 hs19 hx20
    unfold V6 at hs19
    refine wp_seq (Zc (Zd hE Za ld rfl fun a hE=>Zi hE Za ld rfl rfl rfl fun a hE=>Zf ?_))
    refine Zs hE rfl ?_ ?_
    ·intro hb22
     have hs19:=ZA hs19 hb22
     refine wp_skip (Zz (wp_seq (wp_block (Zc (Zd hE Za ld rfl fun a hE=>Zd hE Za ld rfl fun a hE=>Zd hE Za ld rfl fun a hE=>Zd hE Za ld rfl fun a hE=>Yz hE Za ld rfl Tryz.underlying3 Tryz.underlying5 ?_))))); intro a hE
     rw [ZW] at hE
     obtain ⟨x23,hi25,hs19⟩:=bix hs19
     refine ZL hE Za ld rfl rfl Tryz.underlying34 Y9 (hM.ro (pre:=[]) noB) hi25.1 fun a hE=>Zg hE Za ld rfl (Q8) ?_; intro a hE
     obtain ⟨x27,hi26,hs19⟩:=bvx hs19
     refine Zr hE Za ld rfl rfl Tryz.underlying29 ty5 hi26.1 ?_; intro a hE
     have hM:=hM.toOsl (List.getElem?_eq_some_iff.1 hi25.2).1
     refine T4 (i:=(s4.2.2).toNat) (k0:=0 + 2 + (s18.2.2).toNat * 1) (seg:=[(vB (ZC s18.2.1))]) (xo:=x23) (xn:=(⟨x23.Kind,x23.Number,(x23.Tag.setIfInBounds (s18.2.2).toNat (ZC s18.2.1))⟩ : GEvent)) hE hM Za (Bf rfl (by show _ = _ + _ * 34 + _; omega)) rfl rfl ty5 rfl (Flat.cell (ZC s18.2.1 : UInt8)) hi25.2 (BW (m:=1) hi26.1 rfl (by decide)) (V3 (o':=0 + (s18.2.2).toNat * 1) (pre:=[[vI x23.Kind],[vI x23.Number]]) (seg:=enc x23.Tag) (post:=[]) (cl1 (n:=1) (m:=1) rfl (cl1 (n:=1) (m:=0) rfl cl0)) (ZR (v:=x23.Tag) (x:=ZC s18.2.1) hi26.1) (ZJ (v:=x23.Tag) (x:=ZC s18.2.1) hi26.1) (by first | omega | (simp only [Flat.n] <;> omega))) ?_; intro w a hM hE
     have hM:=hM.toOwn noB
     refine Zf (wp_region_lit (Zd hE Za ld rfl fun a hE=>Zi hE Za ld rfl rfl rfl fun a hE=>Ze hE Za ld rfl fun a hE=>Zj (Yb (Zz (wp_region_lit (Zd hE Za ld rfl fun a hE=>Zi hE Za ld rfl rfl rfl fun a hE=>Ze hE Za ld rfl fun a hE=>Zj (Zn ?_)))))))
     exact ⟨_,(ois hs19),hE.sub ⟨rfl,rfl,rfl,rfl,trivial⟩,hM⟩
    ·intro hb22
     have hs19:=ZB hs19 hb22
     refine wp_exit (Zq (Zq (Yf ?_)))
     have ht29:=hx20 _ (ois hs19)
     subst ht29
     refine Zn ?_
     exact ⟨hE.sub ⟨rfl,rfl,rfl,trivial⟩,hM⟩
   ·skip
    rintro a w ⟨hE,hM⟩
    refine Yb (Zz (wp_region_lit (Zd hE Za ld rfl fun a hE=>Zi hE Za ld rfl rfl rfl fun a hE=>Ze hE Za ld rfl fun a hE=>Zj (Zn ?_))))
    exact ⟨_,(ois hF17),hE.sub ⟨rfl,rfl,rfl,trivial⟩,hM⟩
  ·intro hb8
   have hs5:=ZB hs5 hb8
   refine wp_exit (Zq (Zq (Yf ?_)))
   have ht30:=hx6 _ (ois hs5)
   subst ht30
   refine Zn ?_
   exact ⟨hE.sub ⟨rfl,rfl,trivial⟩,hM⟩
 ·skip
  rintro a w ⟨hE,hM⟩
  refine Zz (Zc (Zd hE Za ld rfl fun a hE=>Ze hE Za ld rfl fun a hE=>Zf ?_))
  have hr:=Option.some.inj hF3
  subst hr
  exact wp_ret (Zy hE (by rfl) (Zu hE rfl) ⟨_,rfl,rfl,hM⟩)
def Xj (p0 : GVault) (p1 : Int) : Option (GVault × Int) :=
 (Xq p0.Keys p1).bind fun r3=>(Xg p0.Records r3.2).bind fun r5=>(Xp p0.Events r5.2).bind fun r7=>some ((⟨r3.1,p0.Next,r5.1,r7.1,p0.Head⟩ : GVault),r7.2)
theorem QV (St : Nat → Prop) (W w0 : World) (its : List Item) (p0 : GVault) (v0_1 : Value) (v0_2 : Value) (v0_3 : Value) (p1 : Int) (hM : M St W w0 (own NoB (p0.Keys : (List (Vector UInt8 16))) [v0_1] :: own NoB (p0.Records : (List GRecord)) [v0_2] :: own NoB (p0.Events : (List GEvent)) [v0_3] :: its)) (r : GVault × Int) (hF : Xj p0 p1 = some r) :
  Calls Tryz.prog 29 [(Value.agg (cat [[v0_1],[vI p0.Next],[v0_2],[v0_3],enc p0.Head]).toArray),vI p1].toArray w0 (fun en w'=>∃ v,en = .returned v ∧ (v = (vI r.2) ∧ M St W w' (own NoB (r.1.Keys : (List (Vector UInt8 16))) [v0_1] :: own NoB (r.1.Records : (List GRecord)) [v0_2] :: own NoB (r.1.Events : (List GEvent)) [v0_3] :: its))):=by
 refine ZD (n:=18) Tryz.func29 rfl rfl (nbl rfl) rfl ?_
 intro a hE
 unfold Xj at hF
 refine Zc (ZY (cs:=cat [[v0_1],[vI p0.Next],[v0_2],[v0_3],enc p0.Head]) hE hM Za ld rfl rfl fun b1 w a hM hE=>Ze hE Za ld rfl fun a hE=>Zf (Zc (Zg hE Za ld rfl (Wl) fun a hE=>Zp (v:=v0_1) hE Za ld rfl T1 rfl (At.cat (pre:=[]) (hM.rawAt (pre:=[])) cl0) fun a hE=>Zd hE Za ld rfl ?_))); intro a hE
 have hM:=hM.pull (pre:=[_])
 obtain ⟨r3,e4,hF⟩:=bind_some hF
 refine Zt hE Za ld rfl cb90 (Jw _ _ _ _ p0.Keys v0_1 p1 hM r3 e4) ?_
 rintro v w a ⟨rfl,hM⟩ hE
 refine Ze hE Za ld rfl fun a hE=>Zf (Zc (Zg hE Za ld rfl (UC) fun a hE=>Zp (v:=v0_2) hE Za ld rfl QX rfl (At.cat (pre:=[[v0_1],[vI p0.Next]]) (hM.rawAt (pre:=[_])) (cl1 (n:=1) (m:=1) rfl (cl1 (n:=1) (m:=0) rfl cl0))) fun a hE=>Zd hE Za ld rfl ?_)); intro a hE
 have hM:=hM.pull (pre:=[_,_])
 obtain ⟨r5,e6,hF⟩:=bind_some hF
 refine Zt hE Za ld rfl cb91 (Jc _ _ _ _ p0.Records v0_2 r3.2 hM r5 e6) ?_
 rintro v w a ⟨rfl,hM⟩ hE
 refine Ze hE Za ld rfl fun a hE=>Zf (Zc (Zg hE Za ld rfl (VH) fun a hE=>Zp (v:=v0_3) hE Za ld rfl QI rfl (At.cat (pre:=[[v0_1],[vI p0.Next],[v0_2]]) (hM.rawAt (pre:=[_,_])) (cl1 (n:=1) (m:=2) rfl (cl1 (n:=1) (m:=1) rfl (cl1 (n:=1) (m:=0) rfl cl0)))) fun a hE=>Zd hE Za ld rfl ?_)); intro a hE
 have hM:=hM.pull (pre:=[_,_,_])
 obtain ⟨r7,e8,hF⟩:=bind_some hF
 refine Zt hE Za ld rfl cb92 (JO _ _ _ _ p0.Events v0_3 r5.2 hM r7 e8) ?_
 rintro v w a ⟨rfl,hM⟩ hE
 refine Ze hE Za ld rfl fun a hE=>Zf (Zc (Zd hE Za ld rfl fun a hE=>Ze hE Za ld rfl fun a hE=>Zf ?_))
 have hr:=Option.some.inj hF
 subst hr
 have hM:=(((hM.pull (pre:=[_])).pull (pre:=[_,_])).pull (pre:=[_,_,_])).drop
 exact wp_ret (Zy hE (by rfl) (Zu hE rfl) ⟨_,rfl,rfl,hM⟩)
def Ue (p0 : (List (Vector UInt8 16))) (s5 : Int × Int) (s14 : Int × Int) : Option (Fl (Int × Int) (Fl Int Int)) :=
 if (decide (s14.2 < 16)) = true then ((idx p0 s5.2).bind fun x19=>(ZM x19 s14.2).bind fun x23=>if (x23 != (ZC s14.1)) = true then (some (Fl.ex (Fl.ex (-1)))) else (some (Fl.nx (wr (s14.1 + 1),wr (s14.2 + 1))))) else (some (Fl.ex (Fl.nx s14.1)))
def WP (p0 : (List (Vector UInt8 16))) (s5 : Int × Int) : Option (Fl (Int × Int) (Fl Int Int)) :=
 if (decide (s5.2 < (p0.length : Int))) = true then ((ZG (Ue p0 s5) (s5.1,0)).bind fun j10=>j10.el (fun s13=>some (Fl.nx (s13,wr (s5.2 + 1)))) (fun r=>some (Fl.ex (Fl.ex r)))) else (some (Fl.ex (Fl.nx s5.1)))
def Vl (p0 : (List (Vector UInt8 16))) (p1 : Int) : Option (Int) :=
 (ZG (WP p0) (p1,0)).bind fun j1=>j1.el (fun s4=>some s4) (fun r=>some r)
theorem Jy (w0 : World) (p0 : (List (Vector UInt8 16))) (v0_1 : Value) (hv0_1 : Ro w0 p0 [v0_1]) (p1 : Int) (r : Int) (hF : Vl p0 p1 = some r) :
  Calls Tryz.prog 113 [v0_1,vI p1].toArray w0 (fun en w'=>∃ v,en = .returned v ∧ (v = (vI r) ∧ Kept (Old w0) w0 w')):=by
 refine ZD (n:=29) Tryz.func113 rfl rfl (nbl rfl) rfl ?_
 intro a hE
 have hM:=M.start w0
 unfold Vl at hF
 refine Zc (Ze hE Za ld rfl fun a hE=>Zf (wp_seq (Zc (Ze hE Za ld rfl fun a hE=>Zf ?_))))
 obtain ⟨j1,hl2,hF3⟩:=bind_some hF
 refine ZP (fun a w=>∃ s4 : Int,j1 = Fl.nx s4 ∧ Env 29 a [(1,vI s4)] ∧ M (Old w0) w0 w []) ?_ ?_
 ·skip
  refine wp_block ?_
  refine ZI (fun (s5 : Int × Int) a w=>Env 29 a [(0,v0_1),(1,vI s5.1),(5,vI s5.2)] ∧ M (Old w0) w0 w []) hl2 ⟨hE.sub ⟨rfl,rfl,rfl,trivial⟩,hM⟩ ?_
  rintro s5 a w ⟨hE,hM⟩ o8 hs6 hx7
  unfold WP at hs6
  refine wp_seq (Zc (Zd hE Za ld rfl fun a hE=>Zd hE Za ld rfl fun a hE=>Z3 hE Za ld rfl Tryz.underlying32 (hM.rd hv0_1) fun a hE=>Zi hE Za ld rfl rfl rfl fun a hE=>Zf ?_))
  refine Zs hE rfl ?_ ?_
  ·intro hb9
   have hs6:=ZA hs6 hb9
   refine wp_skip (Zz (wp_seq (wp_block (Zc (Ze hE Za ld rfl fun a hE=>Zf ?_)))))
   obtain ⟨j10,hl11,hF12⟩:=bind_some hs6
   refine ZP (fun a w=>∃ s13 : Int,j10 = Fl.nx s13 ∧ Env 29 a [(0,v0_1),(1,vI s13),(5,vI s5.2)] ∧ M (Old w0) w0 w []) ?_ ?_
   ·skip
    refine wp_block ?_
    refine ZI (fun (s14 : Int × Int) a w=>Env 29 a [(0,v0_1),(1,vI s14.1),(5,vI s5.2),(6,vI s14.2)] ∧ M (Old w0) w0 w []) hl11 ⟨hE.sub ⟨rfl,rfl,rfl,rfl,trivial⟩,hM⟩ ?_
    rintro s14 a w ⟨hE,hM⟩ o17 hs15 hx16
    unfold Ue at hs15
    refine wp_seq (Zc (Zd hE Za ld rfl fun a hE=>Zi hE Za ld rfl rfl rfl fun a hE=>Zf ?_))
    refine Zs hE rfl ?_ ?_
    ·intro hb18
     have hs15:=ZA hs15 hb18
     refine wp_skip (Zz (wp_seq (wp_block (wp_seq (Zc (Zd hE Za ld rfl fun a hE=>Zd hE Za ld rfl fun a hE=>Zd hE Za ld rfl ?_)))))); intro a hE
     obtain ⟨x19,hi21,hs15⟩:=bix hs15
     refine ZL hE Za ld rfl rfl Tryz.underlying32 ZH (hM.rd hv0_1) hi21.1 ?_; intro a hE
     obtain ⟨x23,hi22,hs15⟩:=bvx hs15
     refine Zr hE Za ld rfl rfl Tryz.underlying70 ty5 hi22.1 fun a hE=>Zp (v:=(vB x23)) hE Za ld rfl ty5 rfl (At.vec (XE (hM.rd hv0_1) hi21.2) hi22.2) fun a hE=>Zd hE Za ld rfl fun a hE=>Yz hE Za ld rfl Tryz.underlying3 Tryz.underlying5 ?_; intro a hE
     rw [ZW] at hE
     refine Zi hE Za ld rfl rfl (Q2 x23 (ZC s14.1)) fun a hE=>Zf ?_
     refine Zs hE rfl ?_ ?_
     ·intro hb25
      have hs15:=ZA hs15 hb25
      refine Zc (Ze hE Za ld rfl fun a hE=>Zf ?_)
      have ht26:=hx16 _ (ois hs15)
      subst ht26
      have ht27:=hx7 _ (ois hF12)
      subst ht27
      have hr:=Option.some.inj hF3
      subst hr
      exact wp_ret (Zx (Yj (Zx (Zx (Yj (Zx (Yj (Zx (Zx (Yj (Zx (Zx (Zy hE rfl (Zu hE rfl) ⟨_,rfl,rfl,hM.kept⟩)))))))))))))
     ·intro hb25
      have hs15:=ZB hs15 hb25
      refine wp_skip (Zz (wp_region_lit (Zd hE Za ld rfl fun a hE=>Zi hE Za ld rfl rfl rfl fun a hE=>Ze hE Za ld rfl fun a hE=>Zj (Yb (Zz (wp_region_lit (Zd hE Za ld rfl fun a hE=>Zi hE Za ld rfl rfl rfl fun a hE=>Ze hE Za ld rfl fun a hE=>Zj (Zn ?_))))))))
      exact ⟨_,(ois hs15),hE.sub ⟨rfl,rfl,rfl,rfl,trivial⟩,hM⟩
    ·intro hb18
     have hs15:=ZB hs15 hb18
     refine wp_exit (Zq (Zq (Yf ?_)))
     have ht28:=hx16 _ (ois hs15)
     subst ht28
     refine Zn ?_
     exact ⟨s14.1,rfl,hE.sub ⟨rfl,rfl,rfl,trivial⟩,hM⟩
   ·skip
    rintro a w ⟨s13,ht,hE,hM⟩
    subst ht
    have hF12:=Tg hF12
    refine Yb (Zz (wp_region_lit (Zd hE Za ld rfl fun a hE=>Zi hE Za ld rfl rfl rfl fun a hE=>Ze hE Za ld rfl fun a hE=>Zj (Zn ?_))))
    exact ⟨_,(ois hF12),hE.sub ⟨rfl,rfl,rfl,trivial⟩,hM⟩
  ·intro hb9
   have hs6:=ZB hs6 hb9
   refine wp_exit (Zq (Zq (Yf ?_)))
   have ht29:=hx7 _ (ois hs6)
   subst ht29
   refine Zn ?_
   exact ⟨s5.1,rfl,hE.sub ⟨rfl,trivial⟩,hM⟩
 ·skip
  rintro a w ⟨s4,ht,hE,hM⟩
  subst ht
  have hF3:=Tg hF3
  refine Zz (Zc (Zd hE Za ld rfl fun a hE=>Ze hE Za ld rfl fun a hE=>Zf ?_))
  have hr:=Option.some.inj hF3
  subst hr
  exact wp_ret (Zy hE rfl (Zu hE rfl) ⟨_,rfl,rfl,hM.kept⟩)
def Vi (p0 : (List UInt8)) (s5 : Int × Int) : Option (Fl (Int × Int) (Fl Int Int)) :=
 if (decide (s5.2 < (p0.length : Int))) = true then ((idx p0 s5.2).bind fun x10=>if (x10 != (ZC s5.1)) = true then (some (Fl.ex (Fl.ex (-1)))) else (some (Fl.nx (wr (s5.1 + 1),wr (s5.2 + 1))))) else (some (Fl.ex (Fl.nx s5.1)))
def Wy (p0 : (List UInt8)) (p1 : Int) : Option (Int) :=
 (ZG (Vi p0) (p1,0)).bind fun j1=>j1.el (fun s4=>some s4) (fun r=>some r)
theorem QU (w0 : World) (p0 : (List UInt8)) (v0_1 : Value) (hv0_1 : Ro w0 p0 [v0_1]) (p1 : Int) (r : Int) (hF : Wy p0 p1 = some r) :
  Calls Tryz.prog 31 [v0_1,vI p1].toArray w0 (fun en w'=>∃ v,en = .returned v ∧ (v = (vI r) ∧ Kept (Old w0) w0 w')):=by
 refine ZD (n:=22) Tryz.func31 rfl rfl (nbl rfl) rfl ?_
 intro a hE
 have hM:=M.start w0
 unfold Wy at hF
 refine Zc (Ze hE Za ld rfl fun a hE=>Zf (wp_seq (Zc (Ze hE Za ld rfl fun a hE=>Zf ?_))))
 obtain ⟨j1,hl2,hF3⟩:=bind_some hF
 refine ZP (fun a w=>∃ s4 : Int,j1 = Fl.nx s4 ∧ Env 22 a [(1,vI s4)] ∧ M (Old w0) w0 w []) ?_ ?_
 ·skip
  refine wp_block ?_
  refine ZI (fun (s5 : Int × Int) a w=>Env 22 a [(0,v0_1),(1,vI s5.1),(5,vI s5.2)] ∧ M (Old w0) w0 w []) hl2 ⟨hE.sub ⟨rfl,rfl,rfl,trivial⟩,hM⟩ ?_
  rintro s5 a w ⟨hE,hM⟩ o8 hs6 hx7
  unfold Vi at hs6
  refine wp_seq (Zc (Zd hE Za ld rfl fun a hE=>Zd hE Za ld rfl fun a hE=>Z3 hE Za ld rfl Tryz.underlying57 (hM.rd hv0_1) fun a hE=>Zi hE Za ld rfl rfl rfl fun a hE=>Zf ?_))
  refine Zs hE rfl ?_ ?_
  ·intro hb9
   have hs6:=ZA hs6 hb9
   refine wp_skip (Zz (wp_seq (wp_block (wp_seq (Zc (Zd hE Za ld rfl fun a hE=>Zd hE Za ld rfl ?_)))))); intro a hE
   obtain ⟨x10,hi12,hs6⟩:=bix hs6
   refine ZL hE Za ld rfl rfl Tryz.underlying57 ty5 (hM.rd hv0_1) hi12.1 fun a hE=>Zp (v:=(vB x10)) hE Za ld rfl ty5 rfl (XE (hM.rd hv0_1) hi12.2) fun a hE=>Zd hE Za ld rfl fun a hE=>Yz hE Za ld rfl Tryz.underlying3 Tryz.underlying5 ?_; intro a hE
   rw [ZW] at hE
   refine Zi hE Za ld rfl rfl (Q2 x10 (ZC s5.1)) fun a hE=>Zf ?_
   refine Zs hE rfl ?_ ?_
   ·intro hb13
    have hs6:=ZA hs6 hb13
    refine Zc (Ze hE Za ld rfl fun a hE=>Zf ?_)
    have ht14:=hx7 _ (ois hs6)
    subst ht14
    have hr:=Option.some.inj hF3
    subst hr
    exact wp_ret (Zx (Yj (Zx (Zx (Yj (Zx (Zx (Zy hE rfl (Zu hE rfl) ⟨_,rfl,rfl,hM.kept⟩))))))))
   ·intro hb13
    have hs6:=ZB hs6 hb13
    refine wp_skip (Zz (wp_region_lit (Zd hE Za ld rfl fun a hE=>Zi hE Za ld rfl rfl rfl fun a hE=>Ze hE Za ld rfl fun a hE=>Zj (Yb (Zz (wp_region_lit (Zd hE Za ld rfl fun a hE=>Zi hE Za ld rfl rfl rfl fun a hE=>Ze hE Za ld rfl fun a hE=>Zj (Zn ?_))))))))
    exact ⟨_,(ois hs6),hE.sub ⟨rfl,rfl,rfl,trivial⟩,hM⟩
  ·intro hb9
   have hs6:=ZB hs6 hb9
   refine wp_exit (Zq (Zq (Yf ?_)))
   have ht15:=hx7 _ (ois hs6)
   subst ht15
   refine Zn ?_
   exact ⟨s5.1,rfl,hE.sub ⟨rfl,trivial⟩,hM⟩
 ·skip
  rintro a w ⟨s4,ht,hE,hM⟩
  subst ht
  have hF3:=Tg hF3
  refine Zz (Zc (Zd hE Za ld rfl fun a hE=>Ze hE Za ld rfl fun a hE=>Zf ?_))
  have hr:=Option.some.inj hF3
  subst hr
  exact wp_ret (Zy hE rfl (Zu hE rfl) ⟨_,rfl,rfl,hM.kept⟩)
def VA (p0 : (List GRecord)) (s5 : Int × Int) (s38 : Int × Int) : Option (Fl (Int × Int) (Fl Int Int)) :=
 if (decide (s38.2 < 16)) = true then ((idx p0 s5.2).bind fun x43=>(ZM x43.Nonce s38.2).bind fun x54=>if (x54 != (ZC s38.1)) = true then (some (Fl.ex (Fl.ex (-1)))) else (some (Fl.nx (wr (s38.1 + 1),wr (s38.2 + 1))))) else (some (Fl.ex (Fl.nx s38.1)))
def Vy (p0 : (List GRecord)) (s5 : Int × Int) (s92 : Int × Int) : Option (Fl (Int × Int) (Fl Int Int)) :=
 if (decide (s92.2 < 32)) = true then ((idx p0 s5.2).bind fun x97=>(ZM x97.Tag s92.2).bind fun x108=>if (x108 != (ZC s92.1)) = true then (some (Fl.ex (Fl.ex (-1)))) else (some (Fl.nx (wr (s92.1 + 1),wr (s92.2 + 1))))) else (some (Fl.ex (Fl.nx s92.1)))
def Wo (p0 : (List GRecord)) (s5 : Int × Int) : Option (Fl (Int × Int) (Fl Int Int)) :=
 if (decide (s5.2 < (p0.length : Int))) = true then ((idx p0 s5.2).bind fun x10=>if (x10.Number != s5.1) = true then (some (Fl.ex (Fl.ex (-1)))) else ((idx p0 s5.2).bind fun x22=>if (x22.Version != (wr (s5.1 + 1))) = true then (some (Fl.ex (Fl.ex (-1)))) else ((ZG (VA p0 s5) (wr ((wr (s5.1 + 1)) + 1),0)).bind fun j34=>j34.el (fun s37=>(idx p0 s5.2).bind fun x60=>(Wy x60.Label s37).bind fun r70=>if (decide (r70 < 0)) = true then (some (Fl.ex (Fl.ex (-1)))) else ((idx p0 s5.2).bind fun x74=>(Wy x74.Body r70).bind fun r84=>if (decide (r84 < 0)) = true then (some (Fl.ex (Fl.ex (-1)))) else ((ZG (Vy p0 s5) (r84,0)).bind fun j88=>j88.el (fun s91=>some (Fl.nx (s91,wr (s5.2 + 1)))) (fun r=>some (Fl.ex (Fl.ex r)))))) (fun r=>some (Fl.ex (Fl.ex r)))))) else (some (Fl.ex (Fl.nx s5.1)))
def WO (p0 : (List GRecord)) (p1 : Int) : Option (Int) :=
 (ZG (Wo p0) (p1,0)).bind fun j1=>j1.el (fun s4=>some s4) (fun r=>some r)
theorem Ji (w0 : World) (p0 : (List GRecord)) (v0_1 : Value) (hv0_1 : Ro w0 p0 [v0_1]) (p1 : Int) (r : Int) (hF : WO p0 p1 = some r) :
  Calls Tryz.prog 114 [v0_1,vI p1].toArray w0 (fun en w'=>∃ v,en = .returned v ∧ (v = (vI r) ∧ Kept (Old w0) w0 w')):=by
 refine ZD (n:=83) Tryz.func114 rfl rfl (nbl rfl) rfl ?_
 intro a hE
 have hM:=M.start w0
 unfold WO at hF
 refine Zc (Ze hE Za ld rfl fun a hE=>Zf (wp_seq (Zc (Ze hE Za ld rfl fun a hE=>Zf ?_))))
 obtain ⟨j1,hl2,hF3⟩:=bind_some hF
 refine ZP (fun a w=>∃ s4 : Int,j1 = Fl.nx s4 ∧ Env 83 a [(1,vI s4)] ∧ M (Old w0) w0 w []) ?_ ?_
 ·skip
  refine wp_block ?_
  refine ZI (fun (s5 : Int × Int) a w=>Env 83 a [(0,v0_1),(1,vI s5.1),(5,vI s5.2)] ∧ M (Old w0) w0 w []) hl2 ⟨hE.sub ⟨rfl,rfl,rfl,trivial⟩,hM⟩ ?_
  rintro s5 a w ⟨hE,hM⟩ o8 hs6 hx7
  unfold Wo at hs6
  refine wp_seq (Zc (Zd hE Za ld rfl fun a hE=>Zd hE Za ld rfl fun a hE=>Z3 hE Za ld rfl Tryz.underlying33 (hM.rd hv0_1) fun a hE=>Zi hE Za ld rfl rfl rfl fun a hE=>Zf ?_))
  refine Zs hE rfl ?_ ?_
  ·intro hb9
   have hs6:=ZA hs6 hb9
   refine wp_skip (Zz (wp_seq (wp_block (wp_seq (Zc (Zd hE Za ld rfl fun a hE=>Zd hE Za ld rfl ?_)))))); intro a hE
   obtain ⟨x10,hi12,hs6⟩:=bix hs6
   refine ZL hE Za ld rfl rfl Tryz.underlying33 XZ (hM.rd hv0_1) hi12.1 fun a hE=>Zg hE Za ld rfl (TU) ?_; intro a hE
   obtain ⟨cs13,hs14,hA15⟩:=Vj hv0_1 hi12.2 -- ^
   obtain ⟨u16,u18,rfl,h17,h19⟩:=Xe hs14 -- ^
   refine Zp (v:=(vI x10.Number)) hE Za ld rfl ty2 rfl (At.cat (pre:=[]) (hM.atk hA15 (UZ hv0_1 hi12.2)) cl0) fun a hE=>Zd hE Za ld rfl fun a hE=>Zi hE Za ld rfl rfl rfl fun a hE=>Zf ?_
   refine Zs hE rfl ?_ ?_
   ·intro hb20
    have hs6:=ZA hs6 hb20
    refine Zc (Ze hE Za ld rfl fun a hE=>Zf ?_)
    have ht21:=hx7 _ (ois hs6)
    subst ht21
    have hr:=Option.some.inj hF3
    subst hr
    exact wp_ret (Zx (Yj (Zx (Zx (Yj (Zx (Zx (Zy hE rfl (Zu hE rfl) ⟨_,rfl,rfl,hM.kept⟩))))))))
   ·intro hb20
    have hs6:=ZB hs6 hb20
    refine wp_skip (Zz (Zc (Zd hE Za ld rfl fun a hE=>Zi hE Za ld rfl rfl rfl fun a hE=>Ze hE Za ld rfl fun a hE=>Zf (wp_seq (Zc (Zd hE Za ld rfl fun a hE=>Zd hE Za ld rfl ?_)))))); intro a hE
    obtain ⟨x22,hi24,hs6⟩:=bix hs6
    refine ZL hE Za ld rfl rfl Tryz.underlying33 XZ (hM.rd hv0_1) hi24.1 fun a hE=>Zg hE Za ld rfl (Q5) ?_; intro a hE
    obtain ⟨cs25,hs26,hA27⟩:=Vj hv0_1 hi24.2 -- ^
    obtain ⟨u28,u30,rfl,h29,h31⟩:=Xe hs26 -- ^
    refine Zp (v:=(vI x22.Version)) hE Za ld rfl ty2 rfl (At.cat (pre:=[[vI x22.Number]]) (hM.atk hA27 (UZ hv0_1 hi24.2)) (cl1 (n:=1) (m:=0) rfl cl0)) fun a hE=>Zd hE Za ld rfl fun a hE=>Zi hE Za ld rfl rfl rfl fun a hE=>Zf ?_
    refine Zs hE rfl ?_ ?_
    ·intro hb32
     have hs6:=ZA hs6 hb32
     refine Zc (Ze hE Za ld rfl fun a hE=>Zf ?_)
     have ht33:=hx7 _ (ois hs6)
     subst ht33
     have hr:=Option.some.inj hF3
     subst hr
     exact wp_ret (Zx (Yj (Zx (Zx (Yj (Zx (Zx (Zy hE rfl (Zu hE rfl) ⟨_,rfl,rfl,hM.kept⟩))))))))
    ·intro hb32
     have hs6:=ZB hs6 hb32
     refine wp_skip (Zz (Zc (Zd hE Za ld rfl fun a hE=>Zi hE Za ld rfl rfl rfl fun a hE=>Ze hE Za ld rfl fun a hE=>Zf (wp_seq (Zc (Ze hE Za ld rfl fun a hE=>Zf ?_))))))
     obtain ⟨j34,hl35,hF36⟩:=bind_some hs6
     refine ZP (fun a w=>∃ s37 : Int,j34 = Fl.nx s37 ∧ Env 83 a [(0,v0_1),(1,vI s37),(5,vI s5.2)] ∧ M (Old w0) w0 w []) ?_ ?_
     ·skip
      refine wp_block ?_
      refine ZI (fun (s38 : Int × Int) a w=>Env 83 a [(0,v0_1),(1,vI s38.1),(5,vI s5.2),(6,vI s38.2)] ∧ M (Old w0) w0 w []) hl35 ⟨hE.sub ⟨rfl,rfl,rfl,rfl,trivial⟩,hM⟩ ?_
      rintro s38 a w ⟨hE,hM⟩ o41 hs39 hx40
      unfold VA at hs39
      refine wp_seq (Zc (Zd hE Za ld rfl fun a hE=>Zi hE Za ld rfl rfl rfl fun a hE=>Zf ?_))
      refine Zs hE rfl ?_ ?_
      ·intro hb42
       have hs39:=ZA hs39 hb42
       refine wp_skip (Zz (wp_seq (wp_block (wp_seq (Zc (Zd hE Za ld rfl fun a hE=>Zd hE Za ld rfl fun a hE=>Zd hE Za ld rfl ?_)))))); intro a hE
       obtain ⟨x43,hi45,hs39⟩:=bix hs39
       refine ZL hE Za ld rfl rfl Tryz.underlying33 XZ (hM.rd hv0_1) hi45.1 fun a hE=>Zg hE Za ld rfl (BD) ?_; intro a hE
       obtain ⟨cs46,hs47,hA48⟩:=Vj hv0_1 hi45.2 -- ^
       obtain ⟨u49,u51,rfl,h50,h52⟩:=Xe hs47 -- ^
       obtain ⟨x54,hi53,hs39⟩:=bvx hs39
       refine Zr hE Za ld rfl rfl Tryz.underlying70 ty5 hi53.1 fun a hE=>Zp (v:=(vB x54)) hE Za ld rfl ty5 rfl (At.vec (At.cat (pre:=[[vI x43.Number],[vI x43.Version]]) (hM.atk hA48 (UZ hv0_1 hi45.2)) (cl1 (n:=1) (m:=1) rfl (cl1 (n:=1) (m:=0) rfl cl0))) hi53.2) fun a hE=>Zd hE Za ld rfl fun a hE=>Yz hE Za ld rfl Tryz.underlying3 Tryz.underlying5 ?_; intro a hE
       rw [ZW] at hE
       refine Zi hE Za ld rfl rfl (Q2 x54 (ZC s38.1)) fun a hE=>Zf ?_
       refine Zs hE rfl ?_ ?_
       ·intro hb56
        have hs39:=ZA hs39 hb56
        refine Zc (Ze hE Za ld rfl fun a hE=>Zf ?_)
        have ht57:=hx40 _ (ois hs39)
        subst ht57
        have ht58:=hx7 _ (ois hF36)
        subst ht58
        have hr:=Option.some.inj hF3
        subst hr
        exact wp_ret (Zx (Yj (Zx (Zx (Yj (Zx (Zx (Yj (Zx (Zx (Yj (Zx (Zx (Zy hE rfl (Zu hE rfl) ⟨_,rfl,rfl,hM.kept⟩))))))))))))))
       ·intro hb56
        have hs39:=ZB hs39 hb56
        refine wp_skip (Zz (wp_region_lit (Zd hE Za ld rfl fun a hE=>Zi hE Za ld rfl rfl rfl fun a hE=>Ze hE Za ld rfl fun a hE=>Zj (Yb (Zz (wp_region_lit (Zd hE Za ld rfl fun a hE=>Zi hE Za ld rfl rfl rfl fun a hE=>Ze hE Za ld rfl fun a hE=>Zj (Zn ?_))))))))
        exact ⟨_,(ois hs39),hE.sub ⟨rfl,rfl,rfl,rfl,trivial⟩,hM⟩
      ·intro hb42
       have hs39:=ZB hs39 hb42
       refine wp_exit (Zq (Zq (Yf ?_)))
       have ht59:=hx40 _ (ois hs39)
       subst ht59
       refine Zn ?_
       exact ⟨s38.1,rfl,hE.sub ⟨rfl,rfl,rfl,trivial⟩,hM⟩
     ·skip
      rintro a w ⟨s37,ht,hE,hM⟩
      subst ht
      have hF36:=Tg hF36
      refine Zz (Zc (Zd hE Za ld rfl fun a hE=>Zd hE Za ld rfl ?_)); intro a hE
      obtain ⟨x60,hi62,hF36⟩:=bix hF36
      refine ZL hE Za ld rfl rfl Tryz.underlying33 XZ (hM.rd hv0_1) hi62.1 fun a hE=>Zg hE Za ld rfl (T9) ?_; intro a hE
      obtain ⟨cs63,hs64,hA65⟩:=Vj hv0_1 hi62.2 -- ^
      obtain ⟨u66,u68,rfl,h67,h69⟩:=Xe hs64 -- ^
      refine Zp (v:=u66) hE Za ld rfl Uu rfl (At.cat (pre:=[[vI x60.Number],[vI x60.Version],enc x60.Nonce]) (hM.atk hA65 (UZ hv0_1 hi62.2)) (cl1 (n:=1) (m:=17) rfl (cl1 (n:=1) (m:=16) rfl (cl1 (n:=16) (m:=0) (Flat.len _) cl0)))) fun a hE=>Zd hE Za ld rfl ?_; intro a hE
      obtain ⟨r70,e71,hF36⟩:=bind_some hF36
      refine Zt hE Za ld rfl cb31 (QU _ x60.Label u66 (hM.rdo h67) s37 r70 e71) ?_
      rintro v w a ⟨rfl,hK⟩ hE
      have hM:=hM.keep hK
      refine Ze hE Za ld rfl fun a hE=>Zf (wp_seq (Zc (Zd hE Za ld rfl fun a hE=>Zi hE Za ld rfl rfl rfl fun a hE=>Zf ?_)))
      refine Zs hE rfl ?_ ?_
      ·intro hb72
       have hF36:=ZA hF36 hb72
       refine Zc (Ze hE Za ld rfl fun a hE=>Zf ?_)
       have ht73:=hx7 _ (ois hF36)
       subst ht73
       have hr:=Option.some.inj hF3
       subst hr
       exact wp_ret (Zx (Yj (Zx (Zx (Yj (Zx (Zx (Zy hE rfl (Zu hE rfl) ⟨_,rfl,rfl,hM.kept⟩))))))))
      ·intro hb72
       have hF36:=ZB hF36 hb72
       refine wp_skip (Zz (Zc (Zd hE Za ld rfl fun a hE=>Zd hE Za ld rfl ?_))); intro a hE
       obtain ⟨x74,hi76,hF36⟩:=bix hF36
       refine ZL hE Za ld rfl rfl Tryz.underlying33 XZ (hM.rd hv0_1) hi76.1 fun a hE=>Zg hE Za ld rfl (Qr) ?_; intro a hE
       obtain ⟨cs77,hs78,hA79⟩:=Vj hv0_1 hi76.2 -- ^
       obtain ⟨u80,u82,rfl,h81,h83⟩:=Xe hs78 -- ^
       refine Zp (v:=u82) hE Za ld rfl Uu rfl (At.cat (pre:=[[vI x74.Number],[vI x74.Version],enc x74.Nonce,[u80]]) (hM.atk hA79 (UZ hv0_1 hi76.2)) (cl1 (n:=1) (m:=18) rfl (cl1 (n:=1) (m:=17) rfl (cl1 (n:=16) (m:=1) (Flat.len _) (cl1 (n:=1) (m:=0) rfl cl0))))) fun a hE=>Zd hE Za ld rfl ?_; intro a hE
       obtain ⟨r84,e85,hF36⟩:=bind_some hF36
       refine Zt hE Za ld rfl cb31 (QU _ x74.Body u82 (hM.rdo h83) r70 r84 e85) ?_
       rintro v w a ⟨rfl,hK⟩ hE
       have hM:=hM.keep hK
       refine Ze hE Za ld rfl fun a hE=>Zf (wp_seq (Zc (Zd hE Za ld rfl fun a hE=>Zi hE Za ld rfl rfl rfl fun a hE=>Zf ?_)))
       refine Zs hE rfl ?_ ?_
       ·intro hb86
        have hF36:=ZA hF36 hb86
        refine Zc (Ze hE Za ld rfl fun a hE=>Zf ?_)
        have ht87:=hx7 _ (ois hF36)
        subst ht87
        have hr:=Option.some.inj hF3
        subst hr
        exact wp_ret (Zx (Yj (Zx (Zx (Yj (Zx (Zx (Zy hE rfl (Zu hE rfl) ⟨_,rfl,rfl,hM.kept⟩))))))))
       ·intro hb86
        have hF36:=ZB hF36 hb86
        refine wp_skip (Zz (Zc (Ze hE Za ld rfl fun a hE=>Zf ?_)))
        obtain ⟨j88,hl89,hF90⟩:=bind_some hF36
        refine ZP (fun a w=>∃ s91 : Int,j88 = Fl.nx s91 ∧ Env 83 a [(0,v0_1),(1,vI s91),(5,vI s5.2)] ∧ M (Old w0) w0 w []) ?_ ?_
        ·skip
         refine wp_block ?_
         refine ZI (fun (s92 : Int × Int) a w=>Env 83 a [(0,v0_1),(1,vI s92.1),(5,vI s5.2),(7,vI s92.2)] ∧ M (Old w0) w0 w []) hl89 ⟨hE.sub ⟨rfl,rfl,rfl,rfl,trivial⟩,hM⟩ ?_
         rintro s92 a w ⟨hE,hM⟩ o95 hs93 hx94
         unfold Vy at hs93
         refine wp_seq (Zc (Zd hE Za ld rfl fun a hE=>Zi hE Za ld rfl rfl rfl fun a hE=>Zf ?_))
         refine Zs hE rfl ?_ ?_
         ·intro hb96
          have hs93:=ZA hs93 hb96
          refine wp_skip (Zz (wp_seq (wp_block (wp_seq (Zc (Zd hE Za ld rfl fun a hE=>Zd hE Za ld rfl fun a hE=>Zd hE Za ld rfl ?_)))))); intro a hE
          obtain ⟨x97,hi99,hs93⟩:=bix hs93
          refine ZL hE Za ld rfl rfl Tryz.underlying33 XZ (hM.rd hv0_1) hi99.1 fun a hE=>Zg hE Za ld rfl (BP) ?_; intro a hE
          obtain ⟨cs100,hs101,hA102⟩:=Vj hv0_1 hi99.2 -- ^
          obtain ⟨u103,u105,rfl,h104,h106⟩:=Xe hs101 -- ^
          obtain ⟨x108,hi107,hs93⟩:=bvx hs93
          refine Zr hE Za ld rfl rfl Tryz.underlying29 ty5 hi107.1 fun a hE=>Zp (v:=(vB x108)) hE Za ld rfl ty5 rfl (At.vec (At.cat (pre:=[[vI x97.Number],[vI x97.Version],enc x97.Nonce,[u103],[u105]]) (hM.atk hA102 (UZ hv0_1 hi99.2)) (cl1 (n:=1) (m:=19) rfl (cl1 (n:=1) (m:=18) rfl (cl1 (n:=16) (m:=2) (Flat.len _) (cl1 (n:=1) (m:=1) rfl (cl1 (n:=1) (m:=0) rfl cl0)))))) hi107.2) fun a hE=>Zd hE Za ld rfl fun a hE=>Yz hE Za ld rfl Tryz.underlying3 Tryz.underlying5 ?_; intro a hE
          rw [ZW] at hE
          refine Zi hE Za ld rfl rfl (Q2 x108 (ZC s92.1)) fun a hE=>Zf ?_
          refine Zs hE rfl ?_ ?_
          ·intro hb110
           have hs93:=ZA hs93 hb110
           refine Zc (Ze hE Za ld rfl fun a hE=>Zf ?_)
           have ht111:=hx94 _ (ois hs93)
           subst ht111
           have ht112:=hx7 _ (ois hF90)
           subst ht112
           have hr:=Option.some.inj hF3
           subst hr
           exact wp_ret (Zx (Yj (Zx (Zx (Yj (Zx (Yj (Zx (Zx (Yj (Zx (Zx (Zy hE rfl (Zu hE rfl) ⟨_,rfl,rfl,hM.kept⟩)))))))))))))
          ·intro hb110
           have hs93:=ZB hs93 hb110
           refine wp_skip (Zz (wp_region_lit (Zd hE Za ld rfl fun a hE=>Zi hE Za ld rfl rfl rfl fun a hE=>Ze hE Za ld rfl fun a hE=>Zj (Yb (Zz (wp_region_lit (Zd hE Za ld rfl fun a hE=>Zi hE Za ld rfl rfl rfl fun a hE=>Ze hE Za ld rfl fun a hE=>Zj (Zn ?_))))))))
           exact ⟨_,(ois hs93),hE.sub ⟨rfl,rfl,rfl,rfl,trivial⟩,hM⟩
         ·intro hb96
          have hs93:=ZB hs93 hb96
          refine wp_exit (Zq (Zq (Yf ?_)))
          have ht113:=hx94 _ (ois hs93)
          subst ht113
          refine Zn ?_
          exact ⟨s92.1,rfl,hE.sub ⟨rfl,rfl,rfl,trivial⟩,hM⟩
        ·skip
         rintro a w ⟨s91,ht,hE,hM⟩
         subst ht
         have hF90:=Tg hF90
         refine Yb (Zz (wp_region_lit (Zd hE Za ld rfl fun a hE=>Zi hE Za ld rfl rfl rfl fun a hE=>Ze hE Za ld rfl fun a hE=>Zj (Zn ?_))))
         exact ⟨_,(ois hF90),hE.sub ⟨rfl,rfl,rfl,trivial⟩,hM⟩
  ·intro hb9
   have hs6:=ZB hs6 hb9
   refine wp_exit (Zq (Zq (Yf ?_)))
   have ht114:=hx7 _ (ois hs6)
   subst ht114
   refine Zn ?_
   exact ⟨s5.1,rfl,hE.sub ⟨rfl,trivial⟩,hM⟩
 ·skip
  rintro a w ⟨s4,ht,hE,hM⟩
  subst ht
  have hF3:=Tg hF3
  refine Zz (Zc (Zd hE Za ld rfl fun a hE=>Ze hE Za ld rfl fun a hE=>Zf ?_))
  have hr:=Option.some.inj hF3
  subst hr
  exact wp_ret (Zy hE rfl (Zu hE rfl) ⟨_,rfl,rfl,hM.kept⟩)
def Uc (p0 : (List GEvent)) (s5 : Int × Int) (s24 : Int × Int) : Option (Fl (Int × Int) (Fl Int Int)) :=
 if (decide (s24.2 < 32)) = true then ((idx p0 s5.2).bind fun x29=>(ZM x29.Tag s24.2).bind fun x33=>if (x33 != (ZC s24.1)) = true then (some (Fl.ex (Fl.ex (-1)))) else (some (Fl.nx (wr (s24.1 + 1),wr (s24.2 + 1))))) else (some (Fl.ex (Fl.nx s24.1)))
def WW (p0 : (List GEvent)) (s5 : Int × Int) : Option (Fl (Int × Int) (Fl Int Int)) :=
 if (decide (s5.2 < (p0.length : Int))) = true then ((idx p0 s5.2).bind fun x10=>if (x10.Kind != s5.1) = true then (some (Fl.ex (Fl.ex (-1)))) else ((idx p0 s5.2).bind fun x15=>if (x15.Number != (wr (s5.1 + 1))) = true then (some (Fl.ex (Fl.ex (-1)))) else ((ZG (Uc p0 s5) (wr ((wr (s5.1 + 1)) + 1),0)).bind fun j20=>j20.el (fun s23=>some (Fl.nx (s23,wr (s5.2 + 1)))) (fun r=>some (Fl.ex (Fl.ex r)))))) else (some (Fl.ex (Fl.nx s5.1)))
def Vo (p0 : (List GEvent)) (p1 : Int) : Option (Int) :=
 (ZG (WW p0) (p1,0)).bind fun j1=>j1.el (fun s4=>some s4) (fun r=>some r)
theorem JT (w0 : World) (p0 : (List GEvent)) (v0_1 : Value) (hv0_1 : Ro w0 p0 [v0_1]) (p1 : Int) (r : Int) (hF : Vo p0 p1 = some r) :
  Calls Tryz.prog 115 [v0_1,vI p1].toArray w0 (fun en w'=>∃ v,en = .returned v ∧ (v = (vI r) ∧ Kept (Old w0) w0 w')):=by
 refine ZD (n:=48) Tryz.func115 rfl rfl (nbl rfl) rfl ?_
 intro a hE
 have hM:=M.start w0
 unfold Vo at hF
 refine Zc (Ze hE Za ld rfl fun a hE=>Zf (wp_seq (Zc (Ze hE Za ld rfl fun a hE=>Zf ?_))))
 obtain ⟨j1,hl2,hF3⟩:=bind_some hF
 refine ZP (fun a w=>∃ s4 : Int,j1 = Fl.nx s4 ∧ Env 48 a [(1,vI s4)] ∧ M (Old w0) w0 w []) ?_ ?_
 ·skip
  refine wp_block ?_
  refine ZI (fun (s5 : Int × Int) a w=>Env 48 a [(0,v0_1),(1,vI s5.1),(5,vI s5.2)] ∧ M (Old w0) w0 w []) hl2 ⟨hE.sub ⟨rfl,rfl,rfl,trivial⟩,hM⟩ ?_
  rintro s5 a w ⟨hE,hM⟩ o8 hs6 hx7
  unfold WW at hs6
  refine wp_seq (Zc (Zd hE Za ld rfl fun a hE=>Zd hE Za ld rfl fun a hE=>Z3 hE Za ld rfl Tryz.underlying34 (hM.rd hv0_1) fun a hE=>Zi hE Za ld rfl rfl rfl fun a hE=>Zf ?_))
  refine Zs hE rfl ?_ ?_
  ·intro hb9
   have hs6:=ZA hs6 hb9
   refine wp_skip (Zz (wp_seq (wp_block (wp_seq (Zc (Zd hE Za ld rfl fun a hE=>Zd hE Za ld rfl ?_)))))); intro a hE
   obtain ⟨x10,hi12,hs6⟩:=bix hs6
   refine ZL hE Za ld rfl rfl Tryz.underlying34 Y9 (hM.rd hv0_1) hi12.1 fun a hE=>Zg hE Za ld rfl (Qf) fun a hE=>Zp (v:=(vI x10.Kind)) hE Za ld rfl ty2 rfl (At.cat (pre:=[]) (XE (hM.rd hv0_1) hi12.2) cl0) fun a hE=>Zd hE Za ld rfl fun a hE=>Zi hE Za ld rfl rfl rfl fun a hE=>Zf ?_
   refine Zs hE rfl ?_ ?_
   ·intro hb13
    have hs6:=ZA hs6 hb13
    refine Zc (Ze hE Za ld rfl fun a hE=>Zf ?_)
    have ht14:=hx7 _ (ois hs6)
    subst ht14
    have hr:=Option.some.inj hF3
    subst hr
    exact wp_ret (Zx (Yj (Zx (Zx (Yj (Zx (Zx (Zy hE rfl (Zu hE rfl) ⟨_,rfl,rfl,hM.kept⟩))))))))
   ·intro hb13
    have hs6:=ZB hs6 hb13
    refine wp_skip (Zz (Zc (Zd hE Za ld rfl fun a hE=>Zi hE Za ld rfl rfl rfl fun a hE=>Ze hE Za ld rfl fun a hE=>Zf (wp_seq (Zc (Zd hE Za ld rfl fun a hE=>Zd hE Za ld rfl ?_)))))); intro a hE
    obtain ⟨x15,hi17,hs6⟩:=bix hs6
    refine ZL hE Za ld rfl rfl Tryz.underlying34 Y9 (hM.rd hv0_1) hi17.1 fun a hE=>Zg hE Za ld rfl (Qe) fun a hE=>Zp (v:=(vI x15.Number)) hE Za ld rfl ty2 rfl (At.cat (pre:=[[vI x15.Kind]]) (XE (hM.rd hv0_1) hi17.2) (cl1 (n:=1) (m:=0) rfl cl0)) fun a hE=>Zd hE Za ld rfl fun a hE=>Zi hE Za ld rfl rfl rfl fun a hE=>Zf ?_
    refine Zs hE rfl ?_ ?_
    ·intro hb18
     have hs6:=ZA hs6 hb18
     refine Zc (Ze hE Za ld rfl fun a hE=>Zf ?_)
     have ht19:=hx7 _ (ois hs6)
     subst ht19
     have hr:=Option.some.inj hF3
     subst hr
     exact wp_ret (Zx (Yj (Zx (Zx (Yj (Zx (Zx (Zy hE rfl (Zu hE rfl) ⟨_,rfl,rfl,hM.kept⟩))))))))
    ·intro hb18
     have hs6:=ZB hs6 hb18
     refine wp_skip (Zz (Zc (Zd hE Za ld rfl fun a hE=>Zi hE Za ld rfl rfl rfl fun a hE=>Ze hE Za ld rfl fun a hE=>Zf (Zc (Ze hE Za ld rfl fun a hE=>Zf ?_)))))
     obtain ⟨j20,hl21,hF22⟩:=bind_some hs6
     refine ZP (fun a w=>∃ s23 : Int,j20 = Fl.nx s23 ∧ Env 48 a [(0,v0_1),(1,vI s23),(5,vI s5.2)] ∧ M (Old w0) w0 w []) ?_ ?_
     ·skip
      refine wp_block ?_
      refine ZI (fun (s24 : Int × Int) a w=>Env 48 a [(0,v0_1),(1,vI s24.1),(5,vI s5.2),(6,vI s24.2)] ∧ M (Old w0) w0 w []) hl21 ⟨hE.sub ⟨rfl,rfl,rfl,rfl,trivial⟩,hM⟩ ?_
      rintro s24 a w ⟨hE,hM⟩ o27 hs25 hx26
      unfold Uc at hs25
      refine wp_seq (Zc (Zd hE Za ld rfl fun a hE=>Zi hE Za ld rfl rfl rfl fun a hE=>Zf ?_))
      refine Zs hE rfl ?_ ?_
      ·intro hb28
       have hs25:=ZA hs25 hb28
       refine wp_skip (Zz (wp_seq (wp_block (wp_seq (Zc (Zd hE Za ld rfl fun a hE=>Zd hE Za ld rfl fun a hE=>Zd hE Za ld rfl ?_)))))); intro a hE
       obtain ⟨x29,hi31,hs25⟩:=bix hs25
       refine ZL hE Za ld rfl rfl Tryz.underlying34 Y9 (hM.rd hv0_1) hi31.1 fun a hE=>Zg hE Za ld rfl (Q8) ?_; intro a hE
       obtain ⟨x33,hi32,hs25⟩:=bvx hs25
       refine Zr hE Za ld rfl rfl Tryz.underlying29 ty5 hi32.1 fun a hE=>Zp (v:=(vB x33)) hE Za ld rfl ty5 rfl (At.vec (At.cat (pre:=[[vI x29.Kind],[vI x29.Number]]) (XE (hM.rd hv0_1) hi31.2) (cl1 (n:=1) (m:=1) rfl (cl1 (n:=1) (m:=0) rfl cl0))) hi32.2) fun a hE=>Zd hE Za ld rfl fun a hE=>Yz hE Za ld rfl Tryz.underlying3 Tryz.underlying5 ?_; intro a hE
       rw [ZW] at hE
       refine Zi hE Za ld rfl rfl (Q2 x33 (ZC s24.1)) fun a hE=>Zf ?_
       refine Zs hE rfl ?_ ?_
       ·intro hb35
        have hs25:=ZA hs25 hb35
        refine Zc (Ze hE Za ld rfl fun a hE=>Zf ?_)
        have ht36:=hx26 _ (ois hs25)
        subst ht36
        have ht37:=hx7 _ (ois hF22)
        subst ht37
        have hr:=Option.some.inj hF3
        subst hr
        exact wp_ret (Zx (Yj (Zx (Zx (Yj (Zx (Yj (Zx (Zx (Yj (Zx (Zx (Zy hE rfl (Zu hE rfl) ⟨_,rfl,rfl,hM.kept⟩)))))))))))))
       ·intro hb35
        have hs25:=ZB hs25 hb35
        refine wp_skip (Zz (wp_region_lit (Zd hE Za ld rfl fun a hE=>Zi hE Za ld rfl rfl rfl fun a hE=>Ze hE Za ld rfl fun a hE=>Zj (Yb (Zz (wp_region_lit (Zd hE Za ld rfl fun a hE=>Zi hE Za ld rfl rfl rfl fun a hE=>Ze hE Za ld rfl fun a hE=>Zj (Zn ?_))))))))
        exact ⟨_,(ois hs25),hE.sub ⟨rfl,rfl,rfl,rfl,trivial⟩,hM⟩
      ·intro hb28
       have hs25:=ZB hs25 hb28
       refine wp_exit (Zq (Zq (Yf ?_)))
       have ht38:=hx26 _ (ois hs25)
       subst ht38
       refine Zn ?_
       exact ⟨s24.1,rfl,hE.sub ⟨rfl,rfl,rfl,trivial⟩,hM⟩
     ·skip
      rintro a w ⟨s23,ht,hE,hM⟩
      subst ht
      have hF22:=Tg hF22
      refine Yb (Zz (wp_region_lit (Zd hE Za ld rfl fun a hE=>Zi hE Za ld rfl rfl rfl fun a hE=>Ze hE Za ld rfl fun a hE=>Zj (Zn ?_))))
      exact ⟨_,(ois hF22),hE.sub ⟨rfl,rfl,rfl,trivial⟩,hM⟩
  ·intro hb9
   have hs6:=ZB hs6 hb9
   refine wp_exit (Zq (Zq (Yf ?_)))
   have ht39:=hx7 _ (ois hs6)
   subst ht39
   refine Zn ?_
   exact ⟨s5.1,rfl,hE.sub ⟨rfl,trivial⟩,hM⟩
 ·skip
  rintro a w ⟨s4,ht,hE,hM⟩
  subst ht
  have hF3:=Tg hF3
  refine Zz (Zc (Zd hE Za ld rfl fun a hE=>Ze hE Za ld rfl fun a hE=>Zf ?_))
  have hr:=Option.some.inj hF3
  subst hr
  exact wp_ret (Zy hE rfl (Zu hE rfl) ⟨_,rfl,rfl,hM.kept⟩)
def WD (p0 : GVault) (p1 : Int) : Option (Int) :=
 (Vl p0.Keys p1).bind fun r3=>if (decide (r3 < 0)) = true then (some (-1)) else ((WO p0.Records r3).bind fun r6=>if (decide (r6 < 0)) = true then (some (-1)) else ((Vo p0.Events r6).bind fun r9=>if (decide (r9 < 0)) = true then (some (-1)) else (some r9)))
theorem QO (w0 : World) (p0 : GVault) (v0_1 : Value) (hv0_1 : Ro w0 p0.Keys [v0_1]) (v0_2 : Value) (hv0_2 : Ro w0 p0.Records [v0_2]) (v0_3 : Value) (hv0_3 : Ro w0 p0.Events [v0_3]) (p1 : Int) (r : Int) (hF : WD p0 p1 = some r) :
  Calls Tryz.prog 38 [(Value.agg (cat [[v0_1],[vI p0.Next],[v0_2],[v0_3],enc p0.Head]).toArray),vI p1].toArray w0 (fun en w'=>∃ v,en = .returned v ∧ (v = (vI r) ∧ Kept (Old w0) w0 w')):=by
 refine ZD (n:=24) Tryz.func38 rfl rfl (nbl rfl) rfl ?_
 intro a hE
 have hM:=M.start w0
 unfold WD at hF
 refine Zc (ZY (cs:=cat [[v0_1],[vI p0.Next],[v0_2],[v0_3],enc p0.Head]) hE hM Za ld rfl rfl fun b1 w a hM hE=>Ze hE Za ld rfl fun a hE=>Zf (Zc (Zg hE Za ld rfl (Wl) fun a hE=>Zp (v:=v0_1) hE Za ld rfl T1 rfl (At.cat (pre:=[]) (hM.rawAt (pre:=[])) cl0) fun a hE=>Zd hE Za ld rfl ?_))); intro a hE
 obtain ⟨r3,e4,hF⟩:=bind_some hF
 refine Zt hE Za ld rfl cb113 (Jy _ p0.Keys v0_1 (hM.rdo hv0_1) p1 r3 e4) ?_
 rintro v w a ⟨rfl,hK⟩ hE
 have hM:=hM.keep hK
 refine Ze hE Za ld rfl fun a hE=>Zf (wp_seq (Zc (Zd hE Za ld rfl fun a hE=>Zi hE Za ld rfl rfl rfl fun a hE=>Zf ?_)))
 refine Zs hE rfl ?_ ?_
 ·intro hb5
  have hF:=ZA hF hb5
  refine Zc (Ze hE Za ld rfl fun a hE=>Zf ?_)
  have hr:=Option.some.inj hF
  subst hr
  have hM:=M.fst (l:=[]) hM
  exact wp_ret (Zx (Zy hE rfl (Zu hE rfl) ⟨_,rfl,rfl,hM.kept⟩))
 ·intro hb5
  have hF:=ZB hF hb5
  refine wp_skip (Zz (Zc (Zg hE Za ld rfl (UC) fun a hE=>Zp (v:=v0_2) hE Za ld rfl QX rfl (At.cat (pre:=[[v0_1],[vI p0.Next]]) (hM.rawAt (pre:=[])) (cl1 (n:=1) (m:=1) rfl (cl1 (n:=1) (m:=0) rfl cl0))) fun a hE=>Zd hE Za ld rfl ?_))); intro a hE
  obtain ⟨r6,e7,hF⟩:=bind_some hF
  refine Zt hE Za ld rfl cb114 (Ji _ p0.Records v0_2 (hM.rdo hv0_2) r3 r6 e7) ?_
  rintro v w a ⟨rfl,hK⟩ hE
  have hM:=hM.keep hK
  refine Ze hE Za ld rfl fun a hE=>Zf (wp_seq (Zc (Zd hE Za ld rfl fun a hE=>Zi hE Za ld rfl rfl rfl fun a hE=>Zf ?_)))
  refine Zs hE rfl ?_ ?_
  ·intro hb8
   have hF:=ZA hF hb8
   refine Zc (Ze hE Za ld rfl fun a hE=>Zf ?_)
   have hr:=Option.some.inj hF
   subst hr
   have hM:=M.fst (l:=[]) hM
   exact wp_ret (Zx (Zy hE rfl (Zu hE rfl) ⟨_,rfl,rfl,hM.kept⟩))
  ·intro hb8
   have hF:=ZB hF hb8
   refine wp_skip (Zz (Zc (Zg hE Za ld rfl (VH) fun a hE=>Zp (v:=v0_3) hE Za ld rfl QI rfl (At.cat (pre:=[[v0_1],[vI p0.Next],[v0_2]]) (hM.rawAt (pre:=[])) (cl1 (n:=1) (m:=2) rfl (cl1 (n:=1) (m:=1) rfl (cl1 (n:=1) (m:=0) rfl cl0)))) fun a hE=>Zd hE Za ld rfl ?_))); intro a hE
   obtain ⟨r9,e10,hF⟩:=bind_some hF
   refine Zt hE Za ld rfl cb115 (JT _ p0.Events v0_3 (hM.rdo hv0_3) r6 r9 e10) ?_
   rintro v w a ⟨rfl,hK⟩ hE
   have hM:=hM.keep hK
   refine Ze hE Za ld rfl fun a hE=>Zf (wp_seq (Zc (Zd hE Za ld rfl fun a hE=>Zi hE Za ld rfl rfl rfl fun a hE=>Zf ?_)))
   refine Zs hE rfl ?_ ?_
   ·intro hb11
    have hF:=ZA hF hb11
    refine Zc (Ze hE Za ld rfl fun a hE=>Zf ?_)
    have hr:=Option.some.inj hF
    subst hr
    have hM:=M.fst (l:=[]) hM
    exact wp_ret (Zx (Zy hE rfl (Zu hE rfl) ⟨_,rfl,rfl,hM.kept⟩))
   ·intro hb11
    have hF:=ZB hF hb11
    refine wp_skip (Zz (Zc (Zd hE Za ld rfl fun a hE=>Ze hE Za ld rfl fun a hE=>Zf ?_)))
    have hr:=Option.some.inj hF
    subst hr
    have hM:=M.fst (l:=[]) hM
    exact wp_ret (Zy hE rfl (Zu hE rfl) ⟨_,rfl,rfl,hM.kept⟩)
def Wd (p0 : GVault) (p1 : (Vector UInt8 16)) : Option (Bool) :=
 (TJ p0 1048576).bind fun r5=>if (decide (r5 < 0)) = true then (some true) else ((X3 p0).bind fun r9=>(Xb p1).bind fun r15=>(VX r9 r15).bind fun r17=>(X3 p0).bind fun r35=>(Xb p1).bind fun r43=>(Wx r35 r43).bind fun r45=>((XX r45.1 r17.1).bind fun r63=>if (!r63) = true then (some true) else (some (r45.2 != r17.2)) : Option (Bool)).bind fun j60=>if j60 = true then (some false) else (((X3 p0).bind fun r73=>(XX r35 r73).bind fun r82=>some (!r82) : Option (Bool)).bind fun j69=>if j69 = true then (some false) else ((Xj r35 1).bind fun r86=>(if (decide (r86.2 < 0)) = true then (some true) else ((XX r45.1 r17.1).bind fun r93=>if (!r93) = true then (some true) else (some (r45.2 != r17.2))) : Option (Bool)).bind fun j88=>if j88 = true then (some false) else ((Xj r45.1 1).bind fun r99=>(WD (⟨r99.1.Keys,r45.1.Next,r99.1.Records,r99.1.Events,r45.1.Head⟩ : GVault) 1).bind fun r101=>if (decide (r101 < 0)) = true then (some false) else (if (r101 != r99.2) = true then (some false) else ((X3 p0).bind fun r106=>(Xb p1).bind fun r112=>(Wx r106 r112).bind fun r114=>((XX r114.1 r17.1).bind fun r135=>if (!r135) = true then (some true) else (some (r114.2 != r17.2)) : Option (Bool)).bind fun j132=>if j132 = true then (some false) else ((WD (⟨r99.1.Keys,r45.1.Next,r99.1.Records,r99.1.Events,r45.1.Head⟩ : GVault) 1).bind fun r141=>if (decide (r141 < 0)) = true then (some false) else (if (r141 != r99.2) = true then (some false) else (some true)))))))))
theorem QQ (w0 : World) (p0 : GVault) (v0_1 : Value) (hv0_1 : Ro w0 p0.Keys [v0_1]) (v0_2 : Value) (hv0_2 : Ro w0 p0.Records [v0_2]) (v0_3 : Value) (hv0_3 : Ro w0 p0.Events [v0_3]) (p1 : (Vector UInt8 16)) (r : Bool) (hF : Wd p0 p1 = some r) :
  Calls Tryz.prog 7 [(Value.agg (cat [[v0_1],[vI p0.Next],[v0_2],[v0_3],enc p0.Head]).toArray),(Value.agg (enc p1).toArray)].toArray w0 (fun en w'=>∃ v,en = .returned v ∧ (v = (vT r) ∧ Kept (Old w0) w0 w')):=by
 refine ZD (n:=104) Tryz.func7 rfl rfl (nbl rfl) rfl ?_
 intro a hE
 have hM:=M.start w0
 unfold Wd at hF
 refine Zc (ZY (cs:=cat [[v0_1],[vI p0.Next],[v0_2],[v0_3],enc p0.Head]) hE hM Za ld rfl rfl fun b1 w a hM hE=>ZY (cs:=enc p1) hE hM Za ld rfl rfl fun b3 w a hM hE=>Ze hE Za ld rfl fun a hE=>Zf (Zc (Ze hE Za ld rfl fun a hE=>Zf (Zc (Zm (cs:=cat [[v0_1],[vI p0.Next],[v0_2],[v0_3],enc p0.Head]) hE Za ld rfl Am rfl (hM.rawAt (pre:=[_])) (Zh (cl1 (n:=1) (m:=35) rfl (cl1 (n:=1) (m:=34) rfl (cl1 (n:=1) (m:=33) rfl (cl1 (n:=1) (m:=32) rfl (cl1 (n:=32) (m:=0) (Flat.len _) cl0)))))) fun a hE=>Zd hE Za ld rfl ?_))))); intro a hE
 obtain ⟨r5,e6,hF⟩:=bind_some hF
 refine Zt hE Za ld rfl cb12 (Bl _ p0 v0_1 (hM.rdo hv0_1) v0_2 (hM.rdo hv0_2) v0_3 (hM.rdo hv0_3) 1048576 r5 e6) ?_
 rintro v w a ⟨rfl,hK⟩ hE
 have hM:=hM.keep hK
 refine Ze hE Za ld rfl fun a hE=>Zf (wp_seq (Zc (Zd hE Za ld rfl fun a hE=>Zi hE Za ld rfl rfl rfl fun a hE=>Zf ?_)))
 refine Zs hE rfl ?_ ?_
 ·intro hb7
  have hF:=ZA hF hb7
  refine Zc (Ze hE Za ld rfl fun a hE=>Zf ?_)
  have hr:=Option.some.inj hF
  subst hr
  have hM:=M.fst (l:=[]) hM
  exact wp_ret (Zx (Zy hE rfl (Zu hE rfl) ⟨_,rfl,rfl,hM.kept⟩))
 ·intro hb7
  have hF:=ZB hF hb7
  refine wp_skip (Zz (wp_seq ?_))
  obtain ⟨r9,e10,hF⟩:=bind_some hF
  obtain ⟨r15,e16,hF⟩:=bind_some hF
  obtain ⟨r17,e18,hF⟩:=bind_some hF
  refine Ub (n:=104) (hd:=[_,_,_,_,_,_,_,_,_,_]) (tl:=[_]) Y0 rfl rfl [22,23,24,25,26,21,27,28,6,113] (by decide) (fun D u w=>M (Old w0) w0 w ([raw b3 (enc p1),raw b1 (cat [[v0_1],[vI p0.Next],[v0_2],[v0_3],enc p0.Head])] ++ qL ([mkO 1 (fun v=>own NoB r9 (Value.cells v).toList),mkO 4 (fun v=>own NoB r17.1 (Value.cells (ZN v 0)).toList),mkD 8 9 4 (cat [[(Value.slice none 0 0)],[vI 0],[(Value.slice none 0 0)],[(Value.slice none 0 0)],enc (Vector.replicate 32 (0 : UInt8))]) (fun v=>(Value.cells (ZN v 0)).toList)] : Mk) D u) ∧ GOk ([([],fun us v=>v = (Value.agg (cat [[v0_1],[vI p0.Next],[v0_2],[v0_3],enc p0.Head]).toArray)),([],fun us v=>∃ cs,v = .agg cs),([],fun us v=>v = (Value.agg (enc p1).toArray)),([],fun us v=>v = (Value.agg (enc r15).toArray)),([],fun us v=>v = (Value.tuple [(ZN v 0),vI r17.2].toArray) ∧ ∃ cs,(ZN v 0) = .agg cs),([4],fun us v=>v = (Value.tuple [(ZN (us.getD 0 undef) 0),vI r17.2].toArray)),([4],fun us v=>v = (ZN (us.getD 0 undef) 0)),([],fun us v=>v = (vI r17.2)),([],fun us v=>True),([],fun us v=>True)] : Gs) D u) hE (fun u=>⟨M.qE (M.qE (M.qE (M.q0 hM.drew u) emD) emO) emO,Jg⟩) (ZK (Zb ?_ (Zb ?_ (Zb ?_ (Zb ?_ (Zb ?_ (Zb ?_ (Zb ?_ (Zb ?_ (Zb ?_ (Zb ?_ ZF))))))))))) ?_
  ·intro a w ux8 D hE hI hD hdc hp
   have hM0:=hI.1
   have hM:=hI.1
   exact Zm (cs:=cat [[v0_1],[vI p0.Next],[v0_2],[v0_3],enc p0.Head]) hE Za ld rfl Am rfl (hM.rawAt (pre:=[_])) (Zh (cl1 (n:=1) (m:=35) rfl (cl1 (n:=1) (m:=34) rfl (cl1 (n:=1) (m:=33) rfl (cl1 (n:=1) (m:=32) rfl (cl1 (n:=32) (m:=0) (Flat.len _) cl0)))))) fun a hE=>⟨_,_,rfl,hE,M.qKeep hM0 rfl,hI.2.put hD rfl ZQ rfl⟩
  ·intro a w ux8 D hE hI hD hdc hp
   have d0 : D 0 = true:=hp 0 _ rfl rfl
   have g0:=hI.2 0 d0 _ rfl
   have f0 : ux8 0 = (Value.agg (cat [[v0_1],[vI p0.Next],[v0_2],[v0_3],enc p0.Head]).toArray):=g0.2
   have hM0:=hI.1
   have hM:=hI.1
   refine Zt hE Za ld (ZV (ZT (lk rfl f0) YZ)) cb14 (TK _ p0 v0_1 (hM.rdo hv0_1) v0_2 (hM.rdo hv0_2) v0_3 (hM.rdo hv0_3) r9 e10) ?_
   rintro _ w a ⟨u11,u12,u13,rfl,hFr,hK⟩ hE
   have hM:=(((hM0.add hK hFr).pull (pre:=[_,_])).pull (pre:=[_,_])).pull (pre:=[_,_])
   have hM:=hM.packL (m:=[osl NoB (r9.Keys : List (Vector UInt8 16)) u11,osl NoB (r9.Records : List GRecord) u12,osl NoB (r9.Events : List GEvent) u13]) (it:=own NoB r9 (cat [[u11],[vI r9.Next],[u12],[u13],enc r9.Head])) (Yc noB) (fun fp h=>by obtain ⟨_,_,rfl,_,s1,_,_,rfl,_,s2,_,_,rfl,_,s3,rfl⟩:=h; exact TT (YG.sat s1) (YG.sat s2) (YG.sat s3) (by simp))
   exact ⟨_,_,rfl,hE,M.qFill (mk1:=[]) (mk2:=[_,_]) (f:=(fun v=>own NoB r9 (Value.cells v).toList)) hM rfl hD,hI.2.put hD rfl ZQ ⟨_,rfl⟩⟩
  ·intro a w ux8 D hE hI hD hdc hp
   have hM0:=hI.1
   have hM:=hI.1
   exact Zm (cs:=enc p1) hE Za ld rfl yu rfl (hM.rawAt (pre:=[])) (Flat.len _) fun a hE=>⟨_,_,rfl,hE,M.qKeep hM0 rfl,hI.2.put hD rfl ZQ rfl⟩
  ·intro a w ux8 D hE hI hD hdc hp
   have d2 : D 2 = true:=hp 0 _ rfl rfl
   have g2:=hI.2 2 d2 _ rfl
   have f2 : ux8 2 = (Value.agg (enc p1).toArray):=g2.2
   have hM0:=hI.1
   refine Zt hE Za ld (ZV (ZT (lk rfl f2) YZ)) cb36 (UN _ p1 r15 e16) ?_
   rintro v w a ⟨rfl,hK⟩ hE
   exact ⟨_,_,rfl,hE,M.qKeep (hM0.keep hK) rfl,hI.2.put hD rfl ZQ rfl⟩
  ·intro a w ux8 D hE hI hD hdc hp
   have d1 : D 1 = true:=hp 0 _ rfl rfl
   have g1:=hI.2 1 d1 _ rfl
   have d3 : D 3 = true:=hp 1 _ rfl rfl
   have g3:=hI.2 3 d3 _ rfl
   have f3 : ux8 3 = (Value.agg (enc r15).toArray):=g3.2
   have hM0:=hI.1
   have hM : M (Old w0) w0 w [raw b3 (enc p1),raw b1 (cat [[v0_1],[vI p0.Next],[v0_2],[v0_3],enc p0.Head]),opt (D 1) (own NoB r9 (Value.cells (ux8 1)).toList),opt (D 4) (own NoB r17.1 (Value.cells (ZN (ux8 4) 0)).toList),T3 (D 8) (D 9) (ux8 8) (cat [[(Value.slice none 0 0)],[vI 0],[(Value.slice none 0 0)],[(Value.slice none 0 0)],enc (Vector.replicate 32 (0 : UInt8))]) ((Value.cells (ZN (ux8 4) 0)).toList)]:=hI.1
   have hM:=hM.sure (pre:=[_,_]) d1
   obtain ⟨q8_1_0_1,q8_1_0_2,q8_1_0_3,hcz,hq8_1_0_1,hq8_1_0_2,hq8_1_0_3⟩:=Vc (hM.ro (pre:=[_,_]) noB)
   obtain ⟨cz,hvz⟩:=(hI.2 1 (by assumption) _ rfl).2
   have qK14 : (ux8 1) = (Value.agg (cat [[q8_1_0_1],[vI r9.Next],[q8_1_0_2],[q8_1_0_3],enc r9.Head]).toArray):=by rw [hvz] at hcz ⊢; exact congrArg Value.agg (W8 hcz)
   refine Zt hE Za ld (ZV (ZT (lk rfl qK14) (ZT (lk rfl f3) YZ))) cb35 (J6 _ r9 q8_1_0_1 hq8_1_0_1 q8_1_0_2 hq8_1_0_2 q8_1_0_3 hq8_1_0_3 r15 r17 e18) ?_
   rintro _ w a ⟨u19,u20,u21,rfl,hFr,hK⟩ hE
   have hM:=(((hM0.add hK hFr).pull (pre:=[_,_])).pull (pre:=[_,_])).pull (pre:=[_,_])
   have hM:=hM.packL (m:=[osl NoB (r17.1.Keys : List (Vector UInt8 16)) u19,osl NoB (r17.1.Records : List GRecord) u20,osl NoB (r17.1.Events : List GEvent) u21]) (it:=own NoB r17.1 (cat [[u19],[vI r17.1.Next],[u20],[u21],enc r17.1.Head])) (Yc noB) (fun fp h=>by obtain ⟨_,_,rfl,_,s1,_,_,rfl,_,s2,_,_,rfl,_,s3,rfl⟩:=h; exact TT (YG.sat s1) (YG.sat s2) (YG.sat s3) (by simp))
   have hsD : D 9 = false:=Bool.eq_false_iff.2 fun hx=>Bool.noConfusion (hD.symm.trans (hdc 9 _ _ rfl (List.mem_of_getElem? (i:=2) rfl) rfl hx))
   have hM:=M.dOff (its:=_ :: [raw b3 (enc p1),raw b1 (cat [[v0_1],[vI p0.Next],[v0_2],[v0_3],enc p0.Head])]) (mk1:=([mkO 1 (fun v=>own NoB r9 (Value.cells v).toList),mkO 4 (fun v=>own NoB r17.1 (Value.cells (ZN v 0)).toList)] : Mk)) (mk2:=([] : Mk)) (i:=8) (s:=9) (k:=4) (z:=cat [[(Value.slice none 0 0)],[vI 0],[(Value.slice none 0 0)],[(Value.slice none 0 0)],enc (Vector.replicate 32 (0 : UInt8))]) (f:=(fun v=>(Value.cells (ZN v 0)).toList)) hM hsD
   exact ⟨_,_,rfl,hE,M.dOn (its:=[raw b3 (enc p1),raw b1 (cat [[v0_1],[vI p0.Next],[v0_2],[v0_3],enc p0.Head])]) (mk1:=([mkO 1 (fun v=>own NoB r9 (Value.cells v).toList),mkO 4 (fun v=>own NoB r17.1 (Value.cells (ZN v 0)).toList)] : Mk)) (mk2:=([] : Mk)) (i:=8) (s:=9) (k:=4) (z:=cat [[(Value.slice none 0 0)],[vI 0],[(Value.slice none 0 0)],[(Value.slice none 0 0)],enc (Vector.replicate 32 (0 : UInt8))]) (f:=(fun v=>(Value.cells (ZN v 0)).toList)) (M.qFill (its:=[raw b3 (enc p1),raw b1 (cat [[v0_1],[vI p0.Next],[v0_2],[v0_3],enc p0.Head])]) (mk1:=[_]) (mk2:=[_]) (f:=(fun v=>own NoB r17.1 (Value.cells (ZN v 0)).toList)) hM rfl hD) hsD (by decide),hI.2.put hD rfl ZQ ⟨rfl,⟨_,rfl⟩⟩⟩
  ·intro a w ux8 D hE hI hD hdc hp
   have d4 : D 4 = true:=hp 0 _ rfl rfl
   have g4:=hI.2 4 d4 _ rfl
   have f4 : ux8 4 = (Value.tuple [(ZN (ux8 4) 0),vI r17.2].toArray):=g4.2.1
   have hM0:=hI.1
   exact Zd hE Za ld (lk rfl f4) fun a hE=>⟨_,_,rfl,hE,M.qKeep hM0 rfl,hI.2.put hD rfl (HK d4 ZQ) rfl⟩
  ·intro a w ux8 D hE hI hD hdc hp
   have d5 : D 5 = true:=hp 0 _ rfl rfl
   have g5:=hI.2 5 d5 _ rfl
   have d4 : D 4 = true:=g5.1 4 (show 4 ∈ [4] by decide)
   have f5 : ux8 5 = (Value.tuple [(ZN (ux8 4) 0),vI r17.2].toArray):=g5.2
   have hM0:=hI.1
   exact Uz hE Za ld (lk rfl f5) rfl fun a hE=>⟨_,_,rfl,hE,M.qKeep hM0 rfl,hI.2.put hD rfl (HK d4 ZQ) rfl⟩
  ·intro a w ux8 D hE hI hD hdc hp
   have d5 : D 5 = true:=hp 0 _ rfl rfl
   have g5:=hI.2 5 d5 _ rfl
   have d4 : D 4 = true:=g5.1 4 (show 4 ∈ [4] by decide)
   have f5 : ux8 5 = (Value.tuple [(ZN (ux8 4) 0),vI r17.2].toArray):=g5.2
   have hM0:=hI.1
   exact Uz hE Za ld (lk rfl f5) rfl fun a hE=>⟨_,_,rfl,hE,M.qKeep hM0 rfl,hI.2.put hD rfl ZQ rfl⟩
  ·intro a w ux8 D hE hI hD hdc hp
   have hM0:=hI.1
   have hM:=hI.1
   refine ZE hE hM Za ld Yx ?_; intro b23 w a hM hE
   have hs : D 9 = false:=Bool.eq_false_iff.2 fun hx=>Bool.noConfusion (hD.symm.trans (hdc 9 _ _ rfl (List.mem_of_getElem? (i:=0) rfl) rfl hx))
   exact ⟨_,_,rfl,hE,M.qAllocD (mk1:=[_,_]) (mk2:=[]) hM rfl hD hs (by decide),hI.2.put hD rfl ZQ trivial⟩
  ·intro a w ux8 D hE hI hD hdc hp
   have d8 : D 8 = true:=hp 0 _ rfl rfl
   have d6 : D 6 = true:=hp 1 _ rfl rfl
   have g6:=hI.2 6 d6 _ rfl
   have d4 : D 4 = true:=g6.1 4 (show 4 ∈ [4] by decide)
   have f6 : ux8 6 = (ZN (ux8 4) 0):=g6.2
   have hM0:=hI.1
   have hM : M (Old w0) w0 w [raw b3 (enc p1),raw b1 (cat [[v0_1],[vI p0.Next],[v0_2],[v0_3],enc p0.Head]),opt (D 1) (own NoB r9 (Value.cells (ux8 1)).toList),opt (D 4) (own NoB r17.1 (Value.cells (ZN (ux8 4) 0)).toList),T3 (D 8) (D 9) (ux8 8) (cat [[(Value.slice none 0 0)],[vI 0],[(Value.slice none 0 0)],[(Value.slice none 0 0)],enc (Vector.replicate 32 (0 : UInt8))]) ((Value.cells (ZN (ux8 4) 0)).toList)]:=hI.1
   have hM:=hM.sure (pre:=[_,_,_]) d4
   obtain ⟨q8_4_0_1,q8_4_0_2,q8_4_0_3,hcz,hq8_4_0_1,hq8_4_0_2,hq8_4_0_3⟩:=Vc (hM.ro (pre:=[_,_,_]) noB)
   obtain ⟨cz,hvz⟩:=(hI.2 4 (by assumption) _ rfl).2.2
   have qK22 : (ZN (ux8 4) 0) = (Value.agg (cat [[q8_4_0_1],[vI r17.1.Next],[q8_4_0_2],[q8_4_0_3],enc r17.1.Head]).toArray):=by rw [hvz] at hcz ⊢; exact congrArg Value.agg (W8 hcz)
   obtain ⟨b25,hb26,hM⟩:=M.openCell (pre:=[_,_,_,_]) hM d8
   rw [hD,if_neg (by decide)] at hM
   refine Zo (seg:=cat [[q8_4_0_1],[vI r17.1.Next],[q8_4_0_2],[q8_4_0_3],enc r17.1.Head]) (cs':=cat [[q8_4_0_1],[vI r17.1.Next],[q8_4_0_2],[q8_4_0_3],enc r17.1.Head]) hE hM Za (lk rfl hb26) (lk rfl (f6.trans qK22)) rfl Yx (Zh (cl1 (n:=1) (m:=35) rfl (cl1 (n:=1) (m:=34) rfl (cl1 (n:=1) (m:=33) rfl (cl1 (n:=1) (m:=32) rfl (cl1 (n:=32) (m:=0) (Flat.len _) cl0)))))) (Nat.le_of_eq ((Nat.zero_add _).trans (Eq.trans (Zh (cl1 (n:=1) (m:=35) rfl (cl1 (n:=1) (m:=34) rfl (cl1 (n:=1) (m:=33) rfl (cl1 (n:=1) (m:=32) rfl (cl1 (n:=32) (m:=0) (Flat.len _) cl0)))))) (Eq.symm (Zh (cl1 (n:=1) (m:=35) rfl (cl1 (n:=1) (m:=34) rfl (cl1 (n:=1) (m:=33) rfl (cl1 (n:=1) (m:=32) rfl (cl1 (n:=32) (m:=0) (Flat.len _) cl0)))))))))) (Z5 (cc1 (Rep.cell hq8_4_0_1) (cc1 (Flat.cell (r17.1.Next : Int)) (cc1 (Rep.cell hq8_4_0_2) (cc1 (Rep.cell hq8_4_0_3) (cc1 (Flat.cell _) cc0)))))) (Zl (Eq.trans (Zh (cl1 (n:=1) (m:=35) rfl (cl1 (n:=1) (m:=34) rfl (cl1 (n:=1) (m:=33) rfl (cl1 (n:=1) (m:=32) rfl (cl1 (n:=32) (m:=0) (Flat.len _) cl0)))))) (Eq.symm (Zh (cl1 (n:=1) (m:=35) rfl (cl1 (n:=1) (m:=34) rfl (cl1 (n:=1) (m:=33) rfl (cl1 (n:=1) (m:=32) rfl (cl1 (n:=32) (m:=0) (Flat.len _) cl0))))))))) ?_; intro w a hM hE
   have hM:=(M.recell hM (show _ = (Value.cells (ZN (ux8 4) 0)).toList from by rw [qK22]; rfl)).unsure (pre:=[_,_,_,_]) d4
   exact ⟨undef,_,rfl,Env.dummy hE (by decide),M.qStoreD (its:=[raw b3 (enc p1),raw b1 (cat [[v0_1],[vI p0.Next],[v0_2],[v0_3],enc p0.Head])]) (mk1:=[_,_]) (mk2:=[]) (i:=8) (s:=9) (k:=4) (z:=cat [[(Value.slice none 0 0)],[vI 0],[(Value.slice none 0 0)],[(Value.slice none 0 0)],enc (Vector.replicate 32 (0 : UInt8))]) (f:=(fun v=>(Value.cells (ZN v 0)).toList)) hM rfl d8 hb26 (by decide) (by decide),hI.2.put hD rfl ZQ trivial⟩
  ·intro a w ux8 D hE hI hall
   have hM : M (Old w0) w0 w [raw b3 (enc p1),raw b1 (cat [[v0_1],[vI p0.Next],[v0_2],[v0_3],enc p0.Head]),opt (D 1) (own NoB r9 (Value.cells (ux8 1)).toList),opt (D 4) (own NoB r17.1 (Value.cells (ZN (ux8 4) 0)).toList),T3 (D 8) (D 9) (ux8 8) (cat [[(Value.slice none 0 0)],[vI 0],[(Value.slice none 0 0)],[(Value.slice none 0 0)],enc (Vector.replicate 32 (0 : UInt8))]) ((Value.cells (ZN (ux8 4) 0)).toList)]:=hI.1
   have d0 : D 0 = true:=hall 0 (by decide)
   have d1 : D 1 = true:=hall 1 (by decide)
   have d2 : D 2 = true:=hall 2 (by decide)
   have d3 : D 3 = true:=hall 3 (by decide)
   have d4 : D 4 = true:=hall 4 (by decide)
   have d5 : D 5 = true:=hall 5 (by decide)
   have d6 : D 6 = true:=hall 6 (by decide)
   have d7 : D 7 = true:=hall 7 (by decide)
   have d8 : D 8 = true:=hall 8 (by decide)
   have d9 : D 9 = true:=hall 9 (by decide)
   have f0 : ux8 0 = (Value.agg (cat [[v0_1],[vI p0.Next],[v0_2],[v0_3],enc p0.Head]).toArray):=(hI.2 0 d0 _ rfl).2
   have f2 : ux8 2 = (Value.agg (enc p1).toArray):=(hI.2 2 d2 _ rfl).2
   have f3 : ux8 3 = (Value.agg (enc r15).toArray):=(hI.2 3 d3 _ rfl).2
   have f4 : ux8 4 = (Value.tuple [(ZN (ux8 4) 0),vI r17.2].toArray):=(hI.2 4 d4 _ rfl).2.1
   have f5 : ux8 5 = (Value.tuple [(ZN (ux8 4) 0),vI r17.2].toArray):=(hI.2 5 d5 _ rfl).2
   have f6 : ux8 6 = (ZN (ux8 4) 0):=(hI.2 6 d6 _ rfl).2
   have f7 : ux8 7 = (vI r17.2):=(hI.2 7 d7 _ rfl).2
   have hM:=(hM.sure (pre:=[_,_]) d1).sure (pre:=[_,_,_]) d4
   obtain ⟨b27,f28,hM⟩:=M.openCell (pre:=[_,_,_,_]) hM d8
   rw [if_pos d9] at hM
   obtain ⟨q8_1_0_1,q8_1_0_2,q8_1_0_3,hcz,_,_,_⟩:=Vc (hM.ro (pre:=[_,_,_]) noB)
   obtain ⟨cz,hvz⟩:=(hI.2 1 d1 _ rfl).2
   have qK14 : (ux8 1) = (Value.agg (cat [[q8_1_0_1],[vI r9.Next],[q8_1_0_2],[q8_1_0_3],enc r9.Head]).toArray):=by rw [hvz] at hcz ⊢; exact congrArg Value.agg (W8 hcz)
   have hM:=hM.pull (pre:=[_,_,_])
   rw [qK14] at hM
   have hM:=hM.unpackL (m:=[own NoB (r9.Keys : (List (Vector UInt8 16))) [q8_1_0_1],own NoB (r9.Records : (List GRecord)) [q8_1_0_2],own NoB (r9.Events : (List GEvent)) [q8_1_0_3]]) (fun fp h=>by obtain ⟨_,_,_,rfl,s1,s2,s3⟩:=TX h; exact (YK.cons (Yc noB) s1 (YK.cons (Yc noB) s2 (YK.one (Yc noB) s3))))
   simp only [List.cons_append,List.nil_append] at hM
   obtain ⟨q8_4_0_1,q8_4_0_2,q8_4_0_3,hcz,_,_,_⟩:=Vc (hM.ro (pre:=[_,_,_,_,_,_]) noB)
   obtain ⟨cz,hvz⟩:=(hI.2 4 d4 _ rfl).2.2
   have qK22 : (ZN (ux8 4) 0) = (Value.agg (cat [[q8_4_0_1],[vI r17.1.Next],[q8_4_0_2],[q8_4_0_3],enc r17.1.Head]).toArray):=by rw [hvz] at hcz ⊢; exact congrArg Value.agg (W8 hcz)
   have hM:=hM.pull (pre:=[_,_,_,_,_,_])
   rw [qK22] at hM
   have hM:=hM.unpackL (m:=[own NoB (r17.1.Keys : (List (Vector UInt8 16))) [q8_4_0_1],own NoB (r17.1.Records : (List GRecord)) [q8_4_0_2],own NoB (r17.1.Events : (List GEvent)) [q8_4_0_3]]) (fun fp h=>by obtain ⟨_,_,_,rfl,s1,s2,s3⟩:=TX h; exact (YK.cons (Yc noB) s1 (YK.cons (Yc noB) s2 (YK.one (Yc noB) s3))))
   simp only [List.cons_append,List.nil_append] at hM
   have hM:=M.recell (c':=cat [[q8_4_0_1],[vI r17.1.Next],[q8_4_0_2],[q8_4_0_3],enc r17.1.Head]) (hM.pull (pre:=[_,_,_,_,_,_])) rfl
   have hE:=hE.sub (e':=[(23,(Value.agg (cat [[q8_1_0_1],[vI r9.Next],[q8_1_0_2],[q8_1_0_3],enc r9.Head]).toArray)),(27,(Value.agg (cat [[q8_4_0_1],[vI r17.1.Next],[q8_4_0_2],[q8_4_0_3],enc r17.1.Head]).toArray)),(28,vI r17.2),(6,(ptr b27 0)),(2,(ptr b1 0)),(3,(ptr b3 0)),(4,vT false)]) ⟨lk rfl qK14,lk rfl (f6.trans qK22),lk rfl f7,lk rfl f28,rfl,rfl,rfl,trivial⟩
   refine Ze hE Za ld rfl fun a hE=>Zj (Zz (Zc (Zm (cs:=cat [[v0_1],[vI p0.Next],[v0_2],[v0_3],enc p0.Head]) hE Za ld rfl Am rfl (hM.rawAt (pre:=[_,_,_,_,_,_,_,_])) (Zh (cl1 (n:=1) (m:=35) rfl (cl1 (n:=1) (m:=34) rfl (cl1 (n:=1) (m:=33) rfl (cl1 (n:=1) (m:=32) rfl (cl1 (n:=32) (m:=0) (Flat.len _) cl0)))))) ?_))); intro a hE
   obtain ⟨r35,e36,hF⟩:=bind_some hF
   refine Zt hE Za ld rfl cb14 (TK _ p0 v0_1 (hM.rdo hv0_1) v0_2 (hM.rdo hv0_2) v0_3 (hM.rdo hv0_3) r35 e36) ?_
   rintro v w a ⟨u37,u38,u39,rfl,hFr,hK⟩ hE
   have hM:=hM.add hK hFr
   refine ZE hE hM Za ld Yx fun b40 w a hM hE=>Zo (seg:=cat [[u37],[vI r35.Next],[u38],[u39],enc r35.Head]) (cs':=cat [[u37],[vI r35.Next],[u38],[u39],enc r35.Head]) hE hM Za rfl rfl rfl Yx (Zh (cl1 (n:=1) (m:=35) rfl (cl1 (n:=1) (m:=34) rfl (cl1 (n:=1) (m:=33) rfl (cl1 (n:=1) (m:=32) rfl (cl1 (n:=32) (m:=0) (Flat.len _) cl0)))))) (Nat.le_of_eq ((Nat.zero_add _).trans (Eq.trans (Zh (cl1 (n:=1) (m:=35) rfl (cl1 (n:=1) (m:=34) rfl (cl1 (n:=1) (m:=33) rfl (cl1 (n:=1) (m:=32) rfl (cl1 (n:=32) (m:=0) (Flat.len _) cl0)))))) (Eq.symm (Zh (cl1 (n:=1) (m:=35) rfl (cl1 (n:=1) (m:=34) rfl (cl1 (n:=1) (m:=33) rfl (cl1 (n:=1) (m:=32) rfl (cl1 (n:=32) (m:=0) (Flat.len _) cl0)))))))))) (Z5 (cc1 (Rep.cell (hM.sl (pre:=[_]) noB)) (cc1 (Flat.cell (r35.Next : Int)) (cc1 (Rep.cell (hM.sl (pre:=[_,_]) noB)) (cc1 (Rep.cell (hM.sl (pre:=[_,_,_]) noB)) (cc1 (Flat.cell _) cc0)))))) (Zl (Eq.trans (Zh (cl1 (n:=1) (m:=35) rfl (cl1 (n:=1) (m:=34) rfl (cl1 (n:=1) (m:=33) rfl (cl1 (n:=1) (m:=32) rfl (cl1 (n:=32) (m:=0) (Flat.len _) cl0)))))) (Eq.symm (Zh (cl1 (n:=1) (m:=35) rfl (cl1 (n:=1) (m:=34) rfl (cl1 (n:=1) (m:=33) rfl (cl1 (n:=1) (m:=32) rfl (cl1 (n:=32) (m:=0) (Flat.len _) cl0))))))))) fun w a hM hE=>Zf (wp_seq ?_)
   obtain ⟨r43,e44,hF⟩:=bind_some hF
   obtain ⟨r45,e46,hF⟩:=bind_some hF
   refine Ub (n:=104) (hd:=[_,_,_,_,_,_,_,_,_]) (tl:=[_]) Y0 rfl rfl [32,33,34,35,31,36,37,9,112] (by decide) (fun D u w=>M (Old w0) w0 w ([raw b40 (cat [[u37],[vI r35.Next],[u38],[u39],enc r35.Head]),osl NoB (r35.Keys : List (Vector UInt8 16)) u37,osl NoB (r35.Records : List GRecord) u38,osl NoB (r35.Events : List GEvent) u39,raw b27 (cat [[q8_4_0_1],[vI r17.1.Next],[q8_4_0_2],[q8_4_0_3],enc r17.1.Head]),own NoB (r17.1.Keys : (List (Vector UInt8 16))) [q8_4_0_1],own NoB (r17.1.Records : (List GRecord)) [q8_4_0_2],own NoB (r17.1.Events : (List GEvent)) [q8_4_0_3],own NoB (r9.Keys : (List (Vector UInt8 16))) [q8_1_0_1],own NoB (r9.Records : (List GRecord)) [q8_1_0_2],own NoB (r9.Events : (List GEvent)) [q8_1_0_3],raw b3 (enc p1),raw b1 (cat [[v0_1],[vI p0.Next],[v0_2],[v0_3],enc p0.Head])] ++ qL ([mkO 3 (fun v=>own NoB r45.1 (Value.cells (ZN v 0)).toList),mkD 7 8 3 (cat [[(Value.slice none 0 0)],[vI 0],[(Value.slice none 0 0)],[(Value.slice none 0 0)],enc (Vector.replicate 32 (0 : UInt8))]) (fun v=>(Value.cells (ZN v 0)).toList)] : Mk) D u) ∧ GOk ([([],fun us v=>v = (Value.agg (cat [[u37],[vI r35.Next],[u38],[u39],enc r35.Head]).toArray)),([],fun us v=>v = (Value.agg (enc p1).toArray)),([],fun us v=>v = (Value.agg (enc r43).toArray)),([],fun us v=>v = (Value.tuple [(ZN v 0),vI r45.2].toArray) ∧ ∃ cs,(ZN v 0) = .agg cs),([3],fun us v=>v = (Value.tuple [(ZN (us.getD 0 undef) 0),vI r45.2].toArray)),([3],fun us v=>v = (ZN (us.getD 0 undef) 0)),([],fun us v=>v = (vI r45.2)),([],fun us v=>True),([],fun us v=>True)] : Gs) D u) hE (fun u=>⟨M.qE (M.qE (M.q0 hM.drew u) emD) emO,Jg⟩) (ZK (Zb ?_ (Zb ?_ (Zb ?_ (Zb ?_ (Zb ?_ (Zb ?_ (Zb ?_ (Zb ?_ (Zb ?_ ZF)))))))))) ?_
   ·intro a w ux42 D hE hI hD hdc hp
    have hM0:=hI.1
    have hM:=hI.1
    exact Zm (cs:=cat [[u37],[vI r35.Next],[u38],[u39],enc r35.Head]) hE Za ld rfl Yx rfl (hM.rawAt (pre:=[])) (Zh (cl1 (n:=1) (m:=35) rfl (cl1 (n:=1) (m:=34) rfl (cl1 (n:=1) (m:=33) rfl (cl1 (n:=1) (m:=32) rfl (cl1 (n:=32) (m:=0) (Flat.len _) cl0)))))) fun a hE=>⟨_,_,rfl,hE,M.qKeep hM0 rfl,hI.2.put hD rfl ZQ rfl⟩
   ·intro a w ux42 D hE hI hD hdc hp
    have hM0:=hI.1
    have hM:=hI.1
    exact Zm (cs:=enc p1) hE Za ld rfl yu rfl (hM.rawAt (pre:=[_,_,_,_,_,_,_,_,_,_,_])) (Flat.len _) fun a hE=>⟨_,_,rfl,hE,M.qKeep hM0 rfl,hI.2.put hD rfl ZQ rfl⟩
   ·intro a w ux42 D hE hI hD hdc hp
    have d1 : D 1 = true:=hp 0 _ rfl rfl
    have g1:=hI.2 1 d1 _ rfl
    have f1 : ux42 1 = (Value.agg (enc p1).toArray):=g1.2
    have hM0:=hI.1
    refine Zt hE Za ld (ZV (ZT (lk rfl f1) YZ)) cb36 (UN _ p1 r43 e44) ?_
    rintro v w a ⟨rfl,hK⟩ hE
    exact ⟨_,_,rfl,hE,M.qKeep (hM0.keep hK) rfl,hI.2.put hD rfl ZQ rfl⟩
   ·intro a w ux42 D hE hI hD hdc hp
    have d0 : D 0 = true:=hp 0 _ rfl rfl
    have g0:=hI.2 0 d0 _ rfl
    have f0 : ux42 0 = (Value.agg (cat [[u37],[vI r35.Next],[u38],[u39],enc r35.Head]).toArray):=g0.2
    have d2 : D 2 = true:=hp 1 _ rfl rfl
    have g2:=hI.2 2 d2 _ rfl
    have f2 : ux42 2 = (Value.agg (enc r43).toArray):=g2.2
    have hM0:=hI.1
    have hM:=hI.1
    refine Zt hE Za ld (ZV (ZT (lk rfl f0) (ZT (lk rfl f2) YZ))) cb37 (QN _ r35 u37 (hM.sl (pre:=[_]) noB) u38 (hM.sl (pre:=[_,_]) noB) u39 (hM.sl (pre:=[_,_,_]) noB) r43 r45 e46) ?_
    rintro _ w a ⟨u47,u48,u49,rfl,hFr,hK⟩ hE
    have hM:=(((hM0.add hK hFr).pull (pre:=[_,_])).pull (pre:=[_,_])).pull (pre:=[_,_])
    have hM:=hM.packL (m:=[osl NoB (r45.1.Keys : List (Vector UInt8 16)) u47,osl NoB (r45.1.Records : List GRecord) u48,osl NoB (r45.1.Events : List GEvent) u49]) (it:=own NoB r45.1 (cat [[u47],[vI r45.1.Next],[u48],[u49],enc r45.1.Head])) (Yc noB) (fun fp h=>by obtain ⟨_,_,rfl,_,s1,_,_,rfl,_,s2,_,_,rfl,_,s3,rfl⟩:=h; exact TT (YG.sat s1) (YG.sat s2) (YG.sat s3) (by simp))
    have hsD : D 8 = false:=Bool.eq_false_iff.2 fun hx=>Bool.noConfusion (hD.symm.trans (hdc 8 _ _ rfl (List.mem_of_getElem? (i:=2) rfl) rfl hx))
    have hM:=M.dOff (its:=_ :: [raw b40 (cat [[u37],[vI r35.Next],[u38],[u39],enc r35.Head]),osl NoB (r35.Keys : List (Vector UInt8 16)) u37,osl NoB (r35.Records : List GRecord) u38,osl NoB (r35.Events : List GEvent) u39,raw b27 (cat [[q8_4_0_1],[vI r17.1.Next],[q8_4_0_2],[q8_4_0_3],enc r17.1.Head]),own NoB (r17.1.Keys : (List (Vector UInt8 16))) [q8_4_0_1],own NoB (r17.1.Records : (List GRecord)) [q8_4_0_2],own NoB (r17.1.Events : (List GEvent)) [q8_4_0_3],own NoB (r9.Keys : (List (Vector UInt8 16))) [q8_1_0_1],own NoB (r9.Records : (List GRecord)) [q8_1_0_2],own NoB (r9.Events : (List GEvent)) [q8_1_0_3],raw b3 (enc p1),raw b1 (cat [[v0_1],[vI p0.Next],[v0_2],[v0_3],enc p0.Head])]) (mk1:=([mkO 3 (fun v=>own NoB r45.1 (Value.cells (ZN v 0)).toList)] : Mk)) (mk2:=([] : Mk)) (i:=7) (s:=8) (k:=3) (z:=cat [[(Value.slice none 0 0)],[vI 0],[(Value.slice none 0 0)],[(Value.slice none 0 0)],enc (Vector.replicate 32 (0 : UInt8))]) (f:=(fun v=>(Value.cells (ZN v 0)).toList)) hM hsD
    exact ⟨_,_,rfl,hE,M.dOn (its:=[raw b40 (cat [[u37],[vI r35.Next],[u38],[u39],enc r35.Head]),osl NoB (r35.Keys : List (Vector UInt8 16)) u37,osl NoB (r35.Records : List GRecord) u38,osl NoB (r35.Events : List GEvent) u39,raw b27 (cat [[q8_4_0_1],[vI r17.1.Next],[q8_4_0_2],[q8_4_0_3],enc r17.1.Head]),own NoB (r17.1.Keys : (List (Vector UInt8 16))) [q8_4_0_1],own NoB (r17.1.Records : (List GRecord)) [q8_4_0_2],own NoB (r17.1.Events : (List GEvent)) [q8_4_0_3],own NoB (r9.Keys : (List (Vector UInt8 16))) [q8_1_0_1],own NoB (r9.Records : (List GRecord)) [q8_1_0_2],own NoB (r9.Events : (List GEvent)) [q8_1_0_3],raw b3 (enc p1),raw b1 (cat [[v0_1],[vI p0.Next],[v0_2],[v0_3],enc p0.Head])]) (mk1:=([mkO 3 (fun v=>own NoB r45.1 (Value.cells (ZN v 0)).toList)] : Mk)) (mk2:=([] : Mk)) (i:=7) (s:=8) (k:=3) (z:=cat [[(Value.slice none 0 0)],[vI 0],[(Value.slice none 0 0)],[(Value.slice none 0 0)],enc (Vector.replicate 32 (0 : UInt8))]) (f:=(fun v=>(Value.cells (ZN v 0)).toList)) (M.qFill (its:=[raw b40 (cat [[u37],[vI r35.Next],[u38],[u39],enc r35.Head]),osl NoB (r35.Keys : List (Vector UInt8 16)) u37,osl NoB (r35.Records : List GRecord) u38,osl NoB (r35.Events : List GEvent) u39,raw b27 (cat [[q8_4_0_1],[vI r17.1.Next],[q8_4_0_2],[q8_4_0_3],enc r17.1.Head]),own NoB (r17.1.Keys : (List (Vector UInt8 16))) [q8_4_0_1],own NoB (r17.1.Records : (List GRecord)) [q8_4_0_2],own NoB (r17.1.Events : (List GEvent)) [q8_4_0_3],own NoB (r9.Keys : (List (Vector UInt8 16))) [q8_1_0_1],own NoB (r9.Records : (List GRecord)) [q8_1_0_2],own NoB (r9.Events : (List GEvent)) [q8_1_0_3],raw b3 (enc p1),raw b1 (cat [[v0_1],[vI p0.Next],[v0_2],[v0_3],enc p0.Head])]) (mk1:=[]) (mk2:=[_]) (f:=(fun v=>own NoB r45.1 (Value.cells (ZN v 0)).toList)) hM rfl hD) hsD (by decide),hI.2.put hD rfl ZQ ⟨rfl,⟨_,rfl⟩⟩⟩
   ·intro a w ux42 D hE hI hD hdc hp
    have d3 : D 3 = true:=hp 0 _ rfl rfl
    have g3:=hI.2 3 d3 _ rfl
    have f3 : ux42 3 = (Value.tuple [(ZN (ux42 3) 0),vI r45.2].toArray):=g3.2.1
    have hM0:=hI.1
    exact Zd hE Za ld (lk rfl f3) fun a hE=>⟨_,_,rfl,hE,M.qKeep hM0 rfl,hI.2.put hD rfl (HK d3 ZQ) rfl⟩
   ·intro a w ux42 D hE hI hD hdc hp
    have d4 : D 4 = true:=hp 0 _ rfl rfl
    have g4:=hI.2 4 d4 _ rfl
    have d3 : D 3 = true:=g4.1 3 (show 3 ∈ [3] by decide)
    have f4 : ux42 4 = (Value.tuple [(ZN (ux42 3) 0),vI r45.2].toArray):=g4.2
    have hM0:=hI.1
    exact Uz hE Za ld (lk rfl f4) rfl fun a hE=>⟨_,_,rfl,hE,M.qKeep hM0 rfl,hI.2.put hD rfl (HK d3 ZQ) rfl⟩
   ·intro a w ux42 D hE hI hD hdc hp
    have d4 : D 4 = true:=hp 0 _ rfl rfl
    have g4:=hI.2 4 d4 _ rfl
    have d3 : D 3 = true:=g4.1 3 (show 3 ∈ [3] by decide)
    have f4 : ux42 4 = (Value.tuple [(ZN (ux42 3) 0),vI r45.2].toArray):=g4.2
    have hM0:=hI.1
    exact Uz hE Za ld (lk rfl f4) rfl fun a hE=>⟨_,_,rfl,hE,M.qKeep hM0 rfl,hI.2.put hD rfl ZQ rfl⟩
   ·intro a w ux42 D hE hI hD hdc hp
    have hM0:=hI.1
    have hM:=hI.1
    refine ZE hE hM Za ld Yx ?_; intro b51 w a hM hE
    have hs : D 8 = false:=Bool.eq_false_iff.2 fun hx=>Bool.noConfusion (hD.symm.trans (hdc 8 _ _ rfl (List.mem_of_getElem? (i:=0) rfl) rfl hx))
    exact ⟨_,_,rfl,hE,M.qAllocD (mk1:=[_]) (mk2:=[]) hM rfl hD hs (by decide),hI.2.put hD rfl ZQ trivial⟩
   ·intro a w ux42 D hE hI hD hdc hp
    have d7 : D 7 = true:=hp 0 _ rfl rfl
    have d5 : D 5 = true:=hp 1 _ rfl rfl
    have g5:=hI.2 5 d5 _ rfl
    have d3 : D 3 = true:=g5.1 3 (show 3 ∈ [3] by decide)
    have f5 : ux42 5 = (ZN (ux42 3) 0):=g5.2
    have hM0:=hI.1
    have hM : M (Old w0) w0 w [raw b40 (cat [[u37],[vI r35.Next],[u38],[u39],enc r35.Head]),osl NoB (r35.Keys : List (Vector UInt8 16)) u37,osl NoB (r35.Records : List GRecord) u38,osl NoB (r35.Events : List GEvent) u39,raw b27 (cat [[q8_4_0_1],[vI r17.1.Next],[q8_4_0_2],[q8_4_0_3],enc r17.1.Head]),own NoB (r17.1.Keys : (List (Vector UInt8 16))) [q8_4_0_1],own NoB (r17.1.Records : (List GRecord)) [q8_4_0_2],own NoB (r17.1.Events : (List GEvent)) [q8_4_0_3],own NoB (r9.Keys : (List (Vector UInt8 16))) [q8_1_0_1],own NoB (r9.Records : (List GRecord)) [q8_1_0_2],own NoB (r9.Events : (List GEvent)) [q8_1_0_3],raw b3 (enc p1),raw b1 (cat [[v0_1],[vI p0.Next],[v0_2],[v0_3],enc p0.Head]),opt (D 3) (own NoB r45.1 (Value.cells (ZN (ux42 3) 0)).toList),T3 (D 7) (D 8) (ux42 7) (cat [[(Value.slice none 0 0)],[vI 0],[(Value.slice none 0 0)],[(Value.slice none 0 0)],enc (Vector.replicate 32 (0 : UInt8))]) ((Value.cells (ZN (ux42 3) 0)).toList)]:=hI.1
    have hM:=hM.sure (pre:=[_,_,_,_,_,_,_,_,_,_,_,_,_]) d3
    obtain ⟨q42_3_0_1,q42_3_0_2,q42_3_0_3,hcz,hq42_3_0_1,hq42_3_0_2,hq42_3_0_3⟩:=Vc (hM.ro (pre:=[_,_,_,_,_,_,_,_,_,_,_,_,_]) noB)
    obtain ⟨cz,hvz⟩:=(hI.2 3 (by assumption) _ rfl).2.2
    have qK50 : (ZN (ux42 3) 0) = (Value.agg (cat [[q42_3_0_1],[vI r45.1.Next],[q42_3_0_2],[q42_3_0_3],enc r45.1.Head]).toArray):=by rw [hvz] at hcz ⊢; exact congrArg Value.agg (W8 hcz)
    obtain ⟨b53,hb54,hM⟩:=M.openCell (pre:=[_,_,_,_,_,_,_,_,_,_,_,_,_,_]) hM d7
    rw [hD,if_neg (by decide)] at hM
    refine Zo (seg:=cat [[q42_3_0_1],[vI r45.1.Next],[q42_3_0_2],[q42_3_0_3],enc r45.1.Head]) (cs':=cat [[q42_3_0_1],[vI r45.1.Next],[q42_3_0_2],[q42_3_0_3],enc r45.1.Head]) hE hM Za (lk rfl hb54) (lk rfl (f5.trans qK50)) rfl Yx (Zh (cl1 (n:=1) (m:=35) rfl (cl1 (n:=1) (m:=34) rfl (cl1 (n:=1) (m:=33) rfl (cl1 (n:=1) (m:=32) rfl (cl1 (n:=32) (m:=0) (Flat.len _) cl0)))))) (Nat.le_of_eq ((Nat.zero_add _).trans (Eq.trans (Zh (cl1 (n:=1) (m:=35) rfl (cl1 (n:=1) (m:=34) rfl (cl1 (n:=1) (m:=33) rfl (cl1 (n:=1) (m:=32) rfl (cl1 (n:=32) (m:=0) (Flat.len _) cl0)))))) (Eq.symm (Zh (cl1 (n:=1) (m:=35) rfl (cl1 (n:=1) (m:=34) rfl (cl1 (n:=1) (m:=33) rfl (cl1 (n:=1) (m:=32) rfl (cl1 (n:=32) (m:=0) (Flat.len _) cl0)))))))))) (Z5 (cc1 (Rep.cell hq42_3_0_1) (cc1 (Flat.cell (r45.1.Next : Int)) (cc1 (Rep.cell hq42_3_0_2) (cc1 (Rep.cell hq42_3_0_3) (cc1 (Flat.cell _) cc0)))))) (Zl (Eq.trans (Zh (cl1 (n:=1) (m:=35) rfl (cl1 (n:=1) (m:=34) rfl (cl1 (n:=1) (m:=33) rfl (cl1 (n:=1) (m:=32) rfl (cl1 (n:=32) (m:=0) (Flat.len _) cl0)))))) (Eq.symm (Zh (cl1 (n:=1) (m:=35) rfl (cl1 (n:=1) (m:=34) rfl (cl1 (n:=1) (m:=33) rfl (cl1 (n:=1) (m:=32) rfl (cl1 (n:=32) (m:=0) (Flat.len _) cl0))))))))) ?_; intro w a hM hE
    have hM:=(M.recell hM (show _ = (Value.cells (ZN (ux42 3) 0)).toList from by rw [qK50]; rfl)).unsure (pre:=[_,_,_,_,_,_,_,_,_,_,_,_,_,_]) d3
    exact ⟨undef,_,rfl,Env.dummy hE (by decide),M.qStoreD (its:=[raw b40 (cat [[u37],[vI r35.Next],[u38],[u39],enc r35.Head]),osl NoB (r35.Keys : List (Vector UInt8 16)) u37,osl NoB (r35.Records : List GRecord) u38,osl NoB (r35.Events : List GEvent) u39,raw b27 (cat [[q8_4_0_1],[vI r17.1.Next],[q8_4_0_2],[q8_4_0_3],enc r17.1.Head]),own NoB (r17.1.Keys : (List (Vector UInt8 16))) [q8_4_0_1],own NoB (r17.1.Records : (List GRecord)) [q8_4_0_2],own NoB (r17.1.Events : (List GEvent)) [q8_4_0_3],own NoB (r9.Keys : (List (Vector UInt8 16))) [q8_1_0_1],own NoB (r9.Records : (List GRecord)) [q8_1_0_2],own NoB (r9.Events : (List GEvent)) [q8_1_0_3],raw b3 (enc p1),raw b1 (cat [[v0_1],[vI p0.Next],[v0_2],[v0_3],enc p0.Head])]) (mk1:=[_]) (mk2:=[]) (i:=7) (s:=8) (k:=3) (z:=cat [[(Value.slice none 0 0)],[vI 0],[(Value.slice none 0 0)],[(Value.slice none 0 0)],enc (Vector.replicate 32 (0 : UInt8))]) (f:=(fun v=>(Value.cells (ZN v 0)).toList)) hM rfl d7 hb54 (by decide) (by decide),hI.2.put hD rfl ZQ trivial⟩
   ·intro a w ux42 D hE hI hall
    have hM : M (Old w0) w0 w [raw b40 (cat [[u37],[vI r35.Next],[u38],[u39],enc r35.Head]),osl NoB (r35.Keys : List (Vector UInt8 16)) u37,osl NoB (r35.Records : List GRecord) u38,osl NoB (r35.Events : List GEvent) u39,raw b27 (cat [[q8_4_0_1],[vI r17.1.Next],[q8_4_0_2],[q8_4_0_3],enc r17.1.Head]),own NoB (r17.1.Keys : (List (Vector UInt8 16))) [q8_4_0_1],own NoB (r17.1.Records : (List GRecord)) [q8_4_0_2],own NoB (r17.1.Events : (List GEvent)) [q8_4_0_3],own NoB (r9.Keys : (List (Vector UInt8 16))) [q8_1_0_1],own NoB (r9.Records : (List GRecord)) [q8_1_0_2],own NoB (r9.Events : (List GEvent)) [q8_1_0_3],raw b3 (enc p1),raw b1 (cat [[v0_1],[vI p0.Next],[v0_2],[v0_3],enc p0.Head]),opt (D 3) (own NoB r45.1 (Value.cells (ZN (ux42 3) 0)).toList),T3 (D 7) (D 8) (ux42 7) (cat [[(Value.slice none 0 0)],[vI 0],[(Value.slice none 0 0)],[(Value.slice none 0 0)],enc (Vector.replicate 32 (0 : UInt8))]) ((Value.cells (ZN (ux42 3) 0)).toList)]:=hI.1
    have d0 : D 0 = true:=hall 0 (by decide)
    have d1 : D 1 = true:=hall 1 (by decide)
    have d2 : D 2 = true:=hall 2 (by decide)
    have d3 : D 3 = true:=hall 3 (by decide)
    have d4 : D 4 = true:=hall 4 (by decide)
    have d5 : D 5 = true:=hall 5 (by decide)
    have d6 : D 6 = true:=hall 6 (by decide)
    have d7 : D 7 = true:=hall 7 (by decide)
    have d8 : D 8 = true:=hall 8 (by decide)
    have f0 : ux42 0 = (Value.agg (cat [[u37],[vI r35.Next],[u38],[u39],enc r35.Head]).toArray):=(hI.2 0 d0 _ rfl).2
    have f1 : ux42 1 = (Value.agg (enc p1).toArray):=(hI.2 1 d1 _ rfl).2
    have f2 : ux42 2 = (Value.agg (enc r43).toArray):=(hI.2 2 d2 _ rfl).2
    have f3 : ux42 3 = (Value.tuple [(ZN (ux42 3) 0),vI r45.2].toArray):=(hI.2 3 d3 _ rfl).2.1
    have f4 : ux42 4 = (Value.tuple [(ZN (ux42 3) 0),vI r45.2].toArray):=(hI.2 4 d4 _ rfl).2
    have f5 : ux42 5 = (ZN (ux42 3) 0):=(hI.2 5 d5 _ rfl).2
    have f6 : ux42 6 = (vI r45.2):=(hI.2 6 d6 _ rfl).2
    have hM:=hM.sure (pre:=[_,_,_,_,_,_,_,_,_,_,_,_,_]) d3
    obtain ⟨b55,f56,hM⟩:=M.openCell (pre:=[_,_,_,_,_,_,_,_,_,_,_,_,_,_]) hM d7
    rw [if_pos d8] at hM
    obtain ⟨q42_3_0_1,q42_3_0_2,q42_3_0_3,hcz,_,_,_⟩:=Vc (hM.ro (pre:=[_,_,_,_,_,_,_,_,_,_,_,_,_,_]) noB)
    obtain ⟨cz,hvz⟩:=(hI.2 3 d3 _ rfl).2.2
    have qK50 : (ZN (ux42 3) 0) = (Value.agg (cat [[q42_3_0_1],[vI r45.1.Next],[q42_3_0_2],[q42_3_0_3],enc r45.1.Head]).toArray):=by rw [hvz] at hcz ⊢; exact congrArg Value.agg (W8 hcz)
    have hM:=hM.pull (pre:=[_,_,_,_,_,_,_,_,_,_,_,_,_,_])
    rw [qK50] at hM
    have hM:=hM.unpackL (m:=[own NoB (r45.1.Keys : (List (Vector UInt8 16))) [q42_3_0_1],own NoB (r45.1.Records : (List GRecord)) [q42_3_0_2],own NoB (r45.1.Events : (List GEvent)) [q42_3_0_3]]) (fun fp h=>by obtain ⟨_,_,_,rfl,s1,s2,s3⟩:=TX h; exact (YK.cons (Yc noB) s1 (YK.cons (Yc noB) s2 (YK.one (Yc noB) s3))))
    simp only [List.cons_append,List.nil_append] at hM
    have hM:=M.recell (c':=cat [[q42_3_0_1],[vI r45.1.Next],[q42_3_0_2],[q42_3_0_3],enc r45.1.Head]) (hM.pull (pre:=[_,_,_])) rfl
    have hE:=hE.sub (e':=[(36,(Value.agg (cat [[q42_3_0_1],[vI r45.1.Next],[q42_3_0_2],[q42_3_0_3],enc r45.1.Head]).toArray)),(37,vI r45.2),(9,(ptr b55 0)),(2,(ptr b1 0)),(3,(ptr b3 0)),(4,vT false),(6,(ptr b27 0)),(7,vI r17.2),(8,(ptr b40 0))]) ⟨lk rfl (f5.trans qK50),lk rfl f6,lk rfl f56,rfl,rfl,rfl,rfl,rfl,rfl,trivial⟩
    refine Ze hE Za ld rfl fun a hE=>Zj (Zz (wp_seq ?_))
    obtain ⟨j60,hl61,hF62⟩:=bind_some hF
    refine ZS (fun a w=>Env 104 a [(2,(ptr b1 0)),(3,(ptr b3 0)),(6,(ptr b27 0)),(7,vI r17.2),(8,(ptr b40 0)),(9,(ptr b55 0)),(10,vI r45.2),(46,vT j60)] ∧ M (Old w0) w0 w [raw b55 (cat [[q42_3_0_1],[vI r45.1.Next],[q42_3_0_2],[q42_3_0_3],enc r45.1.Head]),own NoB (r45.1.Keys : (List (Vector UInt8 16))) [q42_3_0_1],own NoB (r45.1.Records : (List GRecord)) [q42_3_0_2],own NoB (r45.1.Events : (List GEvent)) [q42_3_0_3],raw b40 (cat [[u37],[vI r35.Next],[u38],[u39],enc r35.Head]),osl NoB (r35.Keys : List (Vector UInt8 16)) u37,osl NoB (r35.Records : List GRecord) u38,osl NoB (r35.Events : List GEvent) u39,raw b27 (cat [[q8_4_0_1],[vI r17.1.Next],[q8_4_0_2],[q8_4_0_3],enc r17.1.Head]),own NoB (r17.1.Keys : (List (Vector UInt8 16))) [q8_4_0_1],own NoB (r17.1.Records : (List GRecord)) [q8_4_0_2],own NoB (r17.1.Events : (List GEvent)) [q8_4_0_3],raw b3 (enc p1),raw b1 (cat [[v0_1],[vI p0.Next],[v0_2],[v0_3],enc p0.Head])]) ?_ ?_
    ·skip
     refine wp_region_lit (Zm (cs:=cat [[q42_3_0_1],[vI r45.1.Next],[q42_3_0_2],[q42_3_0_3],enc r45.1.Head]) hE Za ld rfl Yx rfl (hM.rawAt (pre:=[])) (Zh (cl1 (n:=1) (m:=35) rfl (cl1 (n:=1) (m:=34) rfl (cl1 (n:=1) (m:=33) rfl (cl1 (n:=1) (m:=32) rfl (cl1 (n:=32) (m:=0) (Flat.len _) cl0)))))) fun a hE=>Zm (cs:=cat [[q8_4_0_1],[vI r17.1.Next],[q8_4_0_2],[q8_4_0_3],enc r17.1.Head]) hE Za ld rfl Yx rfl (hM.rawAt (pre:=[_,_,_,_,_,_,_,_])) (Zh (cl1 (n:=1) (m:=35) rfl (cl1 (n:=1) (m:=34) rfl (cl1 (n:=1) (m:=33) rfl (cl1 (n:=1) (m:=32) rfl (cl1 (n:=32) (m:=0) (Flat.len _) cl0)))))) ?_); intro a hE
     obtain ⟨r63,e64,hl61⟩:=bind_some hl61
     refine Zt hE Za ld rfl cb17 (TR _ r45.1 q42_3_0_1 (hM.ro (pre:=[_]) noB) q42_3_0_2 (hM.ro (pre:=[_,_]) noB) q42_3_0_3 (hM.ro (pre:=[_,_,_]) noB) r17.1 q8_4_0_1 (hM.ro (pre:=[_,_,_,_,_,_,_,_,_]) noB) q8_4_0_2 (hM.ro (pre:=[_,_,_,_,_,_,_,_,_,_]) noB) q8_4_0_3 (hM.ro (pre:=[_,_,_,_,_,_,_,_,_,_,_]) noB) r63 e64) ?_
     rintro v w a ⟨rfl,hK⟩ hE
     have hM:=hM.keep hK
     refine WJ hE Za ld rfl fun a hE=>Zd hE Za ld rfl ?_; intro a hE
     refine XL (!r63) (fun hb65=>?_) (fun hb65=>?_)
     ·have hl61:=ZA hl61 hb65
      refine Zv hE rfl (lkb rfl hb65) rfl (by decide) fun a hE=>Zv hE rfl (lkb rfl hb65) rfl (by decide) fun a hE=>Zv hE rfl (lkb rfl hb65) rfl (by decide) fun a hE=>Z4 hE Za ld (lkb rfl hb65) rfl fun a hE=>Zj ?_
      have ht66:=Option.some.inj hl61
      subst ht66
      refine Zn ?_
      have hM:=((((hM.pull (pre:=[_,_,_,_,_,_,_,_,_,_,_,_,_,_,_,_])).pull (pre:=[_,_,_,_,_,_,_,_,_,_,_,_,_,_,_,_])).pull (pre:=[_,_,_,_,_,_,_,_,_,_,_,_,_])).pull (pre:=[_,_,_,_,_,_,_,_,_,_,_,_,_])).pull (pre:=[_,_,_,_,_,_,_,_,_,_,_,_,_])
      have hM:=((((hM.pull (pre:=[_,_,_,_,_,_,_,_,_,_,_,_,_])).pull (pre:=[_,_,_,_,_,_,_,_,_,_,_,_,_])).pull (pre:=[_,_,_,_,_,_,_,_,_,_,_,_,_])).pull (pre:=[_,_,_,_,_,_,_,_,_,_,_,_,_])).pull (pre:=[_,_,_,_,_,_,_,_,_,_,_,_,_])
      have hM:=M.fst (l:=[_,_,_,_,_,_,_,_,_,_,_,_,_,_]) ((((hM.pull (pre:=[_,_,_,_,_,_,_,_,_,_,_,_,_])).pull (pre:=[_,_,_,_,_,_,_,_,_,_,_,_,_])).pull (pre:=[_,_,_,_,_,_,_,_,_,_,_,_,_])).pull (pre:=[_,_,_,_,_,_,_,_,_,_,_,_,_]))
      exact ⟨hE.sub ⟨rfl,rfl,rfl,rfl,rfl,rfl,rfl,rfl,trivial⟩,hM⟩
     ·have hl61:=ZB hl61 hb65
      refine Zd hE (Zw hE rfl (lkb rfl hb65)) (by decide) rfl fun a hE=>Zd hE (Zw hE rfl (lkb rfl hb65)) (by decide) rfl fun a hE=>Zi hE (Zw hE rfl (lkb rfl hb65)) (by decide) rfl rfl rfl fun a hE=>YM hE Za ld (lkb rfl hb65) rfl fun a hE=>Zj ?_
      have ht67:=Option.some.inj hl61
      subst ht67
      refine Zn ?_
      have hM:=((((hM.pull (pre:=[_,_,_,_,_,_,_,_,_,_,_,_,_,_,_,_])).pull (pre:=[_,_,_,_,_,_,_,_,_,_,_,_,_,_,_,_])).pull (pre:=[_,_,_,_,_,_,_,_,_,_,_,_,_])).pull (pre:=[_,_,_,_,_,_,_,_,_,_,_,_,_])).pull (pre:=[_,_,_,_,_,_,_,_,_,_,_,_,_])
      have hM:=((((hM.pull (pre:=[_,_,_,_,_,_,_,_,_,_,_,_,_])).pull (pre:=[_,_,_,_,_,_,_,_,_,_,_,_,_])).pull (pre:=[_,_,_,_,_,_,_,_,_,_,_,_,_])).pull (pre:=[_,_,_,_,_,_,_,_,_,_,_,_,_])).pull (pre:=[_,_,_,_,_,_,_,_,_,_,_,_,_])
      have hM:=M.fst (l:=[_,_,_,_,_,_,_,_,_,_,_,_,_,_]) ((((hM.pull (pre:=[_,_,_,_,_,_,_,_,_,_,_,_,_])).pull (pre:=[_,_,_,_,_,_,_,_,_,_,_,_,_])).pull (pre:=[_,_,_,_,_,_,_,_,_,_,_,_,_])).pull (pre:=[_,_,_,_,_,_,_,_,_,_,_,_,_]))
      exact ⟨hE.sub ⟨rfl,rfl,rfl,rfl,rfl,rfl,rfl,rfl,trivial⟩,hM⟩
    ·skip
     rintro a w ⟨hE,hM⟩
     refine Zs hE rfl ?_ ?_
     ·intro hb68
      have hF62:=ZA hF62 hb68
      refine Zc (Ze hE Za ld rfl fun a hE=>Zf ?_)
      have hr:=Option.some.inj hF62
      subst hr
      have hM:=M.fst (l:=[]) hM
      exact wp_ret (Zx (Zy hE rfl (Zu hE rfl) ⟨_,rfl,rfl,hM.kept⟩))
     ·intro hb68
      have hF62:=ZB hF62 hb68
      refine wp_skip (Zz (wp_seq ?_))
      obtain ⟨j69,hl70,hF71⟩:=bind_some hF62
      refine ZS (fun a w=>Env 104 a [(2,(ptr b1 0)),(3,(ptr b3 0)),(6,(ptr b27 0)),(7,vI r17.2),(8,(ptr b40 0)),(9,(ptr b55 0)),(10,vI r45.2),(51,vT j69)] ∧ M (Old w0) w0 w [raw b55 (cat [[q42_3_0_1],[vI r45.1.Next],[q42_3_0_2],[q42_3_0_3],enc r45.1.Head]),own NoB (r45.1.Keys : (List (Vector UInt8 16))) [q42_3_0_1],own NoB (r45.1.Records : (List GRecord)) [q42_3_0_2],own NoB (r45.1.Events : (List GEvent)) [q42_3_0_3],raw b40 (cat [[u37],[vI r35.Next],[u38],[u39],enc r35.Head]),osl NoB (r35.Keys : List (Vector UInt8 16)) u37,osl NoB (r35.Records : List GRecord) u38,osl NoB (r35.Events : List GEvent) u39,raw b27 (cat [[q8_4_0_1],[vI r17.1.Next],[q8_4_0_2],[q8_4_0_3],enc r17.1.Head]),own NoB (r17.1.Keys : (List (Vector UInt8 16))) [q8_4_0_1],own NoB (r17.1.Records : (List GRecord)) [q8_4_0_2],own NoB (r17.1.Events : (List GEvent)) [q8_4_0_3],raw b3 (enc p1),raw b1 (cat [[v0_1],[vI p0.Next],[v0_2],[v0_3],enc p0.Head])]) ?_ ?_
      ·skip
       obtain ⟨r73,e74,hl70⟩:=bind_some hl70
       refine QY (n:=104) (hd:=[_,_,_]) (tl:=[_,_]) (its:=[raw b55 (cat [[q42_3_0_1],[vI r45.1.Next],[q42_3_0_2],[q42_3_0_3],enc r45.1.Head]),own NoB (r45.1.Keys : (List (Vector UInt8 16))) [q42_3_0_1],own NoB (r45.1.Records : (List GRecord)) [q42_3_0_2],own NoB (r45.1.Events : (List GEvent)) [q42_3_0_3],raw b40 (cat [[u37],[vI r35.Next],[u38],[u39],enc r35.Head]),osl NoB (r35.Keys : List (Vector UInt8 16)) u37,osl NoB (r35.Records : List GRecord) u38,osl NoB (r35.Events : List GEvent) u39,raw b27 (cat [[q8_4_0_1],[vI r17.1.Next],[q8_4_0_2],[q8_4_0_3],enc r17.1.Head]),own NoB (r17.1.Keys : (List (Vector UInt8 16))) [q8_4_0_1],own NoB (r17.1.Records : (List GRecord)) [q8_4_0_2],own NoB (r17.1.Events : (List GEvent)) [q8_4_0_3],raw b3 (enc p1),raw b1 (cat [[v0_1],[vI p0.Next],[v0_2],[v0_3],enc p0.Head])]) Y0 rfl rfl [47,48,49] (by decide) [(2,fun v=>own NoB r73 (Value.cells v).toList)] rfl (fun j=>([fun v=>v = (Value.agg (cat [[u37],[vI r35.Next],[u38],[u39],enc r35.Head]).toArray),fun v=>v = (Value.agg (cat [[v0_1],[vI p0.Next],[v0_2],[v0_3],enc p0.Head]).toArray),fun v=>∃ cs,v = .agg cs] : List (Value → Prop)).getD j (fun _=>True)) hE hM.drew (ZK (Zb ?_ (Zb ?_ (Zb ?_ ZF)))) ?_
       ·intro a w ux72 D hE hM hD hp
        have hM0:=hM
        have hM : M (Old w0) w0 w [raw b55 (cat [[q42_3_0_1],[vI r45.1.Next],[q42_3_0_2],[q42_3_0_3],enc r45.1.Head]),own NoB (r45.1.Keys : (List (Vector UInt8 16))) [q42_3_0_1],own NoB (r45.1.Records : (List GRecord)) [q42_3_0_2],own NoB (r45.1.Events : (List GEvent)) [q42_3_0_3],raw b40 (cat [[u37],[vI r35.Next],[u38],[u39],enc r35.Head]),osl NoB (r35.Keys : List (Vector UInt8 16)) u37,osl NoB (r35.Records : List GRecord) u38,osl NoB (r35.Events : List GEvent) u39,raw b27 (cat [[q8_4_0_1],[vI r17.1.Next],[q8_4_0_2],[q8_4_0_3],enc r17.1.Head]),own NoB (r17.1.Keys : (List (Vector UInt8 16))) [q8_4_0_1],own NoB (r17.1.Records : (List GRecord)) [q8_4_0_2],own NoB (r17.1.Events : (List GEvent)) [q8_4_0_3],raw b3 (enc p1),raw b1 (cat [[v0_1],[vI p0.Next],[v0_2],[v0_3],enc p0.Head]),opt (D 2) (own NoB r73 (Value.cells (ux72 2)).toList)]:=hM
        exact Zm (cs:=cat [[u37],[vI r35.Next],[u38],[u39],enc r35.Head]) hE Za ld rfl Yx rfl (hM.rawAt (pre:=[_,_,_,_])) (Zh (cl1 (n:=1) (m:=35) rfl (cl1 (n:=1) (m:=34) rfl (cl1 (n:=1) (m:=33) rfl (cl1 (n:=1) (m:=32) rfl (cl1 (n:=32) (m:=0) (Flat.len _) cl0)))))) fun a hE=>⟨_,_,rfl,hE,rfl,hM0.optKeep rfl⟩
       ·intro a w ux72 D hE hM hD hp
        have hM0:=hM
        have hM : M (Old w0) w0 w [raw b55 (cat [[q42_3_0_1],[vI r45.1.Next],[q42_3_0_2],[q42_3_0_3],enc r45.1.Head]),own NoB (r45.1.Keys : (List (Vector UInt8 16))) [q42_3_0_1],own NoB (r45.1.Records : (List GRecord)) [q42_3_0_2],own NoB (r45.1.Events : (List GEvent)) [q42_3_0_3],raw b40 (cat [[u37],[vI r35.Next],[u38],[u39],enc r35.Head]),osl NoB (r35.Keys : List (Vector UInt8 16)) u37,osl NoB (r35.Records : List GRecord) u38,osl NoB (r35.Events : List GEvent) u39,raw b27 (cat [[q8_4_0_1],[vI r17.1.Next],[q8_4_0_2],[q8_4_0_3],enc r17.1.Head]),own NoB (r17.1.Keys : (List (Vector UInt8 16))) [q8_4_0_1],own NoB (r17.1.Records : (List GRecord)) [q8_4_0_2],own NoB (r17.1.Events : (List GEvent)) [q8_4_0_3],raw b3 (enc p1),raw b1 (cat [[v0_1],[vI p0.Next],[v0_2],[v0_3],enc p0.Head]),opt (D 2) (own NoB r73 (Value.cells (ux72 2)).toList)]:=hM
        exact Zm (cs:=cat [[v0_1],[vI p0.Next],[v0_2],[v0_3],enc p0.Head]) hE Za ld rfl Am rfl (hM.rawAt (pre:=[_,_,_,_,_,_,_,_,_,_,_,_,_])) (Zh (cl1 (n:=1) (m:=35) rfl (cl1 (n:=1) (m:=34) rfl (cl1 (n:=1) (m:=33) rfl (cl1 (n:=1) (m:=32) rfl (cl1 (n:=32) (m:=0) (Flat.len _) cl0)))))) fun a hE=>⟨_,_,rfl,hE,rfl,hM0.optKeep rfl⟩
       ·intro a w ux72 D hE hM hD hp
        have f1 : ux72 1 = (Value.agg (cat [[v0_1],[vI p0.Next],[v0_2],[v0_3],enc p0.Head]).toArray):=(hp 0 _ rfl rfl).2
        have hM0:=hM
        have hM : M (Old w0) w0 w [raw b55 (cat [[q42_3_0_1],[vI r45.1.Next],[q42_3_0_2],[q42_3_0_3],enc r45.1.Head]),own NoB (r45.1.Keys : (List (Vector UInt8 16))) [q42_3_0_1],own NoB (r45.1.Records : (List GRecord)) [q42_3_0_2],own NoB (r45.1.Events : (List GEvent)) [q42_3_0_3],raw b40 (cat [[u37],[vI r35.Next],[u38],[u39],enc r35.Head]),osl NoB (r35.Keys : List (Vector UInt8 16)) u37,osl NoB (r35.Records : List GRecord) u38,osl NoB (r35.Events : List GEvent) u39,raw b27 (cat [[q8_4_0_1],[vI r17.1.Next],[q8_4_0_2],[q8_4_0_3],enc r17.1.Head]),own NoB (r17.1.Keys : (List (Vector UInt8 16))) [q8_4_0_1],own NoB (r17.1.Records : (List GRecord)) [q8_4_0_2],own NoB (r17.1.Events : (List GEvent)) [q8_4_0_3],raw b3 (enc p1),raw b1 (cat [[v0_1],[vI p0.Next],[v0_2],[v0_3],enc p0.Head]),opt (D 2) (own NoB r73 (Value.cells (ux72 2)).toList)]:=hM
        refine Zt hE Za ld (ZV (ZT (lk rfl f1) YZ)) cb14 (TK _ p0 v0_1 (hM.rdo hv0_1) v0_2 (hM.rdo hv0_2) v0_3 (hM.rdo hv0_3) r73 e74) ?_
        rintro _ w a ⟨u75,u76,u77,rfl,hFr,hK⟩ hE
        have hM:=hM0.add hK hFr
        have hM:=hM.packL (m:=[osl NoB (r73.Keys : List (Vector UInt8 16)) u75,osl NoB (r73.Records : List GRecord) u76,osl NoB (r73.Events : List GEvent) u77]) (it:=own NoB r73 (cat [[u75],[vI r73.Next],[u76],[u77],enc r73.Head])) (Yc noB) (fun fp h=>by obtain ⟨_,_,rfl,_,s1,_,_,rfl,_,s2,_,_,rfl,_,s3,rfl⟩:=h; exact TT (YG.sat s1) (YG.sat s2) (YG.sat s3) (by simp))
        exact ⟨_,_,rfl,hE,⟨_,rfl⟩,M.optFill (mk1:=[]) (mk2:=[]) (f:=(fun v=>own NoB r73 (Value.cells v).toList)) hM rfl hD⟩
       ·intro a w ux72 hE hM hg
        have hM : M (Old w0) w0 w [raw b55 (cat [[q42_3_0_1],[vI r45.1.Next],[q42_3_0_2],[q42_3_0_3],enc r45.1.Head]),own NoB (r45.1.Keys : (List (Vector UInt8 16))) [q42_3_0_1],own NoB (r45.1.Records : (List GRecord)) [q42_3_0_2],own NoB (r45.1.Events : (List GEvent)) [q42_3_0_3],raw b40 (cat [[u37],[vI r35.Next],[u38],[u39],enc r35.Head]),osl NoB (r35.Keys : List (Vector UInt8 16)) u37,osl NoB (r35.Records : List GRecord) u38,osl NoB (r35.Events : List GEvent) u39,raw b27 (cat [[q8_4_0_1],[vI r17.1.Next],[q8_4_0_2],[q8_4_0_3],enc r17.1.Head]),own NoB (r17.1.Keys : (List (Vector UInt8 16))) [q8_4_0_1],own NoB (r17.1.Records : (List GRecord)) [q8_4_0_2],own NoB (r17.1.Events : (List GEvent)) [q8_4_0_3],raw b3 (enc p1),raw b1 (cat [[v0_1],[vI p0.Next],[v0_2],[v0_3],enc p0.Head]),own NoB r73 (Value.cells (ux72 2)).toList]:=hM
        obtain ⟨q2_1,q2_2,q2_3,hcz,hq2_1,hq2_2,hq2_3⟩:=Vc (hM.ro (pre:=[_,_,_,_,_,_,_,_,_,_,_,_,_,_]) noB)
        obtain ⟨cz,hvz⟩:=hg 2 (by decide)
        have f2 : ux72 2 = (Value.agg (cat [[q2_1],[vI r73.Next],[q2_2],[q2_3],enc r73.Head]).toArray):=by rw [hvz] at hcz ⊢; exact congrArg Value.agg (W8 hcz)
        have hM:=hM.pull (pre:=[_,_,_,_,_,_,_,_,_,_,_,_,_,_])
        rw [f2] at hM
        have hM:=hM.unpackL (m:=[own NoB (r73.Keys : (List (Vector UInt8 16))) [q2_1],own NoB (r73.Records : (List GRecord)) [q2_2],own NoB (r73.Events : (List GEvent)) [q2_3]]) (fun fp h=>by obtain ⟨_,_,_,rfl,s1,s2,s3⟩:=TX h; exact (YK.cons (Yc noB) s1 (YK.cons (Yc noB) s2 (YK.one (Yc noB) s3))))
        simp only [List.cons_append,List.nil_append] at hM
        have hE:=hE.sub (e':=[(47,(Value.agg (cat [[u37],[vI r35.Next],[u38],[u39],enc r35.Head]).toArray)),(49,(Value.agg (cat [[q2_1],[vI r73.Next],[q2_2],[q2_3],enc r73.Head]).toArray)),(2,(ptr b1 0)),(3,(ptr b3 0)),(6,(ptr b27 0)),(7,vI r17.2),(8,(ptr b40 0)),(9,(ptr b55 0)),(10,vI r45.2)]) ⟨lk rfl (hg 0 (by decide)),lk rfl f2,rfl,rfl,rfl,rfl,rfl,rfl,rfl,trivial⟩
        obtain ⟨r82,e83,hl70⟩:=bind_some hl70
        refine Zt hE Za ld rfl cb17 (TR _ r35 u37 (hM.sl (pre:=[_,_,_,_,_,_,_,_]) noB) u38 (hM.sl (pre:=[_,_,_,_,_,_,_,_,_]) noB) u39 (hM.sl (pre:=[_,_,_,_,_,_,_,_,_,_]) noB) r73 q2_1 (hM.ro (pre:=[]) noB) q2_2 (hM.ro (pre:=[_]) noB) q2_3 (hM.ro (pre:=[_,_]) noB) r82 e83) ?_
        rintro v w a ⟨rfl,hK⟩ hE
        have hM:=hM.keep hK
        refine WJ hE Za ld rfl fun a hE=>Zj ?_
        have ht84:=Option.some.inj hl70
        subst ht84
        refine Zn ?_
        have hM:=((((hM.pull (pre:=[_,_,_,_,_,_,_,_,_,_,_,_,_,_,_,_])).pull (pre:=[_,_,_,_,_,_,_,_,_,_,_,_,_,_,_,_])).pull (pre:=[_,_,_,_,_,_,_,_,_,_,_,_,_,_,_,_])).pull (pre:=[_,_,_,_,_,_,_,_,_,_,_,_,_,_,_,_])).pull (pre:=[_,_,_,_,_,_,_,_,_,_,_,_,_,_,_,_])
        have hM:=((((hM.pull (pre:=[_,_,_,_,_,_,_,_,_,_,_,_,_,_,_,_])).pull (pre:=[_,_,_,_,_,_,_,_,_,_,_,_,_,_,_,_])).pull (pre:=[_,_,_,_,_,_,_,_,_,_,_,_,_,_,_,_])).pull (pre:=[_,_,_,_,_,_,_,_,_,_,_,_,_,_,_,_])).pull (pre:=[_,_,_,_,_,_,_,_,_,_,_,_,_,_,_,_])
        have hM:=M.fst (l:=[_,_,_,_,_,_,_,_,_,_,_,_,_,_]) ((((hM.pull (pre:=[_,_,_,_,_,_,_,_,_,_,_,_,_,_,_,_])).pull (pre:=[_,_,_,_,_,_,_,_,_,_,_,_,_,_,_,_])).pull (pre:=[_,_,_,_,_,_,_,_,_,_,_,_,_,_,_,_])).pull (pre:=[_,_,_,_,_,_,_,_,_,_,_,_,_,_,_,_]))
        exact ⟨hE.sub ⟨rfl,rfl,rfl,rfl,rfl,rfl,rfl,rfl,trivial⟩,hM⟩
      ·skip
       rintro a w ⟨hE,hM⟩
       refine Zs hE rfl ?_ ?_
       ·intro hb85
        have hF71:=ZA hF71 hb85
        refine Zc (Ze hE Za ld rfl fun a hE=>Zf ?_)
        have hr:=Option.some.inj hF71
        subst hr
        have hM:=M.fst (l:=[]) hM
        exact wp_ret (Zx (Zy hE rfl (Zu hE rfl) ⟨_,rfl,rfl,hM.kept⟩))
       ·intro hb85
        have hF71:=ZB hF71 hb85
        refine wp_skip (Zz (Zc (Ze hE Za ld rfl fun a hE=>Zf (Zc (Zm (cs:=cat [[u37],[vI r35.Next],[u38],[u39],enc r35.Head]) hE Za ld rfl Yx rfl (hM.rawAt (pre:=[_,_,_,_])) (Zh (cl1 (n:=1) (m:=35) rfl (cl1 (n:=1) (m:=34) rfl (cl1 (n:=1) (m:=33) rfl (cl1 (n:=1) (m:=32) rfl (cl1 (n:=32) (m:=0) (Flat.len _) cl0)))))) fun a hE=>Zd hE Za ld rfl ?_))))); intro a hE
        have hM:=(((((((hM.pull (pre:=[_,_,_,_,_])).toOwn noB).pull (pre:=[_,_,_,_,_,_])).toOwn noB).pull (pre:=[_,_,_,_,_,_,_])).toOwn noB).pull (pre:=[_])).pull (pre:=[_,_])
        obtain ⟨r86,e87,hF71⟩:=bind_some hF71
        refine Zt hE Za ld rfl cb29 (QV _ _ _ _ r35 u37 u38 u39 1 hM r86 e87) ?_
        rintro v w a ⟨rfl,hM⟩ hE
        refine Ze hE Za ld rfl fun a hE=>Zf (wp_seq ?_)
        obtain ⟨j88,hl89,hF90⟩:=bind_some hF71
        refine ZS (fun a w=>Env 104 a [(2,(ptr b1 0)),(3,(ptr b3 0)),(6,(ptr b27 0)),(7,vI r17.2),(9,(ptr b55 0)),(67,vT j88)] ∧ M (Old w0) w0 w [raw b55 (cat [[q42_3_0_1],[vI r45.1.Next],[q42_3_0_2],[q42_3_0_3],enc r45.1.Head]),own NoB (r45.1.Keys : (List (Vector UInt8 16))) [q42_3_0_1],own NoB (r45.1.Records : (List GRecord)) [q42_3_0_2],own NoB (r45.1.Events : (List GEvent)) [q42_3_0_3],raw b27 (cat [[q8_4_0_1],[vI r17.1.Next],[q8_4_0_2],[q8_4_0_3],enc r17.1.Head]),own NoB (r17.1.Keys : (List (Vector UInt8 16))) [q8_4_0_1],own NoB (r17.1.Records : (List GRecord)) [q8_4_0_2],own NoB (r17.1.Events : (List GEvent)) [q8_4_0_3],raw b3 (enc p1),raw b1 (cat [[v0_1],[vI p0.Next],[v0_2],[v0_3],enc p0.Head])]) ?_ ?_
        ·skip
         refine wp_region_lit (Zd hE Za ld rfl fun a hE=>Zi hE Za ld rfl rfl rfl fun a hE=>Zd hE Za ld rfl ?_); intro a hE
         refine XL (decide (r86.2 < 0)) (fun hb91=>?_) (fun hb91=>?_)
         ·have hl89:=ZA hl89 hb91
          refine Zv hE rfl (lkb rfl hb91) rfl (by decide) fun a hE=>Zv hE rfl (lkb rfl hb91) rfl (by decide) fun a hE=>Zv hE rfl (lkb rfl hb91) rfl (by decide) fun a hE=>Zv hE rfl (lkb rfl hb91) rfl (by decide) fun a hE=>Z4 hE Za ld (lkb rfl hb91) rfl fun a hE=>Zd hE Za ld rfl fun a hE=>Zv hE rfl rfl rfl (by decide) fun a hE=>Zv hE rfl rfl rfl (by decide) fun a hE=>Zv hE rfl rfl rfl (by decide) fun a hE=>Z4 hE Za ld rfl rfl fun a hE=>Zj ?_
          have ht92:=Option.some.inj hl89
          subst ht92
          refine Zn ?_
          have hM:=((((hM.pull (pre:=[_,_,_,_,_,_,_,_,_,_,_,_,_])).pull (pre:=[_,_,_,_,_,_,_,_,_,_,_,_,_])).pull (pre:=[_,_,_,_,_,_,_,_,_,_,_,_,_])).pull (pre:=[_,_,_,_,_,_,_,_,_,_,_,_,_])).pull (pre:=[_,_,_,_,_,_,_,_,_,_,_,_,_])
          have hM:=M.fst (l:=[_,_,_,_,_,_,_,_,_,_]) (((((hM.pull (pre:=[_,_,_,_,_,_,_,_,_,_,_,_,_])).pull (pre:=[_,_,_,_,_,_,_,_,_,_,_,_])).pull (pre:=[_,_,_,_,_,_,_,_,_,_,_,_])).pull (pre:=[_,_,_,_,_,_,_,_,_,_,_,_])).pull (pre:=[_,_,_,_,_,_,_,_,_,_,_,_]))
          exact ⟨hE.sub ⟨rfl,rfl,rfl,rfl,rfl,rfl,trivial⟩,hM⟩
         ·have hl89:=ZB hl89 hb91
          refine Zm (cs:=cat [[q42_3_0_1],[vI r45.1.Next],[q42_3_0_2],[q42_3_0_3],enc r45.1.Head]) hE (Zw hE rfl (lkb rfl hb91)) (by decide) rfl Yx rfl (hM.rawAt (pre:=[_,_,_])) (Zh (cl1 (n:=1) (m:=35) rfl (cl1 (n:=1) (m:=34) rfl (cl1 (n:=1) (m:=33) rfl (cl1 (n:=1) (m:=32) rfl (cl1 (n:=32) (m:=0) (Flat.len _) cl0)))))) fun a hE=>Zm (cs:=cat [[q8_4_0_1],[vI r17.1.Next],[q8_4_0_2],[q8_4_0_3],enc r17.1.Head]) hE (Zw hE rfl (lkb rfl hb91)) (by decide) rfl Yx rfl (hM.rawAt (pre:=[_,_,_,_,_,_,_,_])) (Zh (cl1 (n:=1) (m:=35) rfl (cl1 (n:=1) (m:=34) rfl (cl1 (n:=1) (m:=33) rfl (cl1 (n:=1) (m:=32) rfl (cl1 (n:=32) (m:=0) (Flat.len _) cl0)))))) ?_; intro a hE
          obtain ⟨r93,e94,hl89⟩:=bind_some hl89
          refine Zt hE (Zw hE rfl (lkb rfl hb91)) (by decide) rfl cb17 (TR _ r45.1 q42_3_0_1 (hM.ro (pre:=[_,_,_,_]) noB) q42_3_0_2 (hM.ro (pre:=[_,_,_,_,_]) noB) q42_3_0_3 (hM.ro (pre:=[_,_,_,_,_,_]) noB) r17.1 q8_4_0_1 (hM.ro (pre:=[_,_,_,_,_,_,_,_,_]) noB) q8_4_0_2 (hM.ro (pre:=[_,_,_,_,_,_,_,_,_,_]) noB) q8_4_0_3 (hM.ro (pre:=[_,_,_,_,_,_,_,_,_,_,_]) noB) r93 e94) ?_
          rintro v w a ⟨rfl,hK⟩ hE
          have hM:=hM.keep hK
          refine WJ hE (Zw hE rfl (lkb rfl hb91)) (by decide) rfl fun a hE=>YM hE Za ld (lkb rfl hb91) rfl fun a hE=>Zd hE Za ld rfl ?_; intro a hE
          refine XL (!r93) (fun hb95=>?_) (fun hb95=>?_)
          ·have hl89:=ZA hl89 hb95
           refine Zv hE rfl (lkb rfl hb95) rfl (by decide) fun a hE=>Zv hE rfl (lkb rfl hb95) rfl (by decide) fun a hE=>Zv hE rfl (lkb rfl hb95) rfl (by decide) fun a hE=>Z4 hE Za ld (lkb rfl hb95) rfl fun a hE=>Zj ?_
           have ht96:=Option.some.inj hl89
           subst ht96
           refine Zn ?_
           have hM:=((((hM.pull (pre:=[_,_,_,_,_,_,_,_,_,_,_,_,_])).pull (pre:=[_,_,_,_,_,_,_,_,_,_,_,_,_])).pull (pre:=[_,_,_,_,_,_,_,_,_,_,_,_,_])).pull (pre:=[_,_,_,_,_,_,_,_,_,_,_,_,_])).pull (pre:=[_,_,_,_,_,_,_,_,_,_,_,_,_])
           have hM:=((((hM.pull (pre:=[_,_,_,_,_,_,_,_,_,_,_,_,_])).pull (pre:=[_,_,_,_,_,_,_,_,_,_,_,_])).pull (pre:=[_,_,_,_,_,_,_,_,_,_,_,_])).pull (pre:=[_,_,_,_,_,_,_,_,_,_,_,_])).pull (pre:=[_,_,_,_,_,_,_,_,_,_,_,_])
           have hM:=M.fst (l:=[_,_,_,_,_,_,_,_,_,_]) hM
           exact ⟨hE.sub ⟨rfl,rfl,rfl,rfl,rfl,rfl,trivial⟩,hM⟩
          ·have hl89:=ZB hl89 hb95
           refine Zd hE (Zw hE rfl (lkb rfl hb95)) (by decide) rfl fun a hE=>Zd hE (Zw hE rfl (lkb rfl hb95)) (by decide) rfl fun a hE=>Zi hE (Zw hE rfl (lkb rfl hb95)) (by decide) rfl rfl rfl fun a hE=>YM hE Za ld (lkb rfl hb95) rfl fun a hE=>Zj ?_
           have ht97:=Option.some.inj hl89
           subst ht97
           refine Zn ?_
           have hM:=((((hM.pull (pre:=[_,_,_,_,_,_,_,_,_,_,_,_,_])).pull (pre:=[_,_,_,_,_,_,_,_,_,_,_,_,_])).pull (pre:=[_,_,_,_,_,_,_,_,_,_,_,_,_])).pull (pre:=[_,_,_,_,_,_,_,_,_,_,_,_,_])).pull (pre:=[_,_,_,_,_,_,_,_,_,_,_,_,_])
           have hM:=((((hM.pull (pre:=[_,_,_,_,_,_,_,_,_,_,_,_,_])).pull (pre:=[_,_,_,_,_,_,_,_,_,_,_,_])).pull (pre:=[_,_,_,_,_,_,_,_,_,_,_,_])).pull (pre:=[_,_,_,_,_,_,_,_,_,_,_,_])).pull (pre:=[_,_,_,_,_,_,_,_,_,_,_,_])
           have hM:=M.fst (l:=[_,_,_,_,_,_,_,_,_,_]) hM
           exact ⟨hE.sub ⟨rfl,rfl,rfl,rfl,rfl,rfl,trivial⟩,hM⟩
        ·skip
         rintro a w ⟨hE,hM⟩
         refine Zs hE rfl ?_ ?_
         ·intro hb98
          have hF90:=ZA hF90 hb98
          refine Zc (Ze hE Za ld rfl fun a hE=>Zf ?_)
          have hr:=Option.some.inj hF90
          subst hr
          have hM:=M.fst (l:=[]) hM
          exact wp_ret (Zx (Zy hE rfl (Zu hE rfl) ⟨_,rfl,rfl,hM.kept⟩))
         ·intro hb98
          have hF90:=ZB hF90 hb98
          refine wp_skip (Zz (Zc (Ze hE Za ld rfl fun a hE=>Zf (Zc (Zm (cs:=cat [[q42_3_0_1],[vI r45.1.Next],[q42_3_0_2],[q42_3_0_3],enc r45.1.Head]) hE Za ld rfl Yx rfl (hM.rawAt (pre:=[])) (Zh (cl1 (n:=1) (m:=35) rfl (cl1 (n:=1) (m:=34) rfl (cl1 (n:=1) (m:=33) rfl (cl1 (n:=1) (m:=32) rfl (cl1 (n:=32) (m:=0) (Flat.len _) cl0)))))) fun a hE=>Zd hE Za ld rfl ?_))))); intro a hE
          have hM:=((hM.pull (pre:=[_,_,_])).pull (pre:=[_,_,_])).pull (pre:=[_,_,_])
          obtain ⟨r99,e100,hF90⟩:=bind_some hF90
          refine Zt hE Za ld rfl cb29 (QV _ _ _ _ r45.1 q42_3_0_1 q42_3_0_2 q42_3_0_3 1 hM r99 e100) ?_
          rintro v w a ⟨rfl,hM⟩ hE
          refine Ze hE Za ld rfl fun a hE=>Zf (Zc (Ze hE Za ld rfl fun a hE=>Zf (Zc (Zm (cs:=cat [[q42_3_0_1],[vI r45.1.Next],[q42_3_0_2],[q42_3_0_3],enc r45.1.Head]) hE Za ld rfl Yx rfl (hM.rawAt (pre:=[_,_,_])) (Zh (cl1 (n:=1) (m:=35) rfl (cl1 (n:=1) (m:=34) rfl (cl1 (n:=1) (m:=33) rfl (cl1 (n:=1) (m:=32) rfl (cl1 (n:=32) (m:=0) (Flat.len _) cl0)))))) fun a hE=>Zd hE Za ld rfl ?_)))); intro a hE
          obtain ⟨r101,e102,hF90⟩:=bind_some hF90
          refine Zt hE Za ld rfl cb38 (QO _ (⟨r99.1.Keys,r45.1.Next,r99.1.Records,r99.1.Events,r45.1.Head⟩ : GVault) q42_3_0_1 (hM.ro (pre:=[]) noB) q42_3_0_2 (hM.ro (pre:=[_]) noB) q42_3_0_3 (hM.ro (pre:=[_,_]) noB) 1 r101 e102) ?_
          rintro v w a ⟨rfl,hK⟩ hE
          have hM:=hM.keep hK
          refine Ze hE Za ld rfl fun a hE=>Zf (wp_seq (Zc (Zd hE Za ld rfl fun a hE=>Zi hE Za ld rfl rfl rfl fun a hE=>Zf ?_)))
          refine Zs hE rfl ?_ ?_
          ·intro hb103
           have hF90:=ZA hF90 hb103
           refine Zc (Ze hE Za ld rfl fun a hE=>Zf ?_)
           have hr:=Option.some.inj hF90
           subst hr
           have hM:=M.fst (l:=[]) hM
           exact wp_ret (Zx (Zy hE rfl (Zu hE rfl) ⟨_,rfl,rfl,hM.kept⟩))
          ·intro hb103
           have hF90:=ZB hF90 hb103
           refine wp_skip (Zz (wp_seq (Zc (Zd hE Za ld rfl fun a hE=>Zd hE Za ld rfl fun a hE=>Zi hE Za ld rfl rfl rfl fun a hE=>Zf ?_))))
           refine Zs hE rfl ?_ ?_
           ·intro hb104
            have hF90:=ZA hF90 hb104
            refine Zc (Ze hE Za ld rfl fun a hE=>Zf ?_)
            have hr:=Option.some.inj hF90
            subst hr
            have hM:=M.fst (l:=[]) hM
            exact wp_ret (Zx (Zy hE rfl (Zu hE rfl) ⟨_,rfl,rfl,hM.kept⟩))
           ·intro hb104
            have hF90:=ZB hF90 hb104
            refine wp_skip (Zz (wp_seq ?_))
            obtain ⟨r106,e107,hF90⟩:=bind_some hF90
            obtain ⟨r112,e113,hF90⟩:=bind_some hF90
            obtain ⟨r114,e115,hF90⟩:=bind_some hF90
            refine Ub (n:=104) (hd:=[_,_,_,_,_,_,_,_,_,_]) (tl:=[_]) Y0 rfl rfl [80,81,82,83,84,79,85,86,14,113] (by decide) (fun D u w=>M (Old w0) w0 w ([own NoB (r99.1.Keys : (List (Vector UInt8 16))) [q42_3_0_1],own NoB (r99.1.Records : (List GRecord)) [q42_3_0_2],own NoB (r99.1.Events : (List GEvent)) [q42_3_0_3],raw b55 (cat [[q42_3_0_1],[vI r45.1.Next],[q42_3_0_2],[q42_3_0_3],enc r45.1.Head]),raw b27 (cat [[q8_4_0_1],[vI r17.1.Next],[q8_4_0_2],[q8_4_0_3],enc r17.1.Head]),own NoB (r17.1.Keys : (List (Vector UInt8 16))) [q8_4_0_1],own NoB (r17.1.Records : (List GRecord)) [q8_4_0_2],own NoB (r17.1.Events : (List GEvent)) [q8_4_0_3],raw b3 (enc p1),raw b1 (cat [[v0_1],[vI p0.Next],[v0_2],[v0_3],enc p0.Head])] ++ qL ([mkO 1 (fun v=>own NoB r106 (Value.cells v).toList),mkO 4 (fun v=>own NoB r114.1 (Value.cells (ZN v 0)).toList),mkD 8 9 4 (cat [[(Value.slice none 0 0)],[vI 0],[(Value.slice none 0 0)],[(Value.slice none 0 0)],enc (Vector.replicate 32 (0 : UInt8))]) (fun v=>(Value.cells (ZN v 0)).toList)] : Mk) D u) ∧ GOk ([([],fun us v=>v = (Value.agg (cat [[v0_1],[vI p0.Next],[v0_2],[v0_3],enc p0.Head]).toArray)),([],fun us v=>∃ cs,v = .agg cs),([],fun us v=>v = (Value.agg (enc p1).toArray)),([],fun us v=>v = (Value.agg (enc r112).toArray)),([],fun us v=>v = (Value.tuple [(ZN v 0),vI r114.2].toArray) ∧ ∃ cs,(ZN v 0) = .agg cs),([4],fun us v=>v = (Value.tuple [(ZN (us.getD 0 undef) 0),vI r114.2].toArray)),([4],fun us v=>v = (ZN (us.getD 0 undef) 0)),([],fun us v=>v = (vI r114.2)),([],fun us v=>True),([],fun us v=>True)] : Gs) D u) hE (fun u=>⟨M.qE (M.qE (M.qE (M.q0 hM.drew u) emD) emO) emO,Jg⟩) (ZK (Zb ?_ (Zb ?_ (Zb ?_ (Zb ?_ (Zb ?_ (Zb ?_ (Zb ?_ (Zb ?_ (Zb ?_ (Zb ?_ ZF))))))))))) ?_
            ·intro a w ux105 D hE hI hD hdc hp
             have hM0:=hI.1
             have hM:=hI.1
             exact Zm (cs:=cat [[v0_1],[vI p0.Next],[v0_2],[v0_3],enc p0.Head]) hE Za ld rfl Am rfl (hM.rawAt (pre:=[_,_,_,_,_,_,_,_,_])) (Zh (cl1 (n:=1) (m:=35) rfl (cl1 (n:=1) (m:=34) rfl (cl1 (n:=1) (m:=33) rfl (cl1 (n:=1) (m:=32) rfl (cl1 (n:=32) (m:=0) (Flat.len _) cl0)))))) fun a hE=>⟨_,_,rfl,hE,M.qKeep hM0 rfl,hI.2.put hD rfl ZQ rfl⟩
            ·intro a w ux105 D hE hI hD hdc hp
             have d0 : D 0 = true:=hp 0 _ rfl rfl
             have g0:=hI.2 0 d0 _ rfl
             have f0 : ux105 0 = (Value.agg (cat [[v0_1],[vI p0.Next],[v0_2],[v0_3],enc p0.Head]).toArray):=g0.2
             have hM0:=hI.1
             have hM:=hI.1
             refine Zt hE Za ld (ZV (ZT (lk rfl f0) YZ)) cb14 (TK _ p0 v0_1 (hM.rdo hv0_1) v0_2 (hM.rdo hv0_2) v0_3 (hM.rdo hv0_3) r106 e107) ?_
             rintro _ w a ⟨u108,u109,u110,rfl,hFr,hK⟩ hE
             have hM:=(((hM0.add hK hFr).pull (pre:=[_,_])).pull (pre:=[_,_])).pull (pre:=[_,_])
             have hM:=hM.packL (m:=[osl NoB (r106.Keys : List (Vector UInt8 16)) u108,osl NoB (r106.Records : List GRecord) u109,osl NoB (r106.Events : List GEvent) u110]) (it:=own NoB r106 (cat [[u108],[vI r106.Next],[u109],[u110],enc r106.Head])) (Yc noB) (fun fp h=>by obtain ⟨_,_,rfl,_,s1,_,_,rfl,_,s2,_,_,rfl,_,s3,rfl⟩:=h; exact TT (YG.sat s1) (YG.sat s2) (YG.sat s3) (by simp))
             exact ⟨_,_,rfl,hE,M.qFill (mk1:=[]) (mk2:=[_,_]) (f:=(fun v=>own NoB r106 (Value.cells v).toList)) hM rfl hD,hI.2.put hD rfl ZQ ⟨_,rfl⟩⟩
            ·intro a w ux105 D hE hI hD hdc hp
             have hM0:=hI.1
             have hM:=hI.1
             exact Zm (cs:=enc p1) hE Za ld rfl yu rfl (hM.rawAt (pre:=[_,_,_,_,_,_,_,_])) (Flat.len _) fun a hE=>⟨_,_,rfl,hE,M.qKeep hM0 rfl,hI.2.put hD rfl ZQ rfl⟩
            ·intro a w ux105 D hE hI hD hdc hp
             have d2 : D 2 = true:=hp 0 _ rfl rfl
             have g2:=hI.2 2 d2 _ rfl
             have f2 : ux105 2 = (Value.agg (enc p1).toArray):=g2.2
             have hM0:=hI.1
             refine Zt hE Za ld (ZV (ZT (lk rfl f2) YZ)) cb36 (UN _ p1 r112 e113) ?_
             rintro v w a ⟨rfl,hK⟩ hE
             exact ⟨_,_,rfl,hE,M.qKeep (hM0.keep hK) rfl,hI.2.put hD rfl ZQ rfl⟩
            ·intro a w ux105 D hE hI hD hdc hp
             have d1 : D 1 = true:=hp 0 _ rfl rfl
             have g1:=hI.2 1 d1 _ rfl
             have d3 : D 3 = true:=hp 1 _ rfl rfl
             have g3:=hI.2 3 d3 _ rfl
             have f3 : ux105 3 = (Value.agg (enc r112).toArray):=g3.2
             have hM0:=hI.1
             have hM : M (Old w0) w0 w [own NoB (r99.1.Keys : (List (Vector UInt8 16))) [q42_3_0_1],own NoB (r99.1.Records : (List GRecord)) [q42_3_0_2],own NoB (r99.1.Events : (List GEvent)) [q42_3_0_3],raw b55 (cat [[q42_3_0_1],[vI r45.1.Next],[q42_3_0_2],[q42_3_0_3],enc r45.1.Head]),raw b27 (cat [[q8_4_0_1],[vI r17.1.Next],[q8_4_0_2],[q8_4_0_3],enc r17.1.Head]),own NoB (r17.1.Keys : (List (Vector UInt8 16))) [q8_4_0_1],own NoB (r17.1.Records : (List GRecord)) [q8_4_0_2],own NoB (r17.1.Events : (List GEvent)) [q8_4_0_3],raw b3 (enc p1),raw b1 (cat [[v0_1],[vI p0.Next],[v0_2],[v0_3],enc p0.Head]),opt (D 1) (own NoB r106 (Value.cells (ux105 1)).toList),opt (D 4) (own NoB r114.1 (Value.cells (ZN (ux105 4) 0)).toList),T3 (D 8) (D 9) (ux105 8) (cat [[(Value.slice none 0 0)],[vI 0],[(Value.slice none 0 0)],[(Value.slice none 0 0)],enc (Vector.replicate 32 (0 : UInt8))]) ((Value.cells (ZN (ux105 4) 0)).toList)]:=hI.1
             have hM:=hM.sure (pre:=[_,_,_,_,_,_,_,_,_,_]) d1
             obtain ⟨q105_1_0_1,q105_1_0_2,q105_1_0_3,hcz,hq105_1_0_1,hq105_1_0_2,hq105_1_0_3⟩:=Vc (hM.ro (pre:=[_,_,_,_,_,_,_,_,_,_]) noB)
             obtain ⟨cz,hvz⟩:=(hI.2 1 (by assumption) _ rfl).2
             have qK111 : (ux105 1) = (Value.agg (cat [[q105_1_0_1],[vI r106.Next],[q105_1_0_2],[q105_1_0_3],enc r106.Head]).toArray):=by rw [hvz] at hcz ⊢; exact congrArg Value.agg (W8 hcz)
             refine Zt hE Za ld (ZV (ZT (lk rfl qK111) (ZT (lk rfl f3) YZ))) cb37 (QN _ r106 q105_1_0_1 hq105_1_0_1 q105_1_0_2 hq105_1_0_2 q105_1_0_3 hq105_1_0_3 r112 r114 e115) ?_
             rintro _ w a ⟨u116,u117,u118,rfl,hFr,hK⟩ hE
             have hM:=(((hM0.add hK hFr).pull (pre:=[_,_])).pull (pre:=[_,_])).pull (pre:=[_,_])
             have hM:=hM.packL (m:=[osl NoB (r114.1.Keys : List (Vector UInt8 16)) u116,osl NoB (r114.1.Records : List GRecord) u117,osl NoB (r114.1.Events : List GEvent) u118]) (it:=own NoB r114.1 (cat [[u116],[vI r114.1.Next],[u117],[u118],enc r114.1.Head])) (Yc noB) (fun fp h=>by obtain ⟨_,_,rfl,_,s1,_,_,rfl,_,s2,_,_,rfl,_,s3,rfl⟩:=h; exact TT (YG.sat s1) (YG.sat s2) (YG.sat s3) (by simp))
             have hsD : D 9 = false:=Bool.eq_false_iff.2 fun hx=>Bool.noConfusion (hD.symm.trans (hdc 9 _ _ rfl (List.mem_of_getElem? (i:=2) rfl) rfl hx))
             have hM:=M.dOff (its:=_ :: [own NoB (r99.1.Keys : (List (Vector UInt8 16))) [q42_3_0_1],own NoB (r99.1.Records : (List GRecord)) [q42_3_0_2],own NoB (r99.1.Events : (List GEvent)) [q42_3_0_3],raw b55 (cat [[q42_3_0_1],[vI r45.1.Next],[q42_3_0_2],[q42_3_0_3],enc r45.1.Head]),raw b27 (cat [[q8_4_0_1],[vI r17.1.Next],[q8_4_0_2],[q8_4_0_3],enc r17.1.Head]),own NoB (r17.1.Keys : (List (Vector UInt8 16))) [q8_4_0_1],own NoB (r17.1.Records : (List GRecord)) [q8_4_0_2],own NoB (r17.1.Events : (List GEvent)) [q8_4_0_3],raw b3 (enc p1),raw b1 (cat [[v0_1],[vI p0.Next],[v0_2],[v0_3],enc p0.Head])]) (mk1:=([mkO 1 (fun v=>own NoB r106 (Value.cells v).toList),mkO 4 (fun v=>own NoB r114.1 (Value.cells (ZN v 0)).toList)] : Mk)) (mk2:=([] : Mk)) (i:=8) (s:=9) (k:=4) (z:=cat [[(Value.slice none 0 0)],[vI 0],[(Value.slice none 0 0)],[(Value.slice none 0 0)],enc (Vector.replicate 32 (0 : UInt8))]) (f:=(fun v=>(Value.cells (ZN v 0)).toList)) hM hsD
             exact ⟨_,_,rfl,hE,M.dOn (its:=[own NoB (r99.1.Keys : (List (Vector UInt8 16))) [q42_3_0_1],own NoB (r99.1.Records : (List GRecord)) [q42_3_0_2],own NoB (r99.1.Events : (List GEvent)) [q42_3_0_3],raw b55 (cat [[q42_3_0_1],[vI r45.1.Next],[q42_3_0_2],[q42_3_0_3],enc r45.1.Head]),raw b27 (cat [[q8_4_0_1],[vI r17.1.Next],[q8_4_0_2],[q8_4_0_3],enc r17.1.Head]),own NoB (r17.1.Keys : (List (Vector UInt8 16))) [q8_4_0_1],own NoB (r17.1.Records : (List GRecord)) [q8_4_0_2],own NoB (r17.1.Events : (List GEvent)) [q8_4_0_3],raw b3 (enc p1),raw b1 (cat [[v0_1],[vI p0.Next],[v0_2],[v0_3],enc p0.Head])]) (mk1:=([mkO 1 (fun v=>own NoB r106 (Value.cells v).toList),mkO 4 (fun v=>own NoB r114.1 (Value.cells (ZN v 0)).toList)] : Mk)) (mk2:=([] : Mk)) (i:=8) (s:=9) (k:=4) (z:=cat [[(Value.slice none 0 0)],[vI 0],[(Value.slice none 0 0)],[(Value.slice none 0 0)],enc (Vector.replicate 32 (0 : UInt8))]) (f:=(fun v=>(Value.cells (ZN v 0)).toList)) (M.qFill (its:=[own NoB (r99.1.Keys : (List (Vector UInt8 16))) [q42_3_0_1],own NoB (r99.1.Records : (List GRecord)) [q42_3_0_2],own NoB (r99.1.Events : (List GEvent)) [q42_3_0_3],raw b55 (cat [[q42_3_0_1],[vI r45.1.Next],[q42_3_0_2],[q42_3_0_3],enc r45.1.Head]),raw b27 (cat [[q8_4_0_1],[vI r17.1.Next],[q8_4_0_2],[q8_4_0_3],enc r17.1.Head]),own NoB (r17.1.Keys : (List (Vector UInt8 16))) [q8_4_0_1],own NoB (r17.1.Records : (List GRecord)) [q8_4_0_2],own NoB (r17.1.Events : (List GEvent)) [q8_4_0_3],raw b3 (enc p1),raw b1 (cat [[v0_1],[vI p0.Next],[v0_2],[v0_3],enc p0.Head])]) (mk1:=[_]) (mk2:=[_]) (f:=(fun v=>own NoB r114.1 (Value.cells (ZN v 0)).toList)) hM rfl hD) hsD (by decide),hI.2.put hD rfl ZQ ⟨rfl,⟨_,rfl⟩⟩⟩
            ·intro a w ux105 D hE hI hD hdc hp
             have d4 : D 4 = true:=hp 0 _ rfl rfl
             have g4:=hI.2 4 d4 _ rfl
             have f4 : ux105 4 = (Value.tuple [(ZN (ux105 4) 0),vI r114.2].toArray):=g4.2.1
             have hM0:=hI.1
             exact Zd hE Za ld (lk rfl f4) fun a hE=>⟨_,_,rfl,hE,M.qKeep hM0 rfl,hI.2.put hD rfl (HK d4 ZQ) rfl⟩
            ·intro a w ux105 D hE hI hD hdc hp
             have d5 : D 5 = true:=hp 0 _ rfl rfl
             have g5:=hI.2 5 d5 _ rfl
             have d4 : D 4 = true:=g5.1 4 (show 4 ∈ [4] by decide)
             have f5 : ux105 5 = (Value.tuple [(ZN (ux105 4) 0),vI r114.2].toArray):=g5.2
             have hM0:=hI.1
             exact Uz hE Za ld (lk rfl f5) rfl fun a hE=>⟨_,_,rfl,hE,M.qKeep hM0 rfl,hI.2.put hD rfl (HK d4 ZQ) rfl⟩
            ·intro a w ux105 D hE hI hD hdc hp
             have d5 : D 5 = true:=hp 0 _ rfl rfl
             have g5:=hI.2 5 d5 _ rfl
             have d4 : D 4 = true:=g5.1 4 (show 4 ∈ [4] by decide)
             have f5 : ux105 5 = (Value.tuple [(ZN (ux105 4) 0),vI r114.2].toArray):=g5.2
             have hM0:=hI.1
             exact Uz hE Za ld (lk rfl f5) rfl fun a hE=>⟨_,_,rfl,hE,M.qKeep hM0 rfl,hI.2.put hD rfl ZQ rfl⟩
            ·intro a w ux105 D hE hI hD hdc hp
             have hM0:=hI.1
             have hM:=hI.1
             refine ZE hE hM Za ld Yx ?_; intro b120 w a hM hE
             have hs : D 9 = false:=Bool.eq_false_iff.2 fun hx=>Bool.noConfusion (hD.symm.trans (hdc 9 _ _ rfl (List.mem_of_getElem? (i:=0) rfl) rfl hx))
             exact ⟨_,_,rfl,hE,M.qAllocD (mk1:=[_,_]) (mk2:=[]) hM rfl hD hs (by decide),hI.2.put hD rfl ZQ trivial⟩
            ·intro a w ux105 D hE hI hD hdc hp
             have d8 : D 8 = true:=hp 0 _ rfl rfl
             have d6 : D 6 = true:=hp 1 _ rfl rfl
             have g6:=hI.2 6 d6 _ rfl
             have d4 : D 4 = true:=g6.1 4 (show 4 ∈ [4] by decide)
             have f6 : ux105 6 = (ZN (ux105 4) 0):=g6.2
             have hM0:=hI.1
             have hM : M (Old w0) w0 w [own NoB (r99.1.Keys : (List (Vector UInt8 16))) [q42_3_0_1],own NoB (r99.1.Records : (List GRecord)) [q42_3_0_2],own NoB (r99.1.Events : (List GEvent)) [q42_3_0_3],raw b55 (cat [[q42_3_0_1],[vI r45.1.Next],[q42_3_0_2],[q42_3_0_3],enc r45.1.Head]),raw b27 (cat [[q8_4_0_1],[vI r17.1.Next],[q8_4_0_2],[q8_4_0_3],enc r17.1.Head]),own NoB (r17.1.Keys : (List (Vector UInt8 16))) [q8_4_0_1],own NoB (r17.1.Records : (List GRecord)) [q8_4_0_2],own NoB (r17.1.Events : (List GEvent)) [q8_4_0_3],raw b3 (enc p1),raw b1 (cat [[v0_1],[vI p0.Next],[v0_2],[v0_3],enc p0.Head]),opt (D 1) (own NoB r106 (Value.cells (ux105 1)).toList),opt (D 4) (own NoB r114.1 (Value.cells (ZN (ux105 4) 0)).toList),T3 (D 8) (D 9) (ux105 8) (cat [[(Value.slice none 0 0)],[vI 0],[(Value.slice none 0 0)],[(Value.slice none 0 0)],enc (Vector.replicate 32 (0 : UInt8))]) ((Value.cells (ZN (ux105 4) 0)).toList)]:=hI.1
             have hM:=hM.sure (pre:=[_,_,_,_,_,_,_,_,_,_,_]) d4
             obtain ⟨q105_4_0_1,q105_4_0_2,q105_4_0_3,hcz,hq105_4_0_1,hq105_4_0_2,hq105_4_0_3⟩:=Vc (hM.ro (pre:=[_,_,_,_,_,_,_,_,_,_,_]) noB)
             obtain ⟨cz,hvz⟩:=(hI.2 4 (by assumption) _ rfl).2.2
             have qK119 : (ZN (ux105 4) 0) = (Value.agg (cat [[q105_4_0_1],[vI r114.1.Next],[q105_4_0_2],[q105_4_0_3],enc r114.1.Head]).toArray):=by rw [hvz] at hcz ⊢; exact congrArg Value.agg (W8 hcz)
             obtain ⟨b122,hb123,hM⟩:=M.openCell (pre:=[_,_,_,_,_,_,_,_,_,_,_,_]) hM d8
             rw [hD,if_neg (by decide)] at hM
             refine Zo (seg:=cat [[q105_4_0_1],[vI r114.1.Next],[q105_4_0_2],[q105_4_0_3],enc r114.1.Head]) (cs':=cat [[q105_4_0_1],[vI r114.1.Next],[q105_4_0_2],[q105_4_0_3],enc r114.1.Head]) hE hM Za (lk rfl hb123) (lk rfl (f6.trans qK119)) rfl Yx (Zh (cl1 (n:=1) (m:=35) rfl (cl1 (n:=1) (m:=34) rfl (cl1 (n:=1) (m:=33) rfl (cl1 (n:=1) (m:=32) rfl (cl1 (n:=32) (m:=0) (Flat.len _) cl0)))))) (Nat.le_of_eq ((Nat.zero_add _).trans (Eq.trans (Zh (cl1 (n:=1) (m:=35) rfl (cl1 (n:=1) (m:=34) rfl (cl1 (n:=1) (m:=33) rfl (cl1 (n:=1) (m:=32) rfl (cl1 (n:=32) (m:=0) (Flat.len _) cl0)))))) (Eq.symm (Zh (cl1 (n:=1) (m:=35) rfl (cl1 (n:=1) (m:=34) rfl (cl1 (n:=1) (m:=33) rfl (cl1 (n:=1) (m:=32) rfl (cl1 (n:=32) (m:=0) (Flat.len _) cl0)))))))))) (Z5 (cc1 (Rep.cell hq105_4_0_1) (cc1 (Flat.cell (r114.1.Next : Int)) (cc1 (Rep.cell hq105_4_0_2) (cc1 (Rep.cell hq105_4_0_3) (cc1 (Flat.cell _) cc0)))))) (Zl (Eq.trans (Zh (cl1 (n:=1) (m:=35) rfl (cl1 (n:=1) (m:=34) rfl (cl1 (n:=1) (m:=33) rfl (cl1 (n:=1) (m:=32) rfl (cl1 (n:=32) (m:=0) (Flat.len _) cl0)))))) (Eq.symm (Zh (cl1 (n:=1) (m:=35) rfl (cl1 (n:=1) (m:=34) rfl (cl1 (n:=1) (m:=33) rfl (cl1 (n:=1) (m:=32) rfl (cl1 (n:=32) (m:=0) (Flat.len _) cl0))))))))) ?_; intro w a hM hE
             have hM:=(M.recell hM (show _ = (Value.cells (ZN (ux105 4) 0)).toList from by rw [qK119]; rfl)).unsure (pre:=[_,_,_,_,_,_,_,_,_,_,_,_]) d4
             exact ⟨undef,_,rfl,Env.dummy hE (by decide),M.qStoreD (its:=[own NoB (r99.1.Keys : (List (Vector UInt8 16))) [q42_3_0_1],own NoB (r99.1.Records : (List GRecord)) [q42_3_0_2],own NoB (r99.1.Events : (List GEvent)) [q42_3_0_3],raw b55 (cat [[q42_3_0_1],[vI r45.1.Next],[q42_3_0_2],[q42_3_0_3],enc r45.1.Head]),raw b27 (cat [[q8_4_0_1],[vI r17.1.Next],[q8_4_0_2],[q8_4_0_3],enc r17.1.Head]),own NoB (r17.1.Keys : (List (Vector UInt8 16))) [q8_4_0_1],own NoB (r17.1.Records : (List GRecord)) [q8_4_0_2],own NoB (r17.1.Events : (List GEvent)) [q8_4_0_3],raw b3 (enc p1),raw b1 (cat [[v0_1],[vI p0.Next],[v0_2],[v0_3],enc p0.Head])]) (mk1:=[_,_]) (mk2:=[]) (i:=8) (s:=9) (k:=4) (z:=cat [[(Value.slice none 0 0)],[vI 0],[(Value.slice none 0 0)],[(Value.slice none 0 0)],enc (Vector.replicate 32 (0 : UInt8))]) (f:=(fun v=>(Value.cells (ZN v 0)).toList)) hM rfl d8 hb123 (by decide) (by decide),hI.2.put hD rfl ZQ trivial⟩
            ·intro a w ux105 D hE hI hall
             have hM : M (Old w0) w0 w [own NoB (r99.1.Keys : (List (Vector UInt8 16))) [q42_3_0_1],own NoB (r99.1.Records : (List GRecord)) [q42_3_0_2],own NoB (r99.1.Events : (List GEvent)) [q42_3_0_3],raw b55 (cat [[q42_3_0_1],[vI r45.1.Next],[q42_3_0_2],[q42_3_0_3],enc r45.1.Head]),raw b27 (cat [[q8_4_0_1],[vI r17.1.Next],[q8_4_0_2],[q8_4_0_3],enc r17.1.Head]),own NoB (r17.1.Keys : (List (Vector UInt8 16))) [q8_4_0_1],own NoB (r17.1.Records : (List GRecord)) [q8_4_0_2],own NoB (r17.1.Events : (List GEvent)) [q8_4_0_3],raw b3 (enc p1),raw b1 (cat [[v0_1],[vI p0.Next],[v0_2],[v0_3],enc p0.Head]),opt (D 1) (own NoB r106 (Value.cells (ux105 1)).toList),opt (D 4) (own NoB r114.1 (Value.cells (ZN (ux105 4) 0)).toList),T3 (D 8) (D 9) (ux105 8) (cat [[(Value.slice none 0 0)],[vI 0],[(Value.slice none 0 0)],[(Value.slice none 0 0)],enc (Vector.replicate 32 (0 : UInt8))]) ((Value.cells (ZN (ux105 4) 0)).toList)]:=hI.1
             have d0 : D 0 = true:=hall 0 (by decide)
             have d1 : D 1 = true:=hall 1 (by decide)
             have d2 : D 2 = true:=hall 2 (by decide)
             have d3 : D 3 = true:=hall 3 (by decide)
             have d4 : D 4 = true:=hall 4 (by decide)
             have d5 : D 5 = true:=hall 5 (by decide)
             have d6 : D 6 = true:=hall 6 (by decide)
             have d7 : D 7 = true:=hall 7 (by decide)
             have d8 : D 8 = true:=hall 8 (by decide)
             have d9 : D 9 = true:=hall 9 (by decide)
             have f0 : ux105 0 = (Value.agg (cat [[v0_1],[vI p0.Next],[v0_2],[v0_3],enc p0.Head]).toArray):=(hI.2 0 d0 _ rfl).2
             have f2 : ux105 2 = (Value.agg (enc p1).toArray):=(hI.2 2 d2 _ rfl).2
             have f3 : ux105 3 = (Value.agg (enc r112).toArray):=(hI.2 3 d3 _ rfl).2
             have f4 : ux105 4 = (Value.tuple [(ZN (ux105 4) 0),vI r114.2].toArray):=(hI.2 4 d4 _ rfl).2.1
             have f5 : ux105 5 = (Value.tuple [(ZN (ux105 4) 0),vI r114.2].toArray):=(hI.2 5 d5 _ rfl).2
             have f6 : ux105 6 = (ZN (ux105 4) 0):=(hI.2 6 d6 _ rfl).2
             have f7 : ux105 7 = (vI r114.2):=(hI.2 7 d7 _ rfl).2
             have hM:=(hM.sure (pre:=[_,_,_,_,_,_,_,_,_,_]) d1).sure (pre:=[_,_,_,_,_,_,_,_,_,_,_]) d4
             obtain ⟨b124,f125,hM⟩:=M.openCell (pre:=[_,_,_,_,_,_,_,_,_,_,_,_]) hM d8
             rw [if_pos d9] at hM
             obtain ⟨q105_1_0_1,q105_1_0_2,q105_1_0_3,hcz,_,_,_⟩:=Vc (hM.ro (pre:=[_,_,_,_,_,_,_,_,_,_,_]) noB)
             obtain ⟨cz,hvz⟩:=(hI.2 1 d1 _ rfl).2
             have qK111 : (ux105 1) = (Value.agg (cat [[q105_1_0_1],[vI r106.Next],[q105_1_0_2],[q105_1_0_3],enc r106.Head]).toArray):=by rw [hvz] at hcz ⊢; exact congrArg Value.agg (W8 hcz)
             have hM:=hM.pull (pre:=[_,_,_,_,_,_,_,_,_,_,_])
             rw [qK111] at hM
             have hM:=hM.unpackL (m:=[own NoB (r106.Keys : (List (Vector UInt8 16))) [q105_1_0_1],own NoB (r106.Records : (List GRecord)) [q105_1_0_2],own NoB (r106.Events : (List GEvent)) [q105_1_0_3]]) (fun fp h=>by obtain ⟨_,_,_,rfl,s1,s2,s3⟩:=TX h; exact (YK.cons (Yc noB) s1 (YK.cons (Yc noB) s2 (YK.one (Yc noB) s3))))
             simp only [List.cons_append,List.nil_append] at hM
             obtain ⟨q105_4_0_1,q105_4_0_2,q105_4_0_3,hcz,_,_,_⟩:=Vc (hM.ro (pre:=[_,_,_,_,_,_,_,_,_,_,_,_,_,_]) noB)
             obtain ⟨cz,hvz⟩:=(hI.2 4 d4 _ rfl).2.2
             have qK119 : (ZN (ux105 4) 0) = (Value.agg (cat [[q105_4_0_1],[vI r114.1.Next],[q105_4_0_2],[q105_4_0_3],enc r114.1.Head]).toArray):=by rw [hvz] at hcz ⊢; exact congrArg Value.agg (W8 hcz)
             have hM:=hM.pull (pre:=[_,_,_,_,_,_,_,_,_,_,_,_,_,_])
             rw [qK119] at hM
             have hM:=hM.unpackL (m:=[own NoB (r114.1.Keys : (List (Vector UInt8 16))) [q105_4_0_1],own NoB (r114.1.Records : (List GRecord)) [q105_4_0_2],own NoB (r114.1.Events : (List GEvent)) [q105_4_0_3]]) (fun fp h=>by obtain ⟨_,_,_,rfl,s1,s2,s3⟩:=TX h; exact (YK.cons (Yc noB) s1 (YK.cons (Yc noB) s2 (YK.one (Yc noB) s3))))
             simp only [List.cons_append,List.nil_append] at hM
             have hM:=M.recell (c':=cat [[q105_4_0_1],[vI r114.1.Next],[q105_4_0_2],[q105_4_0_3],enc r114.1.Head]) (hM.pull (pre:=[_,_,_,_,_,_])) rfl
             have hE:=hE.sub (e':=[(81,(Value.agg (cat [[q105_1_0_1],[vI r106.Next],[q105_1_0_2],[q105_1_0_3],enc r106.Head]).toArray)),(85,(Value.agg (cat [[q105_4_0_1],[vI r114.1.Next],[q105_4_0_2],[q105_4_0_3],enc r114.1.Head]).toArray)),(86,vI r114.2),(14,(ptr b124 0)),(6,(ptr b27 0)),(7,vI r17.2),(9,(ptr b55 0)),(12,vI r99.2),(13,vI r101)]) ⟨lk rfl qK111,lk rfl (f6.trans qK119),lk rfl f7,lk rfl f125,rfl,rfl,rfl,rfl,rfl,trivial⟩
             refine Ze hE Za ld rfl fun a hE=>Zj (Zz (wp_seq ?_))
             obtain ⟨j132,hl133,hF134⟩:=bind_some hF90
             refine ZS (fun a w=>Env 104 a [(9,(ptr b55 0)),(12,vI r99.2),(95,vT j132)] ∧ M (Old w0) w0 w [own NoB (r99.1.Keys : (List (Vector UInt8 16))) [q42_3_0_1],own NoB (r99.1.Records : (List GRecord)) [q42_3_0_2],own NoB (r99.1.Events : (List GEvent)) [q42_3_0_3],raw b55 (cat [[q42_3_0_1],[vI r45.1.Next],[q42_3_0_2],[q42_3_0_3],enc r45.1.Head])]) ?_ ?_
             ·skip
              refine wp_region_lit (Zm (cs:=cat [[q105_4_0_1],[vI r114.1.Next],[q105_4_0_2],[q105_4_0_3],enc r114.1.Head]) hE Za ld rfl Yx rfl (hM.rawAt (pre:=[])) (Zh (cl1 (n:=1) (m:=35) rfl (cl1 (n:=1) (m:=34) rfl (cl1 (n:=1) (m:=33) rfl (cl1 (n:=1) (m:=32) rfl (cl1 (n:=32) (m:=0) (Flat.len _) cl0)))))) fun a hE=>Zm (cs:=cat [[q8_4_0_1],[vI r17.1.Next],[q8_4_0_2],[q8_4_0_3],enc r17.1.Head]) hE Za ld rfl Yx rfl (hM.rawAt (pre:=[_,_,_,_,_,_,_,_,_,_,_])) (Zh (cl1 (n:=1) (m:=35) rfl (cl1 (n:=1) (m:=34) rfl (cl1 (n:=1) (m:=33) rfl (cl1 (n:=1) (m:=32) rfl (cl1 (n:=32) (m:=0) (Flat.len _) cl0)))))) ?_); intro a hE
              obtain ⟨r135,e136,hl133⟩:=bind_some hl133
              refine Zt hE Za ld rfl cb17 (TR _ r114.1 q105_4_0_1 (hM.ro (pre:=[_]) noB) q105_4_0_2 (hM.ro (pre:=[_,_]) noB) q105_4_0_3 (hM.ro (pre:=[_,_,_]) noB) r17.1 q8_4_0_1 (hM.ro (pre:=[_,_,_,_,_,_,_,_,_,_,_,_]) noB) q8_4_0_2 (hM.ro (pre:=[_,_,_,_,_,_,_,_,_,_,_,_,_]) noB) q8_4_0_3 (hM.ro (pre:=[_,_,_,_,_,_,_,_,_,_,_,_,_,_]) noB) r135 e136) ?_
              rintro v w a ⟨rfl,hK⟩ hE
              have hM:=hM.keep hK
              refine WJ hE Za ld rfl fun a hE=>Zd hE Za ld rfl ?_; intro a hE
              refine XL (!r135) (fun hb137=>?_) (fun hb137=>?_)
              ·have hl133:=ZA hl133 hb137
               refine Zv hE rfl (lkb rfl hb137) rfl (by decide) fun a hE=>Zv hE rfl (lkb rfl hb137) rfl (by decide) fun a hE=>Zv hE rfl (lkb rfl hb137) rfl (by decide) fun a hE=>Z4 hE Za ld (lkb rfl hb137) rfl fun a hE=>Zj ?_
               have ht138:=Option.some.inj hl133
               subst ht138
               refine Zn ?_
               have hM:=M.fst (l:=[_,_,_,_]) ((((hM.pull (pre:=[_,_,_,_,_,_,_,_,_,_])).pull (pre:=[_,_,_,_,_,_,_,_,_,_])).pull (pre:=[_,_,_,_,_,_,_,_,_,_])).pull (pre:=[_,_,_,_,_,_,_,_,_,_]))
               exact ⟨hE.sub ⟨rfl,rfl,rfl,trivial⟩,hM⟩
              ·have hl133:=ZB hl133 hb137
               refine Zd hE (Zw hE rfl (lkb rfl hb137)) (by decide) rfl fun a hE=>Zd hE (Zw hE rfl (lkb rfl hb137)) (by decide) rfl fun a hE=>Zi hE (Zw hE rfl (lkb rfl hb137)) (by decide) rfl rfl rfl fun a hE=>YM hE Za ld (lkb rfl hb137) rfl fun a hE=>Zj ?_
               have ht139:=Option.some.inj hl133
               subst ht139
               refine Zn ?_
               have hM:=M.fst (l:=[_,_,_,_]) ((((hM.pull (pre:=[_,_,_,_,_,_,_,_,_,_])).pull (pre:=[_,_,_,_,_,_,_,_,_,_])).pull (pre:=[_,_,_,_,_,_,_,_,_,_])).pull (pre:=[_,_,_,_,_,_,_,_,_,_]))
               exact ⟨hE.sub ⟨rfl,rfl,rfl,trivial⟩,hM⟩
             ·skip
              rintro a w ⟨hE,hM⟩
              refine Zs hE rfl ?_ ?_
              ·intro hb140
               have hF134:=ZA hF134 hb140
               refine Zc (Ze hE Za ld rfl fun a hE=>Zf ?_)
               have hr:=Option.some.inj hF134
               subst hr
               have hM:=M.fst (l:=[]) hM
               exact wp_ret (Zx (Zy hE rfl (Zu hE rfl) ⟨_,rfl,rfl,hM.kept⟩))
              ·intro hb140
               have hF134:=ZB hF134 hb140
               refine wp_skip (Zz (Zc (Ze hE Za ld rfl fun a hE=>Zf (Zc (Zm (cs:=cat [[q42_3_0_1],[vI r45.1.Next],[q42_3_0_2],[q42_3_0_3],enc r45.1.Head]) hE Za ld rfl Yx rfl (hM.rawAt (pre:=[_,_,_])) (Zh (cl1 (n:=1) (m:=35) rfl (cl1 (n:=1) (m:=34) rfl (cl1 (n:=1) (m:=33) rfl (cl1 (n:=1) (m:=32) rfl (cl1 (n:=32) (m:=0) (Flat.len _) cl0)))))) fun a hE=>Zd hE Za ld rfl ?_))))); intro a hE
               obtain ⟨r141,e142,hF134⟩:=bind_some hF134
               refine Zt hE Za ld rfl cb38 (QO _ (⟨r99.1.Keys,r45.1.Next,r99.1.Records,r99.1.Events,r45.1.Head⟩ : GVault) q42_3_0_1 (hM.ro (pre:=[]) noB) q42_3_0_2 (hM.ro (pre:=[_]) noB) q42_3_0_3 (hM.ro (pre:=[_,_]) noB) 1 r141 e142) ?_
               rintro v w a ⟨rfl,hK⟩ hE
               have hM:=hM.keep hK
               refine Ze hE Za ld rfl fun a hE=>Zf (wp_seq (Zc (Zd hE Za ld rfl fun a hE=>Zi hE Za ld rfl rfl rfl fun a hE=>Zf ?_)))
               refine Zs hE rfl ?_ ?_
               ·intro hb143
                have hF134:=ZA hF134 hb143
                refine Zc (Ze hE Za ld rfl fun a hE=>Zf ?_)
                have hr:=Option.some.inj hF134
                subst hr
                have hM:=M.fst (l:=[]) hM
                exact wp_ret (Zx (Zy hE rfl (Zu hE rfl) ⟨_,rfl,rfl,hM.kept⟩))
               ·intro hb143
                have hF134:=ZB hF134 hb143
                refine wp_skip (Zz (wp_seq (Zc (Zd hE Za ld rfl fun a hE=>Zd hE Za ld rfl fun a hE=>Zi hE Za ld rfl rfl rfl fun a hE=>Zf ?_))))
                refine Zs hE rfl ?_ ?_
                ·intro hb144
                 have hF134:=ZA hF134 hb144
                 refine Zc (Ze hE Za ld rfl fun a hE=>Zf ?_)
                 have hr:=Option.some.inj hF134
                 subst hr
                 have hM:=M.fst (l:=[]) hM
                 exact wp_ret (Zx (Zy hE rfl (Zu hE rfl) ⟨_,rfl,rfl,hM.kept⟩))
                ·intro hb144
                 have hF134:=ZB hF134 hb144
                 refine wp_skip (Zz (Zc (Ze hE Za ld rfl fun a hE=>Zf ?_)))
                 have hr:=Option.some.inj hF134
                 subst hr
                 have hM:=M.fst (l:=[]) hM
                 exact wp_ret (Zy hE rfl (Zu hE rfl) ⟨_,rfl,rfl,hM.kept⟩)
end

end Go.Proofs.YtifdeoikcebbjaaGreat
